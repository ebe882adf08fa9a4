/-
  RULES BY WHICH SIMP EVALUATES A REGION, and rules of code for a walk.
-/
import Derived.Test.YthbkbjlfghikfaaGreatDoorZ6
set_option linter.unusedVariables false
set_option linter.unusedSimpArgs false
namespace Go.Ab
open Go Go.RowKit
theorem opv_updo {C : Cx} {env : Nat → AV} {dst : Option Tmp} {v : AV} {x : Operand} (h : ∀ d, dst = some d → x ≠ .tmp d) : opv C (updo env dst v) x = opv C env x := by
 cases dst with
 | none => rfl
 | some d =>
  cases x with
  | tmp t =>
   have hne : t ≠ d := fun e => h d rfl (by rw [e])
   simp [opv, updo, upd, hne]
  | _ => rfl
theorem updo_comm (env : Nat → AV) {x y : Option Tmp} (v u : AV) (h : ∀ d, x = some d → y ≠ some d) : updo (updo env x v) y u = updo (updo env y u) x v := by
 cases x with
 | none => rfl
 | some d =>
  cases y with
  | none => rfl
  | some e =>
   have hne : d ≠ e := fun he => h d rfl (he ▸ rfl)
   funext t
   simp only [updo, upd]
   by_cases h1 : t = e <;> by_cases h2 : t = d <;> simp_all
theorem pairs_congr {C : Cx} {env env' : Nat → AV} (ps : Array (Nat × Operand)) (h : ∀ x ∈ (ps.toList.map (·.2)).toArray, opv C env' x = opv C env x) : (ps.toList.map fun p => (p.1, opv C env' p.2)) = (ps.toList.map fun p => (p.1, opv C env p.2)) :=
 List.map_congr_left fun p hp => by rw [h p.2 (by simpa using ⟨p.1, by simpa using hp⟩)]
theorem args_congr {C : Cx} {env env' : Nat → AV} (ags : Array Operand) (h : ∀ x ∈ ags, opv C env' x = opv C env x) : ags.toList.map (opv C env') = ags.toList.map (opv C env) :=
 List.map_congr_left fun x hx => h x (by simpa using hx)
theorem fop_congr {C : Cx} {al : Nat × Nat} {op : Op} {env env' : Nat → AV} {σ : Sto} (h : ∀ x ∈ op.operands, opv C env' x = opv C env x) : fop C al op env' σ = fop C al op env σ := by
 cases op <;> simp only [Op.operands] at h <;> simp only [fop]
 case build t ps => rw [pairs_congr ps h]
 case buildSlice t n ps => rw [pairs_congr ps h]
 case makeFunc fn first captured => rw [args_congr first fun x hx => h x (by simp [hx]), args_congr captured fun x hx => h x (by simp [hx])]
 case call c =>
  have hargs := args_congr c.args fun x hx => h x (by simp [Call.operands, hx])
  rw [hargs]
 case slice t x lo hi mx =>
  have h0 := h x (by simp)
  have h1 : lo.map (opv C env') = lo.map (opv C env) := by cases lo <;> simp_all
  have h2 : hi.map (opv C env') = hi.map (opv C env) := by cases hi <;> simp_all
  have h3 : mx.map (opv C env') = mx.map (opv C env) := by cases mx <;> simp_all
  rw [h0, h1, h2, h3]
 all_goals (first | rfl | (simp_all; done))
theorem eop0_congr {C : Cx} {ty : Option E} {op : Op} {env env' : Nat → AV} {σ : Sto} {nx : Nat} (h : ∀ x ∈ op.operands, opv C env' x = opv C env x) : eop0 C ty op env' σ nx = eop0 C ty op env σ nx := by
 by_cases hs : ∃ t x lo hi mx, op = .slice t x lo hi mx
 ·obtain ⟨t, x, lo, hi, mx, rfl⟩ := hs
  have h0 := h x (by simp [Op.operands])
  have h1 : lo.map (opv C env') = lo.map (opv C env) := by cases lo <;> simp_all [Op.operands]
  have h2 : hi.map (opv C env') = hi.map (opv C env) := by cases hi <;> simp_all [Op.operands]
  cases mx with
  | none => show shrinkT C.P t σ nx (opv C env' x) (lo.map (opv C env')) (hi.map (opv C env')) = shrinkT C.P t σ nx (opv C env x) (lo.map (opv C env)) (hi.map (opv C env)); rw [h0, h1, h2]
  | some k => rfl
 cases op <;> simp only [Op.operands] at h <;> (try simp only [eop0])
 case slice t x lo hi mx => exact absurd ⟨t, x, lo, hi, mx, rfl⟩ hs
 case buildSlice t n ps => rw [pairs_congr ps h]
 case call c =>
  have hargs := args_congr c.args fun x hx => h x (by simp [Call.operands, hx])
  rw [hargs]
 case store T a x => rw [h a (by simp), h x (by simp)]
 case next x b => cases b <;> first | rfl | (simp only [h x (by simp)])
 all_goals (first | rfl | (simp_all; done))
theorem sop_congr {C : Cx} {e : E} {pe : Bool} {op : Op} {env env' : Nat → AV} {σ : Sto} {nx : Nat} (h : ∀ x ∈ op.operands, opv C env' x = opv C env x) : sop C e pe op env' σ nx = sop C e pe op env σ nx := by
 by_cases hs : ∃ t x lo hi mx, op = .slice t x lo hi mx
 ·obtain ⟨t, x, lo, hi, mx, rfl⟩ := hs
  have h0 := h x (by simp [Op.operands])
  have h1 : lo.map (opv C env') = lo.map (opv C env) := by cases lo <;> simp_all [Op.operands]
  have h2 : hi.map (opv C env') = hi.map (opv C env) := by cases hi <;> simp_all [Op.operands]
  cases mx with
  | none => show stkPop C.P t σ nx (opv C env' x) (lo.map (opv C env')) (hi.map (opv C env')) = stkPop C.P t σ nx (opv C env x) (lo.map (opv C env)) (hi.map (opv C env)); rw [h0, h1, h2]
  | some k => rfl
 cases op <;> simp only [Op.operands] at h <;> (try simp only [sop])
 case slice t x lo hi mx => exact absurd ⟨t, x, lo, hi, mx, rfl⟩ hs
 case buildSlice t n ps => rw [pairs_congr ps h]
 case load T a => rw [h a (by simp)]
 case call c =>
  have hargs := args_congr c.args fun x hx => h x (by simp [Call.operands, hx])
  rw [hargs]
theorem eop_congr {C : Cx} {ty : Option E} {op : Op} {env env' : Nat → AV} {σ : Sto} {nx : Nat} (h : ∀ x ∈ op.operands, opv C env' x = opv C env x) : eop C ty op env' σ nx = eop C ty op env σ nx := by
 have h0 := eop0_congr (C := C) (ty := ty) (σ := σ) (nx := nx) h
 have h1 := fun e pe => sop_congr (C := C) (e := e) (pe := pe) (σ := σ) (nx := nx) h
 cases op with
 | buildSlice t len parts => simp only [eop, h0, h1]
 | load T a => simp only [eop, h1]
 | slice t a lo hi mx => simp only [eop, h0, h1]
 | call c => simp only [eop, h0, h1]
 | _ => exact h0
theorem calleeA_congr {C : Cx} {c : Call} {env env' : Nat → AV} (h : ∀ x ∈ c.operands, opv C env' x = opv C env x) : calleeA C c env' = calleeA C c env := by
 have hargs := args_congr c.args fun x hx => h x (by simp [Call.operands, hx])
 unfold calleeA
 rw [hargs]
 cases hc : c.callee with
 | value f => have hf := h f (by simp [Call.operands, hc]); simp only [hf]
 | invoke r m => rfl
 | builtin b => rfl
section
variable {C : Cx} {ops : Array Oper} {H : Hints}
theorem aop_congr {tot : Bool} {al : Nat × Nat} {o : Oper} {K KP : AV → Sto → Nat → Prop} {env env' : Nat → AV} {σ : Sto} {nx : Nat} (h : ∀ x ∈ o.op.operands, opv C env' x = opv C env x) : aop C H tot al o K KP ⟨env', σ, nx⟩ ↔ aop C H tot al o K KP ⟨env, σ, nx⟩ := by
 unfold aop
 split
 ·simp only [fop_congr h]
 ·simp only [eop_congr h]
 ·split
  ·rename_i c hc; rw [calleeA_congr (by rw [hc] at h; exact h)]
  ·rfl
 ·split
  ·rename_i x hx; rw [h x (by rw [hx]; simp [Op.operands])]
  ·rfl
 ·rfl
theorem looks_ops {o : Oper} {dst : Option Tmp} {env : Nat → AV} {v : AV} (h : ∀ d, dst = some d → d ∉ o.looksAt ops) : ∀ x ∈ o.op.operands, opv C (updo env dst v) x = opv C env x :=
 fun x hx => opv_updo fun d hd hxd => h d hd (by
  subst hxd
  exact List.mem_append_left _ (List.mem_filterMap.2 ⟨.tmp d, by simpa using hx, rfl⟩))
theorem wantedA_put {o : Oper} {dst : Option Tmp} {env : Nat → AV} {v : AV} (h : ∀ d, dst = some d → d ∉ o.looksAt ops) : wantedA ops (updo env dst v) o = wantedA ops env o := by
 cases dst with
 | none => rfl
 | some d =>
  unfold wantedA
  cases hg : o.guard with
  | none => rfl
  | some gw =>
   obtain ⟨g, want⟩ := gw
   simp only
   cases ht : (ops[g]?).bind (·.dst) with
   | none => rfl
   | some t =>
    have hne : t ≠ d := fun e => h d rfl (by subst e; simp [Oper.looksAt, hg, ht])
    simp only [updo, upd, if_neg hne]
theorem aop_mono_s {tot : Bool} {al : Nat × Nat} {o : Oper} {K K' KP KP' : AV → Sto → Nat → Prop} {s : St} (h : aop C H tot al o K KP s) (hk : ∀ v σ nx, (kindOf H o = .fn ∨ (kindOf H o = .call ∧ dstIn H.ac o.dst = false) → σ = s.σ) → kindOf H o ≠ .panic → (kindOf H o = .eff → eop C (tyOf H.ty o.dst) o.op s.env s.σ s.nx = some (v, σ, nx)) → K v σ nx → K' v σ nx) (hp : ∀ v σ nx, KP v σ nx → KP' v σ nx) : aop C H tot al o K' KP' s := by
 by_cases hf : kindOf H o = .fn
 ·unfold aop at h ⊢
  rw [hf] at h ⊢
  obtain ⟨v, a, b⟩ := h
  exact ⟨v, a, hk _ _ _ (fun _ => rfl) (by rw [hf]; exact Kind.noConfusion) (fun e => by rw [hf] at e; cases e) b⟩
 ·by_cases hq : kindOf H o = .panic
  ·unfold aop at h ⊢
   rw [hq] at h ⊢
   simp only at h ⊢
   split
   ·rename_i x hx; rw [hx] at h; obtain ⟨t, v, a, b⟩ := h; exact ⟨t, v, a, hp _ _ _ b⟩
   ·rename_i hx
    split at h
    ·rename_i x hx'; exact absurd hx' (hx x)
    ·exact h
  ·by_cases hc : kindOf H o = .call ∧ dstIn H.ac o.dst = false
   ·unfold aop at h ⊢
    rw [hc.1] at h ⊢
    simp only at h ⊢
    split
    ·rename_i c hx
     rw [hx] at h
     obtain ⟨g, args, hcal, Q, hA, k1, k2, hne, hown⟩ := h
     refine ⟨g, args, hcal, Q, hA, fun v σ' nx' hQ => hk v σ' nx' (fun _ => ?_) hq (fun e => by rw [hc.1] at e; cases e) (k1 v σ' nx' hQ), fun v σ' nx' hQ => hp _ _ _ (k2 v σ' nx' hQ), hne, hown⟩
     rcases hown with h1 | ⟨_, Q', _, hiff⟩
     ·rw [hc.2] at h1; cases h1
     ·exact ((hiff _ _ _).1 hQ).2.1
    ·rename_i hx
     split at h
     ·rename_i c hx'; exact absurd hx' (hx c)
     ·exact h
   ·by_cases he : kindOf H o = .eff
    ·unfold aop at h ⊢
     rw [he] at h ⊢
     obtain ⟨v, σ', nx', a, b⟩ := h
     exact ⟨v, σ', nx', a, hk _ _ _ (fun e => e.elim (fun e => absurd e hf) (fun e => absurd e hc)) hq (fun _ => a) b⟩
    ·exact aop_mono h (fun v σ nx => hk v σ nx (fun e => e.elim (fun e => absurd e hf) (fun e => absurd e hc)) hq (fun e => absurd e he)) hp
def stabA (H : Hints) (o : Oper) : Bool :=
 match o.op with
 | .load _ _ => dstIn H.pl o.dst && !dstIn H.cl o.dst
 | _ => true
def stabC (H : Hints) (o : Oper) : Bool :=
 match o.op with
 | .load _ _ => dstIn H.pl o.dst && dstIn H.cl o.dst
 | _ => false
def stkOp (H : Hints) (o : Oper) : Bool :=
 match o.op with
 | .load _ _ => (isSE (tyOf H.ty o.dst)).isSome
 | .buildSlice _ _ _ => (isSE (tyOf H.ty o.dst)).isSome
 | .slice _ _ _ _ _ => (isSE (tyOf H.ty o.dst)).isSome
 | .call _ => (isSE (tyOf H.ty o.dst)).isSome
 | _ => false
def totA (P : Program) (o : Oper) : Bool := o.guard.isNone && match o.op with
 | .move _ | .assign _ | .makeFunc _ _ _ => true
 | .makeInterface t _ => conT P t
 | .alloc T => (zeroCells P T).isSome
 | _ => false
def swapOK (P : Program) (H : Hints) (tot : Bool) (ops : Array Oper) (x y : Oper) : Bool := x.apart ops y && match kindOf H x, kindOf H y with
 | .fn, .fn => true
 | .fn, .eff => stabA H x || (stabC H x && stkOp H y)
 | .fn, .call => stabA H x || !dstIn H.ac y.dst
 | .fn, .panic => true
 | .eff, .fn => stabA H y || (stabC H y && stkOp H x)
 | .call, .fn => (stabA H y || !dstIn H.ac x.dst) && (!tot || totA P y)
 | .panic, .fn => totA P y
 | _, _ => false
def fval (C : Cx) (H : Hints) (al : Nat × Nat) (o : Oper) (env : Nat → AV) (σ : Sto) : Option AV := fop C al o.op env (if dstIn H.pl o.dst = true then celP H o.dst σ else σ)
theorem fval_stab {al : Nat × Nat} {o : Oper} {env : Nat → AV} {σ σ' : Sto} (h : stabA H o = true) : fval C H al o env σ' = fval C H al o env σ := by
 unfold fval stabA at *
 split at h
 ·simp only [Bool.and_eq_true, Bool.not_eq_true'] at h
  unfold celP
  rw [if_pos h.1, if_pos h.1, h.2, if_neg (by decide), if_neg (by decide)]
 ·rename_i hne
  generalize hop : o.op = op at hne
  cases op <;> first | rfl | exact absurd rfl (hne _ _)
def SameC (σ σ' : Sto) : Prop := ∀ p nm T cs, sget σ' p nm = some (.cells T cs) ↔ sget σ p nm = some (.cells T cs)
theorem sget_set {σ : Sto} {p q nm n : Nat} {o : AObj} : sget (σ.set p (n, o)) q nm = if p = q ∧ p < σ.length then (if n = nm then some o else none) else sget σ q nm := by
 unfold sget
 rw [List.getElem?_set]
 by_cases h : p = q
 ·subst h
  by_cases hl : p < σ.length
  ·simp [hl]
  ·rw [if_pos rfl, if_neg hl, if_neg (by simp [hl]), List.getElem?_eq_none (by omega)]
 ·rw [if_neg h, if_neg (by simp [h])]
def noCells : AObj → Bool
 | .cells _ _ => false
 | _ => true
theorem SameC.set {σ : Sto} {p n n' : Nat} {o o' : AObj} (hp : σ[p]? = some (n', o')) (h : noCells o = true) (h' : noCells o' = true) : SameC σ (σ.set p (n, o)) := fun q nm T cs => by
 rw [sget_set]
 split
 ·rename_i hq
  obtain ⟨rfl, hl⟩ := hq
  constructor
  ·intro e
   split at e
   ·cases e; cases h
   ·cases e
  ·intro e
   have := sget_some e
   rw [hp] at this; cases this; cases h'
 ·exact Iff.rfl
theorem SameC.app {σ : Sto} {n : Nat} {o : AObj} (h : noCells o = true) : SameC σ (σ ++ [(n, o)]) := fun q nm T cs => by
 unfold sget
 rcases Nat.lt_trichotomy q σ.length with hq | hq | hq
 ·rw [List.getElem?_append_left hq]
 ·subst hq
  rw [List.getElem?_append_right (Nat.le_refl _), List.getElem?_eq_none (Nat.le_refl _)]
  simp only [Nat.sub_self, List.getElem?_cons_zero]
  constructor
  ·intro e
   split at e
   ·cases e; cases h
   ·cases e
  ·intro e; cases e
 ·rw [List.getElem?_eq_none (by simp; omega), List.getElem?_eq_none (by omega)]
theorem SameC.trans {a b c : Sto} (h : SameC a b) (k : SameC b c) : SameC a c := fun p nm T cs => (k p nm T cs).trans (h p nm T cs)
theorem readA_sameC {P : Program} {T : TypeId} {σ σ' : Sto} (h : SameC σ σ') (a : AV) : readA P T (celS σ') a = readA P T (celS σ) a := by
 have key : ∀ (σ : Sto) p nm T cs, sget (celS σ) p nm = some (.cells T cs) ↔ sget σ p nm = some (.cells T cs) := fun σ p nm T cs => by
  constructor
  ·intro e
   rcases celS_get e with ⟨_, _, h1, h2⟩ | h1
   ·exact h2
   ·cases h1
  ·intro e
   have := sget_some e
   unfold sget celS
   rw [List.getElem?_map, this]
   simp [celO]
 cases a with
 | ref p n off =>
  simp only [readA]
  cases hs : sget (celS σ) p n with
  | none =>
   cases hs' : sget (celS σ') p n with
   | none => rfl
   | some o =>
    rcases celS_get hs' with ⟨T', cs, rfl, h2⟩ | rfl
    ·rw [(key σ p n T' cs).2 ((h p n T' cs).1 h2)] at hs; cases hs
    ·rfl
  | some o =>
   rcases celS_get hs with ⟨T', cs, rfl, h2⟩ | rfl
   ·rw [(key σ' p n T' cs).2 ((h p n T' cs).2 h2)]
   ·cases hs' : sget (celS σ') p n with
    | none => rfl
    | some o =>
     rcases celS_get hs' with ⟨T', cs, rfl, h2⟩ | rfl
     ·rw [(key σ p n T' cs).2 ((h p n T' cs).1 h2)] at hs; cases hs
     ·rfl
 | eref p n i off =>
  have no : ∀ (σ : Sto), (readA P T (celS σ) (.eref p n i off)) = none := fun σ => by
   simp only [readA]
   cases hs : sget (celS σ) p n with
   | none => rfl
   | some o => rcases celS_get hs with ⟨T', cs, rfl, h2⟩ | rfl <;> rfl
  rw [no, no]
 | _ => rfl
theorem sop_sameC {C : Cx} {e : E} {pe : Bool} {op : Op} {env : Nat → AV} {σ σ' : Sto} {nx nx' : Nat} {x : AV} (h : sop C e pe op env σ nx = some (x, σ', nx')) : SameC σ σ' := by
 unfold sop at h
 split at h
 ·unfold stkNew at h
  split at h
  ·split at h
   ·split at h
    ·split at h
     ·split at h
      ·cases h; exact .app rfl
      ·cases h
     ·cases h
    ·cases h
   ·cases h
  ·cases h
 ·unfold stkRd at h
  split at h
  ·split at h
   ·rename_i hs
    split at h
    ·cases h; exact (SameC.set (sget_some hs) rfl rfl).trans (.app rfl)
    ·cases h
   ·cases h
  ·cases h
 ·unfold stkPop at h
  split at h
  ·split at h
   ·rename_i hs
    split at h
    ·cases h; exact .set (sget_some hs) rfl rfl
    ·cases h
   ·cases h
  ·cases h
 ·split at h
  ·unfold stkPush at h
   split at h
   ·split at h
    ·rename_i hs
     split at h
     ·split at h
      ·cases h; exact .set (sget_some hs) rfl rfl
      ·cases h
     ·cases h
    ·rename_i hs
     split at h
     ·rename_i hps _ _
      split at h
      ·rename_i hc
       cases h
       exact (SameC.set hps rfl rfl).trans (.set ((List.getElem?_set_ne hc.2.2.2.2.1).trans (sget_some hs)) rfl rfl)
      ·cases h
     ·cases h
    ·cases h
   ·cases h
  ·cases h
 ·cases h
theorem stkOp_sameC {C : Cx} {H : Hints} {o : Oper} {env : Nat → AV} {σ σ' : Sto} {nx nx' : Nat} {x : AV} (ho : stkOp H o = true) (h : eop C (tyOf H.ty o.dst) o.op env σ nx = some (x, σ', nx')) : SameC σ σ' := by
 unfold stkOp at ho
 split at ho
 all_goals first
  | (rename_i hop
     rw [hop] at h
     obtain ⟨e, he⟩ := Option.isSome_iff_exists.1 ho
     simp only [eop, he] at h
     exact sop_sameC h)
  | cases ho
theorem fval_stabC {al : Nat × Nat} {o : Oper} {env : Nat → AV} {σ σ' : Sto} (h : stabC H o = true) (hs : SameC σ σ') : fval C H al o env σ' = fval C H al o env σ := by
 unfold stabC at h
 split at h
 ·rename_i T a hop
  simp only [Bool.and_eq_true] at h
  unfold fval celP
  rw [if_pos h.1, if_pos h.1, if_pos h.2, if_pos h.2, hop]
  exact readA_sameC hs _
 ·cases h
theorem tot_yields {al : Nat × Nat} {o : Oper} {env : Nat → AV} {σ : Sto} (h : totA C.P o = true) : wantedA ops env o = some true ∧ ∃ u, fval C H al o env σ = some u := by
 unfold totA at h
 simp only [Bool.and_eq_true, Option.isNone_iff_eq_none] at h
 obtain ⟨hg, h⟩ := h
 refine ⟨by unfold wantedA; rw [hg], ?_⟩
 unfold fval
 split at h
 ·rename_i x hx; rw [hx]; exact ⟨_, rfl⟩
 ·rename_i x hx; rw [hx]; exact ⟨_, rfl⟩
 ·rename_i f a b hx; rw [hx]; exact ⟨_, rfl⟩
 ·rename_i t x hx; rw [hx]; simp only [fop]; rw [if_pos h]; exact ⟨_, rfl⟩
 ·rename_i T hx
  rw [hx]
  obtain ⟨z, hz⟩ := Option.isSome_iff_exists.1 h
  simp only [fop, hz]
  exact ⟨_, rfl⟩
 ·cases h
variable {tt : Nat → Bool} {p₀ n₀ : Nat}
theorem aopAt_mono {i : Nat} {K K' : St → Prop} {KP : AV → Sto → Nat → Prop} {s : St} (hk : ∀ s, K s → K' s) (h : aopAt C H tt ops p₀ n₀ i K KP s) : aopAt C H tt ops p₀ n₀ i K' KP s := by
 unfold aopAt at *
 split
 ·rename_i e; rw [e] at h; exact hk _ h
 ·rename_i o e; rw [e] at h; obtain ⟨t, a, b, c⟩ := h; exact ⟨t, a, fun ht => aop_mono (b ht) (fun _ _ _ => hk _) (fun _ _ _ h => h), fun ht => hk _ (c ht)⟩
theorem aop_fn {tot : Bool} {al : Nat × Nat} {o : Oper} {K KP : AV → Sto → Nat → Prop} {s : St} (h : kindOf H o = .fn) : aop C H tot al o K KP s ↔ ∃ v, fval C H al o s.env s.σ = some v ∧ K v s.σ s.nx := by unfold aop fval; rw [h]
theorem aop_eff {tot : Bool} {al : Nat × Nat} {o : Oper} {K KP : AV → Sto → Nat → Prop} {s : St} (h : kindOf H o = .eff) : aop C H tot al o K KP s ↔ ∃ v σ' nx', eop C (tyOf H.ty o.dst) o.op s.env s.σ s.nx = some (v, σ', nx') ∧ K v σ' nx' := by unfold aop; rw [h]
theorem aop_call {tot : Bool} {al : Nat × Nat} {o : Oper} {K KP : AV → Sto → Nat → Prop} {s : St} {c : Call} (h : kindOf H o = .call) (hc : o.op = .call c) : aop C H tot al o K KP s ↔ ∃ g args, calleeA C c s.env = some (g, args) ∧ CallP C (dstIn H.ac o.dst) tot g args s.σ s.nx K KP := by unfold aop; rw [h, hc]
theorem call_op {o : Oper} (h : kindOf H o = .call) : ∃ c, o.op = .call c := by
 unfold kindOf at h
 cases hop : o.op <;> simp only [hop] at h <;> first | exact ⟨_, rfl⟩ | (cases h; done) | (split at h <;> cases h)
theorem panic_op {o : Oper} (h : kindOf H o = .panic) : ∃ x, o.op = .panic x := by
 unfold kindOf at h
 cases hop : o.op <;> simp only [hop] at h <;> first | exact ⟨_, rfl⟩ | (cases h; done) | (split at h <;> cases h)
theorem swapA {i j : Nat} {oi oj : Oper} {K : St → Prop} {KP : AV → Sto → Nat → Prop} {s : St} (hi : ops[i]? = some oi) (hj : ops[j]? = some oj) (hs : swapOK C.P H (tt i) ops oi oj = true)
  (h : aopAt C H tt ops p₀ n₀ i (aopAt C H tt ops p₀ n₀ j K KP) KP s) : aopAt C H tt ops p₀ n₀ j (aopAt C H tt ops p₀ n₀ i K KP) KP s := by
 unfold swapOK at hs
 simp only [Bool.and_eq_true] at hs
 obtain ⟨hap, hkk⟩ := hs
 obtain ⟨q1, q2, q3⟩ := Oper.apart_spec hap
 obtain ⟨env, σ, nx⟩ := s
 simp only [aopAt, hi, hj] at h ⊢
 obtain ⟨ti, wi, h1, h2⟩ := h
 have wi' : ∀ u, wantedA ops (updo env oj.dst u) oi = some ti := fun u => by rw [wantedA_put q3]; exact wi
 have cm : ∀ v u, updo (updo env oj.dst u) oi.dst v = updo (updo env oi.dst v) oj.dst u := fun v u => (updo_comm env v u q2).symm
 have fj : ∀ (al : Nat × Nat) v σ', fval C H al oj (updo env oi.dst v) σ' = fval C H al oj env σ' := fun al v σ' => fop_congr (looks_ops q1)
 have fi : ∀ (al : Nat × Nat) v σ', fval C H al oi (updo env oj.dst v) σ' = fval C H al oi env σ' := fun al v σ' => fop_congr (looks_ops q3)
 cases ti with
 | false =>
  obtain ⟨tj, wj, b1, b2⟩ := h2 rfl
  rw [wantedA_put q1] at wj
  refine ⟨tj, wj, fun ht => ?_, fun ht => ⟨false, wi' _, fun e => (by cases e), fun _ => ?_⟩⟩
  ·have hb := (aop_congr (looks_ops q1)).1 (b1 ht)
   refine aop_mono hb (fun u σ' nx' hK => ⟨false, wi' _, fun e => (by cases e), fun _ => ?_⟩) (fun _ _ _ h => h)
   simp only [cm]; exact hK
  ·simp only [cm]; exact b2 ht
 | true =>
  have h1 := h1 rfl
  cases hki : kindOf H oi with
  | fn =>
   rw [aop_fn hki] at h1
   obtain ⟨v, hv, tj, wj, b1, b2⟩ := h1
   rw [wantedA_put q1] at wj
   refine ⟨tj, wj, fun ht => ?_, fun ht => ⟨true, wi' _, fun _ => (aop_fn hki).2 ⟨v, (fi _ _ _).trans hv, ?_⟩, fun e => (by cases e)⟩⟩
   ·have hb := (aop_congr (looks_ops q1)).1 (b1 ht)
    refine aop_mono_s hb (fun u σ' nx' hσ hnp heo hK => ⟨true, wi' _, fun _ => (aop_fn hki).2 ⟨v, (fi _ _ _).trans ?_, ?_⟩, fun e => (by cases e)⟩) (fun _ _ _ h => h)
    ·cases hkj : kindOf H oj with
     | fn => have := hσ (.inl hkj); simp only at this; subst this; exact hv
     | eff =>
      simp only [hki, hkj, Bool.or_eq_true, Bool.and_eq_true] at hkk
      rcases hkk with hkk | hkk
      ·exact (fval_stab hkk).trans hv
      ·exact (fval_stabC hkk.1 (stkOp_sameC hkk.2 (heo hkj))).trans hv
     | call =>
      simp only [hki, hkj, Bool.or_eq_true, Bool.not_eq_true'] at hkk
      rcases hkk with hkk | hkk
      ·exact (fval_stab hkk).trans hv
      ·have := hσ (.inr ⟨hkj, hkk⟩); simp only at this; subst this; exact hv
     | panic => exact absurd hkj hnp
     | bad => simp only [hki, hkj] at hkk; cases hkk
    ·simp only [cm]; exact hK
   ·simp only [cm]; exact b2 ht
  | eff =>
   cases hkj : kindOf H oj with
   | fn =>
    simp only [hki, hkj] at hkk
    rw [aop_eff hki] at h1
    obtain ⟨v, σ', nx', hv, tj, wj, b1, b2⟩ := h1
    rw [wantedA_put q1] at wj
    have hv' : ∀ u, eop C (tyOf H.ty oi.dst) oi.op (updo env oj.dst u) σ nx = some (v, σ', nx') := fun u => (eop_congr (looks_ops q3)).trans hv
    refine ⟨tj, wj, fun ht => (aop_fn hkj).2 ?_, fun ht => ⟨true, wi' _, fun _ => (aop_eff hki).2 ⟨v, σ', nx', hv' _, ?_⟩, fun e => (by cases e)⟩⟩
    ·obtain ⟨u, hu, hK⟩ := (aop_fn hkj).1 (b1 ht)
     refine ⟨u, ?_, true, wi' _, fun _ => (aop_eff hki).2 ⟨v, σ', nx', hv' _, ?_⟩, fun e => (by cases e)⟩
     ·rw [← hu, fj]
      simp only [Bool.or_eq_true, Bool.and_eq_true] at hkk
      rcases hkk with hkk | hkk
      ·exact (fval_stab hkk).symm
      ·exact (fval_stabC hkk.1 (stkOp_sameC hkk.2 hv)).symm
     ·simp only [cm]; exact hK
    ·simp only [cm]; exact b2 ht
   | _ => simp only [hki, hkj] at hkk; cases hkk
  | call =>
   cases hkj : kindOf H oj with
   | fn =>
    simp only [hki, hkj, Bool.and_eq_true, Bool.or_eq_true, Bool.not_eq_true'] at hkk
    obtain ⟨hst', htot⟩ := hkk
    obtain ⟨c, hc⟩ := call_op hki
    rw [aop_call hki hc] at h1
    obtain ⟨g, args, hcal, Qc, hAC, k1, k2, hne, hown⟩ := h1
    have hst : ∀ {al : Nat × Nat} {σ' : Sto} {nx' : Nat} {o : AOut}, Qc o σ' nx' → fval C H al oj env σ' = fval C H al oj env σ := by
     intro al σ' nx' o hQ
     rcases hst' with h | h
     ·exact fval_stab h
     ·rcases hown with h1 | ⟨_, Q', _, hiff⟩
      ·rw [h] at h1; cases h1
      ·rw [((hiff _ _ _).1 hQ).2.1]
    have hcal' : ∀ u, calleeA C c (updo env oj.dst u) = some (g, args) := fun u => (calleeA_congr (by have := looks_ops (C := C) (env := env) (v := u) q3; rw [hc] at this; exact this)).trans hcal
    have key : ∃ tj, wantedA ops env oj = some tj ∧ (tj = true → ∃ u, fval C H (p₀ + rk ops.toList j, n₀ + rk ops.toList j) oj env σ = some u) := by
     rcases hne with ht | ⟨v0, σ0, nx0, hq⟩
     ·simp only [ht] at htot
      replace htot : totA C.P oj = true := htot.elim (fun h => by cases h) id
      obtain ⟨a, b⟩ := tot_yields (C := C) (H := H) (ops := ops) (al := (p₀ + rk ops.toList j, n₀ + rk ops.toList j)) (env := env) (σ := σ) htot
      exact ⟨true, a, fun _ => b⟩
     ·obtain ⟨tj, wj, b1, b2⟩ := k1 _ _ _ hq
      rw [wantedA_put q1] at wj
      refine ⟨tj, wj, fun ht => ?_⟩
      obtain ⟨u, hu, _⟩ := (aop_fn hkj).1 (b1 ht)
      exact ⟨u, by rw [← hu, fj]; exact (hst hq).symm⟩
    obtain ⟨tj, wj, hval⟩ := key
    refine ⟨tj, wj, fun ht => (aop_fn hkj).2 ?_, fun ht => ⟨true, wi' _, fun _ => (aop_call hki hc).2 ⟨g, args, hcal' _, Qc, hAC, fun v σ' nx' hq => ?_, k2, hne, hown⟩, fun e => (by cases e)⟩⟩
    ·obtain ⟨u, hu⟩ := hval ht
     refine ⟨u, hu, true, wi' _, fun _ => (aop_call hki hc).2 ⟨g, args, hcal' _, Qc, hAC, fun v σ' nx' hq => ?_, k2, hne, hown⟩, fun e => (by cases e)⟩
     obtain ⟨tj', wj', b1, b2⟩ := k1 _ _ _ hq
     rw [wantedA_put q1, wj] at wj'
     cases wj'
     obtain ⟨u', hu', hK⟩ := (aop_fn hkj).1 (b1 ht)
     rw [fj, hst hq, hu] at hu'
     cases hu'
     simp only [cm]; exact hK
    ·obtain ⟨tj', wj', b1, b2⟩ := k1 _ _ _ hq
     rw [wantedA_put q1, wj] at wj'
     cases wj'
     simp only [cm]; exact b2 ht
   | _ => simp only [hki, hkj] at hkk; cases hkk
  | panic =>
   cases hkj : kindOf H oj with
   | fn =>
    simp only [hki, hkj] at hkk
    obtain ⟨x, hx⟩ := panic_op hki
    obtain ⟨wj, u, hu⟩ := tot_yields (C := C) (H := H) (ops := ops) (al := (p₀ + rk ops.toList j, n₀ + rk ops.toList j)) (env := env) (σ := σ) hkk
    refine ⟨true, wj, fun _ => (aop_fn hkj).2 ⟨u, hu, true, wi' _, fun _ => ?_, fun e => (by cases e)⟩, fun e => (by cases e)⟩
    rw [aop_congr (looks_ops q3)]
    unfold aop at h1 ⊢
    rw [hki, hx] at h1 ⊢
    exact h1
   | _ => simp only [hki, hkj] at hkk; cases hkk
  | bad => simp only [hki] at hkk; cases hkk
def aAny (C : Cx) (H : Hints) (tt : Nat → Bool) (ops : Array Oper) (p₀ n₀ : Nat) (K : St → Prop) (KP : AV → Sto → Nat → Prop) : Nat → Array Bool → St → Prop
 | 0, listed, s => Region.ready .any ops listed = [] ∧ K s
 | fuel + 1, listed, s => (Region.ready .any ops listed = [] → K s) ∧ ∀ i ∈ Region.ready .any ops listed, aopAt C H tt ops p₀ n₀ i (aAny C H tt ops p₀ n₀ K KP fuel (listed.setIfInBounds i true)) KP s
def Closed (ops : Array Oper) (listed : Array Bool) : Prop := ∀ j o, ops[j]? = some o → listed.getD j true = true → ∀ e ∈ o.after, Region.binds .any e = true → listed.getD e.on false = true
theorem Closed.ready {listed : Array Bool} {i : Nat} (h : Closed ops listed) (hi : i ∈ Region.ready .any ops listed) : Closed ops (listed.setIfInBounds i true) := by
 intro j o ho hl e he hb
 by_cases hij : i = j
 ·subst hij
  obtain ⟨_, o', ho', hall⟩ := mem_ready.1 hi
  rw [ho] at ho'; cases ho'
  exact getD_set_true (hall e he hb)
 ·rw [getD_set_ne true hij] at hl
  exact getD_set_true (h j o ho hl e he hb)
def waitsOK (ops : Array Oper) (ms : List Nat) : Bool := (List.range ops.size).all fun j => match ops[j]? with
 | some o => (List.range j).all fun b => !(ms.getD j 0).testBit b || o.after.any fun e => Region.binds .any e && (e.on == b || (decide (e.on < j) && decide (b < e.on) && (ms.getD e.on 0).testBit b))
 | none => true
theorem waits_spec {ms : List Nat} (hw : waitsOK ops ms = true) {listed : Array Bool} (hc : Closed ops listed) : ∀ (j : Nat) (o : Oper), ops[j]? = some o → (∀ e ∈ o.after, Region.binds .any e = true → listed.getD e.on false = true) → ∀ b, b < j → (ms.getD j 0).testBit b = true → listed.getD b false = true := by
 intro j
 induction j using Nat.strongRecOn with
 | _ j ih =>
  intro o ho hall b hb hbit
  have hlt : j < ops.size := (Array.getElem?_eq_some_iff.1 ho).1
  have h1 := List.all_eq_true.1 hw j (List.mem_range.2 hlt)
  rw [ho] at h1
  simp only at h1
  have h2 := List.all_eq_true.1 h1 b (List.mem_range.2 hb)
  rw [hbit] at h2
  simp only [Bool.not_true, Bool.false_or, Array.any_eq_true'] at h2
  obtain ⟨e, he, h3⟩ := h2
  simp only [Bool.and_eq_true, Bool.or_eq_true, beq_iff_eq, decide_eq_true_eq] at h3
  obtain ⟨hbi, h4⟩ := h3
  have hl := hall e he hbi
  rcases h4 with rfl | ⟨⟨hlt', hbe⟩, hbit'⟩
  ·exact hl
  ·have hon : e.on < ops.size := Nat.lt_trans hlt' hlt
   have ho' : ops[e.on]? = some ops[e.on] := Array.getElem?_eq_getElem hon
   refine ih e.on hlt' _ ho' (fun e' he' hb' => hc e.on _ ho' ?_ e' he' hb') b hbe hbit'
   rw [Array.getD_eq_getD_getElem?] at hl ⊢
   cases hq : listed[e.on]? with
   | none => rfl
   | some q => rw [hq] at hl; exact hl
def drawOK (P : Program) (H : Hints) (tt : Nat → Bool) (ops : Array Oper) (ms : List Nat) : Bool := waitsOK ops ms && (List.range ops.size).all fun j => match ops[j]? with
 | some oj => oj.after.all (fun e => !Region.binds .any e || decide (e.on < j)) && (List.range j).all fun i => (ms.getD j 0).testBit i || match ops[i]? with
  | some oi => swapOK P H (tt i) ops oi oj
  | none => true
 | none => true
theorem nodup_bound : ∀ (r k : Nat) (L : List Nat), L.Nodup → (∀ x ∈ L, k ≤ x ∧ x < k + r) → L.length ≤ r
 | 0, k, L, _, h => by
  cases L with
  | nil => simp
  | cons x _ => have := h x (by simp); omega
 | r + 1, k, L, hn, h => by
  by_cases hm : k + r ∈ L
  ·have h1 := nodup_bound r k (L.erase (k + r)) (hn.erase _) (fun x hx => by
    have h2 := h x (List.mem_of_mem_erase hx)
    have h3 : x ≠ k + r := (hn.mem_erase_iff.1 hx).1
    omega)
   rw [List.length_erase_of_mem hm] at h1
   omega
  ·have h1 := nodup_bound r k L hn (fun x hx => by
    have h2 := h x hx
    have h3 : x ≠ k + r := fun e => hm (e ▸ hx)
    omega)
   omega
theorem aAny_first {K : St → Prop} {KP : AV → Sto → Nat → Prop} {i : Nat} {oi : Oper} (hi : ops[i]? = some oi) : ∀ (fuel : Nat) (listed : Array Bool) (s : St),
  (∀ (l' : Array Bool) j oj, Closed ops l' → (∀ k, listed.getD k true = true → l'.getD k true = true) → ops[j]? = some oj → j ≠ i → l'.getD i true = false → j ∈ Region.ready .any ops l' → swapOK C.P H (tt i) ops oi oj = true) →
  (∀ L : List Nat, L.Nodup → (∀ j ∈ L, listed.getD j true = false) → L.length ≤ fuel + 1) →
  Closed ops listed → i ∈ Region.ready .any ops listed → aopAt C H tt ops p₀ n₀ i (aAny C H tt ops p₀ n₀ K KP fuel (listed.setIfInBounds i true)) KP s → aAny C H tt ops p₀ n₀ K KP (fuel + 1) listed s := by
 intro fuel
 induction fuel with
 | zero =>
  intro listed s hsw hfu hc hr h
  refine ⟨fun e => (by rw [e] at hr; cases hr), fun j hj => ?_⟩
  by_cases hji : j = i
  ·subst hji; exact h
  ·have := hfu [i, j] (by simp [Ne.symm hji]) (fun k hk => by
    simp only [List.mem_cons, List.mem_nil_iff, or_false] at hk
    rcases hk with rfl | rfl
    ·exact (mem_ready.1 hr).1
    ·exact (mem_ready.1 hj).1)
   simp at this
 | succ fuel ih =>
  intro listed s hsw hfu hc hr h
  refine ⟨fun e => (by rw [e] at hr; cases hr), fun j hj => ?_⟩
  by_cases hji : j = i
  ·subst hji; exact h
  ·obtain ⟨_, oj, hoj, _⟩ := mem_ready.1 hj
   have hs := hsw listed j oj hc (fun _ h => h) hoj hji (mem_ready.1 hr).1 hj
   have h1 := swapA hi hoj hs (aopAt_mono (fun s' hK => hK.2 j (ready_mono hj hji)) h)
   refine aopAt_mono (fun s' h2 => ?_) h1
   refine ih (listed.setIfInBounds j true) s' (fun l' k ok hc' hsub hk hki hun hrd => hsw l' k ok hc' (fun q hq => hsub q ?_) hk hki hun hrd) (fun L hL hLu => ?_) (hc.ready hj) (ready_mono hr (Ne.symm hji)) ?_
   ·by_cases hjq : j = q
    ·subst hjq
     have hlt : j < ops.size := (Array.getElem?_eq_some_iff.1 hoj).1
     by_cases hb : j < listed.size
     ·simp [hb]
     ·simp [Array.getElem?_eq_none (Nat.le_of_not_lt hb), hb]
    ·rw [getD_set_ne true hjq]; exact hq
   ·have hjL : j ∉ L := fun hm => by
     have := hLu j hm
     by_cases hb : j < listed.size
     ·simp [hb] at this
     ·simp [Array.getElem?_eq_none (Nat.le_of_not_lt hb), hb] at this
    have := hfu (j :: L) (List.nodup_cons.2 ⟨hjL, hL⟩) (fun k hk => by
     rcases List.mem_cons.1 hk with rfl | hk
     ·exact (mem_ready.1 hj).1
     ·have hne : j ≠ k := fun e => hjL (e ▸ hk)
      have := hLu k hk
      rw [getD_set_ne true hne] at this
      exact this)
    simp at this
    omega
   ·rw [Array.setIfInBounds_comm _ _ hji]; exact h2
def firstL (n k : Nat) : Array Bool := Array.ofFn (n := n) fun i => decide (i.val < k)
theorem firstL_getD (n k j : Nat) (d : Bool) : (firstL n k).getD j d = if j < n then decide (j < k) else d := by
 rw [Array.getD_eq_getD_getElem?]
 unfold firstL
 by_cases h : j < n <;> simp [h]
theorem firstL_set (n k : Nat) : (firstL n k).setIfInBounds k true = firstL n (k + 1) := by
 apply Array.ext
 ·simp [firstL]
 ·intro i h1 h2
  have e1 : ((firstL n k).setIfInBounds k true)[i] = ((firstL n k).setIfInBounds k true).getD i false := by simp [Array.getD_eq_getD_getElem?, Array.getElem?_eq_getElem h1]
  have e2 : (firstL n (k + 1))[i] = (firstL n (k + 1)).getD i false := by simp [Array.getD_eq_getD_getElem?, Array.getElem?_eq_getElem h2]
  have hin : i < n := by simpa [firstL] using h2
  rw [e1, e2, firstL_getD, if_pos hin]
  by_cases hk : k = i
  ·subst hk
   have : k < (firstL n k).size := by simpa [firstL] using hin
   simp [Array.getD_eq_getD_getElem?, this]
  ·rw [getD_set_ne false hk, firstL_getD, if_pos hin]
   have : (i < k) = (i < k + 1) := by apply propext; omega
   simp only [this]
theorem aAny_text {K : St → Prop} {KP : AV → Sto → Nat → Prop} {ms : List Nat} (hB : drawOK C.P H tt ops ms = true) : ∀ (r k : Nat) (s : St), k + r = ops.size → aseq C H tt ops p₀ n₀ K KP (List.range' k r) s → aAny C H tt ops p₀ n₀ K KP r (firstL ops.size k) s := by
 unfold drawOK at hB
 rw [Bool.and_eq_true] at hB
 obtain ⟨hw, hB⟩ := hB
 have hpair : ∀ i j oi oj, i < j → ops[i]? = some oi → ops[j]? = some oj → (∀ e ∈ oj.after, Region.binds .any e = true → e.on < j) ∧ ((ms.getD j 0).testBit i = true ∨ swapOK C.P H (tt i) ops oi oj = true) := by
  intro i j oi oj hij ho hoj
  have h1 := List.all_eq_true.1 hB j (List.mem_range.2 (Array.getElem?_eq_some_iff.1 hoj).1)
  simp only [hoj, Bool.and_eq_true] at h1
  have h2 := List.all_eq_true.1 h1.2 i (List.mem_range.2 hij)
  simp only [ho, Bool.or_eq_true] at h2
  refine ⟨fun e he hb => ?_, h2⟩
  have := Array.all_eq_true_iff_forall_mem.1 h1.1 e he
  simpa [hb] using this
 have hback : ∀ j oj, ops[j]? = some oj → ∀ e ∈ oj.after, Region.binds .any e = true → e.on < j := by
  intro j oj hoj e he hb
  have h1 := List.all_eq_true.1 hB j (List.mem_range.2 (Array.getElem?_eq_some_iff.1 hoj).1)
  simp only [hoj, Bool.and_eq_true] at h1
  have := Array.all_eq_true_iff_forall_mem.1 h1.1 e he
  simpa [hb] using this
 intro r
 induction r with
 | zero =>
  intro k s hk h
  refine ⟨?_, h⟩
  cases hr : Region.ready .any ops (firstL ops.size k) with
  | nil => rfl
  | cons j rest =>
   have hj : j ∈ Region.ready .any ops (firstL ops.size k) := by rw [hr]; simp
   obtain ⟨hun, oj, hoj, _⟩ := mem_ready.1 hj
   have hlt := (Array.getElem?_eq_some_iff.1 hoj).1
   rw [firstL_getD, if_pos hlt] at hun
   simp at hun
   omega
 | succ r ih =>
  intro k s hk h
  have hlt : k < ops.size := by omega
  have hok : ops[k]? = some ops[k] := Array.getElem?_eq_getElem hlt
  simp only [List.range'_succ, aseq] at h
  have hcl : Closed ops (firstL ops.size k) := by
   intro j o ho hl e he hb
   have hj := (Array.getElem?_eq_some_iff.1 ho).1
   rw [firstL_getD, if_pos hj] at hl
   have := hback j o ho e he hb
   rw [firstL_getD, if_pos (by omega)]
   simp at hl ⊢
   omega
  have hrd : k ∈ Region.ready .any ops (firstL ops.size k) := by
   refine mem_ready.2 ⟨by rw [firstL_getD, if_pos hlt]; simp, _, hok, fun e he hb => ?_⟩
   have := hback k _ hok e he hb
   rw [firstL_getD, if_pos (by omega)]
   simpa using this
  refine aAny_first hok r _ s (fun l' j oj hc' hsub hoj hjk hun hj => ?_) (fun L hL hLu => nodup_bound (r + 1) k L hL fun x hx => ?_) hcl hrd ?_
  ·have hjs := (Array.getElem?_eq_some_iff.1 hoj).1
   obtain ⟨hjun, oj', hoj', hall⟩ := mem_ready.1 hj
   rw [hoj] at hoj'; cases hoj'
   have hkj : k < j := by
    rcases Nat.lt_or_ge k j with h' | h'
    ·exact h'
    ·have := hsub j (by rw [firstL_getD, if_pos hjs]; simp; omega)
     rw [this] at hjun; cases hjun
   rcases (hpair k j _ oj hkj hok hoj).2 with hbit | hsw
   ·have := waits_spec hw hc' j oj hoj hall k hkj hbit
    rw [Array.getD_eq_getD_getElem?] at this hun
    cases hq : l'[k]? with
    | none => rw [hq] at hun; cases hun
    | some q => rw [hq] at this hun; simp at this hun; rw [this] at hun; cases hun
   ·exact hsw
  ·have := hLu x hx
   rw [firstL_getD] at this
   split at this
   ·simp at this; omega
   ·cases this
  ·rw [firstL_set]
   exact aopAt_mono (fun s' h' => ih (k + 1) s' (by omega) h') h
end
section
variable {C : Cx} {B : Base} {n : Nat} {ds : List Deferred} {kn₀ : Kn} {m₀ : Mp} {σ₀ : Sto} {nx₀ : Nat} {ops : Array Oper} {p₀ n₀ : Nat}
theorem aAny_sound {H : Hints} {tt : Nat → Bool} {K : St → Prop} {KP : AV → Sto → Nat → Prop} (hlt₀ : ∀ (p nm : Nat) (ob : AObj), σ₀[p]? = some (nm, ob) → nm < nx₀)
  (hd : ∀ (i : Nat) (o : Oper) (d : Nat), ops[i]? = some o → o.dst = some d → d < n) {Q : Exit → Act → World → Prop}
  (hend : ∀ s' kn' m' act' w', K s' → RS C B n ds kn₀ m₀ σ₀ nx₀ kn' m' s' act' w' → Q .normal act' w')
  (hpan : ∀ v u env' kn' m' σ' nx' act' w', KP v σ' nx' → Rel kn' m' v u → RS C B n ds kn₀ m₀ σ₀ nx₀ kn' m' ⟨env', σ', nx'⟩ act' w' → Q (.panic [{ v := u, recovered := false }]) act' w') :
  ∀ (fuel : Nat) (listed : Array Bool) (s : St) (kn : Kn) (m : Mp) (act : Act) (w : World), RR C B n ds kn₀ m₀ σ₀ nx₀ ops p₀ n₀ (fun j => listed.getD j true) kn m s act w → aAny C H tt ops p₀ n₀ K KP fuel listed s →
   wpAny C.P .any ops Q fuel listed act w
 | 0, listed, s, kn, m, act, w, hR, h => ⟨h.1, hend s kn m act w h.2 hR.rs⟩
 | fuel + 1, listed, s, kn, m, act, w, hR, h => by
  refine ⟨fun e => hend s kn m act w (h.1 e) hR.rs, fun i hi => ?_⟩
  refine aopAt_sound hlt₀ hd hR (mem_ready.1 hi).1 (h.2 i hi) (fun s' kn' m' act' w' hK hR' => ?_) hpan
  refine aAny_sound hlt₀ hd hend hpan fuel _ s' kn' m' act' w' ?_ hK
  have : lput (fun j => listed.getD j true) i = fun j => (listed.setIfInBounds i true).getD j true := by
   funext j
   unfold lput
   split
   ·rename_i e; subst e
    by_cases hb : j < listed.size
    ·simp [hb]
    ·simp [Array.getElem?_eq_none (Nat.le_of_not_lt hb), hb]
   ·rename_i e; rw [getD_set_ne true (Ne.symm e)]
  rw [← this]
  exact hR'
theorem replicate_firstL (n : Nat) : Array.replicate n false = firstL n 0 := by
 apply Array.ext <;> simp [firstL]
theorem aw_draw {H : Hints} {tl : List Nat} {ms : List Nat} {id : Nat} {ops : Array Oper} {objs : Sto} {Q : AExit → St → Prop} {s : St} (hm : C.P.follows .mixedOrders = true) (hB : drawOK C.P H (fun i => tl.contains i) ops ms = true) (hd : dstOK n ops = true) (ho : allocObjs C.P ops.toList s.nx = some objs)
  (h : areg C H (fun i => tl.contains i) ops (Q .normal) (fun v σ nx => ∀ env, Q (.pan v) ⟨env, σ, nx⟩) ops.toList 0 (s.σ.length, s.nx) ⟨s.env, s.σ ++ objs, s.nx + objs.length⟩) : aw C n ds (.region id ops true) Q s := by
 intro B kn m act w h1 h2 h3
 obtain ⟨hI', hk'⟩ := h3.ahead ho
 refine wp_region_any hm ?_
 have hs := aseq_of_areg (ops := ops) (p₀ := s.σ.length) (n₀ := s.nx) ops.toList 0 ⟨s.env, s.σ ++ objs, s.nx + objs.length⟩ (fun j => by simp) (by simpa [rk] using h)
 have ha := aAny_text hB ops.size 0 _ (by simp) (by simpa using hs)
 rw [replicate_firstL]
 refine aAny_sound (KP := fun v σ nx => ∀ env, Q (.pan v) ⟨env, σ, nx⟩) (K := Q .normal) (B := B) (n := n) (ds := ds) (kn₀ := kn) (m₀ := m) (σ₀ := s.σ) (nx₀ := s.nx) h3.lt (dstOK_sound hd) (fun s' kn' m' act' w' hK hR => ⟨.normal, s', kn', m', trivial, hR, hK⟩)
  (fun v u env' kn' m' σ' nx' act' w' hKP hv hR => ⟨.pan v, ⟨env', σ', nx'⟩, kn', m', ⟨u, rfl, hv⟩, hR, hKP env'⟩) ops.size (firstL ops.size 0) ⟨s.env, s.σ ++ objs, s.nx + objs.length⟩ kn m act _ ⟨⟨h1, h2, hI'.drew, KnLe.refl _, hk'⟩, ?_⟩ ha
 intro j o T hj hT _
 obtain ⟨z, hz, hg⟩ := allocObjs_get ho (j := j) (by simpa using hj) hT
 refine ⟨h3.dom _ (Nat.le_add_right _ _), ?_, Nat.le_add_right _ _, z, hz, ?_⟩
 ·have := (List.getElem?_eq_some_iff.1 hg).1; simp; omega
 ·rw [List.getElem?_append_right (Nat.le_add_right _ _), Nat.add_sub_cancel_left]; exact hg
end
end Go.Ab

namespace Go.Ab
open Go Go.RowKit
def setL (n : Nat) (l : List Nat) : Array Bool := Array.ofFn (n := n) fun i => decide (i.val ∈ l)
theorem setL_getD (n : Nat) (l : List Nat) (j : Nat) (d : Bool) : (setL n l).getD j d = if j < n then decide (j ∈ l) else d := by
 rw [Array.getD_eq_getD_getElem?]
 unfold setL
 by_cases h : j < n <;> simp [h]
theorem setL_set (n : Nat) (l : List Nat) (k : Nat) : (setL n l).setIfInBounds k true = setL n (l ++ [k]) := by
 apply Array.ext
 ·simp [setL]
 ·intro i h1 h2
  have e1 : ((setL n l).setIfInBounds k true)[i] = ((setL n l).setIfInBounds k true).getD i false := by simp [Array.getD_eq_getD_getElem?, Array.getElem?_eq_getElem h1]
  have e2 : (setL n (l ++ [k]))[i] = (setL n (l ++ [k])).getD i false := by simp [Array.getD_eq_getD_getElem?, Array.getElem?_eq_getElem h2]
  have hin : i < n := by simpa [setL] using h2
  rw [e1, e2, setL_getD, if_pos hin]
  by_cases hk : k = i
  ·subst hk
   have : k < (setL n l).size := by simpa [setL] using hin
   simp [Array.getD_eq_getD_getElem?, this]
  ·rw [getD_set_ne false hk, setL_getD, if_pos hin]
   have : (i ∈ l) = (i ∈ l ++ [k]) := by apply propext; simp; exact fun e => absurd e.symm hk
   simp only [this]
theorem setL_nil (n : Nat) : Array.replicate n false = setL n [] := by
 apply Array.ext <;> simp [setL]
def cntA (ops : Array Oper) (l : List Nat) : Nat := (l.filter fun i => match ops[i]? with | some o => isAlloc o.op | none => false).length
def permOK (P : Program) (H : Hints) (tl : List Nat) (ops : Array Oper) (ms : List Nat) (π : List Nat) : Bool :=
 waitsOK ops ms && (decide (π.length = ops.size) && ((List.range ops.size).all (fun i => π.contains i) && (List.range π.length).all fun q => match π[q]? with
  | some j => match ops[j]? with
   | some oj => (!(π.take q).contains j && (oj.after.all fun e => !Region.binds .any e || (π.take q).contains e.on)) && ((!isAlloc oj.op || cntA ops (π.take q) == rk ops.toList j) &&
     (List.range q).all fun p => match π[p]? with
      | some i => (decide (i < j) && (ms.getD j 0).testBit i) || match ops[i]? with
       | some oi => swapOK P H (tl.contains p) ops oi oj
       | none => true
      | none => true)
   | none => false
  | none => true))
theorem sub_bound : ∀ (L A : List Nat), L.Nodup → (∀ x ∈ L, x ∈ A) → L.length ≤ A.length
 | [], A, _, _ => Nat.zero_le _
 | x :: L, A, hn, h => by
  have hx := h x (by simp)
  have := sub_bound L (A.erase x) (List.nodup_cons.1 hn).2 (fun y hy => by
   have hne : y ≠ x := fun e => (List.nodup_cons.1 hn).1 (e ▸ hy)
   exact (List.mem_erase_of_ne hne).2 (h y (by simp [hy])))
  rw [List.length_erase_of_mem hx] at this
  have : 0 < A.length := List.length_pos_of_mem hx
  simp only [List.length_cons]; omega
section
variable {C : Cx} {H : Hints} {ops : Array Oper} {p₀ n₀ : Nat}
structure PermOK (P : Program) (H : Hints) (tl : List Nat) (ops : Array Oper) (ms : List Nat) (π : List Nat) : Prop where
 waits : waitsOK ops ms = true
 len : π.length = ops.size
 all : ∀ i, i < ops.size → i ∈ π
 get : ∀ q j, π[q]? = some j → ∃ oj, ops[j]? = some oj ∧ j ∉ π.take q ∧ (∀ e ∈ oj.after, Region.binds .any e = true → e.on ∈ π.take q) ∧ (isAlloc oj.op = true → cntA ops (π.take q) = rk ops.toList j) ∧
  ∀ p i oi, p < q → π[p]? = some i → ops[i]? = some oi → (i < j ∧ (ms.getD j 0).testBit i = true) ∨ swapOK P H (tl.contains p) ops oi oj = true
theorem permOK_spec {P : Program} {H : Hints} {tl : List Nat} {ops : Array Oper} {ms π : List Nat} (h : permOK P H tl ops ms π = true) : PermOK P H tl ops ms π := by
 unfold permOK at h
 simp only [Bool.and_eq_true, decide_eq_true_eq] at h
 obtain ⟨h1, h2, h3, h4⟩ := h
 refine ⟨h1, h2, fun i hi => ?_, fun q j hq => ?_⟩
 ·have := List.all_eq_true.1 h3 i (List.mem_range.2 hi)
  simpa using this
 ·have hql : q < π.length := (List.getElem?_eq_some_iff.1 hq).1
  have := List.all_eq_true.1 h4 q (List.mem_range.2 hql)
  rw [hq] at this
  simp only at this
  split at this
  ·rename_i oj hoj
   simp only [Bool.and_eq_true] at this
   obtain ⟨⟨a, b⟩, c, d⟩ := this
   refine ⟨oj, hoj, by simpa using a, fun e he hb => ?_, fun ha => ?_, fun p i oi hp hpi hoi => ?_⟩
   ·have := Array.all_eq_true_iff_forall_mem.1 b e he
    simpa [hb] using this
   ·simpa [ha] using c
   ·have := List.all_eq_true.1 d p (List.mem_range.2 hp)
    rw [hpi] at this
    simp only [hoi, Bool.or_eq_true, Bool.and_eq_true, decide_eq_true_eq] at this
    exact this
  ·cases this
theorem aAny_perm {K : St → Prop} {KP : AV → Sto → Nat → Prop} {tl ms π : List Nat} (hB : PermOK C.P H tl ops ms π) : ∀ (r pre : List Nat) (s : St), π = pre ++ r → aseq C H (fun i => tl.contains (π.idxOf i)) ops p₀ n₀ K KP r s → aAny C H (fun i => tl.contains (π.idxOf i)) ops p₀ n₀ K KP r.length (setL ops.size pre) s := by
 intro r
 induction r with
 | nil =>
  intro pre s hp h
  refine ⟨?_, h⟩
  cases hr : Region.ready .any ops (setL ops.size pre) with
  | nil => rfl
  | cons j rest =>
   have hj : j ∈ Region.ready .any ops (setL ops.size pre) := by rw [hr]; simp
   obtain ⟨hun, oj, hoj, _⟩ := mem_ready.1 hj
   have hlt := (Array.getElem?_eq_some_iff.1 hoj).1
   rw [setL_getD, if_pos hlt] at hun
   have := hB.all j hlt
   rw [hp, List.append_nil] at this
   simp [this] at hun
 | cons k r ih =>
  intro pre s hp h
  have hk : π[pre.length]? = some k := by rw [hp]; simp
  obtain ⟨ok, hok, hnk, hek, _, _⟩ := hB.get _ _ hk
  have hlt := (Array.getElem?_eq_some_iff.1 hok).1
  have htk : π.take pre.length = pre := by rw [hp]; simp
  rw [htk] at hnk hek
  simp only [aseq] at h
  have hcl : Closed ops (setL ops.size pre) := by
   intro j o ho hl e he hb
   have hj := (Array.getElem?_eq_some_iff.1 ho).1
   rw [setL_getD, if_pos hj] at hl
   have hjp : j ∈ pre := by simpa using hl
   obtain ⟨q, hq, hqj⟩ := List.mem_iff_getElem.1 hjp
   have hqπ : π[q]? = some j := by rw [hp, List.getElem?_append_left hq, List.getElem?_eq_getElem hq, hqj]
   obtain ⟨oj, hoj, _, hej, _, _⟩ := hB.get _ _ hqπ
   rw [ho] at hoj; cases hoj
   have hm := hej e he hb
   have hm' : e.on ∈ pre := by
    rw [hp, List.take_append_of_le_length (Nat.le_of_lt hq)] at hm
    exact List.mem_of_mem_take hm
   have hin : e.on < ops.size := by
    obtain ⟨q', hq', hqe⟩ := List.mem_iff_getElem.1 hm'
    have hqπ' : π[q']? = some e.on := by rw [hp, List.getElem?_append_left hq', List.getElem?_eq_getElem hq', hqe]
    obtain ⟨oe, hoe, _⟩ := hB.get _ _ hqπ'
    exact (Array.getElem?_eq_some_iff.1 hoe).1
   rw [setL_getD, if_pos hin]; simp [hm']
  have hrd : k ∈ Region.ready .any ops (setL ops.size pre) := by
   refine mem_ready.2 ⟨by rw [setL_getD, if_pos hlt]; simp [hnk], _, hok, fun e he hb => ?_⟩
   have hm' := hek e he hb
   have hin : e.on < ops.size := by
    obtain ⟨q', hq', hqe⟩ := List.mem_iff_getElem.1 hm'
    have hqπ' : π[q']? = some e.on := by rw [hp, List.getElem?_append_left hq', List.getElem?_eq_getElem hq', hqe]
    obtain ⟨oe, hoe, _⟩ := hB.get _ _ hqπ'
    exact (Array.getElem?_eq_some_iff.1 hoe).1
   rw [setL_getD, if_pos hin]; simp [hm']
  have hidx : π.idxOf k = pre.length := by
   rw [hp, List.idxOf_append, if_neg hnk]; simp
  have rest : ∀ j, j < ops.size → j ∉ pre → j ≠ k → j ∈ r := by
   intro j hj hjp hjk
   have := hB.all j hj
   rw [hp] at this
   rcases List.mem_append.1 this with h | h
   ·exact absurd h hjp
   ·rcases List.mem_cons.1 h with h | h
    ·exact absurd h hjk
    ·exact h
  refine aAny_first hok _ _ s (fun l' j oj hc' hsub hoj hjk hun hj => ?_) (fun L hL hLu => ?_) hcl hrd ?_
  ·have hjs := (Array.getElem?_eq_some_iff.1 hoj).1
   obtain ⟨hjun, oj', hoj', hall⟩ := mem_ready.1 hj
   rw [hoj] at hoj'; cases hoj'
   have hjp : j ∉ pre := fun hm => by
    have := hsub j (by rw [setL_getD, if_pos hjs]; simp [hm])
    rw [this] at hjun; cases hjun
   have hjr := rest j hjs hjp hjk
   obtain ⟨q, hq, hqj⟩ := List.mem_iff_getElem.1 hjr
   have hqπ : π[pre.length + (q + 1)]? = some j := by
    rw [hp, List.getElem?_append_right (by omega)]
    simp [hq, hqj]
   obtain ⟨oj', hoj', _, _, _, hpair⟩ := hB.get _ _ hqπ
   rw [hoj] at hoj'; cases hoj'
   rcases hpair pre.length k ok (by omega) hk hok with ⟨hkj, hbit⟩ | hsw
   ·have := waits_spec hB.waits hc' j oj hoj hall k hkj hbit
    rw [Array.getD_eq_getD_getElem?] at this hun
    cases hq : l'[k]? with
    | none => rw [hq] at hun; cases hun
    | some q => rw [hq] at this hun; simp at this hun; rw [this] at hun; cases hun
   ·simp only [hidx]; exact hsw
  ·have := sub_bound L (k :: r) hL (fun x hx => by
    have := hLu x hx
    rw [setL_getD] at this
    split at this
    ·rename_i hxl
     by_cases hxk : x = k
     ·simp [hxk]
     ·have hxp : x ∉ pre := by simpa using this
      simp [rest x hxl hxp hxk]
    ·cases this)
   simpa using this
  ·rw [setL_set]
   exact aopAt_mono (fun s' h' => ih (pre ++ [k]) s' (by rw [hp]; simp) h') h
theorem fop_al {al al' : Nat × Nat} {op : Op} {env : Nat → AV} {σ : Sto} (h : isAlloc op = false) : fop C al op env σ = fop C al' op env σ := by
 cases op <;> first | rfl | (simp [isAlloc] at h)
theorem aop_al {tot : Bool} {al al' : Nat × Nat} {o : Oper} {K KP : AV → Sto → Nat → Prop} {s : St} (h : isAlloc o.op = false) (hh : aop C H tot al o K KP s) : aop C H tot al' o K KP s := by
 unfold aop at hh ⊢
 split
 ·rename_i e; rw [e] at hh; obtain ⟨v, a, b⟩ := hh; exact ⟨v, by rw [fop_al h]; exact a, b⟩
 ·rename_i e; rw [e] at hh; exact hh
 ·rename_i e; rw [e] at hh; exact hh
 ·rename_i e; rw [e] at hh; exact hh
 ·rename_i e; rw [e] at hh; exact hh
theorem cntA_snoc (ops : Array Oper) (l : List Nat) (k : Nat) (o : Oper) (h : ops[k]? = some o) : cntA ops (l ++ [k]) = cntA ops l + (if isAlloc o.op = true then 1 else 0) := by
 unfold cntA
 rw [List.filter_append, List.length_append]
 congr 1
 rw [List.filter_cons, h]
 simp only
 split <;> simp
theorem aseq_of_pareg {K : St → Prop} {KP : AV → Sto → Nat → Prop} {tl ms π : List Nat} (hB : PermOK C.P H tl ops ms π) : ∀ (r pre : List Nat) (s : St), π = pre ++ r →
  areg C H (fun i => tl.contains i) ops K KP (r.filterMap (ops[·]?)) pre.length (p₀ + cntA ops pre, n₀ + cntA ops pre) s → aseq C H (fun i => tl.contains (π.idxOf i)) ops p₀ n₀ K KP r s
 | [], pre, s, hp, h => h
 | k :: r, pre, s, hp, h => by
  have hk : π[pre.length]? = some k := by rw [hp]; simp
  obtain ⟨ok, hok, hnk, _, hal, _⟩ := hB.get _ _ hk
  have htk : π.take pre.length = pre := by rw [hp]; simp
  rw [htk] at hnk hal
  have hidx : π.idxOf k = pre.length := by
   rw [hp, List.idxOf_append, if_neg hnk]; simp
  have hcnt := cntA_snoc ops pre k ok hok
  have hnext : (if isAlloc ok.op = true then (p₀ + cntA ops pre + 1, n₀ + cntA ops pre + 1) else (p₀ + cntA ops pre, n₀ + cntA ops pre)) = (p₀ + cntA ops (pre ++ [k]), n₀ + cntA ops (pre ++ [k])) := by
   rw [hcnt]; split <;> simp [Nat.add_assoc]
  simp only [List.filterMap_cons, hok, areg, hnext] at h
  simp only [aseq, aopAt, hok, hidx]
  obtain ⟨t, a, b, c⟩ := h
  have hlen : pre.length + 1 = (pre ++ [k]).length := by simp
  rw [hlen] at b c
  refine ⟨t, a, fun ht => ?_, fun ht => aseq_of_pareg hB r (pre ++ [k]) _ (by rw [hp]; simp) (c ht)⟩
  have hb := aop_mono (b ht) (fun v σ nx hh => aseq_of_pareg hB r (pre ++ [k]) _ (by rw [hp]; simp) hh) (fun _ _ _ hh => hh)
  by_cases ha : isAlloc ok.op = true
  ·rw [← hal ha]; exact hb
  ·exact aop_al (by simpa using ha) hb
end
section
variable {C : Cx} {n : Nat} {ds : List Deferred} {Q : AExit → St → Prop} {s : St} {id : Nat} {ops : Array Oper} {y : Code} {objs : Sto}
theorem aw_pdraw {H : Hints} {tl ms π : List Nat} {l : List Oper} (hm : C.P.follows .mixedOrders = true) (hB : permOK C.P H tl ops ms π = true) (hd : dstOK n ops = true) (ho : allocObjs C.P ops.toList s.nx = some objs) (hl : π.filterMap (ops[·]?) = l)
  (h : areg C H (fun i => tl.contains i) ops (Q .normal) (fun v σ nx => ∀ env, Q (.pan v) ⟨env, σ, nx⟩) l 0 (s.σ.length, s.nx) ⟨s.env, s.σ ++ objs, s.nx + objs.length⟩) : aw C n ds (.region id ops true) Q s := by
 subst hl
 have hP := permOK_spec hB
 intro B kn m act w h1 h2 h3
 obtain ⟨hI', hk'⟩ := h3.ahead ho
 refine wp_region_any hm ?_
 have hs := aseq_of_pareg (p₀ := s.σ.length) (n₀ := s.nx) hP π [] ⟨s.env, s.σ ++ objs, s.nx + objs.length⟩ rfl h
 have ha := aAny_perm hP π [] _ rfl hs
 rw [hP.len] at ha
 rw [setL_nil]
 refine aAny_sound (KP := fun v σ nx => ∀ env, Q (.pan v) ⟨env, σ, nx⟩) (K := Q .normal) (B := B) (n := n) (ds := ds) (kn₀ := kn) (m₀ := m) (σ₀ := s.σ) (nx₀ := s.nx) h3.lt (dstOK_sound hd) (fun s' kn' m' act' w' hK hR => ⟨.normal, s', kn', m', trivial, hR, hK⟩)
  (fun v u env' kn' m' σ' nx' act' w' hKP hv hR => ⟨.pan v, ⟨env', σ', nx'⟩, kn', m', ⟨u, rfl, hv⟩, hR, hKP env'⟩) ops.size (setL ops.size []) ⟨s.env, s.σ ++ objs, s.nx + objs.length⟩ kn m act _ ⟨⟨h1, h2, hI'.drew, KnLe.refl _, hk'⟩, ?_⟩ ha
 intro j o T hj hT _
 obtain ⟨z, hz, hg⟩ := allocObjs_get ho (j := j) (by simpa using hj) hT
 refine ⟨h3.dom _ (Nat.le_add_right _ _), ?_, Nat.le_add_right _ _, z, hz, ?_⟩
 ·have := (List.getElem?_eq_some_iff.1 hg).1; simp; omega
 ·rw [List.getElem?_append_right (Nat.le_add_right _ _), Nat.add_sub_cancel_left]; exact hg
end
end Go.Ab

namespace Go.Ab
open Go Go.RowKit
inductive Tok {α : Sort _} (a : α) : Type
 | mk : Tok a
def seen (o : Option AV) (K : AV → Prop) (t : Tok K) : Prop := ∃ v, o = some v ∧ K v
def seen3 (o : Option (AV × Sto × Nat)) (K : AV → Sto → Nat → Prop) (t : Tok K) : Prop := ∃ v σ nx, o = some (v, σ, nx) ∧ K v σ nx
@[go_sem] theorem seen_some (v : AV) (K : AV → Prop) (t : Tok K) : seen (some v) K t ↔ K v := by simp [seen]
@[go_sem] theorem seen3_some (v : AV) (σ : Sto) (nx : Nat) (K : AV → Sto → Nat → Prop) (t : Tok K) : seen3 (some (v, σ, nx)) K t ↔ K v σ nx := by
  constructor
  ·rintro ⟨v', σ', nx', h, hk⟩; cases h; exact hk
  ·intro h; exact ⟨v, σ, nx, rfl, h⟩
def callP (C : Cx) (own tot : Bool) (g : FuncId) (args : List AV) (σ : Sto) (nx : Nat) (K KP : AV → Sto → Nat → Prop) (t : Tok K) (t' : Tok KP) : Prop := CallP C own tot g args σ nx K KP
def gsel (o : Option Bool) (A B : Prop) (t : Tok A) (t' : Tok B) : Prop := match o with
 | some true => A
 | some false => B
 | none => False
@[go_sem] theorem gsel_true (A B : Prop) (t : Tok A) (t' : Tok B) : gsel (some true) A B t t' ↔ A := Iff.rfl
@[go_sem] theorem gsel_false (A B : Prop) (t : Tok A) (t' : Tok B) : gsel (some false) A B t t' ↔ B := Iff.rfl
section
variable {C : Cx} {H : Hints} {tt : Nat → Bool} {ops : Array Oper} {K : St → Prop} {KP : AV → Sto → Nat → Prop} {rest : List Oper} {k : Nat} {al : Nat × Nat} {env : Nat → AV} {σ : Sto} {nx : Nat} {d : Option Tmp} {ty : TypeId} {pos : String} {af : Array Edge}
@[go_sem ↓] theorem areg_nil {s : St} : areg C H tt ops K KP [] k al s ↔ K s := Iff.rfl
theorem areg_one {o : Oper} {s : St} (hg : o.guard = none) : areg C H tt ops K KP (o :: rest) k al s ↔ aop C H (tt k) al o (fun v σ nx => areg C H tt ops K KP rest (k + 1) (if isAlloc o.op = true then (al.1 + 1, al.2 + 1) else al) ⟨updo s.env o.dst v, σ, nx⟩) KP s := by
 constructor
 ·rintro ⟨t, h1, h2, h3⟩
  unfold wantedA at h1
  rw [hg] at h1
  simp only [Option.some.injEq] at h1
  exact h2 h1.symm
 ·intro h
  refine ⟨true, by unfold wantedA; rw [hg], fun _ => h, fun e => by cases e⟩
@[go_sem ↓] theorem areg_guard {j : Nat} {w : Bool} {op : Op} {s : St} : areg C H tt ops K KP (⟨d, op, ty, pos, af, some (j, w)⟩ :: rest) k al s ↔
  gsel (wantedA ops s.env ⟨d, op, ty, pos, af, some (j, w)⟩) (areg C H tt ops K KP (⟨d, op, ty, pos, af, none⟩ :: rest) k al s) (areg C H tt ops K KP rest (k + 1) (if isAlloc op = true then (al.1 + 1, al.2 + 1) else al) ⟨updo s.env d .undef, s.σ, s.nx⟩) .mk .mk := by
  rw [areg_one (o := ⟨d, op, ty, pos, af, none⟩) rfl]
  constructor
  ·rintro ⟨t, h1, h2, h3⟩
   rw [h1]
   cases t
   ·exact h3 rfl
   ·exact h2 rfl
  ·intro h
   cases hw : wantedA ops s.env ⟨d, op, ty, pos, af, some (j, w)⟩ with
   | none => rw [hw] at h; exact h.elim
   | some t =>
    rw [hw] at h
    refine ⟨t, hw, fun ht => ?_, fun ht => ?_⟩ <;> subst ht <;> exact h
theorem areg_fn {op : Op} (hk : kindOf H ⟨d, op, ty, pos, af, none⟩ = .fn) (ha : isAlloc op = false) : areg C H tt ops K KP (⟨d, op, ty, pos, af, none⟩ :: rest) k al ⟨env, σ, nx⟩ ↔
  seen (fop C al op env (if dstIn H.pl d = true then celP H d σ else σ)) (fun v => areg C H tt ops K KP rest (k + 1) al ⟨updo env d v, σ, nx⟩) .mk := by
 rw [areg_one rfl, aop_fn hk]
 simp only [ha, Bool.false_eq_true, if_false]
 rfl
theorem areg_eff {op : Op} (hk : kindOf H ⟨d, op, ty, pos, af, none⟩ = .eff) (ha : isAlloc op = false) : areg C H tt ops K KP (⟨d, op, ty, pos, af, none⟩ :: rest) k al ⟨env, σ, nx⟩ ↔
  seen3 (eop C (tyOf H.ty d) op env σ nx) (fun v σ nx => areg C H tt ops K KP rest (k + 1) al ⟨updo env d v, σ, nx⟩) .mk := by
 rw [areg_one rfl, aop_eff hk]
 simp only [ha, Bool.false_eq_true, if_false]
 rfl
@[go_sem ↓] theorem areg_move {x : Operand} : areg C H tt ops K KP (⟨d, .move x, ty, pos, af, none⟩ :: rest) k al ⟨env, σ, nx⟩ ↔ seen (some (opv C env x)) (fun v => areg C H tt ops K KP rest (k + 1) al ⟨updo env d v, σ, nx⟩) .mk := areg_fn rfl rfl
@[go_sem ↓] theorem areg_assign {x : Operand} : areg C H tt ops K KP (⟨d, .assign x, ty, pos, af, none⟩ :: rest) k al ⟨env, σ, nx⟩ ↔ seen (some (opv C env x)) (fun v => areg C H tt ops K KP rest (k + 1) al ⟨updo env d v, σ, nx⟩) .mk := areg_fn rfl rfl
def pickA : AV → AV → AV → Option AV
 | .bool t, a, b => some (if t = true then a else b)
 | _, _, _ => none
@[go_sem] theorem pickA_bool (t : Bool) (a b : AV) : pickA (.bool t) a b = some (if t = true then a else b) := rfl
@[go_sem ↓] theorem areg_pick {c a b : Operand} : areg C H tt ops K KP (⟨d, .pick c a b, ty, pos, af, none⟩ :: rest) k al ⟨env, σ, nx⟩ ↔ seen (pickA (opv C env c) (opv C env a) (opv C env b)) (fun v => areg C H tt ops K KP rest (k + 1) al ⟨updo env d v, σ, nx⟩) .mk := by
  rw [areg_fn rfl rfl]
  simp only [fop, pickA]
  cases opv C env c <;> rfl
def allocA : Option (List AV) → Nat × Nat → Option AV
 | some _, al => some (.ref al.1 al.2 0)
 | none, _ => none
@[go_sem] theorem allocA_some (z : List AV) (p n : Nat) : allocA (some z) (p, n) = some (.ref p n 0) := rfl
@[go_sem ↓] theorem areg_alloc {T : TypeId} {p n : Nat} : areg C H tt ops K KP (⟨d, .alloc T, ty, pos, af, none⟩ :: rest) k (p, n) ⟨env, σ, nx⟩ ↔ seen (allocA (zeroCells C.P T) (p, n)) (fun v => areg C H tt ops K KP rest (k + 1) (p + 1, n + 1) ⟨updo env d v, σ, nx⟩) .mk := by
  rw [areg_one rfl, aop_fn rfl]
  simp only [fval, fop, isAlloc, if_true]
  unfold allocA
  cases zeroCells C.P T <;> rfl
def buildA (z : Option (List AV)) (pl : Option (List (Nat × Nat))) (parts : List (Nat × AV)) : Option AV :=
 match z, pl with
 | some z, some pl => (fillA (pl[·]?) z parts).map .agg
 | _, _ => none
@[go_sem] theorem buildA_some (z : List AV) (pl : List (Nat × Nat)) (parts : List (Nat × AV)) : buildA (some z) (some pl) parts = (fillA (pl[·]?) z parts).map .agg := rfl
def bslA (sz len : Nat) (z : Option (List AV)) (parts : List (Nat × AV)) : Option (List (List AV)) :=
 match z with
 | some z => if 0 < sz ∧ z.length = sz ∧ len * sz ≤ 16777216 then rowsA sz (List.replicate len z) parts else none
 | none => none
def bslF (P : Program) (t : TypeId) (len : Nat) (parts : List (Nat × AV)) : Option AV :=
 match elmT P t with
 | some (e, sz, _) => (bslA sz len (zeroCells P e) parts).map (.vec sz)
 | none => none
def bslE (C : Cx) (ety : Option E) (t : TypeId) (len : Nat) (ps : Array (Nat × Operand)) (env : Nat → AV) (σ : Sto) (nx : Nat) : Option (AV × Sto × Nat) :=
 match ety with
 | some e => eop C (some e) (.buildSlice t len ps) env σ nx
 | none => match elmT C.P t with
  | some (e, sz, _) => (bslA sz len (zeroCells C.P e) (ps.toList.map fun p => (p.1, opv C env p.2))).map fun rows => (.sref σ.length nx sz 0 len, σ ++ [(nx, .gvec sz e rows)], nx + 1)
  | none => none
@[go_sem ↓] theorem areg_load {T : TypeId} {x : Operand} : areg C H tt ops K KP (⟨d, .load T x, ty, pos, af, none⟩ :: rest) k al ⟨env, σ, nx⟩ ↔
  if dstIn H.mb d = true then seen3 (eop C (tyOf H.ty d) (.load T x) env σ nx) (fun v σ nx => areg C H tt ops K KP rest (k + 1) al ⟨updo env d v, σ, nx⟩) .mk
  else seen (readA C.P T (if dstIn H.pl d = true then celP H d σ else σ) (opv C env x)) (fun v => areg C H tt ops K KP rest (k + 1) al ⟨updo env d v, σ, nx⟩) .mk := by
  split
  ·rename_i h; exact areg_eff (op := .load T x) (by simp [kindOf, h]) rfl
  ·rename_i h; rw [areg_fn (op := .load T x) (by simp [kindOf, h]) rfl]; rfl
@[go_sem ↓] theorem areg_nilCheck {x : Operand} : areg C H tt ops K KP (⟨d, .nilCheck x, ty, pos, af, none⟩ :: rest) k al ⟨env, σ, nx⟩ ↔ seen (nilckA (opv C env x)) (fun v => areg C H tt ops K KP rest (k + 1) al ⟨updo env d v, σ, nx⟩) .mk := areg_fn rfl rfl
@[go_sem ↓] theorem areg_binOp {op : BinOp} {t u : TypeId} {x y : Operand} : areg C H tt ops K KP (⟨d, .binOp op t x y u, ty, pos, af, none⟩ :: rest) k al ⟨env, σ, nx⟩ ↔ seen (abin C op t x y (opv C env x) (opv C env y)) (fun v => areg C H tt ops K KP rest (k + 1) al ⟨updo env d v, σ, nx⟩) .mk := areg_fn rfl rfl
@[go_sem ↓] theorem areg_unOp {op : UnOp} {t : TypeId} {x : Operand} : areg C H tt ops K KP (⟨d, .unOp op t x, ty, pos, af, none⟩ :: rest) k al ⟨env, σ, nx⟩ ↔ seen (aun op (opv C env x)) (fun v => areg C H tt ops K KP rest (k + 1) al ⟨updo env d v, σ, nx⟩) .mk := areg_fn rfl rfl
@[go_sem ↓] theorem areg_indexAddr {t : TypeId} {x i : Operand} : areg C H tt ops K KP (⟨d, .indexAddr t x i, ty, pos, af, none⟩ :: rest) k al ⟨env, σ, nx⟩ ↔ seen (idxA C.P t (opv C env x) (opv C env i)) (fun v => areg C H tt ops K KP rest (k + 1) al ⟨updo env d v, σ, nx⟩) .mk := areg_fn rfl rfl
@[go_sem ↓] theorem areg_index {t : TypeId} {x i : Operand} : areg C H tt ops K KP (⟨d, .index t x i, ty, pos, af, none⟩ :: rest) k al ⟨env, σ, nx⟩ ↔ seen (indexA C.P t (opv C env x) (opv C env i)) (fun v => areg C H tt ops K KP rest (k + 1) al ⟨updo env d v, σ, nx⟩) .mk := areg_fn rfl rfl
@[go_sem ↓] theorem areg_slice {t : TypeId} {x : Operand} {lo hi mx : Option Operand} : areg C H tt ops K KP (⟨d, .slice t x lo hi mx, ty, pos, af, none⟩ :: rest) k al ⟨env, σ, nx⟩ ↔ if dstIn H.mb d = true then seen3 (eop C (tyOf H.ty d) (.slice t x lo hi mx) env σ nx) (fun v σ nx => areg C H tt ops K KP rest (k + 1) al ⟨updo env d v, σ, nx⟩) .mk
  else seen (sliceA C.P t (opv C env x) (lo.map (opv C env)) (hi.map (opv C env)) (mx.map (opv C env))) (fun v => areg C H tt ops K KP rest (k + 1) al ⟨updo env d v, σ, nx⟩) .mk := by
  split
  ·rename_i h; exact areg_eff (op := .slice t x lo hi mx) (by simp [kindOf, h]) rfl
  ·rename_i h; rw [areg_fn (op := .slice t x lo hi mx) (by simp [kindOf, h]) rfl]; rfl
@[go_sem] theorem bslE_none (C : Cx) (t : TypeId) (len : Nat) (ps : Array (Nat × Operand)) (env : Nat → AV) (σ : Sto) (nx : Nat) : bslE C none t len ps env σ nx = match elmT C.P t with
  | some (e, sz, _) => (bslA sz len (zeroCells C.P e) (ps.toList.map fun p => (p.1, opv C env p.2))).map fun rows => (.sref σ.length nx sz 0 len, σ ++ [(nx, .gvec sz e rows)], nx + 1)
  | none => none := rfl
def makeE (P : Program) (ety : Option E) (t : TypeId) (σ : Sto) (nx : Nat) (l c : AV) : Option (AV × Sto × Nat) := match ety with | some e => makeT P t e σ nx l c | none => makeA P t σ nx l c
@[go_sem] theorem makeE_none (P : Program) (t : TypeId) (σ : Sto) (nx : Nat) (l c : AV) : makeE P none t σ nx l c = makeA P t σ nx l c := rfl
@[go_sem ↓] theorem areg_extract {x : Operand} {i : Nat} : areg C H tt ops K KP (⟨d, .extract x i, ty, pos, af, none⟩ :: rest) k al ⟨env, σ, nx⟩ ↔ seen (extA (opv C env x) i) (fun v => areg C H tt ops K KP rest (k + 1) al ⟨updo env d v, σ, nx⟩) .mk := areg_fn rfl rfl
@[go_sem] theorem orS_some {α : Type} (a : α) (b : Option α) : orS (some a) b = some a := rfl
@[go_sem ↓] theorem areg_store {T : TypeId} {a x : Operand} : areg C H tt ops K KP (⟨d, .store T a x, ty, pos, af, none⟩ :: rest) k al ⟨env, σ, nx⟩ ↔ seen3 (orS ((storeA C.P T σ (opv C env a) (opv C env x)).map fun σ' => (.undef, σ', nx)) ((storeS C.P T σ (opv C env a) (opv C env x)).map fun σ' => (.undef, σ', nx))) (fun v σ nx => areg C H tt ops K KP rest (k + 1) al ⟨updo env d v, σ, nx⟩) .mk := areg_eff rfl rfl
@[go_sem ↓] theorem areg_range {t : TypeId} {x : Operand} : areg C H tt ops K KP (⟨d, .range t x, ty, pos, af, none⟩ :: rest) k al ⟨env, σ, nx⟩ ↔ seen3 (rangeA C.P t σ nx (opv C env x)) (fun v σ nx => areg C H tt ops K KP rest (k + 1) al ⟨updo env d v, σ, nx⟩) .mk := areg_eff rfl rfl
@[go_sem ↓] theorem areg_next {x : Operand} : areg C H tt ops K KP (⟨d, .next x true, ty, pos, af, none⟩ :: rest) k al ⟨env, σ, nx⟩ ↔ seen3 (nextA σ nx (opv C env x)) (fun v σ nx => areg C H tt ops K KP rest (k + 1) al ⟨updo env d v, σ, nx⟩) .mk := areg_eff rfl rfl
@[go_sem] theorem eop_append {ags : Array Operand} {t t' : TypeId} {x y : Operand} : eop C none (.call ⟨.builtin .append, #[x, y], #[t, t']⟩) env σ nx = appendA C.P t t' σ nx (opv C env x) (opv C env y) := rfl
theorem areg_builtin {b : Builtin} {ags : Array Operand} {ts : Array TypeId} (hb : kindOf H ⟨d, .call ⟨.builtin b, ags, ts⟩, ty, pos, af, none⟩ = .fn) : areg C H tt ops K KP (⟨d, .call ⟨.builtin b, ags, ts⟩, ty, pos, af, none⟩ :: rest) k al ⟨env, σ, nx⟩ ↔
  seen (bfun C.P b ts.toList (ags.toList.map (opv C env))) (fun v => areg C H tt ops K KP rest (k + 1) al ⟨updo env d v, σ, nx⟩) .mk := areg_fn hb rfl
@[go_sem ↓] theorem areg_len {ags : Array Operand} {ts : Array TypeId} : areg C H tt ops K KP (⟨d, .call ⟨.builtin .len, ags, ts⟩, ty, pos, af, none⟩ :: rest) k al ⟨env, σ, nx⟩ ↔
  seen (bfun C.P .len ts.toList (ags.toList.map (opv C env))) (fun v => areg C H tt ops K KP rest (k + 1) al ⟨updo env d v, σ, nx⟩) .mk := areg_builtin rfl
def callA (C : Cx) (own tot : Bool) (f : AV) (args : List AV) (σ : Sto) (nx : Nat) (K KP : AV → Sto → Nat → Prop) (t : Tok K) (t' : Tok KP) : Prop :=
 match f with
 | .fn (.func g) first caps => CallP C own tot g (first ++ (args ++ caps)) σ nx K KP
 | _ => False
@[go_sem] theorem callA_fn {own tot : Bool} {g : FuncId} {first caps args : List AV} {K KP : AV → Sto → Nat → Prop} {t : Tok K} {t' : Tok KP} : callA C own tot (.fn (.func g) first caps) args σ nx K KP t t' ↔ callP C own tot g (first ++ (args ++ caps)) σ nx K KP t t' := Iff.rfl
@[go_sem ↓] theorem areg_call {f : Operand} {ags : Array Operand} {ts : Array TypeId} : areg C H tt ops K KP (⟨d, .call ⟨.value f, ags, ts⟩, ty, pos, af, none⟩ :: rest) k al ⟨env, σ, nx⟩ ↔
  callA C (dstIn H.ac d) (tt k) (opv C env f) (ags.toList.map (opv C env)) σ nx (fun v σ nx => areg C H tt ops K KP rest (k + 1) al ⟨updo env d v, σ, nx⟩) KP .mk .mk := by
  rw [areg_one rfl, aop_call rfl rfl]
  simp only [isAlloc, Bool.false_eq_true, if_false, calleeA]
  constructor
  ·rintro ⟨g, args, h1, h2⟩
   split at h1
   ·rename_i g' first caps hf; cases h1; rw [hf]; exact h2
   ·cases h1
  ·intro h
   unfold callA at h
   split at h
   ·rename_i g first caps hf; rw [hf]; exact ⟨g, _, rfl, h⟩
   ·exact h.elim
end
@[go_sem ↓] theorem opv_tmp (C : Cx) (env : Nat → AV) (t : Nat) : opv C env (.tmp t) = env t := rfl
@[go_sem ↓] theorem opv_const (C : Cx) (env : Nat → AV) (v : Value) : opv C env (.const v) = ofVal v := rfl
@[go_sem ↓] theorem opv_global (C : Cx) (env : Nat → AV) (g : Nat) : opv C env (.global g) = C.gl g := rfl
@[go_sem ↓] theorem opv_func (C : Cx) (env : Nat → AV) (f : FuncId) : opv C env (.func f) = .fn (.func f) [] [] := rfl
@[go_sem] theorem ofVal_int (k : IntKind) (n : Int) : ofVal (.int k n) = .int k n := rfl
@[go_sem] theorem ofVal_bool (b : Bool) : ofVal (.bool b) = .bool b := rfl
@[go_sem] theorem ofVal_slice (a : Option Addr) (l c : Nat) : ofVal (.slice a l c) = .base (.slice a l c) := rfl
@[go_sem] theorem ofVal_pointer (a : Option Addr) : ofVal (.pointer a) = .base (.pointer a) := rfl
@[go_sem] theorem ofVal_agg (a : Array Value) : ofVal (.agg a) = .base (.agg a) := rfl
@[go_sem] theorem ofVal_nilIface : ofVal .nilIface = .base .nilIface := rfl
@[go_sem] theorem ofVal_nilFunc : ofVal .nilFunc = .base .nilFunc := rfl
@[go_sem] theorem ofVal_map (a : Option Nat) : ofVal (.map a) = .base (.map a) := rfl
@[go_sem ↓] theorem updo_none (env : Nat → AV) (v : AV) : updo env none v = env := rfl
@[go_sem ↓] theorem updo_some (env : Nat → AV) (d t : Nat) (v : AV) : updo env (some d) v t = if t = d then v else env t := rfl
@[go_sem ↓] theorem argEnv_zero (a : AV) (l : List AV) : argEnv (a :: l) 0 = a := rfl
@[go_sem ↓] theorem argEnv_one (a b : AV) (l : List AV) : argEnv (a :: b :: l) 1 = b := rfl
@[go_sem ↓] theorem argEnv_two (a b c : AV) (l : List AV) : argEnv (a :: b :: c :: l) 2 = c := rfl
@[go_sem ↓] theorem argEnv_three (a b c d : AV) (l : List AV) : argEnv (a :: b :: c :: d :: l) 3 = d := rfl
def boolW (w : Bool) : AV → Option Bool
 | .bool b => some (b == w)
 | .base (.tuple _) => some false
 | _ => none
def gdv (env : Nat → AV) (w : Bool) : List Oper → Nat → Option Bool
 | [], _ => some false
 | o :: _, 0 => (match o.dst with
  | some t => boolW w (env t)
  | none => some false)
 | _ :: r, j + 1 => gdv env w r j
theorem gdv_get (env : Nat → AV) (w : Bool) : ∀ (l : List Oper) (j : Nat), gdv env w l j = match (l[j]?).bind (·.dst) with
  | some t => boolW w (env t)
  | none => some false
 | [], _ => rfl
 | o :: _, 0 => rfl
 | _ :: r, j + 1 => by
  rw [gdv, gdv_get env w r j]
  simp only [List.getElem?_cons_succ]
@[go_sem ↓] theorem wantedA_some {ops : List Oper} {env : Nat → AV} {d : Option Tmp} {op : Op} {ty : TypeId} {pos : String} {af : Array Edge} {j : Nat} {w : Bool} : wantedA ops.toArray env ⟨d, op, ty, pos, af, some (j, w)⟩ = gdv env w ops j := by
  unfold wantedA
  rw [gdv_get]
  simp only [List.getElem?_toArray]
  cases (ops[j]?).bind (·.dst) <;> rfl
@[go_sem ↓] theorem gdv_zero (env : Nat → AV) (w : Bool) (t : Tmp) (op : Op) (ty : TypeId) (pos : String) (af : Array Edge) (g : Option (Nat × Bool)) (r : List Oper) : gdv env w (⟨some t, op, ty, pos, af, g⟩ :: r) 0 = boolW w (env t) := rfl
@[go_sem ↓] theorem gdv_succ (env : Nat → AV) (w : Bool) (o : Oper) (j : Nat) (r : List Oper) : gdv env w (o :: r) (j + 1) = gdv env w r j := rfl
@[go_sem] theorem boolW_bool (w b : Bool) : boolW w (.bool b) = some (b == w) := rfl
@[go_sem] theorem boolW_undef (w : Bool) (vs : Array Value) : boolW w (.base (.tuple vs)) = some false := rfl
section
variable {C : Cx} {n : Nat} {ds : List Deferred} {Q : AExit → St → Prop} {s : St} {id : Nat} {ops : Array Oper} {y : Code} {objs : Sto}
theorem aw_sreg (H : Hints) (hd : dstOK n ops = true) (ho : allocObjs C.P ops.toList s.nx = some objs)
  (h : ∀ (K : St → Prop) (KP : AV → Sto → Nat → Prop), (∀ s, aw C n ds y Q s → K s) → (∀ v σ nx, (∀ env, Q (.pan v) ⟨env, σ, nx⟩) → KP v σ nx) →
   areg C H (fun _ => true) ops K KP ops.toList 0 (s.σ.length, s.nx) ⟨s.env, s.σ ++ objs, s.nx + objs.length⟩) : aw C n ds (.seq (.region id ops false) y) Q s :=
 aw_seq (aw_region hd ho (h _ _ (fun _ h => h) (fun _ _ _ h env => h env)))
theorem aw_lreg (H : Hints) (hd : dstOK n ops = true) (ho : allocObjs C.P ops.toList s.nx = some objs)
  (h : ∀ (K : St → Prop) (KP : AV → Sto → Nat → Prop), (∀ s, Q .normal s → K s) → (∀ v σ nx, (∀ env, Q (.pan v) ⟨env, σ, nx⟩) → KP v σ nx) →
   areg C H (fun _ => true) ops K KP ops.toList 0 (s.σ.length, s.nx) ⟨s.env, s.σ ++ objs, s.nx + objs.length⟩) : aw C n ds (.region id ops false) Q s :=
 aw_region hd ho (h _ _ (fun _ h => h) (fun _ _ _ h env => h env))
theorem CallP.ret {own tot : Bool} {g : FuncId} {args : List AV} {σ : Sto} {nx : Nat} {K KP : AV → Sto → Nat → Prop} {r : AV} (h : PCall C g args (· = .ret r)) (hf : RFL args) (hk : K r σ nx) : CallP C own tot g args σ nx K KP :=
 ⟨_, h.acall hf σ nx, (by rintro v σ' nx' ⟨hq, rfl, rfl⟩; cases hq; exact hk), (by rintro v σ' nx' ⟨hq, _, _⟩; cases hq), .inr ⟨r, σ, nx, rfl, rfl, rfl⟩, .inr ⟨hf, _, h, fun _ _ _ => Iff.rfl⟩⟩
theorem CallP.pan {own : Bool} {g : FuncId} {args : List AV} {σ : Sto} {nx : Nat} {K KP : AV → Sto → Nat → Prop} {r : AV} (h : PCall C g args (· = .pan r)) (hf : RFL args) (hk : KP r σ nx) : CallP C own true g args σ nx K KP :=
 ⟨_, h.acall hf σ nx, (by rintro v σ' nx' ⟨hq, _, _⟩; cases hq), (by rintro v σ' nx' ⟨hq, rfl, rfl⟩; cases hq; exact hk), .inl rfl, .inr ⟨hf, _, h, fun _ _ _ => Iff.rfl⟩⟩
end
end Go.Ab
