/-
  THE READER's functions over plain data: printed by a program of the author; the kernel checks that the code comes to them.
-/
import Derived.Test.YtmompmackgknbaaDoorZ10
import Derived.Test.YtmompmackgknbaaDoorZ8
import Derived.Lib.Bytealg
/-
  FUNCTIONS THAT RUN on plain data; tables of signatures.
-/
set_option linter.unusedVariables false
set_option linter.unusedSimpArgs false
namespace Go.Ab
open Go Go.RowKit

def sigTab : List (Nat × Sig) → FuncId → List Sig
  | [], _ => []
  | (g', s) :: l, g => match Nat.beq g' g with
    | true => s :: sigTab l g
    | false => sigTab l g
def TabOK (C : Cx) : List (Nat × Sig) → Prop
  | [] => True
  | (g, s) :: l => SigOK C g s ∧ TabOK C l
theorem sigTab_ok {C : Cx} : ∀ {l : List (Nat × Sig)}, TabOK C l → ∀ g, ∀ s ∈ sigTab l g, SigOK C g s
  | [], _, g, s, h => by cases h
  | (g', s') :: l, ht, g, s, h => by
    simp only [sigTab] at h
    split at h
    · rename_i e
      have := Nat.eq_of_beq_eq_true e
      subst this
      rcases List.mem_cons.1 h with rfl | h
      · exact ht.1
      · exact sigTab_ok ht.2 _ s h
    · exact sigTab_ok ht.2 g s h

def resY {α : Type} (σ : Sto) (res : Sh) (v : AV) (f : res.den → α) : Option α :=
  match rfB (frzF σ 6 v) with
  | true => match absV [] [] res (frzF σ 6 v) with
    | some (x, _) => some (f x)
    | none => none
  | false => none
def finN (C : Cx) (fn : Func) (res : Sh) : AExit → XS → Option res.den
  | .normal, s => (resA C.P fn.results.toList s.st).bind fun v => resY s.σ res v id
  | .ret, s => (resA C.P fn.results.toList s.st).bind fun v => resY s.σ res v id
  | _, _ => none
def eqS (a b : AV) : Bool :=
  match a, b with
  | .agg [], .agg [] => true
  | .int k n, .int k' n' => decide (k = k') && decide (n = n')
  | .str l, .str l' => decide (l = l')
  | .bool b, .bool b' => decide (b = b')
  | a, b => eqA a b
theorem eqS_sound {a b : AV} (h : eqS a b = true) : a = b ∧ RF a := by
  unfold eqS at h
  split at h
  · exact ⟨rfl, trivial⟩
  · simp only [Bool.and_eq_true, decide_eq_true_eq] at h; obtain ⟨rfl, rfl⟩ := h; exact ⟨rfl, trivial⟩
  · simp only [decide_eq_true_eq] at h; subst h; exact ⟨rfl, trivial⟩
  · simp only [decide_eq_true_eq] at h; subst h; exact ⟨rfl, trivial⟩
  · exact eqA_sound h
def eqP (a b : AV) : Bool :=
  match a, b with
  | .iface t x, .iface t' y => Nat.beq t t' && eqS x y
  | a, b => eqS a b
theorem eqP_sound {a b : AV} (h : eqP a b = true) : a = b ∧ RF a := by
  unfold eqP at h
  split at h
  · simp only [Bool.and_eq_true] at h
    obtain ⟨rfl, h2⟩ := eqS_sound h.2
    exact ⟨by rw [Nat.eq_of_beq_eq_true h.1], h2⟩
  · exact eqS_sound h
def finP (C : Cx) (fn : Func) (res : Sh) (pv : AV) : AExit → XS → Option (Out res.den)
  | .normal, s => (resA C.P fn.results.toList s.st).bind fun v => resY s.σ res v .ret
  | .ret, s => (resA C.P fn.results.toList s.st).bind fun v => resY s.σ res v .ret
  | .pan v, s => match eqP (frzF s.σ 6 v) pv with
    | true => some .pan
    | false => none
  | _, _ => none
noncomputable def yfunM (C : Cx) (sigs : FuncId → List Sig) (hint : Nat → RH) (g : FuncId) {R : Type} (mg : Option R → Option R → Option R) (fin : Func → AExit → XS → Option R) (args : List Sh) (an : An) (x : Sh.denL args) : Option R :=
  match C.P.funcs[g]? with
  | none => none
  | some fn => match fn.body with
    | none => none
    | some c => if ((fn.name == "runtime.NumGoroutine") = false ∧ args.length ≤ fn.ntmps) then ycode C sigs hint 0 fn.ntmps c an mg ⟨patL ρ0 args x ++ List.replicate (fn.ntmps - args.length) .undef, [], 0⟩ (fin fn) else none

noncomputable abbrev yfun (C : Cx) (sigs : FuncId → List Sig) (hint : Nat → RH) (g : FuncId) {R : Type} (fin : Func → AExit → XS → Option R) (args : List Sh) (an : An) (x : Sh.denL args) : Option R := yfunM C sigs hint g mgC fin args an x

theorem patL_len (ρ : Pl) : ∀ (l : List Sh) (x : Sh.denL l), (patL ρ l x).length = l.length
  | [], _ => rfl
  | s :: l, x => by show (patL ρ l x.2).length + 1 = _; rw [patL_len ρ l x.2]; rfl
theorem xenv_args (args : List AV) (k : Nat) : xenv (args ++ List.replicate k .undef) = argEnv args := by
  funext t
  simp only [xenv, argEnv, List.getD_eq_getElem?_getD, List.getElem?_append]
  split
  · rfl
  · rename_i h
    rw [List.getElem?_eq_none (Nat.le_of_not_lt h), List.getElem?_replicate]
    split <;> rfl
theorem resY_sound {α : Type} {σ : Sto} {res : Sh} {v : AV} {f : res.den → α} {a : α} (h : resY σ res v f = some a) : ∃ x, a = f x ∧ RF (frzF σ 6 v) ∧ ∀ kn u, Rel kn m0 (frzF σ 6 v) u → Rel kn m0 (patV ρ0 res x) u := by
  unfold resY at h
  split at h
  · rename_i hr
    split at h
    · rename_i x β hx
      cases h
      refine ⟨x, rfl, rfB_sound _ hr, fun kn u hu => ?_⟩
      obtain ⟨h1, h2⟩ := absV_ok (kn := kn) (m := m0) res [] β _ x hx
      obtain ⟨h3, h4⟩ := h2 u hu
      have hv := h3 ⟨fun j b e => by simp [bget] at e, fun j p nm e => by simp [bget] at e, fun j j' p nm nm' e => by simp [bget] at e⟩
      exact h4 m0 ρ0 (fun j b e => by have := hv.dom j b e; simp at this)
    · cases h
  · cases h

/-- What a body owes that writes nothing of others. -/
theorem yfun_sound {C : Cx} {sigs : FuncId → List Sig} (hs : ∀ g, ∀ sg ∈ sigs g, SigOK C g sg) {hint : Nat → RH} {g : FuncId} {R : Type} {mg : Option R → Option R → Option R} (hmg : MgOK mg) {fin : Func → AExit → XS → Option R} {args : List Sh} {an : An} {x : Sh.denL args} {r : R} {Q : AOut → Prop}
    (h : yfunM C sigs hint g mg fin args an x = some r)
    (hfin : ∀ (fn : Func) (s : XS), (∀ e, (e = .normal ∨ e = .ret) → fin fn e s = some r → ∃ v, resA C.P fn.results.toList s.st = some v ∧ RF (frzF s.σ 6 v) ∧ ∃ x, Q (.ret x) ∧ ∀ kn u, Rel kn m0 (frzF s.σ 6 v) u → Rel kn m0 x u) ∧
      (∀ v, fin fn (.pan v) s = some r → RF (frzF s.σ 6 v) ∧ Q (.pan (frzF s.σ 6 v))) ∧ (∀ i, fin fn (.exit i) s ≠ some r) ∧ ∀ i, fin fn (.goto i) s ≠ some r) : PCall C g (patL ρ0 args x) Q := by
  unfold yfunM at h
  split at h
  · cases h
  · rename_i fn hf
    split at h
    · cases h
    · rename_i c hb
      split at h
      · rename_i hc
        obtain ⟨hname, hn⟩ := hc
        refine fun kn w vs hk hr => .inl ⟨bodyOK_mk hf hb hname, ?_⟩
        let B : Base := ⟨w, kn, fun _ => False⟩
        have hI : Inv C B kn m0 [] 0 w := ⟨hk.ok, Nat.le_refl _, rfl, rfl, rfl, fun _ _ _ => ⟨rfl, rfl⟩, fun p nm ob e => by simp at e, fun p nm ob loc e => by simp at e, fun p nm ob loc p' nm' ob' loc' e => by simp at e, fun _ _ => rfl, fun p nm ob e => by simp at e, fun p p' nm ob ob' e => by simp at e, hk.glob⟩
        have hn' : (patL ρ0 args x).length ≤ fn.ntmps := by rw [patL_len]; exact hn
        have hS : Sim C B fn.ntmps [] 0 kn m0 ⟨patL ρ0 args x ++ List.replicate (fn.ntmps - args.length) .undef, [], 0⟩ kn m0 { tmps := vs.toArray ++ Array.replicate (fn.ntmps - vs.toArray.size) undef, defers := [] } w :=
          ⟨by rw [xenv_args]; exact argEnv_rel hr hn', rfl, hI, KnLe.refl _, Nat.le_refl _, fun i hi => absurd hi (by omega), fun i hi => absurd hi (by omega)⟩
        refine calls_of_wp hf hb (ycode_sound hs c an mg hmg _ _ r h _ (fun e s he => ?_) kn m0 _ w hS)
        obtain ⟨f1, f2, f3, f4⟩ := hfin fn s
        have after : ∀ kn' m' act' w', Inv C B kn' m' s.σ s.nx w' → (∀ (x : AV) (v : Value), Rel kn' m' x v → RF (frzF s.σ 6 x) → Rel (knAll kn' w.heap.size w') m0 (frzF s.σ 6 x) v) ∧ Below w.heap.size w w' ∧ KnOK C (knAll kn' w.heap.size w') w' ∧ ∀ b, b < w.heap.size → knAll kn' w.heap.size w' b = kn b := fun kn' m' (act' : Act) w' hI' => by
          refine ⟨fun x v hr hf => (frz_sound hI' (fun _ h => h) 6 x v hr).rf hf m0, ⟨hI'.os, hI'.tape, hI'.output, hI'.size, fun k hk => (hI'.old k hk (fun h => h)).1⟩, ⟨fun b o v e => ?_, fun g => ((hI'.glob g).mono (knAll_le hI' _) (MpLe.refl _)).rf (C.rf g) m0⟩, fun b hb => ?_⟩
          · unfold knAll at e
            split at e
            · exact hI'.knok b o v e
            · exact e
          · funext o
            unfold knAll
            rw [if_pos hb]
            rw [(hI'.old b hb (fun h => h)).2]
        cases e with
        | normal =>
          obtain ⟨v, q1, q2, y, q3, q4⟩ := f1 _ (.inl rfl) he
          intro kn' m' act' w' hS' ce hx
          cases ce <;> first | exact hx.elim | skip
          obtain ⟨a1, a2, a3, a4⟩ := after kn' m' act' w' hS'.inv
          obtain ⟨u, p1, p2⟩ := results_sound (s := s.st) hS'.inv hS'.env q1
          exact ⟨hS'.defs, u, p1, .ret y, knAll kn' w.heap.size w', q3, q4 _ _ (a1 v u p2 q2), a3, a2, a4⟩
        | ret =>
          obtain ⟨v, q1, q2, y, q3, q4⟩ := f1 _ (.inr rfl) he
          intro kn' m' act' w' hS' ce hx
          cases ce <;> first | exact hx.elim | skip
          obtain ⟨a1, a2, a3, a4⟩ := after kn' m' act' w' hS'.inv
          obtain ⟨u, p1, p2⟩ := results_sound (s := s.st) hS'.inv hS'.env q1
          exact ⟨hS'.defs, u, p1, .ret y, knAll kn' w.heap.size w', q3, q4 _ _ (a1 v u p2 q2), a3, a2, a4⟩
        | exit i => exact absurd he (f3 i)
        | goto i => exact absurd he (f4 i)
        | pan v =>
          obtain ⟨q1, q2⟩ := f2 v he
          intro kn' m' act' w' hS' u hu
          obtain ⟨a1, a2, a3, a4⟩ := after kn' m' act' w' hS'.inv
          exact ⟨hS'.defs, .pan (frzF s.σ 6 v), knAll kn' w.heap.size w', q2, ⟨u, rfl, a1 v u hu q1⟩, a3, a2, a4⟩
      · cases h

/-- **A function that runs is what it comes to.** -/
theorem sigN_of {C : Cx} {l : List (Nat × Sig)} (ht : TabOK C l) {hint : Nat → RH} {g : FuncId} {args : List Sh} {res : Sh} {an : An} {f : Sh.denL args → Option res.den}
    (h : ∀ x, yfun C (sigTab l) hint g (fun fn => finN C fn res) args an x = f x) : SigOK C g (.n args res f) := fun x r hr =>
  yfun_sound (sigTab_ok ht) mgC_ok ((h x).trans hr) fun fn s => ⟨fun e he hf => by
    have hf' : (resA C.P fn.results.toList s.st).bind (fun v => resY s.σ res v id) = some r := by rcases he with rfl | rfl <;> exact hf
    obtain ⟨v, h1, h2⟩ := Option.bind_eq_some_iff.1 hf'
    obtain ⟨y, rfl, h3, h4⟩ := resY_sound h2
    exact ⟨v, h1, h3, _, rfl, h4⟩, (fun v hv => by cases hv), (fun i hi => by cases hi), (fun i hi => by cases hi)⟩
theorem sigP_of {C : Cx} {l : List (Nat × Sig)} (ht : TabOK C l) {hint : Nat → RH} {g : FuncId} {args : List Sh} {res : Sh} {pv : AV} {an : An} {f : Sh.denL args → Option (Out res.den)}
    (h : ∀ x, yfun C (sigTab l) hint g (fun fn => finP C fn res pv) args an x = f x) : SigOK C g (.p args res pv f) := fun x r hr =>
  yfun_sound (sigTab_ok ht) mgC_ok ((h x).trans hr) fun fn s => ⟨fun e he hf => by
    have hf' : (resA C.P fn.results.toList s.st).bind (fun v => resY s.σ res v .ret) = some r := by rcases he with rfl | rfl <;> exact hf
    obtain ⟨v, h1, h2⟩ := Option.bind_eq_some_iff.1 hf'
    obtain ⟨y, rfl, h3, h4⟩ := resY_sound h2
    exact ⟨v, h1, h3, _, rfl, h4⟩, (fun v hv => by
      have hv : (match eqP (frzF s.σ 6 v) pv with
        | true => some .pan
        | false => none) = some r := hv
      split at hv
      · rename_i hrf; cases hv; obtain ⟨h1, h2⟩ := eqP_sound hrf; exact ⟨h2, by rw [h1]⟩
      · cases hv), (fun i hi => by cases hi), (fun i hi => by cases hi)⟩
/-- What is known to come of it. -/
theorem SigOK.spec {C : Cx} {g : FuncId} {args : List Sh} {res : Sh} {f f' : Sh.denL args → Option res.den} (h : SigOK C g (.n args res f)) (hf : ∀ x r, f' x = some r → f x = some r) : SigOK C g (.n args res f') := fun x r hr => h x r (hf x r hr)
theorem SigOK.specK {C : Cx} {g : FuncId} {args : List Sh} {res : Sh} {f : Nat → Sh.denL args → Option res.den} {f' : Sh.denL args → Option res.den} (h : ∀ k, SigOK C g (.n args res (f k))) (hf : ∀ x r, f' x = some r → ∃ k, f k x = some r) : SigOK C g (.n args res f') := fun x r hr => by
  obtain ⟨k, hk⟩ := hf x r hr; exact h k x r hk
end Go.Ab

/-
  FUNCTIONS THAT RUN on objects that they are given.
-/
set_option linter.unusedVariables false
set_option linter.unusedSimpArgs false
namespace Go.Ab
open Go Go.RowKit

def pairD {res : Sh} {post : Slots} (d : SS.den ⟨[(0, res)], post⟩) : res.den × denO post := (d.1.1, d.2)
def finV (C : Cx) (fn : Func) (res : Sh) (post : Slots) (s : XS) : Option (res.den × denO post) :=
  (resA C.P fn.results.toList s.st).bind fun v => match absS ⟨[(0, res)], post⟩ ⟨[v], s.σ, s.nx⟩ with
    | some d => some (pairD d)
    | none => none
def finO (C : Cx) (fn : Func) (res : Sh) (post : Slots) : AExit → XS → Option (res.den × denO post)
  | .normal, s => finV C fn res post s
  | .ret, s => finV C fn res post s
  | _, _ => none
noncomputable def yfunO (C : Cx) (sigs : FuncId → List Sig) (hint : Nat → RH) (g : FuncId) (pre : Slots) (args : List Sh) (post : Slots) (res : Sh) (an : An) (x : Sh.denL args × denO pre) : Option (res.den × denO post) :=
  match C.P.funcs[g]? with
  | none => none
  | some fn => match fn.body with
    | none => none
    | some c => if ((fn.name == "runtime.NumGoroutine") = false ∧ args.length ≤ fn.ntmps) then
        ycode C sigs hint pre.length fn.ntmps c an mgC ⟨patL (plO 0 pre x.2) args x.1 ++ List.replicate (fn.ntmps - args.length) .undef, osto 0 pre x.2, 0 + pre.length⟩ (finO C fn res post) else none
theorem finV_sound {C : Cx} {B : Base} {n : Nat} {k : Nat} {kn₀ kn : Kn} {m₀ m : Mp} {fn : Func} {res : Sh} {post : Slots} {s : XS} {r : res.den × denO post} {act : Act} {w : World} (hkeep : keepB k 0 post = true) (h : finV C fn res post s = some r)
    (hS : Sim C B n [] k kn₀ m₀ s kn m act w) : ∃ u, (results fn act.tmps).run C.P w = .ok u w ∧ ∃ m', Inv C B kn m' (osto k post r.2) (k + post.length) w ∧ (∀ i, i < k → m' i = m₀ i) ∧ (∀ j, j < post.length → ∃ loc, m' (nameOf k j post) = some loc) ∧ Rel kn m' (patV (plO k post r.2) res r.1) u := by
  obtain ⟨v, h1, h2⟩ := Option.bind_eq_some_iff.1 h
  split at h2
  · rename_i d hd
    cases h2
    obtain ⟨u, p1, p2⟩ := results_sound (s := s.st) hS.inv hS.env h1
    have hE : RelEnv kn m (xenv [v]) 1 { tmps := #[u], defers := [] } := ⟨rfl, fun t => by
      cases t with
      | zero => exact p2
      | succ t => exact .base _⟩
    obtain ⟨m', q1, q2, q3, q4⟩ := norm_sound (n := 1) hd hkeep hS.inv hE hS.lay
    exact ⟨u, p1, m', q1, fun i hi => (q3 i hi).trans (hS.base i hi), q4, q2.tmp 0⟩
  · cases h2
/-- **A function that runs on objects is what it comes to.** -/
theorem sigO_of {C : Cx} {l : List (Nat × Sig)} (ht : TabOK C l) {hint : Nat → RH} {g : FuncId} {pre post : Slots} {args : List Sh} {res : Sh} {an : An} {f : Sh.denL args × denO pre → Option (res.den × denO post)} (hok : (OSig.mk pre args post res f).ok = true)
    (h : ∀ x, yfunO C (sigTab l) hint g pre args post res an x = f x) : SigOK C g (.o ⟨pre, args, post, res, f⟩) := by
  refine ⟨hok, fun x r hr B kn m w vs hI hlay hargs => ?_⟩
  simp only [OSig.ok, Bool.and_eq_true] at hok
  obtain ⟨hnew, hkeep, hslots, hres⟩ := hok
  have h := (h x).trans hr
  unfold yfunO at h
  split at h
  · cases h
  · rename_i fn hf
    split at h
    · cases h
    · rename_i c hb
      split at h
      · rename_i hc
        obtain ⟨hname, hn⟩ := hc
        refine .inl ⟨bodyOK_mk hf hb hname, ?_⟩
        have hn' : (patL (plO 0 pre x.2) args x.1).length ≤ fn.ntmps := by rw [patL_len]; exact hn
        have hS : Sim C B fn.ntmps [] pre.length kn m ⟨patL (plO 0 pre x.2) args x.1 ++ List.replicate (fn.ntmps - args.length) .undef, osto 0 pre x.2, 0 + pre.length⟩ kn m { tmps := vs.toArray ++ Array.replicate (fn.ntmps - vs.toArray.size) undef, defers := [] } w :=
          ⟨by rw [xenv_args]; exact argEnv_rel hargs hn', rfl, hI, KnLe.refl _, by show pre.length ≤ 0 + pre.length; omega, fun i hi => rfl, hlay⟩
        refine calls_of_wp hf hb (ycode_sound (sigTab_ok ht) c an mgC mgC_ok _ _ r h _ (fun e s he => ?_) kn m _ w hS)
        cases e with
        | normal =>
          intro kn' m' act' w' hS' ce hx
          cases ce <;> first | exact hx.elim | skip
          obtain ⟨u, p1, m'', q1, q2, q3, q4⟩ := finV_sound hkeep he hS'
          exact ⟨hS'.defs, u, p1, kn', m'', hS'.le, q1, q2, q3, q4⟩
        | ret =>
          intro kn' m' act' w' hS' ce hx
          cases ce <;> first | exact hx.elim | skip
          obtain ⟨u, p1, m'', q1, q2, q3, q4⟩ := finV_sound hkeep he hS'
          exact ⟨hS'.defs, u, p1, kn', m'', hS'.le, q1, q2, q3, q4⟩
        | exit i => cases he
        | goto i => cases he
        | pan v => cases he
      · cases h
end Go.Ab

/-
  The program.
-/
set_option linter.unusedVariables false
set_option linter.unusedSimpArgs false
set_option maxRecDepth 100000
namespace Go.Ab
open Go Go.RowKit Go.Proofs
noncomputable def CX : Cx := ⟨Tryd.prog, fun _ => .any, fun _ => trivial⟩
@[go_sem] theorem CX_P : CX.P = Tryd.prog := rfl
def Fm.eta (f : Fm) : Fm := .mk f.k f.n f.t f.l
theorem Fm.eta_eq (f : Fm) : f.eta = f := by cases f; rfl
theorem w64 {n : Int} (h1 : -9223372036854775808 ≤ n) (h2 : n ≤ 9223372036854775807) : IntKind.wrap .i64 n = n := by rw [IntKind.wrap_i64]; omega
/-! names for checks -/
def ixOK (i : Int) (n : Nat) : Bool := decide (0 ≤ i ∧ i < (n : Int))
def slOK (lo hi : Int) (n : Nat) : Bool := decide (0 ≤ lo ∧ lo ≤ hi ∧ hi ≤ (n : Int))
def hiOK (hi : Int) (n : Nat) : Bool := decide (0 ≤ hi ∧ hi ≤ (n : Int))
theorem ixOK_iff {i : Int} {n : Nat} : ixOK i n = true ↔ 0 ≤ i ∧ i < (n : Int) := by unfold ixOK; exact decide_eq_true_iff
theorem slOK_iff {lo hi : Int} {n : Nat} : slOK lo hi n = true ↔ 0 ≤ lo ∧ lo ≤ hi ∧ hi ≤ (n : Int) := by unfold slOK; exact decide_eq_true_iff
theorem hiOK_iff {hi : Int} {n : Nat} : hiOK hi n = true ↔ 0 ≤ hi ∧ hi ≤ (n : Int) := by unfold hiOK; exact decide_eq_true_iff
/-! bounds on rounds -/
def Le {R : Type} (p q : Option R) : Prop := ∀ r, p = some r → q = some r
theorem Le.refl {R : Type} (p : Option R) : Le p p := fun _ h => h
theorem Le.cond {R : Type} {c : Bool} {a b a' b' : Option R} (h : Le a a') (k : Le b b') : Le (cond c a b) (cond c a' b') := by cases c; exact k; exact h
theorem Le.bind {A R : Type} {a a' : Option A} {f f' : A → Option R} (h : Le a a') (k : ∀ x, Le (f x) (f' x)) : Le (Option.bind a f) (Option.bind a' f') := fun r e => by
  obtain ⟨x, h1, h2⟩ := Option.bind_eq_some_iff.1 e
  exact Option.bind_eq_some_iff.2 ⟨x, h x h1, k x r h2⟩
theorem Le.map {A R : Type} {a a' : Option A} {f : A → R} (h : Le a a') : Le (Option.map f a) (Option.map f a') := fun r e => by
  obtain ⟨x, h1, rfl⟩ := Option.map_eq_some_iff.1 e
  exact Option.map_eq_some_iff.2 ⟨x, h x h1, rfl⟩
def iterE (d : Nat) {L R : Type} (b : L → Option (Step L R)) (l : L) : Option R := iterM b d l
theorem Le.loop {L R : Type} {b b' : L → Option (Step L R)} {d : Nat} (h : ∀ l, Le (b l) (b' l)) (l : L) : Le (iterE d b l) (loopM b' l) := fun r e => by
  refine loopM_iff.2 ⟨d, ?_⟩
  unfold iterE at e
  revert l
  induction d with
  | zero => intro l e; cases e
  | succ d ih =>
    intro l e
    simp only [iterM] at e ⊢
    cases hb : b l with
    | none => rw [hb] at e; cases e
    | some q =>
      rw [hb] at e
      rw [h l q hb]
      cases q with
      | next l' => exact ih l' e
      | done r' => exact e
/-! what a function with a bound on its depth comes to with some bound -/
noncomputable def limF {R : Type} (f : Nat → Option R) : Option R :=
  match Classical.propDecidable (∃ r k, f k = some r) with
  | .isTrue h => some (Classical.choose h)
  | .isFalse _ => none
theorem limF_ex {R : Type} {f : Nat → Option R} {r : R} (h : limF f = some r) : ∃ k, f k = some r := by
  unfold limF at h
  split at h
  · rename_i h' e; cases h; exact Classical.choose_spec h'
  · cases h
theorem limF_eq {R : Type} {f : Nat → Option R} {r : R} (h : ∃ k, f k = some r) (u : ∀ k r', f k = some r' → r' = r) : limF f = some r := by
  cases hx : limF f with
  | some r' => obtain ⟨k, hk⟩ := limF_ex hx; rw [u k r' hk]
  | none =>
    unfold limF at hx
    split at hx
    · cases hx
    · rename_i h' e; exact absurd ⟨r, h⟩ h'
theorem SigOK.limN {C : Cx} {g : FuncId} {args : List Sh} {res : Sh} {f : Nat → Sh.denL args → Option res.den} {f' : Sh.denL args → Option res.den} (h : ∀ k, SigOK C g (.n args res (f k))) (hf : ∀ x r, f' x = some r → ∃ k, f k x = some r) : SigOK C g (.n args res f') := SigOK.specK h hf
theorem SigOK.limP {C : Cx} {g : FuncId} {args : List Sh} {res : Sh} {pv : AV} {f : Nat → Sh.denL args → Option (Out res.den)} {f' : Sh.denL args → Option (Out res.den)} (h : ∀ k, SigOK C g (.p args res pv (f k))) (hf : ∀ x r, f' x = some r → ∃ k, f k x = some r) : SigOK C g (.p args res pv f') := fun x r hr => by
  obtain ⟨k, hk⟩ := hf x r hr; exact h k x r hk
theorem SigOK.limO {C : Cx} {g : FuncId} {pre post : Slots} {args : List Sh} {res : Sh} {f : Nat → Sh.denL args × denO pre → Option (res.den × denO post)} {f' : Sh.denL args × denO pre → Option (res.den × denO post)} (h : ∀ k, SigOK C g (.o ⟨pre, args, post, res, f k⟩)) (hf : ∀ x r, f' x = some r → ∃ k, f k x = some r) : SigOK C g (.o ⟨pre, args, post, res, f'⟩) :=
  ⟨(h 0).1, fun x r hr => by obtain ⟨k, hk⟩ := hf x r hr; exact (h k).2 x r hk⟩
end Go.Ab

/-
  TEXTS: the contracts of the functions of the packages strings and bytealg that the reader uses.
-/
set_option linter.unusedVariables false
set_option linter.unusedSimpArgs false
set_option maxRecDepth 100000
namespace Go.Ab
open Go Go.RowKit Go.Proofs

@[go_sem] theorem ofVal_string (l : List UInt8) : ofVal (.string ⟨l.toArray⟩) = .str l := by simp [ofVal]

theorem hasPrefix_call (s p : List UInt8) : PCall CX 117 [.str s, .str p] (· = .ret (.bool (decide (p.length ≤ s.length ∧ s.take p.length = p)))) := by
  refine pcall_mk 0 18 [.tmp 4] Tryd.func117 rfl (by decide) rfl rfl rfl ?_
  refine aw_sreg {} rfl rfl fun K KP hK hP => ?_
  simp only [go_sem, ↓reduceIte]
  apply hK; clear hK hP
  by_cases c1 : p.length ≤ s.length
  ·
    refine aw_sreg {} rfl rfl fun K KP hK hP => ?_
    simp only [go_sem, ↓reduceIte, c1]
    apply hK; clear hK hP
    refine aw_ret ?_
    simp only [go_sem, ↓reduceIte, c1, athen_ret] <;> (
      simp [c1])
  ·
    refine aw_sreg {} rfl rfl fun K KP hK hP => ?_
    simp only [go_sem, ↓reduceIte, c1]
    apply hK; clear hK hP
    refine aw_ret ?_
    simp only [go_sem, ↓reduceIte, c1, athen_ret] <;> (
      simp [c1])
theorem slTrimPrefix_call (s p : List UInt8) : PCall CX 103 [.str s, .str p] (· = .ret (.str (if p.length ≤ s.length ∧ s.take p.length = p then s.drop p.length else s))) := by
  refine pcall_mk 0 13 [.tmp 4] Tryd.func103 rfl (by decide) rfl rfl rfl ?_
  refine aw_sreg {} rfl rfl fun K KP hK hP => ?_
  simp only [go_sem, ↓reduceIte]
  apply hK; clear hK hP
  refine aw_seq ?_
  refine aw_sreg {} rfl rfl fun K KP hK hP => ?_
  simp only [go_sem, ↓reduceIte]
  refine CallP.ret (hasPrefix_call s p) (by simp only [go_sem]) ?_
  try simp only [go_sem, ↓reduceIte]
  apply hK; clear hK hP
  refine aw_if (p.length ≤ s.length ∧ s.take p.length = p) (by simp only [go_sem, ↓reduceIte]) (fun h1 => ?_) (fun h1 => ?_)
  ·
    refine aw_sreg {} rfl rfl fun K KP hK hP => ?_
    simp only [go_sem, ↓reduceIte, h1.1]
    apply hK; clear hK hP
    refine aw_ret ?_
    refine athen_ret.2 ?_
    simp only [go_sem, ↓reduceIte, athen_ret] <;> (
      rw [if_pos h1]; try (rw [List.take_of_length_le (by simp)]))
  ·
    refine aw_skip ?_
    refine athen_normal.2 ?_
    refine aw_sreg {} rfl rfl fun K KP hK hP => ?_
    simp only [go_sem, ↓reduceIte]
    apply hK; clear hK hP
    refine aw_ret ?_
    simp only [go_sem, ↓reduceIte, athen_ret] <;> (
      rw [if_neg h1])
theorem trimPrefix_call (s p : List UInt8) : PCall CX 96 [.str s, .str p] (· = .ret (.str (if p.length ≤ s.length ∧ s.take p.length = p then s.drop p.length else s))) := by
  refine pcall_mk 0 8 [.tmp 4] Tryd.func96 rfl (by decide) rfl rfl rfl ?_
  refine aw_sreg {} rfl rfl fun K KP hK hP => ?_
  simp only [go_sem, ↓reduceIte]
  apply hK; clear hK hP
  refine aw_sreg {} rfl rfl fun K KP hK hP => ?_
  simp only [go_sem, ↓reduceIte]
  refine CallP.ret (slTrimPrefix_call s p) (by simp only [go_sem]) ?_
  try simp only [go_sem, ↓reduceIte]
  apply hK; clear hK hP
  refine aw_ret ?_
  simp only [go_sem, ↓reduceIte, athen_ret]

/-! ### Sets of bytes -/
def setA (l : List UInt8) : List AV := (List.range 256).map fun c => .bool (decide (UInt8.ofNat c ∈ l))
@[go_sem] theorem length_setA (l : List UInt8) : (setA l).length = 256 := by simp [setA]
theorem setA_nil : setA [] = List.replicate 256 (.bool false) := by kernel_rfl
theorem setA_drop (l : List UInt8) (c : UInt8) : ((setA l).drop c.toNat).head? = some (.bool (decide (c ∈ l))) := by
  have hc : c.toNat < 256 := c.toNat_lt
  rw [List.head?_drop]
  simp [setA, hc]
theorem setA_get (l : List UInt8) (k : Nat) (h : k < 256) : (setA l)[k]? = some (.bool (decide (UInt8.ofNat k ∈ l))) := by simp [setA, h]
theorem setA_put (l : List UInt8) (c : UInt8) : (setA l).take c.toNat ++ .bool true :: (setA l).drop (c.toNat + 1) = setA (l ++ [c]) := by
  have hc : c.toNat < 256 := c.toNat_lt
  apply List.ext_getElem?
  intro k
  rcases Nat.lt_or_ge k 256 with hk | hk
  · rw [setA_get _ _ hk]
    rcases Nat.lt_trichotomy k c.toNat with h | h | h
    · rw [List.getElem?_append_left (by simp [length_setA]; omega), List.getElem?_take, if_pos h, setA_get _ _ hk]
      have : UInt8.ofNat k ≠ c := fun e => by
        have := congrArg UInt8.toNat e
        simp at this; omega
      simp [this]
    · subst h
      rw [List.getElem?_append_right (by simp [length_setA] <;> omega), show c.toNat - ((setA l).take c.toNat).length = 0 by simp [length_setA] <;> omega]
      simp
    · rw [List.getElem?_append_right (by simp [length_setA]; omega)]
      have e : k - ((setA l).take c.toNat).length = (k - c.toNat - 1) + 1 := by simp [length_setA]; omega
      rw [e, List.getElem?_cons_succ, List.getElem?_drop, show c.toNat + 1 + (k - c.toNat - 1) = k by omega, setA_get _ _ hk]
      have : UInt8.ofNat k ≠ c := fun e => by
        have := congrArg UInt8.toNat e
        simp at this; omega
      simp [this]
  · rw [List.getElem?_eq_none (by simp [length_setA]; omega), List.getElem?_eq_none (by simp [length_setA]; omega)]
theorem u8_lt (c : UInt8) : c.toNat < 256 := c.toNat_lt
theorem u8_lti (c : UInt8) : (c.toNat : Int) < 256 := by have := c.toNat_lt; omega

theorem contains_call (σ : Sto) (nx p nm : Nat) (l : List UInt8) (c : UInt8) (hs : sget σ p nm = some (.cells 127 (setA l))) : ACall CX 118 [.ref p nm 0, .int .u8 c.toNat] σ nx (Gets (.bool (decide (c ∈ l))) σ nx) := by
  refine acall_mk 10 [.tmp 4] Tryd.func118 rfl (by decide) rfl rfl rfl ?_
  have hc := u8_lti c
  have hc' := u8_lt c
  refine aw_sreg {} rfl rfl fun K KP hK hP => ?_
  simp only [go_sem, ↓reduceIte]
  apply hK; clear hK hP
  refine aw_sreg {} rfl rfl fun K KP hK hP => ?_
  simp only [go_sem, ↓reduceIte, hc, hc', hs, Nat.mul_one, setA_drop]
  apply hK; clear hK hP
  refine aw_ret ?_
  simp only [go_sem, ↓reduceIte, athen_ret]

/-! ### Trim -/
def trimRi (p : UInt8 → Bool) (s : List UInt8) : Nat → List UInt8
  | 0 => []
  | i + 1 => if p (s.getD i 0) then trimRi p s i else s.take (i + 1)
theorem trimRight_call (σ : Sto) (nx p nm : Nat) (l s : List UInt8) (hs : sget σ p nm = some (.cells 127 (setA l))) (hl : s.length ≤ 4611686018427387904) : ACall CX 108 [.str s, .ref p nm 0] σ nx (Gets (.str (trimRi (fun c => decide (c ∈ l)) s s.length)) σ nx) := by
  refine acall_mk 22 [.tmp 4] Tryd.func108 rfl (by decide) rfl rfl rfl ?_
  refine aw_sreg {} rfl rfl fun K KP hK hP => ?_
  simp only [go_sem, ↓reduceIte]
  apply hK; clear hK hP
  refine aw_seq ?_
  refine aw_block ?_
  refine aw_loop' (fun dd st => ∃ (i : Nat), (i ≤ s.length) ∧ (trimRi (fun c => decide (c ∈ l)) s i = trimRi (fun c => decide (c ∈ l)) s s.length) ∧ i = dd ∧ σ = st.σ ∧ nx = st.nx ∧ st.env 0 = .str (s.take i) ∧ st.env 1 = .ref p nm 0) (fun dd st hJ => ?_) ?_
  ·
    obtain ⟨env0, σ0, nx0⟩ := st
    obtain ⟨i, hp0_0, hp0_1, hd0, hs0, hn0, e0_0, e0_1⟩ := hJ
    dsimp only at hs0 hn0 e0_0 e0_1
    subst hd0; subst hs0; subst hn0
    have hlen : (s.take i).length = i := by simp; omega
    refine aw_seq ?_
    refine aw_sreg {} rfl rfl fun K KP hK hP => ?_
    simp only [go_sem, ↓reduceIte, e0_0, e0_1, hlen]
    apply hK; clear hK hP
    refine aw_if (0 < i) (by simp only [go_sem, ↓reduceIte, e0_0, e0_1, hlen]) (fun h1 => ?_) (fun h1 => ?_)
    ·
      have hx : s[i - 1]? = some (s.getD (i - 1) 0) := by simp [show i - 1 < s.length by omega]
      have hx1 : (s.take i)[i - 1]? = some (s.getD (i - 1) 0) := by rw [List.getElem?_take, if_pos (by omega)]; exact hx
      have hw : IntKind.wrap .i64 ((i : Int) - 1) = ((i - 1 : Nat) : Int) := by rw [wrap64 (by omega) (by omega)]; omega
      have hm : i - 1 ≤ i := by omega
      have ht : (s.take i).take (i - 1) = s.take (i - 1) := by rw [List.take_take]; congr 1; omega
      refine aw_skip ?_
      refine athen_normal.2 ?_
      refine aw_block ?_
      refine aw_seq ?_
      refine aw_sreg { ac := [14] } rfl rfl fun K KP hK hP => ?_
      simp only [go_sem, ↓reduceIte, e0_0, e0_1, hlen, hx1, hw, hm, ht]
      refine CallP.acall (contains_call σ nx p nm l _ hs) ?_
      try simp only [go_sem, ↓reduceIte, e0_0, e0_1, hlen, hx1, hw, hm, ht]
      apply hK; clear hK hP
      refine aw_if (¬ (s.getD (i - 1) 0) ∈ l) (by simp only [go_sem, ↓reduceIte, e0_0, e0_1, hlen, hx1, hw, hm, ht]) (fun h2 => ?_) (fun h2 => ?_)
      ·
        refine aw_exit ?_
        refine athen_exit.2 ?_
        refine ablock_pass rfl ?_
        refine athen_exit.2 ?_
        refine ablock_here ?_
        refine athen_normal.2 ?_
        refine aw_sreg {} rfl rfl fun K KP hK hP => ?_
        simp only [go_sem, ↓reduceIte, e0_0, e0_1, hlen, hx1, hw, hm, ht]
        apply hK; clear hK hP
        refine aw_ret ?_
        simp only [go_sem, ↓reduceIte, e0_0, e0_1, hlen, hx1, hw, hm, ht, athen_ret] <;> (
          rw [← hp0_1]
          cases i with
          | zero => simp [trimRi]
          | succ j => first | (exfalso; omega) | (simp only [trimRi]; rw [if_neg (by simpa using h2)]))
      ·
        refine aw_skip ?_
        refine athen_normal.2 ?_
        refine aw_lreg {} rfl rfl fun K KP hK hP => ?_
        simp only [go_sem, ↓reduceIte, e0_0, e0_1, hlen, hx1, hw, hm, ht]
        apply hK; clear hK hP
        refine ablock_normal.2 ?_
        refine athen_normal.2 ?_
        refine ⟨_, ?_, (i - 1), ?_, ?_, rfl, rfl, rfl, ?_, ?_⟩
        · omega
        · first | omega | trivial | assumption
        · rw [← hp0_1]
          cases i with
          | zero => rfl
          | succ j => simp only [Nat.add_sub_cancel, trimRi]; rw [if_pos (by simpa using h2)]
        · simp only [go_sem, ↓reduceIte, e0_0, e0_1, hlen, hx1, hw, hm, ht] <;> try rfl
        · simp only [go_sem, ↓reduceIte, e0_0, e0_1, hlen, hx1, hw, hm, ht] <;> try rfl
    ·
      refine aw_exit ?_
      refine athen_exit.2 ?_
      refine athen_exit.2 ?_
      refine ablock_here ?_
      refine athen_normal.2 ?_
      refine aw_sreg {} rfl rfl fun K KP hK hP => ?_
      simp only [go_sem, ↓reduceIte, e0_0, e0_1, hlen]
      apply hK; clear hK hP
      refine aw_ret ?_
      simp only [go_sem, ↓reduceIte, e0_0, e0_1, hlen, athen_ret] <;> (
        rw [← hp0_1]
        cases i with
        | zero => simp [trimRi]
        | succ j => first | (exfalso; omega) | (simp only [trimRi]; rw [if_neg (by simpa using h2)]))
  ·
    refine ⟨_, s.length, ?_, ?_, rfl, ?_, rfl, ?_, ?_⟩
    · first | omega | trivial | assumption
    · first | omega | trivial | assumption
    · first | rfl | (simp only [go_sem, ↓reduceIte])
    · simp only [go_sem, ↓reduceIte] <;> try rfl
    · simp only [go_sem, ↓reduceIte] <;> try rfl
theorem trimLeft_call (σ : Sto) (nx p nm : Nat) (l s : List UInt8) (hs : sget σ p nm = some (.cells 127 (setA l))) : ACall CX 107 [.str s, .ref p nm 0] σ nx (Gets (.str (s.dropWhile fun c => decide (c ∈ l))) σ nx) := by
  refine acall_mk 16 [.tmp 4] Tryd.func107 rfl (by decide) rfl rfl rfl ?_
  refine aw_sreg {} rfl rfl fun K KP hK hP => ?_
  simp only [go_sem, ↓reduceIte]
  apply hK; clear hK hP
  refine aw_seq ?_
  refine aw_block ?_
  refine aw_loop' (fun dd st => ∃ (r : List UInt8), (r.dropWhile (fun c => decide (c ∈ l)) = s.dropWhile fun c => decide (c ∈ l)) ∧ r.length = dd ∧ σ = st.σ ∧ nx = st.nx ∧ st.env 0 = .str r ∧ st.env 1 = .ref p nm 0) (fun dd st hJ => ?_) ?_
  ·
    obtain ⟨env0, σ0, nx0⟩ := st
    obtain ⟨r, hp0_0, hd0, hs0, hn0, e0_0, e0_1⟩ := hJ
    dsimp only at hs0 hn0 e0_0 e0_1
    subst hd0; subst hs0; subst hn0
    refine aw_seq ?_
    refine aw_sreg {} rfl rfl fun K KP hK hP => ?_
    simp only [go_sem, ↓reduceIte, e0_0, e0_1]
    apply hK; clear hK hP
    refine aw_if (0 < r.length) (by simp only [go_sem, ↓reduceIte, e0_0, e0_1]) (fun h1 => ?_) (fun h1 => ?_)
    ·
      obtain ⟨c, r', rfl⟩ : ∃ c r', r = c :: r' := by cases r with | nil => simp at h1 | cons c r' => exact ⟨c, r', rfl⟩
      have h11 : (1 : Int) ≤ ((r'.length + 1 : Nat) : Int) := by omega
      refine aw_skip ?_
      refine athen_normal.2 ?_
      refine aw_block ?_
      refine aw_seq ?_
      refine aw_sreg { ac := [11] } rfl rfl fun K KP hK hP => ?_
      simp only [go_sem, ↓reduceIte, e0_0, e0_1, h11]
      refine CallP.acall (contains_call σ nx p nm l _ hs) ?_
      try simp only [go_sem, ↓reduceIte, e0_0, e0_1, h11]
      apply hK; clear hK hP
      refine aw_if (¬ c ∈ l) (by simp only [go_sem, ↓reduceIte, e0_0, e0_1, h11]) (fun h2 => ?_) (fun h2 => ?_)
      ·
        refine aw_exit ?_
        refine athen_exit.2 ?_
        refine ablock_pass rfl ?_
        refine athen_exit.2 ?_
        refine ablock_here ?_
        refine athen_normal.2 ?_
        refine aw_sreg {} rfl rfl fun K KP hK hP => ?_
        simp only [go_sem, ↓reduceIte, e0_0, e0_1, h11]
        apply hK; clear hK hP
        refine aw_ret ?_
        simp only [go_sem, ↓reduceIte, e0_0, e0_1, h11, athen_ret] <;> (
          rw [← hp0_0]
          first | (cases r with | nil => rfl | cons => simp at h1) | (rw [List.dropWhile_cons, if_neg (by simpa using h2)]))
      ·
        refine aw_skip ?_
        refine athen_normal.2 ?_
        refine aw_lreg {} rfl rfl fun K KP hK hP => ?_
        simp only [go_sem, ↓reduceIte, e0_0, e0_1, h11]
        apply hK; clear hK hP
        refine ablock_normal.2 ?_
        refine athen_normal.2 ?_
        refine ⟨_, ?_, r', ?_, rfl, rfl, rfl, ?_, ?_⟩
        · simp
        · rw [← hp0_0, List.dropWhile_cons, if_pos (by simpa using h2)]
        · simp only [go_sem, ↓reduceIte, e0_0, e0_1, h11] <;> try rfl
        · simp only [go_sem, ↓reduceIte, e0_0, e0_1, h11] <;> try rfl
    ·
      refine aw_exit ?_
      refine athen_exit.2 ?_
      refine athen_exit.2 ?_
      refine ablock_here ?_
      refine athen_normal.2 ?_
      refine aw_sreg {} rfl rfl fun K KP hK hP => ?_
      simp only [go_sem, ↓reduceIte, e0_0, e0_1]
      apply hK; clear hK hP
      refine aw_ret ?_
      simp only [go_sem, ↓reduceIte, e0_0, e0_1, athen_ret] <;> (
        rw [← hp0_0]
        first | (cases r with | nil => rfl | cons => simp at h1) | (rw [List.dropWhile_cons, if_neg (by simpa using h2)]))
  ·
    refine ⟨_, s, ?_, rfl, ?_, rfl, ?_, ?_⟩
    · first | omega | trivial | assumption
    · first | rfl | (simp only [go_sem, ↓reduceIte])
    · simp only [go_sem, ↓reduceIte] <;> try rfl
    · simp only [go_sem, ↓reduceIte] <;> try rfl

theorem loadC_setA (l : List UInt8) : loadC Tryd.prog 127 (setA l) = some (.agg (setA l)) := by
  have h := length_setA l
  simp only [loadC, aggT_127, szT_127, h, Nat.le_refl, if_true]
  rw [List.take_of_length_le (by omega)]
theorem makeSet_call (s : List UInt8) (hs : ∀ c ∈ s, c < 128) (hl : s.length ≤ 4611686018427387904) : PCall CX 106 [.str s] (· = .ret (.tup [.agg (setA s), .bool true])) := by
  have hd : ∀ l, (setA l).drop 256 = [] := fun l => List.drop_of_length_le (by simp [length_setA])
  refine pcall_mk 0 21 [.cell 2 127, .tmp 3] Tryd.func106 rfl (by decide) rfl rfl rfl ?_
  refine aw_sreg {} rfl (by simp only [allocObjs, go_sem]; rfl) fun K KP hK hP => ?_
  simp only [go_sem, ↓reduceIte]
  apply hK; clear hK hP
  refine aw_seq ?_
  refine aw_sreg {} rfl rfl fun K KP hK hP => ?_
  simp only [go_sem, ↓reduceIte]
  apply hK; clear hK hP
  refine aw_block ?_
  refine aw_loop' (fun dd st => ∃ (i : Nat), (i ≤ s.length) ∧ s.length - i = dd ∧ [(0, .cells 127 (setA (s.take i)))] = st.σ ∧ st.env 0 = .str s ∧ st.env 2 = .ref 0 0 0 ∧ st.env 4 = .int .i64 (i : Nat)) (fun dd st hJ => ?_) ?_
  ·
    obtain ⟨env0, σ0, nx0⟩ := st
    obtain ⟨i, hp0_0, hd0, hs0, e0_0, e0_2, e0_4⟩ := hJ
    dsimp only at hs0  e0_0 e0_2 e0_4
    subst hd0; subst hs0
    refine aw_forget' 1 rfl ?_
    refine aw_seq ?_
    refine aw_sreg {} rfl rfl fun K KP hK hP => ?_
    simp only [go_sem, ↓reduceIte, e0_0, e0_2, e0_4]
    apply hK; clear hK hP
    refine aw_if (i < s.length) (by simp only [go_sem, ↓reduceIte, e0_0, e0_2, e0_4]) (fun h2 => ?_) (fun h2 => ?_)
    ·
      have hx : s[i]? = some s[i] := List.getElem?_eq_getElem h2
      have hlt := hs _ (List.getElem_mem h2)
      have hln : ¬ (128 : Int) ≤ (s[i].toNat : Int) := by have : s[i].toNat < 128 := hlt; omega
      have hc := u8_lti s[i]
      have hc' := u8_lt s[i]
      have hw : IntKind.wrap .i64 ((i : Int) + 1) = ((i + 1 : Nat) : Int) := by rw [wrap64 (by omega) (by omega)]; omega
      have ht : setA (s.take i ++ [s[i]]) = setA (s.take (i + 1)) := by rw [List.take_succ_eq_append_getElem h2]
      refine aw_skip ?_
      refine athen_normal.2 ?_
      refine aw_seq ?_
      refine aw_block ?_
      refine aw_sreg {} rfl rfl fun K KP hK hP => ?_
      simp only [go_sem, ↓reduceIte, e0_0, e0_2, e0_4, hx, hln, hc, hc', hw]
      apply hK; clear hK hP
      refine aw_seq ?_
      refine aw_sreg {} rfl rfl fun K KP hK hP => ?_
      simp only [go_sem, ↓reduceIte, e0_0, e0_2, e0_4, hx, hln, hc, hc', hw]
      apply hK; clear hK hP
      refine aw_if (False) (by simp only [go_sem, ↓reduceIte, e0_0, e0_2, e0_4, hx, hln, hc, hc', hw]) (fun h5 => ?_) (fun h5 => ?_)
      ·
        exact h5.elim
      ·
        refine aw_skip ?_
        refine athen_normal.2 ?_
        refine aw_lreg {} rfl rfl fun K KP hK hP => ?_
        simp only [go_sem, ↓reduceIte, e0_0, e0_2, e0_4, hx, hln, hc, hc', hw, Nat.mul_one, setA_put, ht, Nat.succ_le_of_lt hc']
        apply hK; clear hK hP
        refine ablock_normal.2 ?_
        refine athen_normal.2 ?_
        refine aw_lreg {} rfl rfl fun K KP hK hP => ?_
        simp only [go_sem, ↓reduceIte, e0_0, e0_2, e0_4, hx, hln, hc, hc', hw]
        apply hK; clear hK hP
        refine afor_one ?_
        refine athen_normal.2 ?_
        refine ⟨_, ?_, i + 1, ?_, rfl, rfl, ?_, ?_, ?_⟩
        · omega
        · first | omega | trivial | assumption
        · simp only [go_sem, ↓reduceIte, e0_0, e0_2, e0_4, hx, hln, hc, hc', hw] <;> try rfl
        · simp only [go_sem, ↓reduceIte, e0_0, e0_2, e0_4, hx, hln, hc, hc', hw] <;> try rfl
        · simp only [go_sem, ↓reduceIte, e0_0, e0_2, e0_4, hx, hln, hc, hc', hw] <;> try rfl
    ·
      refine aw_exit ?_
      refine athen_exit.2 ?_
      refine afor_one ?_
      refine athen_exit.2 ?_
      refine ablock_here ?_
      refine athen_normal.2 ?_
      refine aw_sreg {} rfl rfl fun K KP hK hP => ?_
      simp only [go_sem, ↓reduceIte, e0_0, e0_2, e0_4, loadC_setA, hd]
      apply hK; clear hK hP
      refine aw_ret ?_
      simp only [go_sem, ↓reduceIte, e0_0, e0_2, e0_4, athen_ret, loadC_setA] <;> (
        have hi : i = s.length := by omega
        subst hi
        simp only [List.take_length]
        refine ⟨?_, trivial⟩
        refine (RFL_iff _).2 fun x hx => ?_
        obtain ⟨c, _, rfl⟩ := List.mem_map.1 hx
        trivial)
  ·
    refine ⟨_, 0, ?_, rfl, ?_, ?_, ?_, ?_⟩
    · first | omega | trivial | assumption
    · simp only [List.take_zero, setA_nil]
    · simp only [go_sem, ↓reduceIte] <;> try rfl
    · simp only [go_sem, ↓reduceIte] <;> try rfl
    · simp only [go_sem, ↓reduceIte] <;> try rfl
def digitsL : List UInt8 := [48, 49, 50, 51, 52, 53, 54, 55, 56, 57]
def trimS (s : List UInt8) : List UInt8 := (trimRi (fun c => decide (c ∈ digitsL)) s s.length).dropWhile fun c => decide (c ∈ digitsL)
theorem trim_call (s : List UInt8) (hl : s.length ≤ 4611686018427387904) : PCall CX 97 [.str s, .str digitsL] (· = .ret (.str (trimS s))) := by
  have hdl : ((digitsL.length : Nat) : Int) = 10 := rfl
  have hne : digitsL ≠ [] := by decide
  refine pcall_mk 0 43 [.tmp 4] Tryd.func97 rfl (by decide) rfl rfl rfl ?_
  refine aw_sreg {} rfl rfl fun K KP hK hP => ?_
  simp only [go_sem, ↓reduceIte]
  apply hK; clear hK hP
  refine aw_seq ?_
  by_cases c1 : s = []
  ·
    refine aw_sreg {} rfl rfl fun K KP hK hP => ?_
    simp only [go_sem, ↓reduceIte, c1, hne]
    apply hK; clear hK hP
    refine aw_if (True) (by simp only [go_sem, ↓reduceIte, c1]) (fun h1 => ?_) (fun h1 => ?_)
    ·
      refine aw_sreg {} rfl rfl fun K KP hK hP => ?_
      simp only [go_sem, ↓reduceIte, c1]
      apply hK; clear hK hP
      refine aw_ret ?_
      refine athen_ret.2 ?_
      simp only [go_sem, ↓reduceIte, c1, athen_ret] <;> (
        simp [trimS, trimRi, c1])
    ·
      exact absurd trivial h1
  ·
    refine aw_sreg {} rfl rfl fun K KP hK hP => ?_
    simp only [go_sem, ↓reduceIte, c1, hne]
    apply hK; clear hK hP
    refine aw_if (False) (by simp only [go_sem, ↓reduceIte, c1]) (fun h1 => ?_) (fun h1 => ?_)
    ·
      exact h1.elim
    ·
      refine aw_skip ?_
      refine athen_normal.2 ?_
      refine aw_seq ?_
      refine aw_sreg {} rfl rfl fun K KP hK hP => ?_
      simp only [go_sem, ↓reduceIte, c1, hdl]
      apply hK; clear hK hP
      refine aw_if (False) (by simp only [go_sem, ↓reduceIte, c1]) (fun h3 => ?_) (fun h3 => ?_)
      ·
        exact h3.elim
      ·
        refine aw_skip ?_
        refine athen_normal.2 ?_
        refine aw_seq ?_
        refine aw_sreg {} rfl (by simp only [allocObjs, go_sem]; rfl) fun K KP hK hP => ?_
        simp only [go_sem, ↓reduceIte, c1]
        refine CallP.ret (makeSet_call digitsL (by decide) (by decide)) (by simp only [go_sem]) ?_
        try simp only [go_sem, ↓reduceIte, c1]
        apply hK; clear hK hP
        refine aw_sreg {} rfl rfl fun K KP hK hP => ?_
        simp only [go_sem, ↓reduceIte, c1]
        apply hK; clear hK hP
        refine aw_if (True) (by simp only [go_sem, ↓reduceIte, c1]) (fun h6 => ?_) (fun h6 => ?_)
        ·
          refine aw_sreg { ac := [36, 37] } rfl rfl fun K KP hK hP => ?_
          simp only [go_sem, ↓reduceIte, c1]
          refine CallP.acall (trimRight_call _ _ 0 0 digitsL s rfl hl) ?_
          try simp only [go_sem, ↓reduceIte, c1]
          refine CallP.acall (trimLeft_call _ _ 0 0 digitsL _ rfl) ?_
          try simp only [go_sem, ↓reduceIte, c1]
          apply hK; clear hK hP
          refine aw_ret ?_
          refine athen_ret.2 ?_
          simp only [go_sem, ↓reduceIte, c1, athen_ret] <;> (
            rfl)
        ·
          exact absurd trivial h6
theorem dropWhile_nil (p : UInt8 → Bool) : ∀ l : List UInt8, l.dropWhile p = [] ↔ ∀ c ∈ l, p c = true
  | [] => by simp
  | c :: l => by
    rw [List.dropWhile_cons]
    split
    · rename_i h; rw [dropWhile_nil p l]; simp [h]
    · rename_i h; simp [h]
theorem trimRi_nil (p : UInt8 → Bool) (s : List UInt8) : ∀ i, i ≤ s.length → ((trimRi p s i).dropWhile p = [] ↔ ∀ c ∈ s.take i, p c = true)
  | 0, _ => by simp [trimRi]
  | i + 1, h => by
    have hx : s.getD i 0 = s[i] := by simp [show i < s.length by omega]
    simp only [trimRi, hx]
    rw [List.take_succ_eq_append_getElem (by omega)]
    split
    · rename_i hp
      rw [trimRi_nil p s i (by omega)]
      constructor
      · intro h1 c hc
        rcases List.mem_append.1 hc with hc | hc
        · exact h1 c hc
        · simp at hc; subst hc; exact hp
      · intro h1 c hc; exact h1 c (List.mem_append.2 (.inl hc))
    · rename_i hp
      constructor
      · intro h1
        exact (dropWhile_nil p _).1 h1
      · intro h1
        exact absurd (h1 s[i] (List.mem_append.2 (.inr (by simp)))) hp
def digitB (c : UInt8) : Bool := decide (c ∈ digitsL)
theorem trimS_nil (s : List UInt8) : trimS s = [] ↔ s.all digitB = true := by
  unfold trimS
  rw [trimRi_nil _ _ _ (Nat.le_refl _), List.take_length, List.all_eq_true]
  rfl
/-- Digits, or - and digits. -/
def cutMinus (s : List UInt8) : List UInt8 := if s.head? = some 45 then s.tail else s
def numericS (s : List UInt8) : Bool := decide (cutMinus s ≠ []) && (cutMinus s).all digitB
theorem cutMinus_eq (s : List UInt8) [Decidable ([45].length ≤ s.length ∧ s.take [45].length = [45])] : (if [45].length ≤ s.length ∧ s.take [45].length = [45] then s.drop [45].length else s) = cutMinus s := by
  unfold cutMinus
  cases s with
  | nil => simp
  | cons c r => by_cases h : c = 45 <;> simp [h]
theorem cutMinus_length (s : List UInt8) : (cutMinus s).length ≤ s.length := by
  unfold cutMinus
  split
  · simp
  · exact Nat.le_refl _
theorem numeric_call (s : List UInt8) (hl : s.length ≤ 4611686018427387904) : PCall CX 87 [.str s] (· = .ret (.bool (numericS s))) := by
  have hcl := cutMinus_length s
  refine pcall_mk 0 12 [.tmp 2] Tryd.func87 rfl (by decide) rfl rfl rfl ?_
  refine aw_sreg {} rfl rfl fun K KP hK hP => ?_
  simp only [go_sem, ↓reduceIte]
  apply hK; clear hK hP
  refine aw_sreg {} rfl rfl fun K KP hK hP => ?_
  simp only [go_sem, ↓reduceIte]
  refine CallP.ret ((trimPrefix_call s [45]).mono fun o h => h.trans (congrArg (fun x => AOut.ret (.str x)) (cutMinus_eq s))) (by simp only [go_sem]) ?_
  try simp only [go_sem, ↓reduceIte]
  apply hK; clear hK hP
  by_cases c2 : cutMinus s = []
  ·
    refine aw_sreg {} rfl rfl fun K KP hK hP => ?_
    simp only [go_sem, ↓reduceIte, c2]
    apply hK; clear hK hP
    refine aw_ret ?_
    simp only [go_sem, ↓reduceIte, c2, athen_ret] <;> (
      simp [numericS, c2])
  ·
    refine aw_sreg {} rfl rfl fun K KP hK hP => ?_
    simp only [go_sem, ↓reduceIte, c2]
    refine CallP.ret (trim_call (cutMinus s) (by omega)) (by simp only [go_sem]) ?_
    try simp only [go_sem, ↓reduceIte, c2]
    apply hK; clear hK hP
    refine aw_ret ?_
    simp only [go_sem, ↓reduceIte, c2, athen_ret] <;> (
      have hb : decide (trimS (cutMinus s) = []) = (cutMinus s).all digitB := by rw [Bool.eq_iff_iff, decide_eq_true_iff]; exact trimS_nil _
      rw [hb]
      simp [numericS, c2])

/-! ### IndexByte -/
theorem indexString_call (s : List UInt8) (c : UInt8) : PCall CX 122 [.str s, .int .u8 c.toNat] (· = .ret (.int .i64 (Lib.indexByte s c))) := by
  intro kn w vs hk hr
  obtain ⟨v, vs', rfl, h1, hr'⟩ := hr.uncons
  obtain ⟨u, vs'', rfl, h2, hr''⟩ := hr'.uncons
  have : vs'' = [] := List.eq_nil_of_length_eq_zero hr''.1.symm
  subst this
  cases h1
  cases h2
  refine .inr ⟨.int .i64 (Lib.indexByte s c), w, ?_, .ret (.int .i64 (Lib.indexByte s c)), kn, rfl, .int _ _, hk, Below.refl _ _, fun _ _ => rfl⟩
  refine (run_callFunc_extern (P := CX.P) (e := Extern.BytealgIndexByte.indexByte) (fn := Tryd.f122) Tryd.func122 (by decide) rfl (by kernel_rfl) (by kernel_rfl) _ w).trans ?_
  have h := Lib.run_indexByteString (P := CX.P) ⟨s.toArray⟩ c.toNat w
  rw [show (#[Value.string ⟨s.toArray⟩, .int .u8 (c.toNat : Int)] : Array Value) = [Value.string ⟨s.toArray⟩, .int .u8 (c.toNat : Int)].toArray from rfl] at h
  rw [h]
  simp [Result.andThen]
theorem slIndexByte_call (s : List UInt8) (c : UInt8) : PCall CX 111 [.str s, .int .u8 c.toNat] (· = .ret (.int .i64 (Lib.indexByte s c))) := by
  refine pcall_mk 0 8 [.tmp 4] Tryd.func111 rfl (by decide) rfl rfl rfl ?_
  refine aw_sreg {} rfl rfl fun K KP hK hP => ?_
  simp only [go_sem, ↓reduceIte]
  apply hK; clear hK hP
  refine aw_sreg {} rfl rfl fun K KP hK hP => ?_
  simp only [go_sem, ↓reduceIte]
  refine CallP.ret (indexString_call s c) (by simp only [go_sem]) ?_
  try simp only [go_sem, ↓reduceIte]
  apply hK; clear hK hP
  refine aw_ret ?_
  simp only [go_sem, ↓reduceIte, athen_ret]
theorem indexByte_call (s : List UInt8) (c : UInt8) : PCall CX 98 [.str s, .int .u8 c.toNat] (· = .ret (.int .i64 (Lib.indexByte s c))) := by
  refine pcall_mk 0 8 [.tmp 4] Tryd.func98 rfl (by decide) rfl rfl rfl ?_
  refine aw_sreg {} rfl rfl fun K KP hK hP => ?_
  simp only [go_sem, ↓reduceIte]
  apply hK; clear hK hP
  refine aw_sreg {} rfl rfl fun K KP hK hP => ?_
  simp only [go_sem, ↓reduceIte]
  refine CallP.ret (slIndexByte_call s c) (by simp only [go_sem]) ?_
  try simp only [go_sem, ↓reduceIte]
  apply hK; clear hK hP
  refine aw_ret ?_
  simp only [go_sem, ↓reduceIte, athen_ret]
def outsideS (c : UInt8) : Bool := decide (c.toNat < 33) || decide (126 < c.toNat) || decide (c ∈ ([40, 41, 34, 59] : List UInt8))
theorem indexByte_four (c : UInt8) : (0 ≤ Lib.indexByte [40, 41, 34, 59] c) ↔ c ∈ ([40, 41, 34, 59] : List UInt8) := by
  revert c
  have : ∀ n : Fin 256, (0 ≤ Lib.indexByte [40, 41, 34, 59] (UInt8.ofFin n)) ↔ (UInt8.ofFin n) ∈ ([40, 41, 34, 59] : List UInt8) := by decide +kernel
  exact fun c => this c.toFin
theorem outside_call (c : UInt8) : PCall CX 88 [.int .u8 c.toNat] (· = .ret (.bool (outsideS c))) := by
  refine pcall_mk 0 14 [.tmp 2] Tryd.func88 rfl (by decide) rfl rfl rfl ?_
  refine aw_sreg {} rfl rfl fun K KP hK hP => ?_
  simp only [go_sem, ↓reduceIte]
  apply hK; clear hK hP
  by_cases c1_0 : ((c.toNat : Nat) : Int) < 33
  ·
    refine aw_sreg {} rfl rfl fun K KP hK hP => ?_
    simp only [go_sem, ↓reduceIte, c1_0]
    apply hK; clear hK hP
    refine aw_ret ?_
    simp only [go_sem, ↓reduceIte, c1_0, athen_ret] <;> (
      have : c.toNat < 33 := by omega
      simp [outsideS, this])
  ·
    by_cases c1_1 : 126 < ((c.toNat : Nat) : Int)
    ·
      refine aw_sreg {} rfl rfl fun K KP hK hP => ?_
      simp only [go_sem, ↓reduceIte, c1_0, c1_1]
      apply hK; clear hK hP
      refine aw_ret ?_
      simp only [go_sem, ↓reduceIte, c1_0, c1_1, athen_ret] <;> (
        have : 126 < c.toNat := by omega
        simp [outsideS, this])
    ·
      refine aw_sreg {} rfl rfl fun K KP hK hP => ?_
      simp only [go_sem, ↓reduceIte, c1_0, c1_1]
      refine CallP.ret (indexByte_call _ c) (by simp only [go_sem]) ?_
      try simp only [go_sem, ↓reduceIte, c1_0, c1_1]
      apply hK; clear hK hP
      refine aw_ret ?_
      simp only [go_sem, ↓reduceIte, c1_0, c1_1, athen_ret] <;> (
        have h1 : ¬ c.toNat < 33 := by omega
        have h2 : ¬ 126 < c.toNat := by omega
        have h3 : decide (0 ≤ Lib.indexByte [40, 41, 34, 59] c) = decide (c ∈ ([40, 41, 34, 59] : List UInt8)) := by rw [Bool.eq_iff_iff, decide_eq_true_iff, decide_eq_true_iff]; exact indexByte_four c
        rw [h3]
        simp [outsideS, h1, h2])
end Go.Ab

/-
  TEXTS: signatures of what package strings and the reader do with them.
-/
set_option linter.unusedVariables false
set_option maxRecDepth 100000
namespace Go.Ab
open Go Go.RowKit Go.Proofs
/-! copies -/
def cloneF {α : Type} (b : Nat) (l : List α) : Option (Unit × List α × Unit) := cond (decide (l.length * b ≤ 140737488355328)) (some ((), (l, ()))) none
/-! texts -/
noncomputable def numericF (s : List UInt8) : Option Bool := if s.length ≤ 4611686018427387904 then some (numericS s) else none
noncomputable def S_numeric : Sig := .n [.d .str] (.d .bool) (fun x => numericF x.1)
theorem S_numeric_ok : SigOK CX 87 S_numeric := fun x r h => by
  have h : numericF x.1 = some r := h
  unfold numericF at h
  split at h
  · rename_i hl; cases h; exact numeric_call x.1 hl
  · cases h
noncomputable def outsideF (c : Int) : Option Bool := if 0 ≤ c ∧ c < 256 then some (outsideS (UInt8.ofNat c.toNat)) else none
noncomputable def S_outside : Sig := .n [.d (.int .u8)] (.d .bool) (fun x => outsideF x.1)
theorem u8_of {c : Int} (h : 0 ≤ c ∧ c < 256) : ((UInt8.ofNat c.toNat).toNat : Int) = c := by
  have e : c.toNat < 2 ^ 8 := by omega
  rw [UInt8.toNat_ofNat_of_lt' e]; omega
theorem outsideF_ok (c : Int) (r : Bool) (h : outsideF c = some r) : PCall CX 88 [.int .u8 c] (fun o => o = .ret (.bool r)) := by
  unfold outsideF at h
  split at h
  · rename_i hl
    cases h
    have := outside_call (UInt8.ofNat c.toNat)
    rw [u8_of hl] at this
    exact this
  · cases h
theorem S_outside_ok : SigOK CX 88 S_outside := fun x r h => outsideF_ok x.1 r h

noncomputable def indexByteF (s : List UInt8) (c : Int) : Option Int := if 0 ≤ c ∧ c < 256 then some (Lib.indexByte s (UInt8.ofNat c.toNat)) else none
noncomputable def S_indexByte : Sig := .n [.d .str, .d (.int .u8)] (.d (.int .i64)) (fun x => indexByteF x.1 x.2.1)
theorem indexByteF_ok (s : List UInt8) (c : Int) (r : Int) (h : indexByteF s c = some r) : PCall CX 98 [.str s, .int .u8 c] (fun o => o = .ret (.int .i64 r)) := by
  unfold indexByteF at h
  split at h
  · rename_i hl
    cases h
    have := indexByte_call s (UInt8.ofNat c.toNat)
    rw [u8_of hl] at this
    exact this
  · cases h
theorem S_indexByte_ok : SigOK CX 98 S_indexByte := fun x r h => indexByteF_ok x.1 x.2.1 r h
def hasPrefixF (s p : List UInt8) : Bool := decide (p.length ≤ s.length ∧ s.take p.length = p)
def trimPrefixF (s p : List UInt8) : List UInt8 := if p.length ≤ s.length ∧ s.take p.length = p then s.drop p.length else s
noncomputable def S_hasPrefix : Sig := .n [.d .str, .d .str] (.d .bool) (fun x => some (hasPrefixF x.1 x.2.1))
theorem S_hasPrefix_ok : SigOK CX 117 S_hasPrefix := fun x r h => by cases h; exact hasPrefix_call x.1 x.2.1
noncomputable def S_trimPrefix : Sig := .n [.d .str, .d .str] (.d .str) (fun x => some (trimPrefixF x.1 x.2.1))
theorem S_trimPrefix_ok : SigOK CX 96 S_trimPrefix := fun x r h => by cases h; exact trimPrefix_call x.1 x.2.1
end Go.Ab

set_option linter.unusedVariables false
set_option maxRecDepth 100000
namespace Go.Ab
open Go Go.RowKit Go.Proofs
/-! forms -/
noncomputable def G_sign (x0 : Bool) (x1 : Bool) : Option (Int) := (
 cond x0 (some (-1)) (cond x1 (some 1) (some 0)))
def A_sign : An := .leaf
def H_sign : Nat → RH := fun _ => {}
noncomputable def S_sign : Sig := .n [(.d .bool), (.d .bool)] (.d (.int .i64)) (fun x => G_sign x.1 x.2.1)
theorem S_sign_ok : SigOK CX 59 S_sign := sigN_of (l := []) trivial (hint := H_sign) (an := A_sign) (fun x => by kernel_rfl)
noncomputable def G_kids (x0 : Fm) : Option (List Fm) := (
 cond (decide (x0.k = 3)) (some x0.l) (some ([] : List Fm)))
def A_kids : An := .leaf
def H_kids : Nat → RH := fun _ => {}
noncomputable def S_kids : Sig := .n [(.d .form)] (.d (.slice .form)) (fun x => G_kids x.1)
theorem S_kids_ok : SigOK CX 61 S_kids := sigN_of (l := []) trivial (hint := H_kids) (an := A_kids) (fun x => by kernel_rfl)
noncomputable def G_size (k : Nat) (x0 : Fm) : Option (Int) := match k with
| 0 => none
| k + 1 => (
 Option.bind (α := (Int × Unit) × (Unit))
 (Option.bind (α := List Fm) (G_kids (Fm.eta x0)) fun r1 => (
 loopM (L := (Int × (List Fm) × Int × Int × Unit) × (Unit)) (R := (Int × Unit) × (Unit)) (fun d2 => (
 let v3_3 := d2.1.1
 let v7_4 := d2.1.2.1
 let v8_5 := d2.1.2.2.1
 let v9_6 := d2.1.2.2.2.1
 cond (decide (v9_6 < v8_5)) (cond (ixOK v9_6 v7_4.length) (Option.bind (α := Int) (G_size k (Fm.eta (v7_4.getD v9_6.toNat (Fm.mk 0 0 [] [])))) fun r7 => (
 some (Step.next ((IntKind.wrap .i64 (v3_3 + r7), v7_4, v8_5, IntKind.wrap .i64 (v9_6 + 1), ()), ())))) none) (some (Step.done ((v3_3, ()), ()))))) ((1, r1, (r1.length : Int), 0, ()), ()))) fun d8 => (
 let v3_9 := d8.1.1
 some v3_9))
def A_size : An := .seq (.leaf) (.seq (.leaf) (.join false { env := [(3, (.d (.int .i64)))], objs := [] } (.seq (.leaf) (.block (.loop { env := [(3, (.d (.int .i64))), (7, (.d (.slice .form))), (8, (.d (.int .i64))), (9, (.d (.int .i64)))], objs := [] } (.leaf)))) (.leaf)))
def H_size : Nat → RH := fun _ => {}
noncomputable def S_size (k : Nat) : Sig := .n [(.d .form)] (.d (.int .i64)) (fun x => G_size k x.1)
theorem S_size_rec : ∀ k, SigOK CX 28 (S_size k)
| 0 => fun x r h => by cases h
| k + 1 => by
  have ih := S_size_rec k
  exact sigN_of (l := [(61, S_kids), (28, (S_size k))]) ⟨S_kids_ok, ih, trivial⟩ (hint := H_size) (an := A_size) (fun x => by kernel_rfl)
theorem S_size_ok : ∀ k, SigOK CX 28 (S_size k) := fun k => S_size_rec k
noncomputable def L_size (x0 : Fm) : Option (Int) := limF fun k => G_size k x0
noncomputable def S_size_l : Sig := .n [(.d .form)] (.d (.int .i64)) (fun x => L_size x.1)
theorem S_size_l_ok : SigOK CX 28 S_size_l := SigOK.limN S_size_ok fun x r h => limF_ex h
noncomputable def G_depth (k : Nat) (x0 : Fm) : Option (Int) := match k with
| 0 => none
| k + 1 => (
 Option.bind (α := (Int × Unit) × (Unit))
 (Option.bind (α := List Fm) (G_kids (Fm.eta x0)) fun r1 => (
 loopM (L := (Int × (List Fm) × Int × Int × Unit) × (Unit)) (R := (Int × Unit) × (Unit)) (fun d2 => (
 let v3_3 := d2.1.1
 let v7_4 := d2.1.2.1
 let v8_5 := d2.1.2.2.1
 let v9_6 := d2.1.2.2.2.1
 cond (decide (v9_6 < v8_5)) (cond (ixOK v9_6 v7_4.length) (Option.bind (α := Int) (G_depth k (Fm.eta (v7_4.getD v9_6.toNat (Fm.mk 0 0 [] [])))) fun r7 => (
 some (Step.next (((if r7 > v3_3 then r7 else v3_3), v7_4, v8_5, IntKind.wrap .i64 (v9_6 + 1), ()), ())))) none) (some (Step.done ((v3_3, ()), ()))))) ((0, r1, (r1.length : Int), 0, ()), ()))) fun d8 => (
 let v3_9 := d8.1.1
 some (IntKind.wrap .i64 (v3_9 + 1))))
def A_depth : An := .seq (.leaf) (.seq (.leaf) (.join false { env := [(3, (.d (.int .i64)))], objs := [] } (.seq (.leaf) (.block (.loop { env := [(3, (.d (.int .i64))), (7, (.d (.slice .form))), (8, (.d (.int .i64))), (9, (.d (.int .i64)))], objs := [] } (.leaf)))) (.leaf)))
def H_depth : Nat → RH := fun _ => {}
noncomputable def S_depth (k : Nat) : Sig := .n [(.d .form)] (.d (.int .i64)) (fun x => G_depth k x.1)
theorem S_depth_rec : ∀ k, SigOK CX 29 (S_depth k)
| 0 => fun x r h => by cases h
| k + 1 => by
  have ih := S_depth_rec k
  exact sigN_of (l := [(61, S_kids), (29, (S_depth k))]) ⟨S_kids_ok, ih, trivial⟩ (hint := H_depth) (an := A_depth) (fun x => by kernel_rfl)
theorem S_depth_ok : ∀ k, SigOK CX 29 (S_depth k) := fun k => S_depth_rec k
noncomputable def L_depth (x0 : Fm) : Option (Int) := limF fun k => G_depth k x0
noncomputable def S_depth_l : Sig := .n [(.d .form)] (.d (.int .i64)) (fun x => L_depth x.1)
theorem S_depth_l_ok : SigOK CX 29 S_depth_l := SigOK.limN S_depth_ok fun x r h => limF_ex h
noncomputable def G_head (x0 : Fm) : Option (List UInt8) := (
 Option.bind (α := List Fm) (G_kids (Fm.eta x0)) fun r1 => (
 cond ((ixOK 0 r1.length) || !(decide ((r1.length : Int) > 0))) (cond (cond (decide ((r1.length : Int) > 0)) (decide ((r1.getD (0 : Int).toNat (Fm.mk 0 0 [] [])).k = 1)) false) (cond (ixOK 0 r1.length) (some ((r1.getD (0 : Int).toNat (Fm.mk 0 0 [] [])).t)) none) (some ([]))) none))
def A_head : An := .leaf
def H_head : Nat → RH := fun _ => {}
noncomputable def S_head : Sig := .n [(.d .form)] (.d .str) (fun x => G_head x.1)
theorem S_head_ok : SigOK CX 43 S_head := sigN_of (l := [(61, S_kids)]) ⟨S_kids_ok, trivial⟩ (hint := H_head) (an := A_head) (fun x => by kernel_rfl)
noncomputable def G_at (x0 : Fm) (x1 : List Int) : Option (Fm × Int × Unit) := (
 Option.bind (α := Step ((Unit × Unit × Unit) × ((Int × Int × (List UInt8) × (List Fm) × Unit) × (Int × Int × (List UInt8) × Unit × Unit) × Unit)) (Fm × Int × Unit))
 (loopM (L := (Unit × Unit × (List Int) × Int × Int × Unit) × ((Int × Int × (List UInt8) × (List Fm) × Unit) × (Int × Int × (List UInt8) × Unit × Unit) × Unit)) (R := Step ((Unit × Unit × Unit) × ((Int × Int × (List UInt8) × (List Fm) × Unit) × (Int × Int × (List UInt8) × Unit × Unit) × Unit)) (Fm × Int × Unit)) (fun d1 => (
 let c2 := d1.2.1.1
 let c3 := d1.2.1.2.1
 let c4 := d1.2.1.2.2.1
 let c5 := d1.2.1.2.2.2.1
 let v9_6 := d1.1.2.2.1
 let v10_7 := d1.1.2.2.2.1
 let v11_8 := d1.1.2.2.2.2.1
 cond (decide (v11_8 < v10_7)) (cond (ixOK v11_8 v9_6.length) (Option.bind (α := List Fm) (G_kids (Fm.mk c2 c3 c4 c5)) fun r9 => (
 cond (cond (decide ((v9_6.getD v11_8.toNat (0 : Int)) < 0)) true (decide ((v9_6.getD v11_8.toNat (0 : Int)) ≥ (r9.length : Int)))) (some (Step.done (Step.done ((Fm.mk 0 0 ([]) ([] : List Fm)), 3, ())))) (cond (ixOK (v9_6.getD v11_8.toNat (0 : Int)) r9.length) (some (Step.next (((), (), v9_6, v10_7, IntKind.wrap .i64 (v11_8 + 1), ()), (((r9.getD (v9_6.getD v11_8.toNat (0 : Int)).toNat (Fm.mk 0 0 [] [])).k, (r9.getD (v9_6.getD v11_8.toNat (0 : Int)).toNat (Fm.mk 0 0 [] [])).n, (r9.getD (v9_6.getD v11_8.toNat (0 : Int)).toNat (Fm.mk 0 0 [] [])).t, (r9.getD (v9_6.getD v11_8.toNat (0 : Int)).toNat (Fm.mk 0 0 [] [])).l, ()), (d1.2.2.1.1, d1.2.2.1.2.1, d1.2.2.1.2.2.1, (), ()), ())))) none))) none) (some (Step.done (Step.next (((), (), ()), ((c2, c3, c4, c5, ()), (d1.2.2.1.1, d1.2.2.1.2.1, d1.2.2.1.2.2.1, (), ()), ()))))))) (((), (), x1, (x1.length : Int), 0, ()), ((x0.k, x0.n, x0.t, x0.l, ()), (0, 0, [], (), ()), ()))) fun qd10 => match qd10 with
 | .next d10 => (
 let c11 := d10.2.1.1
 let c12 := d10.2.1.2.1
 let c13 := d10.2.1.2.2.1
 let c14 := d10.2.1.2.2.2.1
 some ((Fm.mk c11 c12 c13 c14), 0, ()))
 | .done r => some r)
def A_at : An := .seq (.leaf) (.join true { env := [(2, (.ref 0 0)), (4, (.ref 1 0))], objs := [(false, .cells 24 [(.d (.int .i64)), (.d (.int .i64)), (.d .str), (.d (.slice .form))]), (false, .cells 24 [(.d (.int .i64)), (.d (.int .i64)), (.d .str), (.c (.base (.slice none 0 0)))])] } (.seq (.leaf) (.block (.loop { env := [(2, (.ref 0 0)), (4, (.ref 1 0)), (9, (.d (.slice (.int .i64)))), (10, (.d (.int .i64))), (11, (.d (.int .i64)))], objs := [(false, .cells 24 [(.d (.int .i64)), (.d (.int .i64)), (.d .str), (.d (.slice .form))]), (false, .cells 24 [(.d (.int .i64)), (.d (.int .i64)), (.d .str), (.c (.base (.slice none 0 0)))])] } (.leaf)))) (.leaf))
def H_at : Nat → RH := fun r => match r with
  | 0 => { H := { mb := [2] } }
  | _ => {}
noncomputable def S_at : Sig := .n [(.d .form), (.d (.slice (.int .i64)))] (.tup [(.d .form), (.d (.int .i64))]) (fun x => G_at x.1 x.2.1)
theorem S_at_ok : SigOK CX 27 S_at := sigN_of (l := [(61, S_kids)]) ⟨S_kids_ok, trivial⟩ (hint := H_at) (an := A_at) (fun x => by kernel_rfl)
noncomputable def G_isNaNi (x0 : Int) : Option (Bool) := (
 some (!decide (x0 = x0)))
def A_isNaNi : An := .leaf
def H_isNaNi : Nat → RH := fun _ => {}
noncomputable def S_isNaNi : Sig := .n [(.d (.int .i64))] (.d .bool) (fun x => G_isNaNi x.1)
theorem S_isNaNi_ok : SigOK CX 75 S_isNaNi := sigN_of (l := []) trivial (hint := H_isNaNi) (an := A_isNaNi) (fun x => by kernel_rfl)
noncomputable def G_isNaNs (x0 : List UInt8) : Option (Bool) := (
 some (!decide (x0 = x0)))
def A_isNaNs : An := .leaf
def H_isNaNs : Nat → RH := fun _ => {}
noncomputable def S_isNaNs : Sig := .n [(.d .str)] (.d .bool) (fun x => G_isNaNs x.1)
theorem S_isNaNs_ok : SigOK CX 76 S_isNaNs := sigN_of (l := []) trivial (hint := H_isNaNs) (an := A_isNaNs) (fun x => by kernel_rfl)
noncomputable def G_cmpi (x0 : Int) (x1 : Int) : Option (Int) := (
 Option.bind (α := Bool) (G_isNaNi x0) fun r1 => (
 Option.bind (α := Bool) (G_isNaNi x1) fun r2 => (
 cond r1 (cond r2 (some 0) (some (-1))) (cond r2 (some 1) (cond (decide (x0 < x1)) (some (-1)) (cond (decide (x0 > x1)) (some 1) (some 0)))))))
def A_cmpi : An := .leaf
def H_cmpi : Nat → RH := fun _ => {}
noncomputable def S_cmpi : Sig := .n [(.d (.int .i64)), (.d (.int .i64))] (.d (.int .i64)) (fun x => G_cmpi x.1 x.2.1)
theorem S_cmpi_ok : SigOK CX 56 S_cmpi := sigN_of (l := [(75, S_isNaNi)]) ⟨S_isNaNi_ok, trivial⟩ (hint := H_cmpi) (an := A_cmpi) (fun x => by kernel_rfl)
noncomputable def G_cmps (x0 : List UInt8) (x1 : List UInt8) : Option (Int) := (
 Option.bind (α := Bool) (G_isNaNs x0) fun r1 => (
 Option.bind (α := Bool) (G_isNaNs x1) fun r2 => (
 cond r1 (cond r2 (some 0) (some (-1))) (cond r2 (some 1) (cond (Op.bytesLess x0 x1) (some (-1)) (cond (!(Op.bytesLess x0 x1 || decide (x0 = x1))) (some 1) (some 0)))))))
def A_cmps : An := .leaf
def H_cmps : Nat → RH := fun _ => {}
noncomputable def S_cmps : Sig := .n [(.d .str), (.d .str)] (.d (.int .i64)) (fun x => G_cmps x.1 x.2.1)
theorem S_cmps_ok : SigOK CX 57 S_cmps := sigN_of (l := [(76, S_isNaNs)]) ⟨S_isNaNs_ok, trivial⟩ (hint := H_cmps) (an := A_cmps) (fun x => by kernel_rfl)
noncomputable def G_refCompare (k : Nat) (x0 : Fm) (x1 : Fm) : Option (Int) := match k with
| 0 => none
| k + 1 => (
 cond (!decide (x0.k = x1.k)) (Option.bind (α := Int) (G_sign (decide (x0.k < x1.k)) (decide (x0.k > x1.k))) fun r1 => (
 some r1)) (Option.bind (α := Step ((Unit) × (Unit)) (Int))
 (cond (decide (x0.k = 0)) (Option.bind (α := Int) (G_sign (decide (x0.n < x1.n)) (decide (x0.n > x1.n))) fun r2 => (
 some (Step.done r2))) (Option.bind (α := ((Int × Int × (List UInt8) × (List Fm) × Unit) × (Int × Int × (List UInt8) × (List Fm) × Unit) × Int × Bool × Unit) × (Unit))
 (cond (decide (x0.k = 1)) (some (((x0.k, x0.n, x0.t, x0.l, ()), (x1.k, x1.n, x1.t, x1.l, ()), x0.k, decide (x0.k = 1), ()), ())) (some (((x0.k, x0.n, x0.t, x0.l, ()), (x1.k, x1.n, x1.t, x1.l, ()), x0.k, decide (x0.k = 2), ()), ()))) fun d3 => (
 let v24_4 := d3.1.2.2.1
 let v38_5 := d3.1.2.2.2.1
 cond v38_5 (Option.bind (α := Int) (G_sign (Op.bytesLess d3.1.1.2.2.1 d3.1.2.1.2.2.1) (!(Op.bytesLess d3.1.1.2.2.1 d3.1.2.1.2.2.1 || decide (d3.1.1.2.2.1 = d3.1.2.1.2.2.1)))) fun r6 => (
 some (Step.done r6))) (cond (decide (v24_4 = 3)) (Option.bind (α := Step (((Int × Int × (List UInt8) × (List Fm) × Unit) × (Int × Int × (List UInt8) × (List Fm) × Unit) × Unit) × (Unit)) (Step ((Unit) × (Unit)) (Int)))
 (loopM (L := ((Int × Int × (List UInt8) × (List Fm) × Unit) × (Int × Int × (List UInt8) × (List Fm) × Unit) × Int × Unit) × (Unit)) (R := Step (((Int × Int × (List UInt8) × (List Fm) × Unit) × (Int × Int × (List UInt8) × (List Fm) × Unit) × Unit) × (Unit)) (Step ((Unit) × (Unit)) (Int))) (fun d7 => (
 let v5_8 := d7.1.2.2.1
 cond (cond (decide (v5_8 < (d7.1.1.2.2.2.1.length : Int))) (decide (v5_8 < (d7.1.2.1.2.2.2.1.length : Int))) false) (cond (ixOK v5_8 d7.1.1.2.2.2.1.length) (cond (ixOK v5_8 d7.1.2.1.2.2.2.1.length) (Option.bind (α := Int) (G_refCompare k (Fm.eta (d7.1.1.2.2.2.1.getD v5_8.toNat (Fm.mk 0 0 [] []))) (Fm.eta (d7.1.2.1.2.2.2.1.getD v5_8.toNat (Fm.mk 0 0 [] [])))) fun r9 => (
 cond (!decide (r9 = 0)) (some (Step.done (Step.done (Step.done r9)))) (some (Step.next (((d7.1.1.1, d7.1.1.2.1, d7.1.1.2.2.1, d7.1.1.2.2.2.1, ()), (d7.1.2.1.1, d7.1.2.1.2.1, d7.1.2.1.2.2.1, d7.1.2.1.2.2.2.1, ()), IntKind.wrap .i64 (v5_8 + 1), ()), ()))))) none) none) (some (Step.done (Step.next (((d7.1.1.1, d7.1.1.2.1, d7.1.1.2.2.1, d7.1.1.2.2.2.1, ()), (d7.1.2.1.1, d7.1.2.1.2.1, d7.1.2.1.2.2.1, d7.1.2.1.2.2.2.1, ()), ()), ())))))) (((d3.1.1.1, d3.1.1.2.1, d3.1.1.2.2.1, d3.1.1.2.2.2.1, ()), (d3.1.2.1.1, d3.1.2.1.2.1, d3.1.2.1.2.2.1, d3.1.2.1.2.2.2.1, ()), 0, ()), ())) fun qd10 => match qd10 with
 | .next d10 => (
 Option.bind (α := Int) (G_sign (decide ((d10.1.1.2.2.2.1.length : Int) < (d10.1.2.1.2.2.2.1.length : Int))) (decide ((d10.1.1.2.2.2.1.length : Int) > (d10.1.2.1.2.2.2.1.length : Int)))) fun r11 => (
 some (Step.done r11)))
 | .done r => some r) (some (Step.next ((), ()))))))) fun qd12 => match qd12 with
 | .next d12 => (
 some 0)
 | .done r => some r))
def A_refCompare : An := .seq (.leaf) (.seq (.leaf) (.join true { env := [], objs := [] } (.seq (.leaf) (.block (.seq (.leaf) (.cond (.leaf) (.join false { env := [(2, (.rptr [(.d (.int .i64)), (.d (.int .i64)), (.d .str), (.d (.slice .form))])), (3, (.rptr [(.d (.int .i64)), (.d (.int .i64)), (.d .str), (.d (.slice .form))])), (24, (.d (.int .i64))), (38, (.d .bool))], objs := [] } (.leaf) (.cond (.leaf) (.seq (.leaf) (.cond (.join true { env := [(2, (.rptr [(.d (.int .i64)), (.d (.int .i64)), (.d .str), (.d (.slice .form))])), (3, (.rptr [(.d (.int .i64)), (.d (.int .i64)), (.d .str), (.d (.slice .form))]))], objs := [] } (.seq (.leaf) (.block (.loop { env := [(2, (.rptr [(.d (.int .i64)), (.d (.int .i64)), (.d .str), (.d (.slice .form))])), (3, (.rptr [(.d (.int .i64)), (.d (.int .i64)), (.d .str), (.d (.slice .form))])), (5, (.d (.int .i64)))], objs := [] } (.leaf)))) (.leaf)) (.leaf))))))))) (.leaf)))
def H_refCompare : Nat → RH := fun r => match r with
  | 13 => { H := { pl := [69, 72, 74, 77] } }
  | _ => {}
noncomputable def S_refCompare (k : Nat) : Sig := .n [(.d .form), (.d .form)] (.d (.int .i64)) (fun x => G_refCompare k x.1 x.2.1)
theorem S_refCompare_rec : ∀ k, SigOK CX 24 (S_refCompare k)
| 0 => fun x r h => by cases h
| k + 1 => by
  have ih := S_refCompare_rec k
  exact sigN_of (l := [(59, S_sign), (24, (S_refCompare k))]) ⟨S_sign_ok, ih, trivial⟩ (hint := H_refCompare) (an := A_refCompare) (fun x => by kernel_rfl)
theorem S_refCompare_ok : ∀ k, SigOK CX 24 (S_refCompare k) := fun k => S_refCompare_rec k
noncomputable def L_refCompare (x0 : Fm) (x1 : Fm) : Option (Int) := limF fun k => G_refCompare k x0 x1
noncomputable def S_refCompare_l : Sig := .n [(.d .form), (.d .form)] (.d (.int .i64)) (fun x => L_refCompare x.1 x.2.1)
theorem S_refCompare_l_ok : SigOK CX 24 S_refCompare_l := SigOK.limN S_refCompare_ok fun x r h => limF_ex h
mutual
noncomputable def G_compare (k : Nat) (x0 : Fm) (x1 : Fm) : Option (Int) := match k with
| 0 => none
| k + 1 => (
 cond (!decide (x0.k = x1.k)) (Option.bind (α := Int) (G_cmpi x0.k x1.k) fun r1 => (
 some r1)) (cond (decide (x0.k = 0)) (Option.bind (α := Int) (G_cmpi x0.n x1.n) fun r2 => (
 some r2)) (Option.bind (α := ((Int × Int × (List UInt8) × (List Fm) × Unit) × (Int × Int × (List UInt8) × (List Fm) × Unit) × Int × Bool × Unit) × (Unit))
 (cond (decide (x0.k = 1)) (some (((x0.k, x0.n, x0.t, x0.l, ()), (x1.k, x1.n, x1.t, x1.l, ()), x0.k, decide (x0.k = 1), ()), ())) (some (((x0.k, x0.n, x0.t, x0.l, ()), (x1.k, x1.n, x1.t, x1.l, ()), x0.k, decide (x0.k = 2), ()), ()))) fun d3 => (
 let v16_4 := d3.1.2.2.1
 let v24_5 := d3.1.2.2.2.1
 cond v24_5 (Option.bind (α := Int) (G_cmps d3.1.1.2.2.1 d3.1.2.1.2.2.1) fun r6 => (
 some r6)) (cond (decide (v16_4 = 3)) (Option.bind (α := Int) (G_compareFunc k d3.1.1.2.2.2.1 d3.1.2.1.2.2.2.1 ()) fun r7 => (
 some r7)) (some 0))))))
noncomputable def G_compareFunc (k : Nat) (x0 : List Fm) (x1 : List Fm) (x2 : Unit) : Option (Int) := match k with
| 0 => none
| k + 1 => (
 Option.bind (α := Step (((List Fm) × (List Fm) × Unit) × (Unit)) (Int))
 (loopM (L := ((List Fm) × (List Fm) × Unit × (List Fm) × Int × Int × Unit) × (Unit)) (R := Step (((List Fm) × (List Fm) × Unit) × (Unit)) (Int)) (fun d1 => (
 let v0_2 := d1.1.1
 let v1_3 := d1.1.2.1
 let v11_4 := d1.1.2.2.2.1
 let v12_5 := d1.1.2.2.2.2.1
 let v13_6 := d1.1.2.2.2.2.2.1
 cond (decide (v13_6 < v12_5)) (cond (ixOK v13_6 v11_4.length) (cond (decide (v13_6 ≥ (v1_3.length : Int))) (some (Step.done (Step.done 1))) (cond (ixOK v13_6 v1_3.length) (Option.bind (α := Int) (G_compare k (Fm.eta (v11_4.getD v13_6.toNat (Fm.mk 0 0 [] []))) (Fm.eta (v1_3.getD v13_6.toNat (Fm.mk 0 0 [] [])))) fun r7 => (
 cond (!decide (r7 = 0)) (some (Step.done (Step.done r7))) (some (Step.next ((v0_2, v1_3, (), v11_4, v12_5, IntKind.wrap .i64 (v13_6 + 1), ()), ()))))) none)) none) (some (Step.done (Step.next ((v0_2, v1_3, ()), ())))))) ((x0, x1, (), x0, (x0.length : Int), 0, ()), ())) fun qd8 => match qd8 with
 | .next d8 => (
 let v0_9 := d8.1.1
 let v1_10 := d8.1.2.1
 cond (decide ((v0_9.length : Int) < (v1_10.length : Int))) (some (-1)) (some 0))
 | .done r => some r)
end
def A_compare : An := .seq (.leaf) (.seq (.leaf) (.seq (.seq (.leaf) (.block (.seq (.leaf) (.cond (.leaf) (.join false { env := [(2, (.rptr [(.d (.int .i64)), (.d (.int .i64)), (.d .str), (.d (.slice .form))])), (3, (.rptr [(.d (.int .i64)), (.d (.int .i64)), (.d .str), (.d (.slice .form))])), (16, (.d (.int .i64))), (24, (.d .bool))], objs := [] } (.leaf) (.leaf)))))) (.leaf)))
def H_compare : Nat → RH := fun _ => {}
noncomputable def S_compare (k : Nat) : Sig := .n [(.d .form), (.d .form)] (.d (.int .i64)) (fun x => G_compare k x.1 x.2.1)
def A_compareFunc : An := .seq (.leaf) (.join true { env := [(0, (.d (.slice .form))), (1, (.d (.slice .form)))], objs := [] } (.seq (.leaf) (.block (.loop { env := [(0, (.d (.slice .form))), (1, (.d (.slice .form))), (2, (.c (.fn (.func 23) [] []))), (11, (.d (.slice .form))), (12, (.d (.int .i64))), (13, (.d (.int .i64)))], objs := [] } (.leaf)))) (.leaf))
def H_compareFunc : Nat → RH := fun _ => {}
noncomputable def S_compareFunc (k : Nat) : Sig := .n [(.d (.slice .form)), (.d (.slice .form)), (.c (.fn (.func 23) [] []))] (.d (.int .i64)) (fun x => G_compareFunc k x.1 x.2.1 x.2.2.1)
theorem S_compare_compareFunc_rec : ∀ k, SigOK CX 23 (S_compare k) ∧ SigOK CX 58 (S_compareFunc k)
| 0 => ⟨(fun x r h => by cases h), (fun x r h => by cases h)⟩
| k + 1 => by
  have ih := S_compare_compareFunc_rec k
  obtain ⟨ih0, ih1⟩ := ih
  exact ⟨sigN_of (l := [(56, S_cmpi), (57, S_cmps), (58, (S_compareFunc k))]) ⟨S_cmpi_ok, S_cmps_ok, ih1, trivial⟩ (hint := H_compare) (an := A_compare) (fun x => by kernel_rfl),
    sigN_of (l := [(23, (S_compare k))]) ⟨ih0, trivial⟩ (hint := H_compareFunc) (an := A_compareFunc) (fun x => by kernel_rfl)⟩
theorem S_compare_ok : ∀ k, SigOK CX 23 (S_compare k) := fun k => (S_compare_compareFunc_rec k).1
theorem S_compareFunc_ok : ∀ k, SigOK CX 58 (S_compareFunc k) := fun k => (S_compare_compareFunc_rec k).2
noncomputable def L_compare (x0 : Fm) (x1 : Fm) : Option (Int) := limF fun k => G_compare k x0 x1
noncomputable def S_compare_l : Sig := .n [(.d .form), (.d .form)] (.d (.int .i64)) (fun x => L_compare x.1 x.2.1)
theorem S_compare_l_ok : SigOK CX 23 S_compare_l := SigOK.limN S_compare_ok fun x r h => limF_ex h
noncomputable def L_compareFunc (x0 : List Fm) (x1 : List Fm) (x2 : Unit) : Option (Int) := limF fun k => G_compareFunc k x0 x1 x2
noncomputable def S_compareFunc_l : Sig := .n [(.d (.slice .form)), (.d (.slice .form)), (.c (.fn (.func 23) [] []))] (.d (.int .i64)) (fun x => L_compareFunc x.1 x.2.1 x.2.2.1)
theorem S_compareFunc_l_ok : SigOK CX 58 S_compareFunc_l := SigOK.limN S_compareFunc_ok fun x r h => limF_ex h
noncomputable def G_clone_ne (x0 : List Fm) : Option ((Unit) × ((List Fm) × Unit)) := (
 cond (!x0.isEmpty) (cond (decide ((([] : List Fm).length + x0.length) * 56 ≤ 140737488355328)) (some ((), (([] : List Fm) ++ x0, ()))) none) none)
def A_clone_ne : An := .leaf
def H_clone_ne : Nat → RH := fun r => match r with
  | 3 => { H := { mb := [5], ty := [(5, .form), (7, .form)] } }
  | _ => {}
noncomputable def S_clone_ne : Sig := .o { pre := [], args := [(.d (.slice .form))], post := [(false, .tg .form 24)], res := (.gs 0 .form), f := fun x => G_clone_ne x.1.1 }
theorem S_clone_ne_ok : SigOK CX 78 S_clone_ne := sigO_of (l := []) trivial (hint := H_clone_ne) (an := A_clone_ne) (by kernel_rfl) (fun x => by kernel_rfl)
noncomputable def G_clone_nil  : Option ((Unit) × ((List Fm) × Unit)) := (
 some ((), (([] : List Fm), ())))
def A_clone_nil : An := .leaf
def H_clone_nil : Nat → RH := fun _ => {}
noncomputable def S_clone_nil : Sig := .o { pre := [], args := [(.c (.base (.slice none 0 0)))], post := [(false, .tg .form 24)], res := (.gs 0 .form), f := fun x => G_clone_nil }
theorem S_clone_nil_ok : SigOK CX 78 S_clone_nil := sigO_of (l := []) trivial (hint := H_clone_nil) (an := A_clone_nil) (by kernel_rfl) (fun x => by kernel_rfl)
noncomputable def G_clone_emp  : Option ((Unit) × ((List Fm) × Unit)) := (
 cond (decide ((([] : List Fm).length + ([] : List Fm).length) * 56 ≤ 140737488355328)) (some ((), (([] : List Fm) ++ ([] : List Fm), ()))) none)
def A_clone_emp : An := .leaf
def H_clone_emp : Nat → RH := fun r => match r with
  | 3 => { H := { mb := [5], ty := [(5, .form), (7, .form)] } }
  | _ => {}
noncomputable def S_clone_emp (a : Addr) (cap : Nat) : Sig := .o { pre := [], args := [(.c (.base (.slice (some a) 0 cap)))], post := [(false, .tg .form 24)], res := (.gs 0 .form), f := fun x => G_clone_emp }
theorem S_clone_emp_ok (a : Addr) (cap : Nat) : SigOK CX 78 (S_clone_emp a cap) := sigO_of (l := []) trivial (hint := H_clone_emp) (an := A_clone_emp) (by kernel_rfl) (fun x => by kernel_rfl)
noncomputable def S_clone : Sig := .o { pre := [], args := [(.d (.slice .form))], post := [(false, .tg .form 24)], res := (.gs 0 .form), f := fun x => cloneF 56 x.1.1 }
theorem S_clone_ok : SigOK CX 78 S_clone := by
  refine ⟨by kernel_rfl, fun x r hr B kn m w vs hI hlay hargs => ?_⟩
  obtain ⟨⟨(l : List Fm), u1⟩, u2⟩ := x
  have hr : cloneF 56 l = some r := hr
  have hargs : RelL kn m [.tvec .form l] vs := hargs
  obtain ⟨v, vs1, rfl, hv, hvs⟩ := RelL.uncons hargs
  have : vs1 = [] := List.eq_nil_of_length_eq_zero hvs.1.symm
  subst this
  cases l with
  | cons a l => exact S_clone_ne_ok.2 (((a :: l), ()), ()) r (show G_clone_ne (a :: l) = some r by simpa [cloneF, G_clone_ne] using hr) B kn m w _ hI hlay hargs
  | nil =>
    cases hr
    have hv := rel_tvec.1 hv
    have one : ∀ u : Value, RelL kn m [.base u] [u] := fun u => .cons (.base u) (.nil _ _)
    generalize hrows : List.map (E.row .form) ([] : List Fm) = rows at hv
    cases hv with
    | vecNil _ a cap => exact (S_clone_emp_ok a cap).2 (((), ()), ()) _ rfl B kn m w _ hI hlay (one _)
    | vecNone => exact S_clone_nil_ok.2 (((), ()), ()) _ rfl B kn m w _ hI hlay (one _)
    | vec _ _ b o cap vals =>
      subst hrows
      exact (S_clone_emp_ok ⟨b, o, none⟩ cap).2 (((), ()), ()) _ rfl B kn m w _ hI hlay (one _)
noncomputable def G_put (k : Nat) (x0 : Fm) (x1 : List Int) (x2 : Fm) : Option (Fm) := match k with
| 0 => none
| k + 1 => (
 cond (decide ((x1.length : Int) = 0)) (some (Fm.eta x2)) (Option.bind (α := (Unit) × ((List Fm) × Unit)) (cloneF 56 x0.l) fun r1 => (
 cond (ixOK 0 x1.length) (cond (ixOK 0 x1.length) (cond (ixOK (x1.getD (0 : Int).toNat (0 : Int)) r1.2.1.length) (cond (decide ((x1.getD (0 : Int).toNat (0 : Int)).toNat < r1.2.1.length)) (cond (slOK 1 (x1.length : Int) x1.length) (Option.bind (α := Fm) (G_put k (Fm.eta (r1.2.1.getD ((x1.getD (0 : Int).toNat (0 : Int)).toNat) (Fm.mk 0 0 [] []))) ((x1.drop (1 : Int).toNat).take ((x1.length : Int).toNat - (1 : Int).toNat)) (Fm.eta x2)) fun r2 => (
 cond (ixOK (x1.getD (0 : Int).toNat (0 : Int)) r1.2.1.length) (cond (decide ((x1.getD (0 : Int).toNat (0 : Int)).toNat < r1.2.1.length)) (some (Fm.mk x0.k x0.n x0.t (r1.2.1.set ((x1.getD (0 : Int).toNat (0 : Int)).toNat) (Fm.eta r2)))) none) none)) none) none) none) none) none)))
def A_put : An := .leaf
def H_put : Nat → RH := fun r => match r with
  | 0 => { H := { mb := [3] } }
  | 3 => { H := { ac := [14] } }
  | 4 => { H := { pl := [18, 22, 27] } }
  | _ => {}
noncomputable def S_put (k : Nat) : Sig := .n [(.d .form), (.d (.slice (.int .i64))), (.d .form)] (.d .form) (fun x => G_put k x.1 x.2.1 x.2.2.1)
theorem S_put_rec : ∀ k, SigOK CX 62 (S_put k)
| 0 => fun x r h => by cases h
| k + 1 => by
  have ih := S_put_rec k
  exact sigN_of (l := [(78, S_clone), (62, (S_put k))]) ⟨S_clone_ok, ih, trivial⟩ (hint := H_put) (an := A_put) (fun x => by kernel_rfl)
theorem S_put_ok : ∀ k, SigOK CX 62 (S_put k) := fun k => S_put_rec k
noncomputable def L_put (x0 : Fm) (x1 : List Int) (x2 : Fm) : Option (Fm) := limF fun k => G_put k x0 x1 x2
noncomputable def S_put_l : Sig := .n [(.d .form), (.d (.slice (.int .i64))), (.d .form)] (.d .form) (fun x => L_put x.1 x.2.1 x.2.2.1)
theorem S_put_l_ok : SigOK CX 62 S_put_l := SigOK.limN S_put_ok fun x r h => limF_ex h
end Go.Ab
