/-
  REGIONS THAT PANIC: what the operations of the region do not write is as it was.
-/
import Derived.Test.YtmompmackgknbaaDoorAb19
set_option linter.unusedVariables false
set_option linter.unusedSimpArgs false
namespace Go.Ab
open Go Go.RowKit

def Agr (D : List Nat) (a a' : Act) : Prop := ∀ t, t ∉ D → a'.tmps.getD t undef = a.tmps.getD t undef
theorem Agr.put {D : List Nat} {a a' : Act} (h : Agr D a a') {dst : Option Tmp} (hd : ∀ d, dst = some d → d ∈ D) (v : Value) : Agr D a (a'.put dst v) := by
  intro t ht
  rw [← h t ht]
  cases dst with
  | none => rfl
  | some d =>
    have hne : d ≠ t := fun e => ht (e ▸ hd d rfl)
    simp only [Act.put, Array.getD_eq_getD_getElem?]
    rw [Array.getElem?_setIfInBounds_ne hne]
def QF (D : List Nat) (a₀ : Act) (Q : Exit → Act → World → Prop) : Exit → Act → World → Prop := fun e a w => Q e a w ∧ (e ≠ .outgrown → Agr D a₀ a)
section
variable {P : Program} {ops : Array Oper} {Q : Exit → Act → World → Prop} {D : List Nat} {a₀ : Act}
theorem QF.lets (h : LetsOut Q) : LetsOut (QF D a₀ Q) := let ⟨a, w, h⟩ := h; ⟨a, w, h, fun h => absurd rfl h⟩
theorem wpOp_frame (hD : ∀ (i : Nat) (o : Oper) (d : Nat), ops[i]? = some o → o.dst = some d → d ∈ D) {i : Nat} {K K' : Act → World → Prop} {a : Act} {w : World} (hag : Agr D a₀ a) (h : wpOp P ops Q i K a w) (hk : ∀ a' w', Agr D a₀ a' → K a' w' → K' a' w') :
    wpOp P ops (QF D a₀ Q) i K' a w := by
  unfold wpOp at h ⊢
  split
  · rename_i e; rw [e] at h; exact hk _ _ hag h
  · rename_i o e
    rw [e] at h
    simp only at h
    have hd := fun d => hD i o d e
    split
    · rename_i hw
      rw [if_pos hw] at h
      rcases h with h | ⟨h1, h2⟩
      · refine .inl ?_
        unfold Oper.wp at h ⊢
        generalize (execOp a.eval o).run P w = r at h ⊢
        unfold Oper.upon at h ⊢
        split at h
        · exact hk _ _ (hag.put hd _) h
        · exact hk _ _ (hag.put hd _) h
        · exact hk _ _ (Agr.put (a' := { a with defers := _ :: a.defers }) hag hd _) h
        · refine h.mono fun e w' he => ?_
          cases e with
          | returned v => exact hk _ _ (hag.put hd _) he
          | panicked ch => exact ⟨he, fun _ => hag⟩
          | outgrown => exact QF.lets he
        · exact Rows.mono h fun v w' he => hk _ _ (hag.put hd _) he
        · exact ⟨h, fun _ => hag⟩
        · exact h.elim
      · exact .inr ⟨h1, QF.lets h2⟩
    · rename_i hw
      rw [if_neg hw] at h
      exact hk _ _ (hag.put hd _) h
theorem wpOps_frame (hD : ∀ (i : Nat) (o : Oper) (d : Nat), ops[i]? = some o → o.dst = some d → d ∈ D) : ∀ (l : List Nat) (a : Act) (w : World), Agr D a₀ a → wpOps P ops Q l a w → wpOps P ops (QF D a₀ Q) l a w
  | [], a, w, hag, h => ⟨h, fun _ => hag⟩
  | i :: rest, a, w, hag, h => by
    rw [wpOps_cons] at h ⊢
    exact wpOp_frame hD hag h fun a' w' ha hh => wpOps_frame hD rest a' w' ha hh
theorem wpAny_frame {md : Region.Mode} (hD : ∀ (i : Nat) (o : Oper) (d : Nat), ops[i]? = some o → o.dst = some d → d ∈ D) : ∀ (fuel : Nat) (listed : Array Bool) (a : Act) (w : World), Agr D a₀ a → wpAny P md ops Q fuel listed a w → wpAny P md ops (QF D a₀ Q) fuel listed a w
  | 0, listed, a, w, hag, h => ⟨h.1, h.2, fun _ => hag⟩
  | fuel + 1, listed, a, w, hag, h => ⟨fun e => ⟨h.1 e, fun _ => hag⟩, fun i hi => wpOp_frame hD hag (h.2 i hi) fun a' w' ha hh => wpAny_frame hD fuel _ a' w' ha hh⟩
end

@[go_sem] theorem leavesA_nil (C : Cx) (rs : List ResultVar) (Q : AOut → Sto → Nat → Prop) (env : Nat → AV) (σ : Sto) (nx : Nat) : LeavesA C rs Q [] none ⟨env, σ, nx⟩ ↔ afin σ nx Q (resA C.P rs ⟨env, σ, nx⟩) := (afin_iff _ _ _ _).symm
@[go_sem] theorem leavesA_pan (C : Cx) (rs : List ResultVar) (Q : AOut → Sto → Nat → Prop) (v : AV) (env : Nat → AV) (σ : Sto) (nx : Nat) : LeavesA C rs Q [] (some v) ⟨env, σ, nx⟩ ↔ Q (.pan v) σ nx := Iff.rfl
attribute [go_sem] Int.cast_ofNat_Int Int.reduceNeg
def dstsOf (ops : Array Oper) : List Nat := ops.toList.filterMap (·.dst)
theorem dstsOf_spec (ops : Array Oper) : ∀ (i : Nat) (o : Oper) (d : Nat), ops[i]? = some o → o.dst = some d → d ∈ dstsOf ops := fun i o d hi hd =>
  List.mem_filterMap.2 ⟨o, List.mem_of_getElem? (by simpa using hi), hd⟩

section
variable {C : Cx} {n : Nat} {ds : List Deferred} {Q : AExit → St → Prop} {s : St} {id : Nat} {ops : Array Oper} {y : Code} {objs : Sto} {H : Hints}
/-- What follows a region; a panic is told whatever the region wrote. -/
def QE (D : List Nat) (s : St) (Q : AExit → St → Prop) : AExit → St → Prop
  | .pan v, s' => ∀ env, (∀ t, t ∉ D → env t = s.env t) → Q (.pan v) ⟨env, s'.σ, s'.nx⟩
  | e, s' => Q e s'
/-- What the region's operations owe, as a weakest precondition. -/
theorem QE_done {B : Base} {kn : Kn} {m : Mp} {act : Act} {D : List Nat} (h1 : RelEnv kn m s.env n act) (h3 : ∀ kn' m', KnLe kn kn' → Keep m s.σ s.nx m' s.σ s.nx → True) {e : Exit} {act' : Act} {w w' : World} (hI : Inv C B kn m s.σ s.nx w)
    (h : QF D act (fun e act' w' => ∃ ae s' kn' m', RelExit kn' m' ae e ∧ RS C B n ds kn m s.σ s.nx kn' m' s' act' w' ∧ QE D s Q ae s') e act' w') : ∃ ae s' kn' m', RelExit kn' m' ae e ∧ RS C B n ds kn m s.σ s.nx kn' m' s' act' w' ∧ Q ae s' := by
  obtain ⟨⟨ae, s', kn', m', hx, hR, hq⟩, hag⟩ := h
  cases ae with
  | pan v =>
    have hne : e ≠ .outgrown := by rintro rfl; simp [RelExit] at hx
    have hag := hag hne
    refine ⟨.pan v, ⟨fun t => if t ∈ D then s'.env t else s.env t, s'.σ, s'.nx⟩, kn', m', hx, ⟨⟨hR.env.size, fun t => ?_⟩, hR.defs, hR.inv, hR.knle, hR.keep⟩, hq _ fun t ht => if_neg ht⟩
    by_cases ht : t ∈ D
    · simp only [if_pos ht]; exact hR.env.tmp t
    · simp only [if_neg ht]; rw [hag t ht]; exact (h1.tmp t).mono hR.knle (hR.keep.mple hI)
  | normal => exact ⟨_, s', kn', m', hx, hR, hq⟩
  | exit i => exact ⟨_, s', kn', m', hx, hR, hq⟩
  | goto i => exact ⟨_, s', kn', m', hx, hR, hq⟩
  | ret => exact ⟨_, s', kn', m', hx, hR, hq⟩

theorem aw_regionE (hd : dstOK n ops = true) (ho : allocObjs C.P ops.toList s.nx = some objs)
    (h : areg C H (fun _ => true) ops (Q .normal) (fun v σ nx => ∀ env, (∀ t, t ∉ dstsOf ops → env t = s.env t) → Q (.pan v) ⟨env, σ, nx⟩) ops.toList 0 (s.σ.length, s.nx) ⟨s.env, s.σ ++ objs, s.nx + objs.length⟩) : aw C n ds (.region id ops false) Q s := by
  intro B kn m act w h1 h2 h3
  obtain ⟨hI', hk'⟩ := h3.ahead ho
  refine wp_mono (Q := QF (dstsOf ops) act (fun e act' w' => ∃ ae s' kn' m', RelExit kn' m' ae e ∧ RS C B n ds kn m s.σ s.nx kn' m' s' act' w' ∧ QE (dstsOf ops) s Q ae s')) (wp_region (wpOps_frame (dstsOf_spec ops) _ _ _ (fun _ _ => rfl) ?_)) (fun e a w' hq => QE_done h1 (fun _ _ _ _ => trivial) h3 hq)
  have hs := aseq_of_areg (ops := ops) (p₀ := s.σ.length) (n₀ := s.nx) ops.toList 0 ⟨s.env, s.σ ++ objs, s.nx + objs.length⟩ (fun j => by simp) (by simpa [rk] using h)
  have hrange : List.range' 0 ops.toList.length = List.range ops.size := by rw [List.range_eq_range']; simp
  rw [hrange] at hs
  refine aseq_sound (KP := fun v σ nx => ∀ env, (∀ t, t ∉ dstsOf ops → env t = s.env t) → Q (.pan v) ⟨env, σ, nx⟩) (K := Q .normal) (B := B) (n := n) (ds := ds) (kn₀ := kn) (m₀ := m) (σ₀ := s.σ) (nx₀ := s.nx) h3.lt (dstOK_sound hd) (fun s' kn' m' act' w' hK hR => ⟨.normal, s', kn', m', trivial, hR, hK⟩)
    (fun v u env' kn' m' σ' nx' act' w' hKP hv hR => ⟨.pan v, ⟨env', σ', nx'⟩, kn', m', ⟨u, rfl, hv⟩, hR, hKP⟩) (List.range ops.size) (fun _ => false) ⟨s.env, s.σ ++ objs, s.nx + objs.length⟩ kn m act w List.nodup_range (fun _ _ => rfl) ⟨⟨h1, h2, hI', KnLe.refl _, hk'⟩, ?_⟩ hs
  intro j o T hj hT _
  obtain ⟨z, hz, hg⟩ := allocObjs_get ho (j := j) (by simpa using hj) hT
  refine ⟨h3.dom _ (Nat.le_add_right _ _), ?_, Nat.le_add_right _ _, z, hz, ?_⟩
  · have := (List.getElem?_eq_some_iff.1 hg).1; simp; omega
  · rw [List.getElem?_append_right (Nat.le_add_right _ _), Nat.add_sub_cancel_left]; exact hg
theorem aw_pdrawE {tl ms π : List Nat} {l : List Oper} (hm : C.P.follows .mixedOrders = true) (hB : permOK C.P H tl ops ms π = true) (hd : dstOK n ops = true) (ho : allocObjs C.P ops.toList s.nx = some objs) (hl : π.filterMap (ops[·]?) = l)
    (h : areg C H (fun i => tl.contains i) ops (Q .normal) (fun v σ nx => ∀ env, (∀ t, t ∉ dstsOf ops → env t = s.env t) → Q (.pan v) ⟨env, σ, nx⟩) l 0 (s.σ.length, s.nx) ⟨s.env, s.σ ++ objs, s.nx + objs.length⟩) : aw C n ds (.region id ops true) Q s := by
  subst hl
  have hP := permOK_spec hB
  intro B kn m act w h1 h2 h3
  obtain ⟨hI', hk'⟩ := h3.ahead ho
  have hs := aseq_of_pareg (p₀ := s.σ.length) (n₀ := s.nx) hP π [] ⟨s.env, s.σ ++ objs, s.nx + objs.length⟩ rfl h
  have ha := aAny_perm hP π [] _ rfl hs
  rw [hP.len] at ha
  refine wp_mono (Q := QF (dstsOf ops) act (fun e act' w' => ∃ ae s' kn' m', RelExit kn' m' ae e ∧ RS C B n ds kn m s.σ s.nx kn' m' s' act' w' ∧ QE (dstsOf ops) s Q ae s')) (wp_region_any hm (wpAny_frame (dstsOf_spec ops) _ _ _ _ (fun _ _ => rfl) ?_)) (fun e a w' hq => QE_done h1 (fun _ _ _ _ => trivial) h3 hq)
  rw [setL_nil]
  refine aAny_sound (KP := fun v σ nx => ∀ env, (∀ t, t ∉ dstsOf ops → env t = s.env t) → Q (.pan v) ⟨env, σ, nx⟩) (K := Q .normal) (B := B) (n := n) (ds := ds) (kn₀ := kn) (m₀ := m) (σ₀ := s.σ) (nx₀ := s.nx) h3.lt (dstOK_sound hd) (fun s' kn' m' act' w' hK hR => ⟨.normal, s', kn', m', trivial, hR, hK⟩)
    (fun v u env' kn' m' σ' nx' act' w' hKP hv hR => ⟨.pan v, ⟨env', σ', nx'⟩, kn', m', ⟨u, rfl, hv⟩, hR, hKP⟩) ops.size (setL ops.size []) ⟨s.env, s.σ ++ objs, s.nx + objs.length⟩ kn m act _ ⟨⟨h1, h2, hI'.drew, KnLe.refl _, hk'⟩, ?_⟩ ha
  intro j o T hj hT _
  obtain ⟨z, hz, hg⟩ := allocObjs_get ho (j := j) (by simpa using hj) hT
  refine ⟨h3.dom _ (Nat.le_add_right _ _), ?_, Nat.le_add_right _ _, z, hz, ?_⟩
  · have := (List.getElem?_eq_some_iff.1 hg).1; simp; omega
  · rw [List.getElem?_append_right (Nat.le_add_right _ _), Nat.add_sub_cancel_left]; exact hg
theorem aw_sregE (H : Hints) (hd : dstOK n ops = true) (ho : allocObjs C.P ops.toList s.nx = some objs)
    (h : ∀ (K : St → Prop) (KP : AV → Sto → Nat → Prop), (∀ s, aw C n ds y Q s → K s) → (∀ v σ nx, (∀ env, (∀ t, t ∉ dstsOf ops → env t = s.env t) → Q (.pan v) ⟨env, σ, nx⟩) → KP v σ nx) →
      areg C H (fun _ => true) ops K KP ops.toList 0 (s.σ.length, s.nx) ⟨s.env, s.σ ++ objs, s.nx + objs.length⟩) : aw C n ds (.seq (.region id ops false) y) Q s :=
  aw_seq (aw_regionE hd ho (h _ _ (fun _ h => h) (fun _ _ _ h env => h env)))
theorem aw_lregE (H : Hints) (hd : dstOK n ops = true) (ho : allocObjs C.P ops.toList s.nx = some objs)
    (h : ∀ (K : St → Prop) (KP : AV → Sto → Nat → Prop), (∀ s, Q .normal s → K s) → (∀ v σ nx, (∀ env, (∀ t, t ∉ dstsOf ops → env t = s.env t) → Q (.pan v) ⟨env, σ, nx⟩) → KP v σ nx) →
      areg C H (fun _ => true) ops K KP ops.toList 0 (s.σ.length, s.nx) ⟨s.env, s.σ ++ objs, s.nx + objs.length⟩) : aw C n ds (.region id ops false) Q s :=
  aw_regionE hd ho (h _ _ (fun _ h => h) (fun _ _ _ h env => h env))
theorem aw_spdrawE (H : Hints) (tl ms π : List Nat) (hm : C.P.follows .mixedOrders = true) (hB : permOK C.P H tl ops ms π = true) (hd : dstOK n ops = true) (ho : allocObjs C.P ops.toList s.nx = some objs) {l : List Oper} (hl : π.filterMap (ops[·]?) = l)
    (h : ∀ (K : St → Prop) (KP : AV → Sto → Nat → Prop), (∀ s, aw C n ds y Q s → K s) → (∀ v σ nx, (∀ env, (∀ t, t ∉ dstsOf ops → env t = s.env t) → Q (.pan v) ⟨env, σ, nx⟩) → KP v σ nx) →
      areg C H (fun i => tl.contains i) ops K KP l 0 (s.σ.length, s.nx) ⟨s.env, s.σ ++ objs, s.nx + objs.length⟩) : aw C n ds (.seq (.region id ops true) y) Q s :=
  aw_seq (aw_pdrawE hm hB hd ho hl (h _ _ (fun _ h => h) (fun _ _ _ h env => h env)))
theorem aw_lpdrawE (H : Hints) (tl ms π : List Nat) (hm : C.P.follows .mixedOrders = true) (hB : permOK C.P H tl ops ms π = true) (hd : dstOK n ops = true) (ho : allocObjs C.P ops.toList s.nx = some objs) {l : List Oper} (hl : π.filterMap (ops[·]?) = l)
    (h : ∀ (K : St → Prop) (KP : AV → Sto → Nat → Prop), (∀ s, Q .normal s → K s) → (∀ v σ nx, (∀ env, (∀ t, t ∉ dstsOf ops → env t = s.env t) → Q (.pan v) ⟨env, σ, nx⟩) → KP v σ nx) →
      areg C H (fun i => tl.contains i) ops K KP l 0 (s.σ.length, s.nx) ⟨s.env, s.σ ++ objs, s.nx + objs.length⟩) : aw C n ds (.region id ops true) Q s :=
  aw_pdrawE hm hB hd ho hl (h _ _ (fun _ h => h) (fun _ _ _ h env => h env))
end
end Go.Ab
