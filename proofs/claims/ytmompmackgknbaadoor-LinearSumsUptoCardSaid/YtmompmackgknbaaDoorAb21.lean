/-
  REGIONS THAT MAKE ONE TRUTH VALUE: what follows is walked once, whatever way the value was made.
-/
import Derived.Test.YtmompmackgknbaaDoorAb20
set_option linter.unusedVariables false
set_option linter.unusedSimpArgs false
namespace Go.Ab
open Go Go.RowKit

def mask (lo hi : Nat) (env junk : Nat → AV) : Nat → AV := fun t => if lo ≤ t ∧ t ≤ hi then junk t else env t
@[go_sem] theorem mask_eq (lo hi : Nat) (env junk : Nat → AV) (t : Nat) : mask lo hi env junk t = if lo ≤ t ∧ t ≤ hi then junk t else env t := rfl
attribute [go_sem] true_and and_true and_self false_and and_false
def rangeOK (lo hi t : Nat) (ops : Array Oper) : Bool := ops.toList.all fun o => match o.dst with | some d => d == t || (Nat.ble lo d && Nat.ble d hi) | none => true
theorem rangeOK_spec {lo hi t : Nat} {ops : Array Oper} (h : rangeOK lo hi t ops = true) {d : Nat} (hd : d ∉ dstsOf ops → False) : d = t ∨ (lo ≤ d ∧ d ≤ hi) := by
  have hm : d ∈ dstsOf ops := Classical.byContradiction hd
  obtain ⟨o, ho, hod⟩ := List.mem_filterMap.1 hm
  have := List.all_eq_true.1 h o ho
  rw [hod] at this
  simp only [Bool.or_eq_true, Bool.and_eq_true, beq_iff_eq, Nat.ble_eq] at this
  exact this

@[go_sem] theorem ite_avbool (p : Prop) [Decidable p] (x y : Bool) : (if p then AV.bool x else AV.bool y) = AV.bool (if p then x else y) := by split <;> rfl
theorem gsel_cases {b : Bool} {X Y : Prop} {t : Tok X} {t' : Tok Y} (h : b = true → X) (h' : b = false → Y) : gsel (some b) X Y t t' := by
  cases b
  · exact h' rfl
  · exact h rfl
section
variable {C : Cx} {n : Nat} {ds : List Deferred} {Q : AExit → St → Prop} {s : St} {id : Nat} {ops : Array Oper} {y : Code} {H : Hints}
/-- The value in its place, the rest as it was but for the tmps between. -/
theorem mask_env {kn kn' : Kn} {m m' : Mp} {act act' : Act} {env : Nat → AV} {s' : St} {lo hi t : Nat} {v : AV} (hok : rangeOK lo hi t ops = true) (h1 : RelEnv kn m env n act) (h2 : RelEnv kn' m' s'.env n act') (hk : KnLe kn kn') (hm : MpLe m m') (hv : s'.env t = v) (hag : Agr (dstsOf ops) act act') :
    RelEnv kn' m' (updo (mask lo hi env s'.env) (some t) v) n act' := by
  refine ⟨h2.size, fun d => ?_⟩
  simp only [updo_some, mask]
  split
  · rename_i e; subst e; rw [← hv]; exact h2.tmp d
  · rename_i hne
    split
    · exact h2.tmp d
    · rename_i hr
      have hd : d ∉ dstsOf ops := fun hm => by
        rcases rangeOK_spec hok (fun h => h hm) with h | h
        · exact hne h
        · exact hr h
      rw [hag d hd]
      exact (h1.tmp d).mono hk hm
theorem aw_sregB (H : Hints) (lo hi t : Nat) (v : AV) (hok : rangeOK lo hi t ops = true) (hd : dstOK n ops = true) (ho : allocObjs C.P ops.toList s.nx = some [])
    (h : ∀ (K : St → Prop) (KP : AV → Sto → Nat → Prop), (∀ s', s'.σ = s.σ → s'.nx = s.nx → s'.env t = v → K s') → (∀ v σ nx, (∀ env, Q (.pan v) ⟨env, σ, nx⟩) → KP v σ nx) →
      areg C H (fun _ => true) ops K KP ops.toList 0 (s.σ.length, s.nx) ⟨s.env, s.σ, s.nx⟩)
    (h2 : ∀ junk, aw C n ds y Q ⟨updo (mask lo hi s.env junk) (some t) v, s.σ, s.nx⟩) : aw C n ds (.seq (.region id ops false) y) Q s := by
  refine aw_seq ?_
  intro B kn m act w h1 h2' h3
  obtain ⟨hI', hk'⟩ := h3.ahead ho
  simp only [List.append_nil, List.length_nil, Nat.add_zero] at hI' hk'
  refine wp_mono (Q := QF (dstsOf ops) act (fun e act' w' => ∃ ae s' kn' m', RelExit kn' m' ae e ∧ RS C B n ds kn m s.σ s.nx kn' m' s' act' w' ∧ ((ae = .normal ∧ s'.σ = s.σ ∧ s'.nx = s.nx ∧ s'.env t = v) ∨ ∃ v, ae = .pan v ∧ ∀ env, Q (.pan v) ⟨env, s'.σ, s'.nx⟩))) (wp_region (wpOps_frame (dstsOf_spec ops) _ _ _ (fun _ _ => rfl) ?_)) ?_
  · have hs := aseq_of_areg (ops := ops) (p₀ := s.σ.length) (n₀ := s.nx) ops.toList 0 ⟨s.env, s.σ, s.nx⟩ (fun j => by simp) (by simpa [rk] using h (fun s' => s'.σ = s.σ ∧ s'.nx = s.nx ∧ s'.env t = v) (fun v σ nx => ∀ env, Q (.pan v) ⟨env, σ, nx⟩) (fun s' a b c => ⟨a, b, c⟩) (fun _ _ _ h => h))
    have hrange : List.range' 0 ops.toList.length = List.range ops.size := by rw [List.range_eq_range']; simp
    rw [hrange] at hs
    refine aseq_sound (KP := fun v σ nx => ∀ env, Q (.pan v) ⟨env, σ, nx⟩) (B := B) (n := n) (ds := ds) (kn₀ := kn) (m₀ := m) (σ₀ := s.σ) (nx₀ := s.nx) h3.lt (dstOK_sound hd) (fun s' kn' m' act' w' hK hR => ⟨.normal, s', kn', m', trivial, hR, .inl ⟨rfl, hK⟩⟩)
      (fun v u env' kn' m' σ' nx' act' w' hKP hv hR => ⟨.pan v, ⟨env', σ', nx'⟩, kn', m', ⟨u, rfl, hv⟩, hR, .inr ⟨v, rfl, hKP⟩⟩) (List.range ops.size) (fun _ => false) ⟨s.env, s.σ, s.nx⟩ kn m act w List.nodup_range (fun _ _ => rfl) ⟨⟨h1, h2', hI', KnLe.refl _, hk'⟩, ?_⟩ hs
    intro j o T hj hT _
    obtain ⟨z, hz, hg⟩ := allocObjs_get ho (j := j) (by simpa using hj) hT
    simp at hg
  · rintro e act' w' ⟨⟨ae, s', kn', m', hx, hR, hq⟩, hag⟩
    rcases hq with ⟨rfl, e1, e2, e3⟩ | ⟨v', rfl, hq⟩
    · have hne : e ≠ .outgrown := by rintro rfl; simp [RelExit] at hx
      obtain ⟨env', σ', nx'⟩ := s'
      simp only at e1 e2 e3
      subst e1; subst e2
      refine ⟨.normal, ⟨updo (mask lo hi s.env env') (some t) v, s.σ, s.nx⟩, kn', m', hx, ⟨mask_env (s' := ⟨env', s.σ, s.nx⟩) hok h1 hR.env hR.knle (hR.keep.mple h3) e3 (hag hne), hR.defs, hR.inv, hR.knle, hR.keep⟩, h2 env'⟩
    · exact ⟨.pan v', s', kn', m', hx, hR, hq s'.env⟩
theorem aw_spdrawB (H : Hints) (tl ms π : List Nat) (lo hi t : Nat) (v : AV) (hok : rangeOK lo hi t ops = true) (hm : C.P.follows .mixedOrders = true) (hB : permOK C.P H tl ops ms π = true) (hd : dstOK n ops = true) (ho : allocObjs C.P ops.toList s.nx = some []) {l : List Oper} (hl : π.filterMap (ops[·]?) = l)
    (h : ∀ (K : St → Prop) (KP : AV → Sto → Nat → Prop), (∀ s', s'.σ = s.σ → s'.nx = s.nx → s'.env t = v → K s') → (∀ v σ nx, (∀ env, Q (.pan v) ⟨env, σ, nx⟩) → KP v σ nx) →
      areg C H (fun i => tl.contains i) ops K KP l 0 (s.σ.length, s.nx) ⟨s.env, s.σ, s.nx⟩)
    (h2 : ∀ junk, aw C n ds y Q ⟨updo (mask lo hi s.env junk) (some t) v, s.σ, s.nx⟩) : aw C n ds (.seq (.region id ops true) y) Q s := by
  subst hl
  have hP := permOK_spec hB
  refine aw_seq ?_
  intro B kn m act w h1 h2' h3
  obtain ⟨hI', hk'⟩ := h3.ahead ho
  simp only [List.append_nil, List.length_nil, Nat.add_zero] at hI' hk'
  refine wp_mono (Q := QF (dstsOf ops) act (fun e act' w' => ∃ ae s' kn' m', RelExit kn' m' ae e ∧ RS C B n ds kn m s.σ s.nx kn' m' s' act' w' ∧ ((ae = .normal ∧ s'.σ = s.σ ∧ s'.nx = s.nx ∧ s'.env t = v) ∨ ∃ v, ae = .pan v ∧ ∀ env, Q (.pan v) ⟨env, s'.σ, s'.nx⟩))) (wp_region_any hm (wpAny_frame (dstsOf_spec ops) _ _ _ _ (fun _ _ => rfl) ?_)) ?_
  · have hs := aseq_of_pareg (p₀ := s.σ.length) (n₀ := s.nx) hP π [] ⟨s.env, s.σ, s.nx⟩ rfl (h (fun s' => s'.σ = s.σ ∧ s'.nx = s.nx ∧ s'.env t = v) (fun v σ nx => ∀ env, Q (.pan v) ⟨env, σ, nx⟩) (fun s' a b c => ⟨a, b, c⟩) (fun _ _ _ h => h))
    have ha := aAny_perm hP π [] _ rfl hs
    rw [hP.len] at ha
    rw [setL_nil]
    refine aAny_sound (KP := fun v σ nx => ∀ env, Q (.pan v) ⟨env, σ, nx⟩) (B := B) (n := n) (ds := ds) (kn₀ := kn) (m₀ := m) (σ₀ := s.σ) (nx₀ := s.nx) h3.lt (dstOK_sound hd) (fun s' kn' m' act' w' hK hR => ⟨.normal, s', kn', m', trivial, hR, .inl ⟨rfl, hK⟩⟩)
      (fun v u env' kn' m' σ' nx' act' w' hKP hv hR => ⟨.pan v, ⟨env', σ', nx'⟩, kn', m', ⟨u, rfl, hv⟩, hR, .inr ⟨v, rfl, hKP⟩⟩) ops.size (setL ops.size []) ⟨s.env, s.σ, s.nx⟩ kn m act _ ⟨⟨h1, h2', hI'.drew, KnLe.refl _, hk'⟩, ?_⟩ ha
    intro j o T hj hT _
    obtain ⟨z, hz, hg⟩ := allocObjs_get ho (j := j) (by simpa using hj) hT
    simp at hg
  · rintro e act' w' ⟨⟨ae, s', kn', m', hx, hR, hq⟩, hag⟩
    rcases hq with ⟨rfl, e1, e2, e3⟩ | ⟨v', rfl, hq⟩
    · have hne : e ≠ .outgrown := by rintro rfl; simp [RelExit] at hx
      obtain ⟨env', σ', nx'⟩ := s'
      simp only at e1 e2 e3
      subst e1; subst e2
      refine ⟨.normal, ⟨updo (mask lo hi s.env env') (some t) v, s.σ, s.nx⟩, kn', m', hx, ⟨mask_env (s' := ⟨env', s.σ, s.nx⟩) hok h1 hR.env hR.knle (hR.keep.mple h3) e3 (hag hne), hR.defs, hR.inv, hR.knle, hR.keep⟩, h2 env'⟩
    · exact ⟨.pan v', s', kn', m', hx, hR, hq s'.env⟩
end
attribute [go_sem] Nat.reduceEqDiff Nat.reduceLT Nat.reduceAdd Nat.reduceMul Nat.reduceLeDiff Int.reduceLE Int.reduceLT Int.reduceToNat Int.reduceEq
end Go.Ab
