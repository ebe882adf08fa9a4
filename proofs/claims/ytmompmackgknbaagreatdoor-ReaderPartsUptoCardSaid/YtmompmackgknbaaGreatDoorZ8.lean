/-
  A STATE TOLD BY PLAIN DATA is the state: places and names are told anew.
-/
import Derived.Test.YtmompmackgknbaaGreatDoorZ7
import Derived.Test.YtmompmackgknbaaGreatDoorProg
import Derived.Test.YtmompmackgknbaaGreatDoorZ6
/-
  REGIONS THAT MAKE ONE TRUTH VALUE: what follows is walked once, whatever way the value was made.
-/
set_option linter.unusedVariables false
set_option linter.unusedSimpArgs false
namespace Go.Ab
open Go Go.RowKit

def mask (lo hi : Nat) (env junk : Nat → AV) : Nat → AV := fun t => if lo ≤ t ∧ t ≤ hi then junk t else env t
@[go_sem] theorem mask_eq (lo hi : Nat) (env junk : Nat → AV) (t : Nat) : mask lo hi env junk t = if lo ≤ t ∧ t ≤ hi then junk t else env t := rfl
attribute [go_sem] true_and and_true and_self false_and and_false
def rangeOK (lo hi t : Nat) (ops : Array Oper) : Bool := ops.toList.all fun o => match o.dst with | some d => d == t || (Nat.ble lo d && Nat.ble d hi) | none => true
theorem rangeOK_spec {lo hi t : Nat} {ops : Array Oper} (h : rangeOK lo hi t ops = true) {d : Nat} (hd : d ∉ dstsOf ops → False) : d = t ∨ (lo ≤ d ∧ d ≤ hi) := by
  have hm : d ∈ dstsOf ops := Classical.byContradiction hd
  obtain ⟨o, ho, hod⟩ := List.mem_filterMap.1 hm
  have := List.all_eq_true.1 h o ho
  rw [hod] at this
  simp only [Bool.or_eq_true, Bool.and_eq_true, beq_iff_eq, Nat.ble_eq] at this
  exact this

@[go_sem] theorem ite_avbool (p : Prop) [Decidable p] (x y : Bool) : (if p then AV.bool x else AV.bool y) = AV.bool (if p then x else y) := by split <;> rfl
theorem gsel_cases {b : Bool} {X Y : Prop} {t : Tok X} {t' : Tok Y} (h : b = true → X) (h' : b = false → Y) : gsel (some b) X Y t t' := by
  cases b
  · exact h' rfl
  · exact h rfl
section
variable {C : Cx} {n : Nat} {ds : List Deferred} {Q : AExit → St → Prop} {s : St} {id : Nat} {ops : Array Oper} {y : Code} {H : Hints}
/-- The value in its place, the rest as it was but for the tmps between. -/
theorem mask_env {kn kn' : Kn} {m m' : Mp} {act act' : Act} {env : Nat → AV} {s' : St} {lo hi t : Nat} {v : AV} (hok : rangeOK lo hi t ops = true) (h1 : RelEnv kn m env n act) (h2 : RelEnv kn' m' s'.env n act') (hk : KnLe kn kn') (hm : MpLe m m') (hv : s'.env t = v) (hag : Agr (dstsOf ops) act act') :
    RelEnv kn' m' (updo (mask lo hi env s'.env) (some t) v) n act' := by
  refine ⟨h2.size, fun d => ?_⟩
  simp only [updo_some, mask]
  split
  · rename_i e; subst e; rw [← hv]; exact h2.tmp d
  · rename_i hne
    split
    · exact h2.tmp d
    · rename_i hr
      have hd : d ∉ dstsOf ops := fun hm => by
        rcases rangeOK_spec hok (fun h => h hm) with h | h
        · exact hne h
        · exact hr h
      rw [hag d hd]
      exact (h1.tmp d).mono hk hm
theorem aw_sregB (H : Hints) (lo hi t : Nat) (v : AV) (hok : rangeOK lo hi t ops = true) (hd : dstOK n ops = true) (ho : allocObjs C.P ops.toList s.nx = some [])
    (h : ∀ (K : St → Prop) (KP : AV → Sto → Nat → Prop), (∀ s', s'.σ = s.σ → s'.nx = s.nx → s'.env t = v → K s') → (∀ v σ nx, (∀ env, Q (.pan v) ⟨env, σ, nx⟩) → KP v σ nx) →
      areg C H (fun _ => true) ops K KP ops.toList 0 (s.σ.length, s.nx) ⟨s.env, s.σ, s.nx⟩)
    (h2 : ∀ junk, aw C n ds y Q ⟨updo (mask lo hi s.env junk) (some t) v, s.σ, s.nx⟩) : aw C n ds (.seq (.region id ops false) y) Q s := by
  refine aw_seq ?_
  intro B kn m act w h1 h2' h3
  obtain ⟨hI', hk'⟩ := h3.ahead ho
  simp only [List.append_nil, List.length_nil, Nat.add_zero] at hI' hk'
  refine wp_mono (Q := QF (dstsOf ops) act (fun e act' w' => ∃ ae s' kn' m', RelExit kn' m' ae e ∧ RS C B n ds kn m s.σ s.nx kn' m' s' act' w' ∧ ((ae = .normal ∧ s'.σ = s.σ ∧ s'.nx = s.nx ∧ s'.env t = v) ∨ ∃ v, ae = .pan v ∧ ∀ env, Q (.pan v) ⟨env, s'.σ, s'.nx⟩))) (wp_region (wpOps_frame (dstsOf_spec ops) _ _ _ (fun _ _ => rfl) ?_)) ?_
  · have hs := aseq_of_areg (ops := ops) (p₀ := s.σ.length) (n₀ := s.nx) ops.toList 0 ⟨s.env, s.σ, s.nx⟩ (fun j => by simp) (by simpa [rk] using h (fun s' => s'.σ = s.σ ∧ s'.nx = s.nx ∧ s'.env t = v) (fun v σ nx => ∀ env, Q (.pan v) ⟨env, σ, nx⟩) (fun s' a b c => ⟨a, b, c⟩) (fun _ _ _ h => h))
    have hrange : List.range' 0 ops.toList.length = List.range ops.size := by rw [List.range_eq_range']; simp
    rw [hrange] at hs
    refine aseq_sound (KP := fun v σ nx => ∀ env, Q (.pan v) ⟨env, σ, nx⟩) (B := B) (n := n) (ds := ds) (kn₀ := kn) (m₀ := m) (σ₀ := s.σ) (nx₀ := s.nx) h3.lt (dstOK_sound hd) (fun s' kn' m' act' w' hK hR => ⟨.normal, s', kn', m', trivial, hR, .inl ⟨rfl, hK⟩⟩)
      (fun v u env' kn' m' σ' nx' act' w' hKP hv hR => ⟨.pan v, ⟨env', σ', nx'⟩, kn', m', ⟨u, rfl, hv⟩, hR, .inr ⟨v, rfl, hKP⟩⟩) (List.range ops.size) (fun _ => false) ⟨s.env, s.σ, s.nx⟩ kn m act w List.nodup_range (fun _ _ => rfl) ⟨⟨h1, h2', hI', KnLe.refl _, hk'⟩, ?_⟩ hs
    intro j o T hj hT _
    obtain ⟨z, hz, hg⟩ := allocObjs_get ho (j := j) (by simpa using hj) hT
    simp at hg
  · rintro e act' w' ⟨⟨ae, s', kn', m', hx, hR, hq⟩, hag⟩
    rcases hq with ⟨rfl, e1, e2, e3⟩ | ⟨v', rfl, hq⟩
    · have hne : e ≠ .outgrown := by rintro rfl; simp [RelExit] at hx
      obtain ⟨env', σ', nx'⟩ := s'
      simp only at e1 e2 e3
      subst e1; subst e2
      refine ⟨.normal, ⟨updo (mask lo hi s.env env') (some t) v, s.σ, s.nx⟩, kn', m', hx, ⟨mask_env (s' := ⟨env', s.σ, s.nx⟩) hok h1 hR.env hR.knle (hR.keep.mple h3) e3 (hag hne), hR.defs, hR.inv, hR.knle, hR.keep⟩, h2 env'⟩
    · exact ⟨.pan v', s', kn', m', hx, hR, hq s'.env⟩
theorem aw_spdrawB (H : Hints) (tl ms π : List Nat) (lo hi t : Nat) (v : AV) (hok : rangeOK lo hi t ops = true) (hm : C.P.follows .mixedOrders = true) (hB : permOK C.P H tl ops ms π = true) (hd : dstOK n ops = true) (ho : allocObjs C.P ops.toList s.nx = some []) {l : List Oper} (hl : π.filterMap (ops[·]?) = l)
    (h : ∀ (K : St → Prop) (KP : AV → Sto → Nat → Prop), (∀ s', s'.σ = s.σ → s'.nx = s.nx → s'.env t = v → K s') → (∀ v σ nx, (∀ env, Q (.pan v) ⟨env, σ, nx⟩) → KP v σ nx) →
      areg C H (fun i => tl.contains i) ops K KP l 0 (s.σ.length, s.nx) ⟨s.env, s.σ, s.nx⟩)
    (h2 : ∀ junk, aw C n ds y Q ⟨updo (mask lo hi s.env junk) (some t) v, s.σ, s.nx⟩) : aw C n ds (.seq (.region id ops true) y) Q s := by
  subst hl
  have hP := permOK_spec hB
  refine aw_seq ?_
  intro B kn m act w h1 h2' h3
  obtain ⟨hI', hk'⟩ := h3.ahead ho
  simp only [List.append_nil, List.length_nil, Nat.add_zero] at hI' hk'
  refine wp_mono (Q := QF (dstsOf ops) act (fun e act' w' => ∃ ae s' kn' m', RelExit kn' m' ae e ∧ RS C B n ds kn m s.σ s.nx kn' m' s' act' w' ∧ ((ae = .normal ∧ s'.σ = s.σ ∧ s'.nx = s.nx ∧ s'.env t = v) ∨ ∃ v, ae = .pan v ∧ ∀ env, Q (.pan v) ⟨env, s'.σ, s'.nx⟩))) (wp_region_any hm (wpAny_frame (dstsOf_spec ops) _ _ _ _ (fun _ _ => rfl) ?_)) ?_
  · have hs := aseq_of_pareg (p₀ := s.σ.length) (n₀ := s.nx) hP π [] ⟨s.env, s.σ, s.nx⟩ rfl (h (fun s' => s'.σ = s.σ ∧ s'.nx = s.nx ∧ s'.env t = v) (fun v σ nx => ∀ env, Q (.pan v) ⟨env, σ, nx⟩) (fun s' a b c => ⟨a, b, c⟩) (fun _ _ _ h => h))
    have ha := aAny_perm hP π [] _ rfl hs
    rw [hP.len] at ha
    rw [setL_nil]
    refine aAny_sound (KP := fun v σ nx => ∀ env, Q (.pan v) ⟨env, σ, nx⟩) (B := B) (n := n) (ds := ds) (kn₀ := kn) (m₀ := m) (σ₀ := s.σ) (nx₀ := s.nx) h3.lt (dstOK_sound hd) (fun s' kn' m' act' w' hK hR => ⟨.normal, s', kn', m', trivial, hR, .inl ⟨rfl, hK⟩⟩)
      (fun v u env' kn' m' σ' nx' act' w' hKP hv hR => ⟨.pan v, ⟨env', σ', nx'⟩, kn', m', ⟨u, rfl, hv⟩, hR, .inr ⟨v, rfl, hKP⟩⟩) ops.size (setL ops.size []) ⟨s.env, s.σ, s.nx⟩ kn m act _ ⟨⟨h1, h2', hI'.drew, KnLe.refl _, hk'⟩, ?_⟩ ha
    intro j o T hj hT _
    obtain ⟨z, hz, hg⟩ := allocObjs_get ho (j := j) (by simpa using hj) hT
    simp at hg
  · rintro e act' w' ⟨⟨ae, s', kn', m', hx, hR, hq⟩, hag⟩
    rcases hq with ⟨rfl, e1, e2, e3⟩ | ⟨v', rfl, hq⟩
    · have hne : e ≠ .outgrown := by rintro rfl; simp [RelExit] at hx
      obtain ⟨env', σ', nx'⟩ := s'
      simp only at e1 e2 e3
      subst e1; subst e2
      refine ⟨.normal, ⟨updo (mask lo hi s.env env') (some t) v, s.σ, s.nx⟩, kn', m', hx, ⟨mask_env (s' := ⟨env', s.σ, s.nx⟩) hok h1 hR.env hR.knle (hR.keep.mple h3) e3 (hag hne), hR.defs, hR.inv, hR.knle, hR.keep⟩, h2 env'⟩
    · exact ⟨.pan v', s', kn', m', hx, hR, hq s'.env⟩
end
attribute [go_sem] Nat.reduceEqDiff Nat.reduceLT Nat.reduceAdd Nat.reduceMul Nat.reduceLeDiff Int.reduceLE Int.reduceLT Int.reduceToNat Int.reduceEq
end Go.Ab

/-
  WHAT THE TYPES OF THE PROGRAM ARE, and its functions' names, bodies and slots: closed facts. Written by a program of the author (facts.py).
-/
set_option maxRecDepth 100000
namespace Go.Ab
open Go Go.Proofs

@[go_sem] theorem aggT_101 : aggT Tryz.prog 101 = some false := by kernel_rfl
@[go_sem] theorem aggT_102 : aggT Tryz.prog 102 = some false := by kernel_rfl
@[go_sem] theorem aggT_106 : aggT Tryz.prog 106 = some true := by kernel_rfl
@[go_sem] theorem aggT_121 : aggT Tryz.prog 121 = some false := by kernel_rfl
@[go_sem] theorem aggT_122 : aggT Tryz.prog 122 = some false := by kernel_rfl
@[go_sem] theorem aggT_140 : aggT Tryz.prog 140 = some true := by kernel_rfl
@[go_sem] theorem aggT_150 : aggT Tryz.prog 150 = some true := by kernel_rfl
@[go_sem] theorem aggT_185 : aggT Tryz.prog 185 = some false := by kernel_rfl
@[go_sem] theorem aggT_198 : aggT Tryz.prog 198 = some false := by kernel_rfl
@[go_sem] theorem aggT_23 : aggT Tryz.prog 23 = some false := by kernel_rfl
@[go_sem] theorem aggT_230 : aggT Tryz.prog 230 = some true := by kernel_rfl
@[go_sem] theorem aggT_24 : aggT Tryz.prog 24 = some false := by kernel_rfl
@[go_sem] theorem aggT_248 : aggT Tryz.prog 248 = some true := by kernel_rfl
@[go_sem] theorem aggT_256 : aggT Tryz.prog 256 = some false := by kernel_rfl
@[go_sem] theorem aggT_26 : aggT Tryz.prog 26 = some true := by kernel_rfl
@[go_sem] theorem aggT_277 : aggT Tryz.prog 277 = some false := by kernel_rfl
@[go_sem] theorem aggT_281 : aggT Tryz.prog 281 = some false := by kernel_rfl
@[go_sem] theorem aggT_282 : aggT Tryz.prog 282 = some false := by kernel_rfl
@[go_sem] theorem aggT_3 : aggT Tryz.prog 3 = some false := by kernel_rfl
@[go_sem] theorem aggT_30 : aggT Tryz.prog 30 = some false := by kernel_rfl
@[go_sem] theorem aggT_33 : aggT Tryz.prog 33 = some false := by kernel_rfl
@[go_sem] theorem aggT_334 : aggT Tryz.prog 334 = some false := by kernel_rfl
@[go_sem] theorem aggT_337 : aggT Tryz.prog 337 = some false := by kernel_rfl
@[go_sem] theorem aggT_4 : aggT Tryz.prog 4 = some false := by kernel_rfl
@[go_sem] theorem aggT_5 : aggT Tryz.prog 5 = some false := by kernel_rfl
@[go_sem] theorem aggT_68 : aggT Tryz.prog 68 = some false := by kernel_rfl
@[go_sem] theorem aggT_70 : aggT Tryz.prog 70 = some true := by kernel_rfl
@[go_sem] theorem aggT_71 : aggT Tryz.prog 71 = some false := by kernel_rfl
@[go_sem] theorem aggT_73 : aggT Tryz.prog 73 = some true := by kernel_rfl
@[go_sem] theorem aggT_86 : aggT Tryz.prog 86 = some false := by kernel_rfl
@[go_sem] theorem aggT_9 : aggT Tryz.prog 9 = some false := by kernel_rfl
@[go_sem] theorem aggT_95 : aggT Tryz.prog 95 = some true := by kernel_rfl
@[go_sem] theorem aggT_98 : aggT Tryz.prog 98 = some false := by kernel_rfl
@[go_sem] theorem arrT_230 : arrT Tryz.prog 230 = some (256, 4, 1) := by kernel_rfl
@[go_sem] theorem arrT_248 : arrT Tryz.prog 248 = some (256, 5, 1) := by kernel_rfl
@[go_sem] theorem arrT_249 : arrT Tryz.prog 249 = some (256, 5, 1) := by kernel_rfl
@[go_sem] theorem arrT_251 : arrT Tryz.prog 251 = some (256, 122, 1) := by kernel_rfl
@[go_sem] theorem arrT_303 : arrT Tryz.prog 303 = some (256, 3, 1) := by kernel_rfl
@[go_sem] theorem arrT_313 : arrT Tryz.prog 313 = some (32, 5, 1) := by kernel_rfl
@[go_sem] theorem arrT_314 : arrT Tryz.prog 314 = some (64, 5, 1) := by kernel_rfl
@[go_sem] theorem arrT_61 : arrT Tryz.prog 61 = some (2, 3, 1) := by kernel_rfl
@[go_sem] theorem bldT_104 : bldT Tryz.prog 104 = some [(0, 1), (1, 1), (2, 1), (3, 1), (4, 1), (5, 1)] := by kernel_rfl
@[go_sem] theorem bldT_106 : bldT Tryz.prog 106 = some [(0, 1), (1, 1)] := by kernel_rfl
@[go_sem] theorem bldT_114 : bldT Tryz.prog 114 = some [(0, 1), (1, 1), (2, 1)] := by kernel_rfl
@[go_sem] theorem bldT_116 : bldT Tryz.prog 116 = some [] := by kernel_rfl
@[go_sem] theorem bldT_118 : bldT Tryz.prog 118 = some [] := by kernel_rfl
@[go_sem] theorem bldT_140 : bldT Tryz.prog 140 = some [(0, 1), (1, 4)] := by kernel_rfl
@[go_sem] theorem bldT_148 : bldT Tryz.prog 148 = some [(0, 1), (1, 1)] := by kernel_rfl
@[go_sem] theorem bldT_150 : bldT Tryz.prog 150 = some [(0, 1), (1, 4)] := by kernel_rfl
@[go_sem] theorem bldT_200 : bldT Tryz.prog 200 = some [(0, 3), (3, 1), (4, 1)] := by kernel_rfl
@[go_sem] theorem bldT_253 : bldT Tryz.prog 253 = some [(0, 256), (256, 1)] := by kernel_rfl
@[go_sem] theorem bldT_26 : bldT Tryz.prog 26 = some [(0, 1), (1, 1), (2, 1), (3, 1)] := by kernel_rfl
@[go_sem] theorem bldT_280 : bldT Tryz.prog 280 = some [(0, 1), (1, 1)] := by kernel_rfl
@[go_sem] theorem bldT_284 : bldT Tryz.prog 284 = some [(0, 1), (1, 1), (2, 1), (3, 1), (4, 1)] := by kernel_rfl
@[go_sem] theorem bldT_305 : bldT Tryz.prog 305 = some [(0, 1), (1, 256), (257, 1)] := by kernel_rfl
@[go_sem] theorem bldT_345 : bldT Tryz.prog 345 = some [(0, 1)] := by kernel_rfl
@[go_sem] theorem bldT_61 : bldT Tryz.prog 61 = some [(0, 1), (1, 1)] := by kernel_rfl
@[go_sem] theorem bldT_70 : bldT Tryz.prog 70 = some [(0, 1), (1, 1)] := by kernel_rfl
@[go_sem] theorem bldT_73 : bldT Tryz.prog 73 = some [(0, 1), (1, 1)] := by kernel_rfl
@[go_sem] theorem bldT_88 : bldT Tryz.prog 88 = some [(0, 1), (1, 1), (2, 1), (3, 1), (4, 1)] := by kernel_rfl
@[go_sem] theorem bldT_95 : bldT Tryz.prog 95 = some [(0, 1), (1, 4)] := by kernel_rfl
@[go_sem] theorem conT_116 : conT Tryz.prog 116 = true := by kernel_rfl
@[go_sem] theorem conT_118 : conT Tryz.prog 118 = true := by kernel_rfl
@[go_sem] theorem conT_244 : conT Tryz.prog 244 = true := by kernel_rfl
@[go_sem] theorem conT_246 : conT Tryz.prog 246 = true := by kernel_rfl
@[go_sem] theorem conT_250 : conT Tryz.prog 250 = true := by kernel_rfl
@[go_sem] theorem conT_254 : conT Tryz.prog 254 = true := by kernel_rfl
@[go_sem] theorem conT_335 : conT Tryz.prog 335 = true := by kernel_rfl
@[go_sem] theorem conT_339 : conT Tryz.prog 339 = false := by kernel_rfl
@[go_sem] theorem conT_345 : conT Tryz.prog 345 = true := by kernel_rfl
@[go_sem] theorem conT_9 : conT Tryz.prog 9 = true := by kernel_rfl
@[go_sem] theorem elmT_101 : elmT Tryz.prog 101 = some (106, 2, 16) := by kernel_rfl
@[go_sem] theorem elmT_102 : elmT Tryz.prog 102 = some (101, 1, 24) := by kernel_rfl
@[go_sem] theorem elmT_122 : elmT Tryz.prog 122 = some (5, 1, 1) := by kernel_rfl
@[go_sem] theorem elmT_185 : elmT Tryz.prog 185 = some (9, 1, 16) := by kernel_rfl
@[go_sem] theorem elmT_22 : elmT Tryz.prog 22 = some (70, 2, 32) := by kernel_rfl
@[go_sem] theorem elmT_23 : elmT Tryz.prog 23 = some (3, 1, 8) := by kernel_rfl
@[go_sem] theorem elmT_230 : elmT Tryz.prog 230 = none := by kernel_rfl
@[go_sem] theorem elmT_24 : elmT Tryz.prog 24 = some (26, 4, 56) := by kernel_rfl
@[go_sem] theorem elmT_248 : elmT Tryz.prog 248 = none := by kernel_rfl
@[go_sem] theorem elmT_249 : elmT Tryz.prog 249 = none := by kernel_rfl
@[go_sem] theorem elmT_251 : elmT Tryz.prog 251 = none := by kernel_rfl
@[go_sem] theorem elmT_282 : elmT Tryz.prog 282 = some (281, 1, 8) := by kernel_rfl
@[go_sem] theorem elmT_303 : elmT Tryz.prog 303 = none := by kernel_rfl
@[go_sem] theorem elmT_313 : elmT Tryz.prog 313 = none := by kernel_rfl
@[go_sem] theorem elmT_314 : elmT Tryz.prog 314 = none := by kernel_rfl
@[go_sem] theorem elmT_33 : elmT Tryz.prog 33 = some (73, 2, 32) := by kernel_rfl
@[go_sem] theorem elmT_334 : elmT Tryz.prog 334 = some (5, 1, 1) := by kernel_rfl
@[go_sem] theorem elmT_54 : elmT Tryz.prog 54 = some (61, 2, 16) := by kernel_rfl
@[go_sem] theorem elmT_61 : elmT Tryz.prog 61 = none := by kernel_rfl
@[go_sem] theorem elmT_68 : elmT Tryz.prog 68 = some (95, 5, 64) := by kernel_rfl
@[go_sem] theorem elmT_71 : elmT Tryz.prog 71 = some (140, 5, 64) := by kernel_rfl
@[go_sem] theorem elmT_86 : elmT Tryz.prog 86 = some (24, 1, 24) := by kernel_rfl
@[go_sem] theorem elmT_9 : elmT Tryz.prog 9 = none := by kernel_rfl
@[go_sem] theorem fldT_104_0 : fldT Tryz.prog 104 0 = some (0, 1, false) := by kernel_rfl
@[go_sem] theorem fldT_104_1 : fldT Tryz.prog 104 1 = some (1, 1, false) := by kernel_rfl
@[go_sem] theorem fldT_104_2 : fldT Tryz.prog 104 2 = some (2, 1, false) := by kernel_rfl
@[go_sem] theorem fldT_104_3 : fldT Tryz.prog 104 3 = some (3, 1, false) := by kernel_rfl
@[go_sem] theorem fldT_104_4 : fldT Tryz.prog 104 4 = some (4, 1, false) := by kernel_rfl
@[go_sem] theorem fldT_104_5 : fldT Tryz.prog 104 5 = some (5, 1, false) := by kernel_rfl
@[go_sem] theorem fldT_106_0 : fldT Tryz.prog 106 0 = some (0, 1, false) := by kernel_rfl
@[go_sem] theorem fldT_106_1 : fldT Tryz.prog 106 1 = some (1, 1, false) := by kernel_rfl
@[go_sem] theorem fldT_114_1 : fldT Tryz.prog 114 1 = some (1, 1, false) := by kernel_rfl
@[go_sem] theorem fldT_114_2 : fldT Tryz.prog 114 2 = some (2, 1, false) := by kernel_rfl
@[go_sem] theorem fldT_124_0 : fldT Tryz.prog 124 0 = some (0, 1, false) := by kernel_rfl
@[go_sem] theorem fldT_124_1 : fldT Tryz.prog 124 1 = some (1, 1, false) := by kernel_rfl
@[go_sem] theorem fldT_140_0 : fldT Tryz.prog 140 0 = some (0, 1, false) := by kernel_rfl
@[go_sem] theorem fldT_140_1 : fldT Tryz.prog 140 1 = some (1, 4, true) := by kernel_rfl
@[go_sem] theorem fldT_148_0 : fldT Tryz.prog 148 0 = some (0, 1, false) := by kernel_rfl
@[go_sem] theorem fldT_148_1 : fldT Tryz.prog 148 1 = some (1, 1, false) := by kernel_rfl
@[go_sem] theorem fldT_150_0 : fldT Tryz.prog 150 0 = some (0, 1, false) := by kernel_rfl
@[go_sem] theorem fldT_150_1 : fldT Tryz.prog 150 1 = some (1, 4, true) := by kernel_rfl
@[go_sem] theorem fldT_200_0 : fldT Tryz.prog 200 0 = some (0, 3, true) := by kernel_rfl
@[go_sem] theorem fldT_200_1 : fldT Tryz.prog 200 1 = some (3, 1, false) := by kernel_rfl
@[go_sem] theorem fldT_200_2 : fldT Tryz.prog 200 2 = some (4, 1, false) := by kernel_rfl
@[go_sem] theorem fldT_253_0 : fldT Tryz.prog 253 0 = some (0, 256, true) := by kernel_rfl
@[go_sem] theorem fldT_253_1 : fldT Tryz.prog 253 1 = some (256, 1, false) := by kernel_rfl
@[go_sem] theorem fldT_26_0 : fldT Tryz.prog 26 0 = some (0, 1, false) := by kernel_rfl
@[go_sem] theorem fldT_26_1 : fldT Tryz.prog 26 1 = some (1, 1, false) := by kernel_rfl
@[go_sem] theorem fldT_26_2 : fldT Tryz.prog 26 2 = some (2, 1, false) := by kernel_rfl
@[go_sem] theorem fldT_26_3 : fldT Tryz.prog 26 3 = some (3, 1, false) := by kernel_rfl
@[go_sem] theorem fldT_280_0 : fldT Tryz.prog 280 0 = some (0, 1, false) := by kernel_rfl
@[go_sem] theorem fldT_280_1 : fldT Tryz.prog 280 1 = some (1, 1, false) := by kernel_rfl
@[go_sem] theorem fldT_284_0 : fldT Tryz.prog 284 0 = some (0, 1, false) := by kernel_rfl
@[go_sem] theorem fldT_284_1 : fldT Tryz.prog 284 1 = some (1, 1, false) := by kernel_rfl
@[go_sem] theorem fldT_284_2 : fldT Tryz.prog 284 2 = some (2, 1, false) := by kernel_rfl
@[go_sem] theorem fldT_284_3 : fldT Tryz.prog 284 3 = some (3, 1, false) := by kernel_rfl
@[go_sem] theorem fldT_284_4 : fldT Tryz.prog 284 4 = some (4, 1, false) := by kernel_rfl
@[go_sem] theorem fldT_286_0 : fldT Tryz.prog 286 0 = some (0, 5, true) := by kernel_rfl
@[go_sem] theorem fldT_286_1 : fldT Tryz.prog 286 1 = some (5, 1, false) := by kernel_rfl
@[go_sem] theorem fldT_286_2 : fldT Tryz.prog 286 2 = some (6, 256, true) := by kernel_rfl
@[go_sem] theorem fldT_305_0 : fldT Tryz.prog 305 0 = some (0, 1, false) := by kernel_rfl
@[go_sem] theorem fldT_305_1 : fldT Tryz.prog 305 1 = some (1, 256, true) := by kernel_rfl
@[go_sem] theorem fldT_305_2 : fldT Tryz.prog 305 2 = some (257, 1, false) := by kernel_rfl
@[go_sem] theorem fldT_345_0 : fldT Tryz.prog 345 0 = some (0, 1, false) := by kernel_rfl
@[go_sem] theorem fldT_70_0 : fldT Tryz.prog 70 0 = some (0, 1, false) := by kernel_rfl
@[go_sem] theorem fldT_70_1 : fldT Tryz.prog 70 1 = some (1, 1, false) := by kernel_rfl
@[go_sem] theorem fldT_73_0 : fldT Tryz.prog 73 0 = some (0, 1, false) := by kernel_rfl
@[go_sem] theorem fldT_73_1 : fldT Tryz.prog 73 1 = some (1, 1, false) := by kernel_rfl
@[go_sem] theorem fldT_88_0 : fldT Tryz.prog 88 0 = some (0, 1, false) := by kernel_rfl
@[go_sem] theorem fldT_88_1 : fldT Tryz.prog 88 1 = some (1, 1, false) := by kernel_rfl
@[go_sem] theorem fldT_88_2 : fldT Tryz.prog 88 2 = some (2, 1, false) := by kernel_rfl
@[go_sem] theorem fldT_88_3 : fldT Tryz.prog 88 3 = some (3, 1, false) := by kernel_rfl
@[go_sem] theorem fldT_88_4 : fldT Tryz.prog 88 4 = some (4, 1, false) := by kernel_rfl
@[go_sem] theorem fldT_95_0 : fldT Tryz.prog 95 0 = some (0, 1, false) := by kernel_rfl
@[go_sem] theorem fldT_95_1 : fldT Tryz.prog 95 1 = some (1, 4, true) := by kernel_rfl
@[go_sem] theorem intT_121 : intT Tryz.prog 121 = none := by kernel_rfl
@[go_sem] theorem intT_122 : intT Tryz.prog 122 = none := by kernel_rfl
@[go_sem] theorem intT_181 : intT Tryz.prog 181 = some .u64 := by kernel_rfl
@[go_sem] theorem intT_188 : intT Tryz.prog 188 = some .u32 := by kernel_rfl
@[go_sem] theorem intT_204 : intT Tryz.prog 204 = none := by kernel_rfl
@[go_sem] theorem intT_208 : intT Tryz.prog 208 = some .u64 := by kernel_rfl
@[go_sem] theorem intT_21 : intT Tryz.prog 21 = some .i32 := by kernel_rfl
@[go_sem] theorem intT_256 : intT Tryz.prog 256 = some .u64 := by kernel_rfl
@[go_sem] theorem intT_3 : intT Tryz.prog 3 = some .i64 := by kernel_rfl
@[go_sem] theorem intT_5 : intT Tryz.prog 5 = some .u8 := by kernel_rfl
@[go_sem] theorem intT_9 : intT Tryz.prog 9 = none := by kernel_rfl
@[go_sem] theorem isBoolT_121 : isBoolT Tryz.prog 121 = false := by kernel_rfl
@[go_sem] theorem isBoolT_122 : isBoolT Tryz.prog 122 = false := by kernel_rfl
@[go_sem] theorem isBoolT_130 : isBoolT Tryz.prog 130 = false := by kernel_rfl
@[go_sem] theorem isBoolT_181 : isBoolT Tryz.prog 181 = false := by kernel_rfl
@[go_sem] theorem isBoolT_188 : isBoolT Tryz.prog 188 = false := by kernel_rfl
@[go_sem] theorem isBoolT_20 : isBoolT Tryz.prog 20 = false := by kernel_rfl
@[go_sem] theorem isBoolT_208 : isBoolT Tryz.prog 208 = false := by kernel_rfl
@[go_sem] theorem isBoolT_21 : isBoolT Tryz.prog 21 = false := by kernel_rfl
@[go_sem] theorem isBoolT_220 : isBoolT Tryz.prog 220 = false := by kernel_rfl
@[go_sem] theorem isBoolT_23 : isBoolT Tryz.prog 23 = false := by kernel_rfl
@[go_sem] theorem isBoolT_24 : isBoolT Tryz.prog 24 = false := by kernel_rfl
@[go_sem] theorem isBoolT_256 : isBoolT Tryz.prog 256 = false := by kernel_rfl
@[go_sem] theorem isBoolT_281 : isBoolT Tryz.prog 281 = false := by kernel_rfl
@[go_sem] theorem isBoolT_282 : isBoolT Tryz.prog 282 = false := by kernel_rfl
@[go_sem] theorem isBoolT_3 : isBoolT Tryz.prog 3 = false := by kernel_rfl
@[go_sem] theorem isBoolT_30 : isBoolT Tryz.prog 30 = false := by kernel_rfl
@[go_sem] theorem isBoolT_33 : isBoolT Tryz.prog 33 = false := by kernel_rfl
@[go_sem] theorem isBoolT_4 : isBoolT Tryz.prog 4 = true := by kernel_rfl
@[go_sem] theorem isBoolT_5 : isBoolT Tryz.prog 5 = false := by kernel_rfl
@[go_sem] theorem isBoolT_9 : isBoolT Tryz.prog 9 = false := by kernel_rfl
@[go_sem] theorem isIfcT_130 : isIfcT Tryz.prog 130 = true := by kernel_rfl
@[go_sem] theorem isIfcT_20 : isIfcT Tryz.prog 20 = true := by kernel_rfl
@[go_sem] theorem slcT_101 : slcT Tryz.prog 101 = true := by kernel_rfl
@[go_sem] theorem slcT_102 : slcT Tryz.prog 102 = true := by kernel_rfl
@[go_sem] theorem slcT_121 : slcT Tryz.prog 121 = false := by kernel_rfl
@[go_sem] theorem slcT_122 : slcT Tryz.prog 122 = true := by kernel_rfl
@[go_sem] theorem slcT_181 : slcT Tryz.prog 181 = false := by kernel_rfl
@[go_sem] theorem slcT_185 : slcT Tryz.prog 185 = true := by kernel_rfl
@[go_sem] theorem slcT_188 : slcT Tryz.prog 188 = false := by kernel_rfl
@[go_sem] theorem slcT_204 : slcT Tryz.prog 204 = false := by kernel_rfl
@[go_sem] theorem slcT_208 : slcT Tryz.prog 208 = false := by kernel_rfl
@[go_sem] theorem slcT_21 : slcT Tryz.prog 21 = false := by kernel_rfl
@[go_sem] theorem slcT_22 : slcT Tryz.prog 22 = true := by kernel_rfl
@[go_sem] theorem slcT_23 : slcT Tryz.prog 23 = true := by kernel_rfl
@[go_sem] theorem slcT_24 : slcT Tryz.prog 24 = true := by kernel_rfl
@[go_sem] theorem slcT_248 : slcT Tryz.prog 248 = false := by kernel_rfl
@[go_sem] theorem slcT_249 : slcT Tryz.prog 249 = false := by kernel_rfl
@[go_sem] theorem slcT_256 : slcT Tryz.prog 256 = false := by kernel_rfl
@[go_sem] theorem slcT_3 : slcT Tryz.prog 3 = false := by kernel_rfl
@[go_sem] theorem slcT_33 : slcT Tryz.prog 33 = true := by kernel_rfl
@[go_sem] theorem slcT_334 : slcT Tryz.prog 334 = true := by kernel_rfl
@[go_sem] theorem slcT_5 : slcT Tryz.prog 5 = false := by kernel_rfl
@[go_sem] theorem slcT_54 : slcT Tryz.prog 54 = true := by kernel_rfl
@[go_sem] theorem slcT_68 : slcT Tryz.prog 68 = true := by kernel_rfl
@[go_sem] theorem slcT_71 : slcT Tryz.prog 71 = true := by kernel_rfl
@[go_sem] theorem slcT_86 : slcT Tryz.prog 86 = true := by kernel_rfl
@[go_sem] theorem slcT_9 : slcT Tryz.prog 9 = false := by kernel_rfl
@[go_sem] theorem strT_101 : strT Tryz.prog 101 = false := by kernel_rfl
@[go_sem] theorem strT_102 : strT Tryz.prog 102 = false := by kernel_rfl
@[go_sem] theorem strT_121 : strT Tryz.prog 121 = false := by kernel_rfl
@[go_sem] theorem strT_122 : strT Tryz.prog 122 = false := by kernel_rfl
@[go_sem] theorem strT_181 : strT Tryz.prog 181 = false := by kernel_rfl
@[go_sem] theorem strT_185 : strT Tryz.prog 185 = false := by kernel_rfl
@[go_sem] theorem strT_188 : strT Tryz.prog 188 = false := by kernel_rfl
@[go_sem] theorem strT_204 : strT Tryz.prog 204 = false := by kernel_rfl
@[go_sem] theorem strT_208 : strT Tryz.prog 208 = false := by kernel_rfl
@[go_sem] theorem strT_21 : strT Tryz.prog 21 = false := by kernel_rfl
@[go_sem] theorem strT_22 : strT Tryz.prog 22 = false := by kernel_rfl
@[go_sem] theorem strT_23 : strT Tryz.prog 23 = false := by kernel_rfl
@[go_sem] theorem strT_24 : strT Tryz.prog 24 = false := by kernel_rfl
@[go_sem] theorem strT_248 : strT Tryz.prog 248 = false := by kernel_rfl
@[go_sem] theorem strT_249 : strT Tryz.prog 249 = false := by kernel_rfl
@[go_sem] theorem strT_256 : strT Tryz.prog 256 = false := by kernel_rfl
@[go_sem] theorem strT_3 : strT Tryz.prog 3 = false := by kernel_rfl
@[go_sem] theorem strT_33 : strT Tryz.prog 33 = false := by kernel_rfl
@[go_sem] theorem strT_334 : strT Tryz.prog 334 = false := by kernel_rfl
@[go_sem] theorem strT_5 : strT Tryz.prog 5 = false := by kernel_rfl
@[go_sem] theorem strT_54 : strT Tryz.prog 54 = false := by kernel_rfl
@[go_sem] theorem strT_68 : strT Tryz.prog 68 = false := by kernel_rfl
@[go_sem] theorem strT_71 : strT Tryz.prog 71 = false := by kernel_rfl
@[go_sem] theorem strT_86 : strT Tryz.prog 86 = false := by kernel_rfl
@[go_sem] theorem strT_9 : strT Tryz.prog 9 = true := by kernel_rfl
@[go_sem] theorem szT_101 : szT Tryz.prog 101 = some 1 := by kernel_rfl
@[go_sem] theorem szT_102 : szT Tryz.prog 102 = some 1 := by kernel_rfl
@[go_sem] theorem szT_106 : szT Tryz.prog 106 = some 2 := by kernel_rfl
@[go_sem] theorem szT_116 : szT Tryz.prog 116 = some 0 := by kernel_rfl
@[go_sem] theorem szT_118 : szT Tryz.prog 118 = some 0 := by kernel_rfl
@[go_sem] theorem szT_121 : szT Tryz.prog 121 = some 1 := by kernel_rfl
@[go_sem] theorem szT_122 : szT Tryz.prog 122 = some 1 := by kernel_rfl
@[go_sem] theorem szT_140 : szT Tryz.prog 140 = some 5 := by kernel_rfl
@[go_sem] theorem szT_150 : szT Tryz.prog 150 = some 5 := by kernel_rfl
@[go_sem] theorem szT_185 : szT Tryz.prog 185 = some 1 := by kernel_rfl
@[go_sem] theorem szT_198 : szT Tryz.prog 198 = some 1 := by kernel_rfl
@[go_sem] theorem szT_23 : szT Tryz.prog 23 = some 1 := by kernel_rfl
@[go_sem] theorem szT_230 : szT Tryz.prog 230 = some 256 := by kernel_rfl
@[go_sem] theorem szT_24 : szT Tryz.prog 24 = some 1 := by kernel_rfl
@[go_sem] theorem szT_248 : szT Tryz.prog 248 = some 256 := by kernel_rfl
@[go_sem] theorem szT_249 : szT Tryz.prog 249 = some 256 := by kernel_rfl
@[go_sem] theorem szT_253 : szT Tryz.prog 253 = some 257 := by kernel_rfl
@[go_sem] theorem szT_256 : szT Tryz.prog 256 = some 1 := by kernel_rfl
@[go_sem] theorem szT_26 : szT Tryz.prog 26 = some 4 := by kernel_rfl
@[go_sem] theorem szT_277 : szT Tryz.prog 277 = some 1 := by kernel_rfl
@[go_sem] theorem szT_281 : szT Tryz.prog 281 = some 1 := by kernel_rfl
@[go_sem] theorem szT_282 : szT Tryz.prog 282 = some 1 := by kernel_rfl
@[go_sem] theorem szT_3 : szT Tryz.prog 3 = some 1 := by kernel_rfl
@[go_sem] theorem szT_30 : szT Tryz.prog 30 = some 1 := by kernel_rfl
@[go_sem] theorem szT_33 : szT Tryz.prog 33 = some 1 := by kernel_rfl
@[go_sem] theorem szT_334 : szT Tryz.prog 334 = some 1 := by kernel_rfl
@[go_sem] theorem szT_337 : szT Tryz.prog 337 = some 1 := by kernel_rfl
@[go_sem] theorem szT_4 : szT Tryz.prog 4 = some 1 := by kernel_rfl
@[go_sem] theorem szT_5 : szT Tryz.prog 5 = some 1 := by kernel_rfl
@[go_sem] theorem szT_68 : szT Tryz.prog 68 = some 1 := by kernel_rfl
@[go_sem] theorem szT_70 : szT Tryz.prog 70 = some 2 := by kernel_rfl
@[go_sem] theorem szT_71 : szT Tryz.prog 71 = some 1 := by kernel_rfl
@[go_sem] theorem szT_73 : szT Tryz.prog 73 = some 2 := by kernel_rfl
@[go_sem] theorem szT_86 : szT Tryz.prog 86 = some 1 := by kernel_rfl
@[go_sem] theorem szT_9 : szT Tryz.prog 9 = some 1 := by kernel_rfl
@[go_sem] theorem szT_95 : szT Tryz.prog 95 = some 5 := by kernel_rfl
@[go_sem] theorem szT_98 : szT Tryz.prog 98 = some 1 := by kernel_rfl
@[go_sem] theorem undT_121 : undT Tryz.prog 121 = true := by kernel_rfl
@[go_sem] theorem undT_122 : undT Tryz.prog 122 = true := by kernel_rfl
@[go_sem] theorem undT_181 : undT Tryz.prog 181 = true := by kernel_rfl
@[go_sem] theorem undT_188 : undT Tryz.prog 188 = true := by kernel_rfl
@[go_sem] theorem undT_204 : undT Tryz.prog 204 = true := by kernel_rfl
@[go_sem] theorem undT_208 : undT Tryz.prog 208 = true := by kernel_rfl
@[go_sem] theorem undT_21 : undT Tryz.prog 21 = true := by kernel_rfl
@[go_sem] theorem undT_3 : undT Tryz.prog 3 = true := by kernel_rfl
@[go_sem] theorem undT_334 : undT Tryz.prog 334 = true := by kernel_rfl
@[go_sem] theorem undT_5 : undT Tryz.prog 5 = true := by kernel_rfl
@[go_sem] theorem undT_9 : undT Tryz.prog 9 = true := by kernel_rfl
@[go_sem] theorem und_121 : Tryz.prog.underlying 121 = some (.pointer 124) := by kernel_rfl
@[go_sem] theorem und_122 : Tryz.prog.underlying 122 = some (.slice 5) := by kernel_rfl
@[go_sem] theorem und_23 : Tryz.prog.underlying 23 = some (.slice 3) := by kernel_rfl
@[go_sem] theorem und_24 : Tryz.prog.underlying 24 = some (.slice 26) := by kernel_rfl
@[go_sem] theorem und_281 : Tryz.prog.underlying 281 = some (.pointer 284) := by kernel_rfl
@[go_sem] theorem und_282 : Tryz.prog.underlying 282 = some (.slice 281) := by kernel_rfl
@[go_sem] theorem und_33 : Tryz.prog.underlying 33 = some (.slice 73) := by kernel_rfl
@[go_sem] theorem zeroV_116 : assertA.zeroV Tryz.prog 116 = some (.agg []) := by kernel_rfl
@[go_sem] theorem zeroV_118 : assertA.zeroV Tryz.prog 118 = some (.agg []) := by kernel_rfl
@[go_sem] theorem zeroV_339 : assertA.zeroV Tryz.prog 339 = some (.base (.nilIface)) := by kernel_rfl
@[go_sem] theorem zero_101 : zeroCells Tryz.prog 101 = some [.base (.slice none 0 0)] := by kernel_rfl
@[go_sem] theorem zero_104 : zeroCells Tryz.prog 104 = some [.int .i64 0, .base (.slice none 0 0), .base (.slice none 0 0), .base (.slice none 0 0), .base (.slice none 0 0), .int .i64 0] := by kernel_rfl
@[go_sem] theorem zero_106 : zeroCells Tryz.prog 106 = some [.int .i64 0, .int .i64 0] := by kernel_rfl
@[go_sem] theorem zero_114 : zeroCells Tryz.prog 114 = some [.base (.slice none 0 0), .int .i64 0, .base (.slice none 0 0)] := by kernel_rfl
@[go_sem] theorem zero_116 : zeroCells Tryz.prog 116 = some [] := by kernel_rfl
@[go_sem] theorem zero_118 : zeroCells Tryz.prog 118 = some [] := by kernel_rfl
@[go_sem] theorem zero_124 : zeroCells Tryz.prog 124 = some [.base (.pointer none), .base (.slice none 0 0)] := by kernel_rfl
@[go_sem] theorem zero_140 : zeroCells Tryz.prog 140 = some [.int .i64 0, .int .i64 0, .int .i64 0, .str [], .base (.slice none 0 0)] := by kernel_rfl
@[go_sem] theorem zero_148 : zeroCells Tryz.prog 148 = some [.str [], .int .i64 0] := by kernel_rfl
@[go_sem] theorem zero_150 : zeroCells Tryz.prog 150 = some [.int .u8 0, .int .i64 0, .int .i64 0, .str [], .base (.slice none 0 0)] := by kernel_rfl
@[go_sem] theorem zero_200 : zeroCells Tryz.prog 200 = some [.int .u32 0, .int .i32 0, .int .u32 0, .base (.nilIface), .base (.slice none 0 0)] := by kernel_rfl
@[go_sem] theorem zero_23 : zeroCells Tryz.prog 23 = some [.base (.slice none 0 0)] := by kernel_rfl
@[go_sem] theorem zero_230 : zeroCells Tryz.prog 230 = some (List.replicate 256 (.bool false)) := by kernel_rfl
@[go_sem] theorem zero_24 : zeroCells Tryz.prog 24 = some [.base (.slice none 0 0)] := by kernel_rfl
@[go_sem] theorem zero_249 : zeroCells Tryz.prog 249 = some (List.replicate 256 (.int .u8 0)) := by kernel_rfl
@[go_sem] theorem zero_253 : zeroCells Tryz.prog 253 = some (List.replicate 257 (.base (.slice none 0 0))) := by kernel_rfl
@[go_sem] theorem zero_256 : zeroCells Tryz.prog 256 = some [.int .u64 0] := by kernel_rfl
@[go_sem] theorem zero_26 : zeroCells Tryz.prog 26 = some [.int .i64 0, .int .i64 0, .str [], .base (.slice none 0 0)] := by kernel_rfl
@[go_sem] theorem zero_280 : zeroCells Tryz.prog 280 = some [.base (.pointer none), .str []] := by kernel_rfl
@[go_sem] theorem zero_281 : zeroCells Tryz.prog 281 = some [.base (.pointer none)] := by kernel_rfl
@[go_sem] theorem zero_284 : zeroCells Tryz.prog 284 = some [.str [], .int .i64 0, .str [], .base (.pointer none), .base (.slice none 0 0)] := by kernel_rfl
@[go_sem] theorem zero_286 : zeroCells Tryz.prog 286 = some [.str [], .int .i64 0, .str [], .base (.pointer none), .base (.slice none 0 0), .int .i64 0, .int .u8 0, .int .u8 0, .int .u8 0, .int .u8 0, .int .u8 0, .int .u8 0, .int .u8 0, .int .u8 0, .int .u8 0, .int .u8 0, .int .u8 0, .int .u8 0, .int .u8 0, .int .u8 0, .int .u8 0, .int .u8 0, .int .u8 0, .int .u8 0, .int .u8 0, .int .u8 0, .int .u8 0, .int .u8 0, .int .u8 0, .int .u8 0, .int .u8 0, .int .u8 0, .int .u8 0, .int .u8 0, .int .u8 0, .int .u8 0, .int .u8 0, .int .u8 0, .int .u8 0, .int .u8 0, .int .u8 0, .int .u8 0, .int .u8 0, .int .u8 0, .int .u8 0, .int .u8 0, .int .u8 0, .int .u8 0, .int .u8 0, .int .u8 0, .int .u8 0, .int .u8 0, .int .u8 0, .int .u8 0, .int .u8 0, .int .u8 0, .int .u8 0, .int .u8 0, .int .u8 0, .int .u8 0, .int .u8 0, .int .u8 0, .int .u8 0, .int .u8 0, .int .u8 0, .int .u8 0, .int .u8 0, .int .u8 0, .int .u8 0, .int .u8 0, .int .u8 0, .int .u8 0, .int .u8 0, .int .u8 0, .int .u8 0, .int .u8 0, .int .u8 0, .int .u8 0, .int .u8 0, .int .u8 0, .int .u8 0, .int .u8 0, .int .u8 0, .int .u8 0, .int .u8 0, .int .u8 0, .int .u8 0, .int .u8 0, .int .u8 0, .int .u8 0, .int .u8 0, .int .u8 0, .int .u8 0, .int .u8 0, .int .u8 0, .int .u8 0, .int .u8 0, .int .u8 0, .int .u8 0, .int .u8 0, .int .u8 0, .int .u8 0, .int .u8 0, .int .u8 0, .int .u8 0, .int .u8 0, .int .u8 0, .int .u8 0, .int .u8 0, .int .u8 0, .int .u8 0, .int .u8 0, .int .u8 0, .int .u8 0, .int .u8 0, .int .u8 0, .int .u8 0, .int .u8 0, .int .u8 0, .int .u8 0, .int .u8 0, .int .u8 0, .int .u8 0, .int .u8 0, .int .u8 0, .int .u8 0, .int .u8 0, .int .u8 0, .int .u8 0, .int .u8 0, .int .u8 0, .int .u8 0, .int .u8 0, .int .u8 0, .int .u8 0, .int .u8 0, .int .u8 0, .int .u8 0, .int .u8 0, .int .u8 0, .int .u8 0, .int .u8 0, .int .u8 0, .int .u8 0, .int .u8 0, .int .u8 0, .int .u8 0, .int .u8 0, .int .u8 0, .int .u8 0, .int .u8 0, .int .u8 0, .int .u8 0, .int .u8 0, .int .u8 0, .int .u8 0, .int .u8 0, .int .u8 0, .int .u8 0, .int .u8 0, .int .u8 0, .int .u8 0, .int .u8 0, .int .u8 0, .int .u8 0, .int .u8 0, .int .u8 0, .int .u8 0, .int .u8 0, .int .u8 0, .int .u8 0, .int .u8 0, .int .u8 0, .int .u8 0, .int .u8 0, .int .u8 0, .int .u8 0, .int .u8 0, .int .u8 0, .int .u8 0, .int .u8 0, .int .u8 0, .int .u8 0, .int .u8 0, .int .u8 0, .int .u8 0, .int .u8 0, .int .u8 0, .int .u8 0, .int .u8 0, .int .u8 0, .int .u8 0, .int .u8 0, .int .u8 0, .int .u8 0, .int .u8 0, .int .u8 0, .int .u8 0, .int .u8 0, .int .u8 0, .int .u8 0, .int .u8 0, .int .u8 0, .int .u8 0, .int .u8 0, .int .u8 0, .int .u8 0, .int .u8 0, .int .u8 0, .int .u8 0, .int .u8 0, .int .u8 0, .int .u8 0, .int .u8 0, .int .u8 0, .int .u8 0, .int .u8 0, .int .u8 0, .int .u8 0, .int .u8 0, .int .u8 0, .int .u8 0, .int .u8 0, .int .u8 0, .int .u8 0, .int .u8 0, .int .u8 0, .int .u8 0, .int .u8 0, .int .u8 0, .int .u8 0, .int .u8 0, .int .u8 0, .int .u8 0, .int .u8 0, .int .u8 0, .int .u8 0, .int .u8 0, .int .u8 0, .int .u8 0, .int .u8 0, .int .u8 0, .int .u8 0, .int .u8 0, .int .u8 0, .int .u8 0, .int .u8 0, .int .u8 0, .int .u8 0, .int .u8 0, .int .u8 0, .int .u8 0, .int .u8 0, .int .u8 0, .int .u8 0, .int .u8 0, .int .u8 0, .int .u8 0, .int .u8 0, .int .u8 0, .int .u8 0, .int .u8 0] := by kernel_rfl
@[go_sem] theorem zero_3 : zeroCells Tryz.prog 3 = some [.int .i64 0] := by kernel_rfl
@[go_sem] theorem zero_30 : zeroCells Tryz.prog 30 = some [.int .i64 0] := by kernel_rfl
@[go_sem] theorem zero_305 : zeroCells Tryz.prog 305 = some [.str [], .int .i64 0, .int .i64 0, .int .i64 0, .int .i64 0, .int .i64 0, .int .i64 0, .int .i64 0, .int .i64 0, .int .i64 0, .int .i64 0, .int .i64 0, .int .i64 0, .int .i64 0, .int .i64 0, .int .i64 0, .int .i64 0, .int .i64 0, .int .i64 0, .int .i64 0, .int .i64 0, .int .i64 0, .int .i64 0, .int .i64 0, .int .i64 0, .int .i64 0, .int .i64 0, .int .i64 0, .int .i64 0, .int .i64 0, .int .i64 0, .int .i64 0, .int .i64 0, .int .i64 0, .int .i64 0, .int .i64 0, .int .i64 0, .int .i64 0, .int .i64 0, .int .i64 0, .int .i64 0, .int .i64 0, .int .i64 0, .int .i64 0, .int .i64 0, .int .i64 0, .int .i64 0, .int .i64 0, .int .i64 0, .int .i64 0, .int .i64 0, .int .i64 0, .int .i64 0, .int .i64 0, .int .i64 0, .int .i64 0, .int .i64 0, .int .i64 0, .int .i64 0, .int .i64 0, .int .i64 0, .int .i64 0, .int .i64 0, .int .i64 0, .int .i64 0, .int .i64 0, .int .i64 0, .int .i64 0, .int .i64 0, .int .i64 0, .int .i64 0, .int .i64 0, .int .i64 0, .int .i64 0, .int .i64 0, .int .i64 0, .int .i64 0, .int .i64 0, .int .i64 0, .int .i64 0, .int .i64 0, .int .i64 0, .int .i64 0, .int .i64 0, .int .i64 0, .int .i64 0, .int .i64 0, .int .i64 0, .int .i64 0, .int .i64 0, .int .i64 0, .int .i64 0, .int .i64 0, .int .i64 0, .int .i64 0, .int .i64 0, .int .i64 0, .int .i64 0, .int .i64 0, .int .i64 0, .int .i64 0, .int .i64 0, .int .i64 0, .int .i64 0, .int .i64 0, .int .i64 0, .int .i64 0, .int .i64 0, .int .i64 0, .int .i64 0, .int .i64 0, .int .i64 0, .int .i64 0, .int .i64 0, .int .i64 0, .int .i64 0, .int .i64 0, .int .i64 0, .int .i64 0, .int .i64 0, .int .i64 0, .int .i64 0, .int .i64 0, .int .i64 0, .int .i64 0, .int .i64 0, .int .i64 0, .int .i64 0, .int .i64 0, .int .i64 0, .int .i64 0, .int .i64 0, .int .i64 0, .int .i64 0, .int .i64 0, .int .i64 0, .int .i64 0, .int .i64 0, .int .i64 0, .int .i64 0, .int .i64 0, .int .i64 0, .int .i64 0, .int .i64 0, .int .i64 0, .int .i64 0, .int .i64 0, .int .i64 0, .int .i64 0, .int .i64 0, .int .i64 0, .int .i64 0, .int .i64 0, .int .i64 0, .int .i64 0, .int .i64 0, .int .i64 0, .int .i64 0, .int .i64 0, .int .i64 0, .int .i64 0, .int .i64 0, .int .i64 0, .int .i64 0, .int .i64 0, .int .i64 0, .int .i64 0, .int .i64 0, .int .i64 0, .int .i64 0, .int .i64 0, .int .i64 0, .int .i64 0, .int .i64 0, .int .i64 0, .int .i64 0, .int .i64 0, .int .i64 0, .int .i64 0, .int .i64 0, .int .i64 0, .int .i64 0, .int .i64 0, .int .i64 0, .int .i64 0, .int .i64 0, .int .i64 0, .int .i64 0, .int .i64 0, .int .i64 0, .int .i64 0, .int .i64 0, .int .i64 0, .int .i64 0, .int .i64 0, .int .i64 0, .int .i64 0, .int .i64 0, .int .i64 0, .int .i64 0, .int .i64 0, .int .i64 0, .int .i64 0, .int .i64 0, .int .i64 0, .int .i64 0, .int .i64 0, .int .i64 0, .int .i64 0, .int .i64 0, .int .i64 0, .int .i64 0, .int .i64 0, .int .i64 0, .int .i64 0, .int .i64 0, .int .i64 0, .int .i64 0, .int .i64 0, .int .i64 0, .int .i64 0, .int .i64 0, .int .i64 0, .int .i64 0, .int .i64 0, .int .i64 0, .int .i64 0, .int .i64 0, .int .i64 0, .int .i64 0, .int .i64 0, .int .i64 0, .int .i64 0, .int .i64 0, .int .i64 0, .int .i64 0, .int .i64 0, .int .i64 0, .int .i64 0, .int .i64 0, .int .i64 0, .int .i64 0, .int .i64 0, .int .i64 0, .int .i64 0, .int .i64 0, .int .i64 0, .int .i64 0, .int .i64 0, .int .i64 0, .int .i64 0, .int .i64 0, .int .i64 0, .int .i64 0, .int .i64 0, .int .i64 0, .int .i64 0, .base (.slice none 0 0)] := by kernel_rfl
@[go_sem] theorem zero_334 : zeroCells Tryz.prog 334 = some [.base (.slice none 0 0)] := by kernel_rfl
@[go_sem] theorem zero_345 : zeroCells Tryz.prog 345 = some [.base (.nilIface)] := by kernel_rfl
@[go_sem] theorem zero_4 : zeroCells Tryz.prog 4 = some [.bool false] := by kernel_rfl
@[go_sem] theorem zero_5 : zeroCells Tryz.prog 5 = some [.int .u8 0] := by kernel_rfl
@[go_sem] theorem zero_61 : zeroCells Tryz.prog 61 = some [.int .i64 0, .int .i64 0] := by kernel_rfl
@[go_sem] theorem zero_70 : zeroCells Tryz.prog 70 = some [.int .i64 0, .base (.slice none 0 0)] := by kernel_rfl
@[go_sem] theorem zero_73 : zeroCells Tryz.prog 73 = some [.int .i64 0, .base (.slice none 0 0)] := by kernel_rfl
@[go_sem] theorem zero_88 : zeroCells Tryz.prog 88 = some [.str [], .int .i64 0, .base (.slice none 0 0), .bool false, .int .i64 0] := by kernel_rfl
@[go_sem] theorem zero_9 : zeroCells Tryz.prog 9 = some [.str []] := by kernel_rfl
@[go_sem] theorem zero_95 : zeroCells Tryz.prog 95 = some [.int .i64 0, .int .i64 0, .int .i64 0, .str [], .base (.slice none 0 0)] := by kernel_rfl
@[go_sem] theorem zero_98 : zeroCells Tryz.prog 98 = some [.base (.pointer none)] := by kernel_rfl
theorem mixed : Tryz.prog.follows .mixedOrders = true := by kernel_rfl
end Go.Ab

/-
  SHAPES: abstract values told by plain data; states told by plain data, with their objects in fixed places.
-/
set_option linter.unusedVariables false
set_option linter.unusedSimpArgs false
namespace Go.Ab
open Go Go.RowKit

/-- A state that runs: the temporaries are a list. -/
structure XS where
  env : List AV
  σ : Sto
  nx : Nat
def xenv (l : List AV) : Nat → AV := fun t => l.getD t .undef
def XS.st (x : XS) : St := ⟨xenv x.env, x.σ, x.nx⟩

/-! ### Plain data as one value -/
def E.av : (e : E) → e.den → AV
  | .int k, n => .int k n
  | .bool, b => .bool b
  | .str, l => .str l
  | .erri, b => .erri b
  | .form, f => .agg (E.cells .form f)
  | .un, x => .agg (E.cells .un x)
  | .pr a b, x => .agg (E.cells (.pr a b) x)
  | .slice e, l => .tvec e l
def aggE : E → Bool
  | .form => true
  | .un => true
  | .pr _ _ => true
  | _ => false
def cellsV (e : E) (v : AV) : Option (List AV) :=
  match aggE e with
  | true => match v with
    | .agg cs => some cs
    | _ => none
  | false => match v with
    | .agg _ => none
    | v => some [v]
def absE (e : E) (v : AV) : Option e.den := (cellsV e v).bind (absC absF e)
theorem E.av_rf : ∀ (e : E) (x : e.den), RF (e.av x)
  | .int _, _ => trivial
  | .bool, _ => trivial
  | .str, _ => trivial
  | .erri, _ => trivial
  | .form, f => E.cells_rf .form f
  | .un, x => E.cells_rf .un x
  | .pr a b, x => E.cells_rf (.pr a b) x
  | .slice _, _ => trivial
theorem E.av_agg (e : E) (x : e.den) (h : aggE e = true) : e.av x = .agg (e.cells x) := by cases e <;> first | rfl | (simp [aggE] at h)
theorem E.av_one (e : E) (x : e.den) (h : aggE e = false) : e.cells x = [e.av x] := by cases e <;> first | rfl | (simp [aggE] at h)
theorem rel_agg {kn : Kn} {m : Mp} {cs ds : List AV} {v : Value} (h : Rel kn m (.agg cs) v) (hc : ∀ us, RelL kn m cs us → RelL kn m ds us) : Rel kn m (.agg ds) v := by
  cases h with
  | agg _ vs hl hr h1 =>
    have := hc vs.toList ⟨by simpa using hl, fun i x v a b => hr i x v a (by simpa using b)⟩
    exact .agg ds vs (by simpa using this.1) (fun i x v a b => this.2 i x v a (by simpa using b)) h1
theorem absE_rel {kn : Kn} {m : Mp} {e : E} {v : AV} {x : e.den} (h : absE e v = some x) {u : Value} (hr : Rel kn m v u) : Rel kn m (e.av x) u := by
  unfold absE cellsV at h
  obtain ⟨cs, h1, h2⟩ := Option.bind_eq_some_iff.1 h
  have hcells : ∀ us, RelL kn m cs us → RelL kn m (e.cells x) us := fun us hh => (E.rel_cells e x us).2 (absC_sound absF e cs x h2 us hh)
  split at h1
  · rename_i he
    split at h1
    · cases h1
      rw [E.av_agg e x he]
      exact rel_agg hr hcells
    · cases h1
  · rename_i he
    split at h1
    · cases h1
    · cases h1
      have := hcells [u] (relL_one.2 ⟨u, rfl, hr⟩)
      rw [E.av_one e x he] at this
      obtain ⟨u', e', h'⟩ := relL_one.1 this
      cases e'; exact h'

/-- Fixed values. -/
def eqA : AV → AV → Bool
  | .base .nilIface, .base .nilIface => true
  | .base (.slice none 0 0), .base (.slice none 0 0) => true
  | .base (.pointer none), .base (.pointer none) => true
  | .base (.map none), .base (.map none) => true
  | .base .nilFunc, .base .nilFunc => true
  | .fn (.func f) [] [], .fn (.func g) [] [] => Nat.beq f g
  | .tup [], .tup [] => true
  | .base (.tuple ⟨[]⟩), .base (.tuple ⟨[]⟩) => true
  | _, _ => false
theorem eqA_sound {a b : AV} (h : eqA a b = true) : a = b ∧ RF a := by
  unfold eqA at h
  split at h <;> first | exact ⟨rfl, by simp [RF, RFL]⟩ | (cases h; done) | skip
  have := Nat.eq_of_beq_eq_true h
  subst this
  exact ⟨rfl, by simp [RF, RFL]⟩

/-! ### Shapes -/
inductive Sh where
  | d (e : E)
  | c (v : AV)
  | ref (slot off : Nat)
  | gs (slot : Nat) (e : E)
  | mref (slot off : Nat)
  | gv (slot : Nat) (e : E)
  | agg (l : List Sh)
  | tup (l : List Sh)
  | rptr (l : List Sh)
  | fn (f : Fn) (first caps : List Sh)
  | iface (t : TypeId) (s : Sh)
mutual
def Sh.den : Sh → Type
  | .d e => e.den
  | .c _ => Unit
  | .ref _ _ => Unit
  | .gs _ _ => Unit
  | .mref _ _ => Bool
  | .gv _ _ => Nat × Nat
  | .agg l => Sh.denL l
  | .tup l => Sh.denL l
  | .rptr l => Sh.denL l
  | .fn _ a b => Sh.denL a × Sh.denL b
  | .iface _ s => s.den
def Sh.denL : List Sh → Type
  | [] => Unit
  | s :: l => s.den × Sh.denL l
end
/-- Where a slot lies: place, name, length. -/
abbrev Pl := Nat → Nat × Nat × Nat
mutual
def patV (ρ : Pl) : (s : Sh) → s.den → AV
  | .d e, x => e.av x
  | .c v, _ => v
  | .ref j off, _ => .ref (ρ j).1 (ρ j).2.1 off
  | .gs j e, _ => .gs (ρ j).1 (ρ j).2.1 e (ρ j).2.2
  | .mref j off, (b : Bool) => .mref (ρ j).1 (ρ j).2.1 off b
  | .gv j e, (x : Nat × Nat) => .gv (ρ j).1 (ρ j).2.1 e x.1 x.2
  | .agg l, x => .agg (patL ρ l x)
  | .tup l, x => .tup (patL ρ l x)
  | .rptr l, x => .rptr (patL ρ l x)
  | .fn f a b, x => .fn f (patL ρ a x.1) (patL ρ b x.2)
  | .iface t s, x => .iface t (patV ρ s x)
def patL (ρ : Pl) : (l : List Sh) → Sh.denL l → List AV
  | [], _ => []
  | s :: l, x => patV ρ s x.1 :: patL ρ l x.2
end
inductive OSh where
  | cells (T : TypeId) (l : List Sh)
  | tg (e : E) (ety : TypeId)
def OSh.den : OSh → Type
  | .cells _ l => Sh.denL l
  | .tg e _ => List e.den
abbrev Slots := List (Bool × OSh)
inductive Bnd where
  | nil
  | at (p nm : Nat)
  deriving DecidableEq
abbrev Binds := List (Nat × Bnd)
def bget : Binds → Nat → Option Bnd
  | [], _ => none
  | (j', b) :: l, j => if j' = j then some b else bget l j
def bfree (p : Nat) : Binds → Bool
  | [] => true
  | (_, .nil) :: l => bfree p l
  | (_, .at p' _) :: l => !(Nat.beq p' p) && bfree p l
def bput (j : Nat) (b : Bnd) (β : Binds) : Option Binds :=
  match bget β j with
  | some b' => if b' = b then some β else none
  | none => match b with
    | .nil => some ((j, .nil) :: β)
    | .at p nm => if bfree p β = true then some ((j, .at p nm) :: β) else none
def slotTg (os : Slots) (j : Nat) (e : E) : Bool :=
  match os[j]? with
  | some (_, .tg e' _) => decide (e' = e)
  | _ => false
def pairO {α β : Type} (b : β) : Option α → Option (α × β)
  | some a => some (a, b)
  | none => none
def unitO {β : Type} : Option β → Option (Unit × β)
  | some b => some ((), b)
  | none => none
mutual
def absV (os : Slots) (β : Binds) : (s : Sh) → AV → Option (s.den × Binds)
  | .d e, v => pairO β (absE e v)
  | .c a, v => if eqA a v = true then some ((), β) else none
  | .ref j off, v => match v with
    | .ref p nm off' => if off' = off ∧ (os[j]?).isSome = true then unitO (bput j (.at p nm) β) else none
    | _ => none
  | .gs j e, v => match v with
    | .gs p nm e' _ => if e' = e ∧ slotTg os j e = true then unitO (bput j (.at p nm) β) else none
    | .base (.slice none 0 0) => if slotTg os j e = true then unitO (bput j .nil β) else none
    | _ => none
  | .mref j off, v => match v with
    | .ref p nm off' => if off' = off ∧ (os[j]?).isSome = true then (match bput j (.at p nm) β with
      | some β' => some (true, β')
      | none => none) else none
    | .mref p nm off' b => if off' = off ∧ bget β j = some (.at p nm) then some (b, β) else none
    | .base (.pointer none) => some (false, β)
    | _ => none
  | .gv j e, v => match v with
    | .gv p nm e' off len => if e' = e ∧ bget β j = some (.at p nm) then some ((off, len), β) else none
    | _ => none
  | .agg l, v => match v with
    | .agg cs => absL os β l cs
    | _ => none
  | .tup l, v => match v with
    | .tup cs => absL os β l cs
    | _ => none
  | .rptr l, v => match v with
    | .rptr cs => absL os β l cs
    | _ => none
  | .fn f a b, v => match v with
    | .fn f' x y => if f' = f then (match absL os β a x with
      | some (a', β1) => match absL os β1 b y with
        | some (b', β2) => some ((a', b'), β2)
        | none => none
      | none => none) else none
    | _ => none
  | .iface t s, v => match v with
    | .iface t' x => if t' = t then absV os β s x else none
    | _ => none
def absL (os : Slots) (β : Binds) : (l : List Sh) → List AV → Option (Sh.denL l × Binds)
  | [], vs => match vs with
    | [] => some ((), β)
    | _ :: _ => none
  | s :: l, vs => match vs with
    | v :: vs => match absV os β s v with
      | some (x, β1) => match absL os β1 l vs with
        | some (y, β2) => some ((x, y), β2)
        | none => none
      | none => none
    | [] => none
end
/-- A state's shape: what the temporaries hold that matter, and the objects; 'true': an object that keeps its name. -/
structure SS where
  env : List (Nat × Sh)
  objs : Slots
def denE : List (Nat × Sh) → Type
  | [] => Unit
  | (_, s) :: l => s.den × denE l
def denO : Slots → Type
  | [] => Unit
  | (_, o) :: l => o.den × denO l
def SS.den (ss : SS) : Type := denE ss.env × denO ss.objs
def absEnv (os : Slots) (β : Binds) : (l : List (Nat × Sh)) → List AV → Option (denE l × Binds)
  | [], _ => some ((), β)
  | (t, s) :: l, env => match absV os β s (env.getD t .undef) with
    | some (x, β1) => match absEnv os β1 l env with
      | some (y, β2) => some ((x, y), β2)
      | none => none
    | none => none
def absCellsO (os : Slots) (β : Binds) (σ : Sto) (T : TypeId) (l : List Sh) (b : Option Bnd) : Option (Sh.denL l × Binds) :=
  match b with
  | some (.at p nm) => match sget σ p nm with
    | some (.cells T' cs) => if T' = T then absL os β l cs else none
    | _ => none
  | _ => none
def absTgO (β : Binds) (σ : Sto) (e : E) (ety : TypeId) (b : Option Bnd) : Option (List e.den × Binds) :=
  match b with
  | some (.at p nm) => match sget σ p nm with
    | some (.tg e' ety' l) => if h : e' = e then (if ety' = ety then some (castL h l, β) else none) else none
    | _ => none
  | some .nil => some ([], β)
  | none => none
def absO (os : Slots) (β : Binds) (σ : Sto) (b : Option Bnd) : (o : OSh) → Option (o.den × Binds)
  | .cells T l => absCellsO os β σ T l b
  | .tg e ety => absTgO β σ e ety b
def absOs (os : Slots) (σ : Sto) (β : Binds) (j : Nat) : (l : Slots) → Option (denO l × Binds)
  | [] => some ((), β)
  | (_, o) :: l => match absO os β σ (bget β j) o with
    | some (x, β1) => match absOs os σ β1 (j + 1) l with
      | some (y, β2) => some ((x, y), β2)
      | none => none
    | none => none
/-- Objects that keep their names lie where they lay. -/
def binds0 (j : Nat) : Slots → Binds
  | [] => []
  | (true, _) :: l => (j, .at j j) :: binds0 (j + 1) l
  | (false, _) :: l => binds0 (j + 1) l
def absS (ss : SS) (x : XS) : Option ss.den :=
  match absEnv ss.objs (binds0 0 ss.objs) ss.env x.env with
  | some (a, β1) => match absOs ss.objs x.σ β1 0 ss.objs with
    | some (o, _) => some (a, o)
    | none => none
  | none => none
/-! The state that a shape and data tell. -/
def lenO (o : OSh) (x : o.den) : Nat := match o, x with
  | .cells _ _, _ => 0
  | .tg _ _, (l : List _) => l.length
def lensO : (l : Slots) → denO l → Nat → Nat
  | [], _, _ => 0
  | (_, o) :: _, x, 0 => lenO o x.1
  | _ :: l, x, j + 1 => lensO l x.2 j
def nameOf (k j : Nat) (os : Slots) : Nat := match os[j]? with
  | some (true, _) => j
  | _ => k + j
def plO (k : Nat) (os : Slots) (x : denO os) : Pl := fun j => (j, nameOf k j os, lensO os x j)
def patE (ρ : Pl) : (l : List (Nat × Sh)) → denE l → Nat → AV
  | [], _, _ => .any
  | (t', s) :: l, x, t => if t' = t then patV ρ s x.1 else patE ρ l x.2 t
def patO (ρ : Pl) (o : OSh) (x : o.den) : AObj := match o, x with
  | .cells T l, x => .cells T (patL ρ l x)
  | .tg e ety, x => .tg e ety x
def patOs (ρ : Pl) (nm : Nat → Nat) (j : Nat) : (l : Slots) → denO l → Sto
  | [], _ => []
  | (_, o) :: l, x => (nm j, patO ρ o x.1) :: patOs ρ nm (j + 1) l x.2
def listTo (f : Nat → AV) : Nat → Nat → List AV
  | 0, _ => []
  | n + 1, t => f t :: listTo f n (t + 1)
def patS (k n : Nat) (ss : SS) (d : ss.den) : XS :=
  ⟨listTo (patE (plO k ss.objs d.2) ss.env d.1) n 0, patOs (plO k ss.objs d.2) (fun j => nameOf k j ss.objs) 0 ss.objs d.2, k + ss.objs.length⟩
end Go.Ab

set_option linter.unusedVariables false
set_option linter.unusedSimpArgs false
namespace Go.Ab
open Go Go.RowKit

def Ext (β β' : Binds) : Prop := ∀ j b, bget β j = some b → bget β' j = some b
theorem Ext.refl (β : Binds) : Ext β β := fun _ _ h => h
theorem Ext.trans {a b c : Binds} (h : Ext a b) (k : Ext b c) : Ext a c := fun j x e => k j x (h j x e)
/-- What is bound is laid, each place once. -/
structure VB (m : Mp) (os : Slots) (β : Binds) : Prop where
  dom : ∀ j b, bget β j = some b → (os[j]?).isSome = true
  laid : ∀ j p nm, bget β j = some (.at p nm) → ∃ loc, m nm = some loc
  one : ∀ j j' p nm nm', bget β j = some (.at p nm) → bget β j' = some (.at p nm') → j = j'
theorem bfree_spec {p : Nat} : ∀ {β : Binds}, bfree p β = true → ∀ j nm, bget β j = some (.at p nm) → False
  | [], _, j, nm, e => by simp [bget] at e
  | (j', .nil) :: l, h, j, nm, e => by
    simp only [bget] at e
    split at e
    · cases e
    · exact bfree_spec (β := l) h j nm e
  | (j', .at p' n') :: l, h, j, nm, e => by
    simp only [bfree, Bool.and_eq_true, Bool.not_eq_true'] at h
    simp only [bget] at e
    split at e
    · cases e; simp at h
    · exact bfree_spec (β := l) h.2 j nm e
theorem bput_ext {j : Nat} {b : Bnd} {β β' : Binds} (h : bput j b β = some β') : Ext β β' ∧ bget β' j = some b ∧ ∀ j' b', bget β' j' = some b' → bget β j' = some b' ∨ (j' = j ∧ b' = b ∧ bget β j = none ∧ ∀ p nm, b = .at p nm → bfree p β = true) := by
  unfold bput at h
  split at h
  · rename_i b0 hb
    split at h
    · rename_i e; subst e; cases h; exact ⟨.refl _, hb, fun j' b' e => .inl e⟩
    · cases h
  · rename_i hb
    have key : ∀ b', Ext β ((j, b') :: β) ∧ bget ((j, b') :: β) j = some b' ∧ ∀ j2 b2, bget ((j, b') :: β) j2 = some b2 → bget β j2 = some b2 ∨ (j2 = j ∧ b2 = b') := fun b' => by
      refine ⟨fun j2 b2 e => ?_, by simp [bget], fun j2 b2 e => ?_⟩
      · simp only [bget]
        split
        · rename_i e'; subst e'; rw [hb] at e; cases e
        · exact e
      · simp only [bget] at e
        split at e
        · rename_i e'; subst e'; cases e; exact .inr ⟨rfl, rfl⟩
        · exact .inl e
    split at h
    · cases h
      obtain ⟨k1, k2, k3⟩ := key .nil
      exact ⟨k1, k2, fun j2 b2 e => (k3 j2 b2 e).imp_right fun q => ⟨q.1, q.2, hb, fun p nm e => by cases e⟩⟩
    · rename_i p nm
      split at h
      · rename_i hf
        cases h
        obtain ⟨k1, k2, k3⟩ := key (.at p nm)
        exact ⟨k1, k2, fun j2 b2 e => (k3 j2 b2 e).imp_right fun q => ⟨q.1, q.2, hb, fun p' nm' e => by cases e; exact hf⟩⟩
      · cases h
theorem bput_vb {m : Mp} {os : Slots} {j : Nat} {b : Bnd} {β β' : Binds} (h : bput j b β = some β') (hj : (os[j]?).isSome = true) (hl : ∀ p nm, b = .at p nm → ∃ loc, m nm = some loc) (hv : VB m os β) : VB m os β' := by
  obtain ⟨h1, h2, h3⟩ := bput_ext h
  refine ⟨fun j' b' e => ?_, fun j' p nm e => ?_, fun j1 j2 p nm nm' e1 e2 => ?_⟩
  · rcases h3 j' _ e with e | ⟨rfl, e, _⟩
    · exact hv.dom _ _ e
    · exact hj
  · rcases h3 j' _ e with e | ⟨rfl, e, _⟩
    · exact hv.laid j' p nm e
    · exact hl p nm e.symm
  · rcases h3 j1 _ e1 with e1 | ⟨rfl, q1, q2, q3⟩
    · rcases h3 j2 _ e2 with e2 | ⟨rfl, q1, q2, q3⟩
      · exact hv.one j1 j2 p nm nm' e1 e2
      · exact (bfree_spec (q3 p nm' q1.symm) _ _ e1).elim
    · rcases h3 j2 _ e2 with e2 | ⟨rfl, _, _, _⟩
      · exact (bfree_spec (q3 p nm q1.symm) _ _ e2).elim
      · rfl
/-- The new names mean what the old ones meant. -/
def Link (m m' : Mp) (ρ : Pl) (os : Slots) (β : Binds) : Prop := ∀ j b, bget β j = some b → match b with
  | .at p nm => m' (ρ j).2.1 = m nm ∧ ∀ e loc, slotTg os j e = true → m nm = some loc → loc.len = (ρ j).2.2
  | .nil => ∃ loc, m' (ρ j).2.1 = some loc ∧ loc.nil = true ∧ loc.len = 0 ∧ (ρ j).2.2 = 0
theorem Link.ext {m m' : Mp} {ρ : Pl} {os : Slots} {β β' : Binds} (h : Link m m' ρ os β') (he : Ext β β') : Link m m' ρ os β := fun j b e => h j b (he j b e)

theorem rel_agg_conv {kn : Kn} {m m' : Mp} {cs ds : List AV} {v : Value} (h : Rel kn m (.agg cs) v) : ∃ us, RelL kn m cs us ∧ (RelL kn m' ds us → Rel kn m' (.agg ds) v) := by
  cases h with
  | agg _ vs hl hr h1 =>
    exact ⟨vs.toList, ⟨by simpa using hl, fun i x v a b => hr i x v a (by simpa using b)⟩, fun this => .agg ds vs (by simpa using this.1) (fun i x v a b => this.2 i x v a (by simpa using b)) h1⟩
theorem rel_tup_conv {kn : Kn} {m m' : Mp} {cs ds : List AV} {v : Value} (h : Rel kn m (.tup cs) v) : ∃ us, RelL kn m cs us ∧ (RelL kn m' ds us → Rel kn m' (.tup ds) v) := by
  cases h with
  | tup _ vs hl hr =>
    exact ⟨vs.toList, ⟨by simpa using hl, fun i x v a b => hr i x v a (by simpa using b)⟩, fun this => .tup ds vs (by simpa using this.1) (fun i x v a b => this.2 i x v a (by simpa using b))⟩
theorem rel_rptr_conv {kn : Kn} {m m' : Mp} {cs ds : List AV} {v : Value} (h : Rel kn m (.rptr cs) v) : ∃ us, RelL kn m cs us ∧ (RelL kn m' ds us → Rel kn m' (.rptr ds) v) := by
  cases h with
  | rptr _ b o vals hk hr h1 =>
    have hget : ∀ j, j < cs.length → ((List.range cs.length).map vals)[j]? = some (vals j) := fun j hj => by simp [hj]
    refine ⟨(List.range cs.length).map vals, ⟨by simp, fun i x v a b => ?_⟩, fun hrl => ?_⟩
    · have hi := (List.getElem?_eq_some_iff.1 a).1
      rw [hget i hi] at b; cases b; exact hr i x a
    · have hlen : ds.length = cs.length := by have := hrl.1; simpa using this
      have hlt : ∀ j x, ds[j]? = some x → ∃ y, cs[j]? = some y := fun j x e => by
        have hj := (List.getElem?_eq_some_iff.1 e).1
        exact ⟨cs[j]'(by omega), List.getElem?_eq_getElem (by omega)⟩
      refine .rptr ds b o vals (fun j x e => ?_) (fun j x e => ?_) (fun j x e => ?_)
      · obtain ⟨y, hy⟩ := hlt j x e; exact hk j y hy
      · exact hrl.2 j x _ e (hget j (by have := (List.getElem?_eq_some_iff.1 e).1; omega))
      · obtain ⟨y, hy⟩ := hlt j x e; exact h1 j y hy
theorem rel_fn_conv {kn : Kn} {m m' : Mp} {f : Fn} {a b a' b' : List AV} {v : Value} (h : Rel kn m (.fn f a b) v) : ∃ us ws, RelL kn m a us ∧ RelL kn m b ws ∧ (RelL kn m' a' us → RelL kn m' b' ws → Rel kn m' (.fn f a' b') v) := by
  cases h with
  | fn _ _ _ f1 c1 h1 h2 hf hc =>
    exact ⟨f1.toList, c1.toList, ⟨by simpa using h1, fun i x v a b => hf i x v a (by simpa using b)⟩, ⟨by simpa using h2, fun i x v a b => hc i x v a (by simpa using b)⟩,
      fun p q => .fn f a' b' f1 c1 (by simpa using p.1) (by simpa using q.1) (fun i x v a b => p.2 i x v a (by simpa using b)) (fun i x v a b => q.2 i x v a (by simpa using b))⟩

section
variable {kn : Kn} {m : Mp} {os : Slots}
def OkV (kn : Kn) (m : Mp) (os : Slots) (β β' : Binds) (s : Sh) (v : AV) (x : s.den) : Prop :=
  Ext β β' ∧ ∀ u, Rel kn m v u → (VB m os β → VB m os β') ∧ ∀ m' ρ, Link m m' ρ os β' → Rel kn m' (patV ρ s x) u
def OkL (kn : Kn) (m : Mp) (os : Slots) (β β' : Binds) (l : List Sh) (vs : List AV) (x : Sh.denL l) : Prop :=
  Ext β β' ∧ ∀ us, RelL kn m vs us → (VB m os β → VB m os β') ∧ ∀ m' ρ, Link m m' ρ os β' → RelL kn m' (patL ρ l x) us
theorem slotTg_some {j : Nat} {e : E} (h : slotTg os j e = true) : (os[j]?).isSome = true := by
  unfold slotTg at h
  split at h
  · rename_i b e' ety he; rw [he]; rfl
  · cases h
theorem slotTg_one {j : Nat} {e e' : E} (h : slotTg os j e = true) (h' : slotTg os j e' = true) : e = e' := by
  unfold slotTg at h h'
  split at h
  · rename_i b e2 ety he
    rw [he] at h'
    simp at h h'
    rw [← h, ← h']
  · cases h
mutual
theorem absV_ok : ∀ (s : Sh) (β β' : Binds) (v : AV) (x : s.den), absV os β s v = some (x, β') → OkV kn m os β β' s v x
  | .d e, β, β', v, x, h => by
    have h : pairO β (absE e v) = some (x, β') := h
    unfold pairO at h
    split at h
    · rename_i y hy
      cases h
      exact ⟨.refl _, fun u hu => ⟨id, fun m' ρ _ => ((absE_rel hy hu).rf (E.av_rf e _) m')⟩⟩
    · cases h
  | .c a, β, β', v, x, h => by
    have h : (if eqA a v = true then some ((), β) else none) = some (x, β') := h
    split at h
    · rename_i he
      cases h
      obtain ⟨rfl, hf⟩ := eqA_sound he
      exact ⟨.refl _, fun u hu => ⟨id, fun m' ρ _ => hu.rf hf m'⟩⟩
    · cases h
  | .ref j off, β, β', v, x, h => by
    cases v with
    | ref p nm off' =>
      have h : (if off' = off ∧ (os[j]?).isSome = true then unitO (bput j (.at p nm) β) else none) = some (x, β') := h
      split at h
      · rename_i ho
        obtain ⟨rfl, hoj⟩ := ho
        unfold unitO at h
        split at h
        · rename_i b hb
          cases h
          obtain ⟨h1, h2, h3⟩ := bput_ext hb
          refine ⟨h1, fun u hu => ?_⟩
          cases hu with
          | ref _ _ _ loc hm =>
            refine ⟨bput_vb hb hoj (fun p' nm' e => by cases e; exact ⟨loc, hm⟩), fun m' ρ hl => ?_⟩
            exact .ref _ _ _ loc ((hl j _ h2).1.trans hm)
        · cases h
      · cases h
    | _ => cases h
  | .gs j e, β, β', v, x, h => by
    cases v with
    | gs p nm e' len =>
      have h : (if e' = e ∧ slotTg os j e = true then unitO (bput j (.at p nm) β) else none) = some (x, β') := h
      split at h
      · rename_i ho
        obtain ⟨rfl, hst⟩ := ho
        unfold unitO at h
        split at h
        · rename_i b hb
          cases h
          obtain ⟨h1, h2, h3⟩ := bput_ext hb
          refine ⟨h1, fun u hu => ?_⟩
          cases hu with
          | gs _ _ _ _ _ loc hm hll hr =>
            refine ⟨bput_vb hb (slotTg_some hst) (fun p' nm' e => by cases e; exact ⟨loc, hm⟩), fun m' ρ hl => ?_⟩
            obtain ⟨q1, q2⟩ := hl j _ h2
            have hL := q2 e' loc hst hm
            refine .gs _ _ _ _ _ loc (q1.trans hm) hL ?_
            rw [← hL, hll]
            cases hr with
            | srefNil _ _ _ loc' hm' hn => exact .srefNil _ _ _ loc' (q1.trans hm') hn
            | sref _ _ _ _ _ loc' hm' hn he hc hle => exact .sref _ _ _ _ _ loc' (q1.trans hm') hn he hc hle
        · cases h
      · cases h
    | base v =>
      have h : (match v with
        | .slice none 0 0 => if slotTg os j e = true then unitO (bput j .nil β) else none
        | _ => none) = some (x, β') := by
        unfold absV at h
        split at h
        · rename_i e'; cases e'
        · rename_i e'; cases e'; exact h
        · cases h
      split at h
      · by_cases hst : slotTg os j e = true
        · replace h : unitO (bput j .nil β) = some (x, β') := (if_pos hst).symm.trans h
          unfold unitO at h
          split at h
          · rename_i b hb
            cases h
            obtain ⟨h1, h2, h3⟩ := bput_ext hb
            refine ⟨h1, fun u hu => ?_⟩
            cases hu
            refine ⟨bput_vb hb (slotTg_some hst) (fun p' nm' e => by cases e), fun m' ρ hl => ?_⟩
            obtain ⟨loc, q1, q2, q3, q4⟩ := hl j _ h2
            refine .gs _ _ _ _ _ loc q1 (by omega) ?_
            rw [q4]
            exact .srefNil _ _ _ loc q1 q2
          · cases h
        · replace h : none = some (x, β') := (if_neg hst).symm.trans h
          cases h
      · cases h
    | _ => cases h
  | .gv j e, β, β', v, x, h => by
    cases v with
    | gv p nm e' off len =>
      have h : (if e' = e ∧ bget β j = some (.at p nm) then some ((off, len), β) else none) = some (x, β') := h
      split at h
      · rename_i ho
        obtain ⟨rfl, hb⟩ := ho
        cases h
        refine ⟨.refl _, fun u hu => ⟨id, fun m' ρ hl => ?_⟩⟩
        have hq := (hl j _ hb).1
        cases hu with
        | gvE => exact .gvE _ _ _ _ _ _
        | gvS _ _ _ _ _ _ hr =>
          refine .gvS _ _ _ _ _ _ ?_
          cases hr with
          | srefNil _ _ _ loc hm hn => exact .srefNil _ _ _ loc (hq.trans hm) hn
          | sref _ _ _ _ _ loc hm hn he hc hle => exact .sref _ _ _ _ _ loc (hq.trans hm) hn he hc hle
      · cases h
    | _ => cases h
  | .mref j off, β, β', v, x, h => by
    cases v with
    | ref p nm off' =>
      have h : (if off' = off ∧ (os[j]?).isSome = true then (match bput j (.at p nm) β with
        | some β' => some (true, β')
        | none => none) else none) = some (x, β') := h
      split at h
      · rename_i ho
        obtain ⟨rfl, hoj⟩ := ho
        split at h
        · rename_i b hb
          cases h
          obtain ⟨h1, h2, h3⟩ := bput_ext hb
          refine ⟨h1, fun u hu => ?_⟩
          cases hu with
          | ref _ _ _ loc hm =>
            refine ⟨bput_vb hb hoj (fun p' nm' e => by cases e; exact ⟨loc, hm⟩), fun m' ρ hl => ?_⟩
            exact .mrefSome _ _ _ loc ((hl j _ h2).1.trans hm)
        · cases h
      · cases h
    | mref p nm off' b =>
      have h : (if off' = off ∧ bget β j = some (.at p nm) then some (b, β) else none) = some (x, β') := h
      split at h
      · rename_i ho
        obtain ⟨rfl, hb⟩ := ho
        cases h
        refine ⟨.refl _, fun u hu => ⟨id, fun m' ρ hl => ?_⟩⟩
        cases hu with
        | mrefSome _ _ _ loc hm => exact .mrefSome _ _ _ loc ((hl j _ hb).1.trans hm)
        | mrefNil => exact .mrefNil _ _ _
      · cases h
    | base v =>
      have h : (match v with
        | .pointer none => some (false, β)
        | _ => none) = some (x, β') := by
        unfold absV at h
        split at h
        · rename_i e'; cases e'
        · rename_i e'; cases e'
        · rename_i e'; cases e'; exact h
        · cases h
      split at h
      · cases h
        refine ⟨.refl _, fun u hu => ⟨id, fun m' ρ hl => ?_⟩⟩
        cases hu
        exact .mrefNil _ _ _
      · cases h
    | _ => cases h
  | .agg l, β, β', v, x, h => by
    cases v with
    | agg cs =>
      obtain ⟨h1, h2⟩ := absL_ok l β β' cs x h
      refine ⟨h1, fun u hu => ?_⟩
      obtain ⟨us, q1, _⟩ := rel_agg_conv (m' := m) (ds := cs) hu
      refine ⟨(h2 us q1).1, fun m' ρ hl => ?_⟩
      obtain ⟨us, q1, q2⟩ := rel_agg_conv (m' := m') (ds := patL ρ l x) hu
      exact q2 ((h2 us q1).2 m' ρ hl)
    | _ => cases h
  | .tup l, β, β', v, x, h => by
    cases v with
    | tup cs =>
      obtain ⟨h1, h2⟩ := absL_ok l β β' cs x h
      refine ⟨h1, fun u hu => ?_⟩
      obtain ⟨us, q1, _⟩ := rel_tup_conv (m' := m) (ds := cs) hu
      refine ⟨(h2 us q1).1, fun m' ρ hl => ?_⟩
      obtain ⟨us, q1, q2⟩ := rel_tup_conv (m' := m') (ds := patL ρ l x) hu
      exact q2 ((h2 us q1).2 m' ρ hl)
    | _ => cases h
  | .rptr l, β, β', v, x, h => by
    cases v with
    | rptr cs =>
      obtain ⟨h1, h2⟩ := absL_ok l β β' cs x h
      refine ⟨h1, fun u hu => ?_⟩
      obtain ⟨us, q1, _⟩ := rel_rptr_conv (m' := m) (ds := cs) hu
      refine ⟨(h2 us q1).1, fun m' ρ hl => ?_⟩
      obtain ⟨us, q1, q2⟩ := rel_rptr_conv (m' := m') (ds := patL ρ l x) hu
      exact q2 ((h2 us q1).2 m' ρ hl)
    | _ => cases h
  | .fn f a b, β, β', v, x, h => by
    cases v with
    | fn f' p q =>
      have h : (if f' = f then (match absL os β a p with
        | some (a', β1) => match absL os β1 b q with
          | some (b', β2) => some ((a', b'), β2)
          | none => none
        | none => none) else none) = some (x, β') := h
      split at h
      · rename_i hf
        subst hf
        split at h
        · rename_i a' β1 ha
          split at h
          · rename_i b' β2 hb
            cases h
            obtain ⟨h1, h2⟩ := absL_ok a β β1 p a' ha
            obtain ⟨h3, h4⟩ := absL_ok b β1 _ q b' hb
            refine ⟨h1.trans h3, fun u hu => ?_⟩
            obtain ⟨us, ws, q1, q2, _⟩ := rel_fn_conv (m' := m) (a' := p) (b' := q) hu
            refine ⟨fun hv => (h4 ws q2).1 ((h2 us q1).1 hv), fun m' ρ hl => ?_⟩
            obtain ⟨us, ws, q1, q2, q3⟩ := rel_fn_conv (m' := m') (a' := patL ρ a a') (b' := patL ρ b b') hu
            exact q3 ((h2 us q1).2 m' ρ (hl.ext h3)) ((h4 ws q2).2 m' ρ hl)
          · cases h
        · cases h
      · cases h
    | _ => cases h
  | .iface t s, β, β', v, x, h => by
    cases v with
    | iface t' y =>
      have h : (if t' = t then absV os β s y else none) = some (x, β') := h
      split at h
      · rename_i ht
        subst ht
        obtain ⟨h1, h2⟩ := absV_ok s β β' y x h
        refine ⟨h1, fun u hu => ?_⟩
        cases hu with
        | iface _ _ v hv => exact ⟨(h2 v hv).1, fun m' ρ hl => .iface _ _ v ((h2 v hv).2 m' ρ hl)⟩
      · cases h
    | _ => cases h
theorem absL_ok : ∀ (l : List Sh) (β β' : Binds) (vs : List AV) (x : Sh.denL l), absL os β l vs = some (x, β') → OkL kn m os β β' l vs x
  | [], β, β', vs, x, h => by
    cases vs with
    | nil => cases h; exact ⟨.refl _, fun us hu => ⟨id, fun m' ρ _ => ⟨hu.1, fun i x v a => by simp [patL] at a⟩⟩⟩
    | cons v vs => cases h
  | s :: l, β, β', vs, x, h => by
    cases vs with
    | nil => cases h
    | cons v vs =>
      have h : (match absV os β s v with
        | some (x, β1) => match absL os β1 l vs with
          | some (y, β2) => some ((x, y), β2)
          | none => none
        | none => none) = some (x, β') := h
      split at h
      · rename_i a β1 ha
        split at h
        · rename_i b β2 hb
          cases h
          obtain ⟨h1, h2⟩ := absV_ok s β β1 v a ha
          obtain ⟨h3, h4⟩ := absL_ok l β1 _ vs b hb
          refine ⟨h1.trans h3, fun us hu => ?_⟩
          obtain ⟨w, ws, rfl, q1, q2⟩ := hu.uncons
          exact ⟨fun hv => (h4 ws q2).1 ((h2 w q1).1 hv), fun m' ρ hl => .cons ((h2 w q1).2 m' ρ (hl.ext h3)) ((h4 ws q2).2 m' ρ hl)⟩
        · cases h
      · cases h
end
theorem absEnv_ok {n : Nat} {act : Act} {env : List AV} (hE : RelEnv kn m (xenv env) n act) : ∀ (l : List (Nat × Sh)) (β β' : Binds) (x : denE l), absEnv os β l env = some (x, β') →
    Ext β β' ∧ (VB m os β → VB m os β') ∧ ∀ m' ρ, Link m m' ρ os β' → ∀ t, Rel kn m' (patE ρ l x t) (act.tmps.getD t undef)
  | [], β, β', x, h => by cases h; exact ⟨.refl _, id, fun m' ρ _ t => .any _⟩
  | (t0, s) :: l, β, β', x, h => by
    have h : (match absV os β s (env.getD t0 .undef) with
      | some (x, β1) => match absEnv os β1 l env with
        | some (y, β2) => some ((x, y), β2)
        | none => none
      | none => none) = some (x, β') := h
    split at h
    · rename_i a β1 ha
      split at h
      · rename_i b β2 hb
        cases h
        obtain ⟨h1, h2⟩ := absV_ok (kn := kn) (m := m) s β β1 _ a ha
        obtain ⟨h3, h4, h5⟩ := absEnv_ok hE l β1 _ b hb
        refine ⟨h1.trans h3, fun hv => h4 ((h2 _ (hE.tmp t0)).1 hv), fun m' ρ hl t => ?_⟩
        show Rel kn m' (if t0 = t then patV ρ s a else patE ρ l b t) _
        split
        · rename_i e; subst e; exact (h2 _ (hE.tmp t0)).2 m' ρ (hl.ext h3)
        · exact h5 m' ρ hl t
      · cases h
    · cases h
end
end Go.Ab
