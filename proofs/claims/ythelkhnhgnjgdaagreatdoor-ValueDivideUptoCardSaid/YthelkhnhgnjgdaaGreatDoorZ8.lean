/-
  A STATE TOLD BY PLAIN DATA, part two: the objects; and the whole.
-/
import Derived.Test.YthelkhnhgnjgdaaGreatDoorZ7
import Derived.Test.YthelkhnhgnjgdaaGreatDoorProg
import Derived.Test.YthelkhnhgnjgdaaGreatDoorZ6
/-
  REGIONS THAT MAKE ONE TRUTH VALUE: what follows is walked once, whatever way the value was made.
-/
set_option linter.unusedVariables false
set_option linter.unusedSimpArgs false
namespace Go.Ab
open Go Go.RowKit

def mask (lo hi : Nat) (env junk : Nat → AV) : Nat → AV := fun t => if lo ≤ t ∧ t ≤ hi then junk t else env t
@[go_sem] theorem mask_eq (lo hi : Nat) (env junk : Nat → AV) (t : Nat) : mask lo hi env junk t = if lo ≤ t ∧ t ≤ hi then junk t else env t := rfl
attribute [go_sem] true_and and_true and_self false_and and_false
def rangeOK (lo hi t : Nat) (ops : Array Oper) : Bool := ops.toList.all fun o => match o.dst with | some d => d == t || (Nat.ble lo d && Nat.ble d hi) | none => true
theorem rangeOK_spec {lo hi t : Nat} {ops : Array Oper} (h : rangeOK lo hi t ops = true) {d : Nat} (hd : d ∉ dstsOf ops → False) : d = t ∨ (lo ≤ d ∧ d ≤ hi) := by
  have hm : d ∈ dstsOf ops := Classical.byContradiction hd
  obtain ⟨o, ho, hod⟩ := List.mem_filterMap.1 hm
  have := List.all_eq_true.1 h o ho
  rw [hod] at this
  simp only [Bool.or_eq_true, Bool.and_eq_true, beq_iff_eq, Nat.ble_eq] at this
  exact this

@[go_sem] theorem ite_avbool (p : Prop) [Decidable p] (x y : Bool) : (if p then AV.bool x else AV.bool y) = AV.bool (if p then x else y) := by split <;> rfl
theorem gsel_cases {b : Bool} {X Y : Prop} {t : Tok X} {t' : Tok Y} (h : b = true → X) (h' : b = false → Y) : gsel (some b) X Y t t' := by
  cases b
  · exact h' rfl
  · exact h rfl
section
variable {C : Cx} {n : Nat} {ds : List Deferred} {Q : AExit → St → Prop} {s : St} {id : Nat} {ops : Array Oper} {y : Code} {H : Hints}
/-- The value in its place, the rest as it was but for the tmps between. -/
theorem mask_env {kn kn' : Kn} {m m' : Mp} {act act' : Act} {env : Nat → AV} {s' : St} {lo hi t : Nat} {v : AV} (hok : rangeOK lo hi t ops = true) (h1 : RelEnv kn m env n act) (h2 : RelEnv kn' m' s'.env n act') (hk : KnLe kn kn') (hm : MpLe m m') (hv : s'.env t = v) (hag : Agr (dstsOf ops) act act') :
    RelEnv kn' m' (updo (mask lo hi env s'.env) (some t) v) n act' := by
  refine ⟨h2.size, fun d => ?_⟩
  simp only [updo_some, mask]
  split
  · rename_i e; subst e; rw [← hv]; exact h2.tmp d
  · rename_i hne
    split
    · exact h2.tmp d
    · rename_i hr
      have hd : d ∉ dstsOf ops := fun hm => by
        rcases rangeOK_spec hok (fun h => h hm) with h | h
        · exact hne h
        · exact hr h
      rw [hag d hd]
      exact (h1.tmp d).mono hk hm
theorem aw_sregB (H : Hints) (lo hi t : Nat) (v : AV) (hok : rangeOK lo hi t ops = true) (hd : dstOK n ops = true) (ho : allocObjs C.P ops.toList s.nx = some [])
    (h : ∀ (K : St → Prop) (KP : AV → Sto → Nat → Prop), (∀ s', s'.σ = s.σ → s'.nx = s.nx → s'.env t = v → K s') → (∀ v σ nx, (∀ env, Q (.pan v) ⟨env, σ, nx⟩) → KP v σ nx) →
      areg C H (fun _ => true) ops K KP ops.toList 0 (s.σ.length, s.nx) ⟨s.env, s.σ, s.nx⟩)
    (h2 : ∀ junk, aw C n ds y Q ⟨updo (mask lo hi s.env junk) (some t) v, s.σ, s.nx⟩) : aw C n ds (.seq (.region id ops false) y) Q s := by
  refine aw_seq ?_
  intro B kn m act w h1 h2' h3
  obtain ⟨hI', hk'⟩ := h3.ahead ho
  simp only [List.append_nil, List.length_nil, Nat.add_zero] at hI' hk'
  refine wp_mono (Q := QF (dstsOf ops) act (fun e act' w' => ∃ ae s' kn' m', RelExit kn' m' ae e ∧ RS C B n ds kn m s.σ s.nx kn' m' s' act' w' ∧ ((ae = .normal ∧ s'.σ = s.σ ∧ s'.nx = s.nx ∧ s'.env t = v) ∨ ∃ v, ae = .pan v ∧ ∀ env, Q (.pan v) ⟨env, s'.σ, s'.nx⟩))) (wp_region (wpOps_frame (dstsOf_spec ops) _ _ _ (fun _ _ => rfl) ?_)) ?_
  · have hs := aseq_of_areg (ops := ops) (p₀ := s.σ.length) (n₀ := s.nx) ops.toList 0 ⟨s.env, s.σ, s.nx⟩ (fun j => by simp) (by simpa [rk] using h (fun s' => s'.σ = s.σ ∧ s'.nx = s.nx ∧ s'.env t = v) (fun v σ nx => ∀ env, Q (.pan v) ⟨env, σ, nx⟩) (fun s' a b c => ⟨a, b, c⟩) (fun _ _ _ h => h))
    have hrange : List.range' 0 ops.toList.length = List.range ops.size := by rw [List.range_eq_range']; simp
    rw [hrange] at hs
    refine aseq_sound (KP := fun v σ nx => ∀ env, Q (.pan v) ⟨env, σ, nx⟩) (B := B) (n := n) (ds := ds) (kn₀ := kn) (m₀ := m) (σ₀ := s.σ) (nx₀ := s.nx) h3.lt (dstOK_sound hd) (fun s' kn' m' act' w' hK hR => ⟨.normal, s', kn', m', trivial, hR, .inl ⟨rfl, hK⟩⟩)
      (fun v u env' kn' m' σ' nx' act' w' hKP hv hR => ⟨.pan v, ⟨env', σ', nx'⟩, kn', m', ⟨u, rfl, hv⟩, hR, .inr ⟨v, rfl, hKP⟩⟩) (List.range ops.size) (fun _ => false) ⟨s.env, s.σ, s.nx⟩ kn m act w List.nodup_range (fun _ _ => rfl) ⟨⟨h1, h2', hI', KnLe.refl _, hk'⟩, ?_⟩ hs
    intro j o T hj hT _
    obtain ⟨z, hz, hg⟩ := allocObjs_get ho (j := j) (by simpa using hj) hT
    simp at hg
  · rintro e act' w' ⟨⟨ae, s', kn', m', hx, hR, hq⟩, hag⟩
    rcases hq with ⟨rfl, e1, e2, e3⟩ | ⟨v', rfl, hq⟩
    · have hne : e ≠ .outgrown := by rintro rfl; simp [RelExit] at hx
      obtain ⟨env', σ', nx'⟩ := s'
      simp only at e1 e2 e3
      subst e1; subst e2
      refine ⟨.normal, ⟨updo (mask lo hi s.env env') (some t) v, s.σ, s.nx⟩, kn', m', hx, ⟨mask_env (s' := ⟨env', s.σ, s.nx⟩) hok h1 hR.env hR.knle (hR.keep.mple h3) e3 (hag hne), hR.defs, hR.inv, hR.knle, hR.keep⟩, h2 env'⟩
    · exact ⟨.pan v', s', kn', m', hx, hR, hq s'.env⟩
theorem aw_spdrawB (H : Hints) (tl ms π : List Nat) (lo hi t : Nat) (v : AV) (hok : rangeOK lo hi t ops = true) (hm : C.P.follows .mixedOrders = true) (hB : permOK C.P H tl ops ms π = true) (hd : dstOK n ops = true) (ho : allocObjs C.P ops.toList s.nx = some []) {l : List Oper} (hl : π.filterMap (ops[·]?) = l)
    (h : ∀ (K : St → Prop) (KP : AV → Sto → Nat → Prop), (∀ s', s'.σ = s.σ → s'.nx = s.nx → s'.env t = v → K s') → (∀ v σ nx, (∀ env, Q (.pan v) ⟨env, σ, nx⟩) → KP v σ nx) →
      areg C H (fun i => tl.contains i) ops K KP l 0 (s.σ.length, s.nx) ⟨s.env, s.σ, s.nx⟩)
    (h2 : ∀ junk, aw C n ds y Q ⟨updo (mask lo hi s.env junk) (some t) v, s.σ, s.nx⟩) : aw C n ds (.seq (.region id ops true) y) Q s := by
  subst hl
  have hP := permOK_spec hB
  refine aw_seq ?_
  intro B kn m act w h1 h2' h3
  obtain ⟨hI', hk'⟩ := h3.ahead ho
  simp only [List.append_nil, List.length_nil, Nat.add_zero] at hI' hk'
  refine wp_mono (Q := QF (dstsOf ops) act (fun e act' w' => ∃ ae s' kn' m', RelExit kn' m' ae e ∧ RS C B n ds kn m s.σ s.nx kn' m' s' act' w' ∧ ((ae = .normal ∧ s'.σ = s.σ ∧ s'.nx = s.nx ∧ s'.env t = v) ∨ ∃ v, ae = .pan v ∧ ∀ env, Q (.pan v) ⟨env, s'.σ, s'.nx⟩))) (wp_region_any hm (wpAny_frame (dstsOf_spec ops) _ _ _ _ (fun _ _ => rfl) ?_)) ?_
  · have hs := aseq_of_pareg (p₀ := s.σ.length) (n₀ := s.nx) hP π [] ⟨s.env, s.σ, s.nx⟩ rfl (h (fun s' => s'.σ = s.σ ∧ s'.nx = s.nx ∧ s'.env t = v) (fun v σ nx => ∀ env, Q (.pan v) ⟨env, σ, nx⟩) (fun s' a b c => ⟨a, b, c⟩) (fun _ _ _ h => h))
    have ha := aAny_perm hP π [] _ rfl hs
    rw [hP.len] at ha
    rw [setL_nil]
    refine aAny_sound (KP := fun v σ nx => ∀ env, Q (.pan v) ⟨env, σ, nx⟩) (B := B) (n := n) (ds := ds) (kn₀ := kn) (m₀ := m) (σ₀ := s.σ) (nx₀ := s.nx) h3.lt (dstOK_sound hd) (fun s' kn' m' act' w' hK hR => ⟨.normal, s', kn', m', trivial, hR, .inl ⟨rfl, hK⟩⟩)
      (fun v u env' kn' m' σ' nx' act' w' hKP hv hR => ⟨.pan v, ⟨env', σ', nx'⟩, kn', m', ⟨u, rfl, hv⟩, hR, .inr ⟨v, rfl, hKP⟩⟩) ops.size (setL ops.size []) ⟨s.env, s.σ, s.nx⟩ kn m act _ ⟨⟨h1, h2', hI'.drew, KnLe.refl _, hk'⟩, ?_⟩ ha
    intro j o T hj hT _
    obtain ⟨z, hz, hg⟩ := allocObjs_get ho (j := j) (by simpa using hj) hT
    simp at hg
  · rintro e act' w' ⟨⟨ae, s', kn', m', hx, hR, hq⟩, hag⟩
    rcases hq with ⟨rfl, e1, e2, e3⟩ | ⟨v', rfl, hq⟩
    · have hne : e ≠ .outgrown := by rintro rfl; simp [RelExit] at hx
      obtain ⟨env', σ', nx'⟩ := s'
      simp only at e1 e2 e3
      subst e1; subst e2
      refine ⟨.normal, ⟨updo (mask lo hi s.env env') (some t) v, s.σ, s.nx⟩, kn', m', hx, ⟨mask_env (s' := ⟨env', s.σ, s.nx⟩) hok h1 hR.env hR.knle (hR.keep.mple h3) e3 (hag hne), hR.defs, hR.inv, hR.knle, hR.keep⟩, h2 env'⟩
    · exact ⟨.pan v', s', kn', m', hx, hR, hq s'.env⟩
end
attribute [go_sem] Nat.reduceEqDiff Nat.reduceLT Nat.reduceAdd Nat.reduceMul Nat.reduceLeDiff Int.reduceLE Int.reduceLT Int.reduceToNat Int.reduceEq
end Go.Ab

/-
  WHAT THE TYPES OF THE PROGRAM ARE, and its functions' names, bodies and slots: closed facts. Written by a program of the author (facts.py).
-/
set_option maxRecDepth 100000
namespace Go.Ab
open Go Go.Proofs

@[go_sem] theorem aggT_118 : aggT Tryz.prog 118 = some true := by kernel_rfl
@[go_sem] theorem aggT_125 : aggT Tryz.prog 125 = some true := by kernel_rfl
@[go_sem] theorem aggT_175 : aggT Tryz.prog 175 = some false := by kernel_rfl
@[go_sem] theorem aggT_23 : aggT Tryz.prog 23 = some false := by kernel_rfl
@[go_sem] theorem aggT_25 : aggT Tryz.prog 25 = some true := by kernel_rfl
@[go_sem] theorem aggT_3 : aggT Tryz.prog 3 = some false := by kernel_rfl
@[go_sem] theorem aggT_30 : aggT Tryz.prog 30 = some false := by kernel_rfl
@[go_sem] theorem aggT_4 : aggT Tryz.prog 4 = some false := by kernel_rfl
@[go_sem] theorem aggT_5 : aggT Tryz.prog 5 = some false := by kernel_rfl
@[go_sem] theorem aggT_87 : aggT Tryz.prog 87 = some false := by kernel_rfl
@[go_sem] theorem aggT_9 : aggT Tryz.prog 9 = some false := by kernel_rfl
@[go_sem] theorem arrT_103 : arrT Tryz.prog 103 = some (256, 5, 1) := by kernel_rfl
@[go_sem] theorem arrT_118 : arrT Tryz.prog 118 = some (256, 4, 1) := by kernel_rfl
@[go_sem] theorem bldT_107 : bldT Tryz.prog 107 = some [(0, 1)] := by kernel_rfl
@[go_sem] theorem bldT_125 : bldT Tryz.prog 125 = some [(0, 1), (1, 1)] := by kernel_rfl
@[go_sem] theorem bldT_25 : bldT Tryz.prog 25 = some [(0, 1), (1, 1), (2, 1), (3, 1)] := by kernel_rfl
@[go_sem] theorem bldT_40 : bldT Tryz.prog 40 = some [(0, 1)] := by kernel_rfl
@[go_sem] theorem conT_107 : conT Tryz.prog 107 = true := by kernel_rfl
@[go_sem] theorem conT_40 : conT Tryz.prog 40 = true := by kernel_rfl
@[go_sem] theorem conT_9 : conT Tryz.prog 9 = true := by kernel_rfl
@[go_sem] theorem elmT_103 : elmT Tryz.prog 103 = none := by kernel_rfl
@[go_sem] theorem elmT_118 : elmT Tryz.prog 118 = none := by kernel_rfl
@[go_sem] theorem elmT_123 : elmT Tryz.prog 123 = some (125, 2, 16) := by kernel_rfl
@[go_sem] theorem elmT_23 : elmT Tryz.prog 23 = some (25, 4, 56) := by kernel_rfl
@[go_sem] theorem elmT_43 : elmT Tryz.prog 43 = some (3, 1, 8) := by kernel_rfl
@[go_sem] theorem elmT_87 : elmT Tryz.prog 87 = some (9, 1, 16) := by kernel_rfl
@[go_sem] theorem elmT_9 : elmT Tryz.prog 9 = none := by kernel_rfl
@[go_sem] theorem elmT_98 : elmT Tryz.prog 98 = some (23, 1, 24) := by kernel_rfl
@[go_sem] theorem fldT_107_0 : fldT Tryz.prog 107 0 = some (0, 1, false) := by kernel_rfl
@[go_sem] theorem fldT_125_0 : fldT Tryz.prog 125 0 = some (0, 1, false) := by kernel_rfl
@[go_sem] theorem fldT_125_1 : fldT Tryz.prog 125 1 = some (1, 1, false) := by kernel_rfl
@[go_sem] theorem fldT_25_0 : fldT Tryz.prog 25 0 = some (0, 1, false) := by kernel_rfl
@[go_sem] theorem fldT_25_1 : fldT Tryz.prog 25 1 = some (1, 1, false) := by kernel_rfl
@[go_sem] theorem fldT_25_2 : fldT Tryz.prog 25 2 = some (2, 1, false) := by kernel_rfl
@[go_sem] theorem fldT_25_3 : fldT Tryz.prog 25 3 = some (3, 1, false) := by kernel_rfl
@[go_sem] theorem fldT_40_0 : fldT Tryz.prog 40 0 = some (0, 1, false) := by kernel_rfl
@[go_sem] theorem intT_126 : intT Tryz.prog 126 = some .u32 := by kernel_rfl
@[go_sem] theorem intT_175 : intT Tryz.prog 175 = some .u64 := by kernel_rfl
@[go_sem] theorem intT_21 : intT Tryz.prog 21 = some .i32 := by kernel_rfl
@[go_sem] theorem intT_3 : intT Tryz.prog 3 = some .i64 := by kernel_rfl
@[go_sem] theorem intT_5 : intT Tryz.prog 5 = some .u8 := by kernel_rfl
@[go_sem] theorem intT_9 : intT Tryz.prog 9 = none := by kernel_rfl
@[go_sem] theorem intT_94 : intT Tryz.prog 94 = some .u64 := by kernel_rfl
@[go_sem] theorem isBoolT_126 : isBoolT Tryz.prog 126 = false := by kernel_rfl
@[go_sem] theorem isBoolT_166 : isBoolT Tryz.prog 166 = false := by kernel_rfl
@[go_sem] theorem isBoolT_174 : isBoolT Tryz.prog 174 = false := by kernel_rfl
@[go_sem] theorem isBoolT_175 : isBoolT Tryz.prog 175 = false := by kernel_rfl
@[go_sem] theorem isBoolT_20 : isBoolT Tryz.prog 20 = false := by kernel_rfl
@[go_sem] theorem isBoolT_21 : isBoolT Tryz.prog 21 = false := by kernel_rfl
@[go_sem] theorem isBoolT_23 : isBoolT Tryz.prog 23 = false := by kernel_rfl
@[go_sem] theorem isBoolT_3 : isBoolT Tryz.prog 3 = false := by kernel_rfl
@[go_sem] theorem isBoolT_30 : isBoolT Tryz.prog 30 = false := by kernel_rfl
@[go_sem] theorem isBoolT_4 : isBoolT Tryz.prog 4 = true := by kernel_rfl
@[go_sem] theorem isBoolT_5 : isBoolT Tryz.prog 5 = false := by kernel_rfl
@[go_sem] theorem isBoolT_87 : isBoolT Tryz.prog 87 = false := by kernel_rfl
@[go_sem] theorem isBoolT_9 : isBoolT Tryz.prog 9 = false := by kernel_rfl
@[go_sem] theorem isBoolT_94 : isBoolT Tryz.prog 94 = false := by kernel_rfl
@[go_sem] theorem isIfcT_20 : isIfcT Tryz.prog 20 = true := by kernel_rfl
@[go_sem] theorem slcT_123 : slcT Tryz.prog 123 = true := by kernel_rfl
@[go_sem] theorem slcT_126 : slcT Tryz.prog 126 = false := by kernel_rfl
@[go_sem] theorem slcT_174 : slcT Tryz.prog 174 = false := by kernel_rfl
@[go_sem] theorem slcT_175 : slcT Tryz.prog 175 = false := by kernel_rfl
@[go_sem] theorem slcT_21 : slcT Tryz.prog 21 = false := by kernel_rfl
@[go_sem] theorem slcT_23 : slcT Tryz.prog 23 = true := by kernel_rfl
@[go_sem] theorem slcT_3 : slcT Tryz.prog 3 = false := by kernel_rfl
@[go_sem] theorem slcT_43 : slcT Tryz.prog 43 = true := by kernel_rfl
@[go_sem] theorem slcT_5 : slcT Tryz.prog 5 = false := by kernel_rfl
@[go_sem] theorem slcT_87 : slcT Tryz.prog 87 = true := by kernel_rfl
@[go_sem] theorem slcT_9 : slcT Tryz.prog 9 = false := by kernel_rfl
@[go_sem] theorem slcT_94 : slcT Tryz.prog 94 = false := by kernel_rfl
@[go_sem] theorem slcT_98 : slcT Tryz.prog 98 = true := by kernel_rfl
@[go_sem] theorem strT_123 : strT Tryz.prog 123 = false := by kernel_rfl
@[go_sem] theorem strT_126 : strT Tryz.prog 126 = false := by kernel_rfl
@[go_sem] theorem strT_174 : strT Tryz.prog 174 = false := by kernel_rfl
@[go_sem] theorem strT_175 : strT Tryz.prog 175 = false := by kernel_rfl
@[go_sem] theorem strT_21 : strT Tryz.prog 21 = false := by kernel_rfl
@[go_sem] theorem strT_23 : strT Tryz.prog 23 = false := by kernel_rfl
@[go_sem] theorem strT_3 : strT Tryz.prog 3 = false := by kernel_rfl
@[go_sem] theorem strT_43 : strT Tryz.prog 43 = false := by kernel_rfl
@[go_sem] theorem strT_5 : strT Tryz.prog 5 = false := by kernel_rfl
@[go_sem] theorem strT_87 : strT Tryz.prog 87 = false := by kernel_rfl
@[go_sem] theorem strT_9 : strT Tryz.prog 9 = true := by kernel_rfl
@[go_sem] theorem strT_94 : strT Tryz.prog 94 = false := by kernel_rfl
@[go_sem] theorem strT_98 : strT Tryz.prog 98 = false := by kernel_rfl
@[go_sem] theorem szT_107 : szT Tryz.prog 107 = some 1 := by kernel_rfl
@[go_sem] theorem szT_118 : szT Tryz.prog 118 = some 256 := by kernel_rfl
@[go_sem] theorem szT_125 : szT Tryz.prog 125 = some 2 := by kernel_rfl
@[go_sem] theorem szT_175 : szT Tryz.prog 175 = some 1 := by kernel_rfl
@[go_sem] theorem szT_23 : szT Tryz.prog 23 = some 1 := by kernel_rfl
@[go_sem] theorem szT_25 : szT Tryz.prog 25 = some 4 := by kernel_rfl
@[go_sem] theorem szT_3 : szT Tryz.prog 3 = some 1 := by kernel_rfl
@[go_sem] theorem szT_30 : szT Tryz.prog 30 = some 1 := by kernel_rfl
@[go_sem] theorem szT_4 : szT Tryz.prog 4 = some 1 := by kernel_rfl
@[go_sem] theorem szT_40 : szT Tryz.prog 40 = some 1 := by kernel_rfl
@[go_sem] theorem szT_5 : szT Tryz.prog 5 = some 1 := by kernel_rfl
@[go_sem] theorem szT_87 : szT Tryz.prog 87 = some 1 := by kernel_rfl
@[go_sem] theorem szT_9 : szT Tryz.prog 9 = some 1 := by kernel_rfl
@[go_sem] theorem undT_126 : undT Tryz.prog 126 = true := by kernel_rfl
@[go_sem] theorem undT_174 : undT Tryz.prog 174 = true := by kernel_rfl
@[go_sem] theorem undT_21 : undT Tryz.prog 21 = true := by kernel_rfl
@[go_sem] theorem undT_3 : undT Tryz.prog 3 = true := by kernel_rfl
@[go_sem] theorem undT_5 : undT Tryz.prog 5 = true := by kernel_rfl
@[go_sem] theorem undT_94 : undT Tryz.prog 94 = true := by kernel_rfl
@[go_sem] theorem und_23 : Tryz.prog.underlying 23 = some (.slice 25) := by kernel_rfl
@[go_sem] theorem und_87 : Tryz.prog.underlying 87 = some (.slice 9) := by kernel_rfl
@[go_sem] theorem zeroV_107 : assertA.zeroV Tryz.prog 107 = some (.agg [.int .i64 0]) := by kernel_rfl
@[go_sem] theorem zeroV_40 : assertA.zeroV Tryz.prog 40 = some (.agg [.int .i64 0]) := by kernel_rfl
@[go_sem] theorem zero_107 : zeroCells Tryz.prog 107 = some [.int .i64 0] := by kernel_rfl
@[go_sem] theorem zero_118 : zeroCells Tryz.prog 118 = some (List.replicate 256 (.bool false)) := by kernel_rfl
@[go_sem] theorem zero_125 : zeroCells Tryz.prog 125 = some [.int .i64 0, .int .i64 0] := by kernel_rfl
@[go_sem] theorem zero_175 : zeroCells Tryz.prog 175 = some [.int .u64 0] := by kernel_rfl
@[go_sem] theorem zero_23 : zeroCells Tryz.prog 23 = some [.base (.slice none 0 0)] := by kernel_rfl
@[go_sem] theorem zero_25 : zeroCells Tryz.prog 25 = some [.int .i64 0, .int .i64 0, .str [], .base (.slice none 0 0)] := by kernel_rfl
@[go_sem] theorem zero_3 : zeroCells Tryz.prog 3 = some [.int .i64 0] := by kernel_rfl
@[go_sem] theorem zero_30 : zeroCells Tryz.prog 30 = some [.int .i64 0] := by kernel_rfl
@[go_sem] theorem zero_40 : zeroCells Tryz.prog 40 = some [.int .i64 0] := by kernel_rfl
@[go_sem] theorem zero_9 : zeroCells Tryz.prog 9 = some [.str []] := by kernel_rfl
theorem mixed : Tryz.prog.follows .mixedOrders = true := by kernel_rfl
end Go.Ab

/-
  SHAPES: abstract values told by plain data; states told by plain data, with their objects in fixed places.
-/
set_option linter.unusedVariables false
set_option linter.unusedSimpArgs false
namespace Go.Ab
open Go Go.RowKit

/-- A state that runs: the temporaries are a list. -/
structure XS where
  env : List AV
  σ : Sto
  nx : Nat
def xenv (l : List AV) : Nat → AV := fun t => l.getD t .undef
def XS.st (x : XS) : St := ⟨xenv x.env, x.σ, x.nx⟩

/-! ### Plain data as one value -/
def E.av : (e : E) → e.den → AV
  | .int k, n => .int k n
  | .bool, b => .bool b
  | .str, l => .str l
  | .erri, b => .erri b
  | .form, f => .agg (E.cells .form f)
  | .un, x => .agg (E.cells .un x)
  | .pr a b, x => .agg (E.cells (.pr a b) x)
  | .slice e, l => .tvec e l
def aggE : E → Bool
  | .form => true
  | .un => true
  | .pr _ _ => true
  | _ => false
def cellsV (e : E) (v : AV) : Option (List AV) :=
  match aggE e with
  | true => match v with
    | .agg cs => some cs
    | _ => none
  | false => match v with
    | .agg _ => none
    | v => some [v]
def absE (e : E) (v : AV) : Option e.den := (cellsV e v).bind (absC absF e)
theorem E.av_rf : ∀ (e : E) (x : e.den), RF (e.av x)
  | .int _, _ => trivial
  | .bool, _ => trivial
  | .str, _ => trivial
  | .erri, _ => trivial
  | .form, f => E.cells_rf .form f
  | .un, x => E.cells_rf .un x
  | .pr a b, x => E.cells_rf (.pr a b) x
  | .slice _, _ => trivial
theorem E.av_agg (e : E) (x : e.den) (h : aggE e = true) : e.av x = .agg (e.cells x) := by cases e <;> first | rfl | (simp [aggE] at h)
theorem E.av_one (e : E) (x : e.den) (h : aggE e = false) : e.cells x = [e.av x] := by cases e <;> first | rfl | (simp [aggE] at h)
theorem rel_agg {kn : Kn} {m : Mp} {cs ds : List AV} {v : Value} (h : Rel kn m (.agg cs) v) (hc : ∀ us, RelL kn m cs us → RelL kn m ds us) : Rel kn m (.agg ds) v := by
  cases h with
  | agg _ vs hl hr h1 =>
    have := hc vs.toList ⟨by simpa using hl, fun i x v a b => hr i x v a (by simpa using b)⟩
    exact .agg ds vs (by simpa using this.1) (fun i x v a b => this.2 i x v a (by simpa using b)) h1
theorem absE_rel {kn : Kn} {m : Mp} {e : E} {v : AV} {x : e.den} (h : absE e v = some x) {u : Value} (hr : Rel kn m v u) : Rel kn m (e.av x) u := by
  unfold absE cellsV at h
  obtain ⟨cs, h1, h2⟩ := Option.bind_eq_some_iff.1 h
  have hcells : ∀ us, RelL kn m cs us → RelL kn m (e.cells x) us := fun us hh => (E.rel_cells e x us).2 (absC_sound absF e cs x h2 us hh)
  split at h1
  · rename_i he
    split at h1
    · cases h1
      rw [E.av_agg e x he]
      exact rel_agg hr hcells
    · cases h1
  · rename_i he
    split at h1
    · cases h1
    · cases h1
      have := hcells [u] (relL_one.2 ⟨u, rfl, hr⟩)
      rw [E.av_one e x he] at this
      obtain ⟨u', e', h'⟩ := relL_one.1 this
      cases e'; exact h'

/-- Fixed values. -/
def eqA : AV → AV → Bool
  | .base .nilIface, .base .nilIface => true
  | .base (.slice none 0 0), .base (.slice none 0 0) => true
  | .base (.pointer none), .base (.pointer none) => true
  | .base (.map none), .base (.map none) => true
  | .base .nilFunc, .base .nilFunc => true
  | .fn (.func f) [] [], .fn (.func g) [] [] => Nat.beq f g
  | .tup [], .tup [] => true
  | .base (.tuple ⟨[]⟩), .base (.tuple ⟨[]⟩) => true
  | _, _ => false
theorem eqA_sound {a b : AV} (h : eqA a b = true) : a = b ∧ RF a := by
  unfold eqA at h
  split at h <;> first | exact ⟨rfl, by simp [RF, RFL]⟩ | (cases h; done) | skip
  have := Nat.eq_of_beq_eq_true h
  subst this
  exact ⟨rfl, by simp [RF, RFL]⟩

/-! ### Shapes -/
inductive Sh where
  | d (e : E)
  | c (v : AV)
  | ref (slot off : Nat)
  | gs (slot : Nat) (e : E)
  | mref (slot off : Nat)
  | gv (slot : Nat) (e : E)
  | agg (l : List Sh)
  | tup (l : List Sh)
  | rptr (l : List Sh)
  | fn (f : Fn) (first caps : List Sh)
  | iface (t : TypeId) (s : Sh)
mutual
def Sh.den : Sh → Type
  | .d e => e.den
  | .c _ => Unit
  | .ref _ _ => Unit
  | .gs _ _ => Unit
  | .mref _ _ => Bool
  | .gv _ _ => Nat × Nat
  | .agg l => Sh.denL l
  | .tup l => Sh.denL l
  | .rptr l => Sh.denL l
  | .fn _ a b => Sh.denL a × Sh.denL b
  | .iface _ s => s.den
def Sh.denL : List Sh → Type
  | [] => Unit
  | s :: l => s.den × Sh.denL l
end
/-- Where a slot lies: place, name, length. -/
abbrev Pl := Nat → Nat × Nat × Nat
mutual
def patV (ρ : Pl) : (s : Sh) → s.den → AV
  | .d e, x => e.av x
  | .c v, _ => v
  | .ref j off, _ => .ref (ρ j).1 (ρ j).2.1 off
  | .gs j e, _ => .gs (ρ j).1 (ρ j).2.1 e (ρ j).2.2
  | .mref j off, (b : Bool) => .mref (ρ j).1 (ρ j).2.1 off b
  | .gv j e, (x : Nat × Nat) => .gv (ρ j).1 (ρ j).2.1 e x.1 x.2
  | .agg l, x => .agg (patL ρ l x)
  | .tup l, x => .tup (patL ρ l x)
  | .rptr l, x => .rptr (patL ρ l x)
  | .fn f a b, x => .fn f (patL ρ a x.1) (patL ρ b x.2)
  | .iface t s, x => .iface t (patV ρ s x)
def patL (ρ : Pl) : (l : List Sh) → Sh.denL l → List AV
  | [], _ => []
  | s :: l, x => patV ρ s x.1 :: patL ρ l x.2
end
inductive OSh where
  | cells (T : TypeId) (l : List Sh)
  | tg (e : E) (ety : TypeId)
def OSh.den : OSh → Type
  | .cells _ l => Sh.denL l
  | .tg e _ => List e.den
abbrev Slots := List (Bool × OSh)
inductive Bnd where
  | nil
  | at (p nm : Nat)
  deriving DecidableEq
abbrev Binds := List (Nat × Bnd)
def bget : Binds → Nat → Option Bnd
  | [], _ => none
  | (j', b) :: l, j => if j' = j then some b else bget l j
def bfree (p : Nat) : Binds → Bool
  | [] => true
  | (_, .nil) :: l => bfree p l
  | (_, .at p' _) :: l => !(Nat.beq p' p) && bfree p l
def bput (j : Nat) (b : Bnd) (β : Binds) : Option Binds :=
  match bget β j with
  | some b' => if b' = b then some β else none
  | none => match b with
    | .nil => some ((j, .nil) :: β)
    | .at p nm => if bfree p β = true then some ((j, .at p nm) :: β) else none
def slotTg (os : Slots) (j : Nat) (e : E) : Bool :=
  match os[j]? with
  | some (_, .tg e' _) => decide (e' = e)
  | _ => false
def pairO {α β : Type} (b : β) : Option α → Option (α × β)
  | some a => some (a, b)
  | none => none
def unitO {β : Type} : Option β → Option (Unit × β)
  | some b => some ((), b)
  | none => none
mutual
def absV (os : Slots) (β : Binds) : (s : Sh) → AV → Option (s.den × Binds)
  | .d e, v => pairO β (absE e v)
  | .c a, v => if eqA a v = true then some ((), β) else none
  | .ref j off, v => match v with
    | .ref p nm off' => if off' = off ∧ (os[j]?).isSome = true then unitO (bput j (.at p nm) β) else none
    | _ => none
  | .gs j e, v => match v with
    | .gs p nm e' _ => if e' = e ∧ slotTg os j e = true then unitO (bput j (.at p nm) β) else none
    | .base (.slice none 0 0) => if slotTg os j e = true then unitO (bput j .nil β) else none
    | _ => none
  | .mref j off, v => match v with
    | .ref p nm off' => if off' = off ∧ (os[j]?).isSome = true then (match bput j (.at p nm) β with
      | some β' => some (true, β')
      | none => none) else none
    | .mref p nm off' b => if off' = off ∧ bget β j = some (.at p nm) then some (b, β) else none
    | .base (.pointer none) => some (false, β)
    | _ => none
  | .gv j e, v => match v with
    | .gv p nm e' off len => if e' = e ∧ bget β j = some (.at p nm) then some ((off, len), β) else none
    | _ => none
  | .agg l, v => match v with
    | .agg cs => absL os β l cs
    | _ => none
  | .tup l, v => match v with
    | .tup cs => absL os β l cs
    | _ => none
  | .rptr l, v => match v with
    | .rptr cs => absL os β l cs
    | _ => none
  | .fn f a b, v => match v with
    | .fn f' x y => if f' = f then (match absL os β a x with
      | some (a', β1) => match absL os β1 b y with
        | some (b', β2) => some ((a', b'), β2)
        | none => none
      | none => none) else none
    | _ => none
  | .iface t s, v => match v with
    | .iface t' x => if t' = t then absV os β s x else none
    | _ => none
def absL (os : Slots) (β : Binds) : (l : List Sh) → List AV → Option (Sh.denL l × Binds)
  | [], vs => match vs with
    | [] => some ((), β)
    | _ :: _ => none
  | s :: l, vs => match vs with
    | v :: vs => match absV os β s v with
      | some (x, β1) => match absL os β1 l vs with
        | some (y, β2) => some ((x, y), β2)
        | none => none
      | none => none
    | [] => none
end
/-- A state's shape: what the temporaries hold that matter, and the objects; 'true': an object that keeps its name. -/
structure SS where
  env : List (Nat × Sh)
  objs : Slots
def denE : List (Nat × Sh) → Type
  | [] => Unit
  | (_, s) :: l => s.den × denE l
def denO : Slots → Type
  | [] => Unit
  | (_, o) :: l => o.den × denO l
def SS.den (ss : SS) : Type := denE ss.env × denO ss.objs
def absEnv (os : Slots) (β : Binds) : (l : List (Nat × Sh)) → List AV → Option (denE l × Binds)
  | [], _ => some ((), β)
  | (t, s) :: l, env => match absV os β s (env.getD t .undef) with
    | some (x, β1) => match absEnv os β1 l env with
      | some (y, β2) => some ((x, y), β2)
      | none => none
    | none => none
def absCellsO (os : Slots) (β : Binds) (σ : Sto) (T : TypeId) (l : List Sh) (b : Option Bnd) : Option (Sh.denL l × Binds) :=
  match b with
  | some (.at p nm) => match sget σ p nm with
    | some (.cells T' cs) => if T' = T then absL os β l cs else none
    | _ => none
  | _ => none
def absTgO (β : Binds) (σ : Sto) (e : E) (ety : TypeId) (b : Option Bnd) : Option (List e.den × Binds) :=
  match b with
  | some (.at p nm) => match sget σ p nm with
    | some (.tg e' ety' l) => if h : e' = e then (if ety' = ety then some (castL h l, β) else none) else none
    | _ => none
  | some .nil => some ([], β)
  | none => none
def absO (os : Slots) (β : Binds) (σ : Sto) (b : Option Bnd) : (o : OSh) → Option (o.den × Binds)
  | .cells T l => absCellsO os β σ T l b
  | .tg e ety => absTgO β σ e ety b
def absOs (os : Slots) (σ : Sto) (β : Binds) (j : Nat) : (l : Slots) → Option (denO l × Binds)
  | [] => some ((), β)
  | (_, o) :: l => match absO os β σ (bget β j) o with
    | some (x, β1) => match absOs os σ β1 (j + 1) l with
      | some (y, β2) => some ((x, y), β2)
      | none => none
    | none => none
/-- Objects that keep their names lie where they lay. -/
def binds0 (j : Nat) : Slots → Binds
  | [] => []
  | (true, _) :: l => (j, .at j j) :: binds0 (j + 1) l
  | (false, _) :: l => binds0 (j + 1) l
def absS (ss : SS) (x : XS) : Option ss.den :=
  match absEnv ss.objs (binds0 0 ss.objs) ss.env x.env with
  | some (a, β1) => match absOs ss.objs x.σ β1 0 ss.objs with
    | some (o, _) => some (a, o)
    | none => none
  | none => none
/-! The state that a shape and data tell. -/
def lenO (o : OSh) (x : o.den) : Nat := match o, x with
  | .cells _ _, _ => 0
  | .tg _ _, (l : List _) => l.length
def lensO : (l : Slots) → denO l → Nat → Nat
  | [], _, _ => 0
  | (_, o) :: _, x, 0 => lenO o x.1
  | _ :: l, x, j + 1 => lensO l x.2 j
def nameOf (k j : Nat) (os : Slots) : Nat := match os[j]? with
  | some (true, _) => j
  | _ => k + j
def plO (k : Nat) (os : Slots) (x : denO os) : Pl := fun j => (j, nameOf k j os, lensO os x j)
def patE (ρ : Pl) : (l : List (Nat × Sh)) → denE l → Nat → AV
  | [], _, _ => .any
  | (t', s) :: l, x, t => if t' = t then patV ρ s x.1 else patE ρ l x.2 t
def patO (ρ : Pl) (o : OSh) (x : o.den) : AObj := match o, x with
  | .cells T l, x => .cells T (patL ρ l x)
  | .tg e ety, x => .tg e ety x
def patOs (ρ : Pl) (nm : Nat → Nat) (j : Nat) : (l : Slots) → denO l → Sto
  | [], _ => []
  | (_, o) :: l, x => (nm j, patO ρ o x.1) :: patOs ρ nm (j + 1) l x.2
def listTo (f : Nat → AV) : Nat → Nat → List AV
  | 0, _ => []
  | n + 1, t => f t :: listTo f n (t + 1)
def patS (k n : Nat) (ss : SS) (d : ss.den) : XS :=
  ⟨listTo (patE (plO k ss.objs d.2) ss.env d.1) n 0, patOs (plO k ss.objs d.2) (fun j => nameOf k j ss.objs) 0 ss.objs d.2, k + ss.objs.length⟩
end Go.Ab

/-
  A STATE TOLD BY PLAIN DATA is the state: places and names are told anew.
-/
set_option linter.unusedVariables false
set_option linter.unusedSimpArgs false
namespace Go.Ab
open Go Go.RowKit

def Ext (β β' : Binds) : Prop := ∀ j b, bget β j = some b → bget β' j = some b
theorem Ext.refl (β : Binds) : Ext β β := fun _ _ h => h
theorem Ext.trans {a b c : Binds} (h : Ext a b) (k : Ext b c) : Ext a c := fun j x e => k j x (h j x e)
/-- What is bound is laid, each place once. -/
structure VB (m : Mp) (os : Slots) (β : Binds) : Prop where
  dom : ∀ j b, bget β j = some b → (os[j]?).isSome = true
  laid : ∀ j p nm, bget β j = some (.at p nm) → ∃ loc, m nm = some loc
  one : ∀ j j' p nm nm', bget β j = some (.at p nm) → bget β j' = some (.at p nm') → j = j'
theorem bfree_spec {p : Nat} : ∀ {β : Binds}, bfree p β = true → ∀ j nm, bget β j = some (.at p nm) → False
  | [], _, j, nm, e => by simp [bget] at e
  | (j', .nil) :: l, h, j, nm, e => by
    simp only [bget] at e
    split at e
    · cases e
    · exact bfree_spec (β := l) h j nm e
  | (j', .at p' n') :: l, h, j, nm, e => by
    simp only [bfree, Bool.and_eq_true, Bool.not_eq_true'] at h
    simp only [bget] at e
    split at e
    · cases e; simp at h
    · exact bfree_spec (β := l) h.2 j nm e
theorem bput_ext {j : Nat} {b : Bnd} {β β' : Binds} (h : bput j b β = some β') : Ext β β' ∧ bget β' j = some b ∧ ∀ j' b', bget β' j' = some b' → bget β j' = some b' ∨ (j' = j ∧ b' = b ∧ bget β j = none ∧ ∀ p nm, b = .at p nm → bfree p β = true) := by
  unfold bput at h
  split at h
  · rename_i b0 hb
    split at h
    · rename_i e; subst e; cases h; exact ⟨.refl _, hb, fun j' b' e => .inl e⟩
    · cases h
  · rename_i hb
    have key : ∀ b', Ext β ((j, b') :: β) ∧ bget ((j, b') :: β) j = some b' ∧ ∀ j2 b2, bget ((j, b') :: β) j2 = some b2 → bget β j2 = some b2 ∨ (j2 = j ∧ b2 = b') := fun b' => by
      refine ⟨fun j2 b2 e => ?_, by simp [bget], fun j2 b2 e => ?_⟩
      · simp only [bget]
        split
        · rename_i e'; subst e'; rw [hb] at e; cases e
        · exact e
      · simp only [bget] at e
        split at e
        · rename_i e'; subst e'; cases e; exact .inr ⟨rfl, rfl⟩
        · exact .inl e
    split at h
    · cases h
      obtain ⟨k1, k2, k3⟩ := key .nil
      exact ⟨k1, k2, fun j2 b2 e => (k3 j2 b2 e).imp_right fun q => ⟨q.1, q.2, hb, fun p nm e => by cases e⟩⟩
    · rename_i p nm
      split at h
      · rename_i hf
        cases h
        obtain ⟨k1, k2, k3⟩ := key (.at p nm)
        exact ⟨k1, k2, fun j2 b2 e => (k3 j2 b2 e).imp_right fun q => ⟨q.1, q.2, hb, fun p' nm' e => by cases e; exact hf⟩⟩
      · cases h
theorem bput_vb {m : Mp} {os : Slots} {j : Nat} {b : Bnd} {β β' : Binds} (h : bput j b β = some β') (hj : (os[j]?).isSome = true) (hl : ∀ p nm, b = .at p nm → ∃ loc, m nm = some loc) (hv : VB m os β) : VB m os β' := by
  obtain ⟨h1, h2, h3⟩ := bput_ext h
  refine ⟨fun j' b' e => ?_, fun j' p nm e => ?_, fun j1 j2 p nm nm' e1 e2 => ?_⟩
  · rcases h3 j' _ e with e | ⟨rfl, e, _⟩
    · exact hv.dom _ _ e
    · exact hj
  · rcases h3 j' _ e with e | ⟨rfl, e, _⟩
    · exact hv.laid j' p nm e
    · exact hl p nm e.symm
  · rcases h3 j1 _ e1 with e1 | ⟨rfl, q1, q2, q3⟩
    · rcases h3 j2 _ e2 with e2 | ⟨rfl, q1, q2, q3⟩
      · exact hv.one j1 j2 p nm nm' e1 e2
      · exact (bfree_spec (q3 p nm' q1.symm) _ _ e1).elim
    · rcases h3 j2 _ e2 with e2 | ⟨rfl, _, _, _⟩
      · exact (bfree_spec (q3 p nm q1.symm) _ _ e2).elim
      · rfl
/-- The new names mean what the old ones meant. -/
def Link (m m' : Mp) (ρ : Pl) (os : Slots) (β : Binds) : Prop := ∀ j b, bget β j = some b → match b with
  | .at p nm => m' (ρ j).2.1 = m nm ∧ ∀ e loc, slotTg os j e = true → m nm = some loc → loc.len = (ρ j).2.2
  | .nil => ∃ loc, m' (ρ j).2.1 = some loc ∧ loc.nil = true ∧ loc.len = 0 ∧ (ρ j).2.2 = 0
theorem Link.ext {m m' : Mp} {ρ : Pl} {os : Slots} {β β' : Binds} (h : Link m m' ρ os β') (he : Ext β β') : Link m m' ρ os β := fun j b e => h j b (he j b e)

theorem rel_agg_conv {kn : Kn} {m m' : Mp} {cs ds : List AV} {v : Value} (h : Rel kn m (.agg cs) v) : ∃ us, RelL kn m cs us ∧ (RelL kn m' ds us → Rel kn m' (.agg ds) v) := by
  cases h with
  | agg _ vs hl hr h1 =>
    exact ⟨vs.toList, ⟨by simpa using hl, fun i x v a b => hr i x v a (by simpa using b)⟩, fun this => .agg ds vs (by simpa using this.1) (fun i x v a b => this.2 i x v a (by simpa using b)) h1⟩
theorem rel_tup_conv {kn : Kn} {m m' : Mp} {cs ds : List AV} {v : Value} (h : Rel kn m (.tup cs) v) : ∃ us, RelL kn m cs us ∧ (RelL kn m' ds us → Rel kn m' (.tup ds) v) := by
  cases h with
  | tup _ vs hl hr =>
    exact ⟨vs.toList, ⟨by simpa using hl, fun i x v a b => hr i x v a (by simpa using b)⟩, fun this => .tup ds vs (by simpa using this.1) (fun i x v a b => this.2 i x v a (by simpa using b))⟩
theorem rel_rptr_conv {kn : Kn} {m m' : Mp} {cs ds : List AV} {v : Value} (h : Rel kn m (.rptr cs) v) : ∃ us, RelL kn m cs us ∧ (RelL kn m' ds us → Rel kn m' (.rptr ds) v) := by
  cases h with
  | rptr _ b o vals hk hr h1 =>
    have hget : ∀ j, j < cs.length → ((List.range cs.length).map vals)[j]? = some (vals j) := fun j hj => by simp [hj]
    refine ⟨(List.range cs.length).map vals, ⟨by simp, fun i x v a b => ?_⟩, fun hrl => ?_⟩
    · have hi := (List.getElem?_eq_some_iff.1 a).1
      rw [hget i hi] at b; cases b; exact hr i x a
    · have hlen : ds.length = cs.length := by have := hrl.1; simpa using this
      have hlt : ∀ j x, ds[j]? = some x → ∃ y, cs[j]? = some y := fun j x e => by
        have hj := (List.getElem?_eq_some_iff.1 e).1
        exact ⟨cs[j]'(by omega), List.getElem?_eq_getElem (by omega)⟩
      refine .rptr ds b o vals (fun j x e => ?_) (fun j x e => ?_) (fun j x e => ?_)
      · obtain ⟨y, hy⟩ := hlt j x e; exact hk j y hy
      · exact hrl.2 j x _ e (hget j (by have := (List.getElem?_eq_some_iff.1 e).1; omega))
      · obtain ⟨y, hy⟩ := hlt j x e; exact h1 j y hy
theorem rel_fn_conv {kn : Kn} {m m' : Mp} {f : Fn} {a b a' b' : List AV} {v : Value} (h : Rel kn m (.fn f a b) v) : ∃ us ws, RelL kn m a us ∧ RelL kn m b ws ∧ (RelL kn m' a' us → RelL kn m' b' ws → Rel kn m' (.fn f a' b') v) := by
  cases h with
  | fn _ _ _ f1 c1 h1 h2 hf hc =>
    exact ⟨f1.toList, c1.toList, ⟨by simpa using h1, fun i x v a b => hf i x v a (by simpa using b)⟩, ⟨by simpa using h2, fun i x v a b => hc i x v a (by simpa using b)⟩,
      fun p q => .fn f a' b' f1 c1 (by simpa using p.1) (by simpa using q.1) (fun i x v a b => p.2 i x v a (by simpa using b)) (fun i x v a b => q.2 i x v a (by simpa using b))⟩

section
variable {kn : Kn} {m : Mp} {os : Slots}
def OkV (kn : Kn) (m : Mp) (os : Slots) (β β' : Binds) (s : Sh) (v : AV) (x : s.den) : Prop :=
  Ext β β' ∧ ∀ u, Rel kn m v u → (VB m os β → VB m os β') ∧ ∀ m' ρ, Link m m' ρ os β' → Rel kn m' (patV ρ s x) u
def OkL (kn : Kn) (m : Mp) (os : Slots) (β β' : Binds) (l : List Sh) (vs : List AV) (x : Sh.denL l) : Prop :=
  Ext β β' ∧ ∀ us, RelL kn m vs us → (VB m os β → VB m os β') ∧ ∀ m' ρ, Link m m' ρ os β' → RelL kn m' (patL ρ l x) us
theorem slotTg_some {j : Nat} {e : E} (h : slotTg os j e = true) : (os[j]?).isSome = true := by
  unfold slotTg at h
  split at h
  · rename_i b e' ety he; rw [he]; rfl
  · cases h
theorem slotTg_one {j : Nat} {e e' : E} (h : slotTg os j e = true) (h' : slotTg os j e' = true) : e = e' := by
  unfold slotTg at h h'
  split at h
  · rename_i b e2 ety he
    rw [he] at h'
    simp at h h'
    rw [← h, ← h']
  · cases h
mutual
theorem absV_ok : ∀ (s : Sh) (β β' : Binds) (v : AV) (x : s.den), absV os β s v = some (x, β') → OkV kn m os β β' s v x
  | .d e, β, β', v, x, h => by
    have h : pairO β (absE e v) = some (x, β') := h
    unfold pairO at h
    split at h
    · rename_i y hy
      cases h
      exact ⟨.refl _, fun u hu => ⟨id, fun m' ρ _ => ((absE_rel hy hu).rf (E.av_rf e _) m')⟩⟩
    · cases h
  | .c a, β, β', v, x, h => by
    have h : (if eqA a v = true then some ((), β) else none) = some (x, β') := h
    split at h
    · rename_i he
      cases h
      obtain ⟨rfl, hf⟩ := eqA_sound he
      exact ⟨.refl _, fun u hu => ⟨id, fun m' ρ _ => hu.rf hf m'⟩⟩
    · cases h
  | .ref j off, β, β', v, x, h => by
    cases v with
    | ref p nm off' =>
      have h : (if off' = off ∧ (os[j]?).isSome = true then unitO (bput j (.at p nm) β) else none) = some (x, β') := h
      split at h
      · rename_i ho
        obtain ⟨rfl, hoj⟩ := ho
        unfold unitO at h
        split at h
        · rename_i b hb
          cases h
          obtain ⟨h1, h2, h3⟩ := bput_ext hb
          refine ⟨h1, fun u hu => ?_⟩
          cases hu with
          | ref _ _ _ loc hm =>
            refine ⟨bput_vb hb hoj (fun p' nm' e => by cases e; exact ⟨loc, hm⟩), fun m' ρ hl => ?_⟩
            exact .ref _ _ _ loc ((hl j _ h2).1.trans hm)
        · cases h
      · cases h
    | _ => cases h
  | .gs j e, β, β', v, x, h => by
    cases v with
    | gs p nm e' len =>
      have h : (if e' = e ∧ slotTg os j e = true then unitO (bput j (.at p nm) β) else none) = some (x, β') := h
      split at h
      · rename_i ho
        obtain ⟨rfl, hst⟩ := ho
        unfold unitO at h
        split at h
        · rename_i b hb
          cases h
          obtain ⟨h1, h2, h3⟩ := bput_ext hb
          refine ⟨h1, fun u hu => ?_⟩
          cases hu with
          | gs _ _ _ _ _ loc hm hll hr =>
            refine ⟨bput_vb hb (slotTg_some hst) (fun p' nm' e => by cases e; exact ⟨loc, hm⟩), fun m' ρ hl => ?_⟩
            obtain ⟨q1, q2⟩ := hl j _ h2
            have hL := q2 e' loc hst hm
            refine .gs _ _ _ _ _ loc (q1.trans hm) hL ?_
            rw [← hL, hll]
            cases hr with
            | srefNil _ _ _ loc' hm' hn => exact .srefNil _ _ _ loc' (q1.trans hm') hn
            | sref _ _ _ _ _ loc' hm' hn he hc hle => exact .sref _ _ _ _ _ loc' (q1.trans hm') hn he hc hle
        · cases h
      · cases h
    | base v =>
      have h : (match v with
        | .slice none 0 0 => if slotTg os j e = true then unitO (bput j .nil β) else none
        | _ => none) = some (x, β') := by
        unfold absV at h
        split at h
        · rename_i e'; cases e'
        · rename_i e'; cases e'; exact h
        · cases h
      split at h
      · by_cases hst : slotTg os j e = true
        · replace h : unitO (bput j .nil β) = some (x, β') := (if_pos hst).symm.trans h
          unfold unitO at h
          split at h
          · rename_i b hb
            cases h
            obtain ⟨h1, h2, h3⟩ := bput_ext hb
            refine ⟨h1, fun u hu => ?_⟩
            cases hu
            refine ⟨bput_vb hb (slotTg_some hst) (fun p' nm' e => by cases e), fun m' ρ hl => ?_⟩
            obtain ⟨loc, q1, q2, q3, q4⟩ := hl j _ h2
            refine .gs _ _ _ _ _ loc q1 (by omega) ?_
            rw [q4]
            exact .srefNil _ _ _ loc q1 q2
          · cases h
        · replace h : none = some (x, β') := (if_neg hst).symm.trans h
          cases h
      · cases h
    | _ => cases h
  | .gv j e, β, β', v, x, h => by
    cases v with
    | gv p nm e' off len =>
      have h : (if e' = e ∧ bget β j = some (.at p nm) then some ((off, len), β) else none) = some (x, β') := h
      split at h
      · rename_i ho
        obtain ⟨rfl, hb⟩ := ho
        cases h
        refine ⟨.refl _, fun u hu => ⟨id, fun m' ρ hl => ?_⟩⟩
        have hq := (hl j _ hb).1
        cases hu with
        | gvE => exact .gvE _ _ _ _ _ _
        | gvS _ _ _ _ _ _ hr =>
          refine .gvS _ _ _ _ _ _ ?_
          cases hr with
          | srefNil _ _ _ loc hm hn => exact .srefNil _ _ _ loc (hq.trans hm) hn
          | sref _ _ _ _ _ loc hm hn he hc hle => exact .sref _ _ _ _ _ loc (hq.trans hm) hn he hc hle
      · cases h
    | _ => cases h
  | .mref j off, β, β', v, x, h => by
    cases v with
    | ref p nm off' =>
      have h : (if off' = off ∧ (os[j]?).isSome = true then (match bput j (.at p nm) β with
        | some β' => some (true, β')
        | none => none) else none) = some (x, β') := h
      split at h
      · rename_i ho
        obtain ⟨rfl, hoj⟩ := ho
        split at h
        · rename_i b hb
          cases h
          obtain ⟨h1, h2, h3⟩ := bput_ext hb
          refine ⟨h1, fun u hu => ?_⟩
          cases hu with
          | ref _ _ _ loc hm =>
            refine ⟨bput_vb hb hoj (fun p' nm' e => by cases e; exact ⟨loc, hm⟩), fun m' ρ hl => ?_⟩
            exact .mrefSome _ _ _ loc ((hl j _ h2).1.trans hm)
        · cases h
      · cases h
    | mref p nm off' b =>
      have h : (if off' = off ∧ bget β j = some (.at p nm) then some (b, β) else none) = some (x, β') := h
      split at h
      · rename_i ho
        obtain ⟨rfl, hb⟩ := ho
        cases h
        refine ⟨.refl _, fun u hu => ⟨id, fun m' ρ hl => ?_⟩⟩
        cases hu with
        | mrefSome _ _ _ loc hm => exact .mrefSome _ _ _ loc ((hl j _ hb).1.trans hm)
        | mrefNil => exact .mrefNil _ _ _
      · cases h
    | base v =>
      have h : (match v with
        | .pointer none => some (false, β)
        | _ => none) = some (x, β') := by
        unfold absV at h
        split at h
        · rename_i e'; cases e'
        · rename_i e'; cases e'
        · rename_i e'; cases e'; exact h
        · cases h
      split at h
      · cases h
        refine ⟨.refl _, fun u hu => ⟨id, fun m' ρ hl => ?_⟩⟩
        cases hu
        exact .mrefNil _ _ _
      · cases h
    | _ => cases h
  | .agg l, β, β', v, x, h => by
    cases v with
    | agg cs =>
      obtain ⟨h1, h2⟩ := absL_ok l β β' cs x h
      refine ⟨h1, fun u hu => ?_⟩
      obtain ⟨us, q1, _⟩ := rel_agg_conv (m' := m) (ds := cs) hu
      refine ⟨(h2 us q1).1, fun m' ρ hl => ?_⟩
      obtain ⟨us, q1, q2⟩ := rel_agg_conv (m' := m') (ds := patL ρ l x) hu
      exact q2 ((h2 us q1).2 m' ρ hl)
    | _ => cases h
  | .tup l, β, β', v, x, h => by
    cases v with
    | tup cs =>
      obtain ⟨h1, h2⟩ := absL_ok l β β' cs x h
      refine ⟨h1, fun u hu => ?_⟩
      obtain ⟨us, q1, _⟩ := rel_tup_conv (m' := m) (ds := cs) hu
      refine ⟨(h2 us q1).1, fun m' ρ hl => ?_⟩
      obtain ⟨us, q1, q2⟩ := rel_tup_conv (m' := m') (ds := patL ρ l x) hu
      exact q2 ((h2 us q1).2 m' ρ hl)
    | _ => cases h
  | .rptr l, β, β', v, x, h => by
    cases v with
    | rptr cs =>
      obtain ⟨h1, h2⟩ := absL_ok l β β' cs x h
      refine ⟨h1, fun u hu => ?_⟩
      obtain ⟨us, q1, _⟩ := rel_rptr_conv (m' := m) (ds := cs) hu
      refine ⟨(h2 us q1).1, fun m' ρ hl => ?_⟩
      obtain ⟨us, q1, q2⟩ := rel_rptr_conv (m' := m') (ds := patL ρ l x) hu
      exact q2 ((h2 us q1).2 m' ρ hl)
    | _ => cases h
  | .fn f a b, β, β', v, x, h => by
    cases v with
    | fn f' p q =>
      have h : (if f' = f then (match absL os β a p with
        | some (a', β1) => match absL os β1 b q with
          | some (b', β2) => some ((a', b'), β2)
          | none => none
        | none => none) else none) = some (x, β') := h
      split at h
      · rename_i hf
        subst hf
        split at h
        · rename_i a' β1 ha
          split at h
          · rename_i b' β2 hb
            cases h
            obtain ⟨h1, h2⟩ := absL_ok a β β1 p a' ha
            obtain ⟨h3, h4⟩ := absL_ok b β1 _ q b' hb
            refine ⟨h1.trans h3, fun u hu => ?_⟩
            obtain ⟨us, ws, q1, q2, _⟩ := rel_fn_conv (m' := m) (a' := p) (b' := q) hu
            refine ⟨fun hv => (h4 ws q2).1 ((h2 us q1).1 hv), fun m' ρ hl => ?_⟩
            obtain ⟨us, ws, q1, q2, q3⟩ := rel_fn_conv (m' := m') (a' := patL ρ a a') (b' := patL ρ b b') hu
            exact q3 ((h2 us q1).2 m' ρ (hl.ext h3)) ((h4 ws q2).2 m' ρ hl)
          · cases h
        · cases h
      · cases h
    | _ => cases h
  | .iface t s, β, β', v, x, h => by
    cases v with
    | iface t' y =>
      have h : (if t' = t then absV os β s y else none) = some (x, β') := h
      split at h
      · rename_i ht
        subst ht
        obtain ⟨h1, h2⟩ := absV_ok s β β' y x h
        refine ⟨h1, fun u hu => ?_⟩
        cases hu with
        | iface _ _ v hv => exact ⟨(h2 v hv).1, fun m' ρ hl => .iface _ _ v ((h2 v hv).2 m' ρ hl)⟩
      · cases h
    | _ => cases h
theorem absL_ok : ∀ (l : List Sh) (β β' : Binds) (vs : List AV) (x : Sh.denL l), absL os β l vs = some (x, β') → OkL kn m os β β' l vs x
  | [], β, β', vs, x, h => by
    cases vs with
    | nil => cases h; exact ⟨.refl _, fun us hu => ⟨id, fun m' ρ _ => ⟨hu.1, fun i x v a => by simp [patL] at a⟩⟩⟩
    | cons v vs => cases h
  | s :: l, β, β', vs, x, h => by
    cases vs with
    | nil => cases h
    | cons v vs =>
      have h : (match absV os β s v with
        | some (x, β1) => match absL os β1 l vs with
          | some (y, β2) => some ((x, y), β2)
          | none => none
        | none => none) = some (x, β') := h
      split at h
      · rename_i a β1 ha
        split at h
        · rename_i b β2 hb
          cases h
          obtain ⟨h1, h2⟩ := absV_ok s β β1 v a ha
          obtain ⟨h3, h4⟩ := absL_ok l β1 _ vs b hb
          refine ⟨h1.trans h3, fun us hu => ?_⟩
          obtain ⟨w, ws, rfl, q1, q2⟩ := hu.uncons
          exact ⟨fun hv => (h4 ws q2).1 ((h2 w q1).1 hv), fun m' ρ hl => .cons ((h2 w q1).2 m' ρ (hl.ext h3)) ((h4 ws q2).2 m' ρ hl)⟩
        · cases h
      · cases h
end
theorem absEnv_ok {n : Nat} {act : Act} {env : List AV} (hE : RelEnv kn m (xenv env) n act) : ∀ (l : List (Nat × Sh)) (β β' : Binds) (x : denE l), absEnv os β l env = some (x, β') →
    Ext β β' ∧ (VB m os β → VB m os β') ∧ ∀ m' ρ, Link m m' ρ os β' → ∀ t, Rel kn m' (patE ρ l x t) (act.tmps.getD t undef)
  | [], β, β', x, h => by cases h; exact ⟨.refl _, id, fun m' ρ _ t => .any _⟩
  | (t0, s) :: l, β, β', x, h => by
    have h : (match absV os β s (env.getD t0 .undef) with
      | some (x, β1) => match absEnv os β1 l env with
        | some (y, β2) => some ((x, y), β2)
        | none => none
      | none => none) = some (x, β') := h
    split at h
    · rename_i a β1 ha
      split at h
      · rename_i b β2 hb
        cases h
        obtain ⟨h1, h2⟩ := absV_ok (kn := kn) (m := m) s β β1 _ a ha
        obtain ⟨h3, h4, h5⟩ := absEnv_ok hE l β1 _ b hb
        refine ⟨h1.trans h3, fun hv => h4 ((h2 _ (hE.tmp t0)).1 hv), fun m' ρ hl t => ?_⟩
        show Rel kn m' (if t0 = t then patV ρ s a else patE ρ l b t) _
        split
        · rename_i e; subst e; exact (h2 _ (hE.tmp t0)).2 m' ρ (hl.ext h3)
        · exact h5 m' ρ hl t
      · cases h
    · cases h
end
end Go.Ab

set_option linter.unusedVariables false
set_option linter.unusedSimpArgs false
namespace Go.Ab
open Go Go.RowKit

section
variable {C : Cx} {B : Base} {kn : Kn} {m : Mp} {σ : Sto} {nx : Nat} {w : World} {os : Slots}

theorem GvRel.rf {kn : Kn} {m m' : Mp} {w : World} {nm nm' esz ety : Nat} {rows : List (List AV)} (h : GvRel kn m w nm esz ety rows) (he : m' nm' = m nm) (hf : ∀ r ∈ rows, RFL r) : GvRel kn m' w nm' esz ety rows := by
  obtain ⟨loc, hn, hl, h⟩ := h
  refine ⟨loc, he.trans hn, hl, ?_⟩
  rcases h with h | ⟨hnl, he, arr, h1, h2, h3, h4, h4', h5, h6⟩
  · exact .inl h
  · exact .inr ⟨hnl, he, arr, h1, h2, h3, h4, h4', h5, fun i row j x v a b c => (h6 i row j x v a b c).rf ((hf row (List.mem_of_getElem? a)).get b) m'⟩
theorem rows_rfl (e : E) (l : List e.den) : ∀ r ∈ l.map e.row, RFL r := fun r hr => by obtain ⟨x, _, rfl⟩ := List.mem_map.1 hr; exact E.row_rf e x

/-- One object. -/
theorem absO_ok (hI : Inv C B kn m σ nx w) {o : OSh} {b : Option Bnd} {β β' : Binds} {x : o.den} (h : absO os β σ b o = some (x, β')) (hlaid : ∀ p nm, b = some (.at p nm) → ∃ loc, m nm = some loc) :
    Ext β β' ∧ (VB m os β → VB m os β') ∧ ∃ b0, b = some b0 ∧ (∀ p nm, b0 = .at p nm → ∃ ob, σ[p]? = some (nm, ob) ∧ live ob) ∧ (b0 = .nil → ∃ e ety, o = .tg e ety) ∧
      ((b0 = .nil → lenO o x = 0) ∧ ∀ e ety, o = .tg e ety → ∀ p nm loc, b0 = .at p nm → m nm = some loc → loc.len = lenO o x) ∧
      ∀ m' ρ nm', Link m m' ρ os β' → live (patO ρ o x) ∧ (∀ p nm, b0 = .at p nm → m' nm' = m nm → ObjRel C.P kn m' w nm' (patO ρ o x)) ∧ (b0 = .nil → ∀ loc, m' nm' = some loc → loc.nil = true → loc.len = 0 → ObjRel C.P kn m' w nm' (patO ρ o x)) := by
  cases o with
  | cells T l =>
    replace h : absCellsO os β σ T l b = some (x, β') := h
    unfold absCellsO at h
    split at h
    · rename_i p nm
      split at h
      · rename_i T' cs hs
        split at h
        · rename_i hT
          subst hT
          have hp := sget_some hs
          obtain ⟨loc, hm⟩ := hlaid p nm rfl
          have hob := hI.obj _ _ _ hp
          simp only [ObjRel, hm] at hob
          obtain ⟨hnl, h0, arr, hw, hrl⟩ := hob
          obtain ⟨h1, h2⟩ := absL_ok (kn := kn) (m := m) l β β' cs x h
          refine ⟨h1, (h2 _ hrl.1).1, _, rfl, fun p' nm' e => ?_, (fun e => by cases e), ⟨(fun e => by cases e), (fun e ety e' => by cases e')⟩, fun m' ρ nm' hl => ⟨trivial, fun p' nm'' e he => ?_, (fun e => by cases e)⟩⟩
          · cases e; exact ⟨_, hp, trivial⟩
          · cases e
            simp only [patO, ObjRel, he, hm]
            exact ⟨hnl, h0, arr, hw, (h2 _ hrl.1).2 m' ρ hl, hrl.2⟩
        · cases h
      · cases h
    · cases h
  | tg e ety =>
    replace h : absTgO β σ e ety b = some (x, β') := h
    unfold absTgO at h
    split at h
    · rename_i p nm
      split at h
      · rename_i e' ety' l hs
        split at h
        · rename_i he
          subst he
          split at h
          · rename_i hety
            subst hety
            rw [castL_rfl] at h
            have hp := sget_some hs
            have hgv : GvRel kn m w nm e'.size ety' (l.map e'.row) := hI.obj _ _ _ hp
            cases h
            refine ⟨.refl _, id, _, rfl, fun p' nm' e => ?_, (fun e => by cases e), ⟨(fun e => by cases e), fun e ety e' p' nm' loc q hm => ?_⟩, fun m' ρ nm' hl => ⟨trivial, fun p' nm'' e he => ?_, (fun e => by cases e)⟩⟩
            · cases e; exact ⟨_, hp, trivial⟩
            · cases q
              obtain ⟨loc', hm', hll, _⟩ := hgv
              rw [hm] at hm'; cases hm'
              rw [hll, List.length_map]; rfl
            · cases e
              exact hgv.rf he (rows_rfl _ _)
          · cases h
        · cases h
      · cases h
    · cases h
      refine ⟨.refl _, id, _, rfl, (fun p' nm' e => by cases e), fun _ => ⟨e, ety, rfl⟩, ⟨fun _ => rfl, (fun e ety e' p' nm' loc q => by cases q)⟩, fun m' ρ nm' hl => ⟨trivial, (fun p' nm'' e => by cases e), fun _ loc hm hn hll => ?_⟩⟩
      exact ⟨loc, hm, hll, .inl ⟨hn, rfl⟩⟩
    · cases h

def SlotOk (C : Cx) (kn : Kn) (m : Mp) (σ : Sto) (w : World) (os : Slots) (β' : Binds) (j : Nat) (l : Slots) (x : denO l) (i : Nat) (o : OSh) : Prop :=
  ∃ b, bget β' (j + i) = some b ∧ (∀ p nm, b = .at p nm → ∃ ob, σ[p]? = some (nm, ob) ∧ live ob) ∧ (b = .nil → ∃ e ety, o = .tg e ety) ∧
    ((b = .nil → lensO l x i = 0) ∧ ∀ e ety, o = .tg e ety → ∀ p nm loc, b = .at p nm → m nm = some loc → loc.len = lensO l x i) ∧
    ∀ m' ρ nmf, Link m m' ρ os β' → ∃ ob', (patOs ρ nmf j l x)[i]? = some (nmf (j + i), ob') ∧ live ob' ∧ (∀ p nm, b = .at p nm → m' (nmf (j + i)) = m nm → ObjRel C.P kn m' w (nmf (j + i)) ob') ∧
      (b = .nil → ∀ loc, m' (nmf (j + i)) = some loc → loc.nil = true → loc.len = 0 → ObjRel C.P kn m' w (nmf (j + i)) ob')
theorem absOs_ok (hI : Inv C B kn m σ nx w) : ∀ (l : Slots) (j : Nat) (β β' : Binds) (x : denO l), absOs os σ β j l = some (x, β') → VB m os β →
    Ext β β' ∧ VB m os β' ∧ ∀ i kp o, l[i]? = some (kp, o) → SlotOk C kn m σ w os β' j l x i o
  | [], j, β, β', x, h, hv => by cases h; exact ⟨.refl _, hv, fun i kp o e => by simp at e⟩
  | (kp0, o0) :: l, j, β, β', x, h, hv => by
    have h : (match absO os β σ (bget β j) o0 with
      | some (x, β1) => match absOs os σ β1 (j + 1) l with
        | some (y, β2) => some ((x, y), β2)
        | none => none
      | none => none) = some (x, β') := h
    split at h
    · rename_i a β1 ha
      split at h
      · rename_i b β2 hb
        cases h
        obtain ⟨h1, h2, b0, hb0, h3, h4, h5, h6⟩ := absO_ok hI ha (fun p nm e => hv.laid j p nm e)
        obtain ⟨k1, k2, k3⟩ := absOs_ok hI l (j + 1) β1 _ b hb (h2 hv)
        refine ⟨h1.trans k1, k2, fun i kp o e => ?_⟩
        cases i with
        | zero =>
          simp at e
          obtain ⟨rfl, rfl⟩ := e
          refine ⟨b0, (h1.trans k1) _ _ hb0, h3, h4, h5, fun m' ρ nmf hl => ?_⟩
          obtain ⟨q1, q2, q3⟩ := h6 m' ρ (nmf j) (hl.ext k1)
          exact ⟨_, rfl, q1, q2, q3⟩
        | succ i =>
          simp at e
          obtain ⟨b1, q1, q2, q3, q4, q5⟩ := k3 i kp o e
          have hji : j + 1 + i = j + (i + 1) := by omega
          rw [hji] at q1 q5
          exact ⟨b1, q1, q2, q3, q4, fun m' ρ nmf hl => by
            obtain ⟨ob', p1, p2⟩ := q5 m' ρ nmf hl
            exact ⟨ob', p1, p2⟩⟩
      · cases h
    · cases h
theorem patOs_len (ρ : Pl) (nmf : Nat → Nat) : ∀ (l : Slots) (j : Nat) (x : denO l), (patOs ρ nmf j l x).length = l.length
  | [], _, _ => rfl
  | (_, _) :: l, j, x => by show (patOs ρ nmf (j + 1) l x.2).length + 1 = _; rw [patOs_len ρ nmf l (j + 1) x.2]; rfl
theorem binds0_get : ∀ (l : Slots) (j j' : Nat) (b : Bnd), bget (binds0 j l) j' = some b ↔ ∃ i o, j' = j + i ∧ l[i]? = some (true, o) ∧ b = .at j' j'
  | [], j, j', b => by simp [binds0, bget]
  | (true, o0) :: l, j, j', b => by
    simp only [binds0, bget]
    split
    · rename_i e
      subst e
      constructor
      · intro h; cases h; exact ⟨0, o0, rfl, rfl, rfl⟩
      · rintro ⟨i, o, h1, h2, h3⟩; rw [h3]
    · rename_i e
      rw [binds0_get l (j + 1) j' b]
      constructor
      · rintro ⟨i, o, h1, h2, h3⟩; exact ⟨i + 1, o, by omega, by simpa using h2, h3⟩
      · rintro ⟨i, o, h1, h2, h3⟩
        cases i with
        | zero => exact absurd (by omega) e
        | succ i => exact ⟨i, o, by omega, by simpa using h2, h3⟩
  | (false, o0) :: l, j, j', b => by
    simp only [binds0]
    rw [binds0_get l (j + 1) j' b]
    constructor
    · rintro ⟨i, o, h1, h2, h3⟩; exact ⟨i + 1, o, by omega, by simpa using h2, h3⟩
    · rintro ⟨i, o, h1, h2, h3⟩
      cases i with
      | zero => simp at h2
      | succ i => exact ⟨i, o, by omega, by simpa using h2, h3⟩
theorem listTo_get (f : Nat → AV) : ∀ (n t0 t : Nat), (listTo f n t0)[t]? = if t < n then some (f (t0 + t)) else none
  | 0, t0, t => by simp [listTo]
  | n + 1, t0, t => by
    cases t with
    | zero => simp [listTo]
    | succ t =>
      simp only [listTo, List.getElem?_cons_succ]
      rw [listTo_get f n (t0 + 1) t]
      by_cases h : t < n
      · rw [if_pos h, if_pos (by omega), Nat.add_assoc, Nat.add_comm 1 t]
      · rw [if_neg h, if_neg (by omega)]
/-- Slots that keep their names are among the first k. -/
def keepB (k : Nat) : Nat → Slots → Bool
  | _, [] => true
  | j, (kp, _) :: l => (!kp || Nat.blt j k) && keepB k (j + 1) l
theorem keepB_spec {k : Nat} : ∀ {l : Slots} {j : Nat}, keepB k j l = true → ∀ i o, l[i]? = some (true, o) → j + i < k
  | [], j, h, i, o, e => by simp at e
  | (kp, o0) :: l, j, h, i, o, e => by
    simp only [keepB, Bool.and_eq_true] at h
    cases i with
    | zero =>
      simp at e
      obtain ⟨rfl, rfl⟩ := e
      simpa [Nat.blt_eq] using h.1
    | succ i =>
      have := keepB_spec h.2 i o (by simpa using e)
      omega
def nilLoc : Loc := ⟨0, 0, 0, 0, 0, true⟩
def mNew (k : Nat) (os : Slots) (β : Binds) (m : Mp) : Mp := fun i => if i < k then m i else match os[i - k]? with
  | some (false, _) => match bget β (i - k) with
    | some (.at _ nm) => m nm
    | some .nil => some nilLoc
    | none => none
  | _ => none
theorem nameOf_keep {k j : Nat} {o : OSh} (h : os[j]? = some (true, o)) : nameOf k j os = j := by simp [nameOf, h]
theorem nameOf_new {k j : Nat} {o : OSh} (h : os[j]? = some (false, o)) : nameOf k j os = k + j := by simp [nameOf, h]
/-- **A state may be told by its shape.** -/
theorem norm_sound {k n : Nat} {ss : SS} {x : XS} {d : ss.den} {act : Act} (h : absS ss x = some d) (hkeep : keepB k 0 ss.objs = true) (hI : Inv C B kn m x.σ x.nx w) (hE : RelEnv kn m (xenv x.env) n act) (hlay : ∀ i, i < k → ∃ loc, m i = some loc) :
    ∃ m', Inv C B kn m' (patS k n ss d).σ (patS k n ss d).nx w ∧ RelEnv kn m' (xenv (patS k n ss d).env) n act ∧ (∀ i, i < k → m' i = m i) ∧ ∀ j, j < ss.objs.length → ∃ loc, m' (nameOf k j ss.objs) = some loc := by
  unfold absS at h
  split at h
  · rename_i a β1 ha
    split at h
    · rename_i o βf ho
      cases h
      have hk0 := fun i o e => keepB_spec hkeep i o e
      simp only [Nat.zero_add] at hk0
      have hv0 : VB m ss.objs (binds0 0 ss.objs) := ⟨fun j b e => by
          obtain ⟨i, o', h1, h2, h3⟩ := (binds0_get _ _ _ _).1 e
          rw [Nat.zero_add] at h1; subst h1; rw [h2]; rfl, fun j p nm e => by
          obtain ⟨i, o', h1, h2, h3⟩ := (binds0_get _ _ _ _).1 e
          rw [Nat.zero_add] at h1; subst h1; cases h3; exact hlay _ (hk0 _ _ h2), fun j j' p nm nm' e e' => by
          obtain ⟨i, o', h1, h2, h3⟩ := (binds0_get _ _ _ _).1 e
          obtain ⟨i', o'', h1', h2', h3'⟩ := (binds0_get _ _ _ _).1 e'
          cases h3; cases h3'; rfl⟩
      obtain ⟨e1, v1, r1⟩ := absEnv_ok (os := ss.objs) hE ss.env _ _ a ha
      obtain ⟨e2, v2, r2⟩ := absOs_ok (os := ss.objs) hI ss.objs 0 β1 βf o ho (v1 hv0)
      simp only [SlotOk, Nat.zero_add] at r2
      have hkp : ∀ j o', ss.objs[j]? = some (true, o') → bget βf j = some (.at j j) := fun j o' e => (e1.trans e2) _ _ ((binds0_get _ _ _ _).2 ⟨j, o', (Nat.zero_add _).symm, e, rfl⟩)
      have hmn : ∀ j o', ss.objs[j]? = some (false, o') → mNew k ss.objs βf m (k + j) = match bget βf j with
          | some (.at _ nm) => m nm
          | some .nil => some nilLoc
          | none => none := fun j o' e => by
        unfold mNew
        rw [if_neg (by omega), Nat.add_sub_cancel_left, e]
      have hat : ∀ j p nm, bget βf j = some (.at p nm) → mNew k ss.objs βf m (nameOf k j ss.objs) = m nm := fun j p nm e => by
        have hd := v2.dom j _ e
        cases hs : ss.objs[j]? with
        | none => rw [hs] at hd; cases hd
        | some q =>
          obtain ⟨kp, o'⟩ := q
          cases kp with
          | true =>
            rw [hkp j o' hs] at e; cases e
            rw [nameOf_keep hs]
            unfold mNew
            rw [if_pos (hk0 _ _ hs)]
          | false => rw [nameOf_new hs, hmn j o' hs, e]
      have hnil : ∀ j, bget βf j = some .nil → mNew k ss.objs βf m (nameOf k j ss.objs) = some nilLoc := fun j e => by
        have hd := v2.dom j _ e
        cases hs : ss.objs[j]? with
        | none => rw [hs] at hd; cases hd
        | some q =>
          obtain ⟨kp, o'⟩ := q
          cases kp with
          | true => rw [hkp j o' hs] at e; cases e
          | false => rw [nameOf_new hs, hmn j o' hs, e]
      have hlink : Link m (mNew k ss.objs βf m) (plO k ss.objs o) ss.objs βf := fun j b e => by
        have hd := v2.dom j _ e
        cases b with
        | nil =>
          refine ⟨nilLoc, hnil j e, rfl, rfl, ?_⟩
          cases hs : ss.objs[j]? with
          | none => rw [hs] at hd; cases hd
          | some q =>
            obtain ⟨b', q1, _, _, q4, _⟩ := r2 j q.1 q.2 hs
            rw [e] at q1; cases q1
            exact q4.1 rfl
        | «at» p nm =>
          refine ⟨hat j p nm e, fun e' loc hst hm => ?_⟩
          unfold slotTg at hst
          split at hst
          · rename_i kp e2 ety hs
            obtain ⟨b', q1, _, _, q4, _⟩ := r2 j _ _ hs
            rw [e] at q1; cases q1
            exact q4.2 e2 ety rfl p nm loc rfl hm
          · cases hst
      have hent : ∀ i nm' ob', (patOs (plO k ss.objs o) (fun j => nameOf k j ss.objs) 0 ss.objs o)[i]? = some (nm', ob') → nm' = nameOf k i ss.objs ∧ ∃ kp osh, ss.objs[i]? = some (kp, osh) ∧ live ob' ∧ ObjRel C.P kn (mNew k ss.objs βf m) w nm' ob' ∧
          ∃ b, bget βf i = some b ∧ (∀ p nm, b = .at p nm → ∃ ob, x.σ[p]? = some (nm, ob) ∧ live ob) := fun i nm' ob' e => by
        have hi := (List.getElem?_eq_some_iff.1 e).1
        rw [patOs_len] at hi
        obtain ⟨b, q1, q2, q3, q4, q5⟩ := r2 i _ _ (List.getElem?_eq_getElem hi)
        obtain ⟨ob2, p1, p2, p3, p4⟩ := q5 _ (plO k ss.objs o) (fun j => nameOf k j ss.objs) hlink
        rw [e] at p1; cases p1
        refine ⟨rfl, _, _, List.getElem?_eq_getElem hi, p2, ?_, b, q1, q2⟩
        cases b with
        | nil => exact p4 rfl nilLoc (hnil i q1) rfl rfl
        | «at» p nm => exact p3 p nm rfl (hat i p nm q1)
      have hgetloc : ∀ i b loc, bget βf i = some b → mNew k ss.objs βf m (nameOf k i ss.objs) = some loc → loc.nil = false → ∃ p nm, b = .at p nm ∧ m nm = some loc := fun i b loc e hm hn => by
        cases b with
        | nil => rw [hnil i e] at hm; cases hm; cases hn
        | «at» p nm => exact ⟨p, nm, rfl, by rw [← hat i p nm e]; exact hm⟩
      refine ⟨mNew k ss.objs βf m, ⟨hI.knok, hI.size, hI.os, hI.tape, hI.output, hI.old, fun i nm' ob' e => ?_, fun i nm' ob' loc e hl hm hn => ?_, fun i1 n1 ob1 l1 i2 n2 ob2 l2 f1 f2 w1 w2 m1 m2 hn1 hn2 hne => ?_, fun q hq => ?_, fun i nm' ob' e => ?_, fun i1 i2 n1 ob1 ob2 f1 f2 => ?_, fun g => (hI.glob g).rf (C.rf g) _⟩, ⟨hE.size, fun t => ?_⟩, fun i hi => ?_, fun j hj => ?_⟩
      · obtain ⟨rfl, _, _, _, _, q, _⟩ := hent i nm' ob' e; exact q
      · obtain ⟨rfl, kp, osh, hs, _, _, b, q1, q2⟩ := hent i nm' ob' e
        obtain ⟨p, nm, rfl, hm'⟩ := hgetloc i b loc q1 hm hn
        obtain ⟨ob, hp, hlv⟩ := q2 p nm rfl
        exact hI.own p nm ob loc hp hlv hm' hn
      · obtain ⟨rfl, _, _, _, _, _, b1, q1, q2⟩ := hent i1 n1 ob1 f1
        obtain ⟨rfl, _, _, _, _, _, b2, q1', q2'⟩ := hent i2 n2 ob2 f2
        obtain ⟨p, nm, rfl, hm'⟩ := hgetloc i1 b1 l1 q1 m1 hn1
        obtain ⟨p', nm', rfl, hm''⟩ := hgetloc i2 b2 l2 q1' m2 hn2
        obtain ⟨ob, hp, hlv⟩ := q2 p nm rfl
        obtain ⟨ob', hp', hlv'⟩ := q2' p' nm' rfl
        refine hI.dist p nm ob l1 p' nm' ob' l2 hp hp' hlv hlv' hm' hm'' hn1 hn2 (fun e => hne ?_)
        subst e
        exact v2.one i1 i2 p nm nm' q1 q1'
      · have hq : k + ss.objs.length ≤ q := hq
        unfold mNew
        rw [if_neg (by omega), List.getElem?_eq_none (by omega)]
      · obtain ⟨rfl, kp, osh, hs, _⟩ := hent i nm' ob' e
        show nameOf k i ss.objs < k + ss.objs.length
        have hi := (List.getElem?_eq_some_iff.1 hs).1
        cases kp with
        | true => rw [nameOf_keep hs]; have := hk0 _ _ hs; omega
        | false => rw [nameOf_new hs]; omega
      · obtain ⟨h1, kp, osh, hs, _⟩ := hent i1 n1 ob1 f1
        obtain ⟨h2, kp', osh', hs', _⟩ := hent i2 n1 ob2 f2
        rw [h1] at h2
        cases kp with
        | true =>
          rw [nameOf_keep hs] at h2
          have := hk0 _ _ hs
          cases kp' with
          | true => rw [nameOf_keep hs'] at h2; exact h2
          | false => rw [nameOf_new hs'] at h2; omega
        | false =>
          rw [nameOf_new hs] at h2
          cases kp' with
          | true => rw [nameOf_keep hs'] at h2; have := hk0 _ _ hs'; omega
          | false => rw [nameOf_new hs'] at h2; omega
      · show Rel kn _ ((listTo (patE (plO k ss.objs o) ss.env a) n 0).getD t .undef) _
        rw [List.getD_eq_getElem?_getD, listTo_get]
        split
        · rw [Nat.zero_add]; exact r1 _ _ (hlink.ext e2) t
        · rename_i ht
          have : act.tmps.getD t undef = undef := by
            rw [Array.getD_eq_getD_getElem?, Array.getElem?_eq_none (by rw [hE.size]; omega)]; rfl
          rw [this]; exact .base _
      · unfold mNew; rw [if_pos hi]
      · obtain ⟨b, q1, _⟩ := r2 j _ _ (List.getElem?_eq_getElem hj)
        cases b with
        | nil => exact ⟨nilLoc, hnil j q1⟩
        | «at» p nm =>
          obtain ⟨loc, hl⟩ := v2.laid j p nm q1
          exact ⟨loc, by rw [hat j p nm q1]; exact hl⟩
    · cases h
  · cases h
end
end Go.Ab
