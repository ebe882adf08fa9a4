/-
  TEXTS: signatures of what package strings and the reader do with them.
-/
import Derived.Test.YtmompmackgknbaaGreatDoorZ10
import Derived.Test.YtmompmackgknbaaGreatDoorZ8
import Derived.Lib.Bytealg
/-
  CODE THAT RUNS, part two: the run is sound.
-/
set_option linter.unusedVariables false
set_option linter.unusedSimpArgs false
namespace Go.Ab
open Go Go.RowKit

/-- A state of the model that a state of the run tells; the first k names mean what they meant. -/
structure Sim (C : Cx) (B : Base) (n : Nat) (ds : List Deferred) (k : Nat) (kn₀ : Kn) (m₀ : Mp) (s : XS) (kn : Kn) (m : Mp) (act : Act) (w : World) : Prop where
  env : RelEnv kn m (xenv s.env) n act
  defs : act.defers = ds
  inv : Inv C B kn m s.σ s.nx w
  le : KnLe kn₀ kn
  nx : k ≤ s.nx
  base : ∀ i, i < k → m i = m₀ i
  lay : ∀ i, i < k → ∃ loc, m i = some loc
structure SimP (C : Cx) (B : Base) (ds : List Deferred) (k : Nat) (kn₀ : Kn) (m₀ : Mp) (σ : Sto) (nx : Nat) (kn : Kn) (m : Mp) (act : Act) (w : World) : Prop where
  defs : act.defers = ds
  inv : Inv C B kn m σ nx w
  le : KnLe kn₀ kn
  nx : k ≤ nx
  base : ∀ i, i < k → m i = m₀ i
def Good (C : Cx) (B : Base) (n : Nat) (ds : List Deferred) (k : Nat) (kn₀ : Kn) (m₀ : Mp) (post : Exit → Act → World → Prop) : AExit → XS → Prop
  | .pan v, s => ∀ kn m act w, SimP C B ds k kn₀ m₀ s.σ s.nx kn m act w → ∀ u, Rel kn m v u → post (.panic [{ v := u, recovered := false }]) act w
  | e, s => ∀ kn m act w, Sim C B n ds k kn₀ m₀ s kn m act w → ∀ ce, RelExit kn m e ce → post ce act w

section
variable {C : Cx} {B : Base} {n : Nat} {ds : List Deferred} {k : Nat} {kn₀ : Kn} {m₀ : Mp}

/-! ### Freezing -/
theorem onlyAt_get : ∀ (p : Nat) (σ : Sto) (q nm : Nat) (o : AObj), (onlyAt p σ)[q]? = some (nm, o) → (q = p ∧ σ[q]? = some (nm, o)) ∨ o = .none
  | _, [], q, nm, o, h => by simp [onlyAt] at h
  | 0, e :: l, q, nm, o, h => by
    cases q with
    | zero => simp only [onlyAt, List.getElem?_cons_zero] at h; exact .inl ⟨rfl, h⟩
    | succ q =>
      simp only [onlyAt, List.getElem?_cons_succ, List.getElem?_map] at h
      cases hx : l[q]? with
      | none => simp [hx] at h
      | some y => simp [hx] at h; exact .inr h.2.symm
  | p + 1, e :: l, q, nm, o, h => by
    cases q with
    | zero => simp only [onlyAt, List.getElem?_cons_zero, Option.some.injEq, Prod.mk.injEq] at h; exact .inr h.2.symm
    | succ q =>
      simp only [onlyAt, List.getElem?_cons_succ] at h
      rcases onlyAt_get p l q nm o h with ⟨h1, h⟩ | h
      · exact .inl ⟨by omega, by simpa using h⟩
      · exact .inr h
theorem frzSto_get (σp : Sto) (p : Nat) : ∀ (σ : Sto) (j q nm : Nat) (o : AObj), (frzSto σp p j σ)[q]? = some (nm, o) → ∃ o', σ[q]? = some (nm, o') ∧ ((j + q = p ∧ o = .none) ∨ (j + q ≠ p ∧ o = frzObj σp o'))
  | [], j, q, nm, o, h => by simp [frzSto] at h
  | (nm0, o0) :: l, j, q, nm, o, h => by
    cases q with
    | zero =>
      simp only [frzSto, List.getElem?_cons_zero, Option.some.injEq, Prod.mk.injEq] at h
      obtain ⟨rfl, rfl⟩ := h
      refine ⟨o0, rfl, ?_⟩
      by_cases hj : j = p
      · exact .inl ⟨hj, if_pos hj⟩
      · exact .inr ⟨hj, if_neg hj⟩
    | succ q =>
      simp only [frzSto, List.getElem?_cons_succ] at h
      obtain ⟨o', h1, h2⟩ := frzSto_get σp p l (j + 1) q nm o h
      exact ⟨o', by simpa using h1, by rwa [show j + (q + 1) = j + 1 + q by omega]⟩
theorem frz1_sound {s : XS} {kn : Kn} {m : Mp} {act : Act} {w : World} (p : Nat) (h : Sim C B n ds k kn₀ m₀ s kn m act w) : ∃ kn', Sim C B n ds k kn₀ m₀ (frz1 p s) kn' m act w := by
  have hI := h.inv
  -- what is known from now on
  obtain ⟨kn', hcase⟩ : ∃ kn' : Kn, (kn' = kn ∧ ∀ (nm : Nat) (ob : AObj) (loc : Loc), s.σ[p]? = some (nm, ob) → live ob → m nm = some loc → loc.nil = false → False) ∨
      ∃ nm ob loc, s.σ[p]? = some (nm, ob) ∧ live ob ∧ m nm = some loc ∧ loc.nil = false ∧ kn' = fun b o => if b = loc.blk then w.cell? ⟨b, o, none⟩ else kn b o := by
    by_cases hx : ∃ nm ob loc, s.σ[p]? = some (nm, ob) ∧ live ob ∧ m nm = some loc ∧ loc.nil = false
    · obtain ⟨nm, ob, loc, h1, h2, h3, h4⟩ := hx
      exact ⟨_, .inr ⟨nm, ob, loc, h1, h2, h3, h4, rfl⟩⟩
    · exact ⟨kn, .inl ⟨rfl, fun nm ob loc h1 h2 h3 h4 => hx ⟨nm, ob, loc, h1, h2, h3, h4⟩⟩⟩
  have hle : KnLe kn kn' := by
    rcases hcase with ⟨e, _⟩ | ⟨nm, ob, loc, hp, hl, hm, hn, e⟩
    · rw [e]; exact KnLe.refl _
    · intro b o v hv
      rw [e]
      simp only
      split
      · rename_i hb
        subst hb
        rw [(hI.own p nm ob loc hp hl hm hn).2.2 o] at hv; cases hv
      · exact hv
  have hold : ∀ b, b < B.w.heap.size → ¬ B.own b → kn' b = kn b := fun b hb hob => by
    rcases hcase with ⟨e, _⟩ | ⟨nm, ob, loc, hp, hl, hm, hn, e⟩
    · rw [e]
    · rw [e]
      funext o
      simp only
      rw [if_neg]
      intro hbb
      subst hbb
      rcases (hI.own p nm ob loc hp hl hm hn).2.1 with h1 | h1
      · omega
      · exact hob h1
  have hfrz : ∀ (x : AV) (v : Value), Rel kn m x v → Rel kn' m (frzF (onlyAt p s.σ) 6 x) v := frz_gen (P := C.P) (w := w) hle (fun q nm ob e l => by
      rcases onlyAt_get p s.σ q nm ob e with ⟨_, e⟩ | e
      · exact hI.obj _ _ _ e
      · rw [e] at l; cases l) (fun q nm ob loc e l hm hn o => by
      rcases onlyAt_get p s.σ q nm ob e with ⟨hq, e⟩ | e
      · rw [hq] at e
        rcases hcase with ⟨hk, hno⟩ | ⟨nm', ob', loc', hp, hl, hm', hn', hk⟩
        · exact (hno nm ob loc e l hm hn).elim
        · rw [e] at hp; cases hp
          rw [hm] at hm'; cases hm'
          rw [hk]; simp
      · rw [e] at l; cases l) 6
  have hother : ∀ (q nm : Nat) (ob : AObj) (loc : Loc), q ≠ p → s.σ[q]? = some (nm, ob) → live ob → m nm = some loc → loc.nil = false → ∀ o, kn' loc.blk o = none := fun q nm ob loc hq e l hm hn o => by
    have h1 := (hI.own q nm ob loc e l hm hn).2.2 o
    rcases hcase with ⟨hk, hno⟩ | ⟨nm', ob', loc', hp, hl, hm', hn', hk⟩
    · rw [hk]; exact h1
    · rw [hk]
      simp only
      rw [if_neg (hI.dist q nm ob loc p nm' ob' loc' e hp l hl hm hm' hn hn' hq)]
      exact h1
  have hget : ∀ (q nm : Nat) (o : AObj), (frz1 p s).σ[q]? = some (nm, o) → ∃ o', s.σ[q]? = some (nm, o') ∧ ((q = p ∧ o = .none) ∨ (q ≠ p ∧ o = frzObj (onlyAt p s.σ) o')) := fun q nm o e => by
    have := frzSto_get (onlyAt p s.σ) p s.σ 0 q nm o e
    simpa only [Nat.zero_add] using this
  have hlive : ∀ o', live (frzObj (onlyAt p s.σ) o') → live o' := fun o' => by cases o' <;> exact id
  refine ⟨kn', ⟨⟨h.env.size, fun t => ?_⟩, h.defs, ⟨fun b o v e => ?_, hI.size, hI.os, hI.tape, hI.output, fun b hb hob => ⟨(hI.old b hb hob).1, (hold b hb hob).trans (hI.old b hb hob).2⟩, fun q nm o e => ?_, fun q nm o loc e l hm hn => ?_,
    fun q nm o loc q' nm' o' loc' e e' l l' hm hm' hn hn' hne => ?_, hI.dom, fun q nm o e => ?_, fun q q' nm o o' e e' => ?_, fun g => (hI.glob g).mono hle (MpLe.refl m)⟩, h.le.trans hle, h.nx, h.base, h.lay⟩⟩
  · show Rel kn' m ((s.env.map (frzF (onlyAt p s.σ) 6)).getD t .undef) _
    have h1 := h.env.tmp t
    simp only [xenv, List.getD_eq_getElem?_getD, List.getElem?_map] at h1 ⊢
    cases hx : s.env[t]? with
    | none =>
      rw [hx] at h1
      simp only [Option.map_none, Option.getD_none] at h1 ⊢
      exact h1.mono hle (MpLe.refl m)
    | some a =>
      rw [hx] at h1
      simp only [Option.map_some, Option.getD_some] at h1 ⊢
      exact hfrz a _ h1
  · rcases hcase with ⟨hk, hno⟩ | ⟨nm', ob', loc', hp, hl, hm', hn', hk⟩
    · rw [hk] at e; exact hI.knok b o v e
    · rw [hk] at e
      simp only at e
      split at e
      · exact e
      · exact hI.knok b o v e
  · obtain ⟨o', e', h2⟩ := hget q nm o e
    rcases h2 with ⟨_, rfl⟩ | ⟨hne, rfl⟩
    · trivial
    · have h0 := hI.obj q nm o' e'
      cases o' with
      | cells T cs =>
        simp only [frzObj, ObjRel] at h0 ⊢
        cases hm : m nm with
        | none =>
          rw [hm] at h0
          -- an object that is not laid yet holds no references to the frozen one
          simp only at h0 ⊢
          have : cs.map (frzF (onlyAt p s.σ) 6) = cs := by
            have hz := h0
            unfold zeroCells at hz
            cases hi : (C.P.info? T).bind (·.zero) with
            | none => rw [hi] at hz; simp at hz
            | some v =>
              rw [hi] at hz
              simp only [Option.bind_some, Option.ite_none_right_eq_some, Option.some.injEq] at hz
              rw [← hz.2, List.map_map]
              apply List.map_congr_left
              intro a _
              show frzF (onlyAt p s.σ) 6 (ofVal a) = ofVal a
              unfold ofVal
              split <;> first | rfl | (split <;> rfl)
          rw [this]; exact h0
        | some loc =>
          rw [hm] at h0
          simp only at h0 ⊢
          obtain ⟨a0, a1, arr, a2, a3⟩ := h0
          refine ⟨a0, a1, arr, a2, ⟨by simpa using a3.1.1, fun i x v ex ev => ?_⟩, a3.2⟩
          rw [List.getElem?_map] at ex
          cases hx : cs[i]? with
          | none => simp [hx] at ex
          | some y =>
            simp only [hx, Option.map_some, Option.some.injEq] at ex
            subst ex
            exact hfrz y v (a3.1.2 i y v hx ev)
      | none => trivial
      | gvec a b c => exact h0.mono hle (fun _ _ _ _ => rfl)
      | tg a b c => exact h0.mono hle (fun _ _ _ _ => rfl)
      | siter a b => exact h0.mono hle (fun _ _ _ _ => rfl)
  · obtain ⟨o', e', h2⟩ := hget q nm o e
    rcases h2 with ⟨_, rfl⟩ | ⟨hne, rfl⟩
    · cases l
    · obtain ⟨h3, h4, h5⟩ := hI.own q nm o' loc e' (hlive _ l) hm hn
      exact ⟨h3, h4, hother q nm o' loc hne e' (hlive _ l) hm hn⟩
  · obtain ⟨o1, e1, h2⟩ := hget q nm o e
    obtain ⟨o2, e2, h3⟩ := hget q' nm' o' e'
    rcases h2 with ⟨_, rfl⟩ | ⟨hne1, rfl⟩
    · cases l
    · rcases h3 with ⟨_, rfl⟩ | ⟨hne2, rfl⟩
      · cases l'
      · exact hI.dist q nm o1 loc q' nm' o2 loc' e1 e2 (hlive _ l) (hlive _ l') hm hm' hn hn' hne
  · obtain ⟨o', e', _⟩ := hget q nm o e; exact hI.lt _ _ _ e'
  · obtain ⟨o1, e1, _⟩ := hget q nm o e
    obtain ⟨o2, e2, _⟩ := hget q' nm o' e'
    exact hI.uniq _ _ _ _ _ e1 e2
theorem frzAll_sound {m : Mp} {act : Act} {w : World} : ∀ (js : List Nat) (s : XS) (kn : Kn), Sim C B n ds k kn₀ m₀ s kn m act w → ∃ kn', Sim C B n ds k kn₀ m₀ (frzAll js s) kn' m act w
  | [], s, kn, h => ⟨kn, h⟩
  | p :: l, s, kn, h => by
    obtain ⟨kn', h'⟩ := frz1_sound p h
    exact frzAll_sound l _ kn' h'

theorem clr_sim {keep : List Nat} {s : XS} {kn : Kn} {m : Mp} {act : Act} {w : World} (h : Sim C B n ds k kn₀ m₀ s kn m act w) : Sim C B n ds k kn₀ m₀ ⟨clrE keep 0 s.env, s.σ, s.nx⟩ kn m act w :=
  ⟨⟨h.env.size, fun t => by
    have := h.env.tmp t
    show Rel kn m ((clrE keep 0 s.env).getD t .undef) _
    rcases clrE_get keep s.env 0 t with e | e
    · rw [e]; exact this
    · rw [e]; exact .any _⟩, h.defs, h.inv, h.le, h.nx, h.base, h.lay⟩
theorem norm_sim {ss : SS} {x : XS} {d : ss.den} {kn : Kn} {m : Mp} {act : Act} {w : World} (h : absS ss x = some d) (hkeep : keepB k 0 ss.objs = true) (hS : Sim C B n ds k kn₀ m₀ x kn m act w) : ∃ m', Sim C B n ds k kn₀ m₀ (patS k n ss d) kn m' act w := by
  obtain ⟨m', h1, h2, h3, _⟩ := norm_sound (n := n) h hkeep hS.inv hS.env hS.lay
  exact ⟨m', h2, hS.defs, h1, hS.le, Nat.le_add_right _ _, fun i hi => (h3 i hi).trans (hS.base i hi), fun i hi => by rw [h3 i hi]; exact hS.lay i hi⟩

theorem yreg_sound {sigs : FuncId → List Sig} (hs : ∀ g, ∀ sg ∈ sigs g, SigOK C g sg) {H : Hints} {tt : Nat → Bool} {ops : Array Oper} {R : Type} {K : XS → Option R} {KP : AV → Sto → Nat → Option R} {r : R} {Kp : St → Prop} {KPp : AV → Sto → Nat → Prop}
    (hK : ∀ x, K x = some r → ∀ aenv', Weak x.env aenv' → Kp ⟨aenv', x.σ, x.nx⟩) (hP : ∀ v σ nx, KP v σ nx = some r → KPp v σ nx) :
    ∀ (l : List Oper) (q : Nat) (al : Nat × Nat) (s : YS) (aenv : Nat → AV), Ref ops s aenv → yreg C sigs H tt ops K KP l q al s = some r → areg C H tt ops Kp KPp l q al ⟨aenv, s.σ, s.nx⟩
  | [], q, al, s, aenv, hR, h => hK _ h aenv hR.weak
  | o :: rest, q, al, s, aenv, hR, h => by
    exact ystep_sound (N := fun aenv σ nx => areg C H tt ops Kp KPp rest (q + 1) (if isAlloc o.op = true then (al.1 + 1, al.2 + 1) else al) ⟨aenv, σ, nx⟩) hs hR h
      (fun s' aenv' h' hR' => yreg_sound hs hK hP rest (q + 1) _ s' aenv' hR' h') hP
theorem yregE_sound {sigs : FuncId → List Sig} (hs : ∀ g, ∀ sg ∈ sigs g, SigOK C g sg) {H : Hints} {ops : Array Oper} {R : Type} {KP : AV → Sto → Nat → Option R} {E : Nat → Nat × Nat → YS → Option R} {r : R} {KPp : AV → Sto → Nat → Prop} {Ep : Nat → Nat × Nat → St → Prop}
    (hE : ∀ q al st aenv, E q al st = some r → Ref ops st aenv → Ep q al ⟨aenv, st.σ, st.nx⟩) (hP : ∀ v σ nx, KP v σ nx = some r → KPp v σ nx) :
    ∀ (l : List Oper) (q : Nat) (al : Nat × Nat) (s : YS) (aenv : Nat → AV), Ref ops s aenv → yregE C sigs H ops KP E l q al s = some r → aregE C H ops Ep KPp l q al ⟨aenv, s.σ, s.nx⟩
  | [], q, al, s, aenv, hR, h => hE _ _ _ _ h hR
  | o :: rest, q, al, s, aenv, hR, h => by
    exact ystep_sound (N := fun aenv σ nx => aregE C H ops Ep KPp rest (q + 1) (if isAlloc o.op = true then (al.1 + 1, al.2 + 1) else al) ⟨aenv, σ, nx⟩) hs hR h
      (fun s' aenv' h' hR' => yregE_sound hs hE hP rest (q + 1) _ s' aenv' hR' h') hP
end
end Go.Ab

/-
  CODE THAT RUNS, part three: the whole; functions.
-/
set_option linter.unusedVariables false
set_option linter.unusedSimpArgs false
namespace Go.Ab
open Go Go.RowKit

section
variable {C : Cx} {B : Base} {n : Nat} {ds : List Deferred} {k : Nat} {kn₀ : Kn} {m₀ : Mp}

theorem sim_of_rs {s : XS} {s' : XS} {kn kn' : Kn} {m m' : Mp} {act act' : Act} {w w' : World} {aenv : Nat → AV} (hS : Sim C B n ds k kn₀ m₀ s kn m act w) (hR : RS C B n ds kn m s.σ s.nx kn' m' ⟨aenv, s'.σ, s'.nx⟩ act' w') (hw : Weak s'.env aenv) : Sim C B n ds k kn₀ m₀ s' kn' m' act' w' :=
  ⟨⟨hR.env.size, fun t => by
    have := hR.env.tmp t
    rcases hw t with e | e
    · rw [← e]; exact this
    · rw [e]; exact .any _⟩, hR.defs, hR.inv, hS.le.trans hR.knle, Nat.le_trans hS.nx hR.keep.le, fun i hi => (hR.keep.ag i (Nat.lt_of_lt_of_le hi hS.nx)).trans (hS.base i hi),
    fun i hi => by rw [hR.keep.ag i (Nat.lt_of_lt_of_le hi hS.nx)]; exact hS.lay i hi⟩

/-- What a region owes: some state of the run behind it. -/
def RegPost {R : Type} (K : AExit → XS → Option R) (r : R) : AExit → St → Prop
  | .normal, s => ∃ x : XS, K .normal x = some r ∧ Weak x.env s.env ∧ x.σ = s.σ ∧ x.nx = s.nx
  | .pan v, s => K (.pan v) ⟨[], s.σ, s.nx⟩ = some r
  | _, _ => False
theorem reg_done {R : Type} {K : AExit → XS → Option R} {r : R} {post : Exit → Act → World → Prop} (hK : ∀ e s', K e s' = some r → Good C B n ds k kn₀ m₀ post e s') {c : Code} {s : XS} {kn : Kn} {m : Mp} {act : Act} {w : World} (hS : Sim C B n ds k kn₀ m₀ s kn m act w)
    (h : aw C n ds c (RegPost K r) s.st) : c.wp C.P post act w := by
  refine wp_mono (h B kn m act w hS.env hS.defs hS.inv) ?_
  rintro e act' w' ⟨ae, s', kn', m', hx, hR, hq⟩
  cases ae with
  | normal =>
    obtain ⟨x, h1, h2, h3, h4⟩ := hq
    refine hK _ _ h1 kn' m' act' w' ?_ e hx
    refine sim_of_rs (aenv := s'.env) hS ?_ h2
    rw [h3, h4]; exact hR
  | pan v =>
    cases e with
    | panic ch =>
      obtain ⟨u, rfl, hu⟩ := hx
      exact hK _ _ hq kn' m' act' w' ⟨hR.defs, hR.inv, hS.le.trans hR.knle, Nat.le_trans hS.nx hR.keep.le, fun i hi => (hR.keep.ag i (Nat.lt_of_lt_of_le hi hS.nx)).trans (hS.base i hi)⟩ u hu
    | _ => exact hx.elim
  | _ => exact hq.elim

theorem ref_start (ops : Array Oper) (env : List AV) (σ : Sto) (nx : Nat) : Ref ops ⟨env, [], σ, nx⟩ (xenv env) := ⟨fun _ _ => rfl, (fun t g e h => by cases h), (fun t q h => by cases h)⟩

theorem good_then {post : Exit → Act → World → Prop} {nxt : Act → World → Prop} {e : AExit} {s : XS} (h : Good C B n ds k kn₀ m₀ post e s) (hn : e ≠ .normal) : Good C B n ds k kn₀ m₀ (Exit.then nxt post) e s := by
  cases e with
  | normal => exact absurd rfl hn
  | pan v => exact fun kn m act w hS u hu => h kn m act w hS u hu
  | exit i => intro kn m act w hS ce hx; cases ce <;> first | exact h kn m act w hS _ hx | exact hx.elim
  | goto i => intro kn m act w hS ce hx; cases ce <;> first | exact h kn m act w hS _ hx | exact hx.elim
  | ret => intro kn m act w hS ce hx; cases ce <;> first | exact h kn m act w hS _ hx | exact hx.elim
theorem good_normal {post : Exit → Act → World → Prop} {s : XS} (h : ∀ kn m act w, Sim C B n ds k kn₀ m₀ s kn m act w → post .normal act w) : Good C B n ds k kn₀ m₀ post .normal s := fun kn m act w hS ce hx => by
  cases ce <;> first | exact h kn m act w hS | exact hx.elim

theorem yregion_sound {sigs : FuncId → List Sig} (hs : ∀ g, ∀ sg ∈ sigs g, SigOK C g sg) {hint : Nat → RH} {id : Nat} {ops : Array Oper} {draws : Bool} {R : Type} {mg : Option R → Option R → Option R} (hmg : MgOK mg) {s : XS} {K : AExit → XS → Option R} {r : R} {post : Exit → Act → World → Prop}
    (h : (if dstOK n ops = true then (match allocObjs C.P ops.toList s.nx with
      | none => none
      | some objs => match draws with
        | false => yreg C sigs (hint id).H (fun _ => true) ops (fun x => K .normal x) (fun v σ nx => K (.pan v) ⟨[], σ, nx⟩) ops.toList 0 (s.σ.length, s.nx) ⟨s.env, [], s.σ ++ objs, s.nx + objs.length⟩
        | true => match (hint id).pair with
          | some (pre, i, j, post) => if (C.P.follows .mixedOrders && pairOK C.P (hint id).H ops (msOf ops) pre i j post) = true then
              yregE C sigs (hint id).H ops (fun v σ nx => K (.pan v) ⟨[], σ, nx⟩)
                (fun q al st => mg (yregE C sigs (hint id).H ops (fun v σ nx => K (.pan v) ⟨[], σ, nx⟩) (fun _ _ st => K .normal ⟨clrTags st.tags st.env, st.σ, st.nx⟩) ((i :: j :: post).filterMap (ops[·]?)) q al st)
                  (yregE C sigs (hint id).H ops (fun v σ nx => K (.pan v) ⟨[], σ, nx⟩) (fun _ _ st => K .normal ⟨clrTags st.tags st.env, st.σ, st.nx⟩) ((j :: i :: post).filterMap (ops[·]?)) q al st))
                (pre.filterMap (ops[·]?)) 0 (s.σ.length, s.nx) ⟨s.env, [], s.σ ++ objs, s.nx + objs.length⟩ else none
          | none => match (hint id).π with
            | [] => if (C.P.follows .mixedOrders && drawOK C.P (hint id).H (fun i => (hint id).tl.contains i) ops (msOf ops)) = true then
                yreg C sigs (hint id).H (fun i => (hint id).tl.contains i) ops (fun x => K .normal x) (fun v σ nx => K (.pan v) ⟨[], σ, nx⟩) ops.toList 0 (s.σ.length, s.nx) ⟨s.env, [], s.σ ++ objs, s.nx + objs.length⟩ else none
            | π => if (C.P.follows .mixedOrders && permOK C.P (hint id).H (hint id).tl ops (msOf ops) π) = true then
                yreg C sigs (hint id).H (fun i => (hint id).tl.contains i) ops (fun x => K .normal x) (fun v σ nx => K (.pan v) ⟨[], σ, nx⟩) (π.filterMap (ops[·]?)) 0 (s.σ.length, s.nx) ⟨s.env, [], s.σ ++ objs, s.nx + objs.length⟩ else none) else none) = some r)
    (hK : ∀ e s', K e s' = some r → Good C B n ds k kn₀ m₀ post e s') {kn : Kn} {m : Mp} {act : Act} {w : World} (hS : Sim C B n ds k kn₀ m₀ s kn m act w) : (Code.region id ops draws).wp C.P post act w := by
  refine reg_done hK hS ?_
  split at h
  · rename_i hd
    split at h
    · cases h
    · rename_i objs ho
      have key : ∀ (tt : Nat → Bool) (l : List Oper), yreg C sigs (hint id).H tt ops (fun x => K .normal x) (fun v σ nx => K (.pan v) ⟨[], σ, nx⟩) l 0 (s.σ.length, s.nx) ⟨s.env, [], s.σ ++ objs, s.nx + objs.length⟩ = some r →
          areg C (hint id).H tt ops (RegPost K r .normal) (fun v σ nx => ∀ env, RegPost K r (.pan v) ⟨env, σ, nx⟩) l 0 (s.st.σ.length, s.st.nx) ⟨s.st.env, s.st.σ ++ objs, s.st.nx + objs.length⟩ := fun tt l hh =>
        yreg_sound hs (fun x hx aenv' hw => ⟨x, hx, hw, rfl, rfl⟩) (fun v σ nx hx env => hx) l 0 _ _ _ (ref_start ops _ _ _) hh
      cases draws with
      | false => exact aw_region hd ho (key _ _ h)
      | true =>
        simp only at h
        split at h
        · rename_i pre i j post' hpr
          split at h
          · rename_i hB
            rw [Bool.and_eq_true] at hB
            have fin : ∀ (l : List Oper) (q : Nat) (al : Nat × Nat) (st : YS) (aenv : Nat → AV), Ref ops st aenv → yregE C sigs (hint id).H ops (fun v σ nx => K (.pan v) ⟨[], σ, nx⟩) (fun _ _ st => K .normal ⟨clrTags st.tags st.env, st.σ, st.nx⟩) l q al st = some r →
                aregE C (hint id).H ops (fun _ _ => RegPost K r .normal) (fun v σ nx => ∀ env, RegPost K r (.pan v) ⟨env, σ, nx⟩) l q al ⟨aenv, st.σ, st.nx⟩ := fun l q al st aenv hR hh =>
              yregE_sound hs (fun q al st aenv hx hR => ⟨_, hx, hR.weak, rfl, rfl⟩) (fun v σ nx hx env => hx) l q al st aenv hR hh
            refine aw_pair hB.1 hB.2 hd ho ?_
            exact yregE_sound hs (fun q al st aenv hx hR => ⟨fin _ q al st aenv hR (hmg _ _ _ hx).1, fin _ q al st aenv hR (hmg _ _ _ hx).2⟩) (fun v σ nx hx env => hx) _ 0 _ _ _ (ref_start ops _ _ _) h
          · cases h
        · split at h
          · split at h
            · rename_i hB
              rw [Bool.and_eq_true] at hB
              exact aw_draw hB.1 hB.2 hd ho (key _ _ h)
            · cases h
          · rename_i π hπ
            split at h
            · rename_i hB
              rw [Bool.and_eq_true] at hB
              exact aw_pdraw hB.1 hB.2 hd ho rfl (key _ _ h)
            · cases h
  · cases h

theorem ycode_sound {sigs : FuncId → List Sig} (hs : ∀ g, ∀ sg ∈ sigs g, SigOK C g sg) {hint : Nat → RH} : ∀ (c : Code) (an : An) {R : Type} (mg : Option R → Option R → Option R) (hmg : MgOK mg) (s : XS) (K : AExit → XS → Option R) (r : R), ycode C sigs hint k n c an mg s K = some r →
    ∀ (post : Exit → Act → World → Prop), (∀ e s', K e s' = some r → Good C B n ds k kn₀ m₀ post e s') → ∀ kn m act w, Sim C B n ds k kn₀ m₀ s kn m act w → c.wp C.P post act w := by
  intro c
  induction c with
  | skip => intro an R mg hmg s K r h post hK kn m act w hS; exact wp_skip (hK _ _ h kn m act w hS _ trivial)
  | label l => intro an R mg hmg s K r h post hK kn m act w hS; exact wp_label (hK _ _ h kn m act w hS _ trivial)
  | exit id => intro an R mg hmg s K r h post hK kn m act w hS; exact wp_exit (hK _ _ h kn m act w hS _ rfl)
  | ret =>
    intro an R mg hmg s K r h post hK kn m act w hS
    obtain ⟨kn', hS'⟩ := frzAll_sound (jsOf s.env an) s kn hS
    exact wp_ret (hK _ _ h kn' m act w hS' _ trivial)
  | seq x y ihx ihy =>
    intro an R mg hmg s K r h post hK kn m act w hS
    have plain : ∀ a b (s : XS) kn, Sim C B n ds k kn₀ m₀ s kn m act w → ycode C sigs hint k n x a mg s (yseqK (fun s' => ycode C sigs hint k n y b mg s' K) K) = some r → (Code.seq x y).wp C.P post act w := fun a b s kn hS h => by
      refine wp_seq (ihx a mg hmg s _ r h _ (fun e s' he => ?_) kn m act w hS)
      cases e with
      | normal => exact good_normal fun kn m act w hS' => ihy b mg hmg s' K r he post hK kn m act w hS'
      | _ => exact good_then (hK _ _ he) (by simp)
    unfold ycode at h
    split at h
    · rename_i full sh a b
      split at h
      · rename_i hkp
        cases full with
        | false =>
          simp only at h
          obtain ⟨l, h1, h2⟩ := Option.bind_eq_some_iff.1 h
          refine wp_seq (ihx a mgC mgC_ok s _ l h1 _ (fun e s' he => ?_) kn m act w hS)
          cases e with
          | normal =>
            refine good_normal fun kn m act w hS' => ?_
            obtain ⟨m', hS2⟩ := norm_sim he hkp hS'
            exact ihy b mg hmg _ K r h2 post hK kn m' act w hS2
          | _ => cases he
        | true =>
          simp only at h
          obtain ⟨q, h1, h2⟩ := Option.bind_eq_some_iff.1 h
          refine wp_seq (ihx a mgC mgC_ok s _ q h1 _ (fun e s' he => ?_) kn m act w hS)
          cases e with
          | normal =>
            obtain ⟨l, hl, rfl⟩ := Option.map_eq_some_iff.1 he
            refine good_normal fun kn m act w hS' => ?_
            obtain ⟨m', hS2⟩ := norm_sim hl hkp hS'
            exact ihy b mg hmg _ K r h2 post hK kn m' act w hS2
          | _ =>
            obtain ⟨r', hr', rfl⟩ := Option.map_eq_some_iff.1 he
            cases h2
            exact good_then (hK _ _ hr') (by simp)
      · cases h
    · rename_i keep a b
      obtain ⟨q, h1, h2⟩ := Option.bind_eq_some_iff.1 h
      refine wp_seq (ihx a (mgX mg) (mgX_ok hmg) s _ q h1 _ (fun e s' he => ?_) kn m act w hS)
      cases e with
      | normal =>
        have he : fcXS ⟨clrE keep 0 s'.env, s'.σ, s'.nx⟩ (fun s' => some (Step.next s')) = some q := he
        rw [fcXS_eq] at he
        cases he
        exact good_normal fun kn m act w hS' => ihy b mg hmg _ K r h2 post hK kn m act w (clr_sim hS')
      | _ =>
        obtain ⟨r', hr', rfl⟩ := Option.map_eq_some_iff.1 he
        cases h2
        exact good_then (hK _ _ hr') (by simp)
    · exact plain _ _ s kn hS h
    · rename_i js a
      obtain ⟨kn', hS'⟩ := frzAll_sound js s kn hS
      exact plain _ _ _ kn' hS' h
    · rename_i ts a
      obtain ⟨kn', hS'⟩ := frzAll_sound (jsOf s.env (.frzt ts a)) s kn hS
      exact plain _ _ _ kn' hS' h
    · exact plain _ _ s kn hS h
  | cond o x y ihx ihy =>
    intro an R mg hmg s K r h post hK kn m act w hS
    unfold ycode at h
    split at h
    · rename_i b hb
      have hr := rel_opv hS.inv hS.env o
      rw [hb] at hr
      generalize hv : act.eval o = v at hr
      cases hr
      refine wp_cond hv ?_
      have key : ∀ a a', cond b (ycode C sigs hint k n x a mg s K) (ycode C sigs hint k n y a' mg s K) = some r → (if b = true then x else y).wp C.P post act w := fun a a' h => by
        cases b with
        | true => exact ihx a mg hmg s K r h post hK kn m act w hS
        | false => exact ihy a' mg hmg s K r h post hK kn m act w hS
      split at h
      · have := key _ _ h; cases b <;> exact this
      · have := key _ _ h; cases b <;> exact this
    · cases h
  | block id c ih =>
    intro an R mg hmg s K r h post hK kn m act w hS
    have key : ∀ a, ycode C sigs hint k n c a mg s (blockK id K) = some r → (Code.block id c).wp C.P post act w := fun a h => by
      refine wp_block (ih a mg hmg s _ r h _ (fun e s' he => ?_) kn m act w hS)
      cases e with
      | exit i =>
        have he : (if i = id then K .normal s' else K (.exit i) s') = some r := he
        intro kn m act w hS' ce hx
        cases ce <;> first | exact hx.elim | skip
        have hx : i = _ := hx
        subst hx
        simp only [Exit.inBlock]
        split at he
        · rename_i e; rw [if_pos e]; exact hK _ _ he kn m act w hS' _ trivial
        · rename_i e; rw [if_neg e]; exact hK _ _ he kn m act w hS' _ rfl
      | normal => intro kn m act w hS' ce hx; cases ce <;> first | exact hK _ _ he kn m act w hS' _ hx | exact hx.elim
      | goto l => intro kn m act w hS' ce hx; cases ce <;> first | exact hK _ _ he kn m act w hS' _ hx | exact hx.elim
      | ret => intro kn m act w hS' ce hx; cases ce <;> first | exact hK _ _ he kn m act w hS' _ hx | exact hx.elim
      | pan v => intro kn m act w hS' u hu; exact hK _ _ he kn m act w hS' u hu
    unfold ycode at h
    split at h
    · exact key _ h
    · exact key _ h
  | loop c ih =>
    intro an R mg hmg s K r h post hK kn m act w hS
    unfold ycode at h
    split at h
    · rename_i sh a
      split at h
      · rename_i hkp
        obtain ⟨l0, hl0, h⟩ := Option.bind_eq_some_iff.1 h
        obtain ⟨d, hd⟩ := loopM_iff.1 h
        refine wp_loop_rel (fun d act w => ∃ s kn m l, Sim C B n ds k kn₀ m₀ s kn m act w ∧ absS sh s = some l ∧ iterM (fun l => ycode C sigs hint k n c a mgC (patS k n sh l) (joinF (absS sh) K)) d l = some r) ?_ (d := d) ⟨s, kn, m, l0, hS, hl0, hd⟩
        rintro d act w ⟨s, kn, m, l, hS, hl, hit⟩
        cases d with
        | zero => cases hit
        | succ d =>
          obtain ⟨m', hS'⟩ := norm_sim hl hkp hS
          simp only [iterM] at hit
          split at hit
          · rename_i l' hb
            refine ih a mgC mgC_ok _ _ _ hb _ (fun e s' he => ?_) kn m' act w hS'
            cases e with
            | normal =>
              obtain ⟨l2, hl2, e2⟩ := Option.map_eq_some_iff.1 he
              cases e2
              exact good_normal fun kn m act w hS2 => ⟨d, Nat.lt_succ_self d, s', kn, m, _, hS2, hl2, hit⟩
            | _ => obtain ⟨r', _, e2⟩ := Option.map_eq_some_iff.1 he; cases e2
          · rename_i r' hb
            cases hit
            refine ih a mgC mgC_ok _ _ _ hb _ (fun e s' he => ?_) kn m' act w hS'
            cases e with
            | normal => obtain ⟨l2, hl2, e2⟩ := Option.map_eq_some_iff.1 he; cases e2
            | _ =>
              obtain ⟨r', hr', e2⟩ := Option.map_eq_some_iff.1 he
              cases e2
              exact good_then (hK _ _ hr') (by simp)
          · cases hit
      · cases h
    · rename_i d a
      refine wp_loop_rel (fun d act w => ∃ s kn m, Sim C B n ds k kn₀ m₀ s kn m act w ∧ unrollM (fun s K => ycode C sigs hint k n c a mg s K) d s K = some r) ?_ (d := d) ⟨s, kn, m, hS, h⟩
      rintro d act w ⟨s, kn, m, hS, hit⟩
      cases d with
      | zero => cases hit
      | succ d =>
        refine ih a mg hmg s _ r hit _ (fun e s' he => ?_) kn m act w hS
        cases e with
        | normal => exact good_normal fun kn m act w hS2 => ⟨d, Nat.lt_succ_self d, s', kn, m, hS2, he⟩
        | _ => exact good_then (hK _ _ he) (by simp)
    · cases h
  | region id ops draws =>
    intro an R mg hmg s K r h post hK kn m act w hS
    unfold ycode at h
    obtain ⟨kn', hS'⟩ := frzAll_sound (jsOf s.env an) s kn hS
    exact yregion_sound hs hmg h hK hS'
  | _ => intro an R mg hmg s K r h; simp [ycode] at h
end
end Go.Ab

/-
  FUNCTIONS THAT RUN on plain data; tables of signatures.
-/
set_option linter.unusedVariables false
set_option linter.unusedSimpArgs false
namespace Go.Ab
open Go Go.RowKit

def sigTab : List (Nat × Sig) → FuncId → List Sig
  | [], _ => []
  | (g', s) :: l, g => match Nat.beq g' g with
    | true => s :: sigTab l g
    | false => sigTab l g
def TabOK (C : Cx) : List (Nat × Sig) → Prop
  | [] => True
  | (g, s) :: l => SigOK C g s ∧ TabOK C l
theorem sigTab_ok {C : Cx} : ∀ {l : List (Nat × Sig)}, TabOK C l → ∀ g, ∀ s ∈ sigTab l g, SigOK C g s
  | [], _, g, s, h => by cases h
  | (g', s') :: l, ht, g, s, h => by
    simp only [sigTab] at h
    split at h
    · rename_i e
      have := Nat.eq_of_beq_eq_true e
      subst this
      rcases List.mem_cons.1 h with rfl | h
      · exact ht.1
      · exact sigTab_ok ht.2 _ s h
    · exact sigTab_ok ht.2 g s h

def resY {α : Type} (σ : Sto) (res : Sh) (v : AV) (f : res.den → α) : Option α :=
  match rfB (frzF σ 6 v) with
  | true => match absV [] [] res (frzF σ 6 v) with
    | some (x, _) => some (f x)
    | none => none
  | false => none
def finN (C : Cx) (fn : Func) (res : Sh) : AExit → XS → Option res.den
  | .normal, s => (resA C.P fn.results.toList s.st).bind fun v => resY s.σ res v id
  | .ret, s => (resA C.P fn.results.toList s.st).bind fun v => resY s.σ res v id
  | _, _ => none
def eqS (a b : AV) : Bool :=
  match a, b with
  | .agg [], .agg [] => true
  | .int k n, .int k' n' => decide (k = k') && decide (n = n')
  | .str l, .str l' => decide (l = l')
  | .bool b, .bool b' => decide (b = b')
  | a, b => eqA a b
theorem eqS_sound {a b : AV} (h : eqS a b = true) : a = b ∧ RF a := by
  unfold eqS at h
  split at h
  · exact ⟨rfl, trivial⟩
  · simp only [Bool.and_eq_true, decide_eq_true_eq] at h; obtain ⟨rfl, rfl⟩ := h; exact ⟨rfl, trivial⟩
  · simp only [decide_eq_true_eq] at h; subst h; exact ⟨rfl, trivial⟩
  · simp only [decide_eq_true_eq] at h; subst h; exact ⟨rfl, trivial⟩
  · exact eqA_sound h
def eqP (a b : AV) : Bool :=
  match a, b with
  | .iface t x, .iface t' y => Nat.beq t t' && eqS x y
  | a, b => eqS a b
theorem eqP_sound {a b : AV} (h : eqP a b = true) : a = b ∧ RF a := by
  unfold eqP at h
  split at h
  · simp only [Bool.and_eq_true] at h
    obtain ⟨rfl, h2⟩ := eqS_sound h.2
    exact ⟨by rw [Nat.eq_of_beq_eq_true h.1], h2⟩
  · exact eqS_sound h
def finP (C : Cx) (fn : Func) (res : Sh) (pv : AV) : AExit → XS → Option (Out res.den)
  | .normal, s => (resA C.P fn.results.toList s.st).bind fun v => resY s.σ res v .ret
  | .ret, s => (resA C.P fn.results.toList s.st).bind fun v => resY s.σ res v .ret
  | .pan v, s => match eqP (frzF s.σ 6 v) pv with
    | true => some .pan
    | false => none
  | _, _ => none
noncomputable def yfunM (C : Cx) (sigs : FuncId → List Sig) (hint : Nat → RH) (g : FuncId) {R : Type} (mg : Option R → Option R → Option R) (fin : Func → AExit → XS → Option R) (args : List Sh) (an : An) (x : Sh.denL args) : Option R :=
  match C.P.funcs[g]? with
  | none => none
  | some fn => match fn.body with
    | none => none
    | some c => if ((fn.name == "runtime.NumGoroutine") = false ∧ args.length ≤ fn.ntmps) then ycode C sigs hint 0 fn.ntmps c an mg ⟨patL ρ0 args x ++ List.replicate (fn.ntmps - args.length) .undef, [], 0⟩ (fin fn) else none

noncomputable abbrev yfun (C : Cx) (sigs : FuncId → List Sig) (hint : Nat → RH) (g : FuncId) {R : Type} (fin : Func → AExit → XS → Option R) (args : List Sh) (an : An) (x : Sh.denL args) : Option R := yfunM C sigs hint g mgC fin args an x

theorem patL_len (ρ : Pl) : ∀ (l : List Sh) (x : Sh.denL l), (patL ρ l x).length = l.length
  | [], _ => rfl
  | s :: l, x => by show (patL ρ l x.2).length + 1 = _; rw [patL_len ρ l x.2]; rfl
theorem xenv_args (args : List AV) (k : Nat) : xenv (args ++ List.replicate k .undef) = argEnv args := by
  funext t
  simp only [xenv, argEnv, List.getD_eq_getElem?_getD, List.getElem?_append]
  split
  · rfl
  · rename_i h
    rw [List.getElem?_eq_none (Nat.le_of_not_lt h), List.getElem?_replicate]
    split <;> rfl
theorem resY_sound {α : Type} {σ : Sto} {res : Sh} {v : AV} {f : res.den → α} {a : α} (h : resY σ res v f = some a) : ∃ x, a = f x ∧ RF (frzF σ 6 v) ∧ ∀ kn u, Rel kn m0 (frzF σ 6 v) u → Rel kn m0 (patV ρ0 res x) u := by
  unfold resY at h
  split at h
  · rename_i hr
    split at h
    · rename_i x β hx
      cases h
      refine ⟨x, rfl, rfB_sound _ hr, fun kn u hu => ?_⟩
      obtain ⟨h1, h2⟩ := absV_ok (kn := kn) (m := m0) res [] β _ x hx
      obtain ⟨h3, h4⟩ := h2 u hu
      have hv := h3 ⟨fun j b e => by simp [bget] at e, fun j p nm e => by simp [bget] at e, fun j j' p nm nm' e => by simp [bget] at e⟩
      exact h4 m0 ρ0 (fun j b e => by have := hv.dom j b e; simp at this)
    · cases h
  · cases h

/-- What a body owes that writes nothing of others. -/
theorem yfun_sound {C : Cx} {sigs : FuncId → List Sig} (hs : ∀ g, ∀ sg ∈ sigs g, SigOK C g sg) {hint : Nat → RH} {g : FuncId} {R : Type} {mg : Option R → Option R → Option R} (hmg : MgOK mg) {fin : Func → AExit → XS → Option R} {args : List Sh} {an : An} {x : Sh.denL args} {r : R} {Q : AOut → Prop}
    (h : yfunM C sigs hint g mg fin args an x = some r)
    (hfin : ∀ (fn : Func) (s : XS), (∀ e, (e = .normal ∨ e = .ret) → fin fn e s = some r → ∃ v, resA C.P fn.results.toList s.st = some v ∧ RF (frzF s.σ 6 v) ∧ ∃ x, Q (.ret x) ∧ ∀ kn u, Rel kn m0 (frzF s.σ 6 v) u → Rel kn m0 x u) ∧
      (∀ v, fin fn (.pan v) s = some r → RF (frzF s.σ 6 v) ∧ Q (.pan (frzF s.σ 6 v))) ∧ (∀ i, fin fn (.exit i) s ≠ some r) ∧ ∀ i, fin fn (.goto i) s ≠ some r) : PCall C g (patL ρ0 args x) Q := by
  unfold yfunM at h
  split at h
  · cases h
  · rename_i fn hf
    split at h
    · cases h
    · rename_i c hb
      split at h
      · rename_i hc
        obtain ⟨hname, hn⟩ := hc
        refine fun kn w vs hk hr => .inl ⟨bodyOK_mk hf hb hname, ?_⟩
        let B : Base := ⟨w, kn, fun _ => False⟩
        have hI : Inv C B kn m0 [] 0 w := ⟨hk.ok, Nat.le_refl _, rfl, rfl, rfl, fun _ _ _ => ⟨rfl, rfl⟩, fun p nm ob e => by simp at e, fun p nm ob loc e => by simp at e, fun p nm ob loc p' nm' ob' loc' e => by simp at e, fun _ _ => rfl, fun p nm ob e => by simp at e, fun p p' nm ob ob' e => by simp at e, hk.glob⟩
        have hn' : (patL ρ0 args x).length ≤ fn.ntmps := by rw [patL_len]; exact hn
        have hS : Sim C B fn.ntmps [] 0 kn m0 ⟨patL ρ0 args x ++ List.replicate (fn.ntmps - args.length) .undef, [], 0⟩ kn m0 { tmps := vs.toArray ++ Array.replicate (fn.ntmps - vs.toArray.size) undef, defers := [] } w :=
          ⟨by rw [xenv_args]; exact argEnv_rel hr hn', rfl, hI, KnLe.refl _, Nat.le_refl _, fun i hi => absurd hi (by omega), fun i hi => absurd hi (by omega)⟩
        refine calls_of_wp hf hb (ycode_sound hs c an mg hmg _ _ r h _ (fun e s he => ?_) kn m0 _ w hS)
        obtain ⟨f1, f2, f3, f4⟩ := hfin fn s
        have after : ∀ kn' m' act' w', Inv C B kn' m' s.σ s.nx w' → (∀ (x : AV) (v : Value), Rel kn' m' x v → RF (frzF s.σ 6 x) → Rel (knAll kn' w.heap.size w') m0 (frzF s.σ 6 x) v) ∧ Below w.heap.size w w' ∧ KnOK C (knAll kn' w.heap.size w') w' ∧ ∀ b, b < w.heap.size → knAll kn' w.heap.size w' b = kn b := fun kn' m' (act' : Act) w' hI' => by
          refine ⟨fun x v hr hf => (frz_sound hI' (fun _ h => h) 6 x v hr).rf hf m0, ⟨hI'.os, hI'.tape, hI'.output, hI'.size, fun k hk => (hI'.old k hk (fun h => h)).1⟩, ⟨fun b o v e => ?_, fun g => ((hI'.glob g).mono (knAll_le hI' _) (MpLe.refl _)).rf (C.rf g) m0⟩, fun b hb => ?_⟩
          · unfold knAll at e
            split at e
            · exact hI'.knok b o v e
            · exact e
          · funext o
            unfold knAll
            rw [if_pos hb]
            rw [(hI'.old b hb (fun h => h)).2]
        cases e with
        | normal =>
          obtain ⟨v, q1, q2, y, q3, q4⟩ := f1 _ (.inl rfl) he
          intro kn' m' act' w' hS' ce hx
          cases ce <;> first | exact hx.elim | skip
          obtain ⟨a1, a2, a3, a4⟩ := after kn' m' act' w' hS'.inv
          obtain ⟨u, p1, p2⟩ := results_sound (s := s.st) hS'.inv hS'.env q1
          exact ⟨hS'.defs, u, p1, .ret y, knAll kn' w.heap.size w', q3, q4 _ _ (a1 v u p2 q2), a3, a2, a4⟩
        | ret =>
          obtain ⟨v, q1, q2, y, q3, q4⟩ := f1 _ (.inr rfl) he
          intro kn' m' act' w' hS' ce hx
          cases ce <;> first | exact hx.elim | skip
          obtain ⟨a1, a2, a3, a4⟩ := after kn' m' act' w' hS'.inv
          obtain ⟨u, p1, p2⟩ := results_sound (s := s.st) hS'.inv hS'.env q1
          exact ⟨hS'.defs, u, p1, .ret y, knAll kn' w.heap.size w', q3, q4 _ _ (a1 v u p2 q2), a3, a2, a4⟩
        | exit i => exact absurd he (f3 i)
        | goto i => exact absurd he (f4 i)
        | pan v =>
          obtain ⟨q1, q2⟩ := f2 v he
          intro kn' m' act' w' hS' u hu
          obtain ⟨a1, a2, a3, a4⟩ := after kn' m' act' w' hS'.inv
          exact ⟨hS'.defs, .pan (frzF s.σ 6 v), knAll kn' w.heap.size w', q2, ⟨u, rfl, a1 v u hu q1⟩, a3, a2, a4⟩
      · cases h

/-- **A function that runs is what it comes to.** -/
theorem sigN_of {C : Cx} {l : List (Nat × Sig)} (ht : TabOK C l) {hint : Nat → RH} {g : FuncId} {args : List Sh} {res : Sh} {an : An} {f : Sh.denL args → Option res.den}
    (h : ∀ x, yfun C (sigTab l) hint g (fun fn => finN C fn res) args an x = f x) : SigOK C g (.n args res f) := fun x r hr =>
  yfun_sound (sigTab_ok ht) mgC_ok ((h x).trans hr) fun fn s => ⟨fun e he hf => by
    have hf' : (resA C.P fn.results.toList s.st).bind (fun v => resY s.σ res v id) = some r := by rcases he with rfl | rfl <;> exact hf
    obtain ⟨v, h1, h2⟩ := Option.bind_eq_some_iff.1 hf'
    obtain ⟨y, rfl, h3, h4⟩ := resY_sound h2
    exact ⟨v, h1, h3, _, rfl, h4⟩, (fun v hv => by cases hv), (fun i hi => by cases hi), (fun i hi => by cases hi)⟩
theorem sigP_of {C : Cx} {l : List (Nat × Sig)} (ht : TabOK C l) {hint : Nat → RH} {g : FuncId} {args : List Sh} {res : Sh} {pv : AV} {an : An} {f : Sh.denL args → Option (Out res.den)}
    (h : ∀ x, yfun C (sigTab l) hint g (fun fn => finP C fn res pv) args an x = f x) : SigOK C g (.p args res pv f) := fun x r hr =>
  yfun_sound (sigTab_ok ht) mgC_ok ((h x).trans hr) fun fn s => ⟨fun e he hf => by
    have hf' : (resA C.P fn.results.toList s.st).bind (fun v => resY s.σ res v .ret) = some r := by rcases he with rfl | rfl <;> exact hf
    obtain ⟨v, h1, h2⟩ := Option.bind_eq_some_iff.1 hf'
    obtain ⟨y, rfl, h3, h4⟩ := resY_sound h2
    exact ⟨v, h1, h3, _, rfl, h4⟩, (fun v hv => by
      have hv : (match eqP (frzF s.σ 6 v) pv with
        | true => some .pan
        | false => none) = some r := hv
      split at hv
      · rename_i hrf; cases hv; obtain ⟨h1, h2⟩ := eqP_sound hrf; exact ⟨h2, by rw [h1]⟩
      · cases hv), (fun i hi => by cases hi), (fun i hi => by cases hi)⟩
/-- What is known to come of it. -/
theorem SigOK.spec {C : Cx} {g : FuncId} {args : List Sh} {res : Sh} {f f' : Sh.denL args → Option res.den} (h : SigOK C g (.n args res f)) (hf : ∀ x r, f' x = some r → f x = some r) : SigOK C g (.n args res f') := fun x r hr => h x r (hf x r hr)
theorem SigOK.specK {C : Cx} {g : FuncId} {args : List Sh} {res : Sh} {f : Nat → Sh.denL args → Option res.den} {f' : Sh.denL args → Option res.den} (h : ∀ k, SigOK C g (.n args res (f k))) (hf : ∀ x r, f' x = some r → ∃ k, f k x = some r) : SigOK C g (.n args res f') := fun x r hr => by
  obtain ⟨k, hk⟩ := hf x r hr; exact h k x r hk
end Go.Ab

/-
  FUNCTIONS THAT RUN on objects that they are given.
-/
set_option linter.unusedVariables false
set_option linter.unusedSimpArgs false
namespace Go.Ab
open Go Go.RowKit

def pairD {res : Sh} {post : Slots} (d : SS.den ⟨[(0, res)], post⟩) : res.den × denO post := (d.1.1, d.2)
def finV (C : Cx) (fn : Func) (res : Sh) (post : Slots) (s : XS) : Option (res.den × denO post) :=
  (resA C.P fn.results.toList s.st).bind fun v => match absS ⟨[(0, res)], post⟩ ⟨[v], s.σ, s.nx⟩ with
    | some d => some (pairD d)
    | none => none
def finO (C : Cx) (fn : Func) (res : Sh) (post : Slots) : AExit → XS → Option (res.den × denO post)
  | .normal, s => finV C fn res post s
  | .ret, s => finV C fn res post s
  | _, _ => none
noncomputable def yfunO (C : Cx) (sigs : FuncId → List Sig) (hint : Nat → RH) (g : FuncId) (pre : Slots) (args : List Sh) (post : Slots) (res : Sh) (an : An) (x : Sh.denL args × denO pre) : Option (res.den × denO post) :=
  match C.P.funcs[g]? with
  | none => none
  | some fn => match fn.body with
    | none => none
    | some c => if ((fn.name == "runtime.NumGoroutine") = false ∧ args.length ≤ fn.ntmps) then
        ycode C sigs hint pre.length fn.ntmps c an mgC ⟨patL (plO 0 pre x.2) args x.1 ++ List.replicate (fn.ntmps - args.length) .undef, osto 0 pre x.2, 0 + pre.length⟩ (finO C fn res post) else none
theorem finV_sound {C : Cx} {B : Base} {n : Nat} {k : Nat} {kn₀ kn : Kn} {m₀ m : Mp} {fn : Func} {res : Sh} {post : Slots} {s : XS} {r : res.den × denO post} {act : Act} {w : World} (hkeep : keepB k 0 post = true) (h : finV C fn res post s = some r)
    (hS : Sim C B n [] k kn₀ m₀ s kn m act w) : ∃ u, (results fn act.tmps).run C.P w = .ok u w ∧ ∃ m', Inv C B kn m' (osto k post r.2) (k + post.length) w ∧ (∀ i, i < k → m' i = m₀ i) ∧ (∀ j, j < post.length → ∃ loc, m' (nameOf k j post) = some loc) ∧ Rel kn m' (patV (plO k post r.2) res r.1) u := by
  obtain ⟨v, h1, h2⟩ := Option.bind_eq_some_iff.1 h
  split at h2
  · rename_i d hd
    cases h2
    obtain ⟨u, p1, p2⟩ := results_sound (s := s.st) hS.inv hS.env h1
    have hE : RelEnv kn m (xenv [v]) 1 { tmps := #[u], defers := [] } := ⟨rfl, fun t => by
      cases t with
      | zero => exact p2
      | succ t => exact .base _⟩
    obtain ⟨m', q1, q2, q3, q4⟩ := norm_sound (n := 1) hd hkeep hS.inv hE hS.lay
    exact ⟨u, p1, m', q1, fun i hi => (q3 i hi).trans (hS.base i hi), q4, q2.tmp 0⟩
  · cases h2
/-- **A function that runs on objects is what it comes to.** -/
theorem sigO_of {C : Cx} {l : List (Nat × Sig)} (ht : TabOK C l) {hint : Nat → RH} {g : FuncId} {pre post : Slots} {args : List Sh} {res : Sh} {an : An} {f : Sh.denL args × denO pre → Option (res.den × denO post)} (hok : (OSig.mk pre args post res f).ok = true)
    (h : ∀ x, yfunO C (sigTab l) hint g pre args post res an x = f x) : SigOK C g (.o ⟨pre, args, post, res, f⟩) := by
  refine ⟨hok, fun x r hr B kn m w vs hI hlay hargs => ?_⟩
  simp only [OSig.ok, Bool.and_eq_true] at hok
  obtain ⟨hnew, hkeep, hslots, hres⟩ := hok
  have h := (h x).trans hr
  unfold yfunO at h
  split at h
  · cases h
  · rename_i fn hf
    split at h
    · cases h
    · rename_i c hb
      split at h
      · rename_i hc
        obtain ⟨hname, hn⟩ := hc
        refine .inl ⟨bodyOK_mk hf hb hname, ?_⟩
        have hn' : (patL (plO 0 pre x.2) args x.1).length ≤ fn.ntmps := by rw [patL_len]; exact hn
        have hS : Sim C B fn.ntmps [] pre.length kn m ⟨patL (plO 0 pre x.2) args x.1 ++ List.replicate (fn.ntmps - args.length) .undef, osto 0 pre x.2, 0 + pre.length⟩ kn m { tmps := vs.toArray ++ Array.replicate (fn.ntmps - vs.toArray.size) undef, defers := [] } w :=
          ⟨by rw [xenv_args]; exact argEnv_rel hargs hn', rfl, hI, KnLe.refl _, by show pre.length ≤ 0 + pre.length; omega, fun i hi => rfl, hlay⟩
        refine calls_of_wp hf hb (ycode_sound (sigTab_ok ht) c an mgC mgC_ok _ _ r h _ (fun e s he => ?_) kn m _ w hS)
        cases e with
        | normal =>
          intro kn' m' act' w' hS' ce hx
          cases ce <;> first | exact hx.elim | skip
          obtain ⟨u, p1, m'', q1, q2, q3, q4⟩ := finV_sound hkeep he hS'
          exact ⟨hS'.defs, u, p1, kn', m'', hS'.le, q1, q2, q3, q4⟩
        | ret =>
          intro kn' m' act' w' hS' ce hx
          cases ce <;> first | exact hx.elim | skip
          obtain ⟨u, p1, m'', q1, q2, q3, q4⟩ := finV_sound hkeep he hS'
          exact ⟨hS'.defs, u, p1, kn', m'', hS'.le, q1, q2, q3, q4⟩
        | exit i => cases he
        | goto i => cases he
        | pan v => cases he
      · cases h
end Go.Ab

/-
  The program.
-/
set_option linter.unusedVariables false
set_option linter.unusedSimpArgs false
set_option maxRecDepth 100000
namespace Go.Ab
open Go Go.RowKit Go.Proofs
noncomputable def CX : Cx := ⟨Tryz.prog, fun _ => .any, fun _ => trivial⟩
@[go_sem] theorem CX_P : CX.P = Tryz.prog := rfl
def Fm.eta (f : Fm) : Fm := .mk f.k f.n f.t f.l
theorem Fm.eta_eq (f : Fm) : f.eta = f := by cases f; rfl
theorem w64 {n : Int} (h1 : -9223372036854775808 ≤ n) (h2 : n ≤ 9223372036854775807) : IntKind.wrap .i64 n = n := by rw [IntKind.wrap_i64]; omega
/-! names for checks -/
def ixOK (i : Int) (n : Nat) : Bool := decide (0 ≤ i ∧ i < (n : Int))
def slOK (lo hi : Int) (n : Nat) : Bool := decide (0 ≤ lo ∧ lo ≤ hi ∧ hi ≤ (n : Int))
def hiOK (hi : Int) (n : Nat) : Bool := decide (0 ≤ hi ∧ hi ≤ (n : Int))
theorem ixOK_iff {i : Int} {n : Nat} : ixOK i n = true ↔ 0 ≤ i ∧ i < (n : Int) := by unfold ixOK; exact decide_eq_true_iff
theorem slOK_iff {lo hi : Int} {n : Nat} : slOK lo hi n = true ↔ 0 ≤ lo ∧ lo ≤ hi ∧ hi ≤ (n : Int) := by unfold slOK; exact decide_eq_true_iff
theorem hiOK_iff {hi : Int} {n : Nat} : hiOK hi n = true ↔ 0 ≤ hi ∧ hi ≤ (n : Int) := by unfold hiOK; exact decide_eq_true_iff
/-! bounds on rounds -/
def Le {R : Type} (p q : Option R) : Prop := ∀ r, p = some r → q = some r
theorem Le.refl {R : Type} (p : Option R) : Le p p := fun _ h => h
theorem Le.cond {R : Type} {c : Bool} {a b a' b' : Option R} (h : Le a a') (k : Le b b') : Le (cond c a b) (cond c a' b') := by cases c; exact k; exact h
theorem Le.bind {A R : Type} {a a' : Option A} {f f' : A → Option R} (h : Le a a') (k : ∀ x, Le (f x) (f' x)) : Le (Option.bind a f) (Option.bind a' f') := fun r e => by
  obtain ⟨x, h1, h2⟩ := Option.bind_eq_some_iff.1 e
  exact Option.bind_eq_some_iff.2 ⟨x, h x h1, k x r h2⟩
theorem Le.map {A R : Type} {a a' : Option A} {f : A → R} (h : Le a a') : Le (Option.map f a) (Option.map f a') := fun r e => by
  obtain ⟨x, h1, rfl⟩ := Option.map_eq_some_iff.1 e
  exact Option.map_eq_some_iff.2 ⟨x, h x h1, rfl⟩
def iterE (d : Nat) {L R : Type} (b : L → Option (Step L R)) (l : L) : Option R := iterM b d l
theorem Le.loop {L R : Type} {b b' : L → Option (Step L R)} {d : Nat} (h : ∀ l, Le (b l) (b' l)) (l : L) : Le (iterE d b l) (loopM b' l) := fun r e => by
  refine loopM_iff.2 ⟨d, ?_⟩
  unfold iterE at e
  revert l
  induction d with
  | zero => intro l e; cases e
  | succ d ih =>
    intro l e
    simp only [iterM] at e ⊢
    cases hb : b l with
    | none => rw [hb] at e; cases e
    | some q =>
      rw [hb] at e
      rw [h l q hb]
      cases q with
      | next l' => exact ih l' e
      | done r' => exact e
/-! what a function with a bound on its depth comes to with some bound -/
noncomputable def limF {R : Type} (f : Nat → Option R) : Option R :=
  match Classical.propDecidable (∃ r k, f k = some r) with
  | .isTrue h => some (Classical.choose h)
  | .isFalse _ => none
theorem limF_ex {R : Type} {f : Nat → Option R} {r : R} (h : limF f = some r) : ∃ k, f k = some r := by
  unfold limF at h
  split at h
  · rename_i h' e; cases h; exact Classical.choose_spec h'
  · cases h
theorem limF_eq {R : Type} {f : Nat → Option R} {r : R} (h : ∃ k, f k = some r) (u : ∀ k r', f k = some r' → r' = r) : limF f = some r := by
  cases hx : limF f with
  | some r' => obtain ⟨k, hk⟩ := limF_ex hx; rw [u k r' hk]
  | none =>
    unfold limF at hx
    split at hx
    · cases hx
    · rename_i h' e; exact absurd ⟨r, h⟩ h'
theorem SigOK.limN {C : Cx} {g : FuncId} {args : List Sh} {res : Sh} {f : Nat → Sh.denL args → Option res.den} {f' : Sh.denL args → Option res.den} (h : ∀ k, SigOK C g (.n args res (f k))) (hf : ∀ x r, f' x = some r → ∃ k, f k x = some r) : SigOK C g (.n args res f') := SigOK.specK h hf
theorem SigOK.limP {C : Cx} {g : FuncId} {args : List Sh} {res : Sh} {pv : AV} {f : Nat → Sh.denL args → Option (Out res.den)} {f' : Sh.denL args → Option (Out res.den)} (h : ∀ k, SigOK C g (.p args res pv (f k))) (hf : ∀ x r, f' x = some r → ∃ k, f k x = some r) : SigOK C g (.p args res pv f') := fun x r hr => by
  obtain ⟨k, hk⟩ := hf x r hr; exact h k x r hk
theorem SigOK.limO {C : Cx} {g : FuncId} {pre post : Slots} {args : List Sh} {res : Sh} {f : Nat → Sh.denL args × denO pre → Option (res.den × denO post)} {f' : Sh.denL args × denO pre → Option (res.den × denO post)} (h : ∀ k, SigOK C g (.o ⟨pre, args, post, res, f k⟩)) (hf : ∀ x r, f' x = some r → ∃ k, f k x = some r) : SigOK C g (.o ⟨pre, args, post, res, f'⟩) :=
  ⟨(h 0).1, fun x r hr => by obtain ⟨k, hk⟩ := hf x r hr; exact (h k).2 x r hk⟩
end Go.Ab

/-
  TEXTS: the contracts of the functions of the packages strings and bytealg that the reader uses.
-/
set_option linter.unusedVariables false
set_option linter.unusedSimpArgs false
set_option maxRecDepth 100000
namespace Go.Ab
open Go Go.RowKit Go.Proofs

@[go_sem] theorem ofVal_string (l : List UInt8) : ofVal (.string ⟨l.toArray⟩) = .str l := by simp [ofVal]

theorem hasPrefix_call (s p : List UInt8) : PCall CX 230 [.str s, .str p] (· = .ret (.bool (decide (p.length ≤ s.length ∧ s.take p.length = p)))) := by
  refine pcall_mk 0 18 [.tmp 4] Tryz.func230 rfl (by decide) rfl rfl rfl ?_
  refine aw_sreg {} rfl rfl fun K KP hK hP => ?_
  simp only [go_sem, ↓reduceIte]
  apply hK; clear hK hP
  by_cases c1 : p.length ≤ s.length
  ·
    refine aw_sreg {} rfl rfl fun K KP hK hP => ?_
    simp only [go_sem, ↓reduceIte, c1]
    apply hK; clear hK hP
    refine aw_ret ?_
    simp only [go_sem, ↓reduceIte, c1, athen_ret] <;> (
      simp [c1])
  ·
    refine aw_sreg {} rfl rfl fun K KP hK hP => ?_
    simp only [go_sem, ↓reduceIte, c1]
    apply hK; clear hK hP
    refine aw_ret ?_
    simp only [go_sem, ↓reduceIte, c1, athen_ret] <;> (
      simp [c1])
theorem slTrimPrefix_call (s p : List UInt8) : PCall CX 202 [.str s, .str p] (· = .ret (.str (if p.length ≤ s.length ∧ s.take p.length = p then s.drop p.length else s))) := by
  refine pcall_mk 0 13 [.tmp 4] Tryz.func202 rfl (by decide) rfl rfl rfl ?_
  refine aw_sreg {} rfl rfl fun K KP hK hP => ?_
  simp only [go_sem, ↓reduceIte]
  apply hK; clear hK hP
  refine aw_seq ?_
  refine aw_sreg {} rfl rfl fun K KP hK hP => ?_
  simp only [go_sem, ↓reduceIte]
  refine CallP.ret (hasPrefix_call s p) (by simp only [go_sem]) ?_
  try simp only [go_sem, ↓reduceIte]
  apply hK; clear hK hP
  refine aw_if (p.length ≤ s.length ∧ s.take p.length = p) (by simp only [go_sem, ↓reduceIte]) (fun h1 => ?_) (fun h1 => ?_)
  ·
    refine aw_sreg {} rfl rfl fun K KP hK hP => ?_
    simp only [go_sem, ↓reduceIte, h1.1]
    apply hK; clear hK hP
    refine aw_ret ?_
    refine athen_ret.2 ?_
    simp only [go_sem, ↓reduceIte, athen_ret] <;> (
      rw [if_pos h1]; try (rw [List.take_of_length_le (by simp)]))
  ·
    refine aw_skip ?_
    refine athen_normal.2 ?_
    refine aw_sreg {} rfl rfl fun K KP hK hP => ?_
    simp only [go_sem, ↓reduceIte]
    apply hK; clear hK hP
    refine aw_ret ?_
    simp only [go_sem, ↓reduceIte, athen_ret] <;> (
      rw [if_neg h1])
theorem trimPrefix_call (s p : List UInt8) : PCall CX 182 [.str s, .str p] (· = .ret (.str (if p.length ≤ s.length ∧ s.take p.length = p then s.drop p.length else s))) := by
  refine pcall_mk 0 8 [.tmp 4] Tryz.func182 rfl (by decide) rfl rfl rfl ?_
  refine aw_sreg {} rfl rfl fun K KP hK hP => ?_
  simp only [go_sem, ↓reduceIte]
  apply hK; clear hK hP
  refine aw_sreg {} rfl rfl fun K KP hK hP => ?_
  simp only [go_sem, ↓reduceIte]
  refine CallP.ret (slTrimPrefix_call s p) (by simp only [go_sem]) ?_
  try simp only [go_sem, ↓reduceIte]
  apply hK; clear hK hP
  refine aw_ret ?_
  simp only [go_sem, ↓reduceIte, athen_ret]

/-! ### Sets of bytes -/
def setA (l : List UInt8) : List AV := (List.range 256).map fun c => .bool (decide (UInt8.ofNat c ∈ l))
@[go_sem] theorem length_setA (l : List UInt8) : (setA l).length = 256 := by simp [setA]
theorem setA_nil : setA [] = List.replicate 256 (.bool false) := by kernel_rfl
theorem setA_drop (l : List UInt8) (c : UInt8) : ((setA l).drop c.toNat).head? = some (.bool (decide (c ∈ l))) := by
  have hc : c.toNat < 256 := c.toNat_lt
  rw [List.head?_drop]
  simp [setA, hc]
theorem setA_get (l : List UInt8) (k : Nat) (h : k < 256) : (setA l)[k]? = some (.bool (decide (UInt8.ofNat k ∈ l))) := by simp [setA, h]
theorem setA_put (l : List UInt8) (c : UInt8) : (setA l).take c.toNat ++ .bool true :: (setA l).drop (c.toNat + 1) = setA (l ++ [c]) := by
  have hc : c.toNat < 256 := c.toNat_lt
  apply List.ext_getElem?
  intro k
  rcases Nat.lt_or_ge k 256 with hk | hk
  · rw [setA_get _ _ hk]
    rcases Nat.lt_trichotomy k c.toNat with h | h | h
    · rw [List.getElem?_append_left (by simp [length_setA]; omega), List.getElem?_take, if_pos h, setA_get _ _ hk]
      have : UInt8.ofNat k ≠ c := fun e => by
        have := congrArg UInt8.toNat e
        simp at this; omega
      simp [this]
    · subst h
      rw [List.getElem?_append_right (by simp [length_setA] <;> omega), show c.toNat - ((setA l).take c.toNat).length = 0 by simp [length_setA] <;> omega]
      simp
    · rw [List.getElem?_append_right (by simp [length_setA]; omega)]
      have e : k - ((setA l).take c.toNat).length = (k - c.toNat - 1) + 1 := by simp [length_setA]; omega
      rw [e, List.getElem?_cons_succ, List.getElem?_drop, show c.toNat + 1 + (k - c.toNat - 1) = k by omega, setA_get _ _ hk]
      have : UInt8.ofNat k ≠ c := fun e => by
        have := congrArg UInt8.toNat e
        simp at this; omega
      simp [this]
  · rw [List.getElem?_eq_none (by simp [length_setA]; omega), List.getElem?_eq_none (by simp [length_setA]; omega)]
theorem u8_lt (c : UInt8) : c.toNat < 256 := c.toNat_lt
theorem u8_lti (c : UInt8) : (c.toNat : Int) < 256 := by have := c.toNat_lt; omega

theorem contains_call (σ : Sto) (nx p nm : Nat) (l : List UInt8) (c : UInt8) (hs : sget σ p nm = some (.cells 230 (setA l))) : ACall CX 231 [.ref p nm 0, .int .u8 c.toNat] σ nx (Gets (.bool (decide (c ∈ l))) σ nx) := by
  refine acall_mk 10 [.tmp 4] Tryz.func231 rfl (by decide) rfl rfl rfl ?_
  have hc := u8_lti c
  have hc' := u8_lt c
  refine aw_sreg {} rfl rfl fun K KP hK hP => ?_
  simp only [go_sem, ↓reduceIte]
  apply hK; clear hK hP
  refine aw_sreg {} rfl rfl fun K KP hK hP => ?_
  simp only [go_sem, ↓reduceIte, hc, hc', hs, Nat.mul_one, setA_drop]
  apply hK; clear hK hP
  refine aw_ret ?_
  simp only [go_sem, ↓reduceIte, athen_ret]

/-! ### Trim -/
def trimRi (p : UInt8 → Bool) (s : List UInt8) : Nat → List UInt8
  | 0 => []
  | i + 1 => if p (s.getD i 0) then trimRi p s i else s.take (i + 1)
theorem trimRight_call (σ : Sto) (nx p nm : Nat) (l s : List UInt8) (hs : sget σ p nm = some (.cells 230 (setA l))) (hl : s.length ≤ 4611686018427387904) : ACall CX 207 [.str s, .ref p nm 0] σ nx (Gets (.str (trimRi (fun c => decide (c ∈ l)) s s.length)) σ nx) := by
  refine acall_mk 22 [.tmp 4] Tryz.func207 rfl (by decide) rfl rfl rfl ?_
  refine aw_sreg {} rfl rfl fun K KP hK hP => ?_
  simp only [go_sem, ↓reduceIte]
  apply hK; clear hK hP
  refine aw_seq ?_
  refine aw_block ?_
  refine aw_loop' (fun dd st => ∃ (i : Nat), (i ≤ s.length) ∧ (trimRi (fun c => decide (c ∈ l)) s i = trimRi (fun c => decide (c ∈ l)) s s.length) ∧ i = dd ∧ σ = st.σ ∧ nx = st.nx ∧ st.env 0 = .str (s.take i) ∧ st.env 1 = .ref p nm 0) (fun dd st hJ => ?_) ?_
  ·
    obtain ⟨env0, σ0, nx0⟩ := st
    obtain ⟨i, hp0_0, hp0_1, hd0, hs0, hn0, e0_0, e0_1⟩ := hJ
    dsimp only at hs0 hn0 e0_0 e0_1
    subst hd0; subst hs0; subst hn0
    have hlen : (s.take i).length = i := by simp; omega
    refine aw_seq ?_
    refine aw_sreg {} rfl rfl fun K KP hK hP => ?_
    simp only [go_sem, ↓reduceIte, e0_0, e0_1, hlen]
    apply hK; clear hK hP
    refine aw_if (0 < i) (by simp only [go_sem, ↓reduceIte, e0_0, e0_1, hlen]) (fun h1 => ?_) (fun h1 => ?_)
    ·
      have hx : s[i - 1]? = some (s.getD (i - 1) 0) := by simp [show i - 1 < s.length by omega]
      have hx1 : (s.take i)[i - 1]? = some (s.getD (i - 1) 0) := by rw [List.getElem?_take, if_pos (by omega)]; exact hx
      have hw : IntKind.wrap .i64 ((i : Int) - 1) = ((i - 1 : Nat) : Int) := by rw [wrap64 (by omega) (by omega)]; omega
      have hm : i - 1 ≤ i := by omega
      have ht : (s.take i).take (i - 1) = s.take (i - 1) := by rw [List.take_take]; congr 1; omega
      refine aw_skip ?_
      refine athen_normal.2 ?_
      refine aw_block ?_
      refine aw_seq ?_
      refine aw_sreg { ac := [14] } rfl rfl fun K KP hK hP => ?_
      simp only [go_sem, ↓reduceIte, e0_0, e0_1, hlen, hx1, hw, hm, ht]
      refine CallP.acall (contains_call σ nx p nm l _ hs) ?_
      try simp only [go_sem, ↓reduceIte, e0_0, e0_1, hlen, hx1, hw, hm, ht]
      apply hK; clear hK hP
      refine aw_if (¬ (s.getD (i - 1) 0) ∈ l) (by simp only [go_sem, ↓reduceIte, e0_0, e0_1, hlen, hx1, hw, hm, ht]) (fun h2 => ?_) (fun h2 => ?_)
      ·
        refine aw_exit ?_
        refine athen_exit.2 ?_
        refine ablock_pass rfl ?_
        refine athen_exit.2 ?_
        refine ablock_here ?_
        refine athen_normal.2 ?_
        refine aw_sreg {} rfl rfl fun K KP hK hP => ?_
        simp only [go_sem, ↓reduceIte, e0_0, e0_1, hlen, hx1, hw, hm, ht]
        apply hK; clear hK hP
        refine aw_ret ?_
        simp only [go_sem, ↓reduceIte, e0_0, e0_1, hlen, hx1, hw, hm, ht, athen_ret] <;> (
          rw [← hp0_1]
          cases i with
          | zero => simp [trimRi]
          | succ j => first | (exfalso; omega) | (simp only [trimRi]; rw [if_neg (by simpa using h2)]))
      ·
        refine aw_skip ?_
        refine athen_normal.2 ?_
        refine aw_lreg {} rfl rfl fun K KP hK hP => ?_
        simp only [go_sem, ↓reduceIte, e0_0, e0_1, hlen, hx1, hw, hm, ht]
        apply hK; clear hK hP
        refine ablock_normal.2 ?_
        refine athen_normal.2 ?_
        refine ⟨_, ?_, (i - 1), ?_, ?_, rfl, rfl, rfl, ?_, ?_⟩
        · omega
        · first | omega | trivial | assumption
        · rw [← hp0_1]
          cases i with
          | zero => rfl
          | succ j => simp only [Nat.add_sub_cancel, trimRi]; rw [if_pos (by simpa using h2)]
        · simp only [go_sem, ↓reduceIte, e0_0, e0_1, hlen, hx1, hw, hm, ht] <;> try rfl
        · simp only [go_sem, ↓reduceIte, e0_0, e0_1, hlen, hx1, hw, hm, ht] <;> try rfl
    ·
      refine aw_exit ?_
      refine athen_exit.2 ?_
      refine athen_exit.2 ?_
      refine ablock_here ?_
      refine athen_normal.2 ?_
      refine aw_sreg {} rfl rfl fun K KP hK hP => ?_
      simp only [go_sem, ↓reduceIte, e0_0, e0_1, hlen]
      apply hK; clear hK hP
      refine aw_ret ?_
      simp only [go_sem, ↓reduceIte, e0_0, e0_1, hlen, athen_ret] <;> (
        rw [← hp0_1]
        cases i with
        | zero => simp [trimRi]
        | succ j => first | (exfalso; omega) | (simp only [trimRi]; rw [if_neg (by simpa using h2)]))
  ·
    refine ⟨_, s.length, ?_, ?_, rfl, ?_, rfl, ?_, ?_⟩
    · first | omega | trivial | assumption
    · first | omega | trivial | assumption
    · first | rfl | (simp only [go_sem, ↓reduceIte])
    · simp only [go_sem, ↓reduceIte] <;> try rfl
    · simp only [go_sem, ↓reduceIte] <;> try rfl
theorem trimLeft_call (σ : Sto) (nx p nm : Nat) (l s : List UInt8) (hs : sget σ p nm = some (.cells 230 (setA l))) : ACall CX 206 [.str s, .ref p nm 0] σ nx (Gets (.str (s.dropWhile fun c => decide (c ∈ l))) σ nx) := by
  refine acall_mk 16 [.tmp 4] Tryz.func206 rfl (by decide) rfl rfl rfl ?_
  refine aw_sreg {} rfl rfl fun K KP hK hP => ?_
  simp only [go_sem, ↓reduceIte]
  apply hK; clear hK hP
  refine aw_seq ?_
  refine aw_block ?_
  refine aw_loop' (fun dd st => ∃ (r : List UInt8), (r.dropWhile (fun c => decide (c ∈ l)) = s.dropWhile fun c => decide (c ∈ l)) ∧ r.length = dd ∧ σ = st.σ ∧ nx = st.nx ∧ st.env 0 = .str r ∧ st.env 1 = .ref p nm 0) (fun dd st hJ => ?_) ?_
  ·
    obtain ⟨env0, σ0, nx0⟩ := st
    obtain ⟨r, hp0_0, hd0, hs0, hn0, e0_0, e0_1⟩ := hJ
    dsimp only at hs0 hn0 e0_0 e0_1
    subst hd0; subst hs0; subst hn0
    refine aw_seq ?_
    refine aw_sreg {} rfl rfl fun K KP hK hP => ?_
    simp only [go_sem, ↓reduceIte, e0_0, e0_1]
    apply hK; clear hK hP
    refine aw_if (0 < r.length) (by simp only [go_sem, ↓reduceIte, e0_0, e0_1]) (fun h1 => ?_) (fun h1 => ?_)
    ·
      obtain ⟨c, r', rfl⟩ : ∃ c r', r = c :: r' := by cases r with | nil => simp at h1 | cons c r' => exact ⟨c, r', rfl⟩
      have h11 : (1 : Int) ≤ ((r'.length + 1 : Nat) : Int) := by omega
      refine aw_skip ?_
      refine athen_normal.2 ?_
      refine aw_block ?_
      refine aw_seq ?_
      refine aw_sreg { ac := [11] } rfl rfl fun K KP hK hP => ?_
      simp only [go_sem, ↓reduceIte, e0_0, e0_1, h11]
      refine CallP.acall (contains_call σ nx p nm l _ hs) ?_
      try simp only [go_sem, ↓reduceIte, e0_0, e0_1, h11]
      apply hK; clear hK hP
      refine aw_if (¬ c ∈ l) (by simp only [go_sem, ↓reduceIte, e0_0, e0_1, h11]) (fun h2 => ?_) (fun h2 => ?_)
      ·
        refine aw_exit ?_
        refine athen_exit.2 ?_
        refine ablock_pass rfl ?_
        refine athen_exit.2 ?_
        refine ablock_here ?_
        refine athen_normal.2 ?_
        refine aw_sreg {} rfl rfl fun K KP hK hP => ?_
        simp only [go_sem, ↓reduceIte, e0_0, e0_1, h11]
        apply hK; clear hK hP
        refine aw_ret ?_
        simp only [go_sem, ↓reduceIte, e0_0, e0_1, h11, athen_ret] <;> (
          rw [← hp0_0]
          first | (cases r with | nil => rfl | cons => simp at h1) | (rw [List.dropWhile_cons, if_neg (by simpa using h2)]))
      ·
        refine aw_skip ?_
        refine athen_normal.2 ?_
        refine aw_lreg {} rfl rfl fun K KP hK hP => ?_
        simp only [go_sem, ↓reduceIte, e0_0, e0_1, h11]
        apply hK; clear hK hP
        refine ablock_normal.2 ?_
        refine athen_normal.2 ?_
        refine ⟨_, ?_, r', ?_, rfl, rfl, rfl, ?_, ?_⟩
        · simp
        · rw [← hp0_0, List.dropWhile_cons, if_pos (by simpa using h2)]
        · simp only [go_sem, ↓reduceIte, e0_0, e0_1, h11] <;> try rfl
        · simp only [go_sem, ↓reduceIte, e0_0, e0_1, h11] <;> try rfl
    ·
      refine aw_exit ?_
      refine athen_exit.2 ?_
      refine athen_exit.2 ?_
      refine ablock_here ?_
      refine athen_normal.2 ?_
      refine aw_sreg {} rfl rfl fun K KP hK hP => ?_
      simp only [go_sem, ↓reduceIte, e0_0, e0_1]
      apply hK; clear hK hP
      refine aw_ret ?_
      simp only [go_sem, ↓reduceIte, e0_0, e0_1, athen_ret] <;> (
        rw [← hp0_0]
        first | (cases r with | nil => rfl | cons => simp at h1) | (rw [List.dropWhile_cons, if_neg (by simpa using h2)]))
  ·
    refine ⟨_, s, ?_, rfl, ?_, rfl, ?_, ?_⟩
    · first | omega | trivial | assumption
    · first | rfl | (simp only [go_sem, ↓reduceIte])
    · simp only [go_sem, ↓reduceIte] <;> try rfl
    · simp only [go_sem, ↓reduceIte] <;> try rfl

theorem loadC_setA (l : List UInt8) : loadC Tryz.prog 230 (setA l) = some (.agg (setA l)) := by
  have h := length_setA l
  simp only [loadC, aggT_230, szT_230, h, Nat.le_refl, if_true]
  rw [List.take_of_length_le (by omega)]
theorem makeSet_call (s : List UInt8) (hs : ∀ c ∈ s, c < 128) (hl : s.length ≤ 4611686018427387904) : PCall CX 205 [.str s] (· = .ret (.tup [.agg (setA s), .bool true])) := by
  have hd : ∀ l, (setA l).drop 256 = [] := fun l => List.drop_of_length_le (by simp [length_setA])
  refine pcall_mk 0 21 [.cell 2 230, .tmp 3] Tryz.func205 rfl (by decide) rfl rfl rfl ?_
  refine aw_sreg {} rfl (by simp only [allocObjs, go_sem]; rfl) fun K KP hK hP => ?_
  simp only [go_sem, ↓reduceIte]
  apply hK; clear hK hP
  refine aw_seq ?_
  refine aw_sreg {} rfl rfl fun K KP hK hP => ?_
  simp only [go_sem, ↓reduceIte]
  apply hK; clear hK hP
  refine aw_block ?_
  refine aw_loop' (fun dd st => ∃ (i : Nat), (i ≤ s.length) ∧ s.length - i = dd ∧ [(0, .cells 230 (setA (s.take i)))] = st.σ ∧ st.env 0 = .str s ∧ st.env 2 = .ref 0 0 0 ∧ st.env 4 = .int .i64 (i : Nat)) (fun dd st hJ => ?_) ?_
  ·
    obtain ⟨env0, σ0, nx0⟩ := st
    obtain ⟨i, hp0_0, hd0, hs0, e0_0, e0_2, e0_4⟩ := hJ
    dsimp only at hs0  e0_0 e0_2 e0_4
    subst hd0; subst hs0
    refine aw_forget' 1 rfl ?_
    refine aw_seq ?_
    refine aw_sreg {} rfl rfl fun K KP hK hP => ?_
    simp only [go_sem, ↓reduceIte, e0_0, e0_2, e0_4]
    apply hK; clear hK hP
    refine aw_if (i < s.length) (by simp only [go_sem, ↓reduceIte, e0_0, e0_2, e0_4]) (fun h2 => ?_) (fun h2 => ?_)
    ·
      have hx : s[i]? = some s[i] := List.getElem?_eq_getElem h2
      have hlt := hs _ (List.getElem_mem h2)
      have hln : ¬ (128 : Int) ≤ (s[i].toNat : Int) := by have : s[i].toNat < 128 := hlt; omega
      have hc := u8_lti s[i]
      have hc' := u8_lt s[i]
      have hw : IntKind.wrap .i64 ((i : Int) + 1) = ((i + 1 : Nat) : Int) := by rw [wrap64 (by omega) (by omega)]; omega
      have ht : setA (s.take i ++ [s[i]]) = setA (s.take (i + 1)) := by rw [List.take_succ_eq_append_getElem h2]
      refine aw_skip ?_
      refine athen_normal.2 ?_
      refine aw_seq ?_
      refine aw_block ?_
      refine aw_sreg {} rfl rfl fun K KP hK hP => ?_
      simp only [go_sem, ↓reduceIte, e0_0, e0_2, e0_4, hx, hln, hc, hc', hw]
      apply hK; clear hK hP
      refine aw_seq ?_
      refine aw_sreg {} rfl rfl fun K KP hK hP => ?_
      simp only [go_sem, ↓reduceIte, e0_0, e0_2, e0_4, hx, hln, hc, hc', hw]
      apply hK; clear hK hP
      refine aw_if (False) (by simp only [go_sem, ↓reduceIte, e0_0, e0_2, e0_4, hx, hln, hc, hc', hw]) (fun h5 => ?_) (fun h5 => ?_)
      ·
        exact h5.elim
      ·
        refine aw_skip ?_
        refine athen_normal.2 ?_
        refine aw_lreg {} rfl rfl fun K KP hK hP => ?_
        simp only [go_sem, ↓reduceIte, e0_0, e0_2, e0_4, hx, hln, hc, hc', hw, Nat.mul_one, setA_put, ht, Nat.succ_le_of_lt hc']
        apply hK; clear hK hP
        refine ablock_normal.2 ?_
        refine athen_normal.2 ?_
        refine aw_lreg {} rfl rfl fun K KP hK hP => ?_
        simp only [go_sem, ↓reduceIte, e0_0, e0_2, e0_4, hx, hln, hc, hc', hw]
        apply hK; clear hK hP
        refine afor_one ?_
        refine athen_normal.2 ?_
        refine ⟨_, ?_, i + 1, ?_, rfl, rfl, ?_, ?_, ?_⟩
        · omega
        · first | omega | trivial | assumption
        · simp only [go_sem, ↓reduceIte, e0_0, e0_2, e0_4, hx, hln, hc, hc', hw] <;> try rfl
        · simp only [go_sem, ↓reduceIte, e0_0, e0_2, e0_4, hx, hln, hc, hc', hw] <;> try rfl
        · simp only [go_sem, ↓reduceIte, e0_0, e0_2, e0_4, hx, hln, hc, hc', hw] <;> try rfl
    ·
      refine aw_exit ?_
      refine athen_exit.2 ?_
      refine afor_one ?_
      refine athen_exit.2 ?_
      refine ablock_here ?_
      refine athen_normal.2 ?_
      refine aw_sreg {} rfl rfl fun K KP hK hP => ?_
      simp only [go_sem, ↓reduceIte, e0_0, e0_2, e0_4, loadC_setA, hd]
      apply hK; clear hK hP
      refine aw_ret ?_
      simp only [go_sem, ↓reduceIte, e0_0, e0_2, e0_4, athen_ret, loadC_setA] <;> (
        have hi : i = s.length := by omega
        subst hi
        simp only [List.take_length]
        refine ⟨?_, trivial⟩
        refine (RFL_iff _).2 fun x hx => ?_
        obtain ⟨c, _, rfl⟩ := List.mem_map.1 hx
        trivial)
  ·
    refine ⟨_, 0, ?_, rfl, ?_, ?_, ?_, ?_⟩
    · first | omega | trivial | assumption
    · simp only [List.take_zero, setA_nil]
    · simp only [go_sem, ↓reduceIte] <;> try rfl
    · simp only [go_sem, ↓reduceIte] <;> try rfl
    · simp only [go_sem, ↓reduceIte] <;> try rfl
def digitsL : List UInt8 := [48, 49, 50, 51, 52, 53, 54, 55, 56, 57]
def trimS (s : List UInt8) : List UInt8 := (trimRi (fun c => decide (c ∈ digitsL)) s s.length).dropWhile fun c => decide (c ∈ digitsL)
theorem trim_call (s : List UInt8) (hl : s.length ≤ 4611686018427387904) : PCall CX 183 [.str s, .str digitsL] (· = .ret (.str (trimS s))) := by
  have hdl : ((digitsL.length : Nat) : Int) = 10 := rfl
  have hne : digitsL ≠ [] := by decide
  refine pcall_mk 0 43 [.tmp 4] Tryz.func183 rfl (by decide) rfl rfl rfl ?_
  refine aw_sreg {} rfl rfl fun K KP hK hP => ?_
  simp only [go_sem, ↓reduceIte]
  apply hK; clear hK hP
  refine aw_seq ?_
  by_cases c1 : s = []
  ·
    refine aw_sreg {} rfl rfl fun K KP hK hP => ?_
    simp only [go_sem, ↓reduceIte, c1, hne]
    apply hK; clear hK hP
    refine aw_if (True) (by simp only [go_sem, ↓reduceIte, c1]) (fun h1 => ?_) (fun h1 => ?_)
    ·
      refine aw_sreg {} rfl rfl fun K KP hK hP => ?_
      simp only [go_sem, ↓reduceIte, c1]
      apply hK; clear hK hP
      refine aw_ret ?_
      refine athen_ret.2 ?_
      simp only [go_sem, ↓reduceIte, c1, athen_ret] <;> (
        simp [trimS, trimRi, c1])
    ·
      exact absurd trivial h1
  ·
    refine aw_sreg {} rfl rfl fun K KP hK hP => ?_
    simp only [go_sem, ↓reduceIte, c1, hne]
    apply hK; clear hK hP
    refine aw_if (False) (by simp only [go_sem, ↓reduceIte, c1]) (fun h1 => ?_) (fun h1 => ?_)
    ·
      exact h1.elim
    ·
      refine aw_skip ?_
      refine athen_normal.2 ?_
      refine aw_seq ?_
      refine aw_sreg {} rfl rfl fun K KP hK hP => ?_
      simp only [go_sem, ↓reduceIte, c1, hdl]
      apply hK; clear hK hP
      refine aw_if (False) (by simp only [go_sem, ↓reduceIte, c1]) (fun h3 => ?_) (fun h3 => ?_)
      ·
        exact h3.elim
      ·
        refine aw_skip ?_
        refine athen_normal.2 ?_
        refine aw_seq ?_
        refine aw_sreg {} rfl (by simp only [allocObjs, go_sem]; rfl) fun K KP hK hP => ?_
        simp only [go_sem, ↓reduceIte, c1]
        refine CallP.ret (makeSet_call digitsL (by decide) (by decide)) (by simp only [go_sem]) ?_
        try simp only [go_sem, ↓reduceIte, c1]
        apply hK; clear hK hP
        refine aw_sreg {} rfl rfl fun K KP hK hP => ?_
        simp only [go_sem, ↓reduceIte, c1]
        apply hK; clear hK hP
        refine aw_if (True) (by simp only [go_sem, ↓reduceIte, c1]) (fun h6 => ?_) (fun h6 => ?_)
        ·
          refine aw_sreg { ac := [36, 37] } rfl rfl fun K KP hK hP => ?_
          simp only [go_sem, ↓reduceIte, c1]
          refine CallP.acall (trimRight_call _ _ 0 0 digitsL s rfl hl) ?_
          try simp only [go_sem, ↓reduceIte, c1]
          refine CallP.acall (trimLeft_call _ _ 0 0 digitsL _ rfl) ?_
          try simp only [go_sem, ↓reduceIte, c1]
          apply hK; clear hK hP
          refine aw_ret ?_
          refine athen_ret.2 ?_
          simp only [go_sem, ↓reduceIte, c1, athen_ret] <;> (
            rfl)
        ·
          exact absurd trivial h6
theorem dropWhile_nil (p : UInt8 → Bool) : ∀ l : List UInt8, l.dropWhile p = [] ↔ ∀ c ∈ l, p c = true
  | [] => by simp
  | c :: l => by
    rw [List.dropWhile_cons]
    split
    · rename_i h; rw [dropWhile_nil p l]; simp [h]
    · rename_i h; simp [h]
theorem trimRi_nil (p : UInt8 → Bool) (s : List UInt8) : ∀ i, i ≤ s.length → ((trimRi p s i).dropWhile p = [] ↔ ∀ c ∈ s.take i, p c = true)
  | 0, _ => by simp [trimRi]
  | i + 1, h => by
    have hx : s.getD i 0 = s[i] := by simp [show i < s.length by omega]
    simp only [trimRi, hx]
    rw [List.take_succ_eq_append_getElem (by omega)]
    split
    · rename_i hp
      rw [trimRi_nil p s i (by omega)]
      constructor
      · intro h1 c hc
        rcases List.mem_append.1 hc with hc | hc
        · exact h1 c hc
        · simp at hc; subst hc; exact hp
      · intro h1 c hc; exact h1 c (List.mem_append.2 (.inl hc))
    · rename_i hp
      constructor
      · intro h1
        exact (dropWhile_nil p _).1 h1
      · intro h1
        exact absurd (h1 s[i] (List.mem_append.2 (.inr (by simp)))) hp
def digitB (c : UInt8) : Bool := decide (c ∈ digitsL)
theorem trimS_nil (s : List UInt8) : trimS s = [] ↔ s.all digitB = true := by
  unfold trimS
  rw [trimRi_nil _ _ _ (Nat.le_refl _), List.take_length, List.all_eq_true]
  rfl
/-- Digits, or - and digits. -/
def cutMinus (s : List UInt8) : List UInt8 := if s.head? = some 45 then s.tail else s
def numericS (s : List UInt8) : Bool := decide (cutMinus s ≠ []) && (cutMinus s).all digitB
theorem cutMinus_eq (s : List UInt8) [Decidable ([45].length ≤ s.length ∧ s.take [45].length = [45])] : (if [45].length ≤ s.length ∧ s.take [45].length = [45] then s.drop [45].length else s) = cutMinus s := by
  unfold cutMinus
  cases s with
  | nil => simp
  | cons c r => by_cases h : c = 45 <;> simp [h]
theorem cutMinus_length (s : List UInt8) : (cutMinus s).length ≤ s.length := by
  unfold cutMinus
  split
  · simp
  · exact Nat.le_refl _
theorem numeric_call (s : List UInt8) (hl : s.length ≤ 4611686018427387904) : PCall CX 155 [.str s] (· = .ret (.bool (numericS s))) := by
  have hcl := cutMinus_length s
  refine pcall_mk 0 12 [.tmp 2] Tryz.func155 rfl (by decide) rfl rfl rfl ?_
  refine aw_sreg {} rfl rfl fun K KP hK hP => ?_
  simp only [go_sem, ↓reduceIte]
  apply hK; clear hK hP
  refine aw_sreg {} rfl rfl fun K KP hK hP => ?_
  simp only [go_sem, ↓reduceIte]
  refine CallP.ret ((trimPrefix_call s [45]).mono fun o h => h.trans (congrArg (fun x => AOut.ret (.str x)) (cutMinus_eq s))) (by simp only [go_sem]) ?_
  try simp only [go_sem, ↓reduceIte]
  apply hK; clear hK hP
  by_cases c2 : cutMinus s = []
  ·
    refine aw_sreg {} rfl rfl fun K KP hK hP => ?_
    simp only [go_sem, ↓reduceIte, c2]
    apply hK; clear hK hP
    refine aw_ret ?_
    simp only [go_sem, ↓reduceIte, c2, athen_ret] <;> (
      simp [numericS, c2])
  ·
    refine aw_sreg {} rfl rfl fun K KP hK hP => ?_
    simp only [go_sem, ↓reduceIte, c2]
    refine CallP.ret (trim_call (cutMinus s) (by omega)) (by simp only [go_sem]) ?_
    try simp only [go_sem, ↓reduceIte, c2]
    apply hK; clear hK hP
    refine aw_ret ?_
    simp only [go_sem, ↓reduceIte, c2, athen_ret] <;> (
      have hb : decide (trimS (cutMinus s) = []) = (cutMinus s).all digitB := by rw [Bool.eq_iff_iff, decide_eq_true_iff]; exact trimS_nil _
      rw [hb]
      simp [numericS, c2])

/-! ### IndexByte -/
theorem indexString_call (s : List UInt8) (c : UInt8) : PCall CX 229 [.str s, .int .u8 c.toNat] (· = .ret (.int .i64 (Lib.indexByte s c))) := by
  intro kn w vs hk hr
  obtain ⟨v, vs', rfl, h1, hr'⟩ := hr.uncons
  obtain ⟨u, vs'', rfl, h2, hr''⟩ := hr'.uncons
  have : vs'' = [] := List.eq_nil_of_length_eq_zero hr''.1.symm
  subst this
  cases h1
  cases h2
  refine .inr ⟨.int .i64 (Lib.indexByte s c), w, ?_, .ret (.int .i64 (Lib.indexByte s c)), kn, rfl, .int _ _, hk, Below.refl _ _, fun _ _ => rfl⟩
  refine (run_callFunc_extern (P := CX.P) (e := Extern.BytealgIndexByte.indexByte) (fn := Tryz.f229) Tryz.func229 (by decide) rfl (by kernel_rfl) (by kernel_rfl) _ w).trans ?_
  have h := Lib.run_indexByteString (P := CX.P) ⟨s.toArray⟩ c.toNat w
  rw [show (#[Value.string ⟨s.toArray⟩, .int .u8 (c.toNat : Int)] : Array Value) = [Value.string ⟨s.toArray⟩, .int .u8 (c.toNat : Int)].toArray from rfl] at h
  rw [h]
  simp [Result.andThen]
theorem slIndexByte_call (s : List UInt8) (c : UInt8) : PCall CX 201 [.str s, .int .u8 c.toNat] (· = .ret (.int .i64 (Lib.indexByte s c))) := by
  refine pcall_mk 0 8 [.tmp 4] Tryz.func201 rfl (by decide) rfl rfl rfl ?_
  refine aw_sreg {} rfl rfl fun K KP hK hP => ?_
  simp only [go_sem, ↓reduceIte]
  apply hK; clear hK hP
  refine aw_sreg {} rfl rfl fun K KP hK hP => ?_
  simp only [go_sem, ↓reduceIte]
  refine CallP.ret (indexString_call s c) (by simp only [go_sem]) ?_
  try simp only [go_sem, ↓reduceIte]
  apply hK; clear hK hP
  refine aw_ret ?_
  simp only [go_sem, ↓reduceIte, athen_ret]
theorem indexByte_call (s : List UInt8) (c : UInt8) : PCall CX 180 [.str s, .int .u8 c.toNat] (· = .ret (.int .i64 (Lib.indexByte s c))) := by
  refine pcall_mk 0 8 [.tmp 4] Tryz.func180 rfl (by decide) rfl rfl rfl ?_
  refine aw_sreg {} rfl rfl fun K KP hK hP => ?_
  simp only [go_sem, ↓reduceIte]
  apply hK; clear hK hP
  refine aw_sreg {} rfl rfl fun K KP hK hP => ?_
  simp only [go_sem, ↓reduceIte]
  refine CallP.ret (slIndexByte_call s c) (by simp only [go_sem]) ?_
  try simp only [go_sem, ↓reduceIte]
  apply hK; clear hK hP
  refine aw_ret ?_
  simp only [go_sem, ↓reduceIte, athen_ret]
def outsideS (c : UInt8) : Bool := decide (c.toNat < 33) || decide (126 < c.toNat) || decide (c ∈ ([40, 41, 34, 59] : List UInt8))
theorem indexByte_four (c : UInt8) : (0 ≤ Lib.indexByte [40, 41, 34, 59] c) ↔ c ∈ ([40, 41, 34, 59] : List UInt8) := by
  revert c
  have : ∀ n : Fin 256, (0 ≤ Lib.indexByte [40, 41, 34, 59] (UInt8.ofFin n)) ↔ (UInt8.ofFin n) ∈ ([40, 41, 34, 59] : List UInt8) := by decide +kernel
  exact fun c => this c.toFin
theorem outside_call (c : UInt8) : PCall CX 154 [.int .u8 c.toNat] (· = .ret (.bool (outsideS c))) := by
  refine pcall_mk 0 14 [.tmp 2] Tryz.func154 rfl (by decide) rfl rfl rfl ?_
  refine aw_sreg {} rfl rfl fun K KP hK hP => ?_
  simp only [go_sem, ↓reduceIte]
  apply hK; clear hK hP
  by_cases c1_0 : ((c.toNat : Nat) : Int) < 33
  ·
    refine aw_sreg {} rfl rfl fun K KP hK hP => ?_
    simp only [go_sem, ↓reduceIte, c1_0]
    apply hK; clear hK hP
    refine aw_ret ?_
    simp only [go_sem, ↓reduceIte, c1_0, athen_ret] <;> (
      have : c.toNat < 33 := by omega
      simp [outsideS, this])
  ·
    by_cases c1_1 : 126 < ((c.toNat : Nat) : Int)
    ·
      refine aw_sreg {} rfl rfl fun K KP hK hP => ?_
      simp only [go_sem, ↓reduceIte, c1_0, c1_1]
      apply hK; clear hK hP
      refine aw_ret ?_
      simp only [go_sem, ↓reduceIte, c1_0, c1_1, athen_ret] <;> (
        have : 126 < c.toNat := by omega
        simp [outsideS, this])
    ·
      refine aw_sreg {} rfl rfl fun K KP hK hP => ?_
      simp only [go_sem, ↓reduceIte, c1_0, c1_1]
      refine CallP.ret (indexByte_call _ c) (by simp only [go_sem]) ?_
      try simp only [go_sem, ↓reduceIte, c1_0, c1_1]
      apply hK; clear hK hP
      refine aw_ret ?_
      simp only [go_sem, ↓reduceIte, c1_0, c1_1, athen_ret] <;> (
        have h1 : ¬ c.toNat < 33 := by omega
        have h2 : ¬ 126 < c.toNat := by omega
        have h3 : decide (0 ≤ Lib.indexByte [40, 41, 34, 59] c) = decide (c ∈ ([40, 41, 34, 59] : List UInt8)) := by rw [Bool.eq_iff_iff, decide_eq_true_iff, decide_eq_true_iff]; exact indexByte_four c
        rw [h3]
        simp [outsideS, h1, h2])
end Go.Ab

set_option linter.unusedVariables false
set_option maxRecDepth 100000
namespace Go.Ab
open Go Go.RowKit Go.Proofs
/-! copies -/
def cloneF {α : Type} (b : Nat) (l : List α) : Option (Unit × List α × Unit) := cond (decide (l.length * b ≤ 140737488355328)) (some ((), (l, ()))) none
/-! texts -/
noncomputable def numericF (s : List UInt8) : Option Bool := if s.length ≤ 4611686018427387904 then some (numericS s) else none
noncomputable def S_numeric : Sig := .n [.d .str] (.d .bool) (fun x => numericF x.1)
theorem S_numeric_ok : SigOK CX 155 S_numeric := fun x r h => by
  have h : numericF x.1 = some r := h
  unfold numericF at h
  split at h
  · rename_i hl; cases h; exact numeric_call x.1 hl
  · cases h
noncomputable def outsideF (c : Int) : Option Bool := if 0 ≤ c ∧ c < 256 then some (outsideS (UInt8.ofNat c.toNat)) else none
noncomputable def S_outside : Sig := .n [.d (.int .u8)] (.d .bool) (fun x => outsideF x.1)
theorem u8_of {c : Int} (h : 0 ≤ c ∧ c < 256) : ((UInt8.ofNat c.toNat).toNat : Int) = c := by
  have e : c.toNat < 2 ^ 8 := by omega
  rw [UInt8.toNat_ofNat_of_lt' e]; omega
theorem outsideF_ok (c : Int) (r : Bool) (h : outsideF c = some r) : PCall CX 154 [.int .u8 c] (fun o => o = .ret (.bool r)) := by
  unfold outsideF at h
  split at h
  · rename_i hl
    cases h
    have := outside_call (UInt8.ofNat c.toNat)
    rw [u8_of hl] at this
    exact this
  · cases h
theorem S_outside_ok : SigOK CX 154 S_outside := fun x r h => outsideF_ok x.1 r h

noncomputable def indexByteF (s : List UInt8) (c : Int) : Option Int := if 0 ≤ c ∧ c < 256 then some (Lib.indexByte s (UInt8.ofNat c.toNat)) else none
noncomputable def S_indexByte : Sig := .n [.d .str, .d (.int .u8)] (.d (.int .i64)) (fun x => indexByteF x.1 x.2.1)
theorem indexByteF_ok (s : List UInt8) (c : Int) (r : Int) (h : indexByteF s c = some r) : PCall CX 180 [.str s, .int .u8 c] (fun o => o = .ret (.int .i64 r)) := by
  unfold indexByteF at h
  split at h
  · rename_i hl
    cases h
    have := indexByte_call s (UInt8.ofNat c.toNat)
    rw [u8_of hl] at this
    exact this
  · cases h
theorem S_indexByte_ok : SigOK CX 180 S_indexByte := fun x r h => indexByteF_ok x.1 x.2.1 r h
def hasPrefixF (s p : List UInt8) : Bool := decide (p.length ≤ s.length ∧ s.take p.length = p)
def trimPrefixF (s p : List UInt8) : List UInt8 := if p.length ≤ s.length ∧ s.take p.length = p then s.drop p.length else s
noncomputable def S_hasPrefix : Sig := .n [.d .str, .d .str] (.d .bool) (fun x => some (hasPrefixF x.1 x.2.1))
theorem S_hasPrefix_ok : SigOK CX 230 S_hasPrefix := fun x r h => by cases h; exact hasPrefix_call x.1 x.2.1
noncomputable def S_trimPrefix : Sig := .n [.d .str, .d .str] (.d .str) (fun x => some (trimPrefixF x.1 x.2.1))
theorem S_trimPrefix_ok : SigOK CX 182 S_trimPrefix := fun x r h => by cases h; exact trimPrefix_call x.1 x.2.1
end Go.Ab
