/-
  THE LIBRARY's ERROR that a card lays: what the world holds there.
-/
import Derived.Test.YthbkbjlfghikfaaGreatDoorZ11
import Derived.Test.YthbkbjlfghikfaaGreatDoorZ8
import Derived.Test.YthbkbjlfghikfaaGreatDoorCards
import Derived.Carry
import Derived.Test.YthbkbjlfghikfaaGreatDoorTie
import Derived.WalkKit
import Derived.ProofKit
import Derived.OpenShut
import Derived.Deep.DeepHandedRow
import Derived.Lib.LaidTab
set_option linter.unusedVariables false
set_option linter.unusedSimpArgs false
namespace Go.Ab
open Go Go.RowKit
section
variable {C : Cx} {B : Base} {n : Nat} {ds : List Deferred} {k : Nat} {kn₀ : Kn} {m₀ : Mp}
theorem sim_of_rs {s : XS} {s' : XS} {kn kn' : Kn} {m m' : Mp} {act act' : Act} {w w' : World} {aenv : Nat → AV} (hS : Sim C B n ds k kn₀ m₀ s kn m act w) (hR : RS C B n ds kn m s.σ s.nx kn' m' ⟨aenv, s'.σ, s'.nx⟩ act' w') (hw : Weak s'.env aenv) : Sim C B n ds k kn₀ m₀ s' kn' m' act' w' :=
 ⟨⟨hR.env.size, fun t => by
   have := hR.env.tmp t
   rcases hw t with e | e
   ·rw [← e]; exact this
   ·rw [e]; exact .any _⟩, hR.defs, hR.inv, hS.le.trans hR.knle, Nat.le_trans hS.nx hR.keep.le, fun i hi => (hR.keep.ag i (Nat.lt_of_lt_of_le hi hS.nx)).trans (hS.base i hi),
   fun i hi => by rw [hR.keep.ag i (Nat.lt_of_lt_of_le hi hS.nx)]; exact hS.lay i hi⟩
def RegPost {R : Type} (K : AExit → XS → Option R) (r : R) : AExit → St → Prop
 | .normal, s => ∃ x : XS, K .normal x = some r ∧ Weak x.env s.env ∧ x.σ = s.σ ∧ x.nx = s.nx
 | .pan v, s => K (.pan v) ⟨[], s.σ, s.nx⟩ = some r
 | _, _ => False
theorem reg_done {R : Type} {K : AExit → XS → Option R} {r : R} {post : Exit → Act → World → Prop} (hK : ∀ e s', K e s' = some r → Good C B n ds k kn₀ m₀ post e s') {c : Code} {s : XS} {kn : Kn} {m : Mp} {act : Act} {w : World} (hS : Sim C B n ds k kn₀ m₀ s kn m act w)
  (h : aw C n ds c (RegPost K r) s.st) : c.wp C.P post act w := by
 refine wp_mono (h B kn m act w hS.env hS.defs hS.inv) ?_
 rintro e act' w' ⟨ae, s', kn', m', hx, hR, hq⟩
 cases ae with
 | normal =>
  obtain ⟨x, h1, h2, h3, h4⟩ := hq
  refine hK _ _ h1 kn' m' act' w' ?_ e hx
  refine sim_of_rs (aenv := s'.env) hS ?_ h2
  rw [h3, h4]; exact hR
 | pan v =>
  cases e with
  | panic ch =>
   obtain ⟨u, rfl, hu⟩ := hx
   exact hK _ _ hq kn' m' act' w' ⟨hR.defs, hR.inv, hS.le.trans hR.knle, Nat.le_trans hS.nx hR.keep.le, fun i hi => (hR.keep.ag i (Nat.lt_of_lt_of_le hi hS.nx)).trans (hS.base i hi)⟩ u hu
  | _ => exact hx.elim
 | _ => exact hq.elim
theorem ref_start (ops : Array Oper) (env : List AV) (σ : Sto) (nx : Nat) : Ref ops ⟨env, [], σ, nx⟩ (xenv env) := ⟨fun _ _ => rfl, (fun t g e h => by cases h), (fun t q h => by cases h)⟩
theorem good_then {post : Exit → Act → World → Prop} {nxt : Act → World → Prop} {e : AExit} {s : XS} (h : Good C B n ds k kn₀ m₀ post e s) (hn : e ≠ .normal) : Good C B n ds k kn₀ m₀ (Exit.then nxt post) e s := by
 cases e with
 | normal => exact absurd rfl hn
 | pan v => exact fun kn m act w hS u hu => h kn m act w hS u hu
 | exit i => intro kn m act w hS ce hx; cases ce <;> first | exact h kn m act w hS _ hx | exact hx.elim
 | goto i => intro kn m act w hS ce hx; cases ce <;> first | exact h kn m act w hS _ hx | exact hx.elim
 | ret => intro kn m act w hS ce hx; cases ce <;> first | exact h kn m act w hS _ hx | exact hx.elim
theorem good_normal {post : Exit → Act → World → Prop} {s : XS} (h : ∀ kn m act w, Sim C B n ds k kn₀ m₀ s kn m act w → post .normal act w) : Good C B n ds k kn₀ m₀ post .normal s := fun kn m act w hS ce hx => by
 cases ce <;> first | exact h kn m act w hS | exact hx.elim
theorem yregion_sound {sigs : FuncId → List Sig} (hs : ∀ g, ∀ sg ∈ sigs g, SigOK C g sg) {hint : Nat → RH} {id : Nat} {ops : Array Oper} {draws : Bool} {R : Type} {mg : Option R → Option R → Option R} (hmg : MgOK mg) {s : XS} {K : AExit → XS → Option R} {r : R} {post : Exit → Act → World → Prop}
  (h : (if dstOK n ops = true then (match allocObjs C.P ops.toList s.nx with
   | none => none
   | some objs => match draws with
    | false => yreg C sigs (hint id).H (fun _ => true) ops (fun x => K .normal x) (fun v σ nx => K (.pan v) ⟨[], σ, nx⟩) ops.toList 0 (s.σ.length, s.nx) ⟨s.env, [], s.σ ++ objs, s.nx + objs.length⟩
    | true => match (hint id).pair with
     | some (pre, i, j, post) => if (C.P.follows .mixedOrders && pairOK C.P (hint id).H ops (msOf ops) pre i j post) = true then
       yregE C sigs (hint id).H ops (fun v σ nx => K (.pan v) ⟨[], σ, nx⟩)
        (fun q al st => mg (yregE C sigs (hint id).H ops (fun v σ nx => K (.pan v) ⟨[], σ, nx⟩) (fun _ _ st => K .normal ⟨clrTags st.tags st.env, st.σ, st.nx⟩) ((i :: j :: post).filterMap (ops[·]?)) q al st)
         (yregE C sigs (hint id).H ops (fun v σ nx => K (.pan v) ⟨[], σ, nx⟩) (fun _ _ st => K .normal ⟨clrTags st.tags st.env, st.σ, st.nx⟩) ((j :: i :: post).filterMap (ops[·]?)) q al st))
        (pre.filterMap (ops[·]?)) 0 (s.σ.length, s.nx) ⟨s.env, [], s.σ ++ objs, s.nx + objs.length⟩ else none
     | none => match (hint id).π with
      | [] => if (C.P.follows .mixedOrders && drawOK C.P (hint id).H (fun i => (hint id).tl.contains i) ops (msOf ops)) = true then
        yreg C sigs (hint id).H (fun i => (hint id).tl.contains i) ops (fun x => K .normal x) (fun v σ nx => K (.pan v) ⟨[], σ, nx⟩) ops.toList 0 (s.σ.length, s.nx) ⟨s.env, [], s.σ ++ objs, s.nx + objs.length⟩ else none
      | π => if (C.P.follows .mixedOrders && permOK C.P (hint id).H (hint id).tl ops (msOf ops) π) = true then
        yreg C sigs (hint id).H (fun i => (hint id).tl.contains i) ops (fun x => K .normal x) (fun v σ nx => K (.pan v) ⟨[], σ, nx⟩) (π.filterMap (ops[·]?)) 0 (s.σ.length, s.nx) ⟨s.env, [], s.σ ++ objs, s.nx + objs.length⟩ else none) else none) = some r)
  (hK : ∀ e s', K e s' = some r → Good C B n ds k kn₀ m₀ post e s') {kn : Kn} {m : Mp} {act : Act} {w : World} (hS : Sim C B n ds k kn₀ m₀ s kn m act w) : (Code.region id ops draws).wp C.P post act w := by
 refine reg_done hK hS ?_
 split at h
 ·rename_i hd
  split at h
  ·cases h
  ·rename_i objs ho
   have key : ∀ (tt : Nat → Bool) (l : List Oper), yreg C sigs (hint id).H tt ops (fun x => K .normal x) (fun v σ nx => K (.pan v) ⟨[], σ, nx⟩) l 0 (s.σ.length, s.nx) ⟨s.env, [], s.σ ++ objs, s.nx + objs.length⟩ = some r →
     areg C (hint id).H tt ops (RegPost K r .normal) (fun v σ nx => ∀ env, RegPost K r (.pan v) ⟨env, σ, nx⟩) l 0 (s.st.σ.length, s.st.nx) ⟨s.st.env, s.st.σ ++ objs, s.st.nx + objs.length⟩ := fun tt l hh =>
    yreg_sound hs (fun x hx aenv' hw => ⟨x, hx, hw, rfl, rfl⟩) (fun v σ nx hx env => hx) l 0 _ _ _ (ref_start ops _ _ _) hh
   cases draws with
   | false => exact aw_region hd ho (key _ _ h)
   | true =>
    simp only at h
    split at h
    ·rename_i pre i j post' hpr
     split at h
     ·rename_i hB
      rw [Bool.and_eq_true] at hB
      have fin : ∀ (l : List Oper) (q : Nat) (al : Nat × Nat) (st : YS) (aenv : Nat → AV), Ref ops st aenv → yregE C sigs (hint id).H ops (fun v σ nx => K (.pan v) ⟨[], σ, nx⟩) (fun _ _ st => K .normal ⟨clrTags st.tags st.env, st.σ, st.nx⟩) l q al st = some r →
        aregE C (hint id).H ops (fun _ _ => RegPost K r .normal) (fun v σ nx => ∀ env, RegPost K r (.pan v) ⟨env, σ, nx⟩) l q al ⟨aenv, st.σ, st.nx⟩ := fun l q al st aenv hR hh =>
       yregE_sound hs (fun q al st aenv hx hR => ⟨_, hx, hR.weak, rfl, rfl⟩) (fun v σ nx hx env => hx) l q al st aenv hR hh
      refine aw_pair hB.1 hB.2 hd ho ?_
      exact yregE_sound hs (fun q al st aenv hx hR => ⟨fin _ q al st aenv hR (hmg _ _ _ hx).1, fin _ q al st aenv hR (hmg _ _ _ hx).2⟩) (fun v σ nx hx env => hx) _ 0 _ _ _ (ref_start ops _ _ _) h
     ·cases h
    ·split at h
     ·split at h
      ·rename_i hB
       rw [Bool.and_eq_true] at hB
       exact aw_draw hB.1 hB.2 hd ho (key _ _ h)
      ·cases h
     ·rename_i π hπ
      split at h
      ·rename_i hB
       rw [Bool.and_eq_true] at hB
       exact aw_pdraw hB.1 hB.2 hd ho rfl (key _ _ h)
      ·cases h
 ·cases h
theorem ycode_sound {sigs : FuncId → List Sig} (hs : ∀ g, ∀ sg ∈ sigs g, SigOK C g sg) {hint : Nat → RH} : ∀ (c : Code) (an : An) {R : Type} (mg : Option R → Option R → Option R) (hmg : MgOK mg) (s : XS) (K : AExit → XS → Option R) (r : R), ycode C sigs hint k n c an mg s K = some r →
  ∀ (post : Exit → Act → World → Prop), (∀ e s', K e s' = some r → Good C B n ds k kn₀ m₀ post e s') → ∀ kn m act w, Sim C B n ds k kn₀ m₀ s kn m act w → c.wp C.P post act w := by
 intro c
 induction c with
 | skip => intro an R mg hmg s K r h post hK kn m act w hS; exact wp_skip (hK _ _ h kn m act w hS _ trivial)
 | label l => intro an R mg hmg s K r h post hK kn m act w hS; exact wp_label (hK _ _ h kn m act w hS _ trivial)
 | exit id => intro an R mg hmg s K r h post hK kn m act w hS; exact wp_exit (hK _ _ h kn m act w hS _ rfl)
 | ret =>
  intro an R mg hmg s K r h post hK kn m act w hS
  obtain ⟨kn', hS'⟩ := frzAll_sound (jsOf s.env an) s kn hS
  exact wp_ret (hK _ _ h kn' m act w hS' _ trivial)
 | seq x y ihx ihy =>
  intro an R mg hmg s K r h post hK kn m act w hS
  have plain : ∀ a b (s : XS) kn, Sim C B n ds k kn₀ m₀ s kn m act w → ycode C sigs hint k n x a mg s (yseqK (fun s' => ycode C sigs hint k n y b mg s' K) K) = some r → (Code.seq x y).wp C.P post act w := fun a b s kn hS h => by
   refine wp_seq (ihx a mg hmg s _ r h _ (fun e s' he => ?_) kn m act w hS)
   cases e with
   | normal => exact good_normal fun kn m act w hS' => ihy b mg hmg s' K r he post hK kn m act w hS'
   | _ => exact good_then (hK _ _ he) (by simp)
  unfold ycode at h
  split at h
  ·rename_i full sh a b
   split at h
   ·rename_i hkp
    cases full with
    | false =>
     simp only at h
     obtain ⟨l, h1, h2⟩ := Option.bind_eq_some_iff.1 h
     refine wp_seq (ihx a mgC mgC_ok s _ l h1 _ (fun e s' he => ?_) kn m act w hS)
     cases e with
     | normal =>
      refine good_normal fun kn m act w hS' => ?_
      obtain ⟨m', hS2⟩ := norm_sim he hkp hS'
      exact ihy b mg hmg _ K r h2 post hK kn m' act w hS2
     | _ => cases he
    | true =>
     simp only at h
     obtain ⟨q, h1, h2⟩ := Option.bind_eq_some_iff.1 h
     refine wp_seq (ihx a mgC mgC_ok s _ q h1 _ (fun e s' he => ?_) kn m act w hS)
     cases e with
     | normal =>
      obtain ⟨l, hl, rfl⟩ := Option.map_eq_some_iff.1 he
      refine good_normal fun kn m act w hS' => ?_
      obtain ⟨m', hS2⟩ := norm_sim hl hkp hS'
      exact ihy b mg hmg _ K r h2 post hK kn m' act w hS2
     | _ =>
      obtain ⟨r', hr', rfl⟩ := Option.map_eq_some_iff.1 he
      cases h2
      exact good_then (hK _ _ hr') (by simp)
   ·cases h
  ·rename_i keep a b
   obtain ⟨q, h1, h2⟩ := Option.bind_eq_some_iff.1 h
   refine wp_seq (ihx a (mgX mg) (mgX_ok hmg) s _ q h1 _ (fun e s' he => ?_) kn m act w hS)
   cases e with
   | normal =>
    have he : fcXS ⟨clrE keep 0 s'.env, s'.σ, s'.nx⟩ (fun s' => some (Step.next s')) = some q := he
    rw [fcXS_eq] at he
    cases he
    exact good_normal fun kn m act w hS' => ihy b mg hmg _ K r h2 post hK kn m act w (clr_sim hS')
   | _ =>
    obtain ⟨r', hr', rfl⟩ := Option.map_eq_some_iff.1 he
    cases h2
    exact good_then (hK _ _ hr') (by simp)
  ·exact plain _ _ s kn hS h
  ·rename_i js a
   obtain ⟨kn', hS'⟩ := frzAll_sound js s kn hS
   exact plain _ _ _ kn' hS' h
  ·rename_i ts a
   obtain ⟨kn', hS'⟩ := frzAll_sound (jsOf s.env (.frzt ts a)) s kn hS
   exact plain _ _ _ kn' hS' h
  ·exact plain _ _ s kn hS h
 | cond o x y ihx ihy =>
  intro an R mg hmg s K r h post hK kn m act w hS
  unfold ycode at h
  split at h
  ·rename_i b hb
   have hr := rel_opv hS.inv hS.env o
   rw [hb] at hr
   generalize hv : act.eval o = v at hr
   cases hr
   refine wp_cond hv ?_
   have key : ∀ a a', cond b (ycode C sigs hint k n x a mg s K) (ycode C sigs hint k n y a' mg s K) = some r → (if b = true then x else y).wp C.P post act w := fun a a' h => by
    cases b with
    | true => exact ihx a mg hmg s K r h post hK kn m act w hS
    | false => exact ihy a' mg hmg s K r h post hK kn m act w hS
   split at h
   ·have := key _ _ h; cases b <;> exact this
   ·have := key _ _ h; cases b <;> exact this
  ·cases h
 | block id c ih =>
  intro an R mg hmg s K r h post hK kn m act w hS
  have key : ∀ a, ycode C sigs hint k n c a mg s (blockK id K) = some r → (Code.block id c).wp C.P post act w := fun a h => by
   refine wp_block (ih a mg hmg s _ r h _ (fun e s' he => ?_) kn m act w hS)
   cases e with
   | exit i =>
    have he : (if i = id then K .normal s' else K (.exit i) s') = some r := he
    intro kn m act w hS' ce hx
    cases ce <;> first | exact hx.elim | skip
    have hx : i = _ := hx
    subst hx
    simp only [Exit.inBlock]
    split at he
    ·rename_i e; rw [if_pos e]; exact hK _ _ he kn m act w hS' _ trivial
    ·rename_i e; rw [if_neg e]; exact hK _ _ he kn m act w hS' _ rfl
   | normal => intro kn m act w hS' ce hx; cases ce <;> first | exact hK _ _ he kn m act w hS' _ hx | exact hx.elim
   | goto l => intro kn m act w hS' ce hx; cases ce <;> first | exact hK _ _ he kn m act w hS' _ hx | exact hx.elim
   | ret => intro kn m act w hS' ce hx; cases ce <;> first | exact hK _ _ he kn m act w hS' _ hx | exact hx.elim
   | pan v => intro kn m act w hS' u hu; exact hK _ _ he kn m act w hS' u hu
  unfold ycode at h
  split at h
  ·exact key _ h
  ·exact key _ h
 | loop c ih =>
  intro an R mg hmg s K r h post hK kn m act w hS
  unfold ycode at h
  split at h
  ·rename_i sh a
   split at h
   ·rename_i hkp
    obtain ⟨l0, hl0, h⟩ := Option.bind_eq_some_iff.1 h
    obtain ⟨d, hd⟩ := loopM_iff.1 h
    refine wp_loop_rel (fun d act w => ∃ s kn m l, Sim C B n ds k kn₀ m₀ s kn m act w ∧ absS sh s = some l ∧ iterM (fun l => ycode C sigs hint k n c a mgC (patS k n sh l) (joinF (absS sh) K)) d l = some r) ?_ (d := d) ⟨s, kn, m, l0, hS, hl0, hd⟩
    rintro d act w ⟨s, kn, m, l, hS, hl, hit⟩
    cases d with
    | zero => cases hit
    | succ d =>
     obtain ⟨m', hS'⟩ := norm_sim hl hkp hS
     simp only [iterM] at hit
     split at hit
     ·rename_i l' hb
      refine ih a mgC mgC_ok _ _ _ hb _ (fun e s' he => ?_) kn m' act w hS'
      cases e with
      | normal =>
       obtain ⟨l2, hl2, e2⟩ := Option.map_eq_some_iff.1 he
       cases e2
       exact good_normal fun kn m act w hS2 => ⟨d, Nat.lt_succ_self d, s', kn, m, _, hS2, hl2, hit⟩
      | _ => obtain ⟨r', _, e2⟩ := Option.map_eq_some_iff.1 he; cases e2
     ·rename_i r' hb
      cases hit
      refine ih a mgC mgC_ok _ _ _ hb _ (fun e s' he => ?_) kn m' act w hS'
      cases e with
      | normal => obtain ⟨l2, hl2, e2⟩ := Option.map_eq_some_iff.1 he; cases e2
      | _ =>
       obtain ⟨r', hr', e2⟩ := Option.map_eq_some_iff.1 he
       cases e2
       exact good_then (hK _ _ hr') (by simp)
     ·cases hit
   ·cases h
  ·rename_i d a
   refine wp_loop_rel (fun d act w => ∃ s kn m, Sim C B n ds k kn₀ m₀ s kn m act w ∧ unrollM (fun s K => ycode C sigs hint k n c a mg s K) d s K = some r) ?_ (d := d) ⟨s, kn, m, hS, h⟩
   rintro d act w ⟨s, kn, m, hS, hit⟩
   cases d with
   | zero => cases hit
   | succ d =>
    refine ih a mg hmg s _ r hit _ (fun e s' he => ?_) kn m act w hS
    cases e with
    | normal => exact good_normal fun kn m act w hS2 => ⟨d, Nat.lt_succ_self d, s', kn, m, hS2, he⟩
    | _ => exact good_then (hK _ _ he) (by simp)
  ·cases h
 | region id ops draws =>
  intro an R mg hmg s K r h post hK kn m act w hS
  unfold ycode at h
  obtain ⟨kn', hS'⟩ := frzAll_sound (jsOf s.env an) s kn hS
  exact yregion_sound hs hmg h hK hS'
 | _ => intro an R mg hmg s K r h; simp [ycode] at h
end
end Go.Ab

namespace Go.Ab
open Go Go.RowKit
def sigTab : List (Nat × Sig) → FuncId → List Sig
 | [], _ => []
 | (g', s) :: l, g => match Nat.beq g' g with
  | true => s :: sigTab l g
  | false => sigTab l g
def TabOK (C : Cx) : List (Nat × Sig) → Prop
 | [] => True
 | (g, s) :: l => SigOK C g s ∧ TabOK C l
theorem sigTab_ok {C : Cx} : ∀ {l : List (Nat × Sig)}, TabOK C l → ∀ g, ∀ s ∈ sigTab l g, SigOK C g s
 | [], _, g, s, h => by cases h
 | (g', s') :: l, ht, g, s, h => by
  simp only [sigTab] at h
  split at h
  ·rename_i e
   have := Nat.eq_of_beq_eq_true e
   subst this
   rcases List.mem_cons.1 h with rfl | h
   ·exact ht.1
   ·exact sigTab_ok ht.2 _ s h
  ·exact sigTab_ok ht.2 g s h
def resY {α : Type} (σ : Sto) (res : Sh) (v : AV) (f : res.den → α) : Option α :=
 match rfB (frzF σ 6 v) with
 | true => match absV [] [] res (frzF σ 6 v) with
  | some (x, _) => some (f x)
  | none => none
 | false => none
def finN (C : Cx) (fn : Func) (res : Sh) : AExit → XS → Option res.den
 | .normal, s => (resA C.P fn.results.toList s.st).bind fun v => resY s.σ res v id
 | .ret, s => (resA C.P fn.results.toList s.st).bind fun v => resY s.σ res v id
 | _, _ => none
noncomputable def yfunM (C : Cx) (sigs : FuncId → List Sig) (hint : Nat → RH) (g : FuncId) {R : Type} (mg : Option R → Option R → Option R) (fin : Func → AExit → XS → Option R) (args : List Sh) (an : An) (x : Sh.denL args) : Option R :=
 match C.P.funcs[g]? with
 | none => none
 | some fn => match fn.body with
  | none => none
  | some c => if ((fn.name == "runtime.NumGoroutine") = false ∧ args.length ≤ fn.ntmps) then ycode C sigs hint 0 fn.ntmps c an mg ⟨patL ρ0 args x ++ List.replicate (fn.ntmps - args.length) .undef, [], 0⟩ (fin fn) else none
noncomputable abbrev yfun (C : Cx) (sigs : FuncId → List Sig) (hint : Nat → RH) (g : FuncId) {R : Type} (fin : Func → AExit → XS → Option R) (args : List Sh) (an : An) (x : Sh.denL args) : Option R := yfunM C sigs hint g mgC fin args an x
theorem patL_len (ρ : Pl) : ∀ (l : List Sh) (x : Sh.denL l), (patL ρ l x).length = l.length
 | [], _ => rfl
 | s :: l, x => by show (patL ρ l x.2).length + 1 = _; rw [patL_len ρ l x.2]; rfl
theorem xenv_args (args : List AV) (k : Nat) : xenv (args ++ List.replicate k .undef) = argEnv args := by
 funext t
 simp only [xenv, argEnv, List.getD_eq_getElem?_getD, List.getElem?_append]
 split
 ·rfl
 ·rename_i h
  rw [List.getElem?_eq_none (Nat.le_of_not_lt h), List.getElem?_replicate]
  split <;> rfl
theorem resY_sound {α : Type} {σ : Sto} {res : Sh} {v : AV} {f : res.den → α} {a : α} (h : resY σ res v f = some a) : ∃ x, a = f x ∧ RF (frzF σ 6 v) ∧ ∀ kn u, Rel kn m0 (frzF σ 6 v) u → Rel kn m0 (patV ρ0 res x) u := by
 unfold resY at h
 split at h
 ·rename_i hr
  split at h
  ·rename_i x β hx
   cases h
   refine ⟨x, rfl, rfB_sound _ hr, fun kn u hu => ?_⟩
   obtain ⟨h1, h2⟩ := absV_ok (kn := kn) (m := m0) res [] β _ x hx
   obtain ⟨h3, h4⟩ := h2 u hu
   have hv := h3 ⟨fun j b e => by simp [bget] at e, fun j p nm e => by simp [bget] at e, fun j j' p nm nm' e => by simp [bget] at e⟩
   exact h4 m0 ρ0 (fun j b e => by have := hv.dom j b e; simp at this)
  ·cases h
 ·cases h
theorem yfun_sound {C : Cx} {sigs : FuncId → List Sig} (hs : ∀ g, ∀ sg ∈ sigs g, SigOK C g sg) {hint : Nat → RH} {g : FuncId} {R : Type} {mg : Option R → Option R → Option R} (hmg : MgOK mg) {fin : Func → AExit → XS → Option R} {args : List Sh} {an : An} {x : Sh.denL args} {r : R} {Q : AOut → Prop}
  (h : yfunM C sigs hint g mg fin args an x = some r)
  (hfin : ∀ (fn : Func) (s : XS), (∀ e, (e = .normal ∨ e = .ret) → fin fn e s = some r → ∃ v, resA C.P fn.results.toList s.st = some v ∧ RF (frzF s.σ 6 v) ∧ ∃ x, Q (.ret x) ∧ ∀ kn u, Rel kn m0 (frzF s.σ 6 v) u → Rel kn m0 x u) ∧
   (∀ v, fin fn (.pan v) s = some r → RF (frzF s.σ 6 v) ∧ ∃ x, Q (.pan x) ∧ ∀ kn u, Rel kn m0 (frzF s.σ 6 v) u → Rel kn m0 x u) ∧ (∀ i, fin fn (.exit i) s ≠ some r) ∧ ∀ i, fin fn (.goto i) s ≠ some r) : PCall C g (patL ρ0 args x) Q := by
 unfold yfunM at h
 split at h
 ·cases h
 ·rename_i fn hf
  split at h
  ·cases h
  ·rename_i c hb
   split at h
   ·rename_i hc
    obtain ⟨hname, hn⟩ := hc
    refine fun kn w vs hk hr => .inl ⟨bodyOK_mk hf hb hname, ?_⟩
    let B : Base := ⟨w, kn, fun _ => False⟩
    have hI : Inv C B kn m0 [] 0 w := ⟨hk.ok, Nat.le_refl _, rfl, rfl, rfl, fun _ _ _ => ⟨rfl, rfl⟩, fun p nm ob e => by simp at e, fun p nm ob loc e => by simp at e, fun p nm ob loc p' nm' ob' loc' e => by simp at e, fun _ _ => rfl, fun p nm ob e => by simp at e, fun p p' nm ob ob' e => by simp at e, fun p p' nm nm' ob ob' e => by simp at e, hk.glob, hk.tab.base _ (fun _ _ _ h => h)⟩
    have hn' : (patL ρ0 args x).length ≤ fn.ntmps := by rw [patL_len]; exact hn
    have hS : Sim C B fn.ntmps [] 0 kn m0 ⟨patL ρ0 args x ++ List.replicate (fn.ntmps - args.length) .undef, [], 0⟩ kn m0 { tmps := vs.toArray ++ Array.replicate (fn.ntmps - vs.toArray.size) undef, defers := [] } w :=
     ⟨by rw [xenv_args]; exact argEnv_rel hr hn', rfl, hI, KnLe.refl _, Nat.le_refl _, fun i hi => absurd hi (by omega), fun i hi => absurd hi (by omega)⟩
    refine calls_of_wp hf hb (ycode_sound hs c an mg hmg _ _ r h _ (fun e s he => ?_) kn m0 _ w hS)
    obtain ⟨f1, f2, f3, f4⟩ := hfin fn s
    have after : ∀ kn' m' act' w', Inv C B kn' m' s.σ s.nx w' → (∀ (x : AV) (v : Value), Rel kn' m' x v → RF (frzF s.σ 6 x) → Rel (knAll kn' w.heap.size w') m0 (frzF s.σ 6 x) v) ∧ Below w.heap.size w w' ∧ KnOK C (knAll kn' w.heap.size w') w' ∧ ∀ b, b < w.heap.size → knAll kn' w.heap.size w' b = kn b := fun kn' m' (act' : Act) w' hI' => by
     refine ⟨fun x v hr hf => (frz_sound hI' (fun _ h => h) 6 x v hr).rf hf m0, ⟨hI'.os, hI'.tape, hI'.output, hI'.size, fun k hk => (hI'.old k hk (fun h => h)).1⟩, ⟨fun b o v e => ?_, fun g => ((hI'.glob g).mono (knAll_le hI' _) (MpLe.refl _)).rf (C.rf g) m0, hI'.tabW⟩, fun b hb => ?_⟩
     ·unfold knAll at e
      split at e
      ·exact hI'.knok b o v e
      ·exact e
     ·funext o
      unfold knAll
      rw [if_pos hb]
      rw [(hI'.old b hb (fun h => h)).2]
    cases e with
    | normal =>
     obtain ⟨v, q1, q2, y, q3, q4⟩ := f1 _ (.inl rfl) he
     intro kn' m' act' w' hS' ce hx
     cases ce <;> first | exact hx.elim | skip
     obtain ⟨a1, a2, a3, a4⟩ := after kn' m' act' w' hS'.inv
     obtain ⟨u, p1, p2⟩ := results_sound (s := s.st) hS'.inv hS'.env q1
     exact ⟨hS'.defs, u, p1, .ret y, knAll kn' w.heap.size w', q3, q4 _ _ (a1 v u p2 q2), a3, a2, a4⟩
    | ret =>
     obtain ⟨v, q1, q2, y, q3, q4⟩ := f1 _ (.inr rfl) he
     intro kn' m' act' w' hS' ce hx
     cases ce <;> first | exact hx.elim | skip
     obtain ⟨a1, a2, a3, a4⟩ := after kn' m' act' w' hS'.inv
     obtain ⟨u, p1, p2⟩ := results_sound (s := s.st) hS'.inv hS'.env q1
     exact ⟨hS'.defs, u, p1, .ret y, knAll kn' w.heap.size w', q3, q4 _ _ (a1 v u p2 q2), a3, a2, a4⟩
    | exit i => exact absurd he (f3 i)
    | goto i => exact absurd he (f4 i)
    | pan v =>
     obtain ⟨q1, y, q2, q3⟩ := f2 v he
     intro kn' m' act' w' hS' u hu
     obtain ⟨a1, a2, a3, a4⟩ := after kn' m' act' w' hS'.inv
     exact ⟨hS'.defs, .pan y, knAll kn' w.heap.size w', q2, ⟨u, rfl, q3 _ _ (a1 v u hu q1)⟩, a3, a2, a4⟩
   ·cases h
theorem sigN_of {C : Cx} {l : List (Nat × Sig)} (ht : TabOK C l) {hint : Nat → RH} {g : FuncId} {args : List Sh} {res : Sh} {an : An} {f : Sh.denL args → Option res.den}
  (h : ∀ x, yfun C (sigTab l) hint g (fun fn => finN C fn res) args an x = f x) : SigOK C g (.n args res f) := fun x r hr =>
 yfun_sound (sigTab_ok ht) mgC_ok ((h x).trans hr) fun fn s => ⟨fun e he hf => by
  have hf' : (resA C.P fn.results.toList s.st).bind (fun v => resY s.σ res v id) = some r := by rcases he with rfl | rfl <;> exact hf
  obtain ⟨v, h1, h2⟩ := Option.bind_eq_some_iff.1 hf'
  obtain ⟨y, rfl, h3, h4⟩ := resY_sound h2
  exact ⟨v, h1, h3, _, rfl, h4⟩, (fun v hv => by cases hv), (fun i hi => by cases hi), (fun i hi => by cases hi)⟩
theorem SigOK.spec {C : Cx} {g : FuncId} {args : List Sh} {res : Sh} {f f' : Sh.denL args → Option res.den} (h : SigOK C g (.n args res f)) (hf : ∀ x r, f' x = some r → f x = some r) : SigOK C g (.n args res f') := fun x r hr => h x r (hf x r hr)
theorem SigOK.specK {C : Cx} {g : FuncId} {args : List Sh} {res : Sh} {f : Nat → Sh.denL args → Option res.den} {f' : Sh.denL args → Option res.den} (h : ∀ k, SigOK C g (.n args res (f k))) (hf : ∀ x r, f' x = some r → ∃ k, f k x = some r) : SigOK C g (.n args res f') := fun x r hr => by
 obtain ⟨k, hk⟩ := hf x r hr; exact h k x r hk
end Go.Ab

namespace Go.Ab
open Go Go.RowKit
def pairD {res : Sh} {post : Slots} (d : SS.den ⟨[(0, res)], post⟩) : res.den × denO post := (d.1.1, d.2)
def finV (C : Cx) (fn : Func) (res : Sh) (post : Slots) (s : XS) : Option (res.den × denO post) :=
 (resA C.P fn.results.toList s.st).bind fun v => match absS ⟨[(0, res)], post⟩ ⟨[v], s.σ, s.nx⟩ with
  | some d => some (pairD d)
  | none => none
def finO (C : Cx) (fn : Func) (res : Sh) (post : Slots) : AExit → XS → Option (res.den × denO post)
 | .normal, s => finV C fn res post s
 | .ret, s => finV C fn res post s
 | _, _ => none
noncomputable def yfunO (C : Cx) (sigs : FuncId → List Sig) (hint : Nat → RH) (g : FuncId) (pre : Slots) (args : List Sh) (post : Slots) (res : Sh) (an : An) (x : Sh.denL args × denO pre) : Option (res.den × denO post) :=
 match C.P.funcs[g]? with
 | none => none
 | some fn => match fn.body with
  | none => none
  | some c => if ((fn.name == "runtime.NumGoroutine") = false ∧ args.length ≤ fn.ntmps) then
    ycode C sigs hint pre.length fn.ntmps c an mgC ⟨patL (plO 0 pre x.2) args x.1 ++ List.replicate (fn.ntmps - args.length) .undef, osto 0 pre x.2, 0 + pre.length⟩ (finO C fn res post) else none
theorem finV_sound {C : Cx} {B : Base} {n : Nat} {k : Nat} {kn₀ kn : Kn} {m₀ m : Mp} {fn : Func} {res : Sh} {post : Slots} {s : XS} {r : res.den × denO post} {act : Act} {w : World} (hkeep : keepB k 0 post = true) (h : finV C fn res post s = some r)
  (hS : Sim C B n [] k kn₀ m₀ s kn m act w) : ∃ u, (results fn act.tmps).run C.P w = .ok u w ∧ ∃ m', Inv C B kn m' (osto k post r.2) (k + post.length) w ∧ (∀ i, i < k → m' i = m₀ i) ∧ (∀ j, j < post.length → ∃ loc, m' (nameOf k j post) = some loc) ∧ Rel kn m' (patV (plO k post r.2) res r.1) u := by
 obtain ⟨v, h1, h2⟩ := Option.bind_eq_some_iff.1 h
 split at h2
 ·rename_i d hd
  cases h2
  obtain ⟨u, p1, p2⟩ := results_sound (s := s.st) hS.inv hS.env h1
  have hE : RelEnv kn m (xenv [v]) 1 { tmps := #[u], defers := [] } := ⟨rfl, fun t => by
   cases t with
   | zero => exact p2
   | succ t => exact .base _⟩
  obtain ⟨m', q1, q2, q3, q4⟩ := norm_sound (n := 1) hd hkeep hS.inv hE hS.lay
  exact ⟨u, p1, m', q1, fun i hi => (q3 i hi).trans (hS.base i hi), q4, q2.tmp 0⟩
 ·cases h2
theorem sigO_of {C : Cx} {l : List (Nat × Sig)} (ht : TabOK C l) {hint : Nat → RH} {g : FuncId} {pre post : Slots} {args : List Sh} {res : Sh} {an : An} {f : Sh.denL args × denO pre → Option (res.den × denO post)} (hok : (OSig.mk pre args post res f).ok = true)
  (h : ∀ x, yfunO C (sigTab l) hint g pre args post res an x = f x) : SigOK C g (.o ⟨pre, args, post, res, f⟩) := by
 refine ⟨hok, fun x r hr B kn m w vs hI hlay hargs => ?_⟩
 simp only [OSig.ok, Bool.and_eq_true] at hok
 obtain ⟨hnew, hkeep, hslots, hres⟩ := hok
 have h := (h x).trans hr
 unfold yfunO at h
 split at h
 ·cases h
 ·rename_i fn hf
  split at h
  ·cases h
  ·rename_i c hb
   split at h
   ·rename_i hc
    obtain ⟨hname, hn⟩ := hc
    refine .inl ⟨bodyOK_mk hf hb hname, ?_⟩
    have hn' : (patL (plO 0 pre x.2) args x.1).length ≤ fn.ntmps := by rw [patL_len]; exact hn
    have hS : Sim C B fn.ntmps [] pre.length kn m ⟨patL (plO 0 pre x.2) args x.1 ++ List.replicate (fn.ntmps - args.length) .undef, osto 0 pre x.2, 0 + pre.length⟩ kn m { tmps := vs.toArray ++ Array.replicate (fn.ntmps - vs.toArray.size) undef, defers := [] } w :=
     ⟨by rw [xenv_args]; exact argEnv_rel hargs hn', rfl, hI, KnLe.refl _, by show pre.length ≤ 0 + pre.length; omega, fun i hi => rfl, hlay⟩
    refine calls_of_wp hf hb (ycode_sound (sigTab_ok ht) c an mgC mgC_ok _ _ r h _ (fun e s he => ?_) kn m _ w hS)
    cases e with
    | normal =>
     intro kn' m' act' w' hS' ce hx
     cases ce <;> first | exact hx.elim | skip
     obtain ⟨u, p1, m'', q1, q2, q3, q4⟩ := finV_sound hkeep he hS'
     exact ⟨hS'.defs, u, p1, kn', m'', hS'.le, q1, q2, q3, q4⟩
    | ret =>
     intro kn' m' act' w' hS' ce hx
     cases ce <;> first | exact hx.elim | skip
     obtain ⟨u, p1, m'', q1, q2, q3, q4⟩ := finV_sound hkeep he hS'
     exact ⟨hS'.defs, u, p1, kn', m'', hS'.le, q1, q2, q3, q4⟩
    | exit i => cases he
    | goto i => cases he
    | pan v => cases he
   ·cases h
end Go.Ab

set_option maxRecDepth 100000
namespace Go.Ab
open Go Go.RowKit Go.Proofs
noncomputable def errG : Option Nat := Tryz.prog.globalNamed "strconv.ErrRange"
theorem errG_rf (g : Nat) : RF (if errG = some g then .rptr [.erri false] else .any) := by
 split
 ·exact ⟨trivial, trivial⟩
 ·trivial
def powT : List Int := (List.range 20).map fun i => ((10 ^ i : Nat) : Int)
def tabL : List (String × IntKind × List Int) := [("internal/strconv.uint64pow10", .u64, powT)]
noncomputable def tabG (g : Nat) : Option (Array Value) := (tabL.find? fun q => decide (Tryz.prog.globalNamed q.1 = some g)).map fun q => (q.2.2.map fun z => Value.int q.2.1 z).toArray
noncomputable def CX : Cx := ⟨Tryz.prog, fun g => if errG = some g then .rptr [.erri false] else .any, errG_rf, tabG⟩
@[go_sem] theorem CX_P : CX.P = Tryz.prog := rfl
def Fm.eta (f : Fm) : Fm := .mk f.k f.n f.t f.l
theorem Fm.eta_eq (f : Fm) : f.eta = f := by cases f; rfl
theorem w64 {n : Int} (h1 : -9223372036854775808 ≤ n) (h2 : n ≤ 9223372036854775807) : IntKind.wrap .i64 n = n := by rw [IntKind.wrap_i64]; omega
def ixOK (i : Int) (n : Nat) : Bool := decide (0 ≤ i ∧ i < (n : Int))
def slOK (lo hi : Int) (n : Nat) : Bool := decide (0 ≤ lo ∧ lo ≤ hi ∧ hi ≤ (n : Int))
def hiOK (hi : Int) (n : Nat) : Bool := decide (0 ≤ hi ∧ hi ≤ (n : Int))
theorem ixOK_iff {i : Int} {n : Nat} : ixOK i n = true ↔ 0 ≤ i ∧ i < (n : Int) := by unfold ixOK; exact decide_eq_true_iff
theorem slOK_iff {lo hi : Int} {n : Nat} : slOK lo hi n = true ↔ 0 ≤ lo ∧ lo ≤ hi ∧ hi ≤ (n : Int) := by unfold slOK; exact decide_eq_true_iff
theorem hiOK_iff {hi : Int} {n : Nat} : hiOK hi n = true ↔ 0 ≤ hi ∧ hi ≤ (n : Int) := by unfold hiOK; exact decide_eq_true_iff
def Le {R : Type} (p q : Option R) : Prop := ∀ r, p = some r → q = some r
theorem Le.refl {R : Type} (p : Option R) : Le p p := fun _ h => h
theorem Le.cond {R : Type} {c : Bool} {a b a' b' : Option R} (h : Le a a') (k : Le b b') : Le (cond c a b) (cond c a' b') := by cases c; exact k; exact h
theorem Le.bind {A R : Type} {a a' : Option A} {f f' : A → Option R} (h : Le a a') (k : ∀ x, Le (f x) (f' x)) : Le (Option.bind a f) (Option.bind a' f') := fun r e => by
 obtain ⟨x, h1, h2⟩ := Option.bind_eq_some_iff.1 e
 exact Option.bind_eq_some_iff.2 ⟨x, h x h1, k x r h2⟩
theorem Le.map {A R : Type} {a a' : Option A} {f : A → R} (h : Le a a') : Le (Option.map f a) (Option.map f a') := fun r e => by
 obtain ⟨x, h1, rfl⟩ := Option.map_eq_some_iff.1 e
 exact Option.map_eq_some_iff.2 ⟨x, h x h1, rfl⟩
def iterE (d : Nat) {L R : Type} (b : L → Option (Step L R)) (l : L) : Option R := iterM b d l
theorem Le.loop {L R : Type} {b b' : L → Option (Step L R)} {d : Nat} (h : ∀ l, Le (b l) (b' l)) (l : L) : Le (iterE d b l) (loopM b' l) := fun r e => by
 refine loopM_iff.2 ⟨d, ?_⟩
 unfold iterE at e
 revert l
 induction d with
 | zero => intro l e; cases e
 | succ d ih =>
  intro l e
  simp only [iterM] at e ⊢
  cases hb : b l with
  | none => rw [hb] at e; cases e
  | some q =>
   rw [hb] at e
   rw [h l q hb]
   cases q with
   | next l' => exact ih l' e
   | done r' => exact e
noncomputable def limF {R : Type} (f : Nat → Option R) : Option R :=
 match Classical.propDecidable (∃ r k, f k = some r) with
 | .isTrue h => some (Classical.choose h)
 | .isFalse _ => none
theorem limF_ex {R : Type} {f : Nat → Option R} {r : R} (h : limF f = some r) : ∃ k, f k = some r := by
 unfold limF at h
 split at h
 ·rename_i h' e; cases h; exact Classical.choose_spec h'
 ·cases h
theorem limF_eq {R : Type} {f : Nat → Option R} {r : R} (h : ∃ k, f k = some r) (u : ∀ k r', f k = some r' → r' = r) : limF f = some r := by
 cases hx : limF f with
 | some r' => obtain ⟨k, hk⟩ := limF_ex hx; rw [u k r' hk]
 | none =>
  unfold limF at hx
  split at hx
  ·cases hx
  ·rename_i h' e; exact absurd ⟨r, h⟩ h'
theorem SigOK.limN {C : Cx} {g : FuncId} {args : List Sh} {res : Sh} {f : Nat → Sh.denL args → Option res.den} {f' : Sh.denL args → Option res.den} (h : ∀ k, SigOK C g (.n args res (f k))) (hf : ∀ x r, f' x = some r → ∃ k, f k x = some r) : SigOK C g (.n args res f') := SigOK.specK h hf
theorem SigOK.limO {C : Cx} {g : FuncId} {pre post : Slots} {args : List Sh} {res : Sh} {f : Nat → Sh.denL args × denO pre → Option (res.den × denO post)} {f' : Sh.denL args × denO pre → Option (res.den × denO post)} (h : ∀ k, SigOK C g (.o ⟨pre, args, post, res, f k⟩)) (hf : ∀ x r, f' x = some r → ∃ k, f k x = some r) : SigOK C g (.o ⟨pre, args, post, res, f'⟩) :=
 ⟨(h 0).1, fun x r hr => by obtain ⟨k, hk⟩ := hf x r hr; exact (h k).2 x r hk⟩
end Go.Ab

namespace Go.Ab
open Go
theorem Fm.ind {P : Fm → Prop} (h : ∀ k n t l, (∀ f ∈ l, P f) → P (.mk k n t l)) : ∀ f, P f := fun f => Fm.rec (motive_1 := P) (motive_2 := fun l => ∀ f ∈ l, P f) (fun k n t l ih => h k n t l ih) (fun f hf => by cases hf) (fun f r hf hr g hg => by
  rcases List.mem_cons.1 hg with rfl | hg
  ·exact hf
  ·exact hr g hg) f
mutual
def Fm.big : Fm → Nat
 | .mk _ _ t l => 1 + t.length + Fm.bigL l
def Fm.bigL : List Fm → Nat
 | [] => 0
 | f :: r => f.big + Fm.bigL r
end
theorem big_mem {l : List Fm} {f : Fm} (h : f ∈ l) : f.big ≤ Fm.bigL l := by
 induction l with
 | nil => cases h
 | cons g r ih => rcases List.mem_cons.1 h with rfl | h <;> simp only [Fm.bigL] <;> first | omega | (have := ih h; omega)
theorem big_pos (f : Fm) : 1 ≤ f.big := by cases f; simp only [Fm.big]; omega
theorem big_kids (f : Fm) : Fm.bigL f.l < f.big := by cases f; simp only [Fm.big, Fm.l]; omega
theorem length_le_big (l : List Fm) : l.length ≤ Fm.bigL l := by
 induction l with
 | nil => simp [Fm.bigL]
 | cons f r ih => simp only [Fm.bigL, List.length_cons]; have := big_pos f; omega
def cmpI (a b : Int) : Int := if a < b then -1 else if b < a then 1 else 0
def cmpS (a b : List UInt8) : Int := if Op.bytesLess a b = true then -1 else if a = b then 0 else 1
mutual
def cmpF : Fm → Fm → Int
 | .mk k n t l, g => if ¬ k = g.k then cmpI k g.k else if k = 0 then cmpI n g.n else if k = 1 ∨ k = 2 then cmpS t g.t else if k = 3 then cmpL l g.l else 0
def cmpL : List Fm → List Fm → Int
 | [], m => if m = [] then 0 else -1
 | f :: r, m => match m with
  | [] => 1
  | g :: m => if ¬ cmpF f g = 0 then cmpF f g else cmpL r m
end
theorem cmpL_drop {l m : List Fm} {i : Nat} (h : i < l.length) (h' : i < m.length) : cmpL (l.drop i) (m.drop i) = if ¬ cmpF l[i] m[i] = 0 then cmpF l[i] m[i] else cmpL (l.drop (i + 1)) (m.drop (i + 1)) := by
 rw [List.drop_eq_getElem_cons h, List.drop_eq_getElem_cons h']; simp only [cmpL]
theorem bytesLess_irrefl : ∀ a : List UInt8, Op.bytesLess a a = false
 | [] => rfl
 | a :: x => by simp [Op.bytesLess, bytesLess_irrefl x]
theorem cmpF_mk (k k' : Int) (n n' : Int) (t t' : List UInt8) (l l' : List Fm) : cmpF (.mk k n t l) (.mk k' n' t' l') = if k = k' then (if k = 0 then cmpI n n' else if k = 1 ∨ k = 2 then cmpS t t' else if k = 3 then cmpL l l' else 0) else cmpI k k' := by
 by_cases h : k = k'
 ·subst h; simp [cmpF, Fm.k, Fm.n, Fm.t, Fm.l]
 ·simp [cmpF, Fm.k, h]
theorem cmpI_self (a : Int) : cmpI a a = 0 := by unfold cmpI; simp
theorem cmpL_self_of : ∀ l : List Fm, (∀ f ∈ l, cmpF f f = 0) → cmpL l l = 0
 | [], _ => by simp [cmpL]
 | f :: r, h => by simp only [cmpL, h f (by simp)]; simpa using cmpL_self_of r (fun f hf => h f (by simp [hf]))
theorem cmpS_self (a : List UInt8) : cmpS a a = 0 := by simp [cmpS, bytesLess_irrefl]
theorem cmpF_self : ∀ f : Fm, cmpF f f = 0 := Fm.ind fun k n t l ih => by
 rw [cmpF_mk, if_pos rfl]
 split
 ·exact cmpI_self _
 ·split
  ·exact cmpS_self _
  ·split
   ·exact cmpL_self_of l ih
   ·rfl
def Up {R : Type} (N : Prop) (o : Option R) (v : R) : Prop := o = some v ∨ (o = none ∧ N)
theorem Up.mono {R : Type} {N N' : Prop} {o : Option R} {v : R} (h : Up N o v) (k : N → N') : Up N' o v := h.imp id fun h => ⟨h.1, k h.2⟩
theorem Up.of {R : Type} {N : Prop} {o : Option R} {v : R} (h : o = some v) : Up N o v := .inl h
theorem Up.bind {R S : Type} {N : Prop} {o : Option R} {v : R} {F : R → Option S} {u : S} (h : Up N o v) (k : Up N (F v) u) : Up N (Option.bind o F) u := by
 rcases h with h | ⟨h, n⟩
 ·rw [h]; exact k
 ·exact .inr ⟨by rw [h]; rfl, n⟩
theorem limF_up {R : Type} {f : Nat → Option R} {v : R} {b : Nat} (h : ∀ k, Up (k < b) (f k) v) : limF f = some v := by
 refine limF_eq ⟨b, ?_⟩ fun k r hr => ?_
 ·rcases h b with h | ⟨_, h⟩
  ·exact h
  ·omega
 ·rcases h k with h | ⟨h, _⟩
  ·rw [h] at hr; cases hr; rfl
  ·rw [h] at hr; cases hr
theorem loopM_none {L R : Type} {b : L → Option (Step L R)} {l : L} (h : b l = none) : loopM b l = none := by
 cases hx : loopM b l with
 | none => rfl
 | some r =>
  obtain ⟨d, hd⟩ := loopM_iff.1 hx
  cases d with
  | zero => cases hd
  | succ d => simp only [iterM, h] at hd; cases hd
theorem loop_ix {L R A : Type} {N : Prop} {b : L → Option (Step L R)} {F : R → Option A} (st : Nat → L) (res : Nat → A) (n : Nat)
  (hstep : ∀ i, i < n → (b (st i) = some (.next (st (i + 1))) ∧ res i = res (i + 1)) ∨ (∃ r, b (st i) = some (.done r) ∧ Up N (F r) (res i)) ∨ (b (st i) = none ∧ N))
  (hend : ∃ r, b (st n) = some (.done r) ∧ Up N (F r) (res n)) : Up N (Option.bind (loopM b (st 0)) F) (res 0) := by
 have key : ∀ j i, i + j = n → Up N (Option.bind (loopM b (st i)) F) (res i) := by
  intro j
  induction j with
  | zero =>
   intro i hi
   obtain rfl : i = n := by omega
   obtain ⟨r, h1, h2⟩ := hend
   rw [loopM_done h1]; exact h2
  | succ j ih =>
   intro i hi
   rcases hstep i (by omega) with ⟨h1, h2⟩ | ⟨r, h1, h2⟩ | ⟨h1, h2⟩
   ·rw [loopM_next h1, h2]; exact ih (i + 1) (by omega)
   ·rw [loopM_done h1]; exact h2
   ·rw [loopM_none h1]; exact .inr ⟨rfl, h2⟩
 exact key n 0 (by omega)
theorem wrapN {i : Nat} (h : i < 4611686018427387904) : IntKind.wrap .i64 ((i : Int) + 1) = ((i + 1 : Nat) : Int) := by
 rw [w64 (by omega) (by omega)]; rfl
theorem getD_in {α : Type} {l : List α} {i : Nat} (h : i < l.length) (d : α) : l.getD i d = l[i] := by simp [h]
end Go.Ab

set_option maxRecDepth 100000
namespace Go.Ab
open Go Go.RowKit Go.Proofs
def knW (W : World) : Kn := fun b o => W.cell? ⟨b, o, none⟩
def ErrW (W : World) : Prop := (∀ g, errG = some g → ∃ t v, W.cell? ⟨g, 0, none⟩ = some (.iface t v)) ∧ TabW CX W
theorem knOK_W (W : World) (he : ErrW W) : KnOK CX (knW W) W := ⟨fun _ _ _ h => h, fun g => by
 show Rel _ _ (if errG = some g then .rptr [.erri false] else .any) _
 split
 ·rename_i h
  obtain ⟨t, v, hc⟩ := he.1 g h
  refine .rptr _ g 0 (fun _ => .iface t v) (fun j x a => ?_) (fun j x a => ?_) (fun j x a => rfl)
  all_goals
   cases j with
   | zero =>
    simp at a
    subst a
    first | exact hc | exact .erriSome t v
   | succ j => simp at a
 ·exact .any _, he.2⟩
def bigE : (e : E) → e.den → Nat
 | .str, (l : List UInt8) => l.length
 | .form, (f : Fm) => f.big
 | .pr a b, x => bigE a x.1 + bigE b x.2
 | .slice e, (l : List e.den) => (l.map fun x => max 1 (bigE e x)).sum
 | _, _ => 0
def wfE : (e : E) → e.den → Prop
 | .int .i64, (n : Int) => -9223372036854775808 ≤ n ∧ n ≤ 9223372036854775807
 | .pr a b, x => wfE a x.1 ∧ wfE b x.2
 | .slice e, (l : List e.den) => ∀ x ∈ l, wfE e x
 | _, _ => True
def isI64 (P : Program) (t : TypeId) : Bool := match P.underlying t with
 | some (.int .i64) => Nat.beq (P.cellsOf t) 1
 | _ => false
def isStr (P : Program) (t : TypeId) : Bool := match P.underlying t with
 | some .string => Nat.beq (P.cellsOf t) 1
 | _ => false
def isSl (P : Program) (t e : TypeId) : Bool := match P.underlying t with
 | some (.slice e') => Nat.beq e' e && Nat.beq (P.cellsOf t) 1
 | _ => false
def kFs (r : TypeId → E → Bool) (P : Program) : List Field → Nat → E → Bool
 | [], _, .un => true
 | [f], o, e => Nat.beq f.offset o && (Nat.beq (P.cellsOf f.type) e.size && r f.type e)
 | f :: fs, o, .pr a b => Nat.beq f.offset o && (Nat.beq (P.cellsOf f.type) a.size && (r f.type a && kFs r P fs (o + a.size) b))
 | _, _, _ => false
def isForm (P : Program) (t : TypeId) : Bool := match P.underlying t with
 | some (.struct fs) => match fs.toList with
  | [a, b, c, d] => (Nat.beq a.offset 0 && (Nat.beq b.offset 1 && (Nat.beq c.offset 2 && Nat.beq d.offset 3))) && ((isI64 P a.type && isI64 P b.type) && (isStr P c.type && (isSl P d.type t && Nat.beq (P.cellsOf t) 4)))
  | _ => false
 | _ => false
def kOK (P : Program) : Nat → TypeId → E → Bool
 | 0, _, _ => false
 | n + 1, t, e => match e with
  | .int .i64 => isI64 P t
  | .str => isStr P t
  | .bool => match P.underlying t with
   | some .bool => true
   | _ => false
  | .form => isForm P t
  | .slice e => match P.underlying t with
   | some (.slice t') => kOK P n t' e && (Nat.beq (P.cellsOf t') e.size && Nat.blt 0 e.size)
   | _ => false
  | e => match P.underlying t with
   | some (.struct fs) => Nat.beq (P.cellsOf t) e.size && kFs (kOK P n) P fs.toList 0 e
   | _ => false
structure Bulk {H : Type} (bulk : DataW H → Nat) (bulkAll : List (DataW H) → Nat) : Prop where
 hs : ∀ l, bulk (.lit (.string l)) = l.length + 1
 hsl : ∀ l r, bulkAll l ≤ bulk (.slice l r)
 hag : ∀ l, bulk (.agg l) = bulkAll l + 1
 hp : ∀ d, 1 ≤ bulk d
 h0 : bulkAll [] = 0
 h1 : ∀ d l, bulkAll (d :: l) = bulk d + bulkAll l
section
variable {H : Type} {enc : TypeId × Value → H} {W : World} {sp : Nat → Bool} {f : Nat} {cs : List Value} {d : DataW H} {ps : List MemPlace} {P : Program}
theorem mapM_get {α β : Type} {g : α → Option β} : ∀ {l : List α} {r : List β}, l.mapM g = some r → r.length = l.length ∧ ∀ (i : Nat) (x : α), l[i]? = some x → ∃ y, r[i]? = some y ∧ g x = some y
 | [], r, h => by
  simp at h
  subst h
  exact ⟨rfl, fun i x h => by simp at h⟩
 | a :: l, r, h => by
  simp only [List.mapM_cons, Option.bind_eq_bind, Option.bind_eq_some_iff] at h
  obtain ⟨b, h1, r', h2, h3⟩ := h
  cases h3
  obtain ⟨q1, q2⟩ := mapM_get h2
  refine ⟨by simp [q1], fun i x hx => ?_⟩
  cases i with
  | zero => simp at hx; subst hx; exact ⟨b, rfl, h1⟩
  | succ i => simpa using q2 i x (by simpa using hx)
theorem cells?_get {a : Addr} {n : Nat} {cs : List Value} (h : W.cells? 0 a n = some cs) : cs.length = n ∧ ∀ i, i < n → ∃ v, cs[i]? = some v ∧ W.cell? (a.add i) = some v := by
 unfold World.cells? at h
 rw [if_pos (Nat.zero_le _)] at h
 obtain ⟨h1, h2⟩ := mapM_get h
 refine ⟨by simpa using h1, fun i hi => ?_⟩
 obtain ⟨v, a1, a2⟩ := h2 i i (by simp [hi])
 exact ⟨v, a1, a2⟩
theorem addr_none {a : Addr} {v : Value} (h : W.cell? a = some v) : a = ⟨a.block, a.off, none⟩ := by
 obtain ⟨b, o, s⟩ := a
 cases s with
 | none => rfl
 | some k =>
  unfold World.cell? at h
  simp at h
  split at h <;> cases h
theorem bulk_mem {bulk : DataW H → Nat} {bulkAll : List (DataW H) → Nat} (h1 : ∀ d l, bulkAll (d :: l) = bulk d + bulkAll l) : ∀ (ds : List (DataW H)) (i : Nat) (d : DataW H), ds[i]? = some d → bulk d ≤ bulkAll ds
 | [], i, d, h => by simp at h
 | x :: ds, 0, d, h => by simp at h; subst h; rw [h1]; omega
 | x :: ds, i + 1, d, h => by have := bulk_mem h1 ds i d (by simpa using h); rw [h1]; omega
theorem bulk_length {bulk : DataW H → Nat} {bulkAll : List (DataW H) → Nat} (hp : ∀ d, 1 ≤ bulk d) (h1 : ∀ d l, bulkAll (d :: l) = bulk d + bulkAll l) : ∀ (ds : List (DataW H)), ds.length ≤ bulkAll ds
 | [] => Nat.zero_le _
 | x :: ds => by have a := bulk_length hp h1 ds; have b := hp x; rw [h1, List.length_cons]; omega
theorem sum_le {α : Type} {bulk : DataW H → Nat} {bulkAll : List (DataW H) → Nat} (h1 : ∀ d l, bulkAll (d :: l) = bulk d + bulkAll l) (hp : ∀ d, 1 ≤ bulk d) (g : α → Nat) : ∀ (l : List α) (ds : List (DataW H)), l.length = ds.length → (∀ (i : Nat) (x : α) (d : DataW H), l[i]? = some x → ds[i]? = some d → g x ≤ bulk d) → (l.map fun x => max 1 (g x)).sum ≤ bulkAll ds
 | [], ds, hl, h => by simp
 | x :: l, [], hl, h => by simp at hl
 | x :: l, d :: ds, hl, h => by
  simp only [List.map_cons, List.sum_cons, h1]
  have a1 := h 0 x d rfl rfl
  have a2 := sum_le h1 hp g l ds (by simpa using hl) (fun i x d a b => h (i + 1) x d (by simpa using a) (by simpa using b))
  have a3 := hp d
  omega
theorem list_of {α : Type} {Q : Nat → α → Prop} : ∀ (n : Nat), (∀ i, i < n → ∃ x, Q i x) → ∃ l : List α, l.length = n ∧ ∀ (i : Nat) (x : α), l[i]? = some x → Q i x
 | 0, _ => ⟨[], rfl, fun i x h => by simp at h⟩
 | n + 1, h => by
  obtain ⟨l, h1, h2⟩ := list_of n (fun i hi => h i (by omega))
  obtain ⟨x, hx⟩ := h n (by omega)
  refine ⟨l ++ [x], by simp [h1], fun i y hy => ?_⟩
  rcases Nat.lt_or_ge i n with hi | hi
  ·rw [List.getElem?_append_left (by omega)] at hy; exact h2 i y hy
  ·rw [List.getElem?_append_right (by omega)] at hy
   have : i = n := by
    have := (List.getElem?_eq_some_iff.1 hy).1
    simp at this; omega
   subst this
   simp [h1] at hy
   subst hy
   exact hx
theorem rel_vec {sz : Nat} (hsz : 0 < sz) {rows : List (List AV)} {a : Addr} {len cap : Nat} (hl : rows.length = len) (hle : len ≤ cap) (h62 : len ≤ 4611686018427387904) (hr : ∀ (i : Nat) (row : List AV), rows[i]? = some row → row.length = sz ∧ ∃ rowv, W.cells? 0 (a.add (i * sz)) sz = some rowv ∧ RelC (knW W) m0 row rowv) :
  Rel (knW W) m0 (.vec sz rows) (.slice (some a) len cap) := by
 cases rows with
 | nil => simp at hl; subst hl; exact .vecNil _ _ _
 | cons r0 rows =>
  obtain ⟨_, rowv0, b0, c0⟩ := hr 0 r0 rfl
  obtain ⟨_, hc0⟩ := cells?_get b0
  obtain ⟨v0, _, hv0⟩ := hc0 0 hsz
  simp [Addr.add] at hv0
  have ha := addr_none hv0
  generalize a.block = b at ha
  generalize a.off = o at ha
  subst ha
  have hcell : ∀ (i : Nat) (row : List AV) (j : Nat) (x : AV), (r0 :: rows)[i]? = some row → row[j]? = some x → ∃ v, W.cell? ⟨b, o + i * sz + j, none⟩ = some v ∧ Rel (knW W) m0 x v ∧ v.oneCell' = true := by
   intro i row j x hrow hx
   obtain ⟨hrl0, rowv, bi, ci⟩ := hr i row hrow
   obtain ⟨hrl, hci⟩ := cells?_get bi
   have hj : j < sz := by have := (List.getElem?_eq_some_iff.1 hx).1; omega
   obtain ⟨v, hv1, hv2⟩ := hci j hj
   rw [add_mk, add_mk] at hv2
   exact ⟨v, hv2, ci.1.2 j x v hx hv1, ci.2 v (List.mem_of_getElem? hv1)⟩
  have := Rel.vec (kn := knW W) (m := m0) sz (r0 :: rows) b o cap (fun i j => (W.cell? ⟨b, o + i * sz + j, none⟩).getD undef) (by omega) (by rw [hl]; omega)
   (fun i row hrow => (hr i row hrow).1)
   (fun i row j x hrow hx => by
    obtain ⟨v, h1, _⟩ := hcell i row j x hrow hx
    show W.cell? _ = _
    rw [h1]; rfl)
   (fun i row j x hrow hx => by
    obtain ⟨v, h1, h2, _⟩ := hcell i row j x hrow hx
    simp only [h1, Option.getD_some]; exact h2)
   (fun i row j x hrow hx => by
    obtain ⟨v, h1, _, h3⟩ := hcell i row j x hrow hx
    simp only [h1, Option.getD_some]; exact h3)
  rw [hl] at this
  exact this
theorem trod_i64 {t : TypeId} (hk : isI64 P t = true) (h : DataW.trod enc P W 0 sp true f t cs = some (d, ps)) : ∃ n, cs = [.int .i64 n] ∧ d = .lit (.int .i64 n) ∧ -9223372036854775808 ≤ n ∧ n ≤ 9223372036854775807 := by
 cases f with
 | zero => unfold DataW.trod at h; cases h
 | succ f =>
  unfold isI64 at hk
  split at hk
  ·rename_i hu
   unfold DataW.trod at h
   rw [hu] at h
   split at h <;> try (simp_all; done)
   rename_i k k' n hcs
   cases hcs
   split at h
   ·rename_i hw
    obtain ⟨rfl, hw⟩ := hw
    cases h
    simp only [Lit.wf, Bool.and_eq_true, decide_eq_true_eq] at hw
    exact ⟨n, rfl, rfl, hw.1, hw.2⟩
   ·cases h
  ·cases hk
theorem trod_str {t : TypeId} (hk : isStr P t = true) (h : DataW.trod enc P W 0 sp true f t cs = some (d, ps)) : ∃ s, cs = [.string s] ∧ d = .lit (.string s.data.toList) := by
 cases f with
 | zero => unfold DataW.trod at h; cases h
 | succ f =>
  unfold isStr at hk
  split at hk
  ·rename_i hu
   unfold DataW.trod at h
   rw [hu] at h
   split at h <;> simp_all
  ·cases hk
theorem trod_slice {t e : TypeId} (hu : P.underlying t = some (.slice e)) (h : DataW.trod enc P W 0 sp true (f + 1) t cs = some (d, ps)) : (cs = [.slice none 0 0] ∧ d = .nil) ∨
  ∃ a len cap elems rest, cs = [.slice (some a) len cap] ∧ len ≤ cap ∧ cap ≤ maxLen ∧ d = .slice (elems.map (·.1)) rest ∧
   (List.range len).mapM (fun i => (W.cells? 0 (a.add (i * P.cellsOf e)) (P.cellsOf e)).bind (DataW.trod enc P W 0 sp true f e)) = some elems := by
 unfold DataW.trod at h
 rw [hu] at h
 split at h <;> try (simp_all; done)
 rename_i e' a len cap he
 cases he
 refine .inr ?_
 dsimp only at h
 split at h
 ·rename_i hc
  cases he : (List.range len).mapM (fun i => (W.cells? 0 (a.add (i * P.cellsOf e)) (P.cellsOf e)).bind (DataW.trod enc P W 0 sp true f e)) with
  | none => rw [he] at h; cases h
  | some elems =>
   rw [he] at h
   simp only [Option.bind_some] at h
   rw [Option.map_eq_some_iff] at h
   obtain ⟨rest, _, h2⟩ := h
   simp only [Prod.mk.injEq] at h2
   exact ⟨a, len, cap, elems, _, rfl, hc.2.1, hc.2.2, h2.1.symm, he⟩
 ·cases h
variable {bulk : DataW H → Nat} {bulkAll : List (DataW H) → Nat}
theorem read_slice (B : Bulk bulk bulkAll) {α : Type} {t e : TypeId} {sz : Nat} (hsz : 0 < sz) (hce : P.cellsOf e = sz) (row : α → List AV) (hrow : ∀ x, (row x).length = sz) (big : α → Nat) (wf : α → Prop) (hu : P.underlying t = some (.slice e))
  (ih : ∀ cs d ps, DataW.trod enc P W 0 sp true f e cs = some (d, ps) → bulk d ≤ 4611686018427387904 → ∃ x : α, RelC (knW W) m0 (row x) cs ∧ big x ≤ bulk d ∧ wf x)
  (h : DataW.trod enc P W 0 sp true (f + 1) t cs = some (d, ps)) (hb : bulk d ≤ 4611686018427387904) : ∃ l : List α, RelC (knW W) m0 [.vec sz (l.map row)] cs ∧ (l.map fun x => max 1 (big x)).sum ≤ bulk d ∧ ∀ x ∈ l, wf x := by
 rcases trod_slice hu h with ⟨rfl, rfl⟩ | ⟨a, len, cap, elems, rest, rfl, hle, hmx, rfl, hm⟩
 ·refine ⟨[], ⟨.cons (.vecNone _) (.nil _ _), fun v hv => ?_⟩, by simp, fun x hx => by cases hx⟩
  simp at hv; subst hv; rfl
 ·obtain ⟨m1, m2⟩ := mapM_get hm
  simp only [List.length_range] at m1
  have hbs := B.hsl (elems.map (·.1)) rest
  have hbl := bulk_length B.hp B.h1 (elems.map (·.1))
  rw [List.length_map, m1] at hbl
  have each : ∀ i, i < len → ∃ x : α, ∃ rowv : List Value, ∃ y, elems[i]? = some y ∧ W.cells? 0 (a.add (i * sz)) sz = some rowv ∧ RelC (knW W) m0 (row x) rowv ∧ big x ≤ bulk y.1 ∧ wf x := by
   intro i hi
   obtain ⟨y, a1, a2⟩ := m2 i i (by simp [hi])
   simp only [hce, Option.bind_eq_some_iff] at a2
   obtain ⟨rowv, b1, b2⟩ := a2
   have hby := bulk_mem B.h1 (elems.map (·.1)) i y.1 (by rw [List.getElem?_map, a1]; rfl)
   obtain ⟨x, c1, c2, c3⟩ := ih rowv y.1 y.2 b2 (by omega)
   exact ⟨x, rowv, y, a1, b1, c1, c2, c3⟩
  obtain ⟨l, l1, l2⟩ := list_of len each
  refine ⟨l, ⟨.cons ?_ (.nil _ _), fun v hv => by simp at hv; subst hv; rfl⟩, ?_, fun x hx => ?_⟩
  ·refine rel_vec hsz (by simpa using l1) hle (by omega) fun i r hr => ?_
   rw [List.getElem?_map, Option.map_eq_some_iff] at hr
   obtain ⟨x, hx, rfl⟩ := hr
   obtain ⟨rowv, y, _, b1, c1, _⟩ := l2 i x hx
   exact ⟨hrow x, rowv, b1, c1⟩
  ·have := sum_le B.h1 B.hp big l (elems.map (·.1)) (by simp [l1, m1]) (fun i x d hx hd => by
    obtain ⟨rowv, y, a1, _, _, c2, _⟩ := l2 i x hx
    rw [List.getElem?_map, a1] at hd
    simp at hd
    subst hd
    exact c2)
   omega
  ·obtain ⟨i, hi⟩ := List.getElem?_of_mem hx
   obtain ⟨_, _, _, _, _, _, c3⟩ := l2 i x hi
   exact c3
theorem bigL_sum (l : List Fm) : (l.map fun x => max 1 x.big).sum = Fm.bigL l := by
 induction l with
 | nil => rfl
 | cons f r ih => simp only [List.map_cons, List.sum_cons, Fm.bigL, ih]; have := big_pos f; omega
theorem form_read (B : Bulk bulk bulkAll) {t : TypeId} (hk : isForm P t = true) : ∀ (f : Nat) (cs : List Value) (d : DataW H) (ps : List MemPlace), DataW.trod enc P W 0 sp true f t cs = some (d, ps) → bulk d ≤ 4611686018427387904 →
  ∃ x : Fm, RelC (knW W) m0 x.row cs ∧ x.big ≤ bulk d := by
 intro f
 induction f using Nat.strongRecOn with
 | _ f ih =>
 intro cs d ps h hbd
 cases f with
 | zero => unfold DataW.trod at h; cases h
 | succ f =>
 have hk' := hk
 unfold isForm at hk
 split at hk
 ·rename_i fs hu
  split at hk
  ·rename_i f0 f1 f2 f3 hfs
   simp only [Bool.and_eq_true] at hk
   obtain ⟨⟨o0, o1, o2, o3⟩, ⟨k0, k1⟩, k2, k3, hc⟩ := hk
   have o0 := Nat.eq_of_beq_eq_true o0
   have o1 := Nat.eq_of_beq_eq_true o1
   have o2 := Nat.eq_of_beq_eq_true o2
   have o3 := Nat.eq_of_beq_eq_true o3
   have hc := Nat.eq_of_beq_eq_true hc
   have c1 : ∀ {u : TypeId}, isI64 P u = true → P.cellsOf u = 1 := fun {u} h => by
    unfold isI64 at h
    split at h
    ·exact Nat.eq_of_beq_eq_true h
    ·cases h
   have c2 : ∀ {u : TypeId}, isStr P u = true → P.cellsOf u = 1 := fun {u} h => by
    unfold isStr at h
    split at h
    ·exact Nat.eq_of_beq_eq_true h
    ·cases h
   obtain ⟨hu3, c3⟩ : P.underlying f3.type = some (.slice t) ∧ P.cellsOf f3.type = 1 := by
    unfold isSl at k3
    split at k3
    ·rename_i e' he
     rw [Bool.and_eq_true] at k3
     rw [Nat.eq_of_beq_eq_true k3.1] at he
     exact ⟨he, Nat.eq_of_beq_eq_true k3.2⟩
    ·cases k3
   unfold DataW.trod at h
   rw [hu] at h
   simp only [hc, hfs] at h
   split at h
   ·rename_i hlen
    rw [Option.map_eq_some_iff] at h
    obtain ⟨r, hr, hd⟩ := h
    obtain ⟨q1, q2⟩ := mapM_get hr
    rcases cs with _ | ⟨c0, _ | ⟨cc1, _ | ⟨cc2, _ | ⟨cc3, _ | ⟨c4, cs⟩⟩⟩⟩⟩ <;> simp at hlen
    rcases r with _ | ⟨y0, _ | ⟨y1, _ | ⟨y2, _ | ⟨y3, _ | ⟨y4, r⟩⟩⟩⟩⟩ <;> simp at q1
    obtain ⟨z0, e0, g0⟩ := q2 0 f0 rfl
    obtain ⟨z1, e1, g1⟩ := q2 1 f1 rfl
    obtain ⟨z2, e2, g2⟩ := q2 2 f2 rfl
    obtain ⟨z3, e3, g3⟩ := q2 3 f3 rfl
    simp at e0 e1 e2 e3
    subst e0; subst e1; subst e2; subst e3
    rw [o0, c1 k0] at g0
    rw [o1, c1 k1] at g1
    rw [o2, c2 k2] at g2
    rw [o3, c3] at g3
    simp at g0 g1 g2 g3
    obtain ⟨d0, p0⟩ := y0
    obtain ⟨d1, p1⟩ := y1
    obtain ⟨d2, p2⟩ := y2
    obtain ⟨d3, p3⟩ := y3
    obtain ⟨k, hk0, rfl, -, -⟩ := trod_i64 k0 g0
    obtain ⟨n, hn', rfl, -, -⟩ := trod_i64 k1 g1
    obtain ⟨s, hs, rfl⟩ := trod_str k2 g2
    simp only [List.cons.injEq, and_true] at hk0 hn' hs
    subst hk0; subst hn'; subst hs
    simp only [Prod.mk.injEq] at hd
    obtain ⟨rfl, -⟩ := hd
    simp only [List.map_cons, List.map_nil, B.hag, B.h1, B.h0, B.hs] at hbd ⊢
    cases f with
    | zero => unfold DataW.trod at g3; cases g3
    | succ f =>
    obtain ⟨l, hl, hlb, -⟩ := read_slice B (sz := 4) (by omega) hc Fm.row Fm.row_len Fm.big (fun _ => True) hu3 (fun cs d ps hh hb => by
     obtain ⟨x, h1, h2⟩ := ih f (by omega) cs d ps hh hb
     exact ⟨x, h1, h2, trivial⟩) g3 (by omega)
    rw [bigL_sum] at hlb
    have hstr : Rel (knW W) m0 (.str s.data.toList) (.string s) := by
     have := Rel.str (kn := knW W) (m := m0) s.data.toList
     simpa using this
    refine ⟨.mk k n s.data.toList l, ⟨?_, ?_⟩, by simp only [Fm.big]; omega⟩
    ·simp only [Fm.row, Fm.rows_map]
     exact .cons (.int _ _) (.cons (.int _ _) (.cons hstr hl.1))
    ·intro v hv
     simp at hv
     rcases hv with rfl | rfl | rfl | rfl
     ·rfl
     ·rfl
     ·rfl
     ·exact hl.2 _ (by simp)
   ·cases h
  ·cases hk
 ·cases hk
theorem read_fields (B : Bulk bulk bulkAll) {r : TypeId → E → Bool} (ih : ∀ (t : TypeId) (e : E) cs d ps, r t e = true → DataW.trod enc P W 0 sp true f t cs = some (d, ps) → bulk d ≤ 4611686018427387904 → ∃ x : e.den, RelC (knW W) m0 (e.row x) cs ∧ bigE e x ≤ bulk d ∧ wfE e x) :
  ∀ (fs : List Field) (o : Nat) (e : E) (cs : List Value) (ys : List (DataW H × List MemPlace)), kFs r P fs o e = true → cs.length = o + e.size → fs.mapM (fun g => DataW.trod enc P W 0 sp true f g.type ((cs.drop g.offset).take (P.cellsOf g.type))) = some ys → bulkAll (ys.map (·.1)) ≤ 4611686018427387904 →
   ∃ x : e.den, RelC (knW W) m0 (e.row x) (cs.drop o) ∧ bigE e x ≤ bulkAll (ys.map (·.1)) ∧ wfE e x := by
 intro fs
 induction fs with
 | nil =>
  intro o e cs ys hk hl hm hb
  cases e <;> simp only [kFs] at hk <;> try (cases hk; done)
  refine ⟨(), ?_, by simp [bigE], trivial⟩
  have : cs.drop o = [] := List.drop_eq_nil_iff.2 (by simp only [E.size] at hl; omega)
  rw [this]
  exact ⟨.nil _ _, fun v hv => by cases hv⟩
 | cons g fs ihf =>
  intro o e cs ys hk hl hm hb
  obtain ⟨m1, m2⟩ := mapM_get hm
  obtain ⟨y0, e0, g0⟩ := m2 0 g rfl
  rcases ys with _ | ⟨y, ys⟩
  ·simp at e0
  simp only [List.getElem?_cons_zero, Option.some.injEq] at e0
  subst e0
  simp only [List.map_cons, B.h1] at hb ⊢
  have one : ∀ (a : E), g.offset = o → P.cellsOf g.type = a.size → r g.type a = true → ∃ x : a.den, RelC (knW W) m0 (a.row x) ((cs.drop o).take a.size) ∧ bigE a x ≤ bulk y.1 ∧ wfE a x := fun a h1 h2 h3 => by
   rw [h1, h2] at g0
   exact ih _ a _ y.1 y.2 h3 g0 (by omega)
  have many : ∀ a b, e = .pr a b → g.offset = o → P.cellsOf g.type = a.size → r g.type a = true → kFs r P fs (o + a.size) b = true → ∃ x : e.den, RelC (knW W) m0 (e.row x) (cs.drop o) ∧ bigE e x ≤ bulk y.1 + bulkAll (ys.map (·.1)) ∧ wfE e x := by
   rintro a b rfl h1 h2 h3 h4
   obtain ⟨x, hx, hxb, hxw⟩ := one a h1 h2 h3
   have hm' : fs.mapM (fun g => DataW.trod enc P W 0 sp true f g.type ((cs.drop g.offset).take (P.cellsOf g.type))) = some ys := by
    simp only [List.mapM_cons, Option.bind_eq_bind, Option.bind_eq_some_iff] at hm
    obtain ⟨_, _, _, q, q'⟩ := hm
    cases q'
    exact q
   obtain ⟨z, hz, hzb, hzw⟩ := ihf (o + a.size) b cs ys h4 (by simp only [E.size] at hl; omega) hm' (by omega)
   refine ⟨(x, z), ?_, by simp only [bigE]; omega, ⟨hxw, hzw⟩⟩
   have : cs.drop o = (cs.drop o).take a.size ++ cs.drop (o + a.size) := by rw [← List.drop_drop]; exact (List.take_append_drop _ _).symm
   rw [this]
   exact hx.append hz
  cases fs with
  | nil =>
   have hk1 : (Nat.beq g.offset o && (Nat.beq (P.cellsOf g.type) e.size && r g.type e)) = true := by cases e <;> exact hk
   simp only [Bool.and_eq_true] at hk1
   obtain ⟨h1, h2, h3⟩ := hk1
   obtain ⟨x, hx, hxb, hxw⟩ := one e (Nat.eq_of_beq_eq_true h1) (Nat.eq_of_beq_eq_true h2) h3
   refine ⟨x, ?_, by omega, hxw⟩
   rwa [List.take_of_length_le (by rw [List.length_drop]; omega)] at hx
  | cons g' fs' =>
   cases e <;> simp only [kFs] at hk <;> try (cases hk; done)
   rename_i a b
   simp only [Bool.and_eq_true] at hk
   obtain ⟨h1, h2, h3, h4⟩ := hk
   exact many a b rfl (Nat.eq_of_beq_eq_true h1) (Nat.eq_of_beq_eq_true h2) h3 h4
theorem read_e (B : Bulk bulk bulkAll) : ∀ (n : Nat) (f : Nat) (t : TypeId) (e : E) (cs : List Value) (d : DataW H) (ps : List MemPlace), kOK P n t e = true → DataW.trod enc P W 0 sp true f t cs = some (d, ps) → bulk d ≤ 4611686018427387904 →
  ∃ x : e.den, RelC (knW W) m0 (e.row x) cs ∧ bigE e x ≤ bulk d ∧ wfE e x
 | 0, f, t, e, cs, d, ps, hk, h, hb => by cases hk
 | n + 1, f, t, e, cs, d, ps, hk, h, hb => by
  have struct : (match P.underlying t with
   | some (.struct fs) => Nat.beq (P.cellsOf t) e.size && kFs (kOK P n) P fs.toList 0 e
   | _ => false) = true → ∃ x : e.den, RelC (knW W) m0 (e.row x) cs ∧ bigE e x ≤ bulk d ∧ wfE e x := fun hk => by
   split at hk
   ·rename_i fs hu
    rw [Bool.and_eq_true] at hk
    have hc := Nat.eq_of_beq_eq_true hk.1
    cases f with
    | zero => unfold DataW.trod at h; cases h
    | succ f =>
     unfold DataW.trod at h
     rw [hu] at h
     simp only [hc] at h
     split at h
     ·rename_i hlen
      rw [Option.map_eq_some_iff] at h
      obtain ⟨r, hr, hd⟩ := h
      simp only [Prod.mk.injEq] at hd
      obtain ⟨rfl, -⟩ := hd
      rw [B.hag] at hb ⊢
      obtain ⟨x, h1, h2, h3⟩ := read_fields B (f := f) (fun t e cs d ps hk hh hb => read_e B n f t e cs d ps hk hh hb) fs.toList 0 e cs r hk.2 (by omega) hr (by omega)
      exact ⟨x, by simpa using h1, by omega, h3⟩
     ·cases h
   ·cases hk
  cases e with
  | int k =>
   cases k <;> try exact struct hk
   obtain ⟨m, rfl, rfl, h1, h2⟩ := trod_i64 hk h
   exact ⟨m, ⟨.cons (.int _ _) (.nil _ _), fun v hv => by simp at hv; subst hv; rfl⟩, by simp [bigE], h1, h2⟩
  | str =>
   obtain ⟨s, rfl, rfl⟩ := trod_str hk h
   refine ⟨s.data.toList, ⟨.cons ?_ (.nil _ _), fun v hv => by simp at hv; subst hv; rfl⟩, by simp only [bigE, B.hs]; omega, trivial⟩
   have := Rel.str (kn := knW W) (m := m0) s.data.toList
   simpa using this
  | bool =>
   have hk : (match P.underlying t with
    | some .bool => true
    | _ => false) = true := hk
   split at hk
   ·rename_i hu
    cases f with
    | zero => unfold DataW.trod at h; cases h
    | succ f =>
     unfold DataW.trod at h
     rw [hu] at h
     split at h <;> try (simp_all; done)
     rename_i b _
     exact ⟨b, ⟨.cons (.bool _) (.nil _ _), fun v hv => by simp at hv; subst hv; rfl⟩, by simp [bigE], trivial⟩
   ·cases hk
  | form =>
   obtain ⟨x, h1, h2⟩ := form_read B hk f cs d ps h hb
   exact ⟨x, h1, h2, trivial⟩
  | slice e =>
   have hk : (match P.underlying t with
    | some (.slice t') => kOK P n t' e && (Nat.beq (P.cellsOf t') e.size && Nat.blt 0 e.size)
    | _ => false) = true := hk
   split at hk
   ·rename_i t' hu
    simp only [Bool.and_eq_true] at hk
    cases f with
    | zero => unfold DataW.trod at h; cases h
    | succ f =>
     obtain ⟨l, h1, h2, h3⟩ := read_slice B (sz := e.size) (by have := hk.2.2; unfold Nat.blt at this; exact Nat.le_of_ble_eq_true this) (Nat.eq_of_beq_eq_true hk.2.1) e.row e.row_len (bigE e) (wfE e) hu (fun cs d ps hh hb => read_e B n f t' e cs d ps hk.1 hh hb) h hb
     exact ⟨l, h1, h2, h3⟩
   ·cases hk
  | erri => exact struct hk
  | un => exact struct hk
  | pr a b => exact struct hk
theorem row_cells {kn : Kn} {m : Mp} : ∀ (e : E) (x : e.den) (vs : List Value), RelC kn m (e.row x) vs → RelC kn m (e.cells x) vs
 | .int _, _, _, h => h
 | .bool, _, _, h => h
 | .str, _, _, h => h
 | .erri, _, _, h => h
 | .form, .mk k n t l, vs, h => by
  refine ⟨?_, h.2⟩
  have h := h.1
  simp only [E.row, Fm.row, Fm.rows_map] at h
  obtain ⟨v0, u0, rfl, h0, h⟩ := h.uncons
  obtain ⟨v1, u1, rfl, h1, h⟩ := h.uncons
  obtain ⟨v2, u2, rfl, h2, h⟩ := h.uncons
  obtain ⟨v3, u3, rfl, h3, h⟩ := h.uncons
  exact .cons h0 (.cons h1 (.cons h2 (.cons (rel_tvec.2 h3) h)))
 | .un, _, _, h => h
 | .pr a b, (x, y), vs, h => by
  obtain ⟨us, ws, rfl, h1, h2⟩ := RelL.append_iff.1 h.1
  exact (row_cells a x us ⟨h1, fun v hv => h.2 v (by simp [hv])⟩).append (row_cells b y ws ⟨h2, fun v hv => h.2 v (by simp [hv])⟩)
 | .slice e, l, vs, h => by
  refine ⟨?_, h.2⟩
  have h := h.1
  simp only [E.row] at h
  obtain ⟨v0, u0, rfl, h0, h⟩ := h.uncons
  exact .cons (rel_tvec.2 h0) h
theorem rel_aggW {row : List AV} {cs : Array Value} (h : RelC (knW W) m0 row (Value.agg cs).cells.toList) : Rel (knW W) m0 (.agg row) (.agg cs) := by
 have hcs : (Value.agg cs).cells.toList = cs.toList := rfl
 rw [hcs] at h
 exact .agg _ _ (by simpa using h.1.1) (fun i y v q r => h.1.2 i y v q (by simpa using r)) (fun i v r => h.2 v (by simpa using Array.mem_of_getElem? r))
end
end Go.Ab

set_option maxRecDepth 100000
namespace Go.Ab
open Go Go.ChangeShapes Go.WideShapes Go.ChangeAt Go.RowKit Go.Proofs Go.Proofs.YthbkbjlfghikfaaGreatDoor
def argOK (P : Program) (n : Nat) (t : TypeId) (e : E) : Bool := kOK P n t e && match e with
 | .int .i64 => true
 | .bool => true
 | .str => true
 | .form => true
 | .slice _ => true
 | .pr _ _ => true
 | _ => false
def parOK (P : Program) (n : Nat) : List TypeId → List E → Bool
 | [], [] => true
 | t :: ts, e :: es => argOK P n t e && parOK P n ts es
 | _, _ => false
abbrev shA (es : List E) : List Sh := es.map .d
def bigA : (es : List E) → Sh.denL (shA es) → Nat
 | [], _ => 0
 | e :: es, x => bigE e x.1 + bigA es x.2
def wfA : (es : List E) → Sh.denL (shA es) → Prop
 | [], _ => True
 | e :: es, x => wfE e x.1 ∧ wfA es x.2
section
variable {H : Type} {enc : TypeId × Value → H} {W : World} {P : Program}
theorem one_cell {t : TypeId} {v c : Value} {base : Nat} (hs : ∀ fs, P.underlying t ≠ some (.struct fs)) (ha : ∀ k a, P.underlying t ≠ some (.array k a)) (hok : Value.okWide P W .any base t v) (h : v.cells.toList = [c]) : v = c := by
 cases v <;> simp [Value.cells] at h <;> try exact h
 rename_i cs
 exfalso
 unfold Value.okWide at hok
 split at hok
 ·rename_i fs e; exact hs fs e
 ·rename_i k a e; exact ha _ _ e
 ·unfold Cell.okWide at hok
  split at hok <;> first | (simp_all; done) | skip
  unfold Cell.ok at hok
  split at hok <;> simp_all
theorem struct_agg {t : TypeId} {v : Value} {base : Nat} {fs : Array Field} (hu : P.underlying t = some (.struct fs)) (hok : Value.okWide P W .any base t v) : ∃ cs, v = .agg cs := by
 unfold Value.okWide at hok
 rw [hu] at hok
 obtain ⟨cs, h, _⟩ := hok
 exact ⟨cs, h⟩
theorem row_av {n : Nat} {t : TypeId} {e : E} {x : e.den} {v : Value} {base : Nat} (hk : argOK P n t e = true) (hok : Value.okWide P W .any base t v) (h : RelC (knW W) m0 (e.row x) v.cells.toList) : Rel (knW W) m0 (e.av x) v := by
 unfold argOK at hk
 rw [Bool.and_eq_true] at hk
 obtain ⟨hk, hk2⟩ := hk
 cases n with
 | zero => cases hk
 | succ n =>
 have one : ∀ {a : AV}, (∀ fs, P.underlying t ≠ some (.struct fs)) → (∀ k a, P.underlying t ≠ some (.array k a)) → RelC (knW W) m0 [a] v.cells.toList → Rel (knW W) m0 a v := by
  intro a hs ha h
  obtain ⟨c, u, hc, h1, h2⟩ := h.1.uncons
  have : u = [] := by have q := h2.1; exact List.length_eq_zero_iff.1 q.symm
  subst this
  rw [one_cell hs ha hok hc]
  exact h1
 cases e with
 | int k =>
  cases k <;> try (cases hk2; done)
  have hk : isI64 P t = true := hk
  unfold isI64 at hk
  split at hk
  ·rename_i hu; exact one (fun fs e => by rw [hu] at e; cases e) (fun _ _ e => by rw [hu] at e; cases e) h
  ·cases hk
 | bool =>
  have hk : (match P.underlying t with
   | some .bool => true
   | _ => false) = true := hk
  split at hk
  ·rename_i hu; exact one (fun fs e => by rw [hu] at e; cases e) (fun _ _ e => by rw [hu] at e; cases e) h
  ·cases hk
 | str =>
  have hk : isStr P t = true := hk
  unfold isStr at hk
  split at hk
  ·rename_i hu; exact one (fun fs e => by rw [hu] at e; cases e) (fun _ _ e => by rw [hu] at e; cases e) h
  ·cases hk
 | slice e =>
  have hk : (match P.underlying t with
   | some (.slice t') => kOK P n t' e && (Nat.beq (P.cellsOf t') e.size && Nat.blt 0 e.size)
   | _ => false) = true := hk
  split at hk
  ·rename_i hu
   exact one (fun fs e => by rw [hu] at e; cases e) (fun _ _ e => by rw [hu] at e; cases e) (row_cells (.slice e) x _ h)
  ·cases hk
 | form =>
  have hk : isForm P t = true := hk
  unfold isForm at hk
  split at hk
  ·rename_i fs hu
   obtain ⟨cs, rfl⟩ := struct_agg hu hok
   exact rel_aggW (row_cells .form x _ h)
  ·cases hk
 | pr a b =>
  have hk : (match P.underlying t with
   | some (.struct fs) => Nat.beq (P.cellsOf t) (E.pr a b).size && kFs (kOK P n) P fs.toList 0 (.pr a b)
   | _ => false) = true := hk
  split at hk
  ·rename_i fs hu
   obtain ⟨cs, rfl⟩ := struct_agg hu hok
   exact rel_aggW (row_cells (.pr a b) x _ h)
  ·cases hk
 | erri => cases hk2
 | un => cases hk2
variable {bulk : DataW H → Nat} {bulkAll : List (DataW H) → Nat}
theorem args_read (B : Bulk bulk bulkAll) (n : Nat) : ∀ (ts : List TypeId) (es : List E) (vs : List Value) (ds : List (DataW H)) (ps : List MemPlace) (base : Nat), parOK P n ts es = true → DataW.TrodAll enc P W 0 (fun _ => true) true ts vs ds ps → (∀ (j : Nat) t v, ts[j]? = some t → vs[j]? = some v → Value.okWide P W .any base t v) → bulkAll ds ≤ 4611686018427387904 →
  ∃ x : Sh.denL (shA es), RelL (knW W) m0 (patL ρ0 (shA es) x) vs ∧ bigA es x ≤ bulkAll ds ∧ wfA es x
 | [], [], vs, ds, ps, base, _, h, _, _ => by
  obtain ⟨rfl, rfl, rfl⟩ := trodAll_nil h
  exact ⟨(), .nil _ _, by simp [bigA], trivial⟩
 | [], e :: es, vs, ds, ps, base, hk, _, _, _ => by cases hk
 | t :: ts, [], vs, ds, ps, base, hk, _, _, _ => by cases hk
 | t :: ts, e :: es, vs, ds, ps, base, hk, h, hok, hb => by
  simp only [parOK, Bool.and_eq_true] at hk
  obtain ⟨v, vs', d, ds', p, q, rfl, rfl, rfl, h1, h2⟩ := trodAll_cons h
  rw [B.h1] at hb ⊢
  obtain ⟨f, t1⟩ := id h1
  have hk1 : kOK P n t e = true := by have := hk.1; unfold argOK at this; rw [Bool.and_eq_true] at this; exact this.1
  obtain ⟨x, a1, a2, a3⟩ := read_e B n f t e _ d p hk1 t1 (by omega)
  obtain ⟨y, b1, b2, b3⟩ := args_read B n ts es vs' ds' q base hk.2 h2 (fun j t v q1 q2 => hok (j + 1) t v q1 q2) (by omega)
  exact ⟨(x, y), .cons (row_av hk.1 (hok 0 t v rfl rfl) a1) b1, by simp only [bigA]; omega, a3, b3⟩
theorem trodAll_length : ∀ {ts : List TypeId} {vs : List Value} {ds : List (DataW H)} {ps : List MemPlace} {W : World} {b : Nat} {sp : Nat → Bool} {hd : Bool}, DataW.TrodAll enc P W b sp hd ts vs ds ps → ds.length = ts.length
 | [], vs, ds, ps, W, b, sp, hd, h => by obtain ⟨_, rfl, _⟩ := trodAll_nil h; rfl
 | t :: ts, vs, ds, ps, W, b, sp, hd, h => by
  obtain ⟨v, vs', d, ds', p, q, rfl, rfl, rfl, h1, h2⟩ := trodAll_cons h
  simp [trodAll_length h2]
theorem trodAll_below {W' : World} (hl : laidOutB P = true) : ∀ {ts : List TypeId} {vs : List Value} {ds : List (DataW H)} {ps : List MemPlace}, ts.all (fun t => P.readableRec t && Nat.blt t P.types.size) = true → DataW.TrodAll enc P W 0 (fun _ => true) true ts vs ds ps → Below W.heap.size W W' → (∀ x ∈ ps, x.block < W.heap.size) → DataW.TrodAll enc P W' 0 (fun b => decide (b < W.heap.size)) true ts vs ds ps
 | [], vs, ds, ps, _, h, _, _ => by obtain ⟨rfl, rfl, rfl⟩ := trodAll_nil h; exact trodAll_mk0
 | t :: ts, vs, ds, ps, hr, h, hb, hp => by
  simp only [List.all_cons, Bool.and_eq_true] at hr
  obtain ⟨v, vs', d, ds', p, q, rfl, rfl, rfl, h1, h2⟩ := trodAll_cons h
  exact trodAll_cons_mk (Below.trod hl hr.1.1 (Nat.le_of_ble_eq_true hr.1.2) h1 hb (fun x hx => hp x (by simp [hx]))) (trodAll_below hl hr.2 h2 hb (fun x hx => hp x (by simp [hx])))
end
theorem bulk_pos {H : Type} (d : DataW H) : 1 ≤ Rows.uptoBulk d := by
 cases d with
 | lit l => cases l <;> simp [Rows.uptoBulk]
 | _ => simp [Rows.uptoBulk]
theorem uptoB {H : Type} : Bulk (Rows.uptoBulk (H := H)) Rows.uptoBulkAll := ⟨fun l => by simp [Rows.uptoBulk], fun l r => by simp [Rows.uptoBulk]; omega, fun l => by simp [Rows.uptoBulk], bulk_pos, by simp [Rows.uptoBulkAll], fun d l => by simp [Rows.uptoBulkAll]⟩
theorem contract_of {g : FuncId} {fn : Func} {es : List E} {n : Nat} {spec : ChangeSpec} {tb : TypeId} (hv : spec.vars = []) (hfn : ∀ (H : Type) (ds : List (DataW H)), ds.length = fn.params.toList.length → spec.fn H ds = { results := [.lit (.bool true)], args := ds })
  (hres : fn.resultTypes = #[tb]) (htb : Tryz.prog.underlying tb = some .bool) (hk : parOK Tryz.prog n fn.params.toList es = true) (hrr : fn.params.toList.all (fun t => Tryz.prog.readableRec t && Nat.blt t Tryz.prog.types.size) = true) (hl : laidOutB Tryz.prog = true) (hbo : bodyOK Tryz.prog g = true)
  (hlaw : ∀ x, bigA es x ≤ 1048576 → wfA es x → PCall CX g (patL ρ0 (shA es) x) (· = .ret (.bool true)))
  (H : Type) (enc : TypeId × Value → H) (W : World) (base : Nat) (args : Array Value) (ds gs : List (DataW H)) (before : List MemPlace)
  (hval : ∀ (j : Nat) t v, fn.params[j]? = some t → args[j]? = some v → Value.okWide Tryz.prog W .any base t v)
  (hW : DataW.Whole enc Tryz.prog fn.params.toList spec.vars false W args.toList ds gs before) (hb : Rows.uptoSmall H (ds ++ gs) = true) (hE : ErrW W) :
  Calls Tryz.prog g args W fun e W' => ∃ v, e = .returned v ∧ spec.post enc Tryz.prog fn false true false false W args v W' := by
 have hW' := hW
 obtain ⟨p, q, hA0, hV, rfl, hfz, hnd⟩ := hW
 have hA : DataW.TrodAll enc Tryz.prog W 0 (fun _ => true) true fn.params.toList args.toList ds p := hA0
 rw [hv] at hV
 obtain ⟨rfl, rfl⟩ := trodVars_none hV
 have hbd : Rows.uptoBulkAll ds ≤ 1048576 := by
  have := of_decide_eq_true hb
  simpa using this
 obtain ⟨x, hx, hxb, hxw⟩ := args_read uptoB n fn.params.toList es args.toList ds p base hk hA (fun j t v a b => hval j t v (by simpa using a) (by simpa using b)) (by omega)
 have hdo := hlaw x (by omega) hxw (knW W) W args.toList (knOK_W W hE) hx
 have hlt : ∀ y ∈ p, y.block < W.heap.size := fun y hy => hW'.lt y (by simp [hy])
 have fin : ∀ e w', (∃ out kn', out = AOut.ret (.bool true) ∧ RelOut kn' m0 out e ∧ KnOK CX kn' w' ∧ Below W.heap.size W w' ∧ ∀ b, b < W.heap.size → kn' b = knW W b) → ∃ v, e = .returned v ∧ spec.post enc Tryz.prog fn false true false false W args v w' := by
  rintro e w' ⟨out, kn', rfl, ho, _, hbel, _⟩
  cases e with
  | returned u =>
   simp only [RelOut] at ho
   cases ho
   have hT := trodAll_below hl hrr hA hbel hlt
   refine ⟨_, rfl, _, _, _, [], p, [], hW', ?_, ?_, ?_, hbel.frame _, fun h => by cases h⟩
   ·rw [hres, hfn H _ (by simpa using trodAll_length hA)]
    exact trodAll_cons_mk (shut_bool htb _) trodAll_mk0
   ·rw [hfn H _ (by simpa using trodAll_length hA), List.append_nil]
    exact hT
   ·rw [hv, hfn H _ (by simpa using trodAll_length hA)]; rfl
  | panicked ch => exact ho.elim
  | outgrown => exact ho.elim
 rcases hdo with ⟨_, hc⟩ | ⟨u, w', h1, _⟩
 ·exact hc.mono fin
 ·have h2 : (callFunc g args.toList.toArray).run Tryz.prog W = _ := calls_of_bodyOK hbo _ W
  have h1' : (callFunc g args.toList.toArray).run Tryz.prog W = _ := h1
  rw [h2] at h1'
  cases h1'
end Go.Ab

set_option maxRecDepth 100000
namespace Go.Ab
open Go Go.RowKit Go.Proofs
theorem laidVars_mem {P : Program} {w : World} : ∀ (l : List (String × DataW Unit)) (ps : List MemPlace), DataW.LaidVars P w l ps → ∀ n d, (n, d) ∈ l → ∃ g t cs fuel p, P.globalNamed n = some g ∧ (P.globals[g]?).map (·.type) = some t ∧ w.var? P n = some cs ∧ DataW.trod (fun _ => ()) P w 0 (fun _ => true) false fuel t cs.toList = some (d, p)
 | [], ps, h, n, d, hm => by cases hm
 | (n', d') :: r, ps, h, n, d, hm => by
  obtain ⟨g, t, cs, fuel, p, q, h1, h2, h3, h4, h5, h6⟩ := h
  rcases List.mem_cons.1 hm with e | hm
  ·cases e
   exact ⟨g, t, cs, fuel, p, h1, h2, h3, h4⟩
  ·exact laidVars_mem r q h5 n d hm
noncomputable def tabTy (q : String × IntKind × List Int) : Bool := match Tryz.prog.globalNamed q.1 with
 | some g => (match (Tryz.prog.globals[g]?).map (·.type) with
  | some t => (match Tryz.prog.underlying t with
   | some (.array n e) => (match Tryz.prog.underlying e with
    | some (.int k) => (decide (k = q.2.1) && (Nat.beq (Tryz.prog.cellsOf e) 1 && Nat.beq (Tryz.prog.cellsOf t) n))
    | _ => false)
   | _ => false)
  | none => false)
 | none => false
theorem tabTy_ok : tabL.all tabTy = true := by kernel_rfl
theorem tabW_of {l : List (String × DataW Unit)} {W : World} (hL : laidMet Tryz.prog l W) (hm : ∀ q ∈ tabL, (q.1, Lib.tabData q.2.1 q.2.2) ∈ l) : TabW CX W := by
 intro g a hg
 have hg : tabG g = some a := hg
 unfold tabG at hg
 obtain ⟨q, hq, rfl⟩ := Option.map_eq_some_iff.1 hg
 have hmem := List.mem_of_find?_eq_some hq
 have hname : Tryz.prog.globalNamed q.1 = some g := by
  have := List.find?_some hq
  simpa using this
 obtain ⟨ps, hv, _⟩ := hL
 obtain ⟨g', t, cs, fuel, p, h1, h2, h3, h4⟩ := laidVars_mem l ps hv _ _ (hm q hmem)
 rw [hname] at h1
 cases h1
 have hty := List.all_eq_true.1 tabTy_ok q hmem
 unfold tabTy at hty
 rw [hname] at hty
 simp only [h2] at hty
 split at hty
 ·rename_i n e hu
  split at hty
  ·rename_i k hk
   simp only [Bool.and_eq_true, decide_eq_true_eq] at hty
   obtain ⟨hk', hc1, hc2⟩ := hty
   subst hk'
   have hcs := Lib.cells_of_tab hu hk (Nat.eq_of_beq_eq_true hc1) (Nat.eq_of_beq_eq_true hc2) h4
   unfold World.var? at h3
   rw [hname] at h3
   simp only [Option.bind_some] at h3
   split at h3
   ·rename_i c T z hw
    cases h3
    refine ⟨T, z, ?_⟩
    rw [hw, ← hcs]
   ·cases h3
  ·cases hty
 ·cases hty
def errTy (P : Program) : Bool := match P.globalNamed "strconv.ErrRange" with
 | some g => (match (P.globals[g]?).map (·.type) with
  | some t => (match P.underlying t with
   | some (.interface _) => true
   | _ => false)
  | none => false)
 | none => false
theorem errTy_ok : errTy Tryz.prog = true := by kernel_rfl
theorem errW_of {l : List (String × DataW Unit)} {W : World} (hL : laidMet Tryz.prog l W) {nm : String} {x : DataW Unit} (hm : ("strconv.ErrRange", .iface nm x) ∈ l) (hT : ∀ q ∈ tabL, (q.1, Lib.tabData q.2.1 q.2.2) ∈ l) : ErrW W := by
 refine ⟨?_, tabW_of hL hT⟩
 intro g hg
 obtain ⟨ps, hv, _⟩ := hL
 obtain ⟨g', t, cs, fuel, p, h1, h2, h3, h4⟩ := laidVars_mem l ps hv _ _ hm
 have hg' : Tryz.prog.globalNamed "strconv.ErrRange" = some g := hg
 rw [hg'] at h1
 cases h1
 have hty := errTy_ok
 unfold errTy at hty
 rw [hg'] at hty
 simp only [h2] at hty
 cases fuel with
 | zero => cases h4
 | succ fuel =>
  cases hu : Tryz.prog.underlying t with
  | none => rw [hu] at hty; cases hty
  | some td =>
   rw [hu] at hty
   cases td with
   | interface ms =>
    unfold World.var? at h3
    rw [hg'] at h3
    simp only [Option.bind_some] at h3
    unfold DataW.trod at h4
    rw [hu] at h4
    match hcs : cs.toList, h4 with
    | [.iface u v], _ =>
     refine ⟨u, v, ?_⟩
     cases hh : W.heap[g]? with
     | none => rw [hh] at h3; cases h3
     | some ob =>
      rw [hh] at h3
      cases ob with
      | cells c a b =>
       cases h3
       have hc : cs[0]? = some (Value.iface u v) := by
        have := congrArg (·[0]?) hcs
        simpa using this
       simp [World.cell?, hh, hc]
      | _ => cases h3
    | [.nilIface], h4 => cases h4
   | _ => cases hty
end Go.Ab
