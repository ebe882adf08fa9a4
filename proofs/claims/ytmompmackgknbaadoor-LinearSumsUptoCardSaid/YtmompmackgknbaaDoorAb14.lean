/-
  FROM A BODY TO A CONTRACT: results, objects frozen, objects forgotten.
-/
import Derived.Test.YtmompmackgknbaaDoorAb13
set_option linter.unusedVariables false
set_option linter.unusedSimpArgs false
namespace Go.Ab
open Go Go.RowKit

/-! ### Objects are forgotten -/
theorem Inv.take {C : Cx} {B : Base} {kn : Kn} {m : Mp} {σ : Sto} {nx : Nat} {w : World} (h : Inv C B kn m σ nx w) (k : Nat) : Inv C B kn m (σ.take k) nx w := by
  have get : ∀ (p nm : Nat) (ob : AObj), (σ.take k)[p]? = some (nm, ob) → σ[p]? = some (nm, ob) := fun p nm ob e => by
    rw [List.getElem?_take] at e
    split at e
    · exact e
    · cases e
  exact ⟨h.knok, h.size, h.os, h.tape, h.output, h.old, fun p nm ob e => h.obj p nm ob (get p nm ob e), fun p nm ob loc e => h.own p nm ob loc (get p nm ob e),
    fun p nm ob loc p' nm' ob' loc' e e' => h.dist p nm ob loc p' nm' ob' loc' (get _ _ _ e) (get _ _ _ e'), h.dom, fun p nm ob e => h.lt p nm ob (get _ _ _ e), fun p p' nm ob ob' e e' => h.uniq p p' nm ob ob' (get _ _ _ e) (get _ _ _ e'), h.glob⟩

theorem aw_forget {C : Cx} {n : Nat} {ds : List Deferred} {c : Code} {Q : AExit → St → Prop} {s : St} (h : aw C n ds c (fun e s' => ∃ k, s.σ.length ≤ k ∧ Q e ⟨s'.env, s'.σ.take k, s'.nx⟩) s) : aw C n ds c Q s := by
  intro B kn m act w h1 h2 h3
  refine wp_mono (h B kn m act w h1 h2 h3) ?_
  rintro e a1 w1 ⟨ae, s1, kn1, m1, hx, hR, k, hk, hq⟩
  refine ⟨ae, ⟨s1.env, s1.σ.take k, s1.nx⟩, kn1, m1, hx, ⟨hR.env, hR.defs, hR.inv.take k, hR.knle, hR.keep.le, hR.keep.ag, fun p nm ob e e' => ?_⟩, hq⟩
  have hp : p < s.σ.length := (List.getElem?_eq_some_iff.1 e).1
  show (s1.σ.take k)[p]? = _
  rw [List.getElem?_take, if_pos (by omega)]
  exact hR.keep.pend p nm ob e e'

/-! ### Objects are frozen -/
def frzF (σ : Sto) : Nat → AV → AV
  | 0, v => v
  | f + 1, v => match v with
    | .sref p nm esz off len => match sget σ p nm with
      | some (.gvec esz' _ rows) => if esz' = esz ∧ off + len ≤ rows.length then .vec esz (((rows.drop off).take len).map fun r => r.map (frzF σ f)) else v
      | _ => v
    | .ref p nm off => match sget σ p nm with
      | some (.cells _ cs) => .rptr ((cs.drop off).map (frzF σ f))
      | _ => v
    | .eref p nm i off => match sget σ p nm with
      | some (.gvec _ _ rows) => match rows[i]? with
        | some row => .rptr ((row.drop off).map (frzF σ f))
        | none => v
      | _ => v
    | .agg cs => .agg (cs.map (frzF σ f))
    | .tup cs => .tup (cs.map (frzF σ f))
    | .iface t x => .iface t (frzF σ f x)
    | v => v

def knAll (kn : Kn) (sz : Nat) (w : World) : Kn := fun b o => if b < sz then kn b o else w.cell? ⟨b, o, none⟩

theorem knAll_le {C : Cx} {B : Base} {kn : Kn} {m : Mp} {σ : Sto} {nx : Nat} {w : World} (h : Inv C B kn m σ nx w) (sz : Nat) : KnLe kn (knAll kn sz w) := fun b o v e => by
  unfold knAll
  split
  · exact e
  · exact h.knok b o v e

theorem frz_sound {C : Cx} {B : Base} {kn : Kn} {m : Mp} {σ : Sto} {nx : Nat} {w : World} (h : Inv C B kn m σ nx w) (hown : ∀ b, ¬ B.own b) : ∀ (f : Nat) (x : AV) (v : Value), Rel kn m x v → Rel (knAll kn B.w.heap.size w) m (frzF σ f x) v := by
  intro f
  induction f with
  | zero => intro x v hr; exact hr.mono (knAll_le h _) (MpLe.refl m)
  | succ f ih =>
    intro x v hr
    have stay := hr.mono (knAll_le h B.w.heap.size) (MpLe.refl m)
    have known : ∀ (p nm : Nat) (ob : AObj) (loc : Loc), σ[p]? = some (nm, ob) → live ob → m nm = some loc → ∀ o, knAll kn B.w.heap.size w loc.blk o = w.cell? ⟨loc.blk, o, none⟩ := fun p nm ob loc e l hm o => by
      have := (h.own p nm ob loc e l hm).2.1
      unfold knAll
      rw [if_neg]
      rcases this with h1 | h1
      · omega
      · exact absurd h1 (hown _)
    cases hr with
    | sref p nm esz off len loc hm he hl hm' =>
      simp only [frzF]
      split
      · rename_i esz' ety rows hs
        split
        · rename_i hc
          obtain ⟨rfl, hle⟩ := hc
          have hp := sget_some hs
          obtain ⟨loc', hm'', hez, arr, hw, hsz, hle', hmx, hone, hrl, hrr⟩ := h.obj _ _ _ hp
          rw [hm] at hm''; cases hm''
          have hkn := known p nm _ loc hp trivial hm
          have hlen : (((rows.drop off).take len).map fun r => r.map (frzF σ f)).length = len := by simp; omega
          have hsub : ∀ (i : Nat) (row : List AV), (((rows.drop off).take len).map fun r => r.map (frzF σ f))[i]? = some row → i < len ∧ ∃ row0, rows[off + i]? = some row0 ∧ row = row0.map (frzF σ f) := fun i row hi => by
            rw [List.getElem?_map, List.getElem?_take] at hi
            split at hi
            · rename_i hil
              rw [List.getElem?_drop] at hi
              cases hr0 : rows[off + i]? with
              | none => simp [hr0] at hi
              | some row0 => simp [hr0] at hi; exact ⟨hil, row0, rfl, hi.symm⟩
            · simp at hi
          have hcell : ∀ i row0 j x, i < len → rows[off + i]? = some row0 → row0[j]? = some x → ∃ hlt : loc.off + (off + i) * loc.esz + j < arr.size, w.cell? ⟨loc.blk, loc.off + (off + i) * loc.esz + j, none⟩ = some arr[loc.off + (off + i) * loc.esz + j] ∧ Rel kn m x arr[loc.off + (off + i) * loc.esz + j] ∧ arr[loc.off + (off + i) * loc.esz + j].oneCell' = true := by
            intro i row0 j x hi hr0 hj
            have hjl : j < esz' := by rw [← hrl _ _ hr0]; exact (List.getElem?_eq_some_iff.1 hj).1
            have h1 := idx_lt (show off + i < loc.cap by omega) hjl
            have hlt : loc.off + (off + i) * loc.esz + j < arr.size := by rw [he]; omega
            exact ⟨hlt, by simp [World.cell?, hw, hlt], hrr _ _ _ _ _ hr0 hj (by rw [← he]; simp [hlt]), hone _ (by simp)⟩
          have := Rel.vec (kn := knAll kn B.w.heap.size w) (m := m) esz' (((rows.drop off).take len).map fun r => r.map (frzF σ f)) loc.blk (loc.off + off * loc.esz) (loc.cap - off)
            (fun i j => arr.getD (loc.off + (off + i) * loc.esz + j) undef) (by rw [hlen]; omega) (by rw [hlen]; exact hm')
            (fun i row hi => by obtain ⟨_, row0, h1, rfl⟩ := hsub i row hi; rw [List.length_map]; exact hrl _ _ h1)
            (fun i row j x hi hj => by
              obtain ⟨hil, row0, h1, rfl⟩ := hsub i row hi
              rw [List.getElem?_map] at hj
              cases hj0 : row0[j]? with
              | none => simp [hj0] at hj
              | some x0 =>
                obtain ⟨hlt, c1, c2, c3⟩ := hcell i row0 j x0 hil h1 hj0
                rw [hkn, show loc.off + off * loc.esz + i * esz' + j = loc.off + (off + i) * loc.esz + j by rw [Nat.add_mul, he]; omega, c1]
                simp [hlt])
            (fun i row j x hi hj => by
              obtain ⟨hil, row0, h1, rfl⟩ := hsub i row hi
              rw [List.getElem?_map] at hj
              cases hj0 : row0[j]? with
              | none => simp [hj0] at hj
              | some x0 =>
                simp [hj0] at hj
                subst hj
                obtain ⟨hlt, c1, c2, c3⟩ := hcell i row0 j x0 hil h1 hj0
                have := ih x0 _ c2
                simpa [hlt] using this)
            (fun i row j x hi hj => by
              obtain ⟨hil, row0, h1, rfl⟩ := hsub i row hi
              rw [List.getElem?_map] at hj
              cases hj0 : row0[j]? with
              | none => simp [hj0] at hj
              | some x0 =>
                obtain ⟨hlt, c1, c2, c3⟩ := hcell i row0 j x0 hil h1 hj0
                simpa [hlt] using c3)
          rw [hlen] at this
          exact this
        · exact stay
      · exact stay
    | ref p nm off loc hm =>
      simp only [frzF]
      split
      · rename_i T cs hs
        have hp := sget_some hs
        have hob := h.obj _ _ _ hp
        simp only [ObjRel, hm] at hob
        obtain ⟨h0, arr, ty, hw, hrl⟩ := hob
        have hkn := known p nm _ loc hp trivial hm
        have hcell : ∀ j x, cs[off + j]? = some x → ∃ hlt : off + j < arr.size, w.cell? ⟨loc.blk, off + j, none⟩ = some arr[off + j] ∧ Rel kn m x arr[off + j] ∧ arr[off + j].oneCell' = true := by
          intro j x hj
          have hlt : off + j < arr.size := by rw [← Array.length_toList, ← hrl.1.1]; exact (List.getElem?_eq_some_iff.1 hj).1
          exact ⟨hlt, by simp [World.cell?, hw, hlt], hrl.1.2 _ _ _ hj (by simp [hlt]), hrl.2 _ (by simp)⟩
        refine .rptr _ loc.blk _ (fun j => arr.getD (off + j) undef) (fun j x hj => ?_) (fun j x hj => ?_) (fun j x hj => ?_) <;>
        · rw [List.getElem?_map, List.getElem?_drop] at hj
          cases hj0 : cs[off + j]? with
          | none => simp [hj0] at hj
          | some x0 =>
            simp [hj0] at hj
            obtain ⟨hlt, c1, c2, c3⟩ := hcell j x0 hj0
            first
              | (rw [hkn, h0, Nat.zero_add, c1]; simp [hlt]; done)
              | (subst hj; have := ih x0 _ c2; simpa [hlt] using this)
              | (simpa [hlt] using c3)
      · exact stay
    | eref p nm i off loc hm =>
      simp only [frzF]
      split
      · rename_i esz' ety rows hs
        split
        · rename_i row hrow
          have hp := sget_some hs
          obtain ⟨loc', hm'', hez, arr, hw, hsz, hle', hmx, hone, hrl, hrr⟩ := h.obj _ _ _ hp
          rw [hm] at hm''; cases hm''
          have hkn := known p nm _ loc hp trivial hm
          have hcell : ∀ j x, row[off + j]? = some x → ∃ hlt : loc.off + i * loc.esz + (off + j) < arr.size, w.cell? ⟨loc.blk, loc.off + i * loc.esz + (off + j), none⟩ = some arr[loc.off + i * loc.esz + (off + j)] ∧ Rel kn m x arr[loc.off + i * loc.esz + (off + j)] ∧ arr[loc.off + i * loc.esz + (off + j)].oneCell' = true := by
            intro j x hj
            have hjl : off + j < esz' := by rw [← hrl _ _ hrow]; exact (List.getElem?_eq_some_iff.1 hj).1
            have h1 := idx_lt (show i < loc.cap by have := (List.getElem?_eq_some_iff.1 hrow).1; omega) hjl
            have hlt : loc.off + i * loc.esz + (off + j) < arr.size := by rw [hez]; omega
            exact ⟨hlt, by simp [World.cell?, hw, hlt], hrr _ _ _ _ _ hrow hj (by rw [← hez]; simp [hlt]), hone _ (by simp)⟩
          refine .rptr _ loc.blk _ (fun j => arr.getD (loc.off + i * loc.esz + (off + j)) undef) (fun j x hj => ?_) (fun j x hj => ?_) (fun j x hj => ?_) <;>
          · rw [List.getElem?_map, List.getElem?_drop] at hj
            cases hj0 : row[off + j]? with
            | none => simp [hj0] at hj
            | some x0 =>
              simp [hj0] at hj
              obtain ⟨hlt, c1, c2, c3⟩ := hcell j x0 hj0
              first
                | (rw [hkn, Nat.add_assoc (loc.off + i * loc.esz), c1]; simp [hlt]; done)
                | (subst hj; have := ih x0 _ c2; simpa [hlt] using this)
                | (simpa [hlt] using c3)
        · exact stay
      · exact stay
    | agg cs vs hl hr h1 =>
      simp only [frzF]
      refine .agg _ _ (by simpa using hl) (fun i x v a b => ?_) h1
      rw [List.getElem?_map] at a
      cases hc : cs[i]? with
      | none => simp [hc] at a
      | some x0 => simp [hc] at a; subst a; exact ih x0 v (hr i x0 v hc b)
    | tup cs vs hl hr =>
      simp only [frzF]
      refine .tup _ _ (by simpa using hl) (fun i x v a b => ?_)
      rw [List.getElem?_map] at a
      cases hc : cs[i]? with
      | none => simp [hc] at a
      | some x0 => simp [hc] at a; subst a; exact ih x0 v (hr i x0 v hc b)
    | iface t x v hr => simp only [frzF]; exact .iface t _ _ (ih x v hr)
    | _ => simpa only [frzF] using stay

/-! ### Results -/
def res1 (P : Program) (s : St) : ResultVar → Option AV
  | .tmp t => some (s.env t)
  | .cell a T => readA P T s.σ (s.env a)
def resA (P : Program) (rs : List ResultVar) (s : St) : Option AV :=
  match rs with
  | [r] => res1 P s r
  | rs => (rs.mapM (res1 P s)).map .tup

def resOne (tmps : Array Value) : ResultVar → Sem Value
  | .tmp t => pure (tmps.getD t undef)
  | .cell a t => do loadVar t (← asAddr (tmps.getD a undef))
theorem results_eq (fn : Func) (tmps : Array Value) : results fn tmps = (do let vs ← fn.results.mapM (resOne tmps); pure (if h : vs.size = 1 then vs[0] else .tuple vs)) := by
  unfold results
  congr 2

theorem res1_sound {C : Cx} {B : Base} {kn : Kn} {m : Mp} {s : St} {w : World} {n : Nat} {act : Act} (hI : Inv C B kn m s.σ s.nx w) (hE : RelEnv kn m s.env n act) {r : ResultVar} {x : AV} (h : res1 C.P s r = some x) :
    ∃ v, (resOne act.tmps r).run C.P w = .ok v w ∧ Rel kn m x v := by
  cases r with
  | tmp t => simp only [res1, Option.some.injEq] at h; subst h; exact ⟨_, rfl, hE.tmp t⟩
  | cell a T =>
    simp only [res1] at h
    have ha := hE.tmp a
    obtain ⟨u, h1, h2⟩ := run_readA hI h ha
    refine ⟨u, ?_, h2⟩
    generalize hv : act.tmps.getD a undef = v at *
    have : ∃ ad, v = .pointer (some ad) := by
      cases hx : s.env a <;> rw [hx] at ha h <;> simp [readA] at h <;> cases ha <;> exact ⟨_, rfl⟩
    obtain ⟨ad, rfl⟩ := this
    simp only [resOne, hv, asAddr]
    simpa [Instr.loadAt, Instr.sureAddr] using h1

theorem results_sound {C : Cx} {B : Base} {kn : Kn} {m : Mp} {s : St} {w : World} {n : Nat} {act : Act} (hI : Inv C B kn m s.σ s.nx w) (hE : RelEnv kn m s.env n act) {fn : Func} {x : AV} (h : resA C.P fn.results.toList s = some x) :
    ∃ v, (results fn act.tmps).run C.P w = .ok v w ∧ Rel kn m x v := by
  have many : ∀ (rs : List ResultVar) (xs : List AV), rs.mapM (res1 C.P s) = some xs → ∃ vs : List Value, (rs.mapM (resOne act.tmps)).run C.P w = .ok vs w ∧ RelL kn m xs vs := by
    intro rs
    induction rs with
    | nil => intro xs h; simp at h; subst h; exact ⟨[], rfl, .nil _ _⟩
    | cons r rest ih =>
      intro xs h
      simp only [List.mapM_cons, Option.bind_eq_bind] at h
      cases h1 : res1 C.P s r with
      | none => simp [h1] at h
      | some x =>
        cases h2 : rest.mapM (res1 C.P s) with
        | none => simp [h1, h2] at h
        | some xs' =>
          simp [h1, h2] at h
          subst h
          obtain ⟨v, q1, q2⟩ := res1_sound hI hE h1
          obtain ⟨vs, q3, q4⟩ := ih xs' h2
          refine ⟨v :: vs, ?_, .cons q2 q4⟩
          simp only [List.mapM_cons, Sem.run_bind, q1, q3, Result.andThen_ok, Sem.run_pure]
  have hmap : ∀ (xs : List AV), fn.results.toList.mapM (res1 C.P s) = some xs → ∃ vs : List Value, (fn.results.mapM (resOne act.tmps)).run C.P w = .ok vs.toArray w ∧ RelL kn m xs vs := by
    intro xs hx
    obtain ⟨vs, q1, q2⟩ := many _ _ hx
    refine ⟨vs, ?_, q2⟩
    rw [Array.mapM_eq_mapM_toList, Sem.run_map, q1]
    rfl
  unfold resA at h
  split at h
  · rename_i r hr
    obtain ⟨vs, q1, q2⟩ := hmap [x] (by rw [hr]; simp [h])
    obtain ⟨v, vs', rfl, h1, h2⟩ := q2.uncons
    have : vs' = [] := List.eq_nil_of_length_eq_zero h2.1.symm
    subst this
    refine ⟨v, ?_, h1⟩
    rw [results_eq]
    simp only [Sem.run_bind, q1, Result.andThen_ok]
    rfl
  · rename_i hne
    cases hx : fn.results.toList.mapM (res1 C.P s) with
    | none => simp [hx] at h
    | some xs =>
      simp [hx] at h
      subst h
      obtain ⟨vs, q1, q2⟩ := hmap xs hx
      refine ⟨.tuple vs.toArray, ?_, .tup _ _ (by simpa using q2.1) (fun i x v a b => q2.2 i x v a (by simpa using b))⟩
      rw [results_eq]
      simp only [Sem.run_bind, q1, Result.andThen_ok]
      have hlen : vs.length ≠ 1 := by
        rw [← q2.1]
        have : xs.length = fn.results.toList.length := by
          have gen : ∀ (rs : List ResultVar) (xs : List AV), rs.mapM (res1 C.P s) = some xs → xs.length = rs.length := by
            intro rs
            induction rs with
            | nil => intro xs h; simp at h; subst h; rfl
            | cons r rest ih =>
              intro xs h
              simp only [List.mapM_cons, Option.bind_eq_bind] at h
              cases h1 : res1 C.P s r with
              | none => simp [h1] at h
              | some x =>
                cases h2 : rest.mapM (res1 C.P s) with
                | none => simp [h1, h2] at h
                | some xs' => simp [h1, h2] at h; subst h; simp [ih xs' h2]
          exact gen _ _ hx
        rw [this]
        intro h1
        obtain ⟨r, hr⟩ := List.length_eq_one_iff.1 h1
        exact hne r hr
      simp [hlen]

/-! ### Bodies -/
def argEnv (args : List AV) : Nat → AV := fun t => args.getD t .undef
theorem argEnv_rel {kn : Kn} {m : Mp} {args : List AV} {vs : List Value} (h : RelL kn m args vs) {n : Nat} (hn : args.length ≤ n) : RelEnv kn m (argEnv args) n { tmps := vs.toArray ++ Array.replicate (n - vs.toArray.size) undef, defers := [] } := by
  refine ⟨by simp [h.1] at *; omega, fun t => ?_⟩
  simp only [argEnv, Array.getD_eq_getD_getElem?, List.getD_eq_getElem?_getD]
  rcases Nat.lt_or_ge t args.length with hlt | hge
  · have hlt' : t < vs.length := by rw [← h.1]; exact hlt
    rw [Array.getElem?_append_left (by simpa using hlt')]
    simp only [List.getElem?_toArray, List.getElem?_eq_getElem hlt, List.getElem?_eq_getElem hlt', Option.getD_some]
    exact h.2 t _ _ (List.getElem?_eq_getElem hlt) (List.getElem?_eq_getElem hlt')
  · rw [List.getElem?_eq_none hge, Array.getElem?_append_right (by simpa [← h.1] using hge)]
    have : (Array.replicate (n - vs.toArray.size) undef)[t - vs.toArray.size]?.getD undef = undef := by
      rw [Array.getElem?_replicate]; split <;> rfl
    rw [this]
    exact .base _

/-- What a body owes that writes nothing of others: its results, frozen. -/
def PPost (C : Cx) (F : Nat) (rs : List ResultVar) (Q : AOut → Prop) : AExit → St → Prop
  | .normal, s => ∃ r, resA C.P rs s = some r ∧ RF (frzF s.σ F r) ∧ Q (.ret (frzF s.σ F r))
  | .ret, s => ∃ r, resA C.P rs s = some r ∧ RF (frzF s.σ F r) ∧ Q (.ret (frzF s.σ F r))
  | .pan v, s => RF (frzF s.σ F v) ∧ Q (.pan (frzF s.σ F v))
  | _, _ => False

theorem bodyOK_mk {P : Program} {g : FuncId} {fn : Func} {c : Code} (hf : P.funcs[g]? = some fn) (hb : fn.body = some c) (hname : (fn.name == "runtime.NumGoroutine") = false) : bodyOK P g = true := by
  unfold bodyOK; simp [hf, hb]; simpa using hname

theorem pcall_intro {C : Cx} {g : FuncId} {fn : Func} {c : Code} {args : List AV} (F : Nat) (hf : C.P.funcs[g]? = some fn) (hb : fn.body = some c) (hname : (fn.name == "runtime.NumGoroutine") = false) (hn : args.length ≤ fn.ntmps) {Q : AOut → Prop}
    (h : aw C fn.ntmps [] c (PPost C F fn.results.toList Q) ⟨argEnv args, [], 0⟩) : PCall C g args Q := by
  refine fun kn w vs hk hr => .inl ⟨bodyOK_mk hf hb hname, ?_⟩
  let B : Base := ⟨w, kn, fun _ => False⟩
  have hI : Inv C B kn m0 [] 0 w := ⟨hk.ok, Nat.le_refl _, rfl, rfl, rfl, fun _ _ _ => ⟨rfl, rfl⟩, fun p nm ob e => by simp at e, fun p nm ob loc e => by simp at e, fun p nm ob loc p' nm' ob' loc' e => by simp at e, fun _ _ => rfl, fun p nm ob e => by simp at e, fun p p' nm ob ob' e => by simp at e, hk.glob⟩
  refine calls_of_wp hf hb (wp_mono (h B kn m0 _ w (argEnv_rel hr hn) rfl hI) ?_)
  rintro e act' w' ⟨ae, s', kn', m', hx, hR, hq⟩
  have fin : ∀ (x : AV) (v : Value), Rel kn' m' x v → RF (frzF s'.σ F x) → Rel (knAll kn' w.heap.size w') m0 (frzF s'.σ F x) v := fun x v hr hf => (frz_sound hR.inv (fun _ h => h) F x v hr).rf hf m0
  have hbel : Below w.heap.size w w' := ⟨hR.inv.os, hR.inv.tape, hR.inv.output, hR.inv.size, fun k hk => (hR.inv.old k hk (fun h => h)).1⟩
  have hkok : KnOK C (knAll kn' w.heap.size w') w' := ⟨fun b o v e => by
    unfold knAll at e
    split at e
    · exact hR.inv.knok b o v e
    · exact e, fun g => ((hR.inv.glob g).mono (knAll_le hR.inv _) (MpLe.refl _)).rf (C.rf g) m0⟩
  have hkold : ∀ b, b < w.heap.size → knAll kn' w.heap.size w' b = kn b := fun b hb => by
    funext o
    unfold knAll
    rw [if_pos hb]
    rw [(hR.inv.old b hb (fun h => h)).2]
  have back : ∀ (v : AV), Rel kn' m' v undef → True := fun _ _ => trivial
  cases e with
  | normal =>
    cases ae <;> first | (simp only [RelExit] at hx; done) | skip
    obtain ⟨r, h1, h2, h3⟩ := hq
    obtain ⟨v, q1, q2⟩ := results_sound hR.inv hR.env h1
    exact ⟨hR.defs, v, q1, _, knAll kn' w.heap.size w', h3, fin r v q2 h2, hkok, hbel, hkold⟩
  | ret =>
    cases ae <;> first | (simp only [RelExit] at hx; done) | skip
    obtain ⟨r, h1, h2, h3⟩ := hq
    obtain ⟨v, q1, q2⟩ := results_sound hR.inv hR.env h1
    exact ⟨hR.defs, v, q1, _, knAll kn' w.heap.size w', h3, fin r v q2 h2, hkok, hbel, hkold⟩
  | panic ch =>
    cases ae <;> first | (simp only [RelExit] at hx; done) | skip
    obtain ⟨u, rfl, hu⟩ := hx
    exact ⟨hR.defs, _, knAll kn' w.heap.size w', hq.2, ⟨u, rfl, fin _ u hu hq.1⟩, hkok, hbel, hkold⟩
  | exit id => cases ae <;> first | (simp only [RelExit] at hx; done) | exact hq.elim
  | goto l => cases ae <;> first | (simp only [RelExit] at hx; done) | exact hq.elim
  | outgrown => cases ae <;> (simp only [RelExit] at hx)

/-- What a body owes that may write objects. -/
def APost (C : Cx) (rs : List ResultVar) (Q : AOut → Sto → Nat → Prop) : AExit → St → Prop
  | .normal, s => ∃ r, resA C.P rs s = some r ∧ Q (.ret r) s.σ s.nx
  | .ret, s => ∃ r, resA C.P rs s = some r ∧ Q (.ret r) s.σ s.nx
  | .pan v, s => Q (.pan v) s.σ s.nx
  | _, _ => False

theorem acall_intro {C : Cx} {g : FuncId} {fn : Func} {c : Code} {args : List AV} {σ : Sto} {nx : Nat} (hf : C.P.funcs[g]? = some fn) (hb : fn.body = some c) (hname : (fn.name == "runtime.NumGoroutine") = false) (hn : args.length ≤ fn.ntmps) {Q : AOut → Sto → Nat → Prop}
    (h : aw C fn.ntmps [] c (APost C fn.results.toList Q) ⟨argEnv args, σ, nx⟩) : ACall C g args σ nx Q := by
  refine fun B kn m w vs hI hr => .inl ⟨bodyOK_mk hf hb hname, ?_⟩
  refine calls_of_wp hf hb (wp_mono (h B kn m _ w (argEnv_rel hr hn) rfl hI) ?_)
  rintro e act' w' ⟨ae, s', kn', m', hx, hR, hq⟩
  cases e with
  | normal =>
    cases ae <;> first | (simp only [RelExit] at hx; done) | skip
    obtain ⟨r, h1, h3⟩ := hq
    obtain ⟨v, q1, q2⟩ := results_sound hR.inv hR.env h1
    exact ⟨hR.defs, v, q1, _, kn', m', _, _, h3, q2, hR.knle, hR.inv, hR.keep⟩
  | ret =>
    cases ae <;> first | (simp only [RelExit] at hx; done) | skip
    obtain ⟨r, h1, h3⟩ := hq
    obtain ⟨v, q1, q2⟩ := results_sound hR.inv hR.env h1
    exact ⟨hR.defs, v, q1, _, kn', m', _, _, h3, q2, hR.knle, hR.inv, hR.keep⟩
  | panic ch =>
    cases ae <;> first | (simp only [RelExit] at hx; done) | skip
    obtain ⟨u, rfl, hu⟩ := hx
    exact ⟨hR.defs, _, kn', m', _, _, hq, ⟨u, rfl, hu⟩, hR.knle, hR.inv, hR.keep⟩
  | exit id => cases ae <;> first | (simp only [RelExit] at hx; done) | exact hq.elim
  | goto l => cases ae <;> first | (simp only [RelExit] at hx; done) | exact hq.elim
  | outgrown => cases ae <;> (simp only [RelExit] at hx)
end Go.Ab
