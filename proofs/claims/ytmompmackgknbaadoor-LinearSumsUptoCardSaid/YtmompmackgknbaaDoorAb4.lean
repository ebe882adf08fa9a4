/-
  THE FUNCTION 'fop' IS SOUND: the operation gives a value that is what 'fop' says, and the invariant lives on.
-/
import Derived.Test.YtmompmackgknbaaDoorAb3
import Derived.Laws.Concat
set_option linter.unusedVariables false
set_option linter.unusedSimpArgs false
namespace Go.Ab
open Go Go.RowKit

section
variable {C : Cx} {B : Base} {kn : Kn} {m : Mp} {σ : Sto} {nx : Nat} {w : World}

/-- The operation gives a value; nothing is written. -/
def Gives (C : Cx) (B : Base) (kn : Kn) (m : Mp) (σ : Sto) (nx : Nat) (x : AV) (r : Result Value) : Prop :=
  ∃ u kn' w', r = .ok u w' ∧ KnLe kn kn' ∧ Rel kn' m x u ∧ Inv C B kn' m σ nx w'
theorem Gives.pure (hI : Inv C B kn m σ nx w) {x : AV} {u : Value} {r : Result Value} (hr : r = .ok u w) (hx : Rel kn m x u) : Gives C B kn m σ nx x r := ⟨u, kn, w, hr, KnLe.refl _, hx, hI⟩

theorem run_typeInfo' {t : TypeId} {i : TypeInfo} (h : C.P.info? t = some i) (w : World) : (typeInfo t).run C.P w = .ok i w := by simp [typeInfo, h]
theorem run_sizeOf' {t : TypeId} {n : Nat} (h : szT C.P t = some n) (w : World) : (sizeOf t).run C.P w = .ok n w := by
  unfold szT at h
  cases hi : C.P.info? t with
  | none => simp [hi] at h
  | some i => simp [hi] at h; simp [sizeOf, typeInfo, hi, h]
theorem run_isAgg' {t : TypeId} {b : Bool} (h : aggT C.P t = some b) (w : World) : (isAgg t).run C.P w = .ok b w := by
  unfold aggT at h
  cases hu : C.P.underlying t with
  | none => simp [hu] at h
  | some d =>
    simp only [hu, Option.map_some, Option.some.injEq] at h
    subst h
    unfold isAgg
    rw [Sem.run_bind, run_underlying hu w]
    cases d <;> rfl

theorem zero_sound {T : TypeId} {cs : List AV} (h : zeroCells C.P T = some cs) (kn : Kn) (m : Mp) : ∃ i z, C.P.info? T = some i ∧ i.zero = some z ∧ cs = z.cells.toList.map ofVal ∧ RelC kn m cs z.cells.toList := by
  unfold zeroCells at h
  cases hi : C.P.info? T with
  | none => simp [hi] at h
  | some i =>
    cases hz : i.zero with
    | none => simp [hi, hz] at h
    | some z =>
      simp only [hi, Option.bind_some, hz, Option.ite_none_right_eq_some, Option.some.injEq] at h
      refine ⟨i, z, rfl, hz, h.2.symm, ⟨?_, fun v hv => ?_⟩⟩
      · rw [← h.2]
        refine ⟨by simp, fun j x v a b => ?_⟩
        rw [List.getElem?_map] at a
        rw [b] at a
        simp at a
        subst a
        exact ofVal_rel kn m v
      · exact List.all_eq_true.1 h.1 v hv

/-! ### A box: a new variable that nobody writes -/
theorem gives_box (hI : Inv C B kn m σ nx w) {x : AV} {v : Value} {cs : List AV} (hx : Rel kn m x v) (hc : cellsA x = some cs) (T : TypeId) :
    Gives C B kn m σ nx (.rptr cs) ((Instr.box T v).run C.P w) := by
  obtain ⟨hk, hI'⟩ := hI.box v.cells T
  have hrl := hx.cells hc
  refine ⟨_, _, _, rfl, hk, .rptr cs w.heap.size 0 (fun j => v.cells.getD j undef) (fun j y hy => ?_) (fun j y hy => ?_) (fun j y hy => ?_), hI'⟩
  · have hj : j < v.cells.size := by have := hrl.1.1; have h2 := (List.getElem?_eq_some_iff.1 hy).1; simp at this; omega
    simp [knPut, hj]
  · have hj : j < v.cells.size := by have := hrl.1.1; have h2 := (List.getElem?_eq_some_iff.1 hy).1; simp at this; omega
    refine (hrl.1.2 j y _ hy ?_).mono hk (MpLe.refl m)
    simp [hj]
  · have hj : j < v.cells.size := by have := hrl.1.1; have h2 := (List.getElem?_eq_some_iff.1 hy).1; simp at this; omega
    exact hrl.2 _ (by simp [hj])

theorem mapM_places {fs : List Field} {pl : List (Nat × Nat)} (P : Program) (h : fs.mapM (fun x => (szT P x.type).map fun n => (x.offset, n)) = some pl) (w : World) :
    (fs.mapM (fun f : Field => (do pure (f.offset, ← sizeOf f.type) : Sem (Nat × Nat)))).run P w = .ok pl w := by
  induction fs generalizing pl with
  | nil => simp at h; subst h; rfl
  | cons f rest ih =>
    simp only [List.mapM_cons] at h ⊢
    cases hs : szT P f.type with
    | none => simp [hs] at h
    | some n =>
      simp only [hs, Option.map_some, Option.bind_eq_bind, Option.bind_some] at h
      cases hr : rest.mapM (fun x => (szT P x.type).map fun n => (x.offset, n)) with
      | none => simp [hr] at h
      | some pl' =>
        simp [hr] at h
        subst h
        have h1 : (sizeOf f.type).run P w = .ok n w := by
          unfold szT at hs
          cases hi : P.info? f.type with
          | none => simp [hi] at hs
          | some i => simp [hi] at hs; simp [sizeOf, typeInfo, hi, hs]
        simp only [Sem.run_bind, h1, Result.andThen_ok, Sem.run_pure, ih hr]

theorem gives_build (hI : Inv C B kn m σ nx w) {t : TypeId} {z cs : List AV} {pl : List (Nat × Nat)} {parts : List (Nat × AV)} {parts' : Array (Nat × Value)} (hz : zeroCells C.P t = some z) (hb : bldT C.P t = some pl)
    (hf : fillA (pl[·]?) z parts = some cs) (hl : parts.length = parts'.size)
    (hp : ∀ (i : Nat) (p : Nat × AV) (p' : Nat × Value), parts[i]? = some p → parts'[i]? = some p' → p.1 = p'.1 ∧ Rel kn m p.2 p'.2) :
    Gives C B kn m σ nx (.agg cs) ((Instr.build t parts').run C.P w) := by
  obtain ⟨i, zv, hi, hzv, rfl, hzr⟩ := zero_sound hz kn m
  obtain ⟨out, h1, h2⟩ := fill_sound (pl[·]?) parts parts'.toList _ cs _ hf (by simpa using hl) (fun j p p' a b => hp j p p' a (by simpa using b)) hzr
  have h1' : Instr.fill (fun i => pl[i]?) zv.cells parts'.toList = some out := by simpa using h1
  unfold bldT at hb
  cases hu : C.P.underlying t with
  | none => simp [hu] at hb
  | some d =>
    cases d with
    | struct fs =>
      simp only [hu] at hb
      have hm := mapM_places C.P hb w
      have hm2 : (fs.mapM (fun f : Field => (do pure (f.offset, ← sizeOf f.type) : Sem (Nat × Nat)))).run C.P w = .ok pl.toArray w := by
        rw [Array.mapM_eq_mapM_toList]
        simp only [Sem.run_map, hm, Result.andThen_ok]
      refine Gives.pure hI (u := .agg out) ?_ (.agg _ _ (by simpa using h2.1.1) (fun j x v a b => h2.1.2 j x v a (by simpa using b)) (fun j v a => h2.2 v (List.mem_of_getElem? (by simpa using a))))
      simp only [Instr.build, zeroValue, typeInfo, run_program, Sem.run_bind, Result.andThen_ok, hi, hzv, Sem.run_pure, run_underlying hu]
      rw [hm2]
      simp only [Result.andThen_ok]
      have e : (fun (i : Nat) => pl.toArray[i]?) = fun (i : Nat) => pl[i]? := by funext i; simp
      rw [e, h1']
      rfl
    | array n e =>
      simp only [hu] at hb
      cases hs : szT C.P e with
      | none => simp [hs] at hb
      | some s =>
        simp only [hs, Option.map_some, Option.some.injEq] at hb
        have hfill : ∀ (parts : List (Nat × Value)) (cells out : Array Value), Instr.fill (fun (i : Nat) => pl[i]?) cells parts = some out → Instr.fill (fun (i : Nat) => some (i * s, s)) cells parts = some out := by
          intro parts
          induction parts with
          | nil => intro cells out h; simpa [Instr.fill] using h
          | cons p rest ih =>
            obtain ⟨j, v⟩ := p
            intro cells out h
            simp only [Instr.fill] at h ⊢
            cases hpj : pl[j]? with
            | none => simp [hpj] at h
            | some os =>
              obtain ⟨o, s'⟩ := os
              simp only [hpj] at h
              have : o = j * s ∧ s' = s := by
                rw [← hb, List.getElem?_map] at hpj
                cases hr : (List.range n)[j]? with
                | none => simp [hr] at hpj
                | some j' =>
                  have hjl : j < n := by
                    have := (List.getElem?_eq_some_iff.1 hr).1
                    simpa using this
                  rw [List.getElem?_range hjl] at hr
                  cases hr
                  rw [List.getElem?_range hjl] at hpj
                  simp at hpj
                  exact ⟨hpj.1.symm, hpj.2.symm⟩
              obtain ⟨rfl, rfl⟩ := this
              split at h
              · cases h
              · rename_i hc
                rw [if_neg hc]
                exact ih _ _ h
        have h1'' := hfill _ _ _ h1'
        refine Gives.pure hI (u := .agg out) ?_ (.agg _ _ (by simpa using h2.1.1) (fun j x v a b => h2.1.2 j x v a (by simpa using b)) (fun j v a => h2.2 v (List.mem_of_getElem? (by simpa using a))))
        simp only [Instr.build, zeroValue, typeInfo, run_program, Sem.run_bind, Result.andThen_ok, hi, hzv, Sem.run_pure, run_underlying hu, run_sizeOf' hs, h1'']
    | _ => simp [hu] at hb
end
end Go.Ab
