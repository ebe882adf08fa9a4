/-
  WHAT AN OPERATION MAKES OF ABSTRACT VALUES, part one: operations that have a value and write nothing that was there.
-/
import Derived.Test.YtmompmackgknbaaDoorAb1
import Derived.Laws.Strings2
import Derived.Laws.Unary
import Derived.Laws.Slices
import Derived.Laws.Cells
set_option linter.unusedVariables false
set_option linter.unusedSimpArgs false
namespace Go.Ab
open Go Go.RowKit

/-! ### What is asked of the program's types -/
def aggD : TypeDesc → Bool
  | .struct _ | .array _ _ => true
  | _ => false
def aggT (P : Program) (t : TypeId) : Option Bool := (P.underlying t).map aggD
def szT (P : Program) (t : TypeId) : Option Nat := (P.info? t).map (·.size)
def fldT (P : Program) (s f : Nat) : Option (Nat × Nat × Bool) :=
  match P.underlying s with
  | some (.struct fs) => match fs[f]? with
    | some x => match szT P x.type, aggT P x.type with
      | some n, some a => some (x.offset, n, a)
      | _, _ => none
    | none => none
  | _ => none
/-- A slice's element type, its cells, its bytes. -/
def elmT (P : Program) (t : TypeId) : Option (Nat × Nat × Nat) :=
  match P.underlying t with
  | some (.slice e) => match P.info? e with
    | some i => some (e, i.size, i.bytes)
    | none => none
  | _ => none
def arrT (P : Program) (t : TypeId) : Option (Nat × Nat × Nat) :=
  match P.underlying t with
  | some (.array n e) => match szT P e with
    | some s => some (n, e, s)
    | none => none
  | _ => none
def strT (P : Program) (t : TypeId) : Bool := match P.underlying t with | some .string => true | _ => false
def intT (P : Program) (t : TypeId) : Option IntKind := match P.underlying t with | some (.int k) => some k | _ => none
def slcT (P : Program) (t : TypeId) : Bool := match P.underlying t with | some (.slice _) => true | _ => false
def ptrT (P : Program) (t : TypeId) : Bool := match P.underlying t with | some (.pointer _) => true | _ => false
def conT (P : Program) (t : TypeId) : Bool := match P.underlying t with | some (.interface _) => false | none => false | _ => true
def undT (P : Program) (t : TypeId) : Bool := (P.underlying t).isSome
/-- Where the parts of a struct or an array lie. -/
def bldT (P : Program) (t : TypeId) : Option (List (Nat × Nat)) :=
  match P.underlying t with
  | some (.struct fs) => fs.toList.mapM fun x => (szT P x.type).map fun n => (x.offset, n)
  | some (.array n e) => (szT P e).map fun s => (List.range n).map fun i => (i * s, s)
  | _ => none

/-! ### Operands -/
def opv (C : Cx) (env : Nat → AV) : Operand → AV
  | .tmp t => env t
  | .const v => ofVal v
  | .global g => C.gl g
  | .func f => .fn (.func f) [] []

structure RelEnv (kn : Kn) (m : Mp) (env : Nat → AV) (n : Nat) (act : Act) : Prop where
  size : act.tmps.size = n
  tmp : ∀ t, Rel kn m (env t) (act.tmps.getD t undef)

theorem RelEnv.mono {kn kn' : Kn} {m m' : Mp} {env : Nat → AV} {n : Nat} {act : Act} (h : RelEnv kn m env n act) (hk : KnLe kn kn') (hm : MpLe m m') : RelEnv kn' m' env n act :=
  ⟨h.size, fun t => (h.tmp t).mono hk hm⟩

def upd (env : Nat → AV) (d : Nat) (v : AV) : Nat → AV := fun t => if t = d then v else env t
theorem upd_same (env : Nat → AV) (d : Nat) (v : AV) : upd env d v d = v := by simp [upd]
theorem upd_ne (env : Nat → AV) (d : Nat) (v : AV) (t : Nat) (h : t ≠ d) : upd env d v t = env t := by simp [upd, h]
def updo (env : Nat → AV) : Option Nat → AV → Nat → AV
  | some d, v => upd env d v
  | none, _ => env

theorem RelEnv.put {kn : Kn} {m : Mp} {env : Nat → AV} {n : Nat} {act : Act} (h : RelEnv kn m env n act) (dst : Option Tmp) (hd : ∀ d, dst = some d → d < n) {x : AV} {v : Value} (hv : Rel kn m x v) :
    RelEnv kn m (updo env dst x) n (act.put dst v) := by
  cases dst with
  | none => exact h
  | some d =>
    have hdn : @LT.lt Nat _ d n := hd d rfl
    refine ⟨by simp [Act.put, h.size], fun t => ?_⟩
    simp only [updo, upd, Act.put]
    by_cases e : t = d
    · subst e
      have : t < act.tmps.size := by rw [h.size]; exact hdn
      simp [this]; exact hv
    · rw [if_neg e]
      have := h.tmp t
      simpa [Array.getElem?_setIfInBounds_ne (Ne.symm e)] using this

theorem rel_opv {C : Cx} {B : Base} {kn : Kn} {m : Mp} {σ : Sto} {nx : Nat} {w : World} {env : Nat → AV} {n : Nat} {act : Act} (hI : Inv C B kn m σ nx w) (h : RelEnv kn m env n act) (x : Operand) : Rel kn m (opv C env x) (act.eval x) := by
  cases x with
  | tmp t => exact h.tmp t
  | const v => exact ofVal_rel kn m v
  | global g => exact hI.glob g
  | func f => exact .fn _ [] [] #[] #[] rfl rfl (fun i x v a => by simp at a) (fun i x v a => by simp at a)

/-! ### Reading -/
def sget (σ : Sto) (pos nm : Nat) : Option AObj :=
  match σ[pos]? with
  | some (n, o) => if n = nm then some o else none
  | none => none
theorem sget_some {σ : Sto} {pos nm : Nat} {o : AObj} (h : sget σ pos nm = some o) : σ[pos]? = some (nm, o) := by
  unfold sget at h
  split at h
  · rename_i n o' e
    split at h
    · rename_i hn; subst hn; cases h; exact e
    · cases h
  · cases h

def loadC (P : Program) (T : TypeId) (cs : List AV) : Option AV :=
  match aggT P T, szT P T with
  | some true, some n => if n ≤ cs.length then some (.agg (cs.take n)) else none
  | some false, _ => cs.head?
  | _, _ => none
def readA (P : Program) (T : TypeId) (σ : Sto) : AV → Option AV
  | .rptr cs => loadC P T cs
  | .ref p n off => match sget σ p n with
    | some (.cells _ cs) => loadC P T (cs.drop off)
    | _ => none
  | .eref p n i off => match sget σ p n with
    | some (.gvec _ _ rows) => match rows[i]? with
      | some row => loadC P T (row.drop off)
      | none => none
    | _ => none
  | _ => none

theorem add_mk (b o n : Nat) : (⟨b, o, none⟩ : Addr).add n = ⟨b, o + n, none⟩ := Addr.add_lit b o n

/-- A variable's value, out of its cells. -/
theorem run_loadC {P : Program} {T : TypeId} {kn : Kn} {m : Mp} {cs : List AV} {x : AV} (h : loadC P T cs = some x) (w : World) (b o : Nat)
    (hc : ∀ (j : Nat) (y : AV), cs[j]? = some y → ∃ v, w.cell? ⟨b, o + j, none⟩ = some v ∧ Rel kn m y v ∧ v.oneCell' = true) :
    ∃ v, (loadVar T ⟨b, o, none⟩).run P w = .ok v w ∧ Rel kn m x v := by
  unfold loadC aggT szT at h
  cases hu : P.underlying T with
  | none => simp [hu] at h
  | some d =>
    have hagg : (isAgg T).run P w = .ok (aggD d) w := by
      unfold isAgg
      rw [Sem.run_bind, run_underlying hu w]
      cases d <;> rfl
    simp only [hu, Option.map_some] at h
    cases ha : aggD d with
    | true =>
      simp only [ha] at h hagg
      cases hi : P.info? T with
      | none => simp [hi] at h
      | some i =>
        simp only [hi, Option.map_some] at h
        split at h
        · rename_i hle
          cases h
          have hcs : ∃ vs : List Value, vs.length = i.size ∧ ∀ j v, vs[j]? = some v → w.cell? ⟨b, o + j, none⟩ = some v ∧ (∀ y, (cs.take i.size)[j]? = some y → Rel kn m y v) ∧ v.oneCell' = true := by
            refine ⟨(List.range i.size).map fun j => (w.cell? ⟨b, o + j, none⟩).getD undef, by simp, fun j v hj => ?_⟩
            rw [List.getElem?_map] at hj
            cases hr : (List.range i.size)[j]? with
            | none => simp [hr] at hj
            | some j' =>
              have hjl : j < i.size := by
                have := List.getElem?_eq_some_iff.1 hr
                obtain ⟨hl, _⟩ := this
                simpa using hl
              have hjj : j' = j := by
                rw [List.getElem?_range hjl] at hr; cases hr; rfl
              subst hjj
              simp only [hr, Option.map_some, Option.some.injEq] at hj
              have hlt : j' < cs.length := by omega
              obtain ⟨v', hv', hr', ho'⟩ := hc j' cs[j'] (List.getElem?_eq_getElem hlt)
              rw [hv'] at hj
              simp at hj
              subst hj
              refine ⟨hv', fun y hy => ?_, ho'⟩
              rw [List.getElem?_take, if_pos hjl, List.getElem?_eq_getElem hlt] at hy
              cases hy
              exact hr'
          obtain ⟨vs, hvl, hvs⟩ := hcs
          have hl := run_loadCells_list (P := P) w ⟨b, o, none⟩ vs (fun j v hj => by rw [add_mk]; exact (hvs j v hj).1)
          refine ⟨.agg vs.toArray, ?_, .agg _ _ (by simp [hvl, hle]) (fun j y v hy hv => ?_) (fun j v hv => (hvs j v (by simpa using hv)).2.2)⟩
          · rw [hvl] at hl
            simp [loadVar, hagg, sizeOf, typeInfo, hi, hl]
          · have hv' : vs[j]? = some v := by simpa using hv
            exact (hvs j v hv').2.1 y hy
        · cases h
    | false =>
      simp only [ha] at h hagg
      have hh : cs[0]? = some x := by cases cs <;> simp_all
      obtain ⟨v, hv, hr, _⟩ := hc 0 x hh
      refine ⟨v, ?_, hr⟩
      simp [loadVar, hagg]
      simp only [Nat.add_zero] at hv
      simp [hv]

theorem run_readA {C : Cx} {B : Base} {kn : Kn} {m : Mp} {σ : Sto} {nx : Nat} {w : World} (hI : Inv C B kn m σ nx w) {T : TypeId} {a x : AV} {v : Value} (h : readA C.P T σ a = some x) (ha : Rel kn m a v) :
    ∃ u, (Instr.loadAt T v).run C.P w = .ok u w ∧ Rel kn m x u := by
  cases ha with
  | rptr cs b o vals hk hr ho =>
    simp only [readA] at h
    obtain ⟨u, h1, h2⟩ := run_loadC (kn := kn) (m := m) h w b o (fun j y hy => ⟨vals j, hI.knok _ _ _ (hk j y hy), hr j y hy, ho j y hy⟩)
    exact ⟨u, by simp [Instr.loadAt, Instr.sureAddr, h1], h2⟩
  | ref p n off loc hm =>
    simp only [readA] at h
    cases hs : sget σ p n with
    | none => simp [hs] at h
    | some ob =>
      cases ob with
      | cells T' cs =>
        simp only [hs] at h
        have hob := hI.obj _ _ _ (sget_some hs)
        simp only [ObjRel, hm] at hob
        obtain ⟨h0, arr, ty, hw, hrl⟩ := hob
        obtain ⟨u, h1, h2⟩ := run_loadC (kn := kn) (m := m) h w loc.blk (loc.off + off) (fun j y hy => by
          rw [List.getElem?_drop] at hy
          have hlt : off + j < cs.length := (List.getElem?_eq_some_iff.1 hy).1
          have hlt' : off + j < arr.toList.length := by rw [← hrl.1.1]; exact hlt
          refine ⟨arr.toList[off + j], ?_, hrl.1.2 _ _ _ hy (List.getElem?_eq_getElem hlt'), hrl.2 _ (List.getElem_mem hlt')⟩
          have hlt'' : off + j < arr.size := by simpa using hlt'
          simp [World.cell?, hw, h0, hlt''])
        exact ⟨u, by simp [Instr.loadAt, Instr.sureAddr, h1], h2⟩
      | _ => simp [hs] at h
  | eref p n i off loc hm =>
    simp only [readA] at h
    cases hs : sget σ p n with
    | none => simp [hs] at h
    | some ob =>
      cases ob with
      | gvec esz ety rows =>
        simp only [hs] at h
        cases hrow : rows[i]? with
        | none => simp [hrow] at h
        | some row =>
          simp only [hrow] at h
          have hob := hI.obj _ _ _ (sget_some hs)
          obtain ⟨loc', hm', he, arr, hw, hsz, hle, hmx, hone, hrl, hrr⟩ := hob
          rw [hm] at hm'; cases hm'
          subst he
          obtain ⟨u, h1, h2⟩ := run_loadC (kn := kn) (m := m) h w loc.blk (loc.off + i * loc.esz + off) (fun j y hy => by
            rw [List.getElem?_drop] at hy
            have hlt : off + j < row.length := (List.getElem?_eq_some_iff.1 hy).1
            rw [hrl i row hrow] at hlt
            have hir : i < rows.length := (List.getElem?_eq_some_iff.1 hrow).1
            have hin : loc.off + i * loc.esz + (off + j) < arr.size := by
              have : i * loc.esz + loc.esz ≤ loc.cap * loc.esz := by
                rw [← Nat.succ_mul]; exact Nat.mul_le_mul_right _ (by omega)
              omega
            refine ⟨arr[loc.off + i * loc.esz + (off + j)], ?_, hrr i row (off + j) y _ hrow hy (by simp [hin]), hone _ (by simp)⟩
            simp only [World.cell?, hw]
            rw [Nat.add_assoc (loc.off + i * loc.esz)]
            simp [hin])
          exact ⟨u, by simp [Instr.loadAt, Instr.sureAddr, h1], h2⟩
      | _ => simp [hs] at h
  | _ => simp [readA] at h
end Go.Ab
