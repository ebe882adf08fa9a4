/-
  'fop' IS SOUND, the end.
-/
import Derived.Test.YtmompmackgknbaaDoorAb6
set_option linter.unusedVariables false
set_option linter.unusedSimpArgs false
namespace Go.Ab
open Go Go.RowKit

section
variable {C : Cx} {B : Base} {kn : Kn} {m : Mp} {σ : Sto} {nx : Nat} {w : World}

theorem nil_true {b : AV} {u : Value} (h : nilA b = some true) (hr : Rel kn m b u) : (b = .base (.slice none 0 0) ∧ u = .slice none 0 0) ∨ (b = .base (.pointer none) ∧ u = .pointer none) ∨ (b = .base (.map none) ∧ u = .map none) ∨
    (b = .base .nilFunc ∧ u = .nilFunc) ∨ (b = .base .nilIface ∧ u = .nilIface) := by
  cases hr with
  | base _ => unfold nilA at h; split at h <;> simp_all
  | _ => simp_all [nilA]

theorem run_equalIn_nil (n : Nat) {t : Nat} {d : TypeDesc} (hd : C.P.underlying t = some d) {a b : AV} {v u : Value} (ha : Rel kn m a v) (hb : Rel kn m b u) (hta : nilT d a = true) (htb : nilT d b = true) {r : Bool} (hna : nilA a = some r) (hnb : nilA b = some true) :
    (Op.equalIn (n + 1) t v u).run C.P w = .ok r w := by
  simp only [Op.equalIn, Sem.run_bind, run_underlying hd, Result.andThen_ok]
  rcases nil_true hnb hb with ⟨rfl, rfl⟩ | ⟨rfl, rfl⟩ | ⟨rfl, rfl⟩ | ⟨rfl, rfl⟩ | ⟨rfl, rfl⟩
  all_goals (cases d <;> simp [nilT] at htb)
  all_goals (cases ha <;> try (simp [nilT] at hta; done))
  all_goals try (simp only [nilA, Option.some.injEq] at hna; subst hna; rfl)
  all_goals try (simp [nilA] at hna; done)
  all_goals try (rename_i rows _ _ _ _ _ _ _ _ _ _; cases rows <;> simp [nilA] at hna; subst hna; rfl)
  all_goals (unfold nilT at hta; split at hta <;> simp_all [nilA] <;> (subst hna; simp))

theorem isNil_cases {y : Operand} (h : isNilConst y = true) : ∃ c, y = .const c := by
  cases y with
  | const c => exact ⟨c, rfl⟩
  | _ => simp [isNilConst] at h

theorem gives_bin (hI : Inv C B kn m σ nx w) {op : BinOp} {t : Nat} {a b x : AV} {v u : Value} {ox oy : Operand} (h : abin C op t ox oy a b = some x) (ha : Rel kn m a v) (hb : Rel kn m b u) :
    Gives C B kn m σ nx x ((do eqGuard op t ox oy v u; binOp op t v u : Sem Value).run C.P w) := by
  unfold abin at h
  split at h
  · rename_i k p k' q
    cases ha; cases hb
    split at h
    · split at h
      · rename_i hq
        cases h
        refine Gives.pure hI ?_ (.int _ _)
        simp only [eqGuard_shl, pure_bind, binOp_shl, shift_shl k k' p q hq.1 hq.2, Sem.run_pure]
      · cases h
    · split at h
      · rename_i hq
        cases h
        refine Gives.pure hI ?_ (.int _ _)
        simp only [eqGuard_shr, pure_bind, binOp_shr, shift_shr k k' p q hq.1 hq.2, Sem.run_pure]
      · cases h
    · split at h
      · rename_i hk
        subst hk
        exact gives_binInt hI h
      · cases h
  · cases ha; cases hb
    exact gives_binStr hI h
  · rename_i p q
    cases ha; cases hb
    split at h
    · rename_i ht
      have hu : C.P.underlying t = some .bool := by
        unfold isBoolT at ht
        split at ht
        · assumption
        · cases ht
      have heq : (Op.equal t (.bool p) (.bool q)).run C.P w = .ok (p == q) w := by
        unfold Op.equal Op.maxDepth
        show (Op.equalIn (9999 + 1) t (.bool p) (.bool q)).run C.P w = _
        generalize 9999 = n
        simp only [Op.equalIn, Sem.run_bind, run_underlying hu, Result.andThen_ok, Sem.run_pure]
      simp only [eqGuard_at_bool, pure_bind]
      split at h
      · cases h
        exact Gives.pure hI (by simp [binOp, heq]) (.bool _)
      · cases h
        exact Gives.pure hI (by simp [binOp, heq]) (.bool _)
      · cases h
    · cases h
  · rename_i hx1 hx2 hx3
    split at h
    · rename_i hn
      obtain ⟨c, rfl⟩ := isNil_cases hn
      split at h
      · rename_i r h1 h2
        cases h
        unfold nilTest at h1 h2
        split at h1
        · rename_i d hd
          simp only [hd] at h2
          split at h1
          · rename_i hta
            split at h2
            · rename_i htb
              have heq := run_equalIn_nil (w := w) 9999 hd ha hb hta htb h1 h2
              have heq' : (Op.equal t v u).run C.P w = .ok r w := heq
              have hg : eqGuard .eql t ox (.const c) v u = pure () := by
                rcases nil_true h2 hb with ⟨rfl, rfl⟩ | ⟨rfl, rfl⟩ | ⟨rfl, rfl⟩ | ⟨rfl, rfl⟩ | ⟨rfl, rfl⟩ <;> cases v <;> first | rfl | exact eqGuard_nil_constR _ _ _ _
              have hbn : (binOp .eql t v u).run C.P w = .ok (.bool r) w := by
                have e : binOp .eql t v u = (do pure (.bool (← Op.equal t v u))) := by
                  rcases nil_true h2 hb with ⟨rfl, rfl⟩ | ⟨rfl, rfl⟩ | ⟨rfl, rfl⟩ | ⟨rfl, rfl⟩ | ⟨rfl, rfl⟩ <;> cases v <;> rfl
                rw [e]; simp [heq']
              exact Gives.pure hI (by rw [hg]; simpa using hbn) (.bool _)
            · cases h2
          · cases h1
        · cases h1
      · rename_i r h1 h2
        cases h
        unfold nilTest at h1 h2
        split at h1
        · rename_i d hd
          simp only [hd] at h2
          split at h1
          · rename_i hta
            split at h2
            · rename_i htb
              have heq := run_equalIn_nil (w := w) 9999 hd ha hb hta htb h1 h2
              have heq' : (Op.equal t v u).run C.P w = .ok r w := heq
              have hg : eqGuard .neq t ox (.const c) v u = pure () := by
                rcases nil_true h2 hb with ⟨rfl, rfl⟩ | ⟨rfl, rfl⟩ | ⟨rfl, rfl⟩ | ⟨rfl, rfl⟩ | ⟨rfl, rfl⟩ <;> cases v <;> first | rfl | exact eqGuard_nil_constR _ _ _ _
              have hbn : (binOp .neq t v u).run C.P w = .ok (.bool (!r)) w := by
                have e : binOp .neq t v u = (do pure (.bool (!(← Op.equal t v u)))) := by
                  rcases nil_true h2 hb with ⟨rfl, rfl⟩ | ⟨rfl, rfl⟩ | ⟨rfl, rfl⟩ | ⟨rfl, rfl⟩ | ⟨rfl, rfl⟩ <;> cases v <;> rfl
                rw [e]; simp [heq']
              exact Gives.pure hI (by rw [hg]; simpa using hbn) (.bool _)
            · cases h2
          · cases h1
        · cases h1
      · cases h
    · cases h

theorem gives_un (hI : Inv C B kn m σ nx w) {op : UnOp} {a x : AV} {v : Value} (h : aun op a = some x) (ha : Rel kn m a v) : Gives C B kn m σ nx x ((Op.unary op v).run C.P w) := by
  unfold aun at h
  split at h
  · cases h; cases ha; exact Gives.pure hI (by simp [unary_neg, Op.intArith]) (.int _ _)
  · cases h; cases ha; exact Gives.pure hI (by simp [unary_not]) (.bool _)
  · cases h

theorem gives_conv (hI : Inv C B kn m σ nx w) {s d : Nat} {a x : AV} {v : Value} (h : aconv C.P s d a = some x) (ha : Rel kn m a v) : Gives C B kn m σ nx x ((convert s d v).run C.P w) := by
  unfold aconv at h
  split at h
  · cases ha
    split at h
    · rename_i k hs hd
      cases h
      obtain ⟨ds, hs'⟩ := Option.isSome_iff_exists.1 hs
      have hd' : C.P.underlying d = some (.int k) := by
        unfold intT at hd
        split at hd
        · cases hd; assumption
        · cases hd
      refine Gives.pure hI ?_ (.int _ _)
      simp [convert, run_underlying hs', run_underlying hd', Conv.intToInt]
    · cases h
  · cases ha
    split at h
    · rename_i hc
      cases h
      refine Gives.pure hI ?_ (.str _)
      simp [convert, run_underlying (strT_sound hc.1), run_underlying (strT_sound hc.2)]
    · cases h
  · cases h

theorem slcT_sound {P : Program} {t : Nat} (h : slcT P t = true) : ∃ e, P.underlying t = some (.slice e) := by
  unfold slcT at h
  split at h
  · rename_i e hu; exact ⟨e, hu⟩
  · cases h

theorem gives_len (hI : Inv C B kn m σ nx w) {t ty : Nat} {a x : AV} {v : Value} (h : lenA C.P t a = some x) (ha : Rel kn m a v) : Gives C B kn m σ nx x ((Builtin.len_ #[t] ty #[v]).run C.P w) := by
  have hs : ∀ l : List UInt8, (ByteArray.mk l.toArray).size = l.length := fun l => by simp [ByteArray.size]
  unfold lenA at h
  split at h
  · cases ha
    split at h
    · rename_i l hc
      cases h
      have := Go.run_len_string (P := C.P) w t ty (ByteArray.mk l.toArray) (strT_sound hc)
      rw [hs] at this
      exact Gives.pure hI this (.int _ _)
    · cases h
  · split at h
    · rename_i hc
      obtain ⟨e, hu⟩ := slcT_sound hc
      cases h
      cases ha
      · exact Gives.pure hI (by simp [Builtin.len_, run_underlying hu, goInt]) (.int _ _)
      · exact Gives.pure hI (by simp [Builtin.len_, run_underlying hu, goInt]) (.int _ _)
    · cases h
  · split at h
    · rename_i hc
      obtain ⟨e, hu⟩ := slcT_sound hc
      cases h
      cases ha
      exact Gives.pure hI (by simp [Builtin.len_, run_underlying hu, goInt]) (.int _ _)
    · cases h
  · split at h
    · rename_i hc
      obtain ⟨e, hu⟩ := slcT_sound hc
      cases h
      cases ha
      exact Gives.pure hI (by simp [Builtin.len_, run_underlying hu, goInt]) (.int _ _)
    · cases h
  · split at h
    · rename_i hc
      obtain ⟨e, hu⟩ := slcT_sound hc
      cases h
      cases ha
      exact Gives.pure hI (by simp [Builtin.len_, run_underlying hu, goInt]) (.int _ _)
    · cases h
  · cases h

theorem gives_ext (hI : Inv C B kn m σ nx w) {i : Nat} {a x : AV} {v : Value} (h : extA a i = some x) (ha : Rel kn m a v) : Gives C B kn m σ nx x ((Instr.extract v i).run C.P w) := by
  unfold extA at h
  split at h
  · cases ha with
    | tup _ vs hl hr =>
      have hlt : i < vs.size := by rw [← hl]; exact (List.getElem?_eq_some_iff.1 h).1
      exact Gives.pure hI (u := vs[i]) (by simp [Instr.extract, hlt]) (hr i x _ h (by simp [hlt]))
  · cases h

theorem conT_sound {P : Program} {t : Nat} (h : conT P t = true) : ∃ d, P.underlying t = some d ∧ ∀ ms, d ≠ .interface ms := by
  unfold conT at h
  split at h
  · cases h
  · cases h
  · rename_i x h1 h2
    cases hx : P.underlying t with
    | none => exact absurd hx h2
    | some d => exact ⟨d, rfl, fun ms e => h1 ms (by rw [hx, e])⟩

theorem zeroV_sound {t : Nat} {z : AV} (h : assertA.zeroV C.P t = some z) : ∃ u, (zeroValue t).run C.P w = .ok u w ∧ Rel kn m z u := by
  unfold assertA.zeroV at h
  cases hi : C.P.info? t with
  | none => simp [hi] at h
  | some i =>
    cases hz : i.zero with
    | none => simp [hi, hz] at h
    | some v =>
      simp only [hi, Option.bind_some, hz] at h
      refine ⟨v, by simp [zeroValue, typeInfo, hi, hz], ?_⟩
      split at h
      · rename_i cs
        simp only [Option.ite_none_right_eq_some, Option.some.injEq] at h
        obtain ⟨h1, rfl⟩ := h
        refine .agg _ _ (by simp) (fun j x v a b => ?_) (fun j v b => List.all_eq_true.1 h1 v (List.mem_of_getElem? (by simpa using b)))
        rw [List.getElem?_map] at a
        have b' : cs.toList[j]? = some v := by simpa using b
        rw [b'] at a
        simp at a
        subst a
        exact ofVal_rel kn m v
      · cases h
        exact ofVal_rel kn m _

theorem gives_assert (hI : Inv C B kn m σ nx w) {xt t : Nat} {ok : Bool} {a x : AV} {v : Value} (h : assertA C.P a t ok = some x) (ha : Rel kn m a v) : Gives C B kn m σ nx x ((Instr.typeAssert v xt t ok).run C.P w) := by
  have tup2 : ∀ (a b : AV) (u v : Value), Rel kn m a u → Rel kn m b v → Rel kn m (.tup [a, b]) (.tuple #[u, v]) := fun a b u v h1 h2 =>
    .tup _ _ rfl (fun i x y p q => by
      match i with
      | 0 => simp at p q; subst p; subst q; exact h1
      | 1 => simp at p q; subst p; subst q; exact h2
      | i + 2 => simp at p)
  unfold assertA at h
  split at h
  · rename_i hc
    obtain ⟨d, hd, hni⟩ := conT_sound hc
    split at h
    · rename_i t' y
      cases ha with
      | iface _ _ v' hr =>
        split at h
        · rename_i he
          subst he
          cases h
          cases ok
          · refine Gives.pure hI (u := v') ?_ hr
            cases d <;> simp [Instr.typeAssert, run_underlying hd] <;> exact absurd rfl (hni _)
          · refine Gives.pure hI (u := .tuple #[v', .bool true]) ?_ (tup2 _ _ _ _ hr (.bool _))
            cases d <;> simp [Instr.typeAssert, run_underlying hd] <;> exact absurd rfl (hni _)
        · rename_i he
          cases ok
          · simp at h
          · simp only [if_true] at h
            split at h
            · rename_i z hz
              cases h
              obtain ⟨u, hu, hzr⟩ := zeroV_sound (kn := kn) (m := m) (w := w) hz
              refine Gives.pure hI (u := .tuple #[u, .bool false]) ?_ (tup2 _ _ _ _ hzr (.bool _))
              cases d <;> simp [Instr.typeAssert, run_underlying hd, he, hu] <;> exact absurd rfl (hni _)
            · cases h
    · cases ha
      cases ok
      · simp at h
      · simp only [if_true] at h
        split at h
        · rename_i z hz
          cases h
          obtain ⟨u, hu, hzr⟩ := zeroV_sound (kn := kn) (m := m) (w := w) hz
          refine Gives.pure hI (u := .tuple #[u, .bool false]) ?_ (tup2 _ _ _ _ hzr (.bool _))
          cases d <;> simp [Instr.typeAssert, run_underlying hd, hu] <;> exact absurd rfl (hni _)
        · cases h
    · cases h
  · cases h

theorem rel_map {env : Nat → AV} {n : Nat} {act : Act} (hI : Inv C B kn m σ nx w) (hE : RelEnv kn m env n act) (l : Array Operand) :
    (l.toList.map (opv C env)).length = (l.map act.eval).size ∧ ∀ (i : Nat) (x : AV) (v : Value), (l.toList.map (opv C env))[i]? = some x → (l.map act.eval)[i]? = some v → Rel kn m x v := by
  refine ⟨by simp, fun i x v a b => ?_⟩
  rw [List.getElem?_map] at a
  rw [Array.getElem?_map] at b
  have hl : l.toList[i]? = l[i]? := by simp
  rw [hl] at a
  cases ho : l[i]? with
  | none => simp [ho] at a
  | some o =>
    simp [ho] at a b
    subst a; subst b
    exact rel_opv hI hE o

theorem rel_parts {env : Nat → AV} {n : Nat} {act : Act} (hI : Inv C B kn m σ nx w) (hE : RelEnv kn m env n act) (l : Array (Nat × Operand)) :
    (l.toList.map fun p => (p.1, opv C env p.2)).length = (l.map fun (i, x) => (i, act.eval x)).size ∧
    ∀ (i : Nat) (p : Nat × AV) (p' : Nat × Value), (l.toList.map fun p => (p.1, opv C env p.2))[i]? = some p → (l.map fun (i, x) => (i, act.eval x))[i]? = some p' → p.1 = p'.1 ∧ Rel kn m p.2 p'.2 := by
  refine ⟨by simp, fun i p p' a b => ?_⟩
  rw [List.getElem?_map] at a
  rw [Array.getElem?_map] at b
  have hl : l.toList[i]? = l[i]? := by simp
  rw [hl] at a
  cases ho : l[i]? with
  | none => simp [ho] at a
  | some o =>
    simp [ho] at a b
    subst a; subst b
    exact ⟨rfl, rel_opv hI hE o.2⟩

theorem rel_omap {env : Nat → AV} {n : Nat} {act : Act} (hI : Inv C B kn m σ nx w) (hE : RelEnv kn m env n act) (o : Option Operand) :
    (∀ a, o.map (opv C env) = some a → ∃ v, o.map act.eval = some v ∧ Rel kn m a v) ∧ (o.map (opv C env) = none → o.map act.eval = none) := by
  cases o with
  | none => exact ⟨fun a h => by simp at h, fun _ => rfl⟩
  | some x => exact ⟨fun a h => by simp at h; subst h; exact ⟨_, rfl, rel_opv hI hE x⟩, fun h => by simp at h⟩

theorem arr_one {a : Array Value} (h : a.size = 1) : ∃ v, a = #[v] := by
  obtain ⟨l⟩ := a
  match l, h with
  | [v], _ => exact ⟨v, rfl⟩
theorem arr_two {a : Array Value} (h : a.size = 2) : ∃ v u, a = #[v, u] := by
  obtain ⟨l⟩ := a
  match l, h with
  | [v, u], _ => exact ⟨v, u, rfl⟩

/-- No alloc. -/
def isAlloc : Op → Bool
  | .alloc _ => true
  | _ => false

/-- **An operation whose value 'fop' tells (and that is no alloc) gives it.** -/
theorem fop_sound {env : Nat → AV} {n : Nat} {act : Act} (hI : Inv C B kn m σ nx w) (hE : RelEnv kn m env n act) {al : Nat × Nat} {o : Oper} {x : AV} (hna : isAlloc o.op = false) (h : fop C al o.op env σ = some x) :
    ∃ u kn' w', (execOp act.eval o).run C.P w = .ok (.value u) w' ∧ KnLe kn kn' ∧ Rel kn' m x u ∧ Inv C B kn' m σ nx w' := by
  have lift : ∀ {s : Sem Value}, (execOp act.eval o = do pure (.value (← s))) → Gives C B kn m σ nx x (s.run C.P w) → ∃ u kn' w', (execOp act.eval o).run C.P w = .ok (.value u) w' ∧ KnLe kn kn' ∧ Rel kn' m x u ∧ Inv C B kn' m σ nx w' := by
    intro s e ⟨u, kn', w', h1, h2, h3, h4⟩
    exact ⟨u, kn', w', by rw [e]; simp [h1], h2, h3, h4⟩
  obtain ⟨dst, op, type, pos, after, guard⟩ := o
  simp only at h hna
  unfold fop at h
  split at h
  · rename_i y; cases h; exact ⟨_, kn, w, rfl, KnLe.refl _, rel_opv hI hE y, hI⟩
  · rename_i y; cases h; exact ⟨_, kn, w, rfl, KnLe.refl _, rel_opv hI hE y, hI⟩
  · rename_i c a b
    split at h
    · rename_i t ht
      cases h
      have hc := rel_opv hI hE c
      rw [ht] at hc
      generalize hcv : act.eval c = cv at hc
      cases hc
      refine lift (s := do pure (if ← asBool (act.eval c) then act.eval a else act.eval b)) (by simp [execOp]) (Gives.pure hI (u := if t = true then act.eval a else act.eval b) (by simp [hcv, asBool]) ?_)
      cases t
      · exact rel_opv hI hE b
      · exact rel_opv hI hE a
    · cases h
  · simp [isAlloc] at hna
  · rename_i T y
    cases hc : cellsA (opv C env y) with
    | none => simp [hc] at h
    | some cs =>
      simp [hc] at h
      subst h
      exact lift rfl (gives_box hI (rel_opv hI hE y) hc T)
  · rename_i t parts
    split at h
    · rename_i z pl hz hb
      cases hf : fillA (pl[·]?) z (parts.toList.map fun p => (p.1, opv C env p.2)) with
      | none => simp [hf] at h
      | some cs =>
        simp [hf] at h
        subst h
        exact lift rfl (gives_build hI hz hb hf (rel_parts hI hE parts).1 (rel_parts hI hE parts).2)
    · cases h
  · rename_i t len parts
    split at h
    · rename_i e sz by_ he
      split at h
      · rename_i z hz
        split at h
        · rename_i hc
          cases hr : rowsA sz (List.replicate len z) (parts.toList.map fun p => (p.1, opv C env p.2)) with
          | none => simp [hr] at h
          | some rows =>
            simp [hr] at h
            subst h
            obtain ⟨arr, h1, h2, h3, h4⟩ := gives_buildSlice hI he hz hc.1 hc.2.1 hc.2.2 hr (rel_parts hI hE parts).1 (rel_parts hI hE parts).2
            have hlen : len ≤ 2 ^ 62 := by
              have : len * 1 ≤ len * sz := Nat.mul_le_mul_left _ hc.1
              have h2 : (16777216 : Nat) ≤ 2 ^ 62 := by decide
              omega
            exact lift rfl (gives_vec hI h2 h3 h4 hc.1 hlen h1)
        · cases h
      · cases h
    · cases h
  · rename_i T a
    obtain ⟨u, h1, h2⟩ := run_readA hI h (rel_opv hI hE a)
    exact lift rfl (Gives.pure hI h1 h2)
  · rename_i y
    unfold nilckA at h
    have hr := rel_opv hI hE y
    generalize hv : act.eval y = v at hr
    split at h
    · rename_i hy
      cases h
      rw [hy] at hr
      cases hr with
      | rptr cs b o vals hk hh hh1 => exact ⟨_, kn, w, by simp [execOp, hv], KnLe.refl _, .rptr _ b o vals hk hh hh1, hI⟩
    · rename_i hy
      cases h
      rw [hy] at hr
      cases hr with
      | ref p nm o loc hm => exact ⟨_, kn, w, by simp [execOp, hv], KnLe.refl _, .ref _ _ _ loc hm, hI⟩
    · rename_i hy
      cases h
      rw [hy] at hr
      cases hr with
      | eref p nm i o loc hm => exact ⟨_, kn, w, by simp [execOp, hv], KnLe.refl _, .eref _ _ _ _ loc hm, hI⟩
    · rename_i hy
      cases h
      rw [hy] at hr
      cases hr with
      | fn f a b a' b' h1 h2 h3 h4 => exact ⟨_, kn, w, by simp [execOp, hv], KnLe.refl _, .fn _ _ _ a' b' h1 h2 h3 h4, hI⟩
    · cases h
  · rename_i bop t a b yt
    exact lift rfl (gives_bin hI h (rel_opv hI hE a) (rel_opv hI hE b))
  · rename_i uop t a
    exact lift rfl (gives_un hI h (rel_opv hI hE a))
  · rename_i s d a
    exact lift rfl (gives_conv hI h (rel_opv hI hE a))
  · rename_i t a
    split at h
    · rename_i hc
      cases h
      obtain ⟨d, hd, hni⟩ := conT_sound hc
      refine lift rfl (Gives.pure hI (u := .iface t (act.eval a)) ?_ (.iface t _ _ (rel_opv hI hE a)))
      cases d <;> simp [Instr.makeInterface, run_underlying hd] <;> exact absurd rfl (hni _)
    · cases h
  · rename_i f a b
    cases h
    refine lift rfl (Gives.pure hI (u := .func f (a.map act.eval) (b.map act.eval)) rfl ?_)
    exact .fn f _ _ _ _ (rel_map hI hE a).1 (rel_map hI hE b).1 (rel_map hI hE a).2 (rel_map hI hE b).2
  · rename_i s a f
    exact lift rfl (gives_fieldAddr hI h (rel_opv hI hE a))
  · rename_i t a f
    exact lift rfl (gives_field hI h (rel_opv hI hE a))
  · rename_i t a i
    exact lift rfl (gives_indexAddr hI h (rel_opv hI hE a) (rel_opv hI hE i))
  · rename_i t a i
    exact lift rfl (gives_index hI h (rel_opv hI hE a) (rel_opv hI hE i))
  · rename_i t a lo hi mx
    exact lift rfl (gives_slice hI h (rel_opv hI hE a) (rel_omap hI hE lo).1 (rel_omap hI hE lo).2 (rel_omap hI hE hi).1 (rel_omap hI hE hi).2 (rel_omap hI hE mx).1 (rel_omap hI hE mx).2)
  · rename_i a i
    exact lift rfl (gives_ext hI h (rel_opv hI hE a))
  · rename_i a xt t ok
    exact lift rfl (gives_assert hI h (rel_opv hI hE a))
  · rename_i c
    split at h
    · rename_i b hb
      have hargs := rel_map hI hE c.args
      obtain ⟨consts, hexec⟩ : ∃ consts, execOp act.eval { dst := dst, op := .call c, type := type, pos := pos, after := after, guard := guard } = builtin b c.argTypes type consts (c.args.map act.eval) :=
        ⟨_, by simp only [execOp, resolve, hb, invoke, pure_bind]; rfl⟩
      unfold bfun at h
      split at h
      · rename_i t x' ht hx
        rw [hx] at hargs
        have hsz : (c.args.map act.eval).size = 1 := hargs.1.symm
        obtain ⟨v, hv⟩ := arr_one hsz
        have hr := hargs.2 0 x' v rfl (by rw [hv]; rfl)
        have hts : c.argTypes = #[t] := by rw [← Array.toArray_toList (xs := c.argTypes), ht]
        refine lift (s := Builtin.len_ #[t] type #[v]) ?_ (gives_len hI h hr)
        rw [hexec, hv, hts]
        rfl
      · rename_i ts x' y' hx
        rw [hx] at hargs
        have hsz : (c.args.map act.eval).size = 2 := hargs.1.symm
        obtain ⟨v, u, hv⟩ := arr_two hsz
        have h1 := hargs.2 0 x' v rfl (by rw [hv]; rfl)
        have h2 := hargs.2 1 y' u rfl (by rw [hv]; rfl)
        unfold maxA at h
        split at h
        · rename_i k p k' q
          cases h
          cases h1; cases h2
          refine lift (s := Builtin.max_ c.argTypes type #[.int k p, .int k' q]) ?_ (Gives.pure hI (u := .int k (if q > p then q else p)) ?_ (.int _ _))
          · rw [hexec, hv]; rfl
          · simp [Builtin.max_, Builtin.max2]
        · cases h
      · rename_i ts x' y' hx
        rw [hx] at hargs
        have hsz : (c.args.map act.eval).size = 2 := hargs.1.symm
        obtain ⟨v, u, hv⟩ := arr_two hsz
        have h1 := hargs.2 0 x' v rfl (by rw [hv]; rfl)
        have h2 := hargs.2 1 y' u rfl (by rw [hv]; rfl)
        unfold maxA at h
        split at h
        · rename_i k p k' q
          cases h
          cases h1; cases h2
          refine lift (s := Builtin.min_ c.argTypes type #[.int k p, .int k' q]) ?_ (Gives.pure hI (u := .int k (if q < p then q else p)) ?_ (.int _ _))
          · rw [hexec, hv]; rfl
          · simp [Builtin.min_, Builtin.min2]
        · cases h
      · cases h
    · cases h
  · cases h
end
end Go.Ab
