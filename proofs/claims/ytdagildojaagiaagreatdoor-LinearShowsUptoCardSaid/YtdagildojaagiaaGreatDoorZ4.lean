/-
  THE ABSTRACT WEAKEST PRECONDITION 'aw', and its rules for code.
-/
import Derived.Test.YtdagildojaagiaaGreatDoorZ3
set_option linter.unusedVariables false
set_option linter.unusedSimpArgs false
namespace Go.Ab
open Go Go.RowKit
section
variable {C : Cx} {B : Base} {kn : Kn} {m : Mp} {σ : Sto} {nx : Nat} {w : World}
theorem gs_of {p nm n : Nat} {e : E} {u : Value} (h : Rel kn m (.sref p nm e.size 0 n) u) (hl : ∃ l, m nm = some l ∧ l.len = n) : Rel kn m (.gs p nm e n) u := by
 obtain ⟨l, h1, h2⟩ := hl
 exact .gs p nm e n u l h1 h2 h
theorem tg_mk {P : Program} {nm ety : Nat} {e : E} {l : List e.den} (h : GvRel kn m w nm e.size ety (l.map e.row)) : ObjRel P kn m w nm (.tg e ety l) := h
theorem strElems_row (l : List UInt8) : (l.map fun b => (b.toNat : Int)).map (E.row (.int .u8)) = strElems l := by
 induction l with
 | nil => rfl
 | cons b l ih => exact congrArg (List.cons [AV.int .u8 b.toNat]) ih
theorem elemsT_sound (hI : Inv C B kn m σ nx w) {t' : TypeId} {e : E} (hs0 : 0 < e.size) {y : AV} {yv : Value} {ys : List e.den} (h : elemsT C.P t' e σ y = some ys) (hy : Rel kn m y yv) : notInt C.P t' ∧ Elems C kn m w e.size (ys.map e.row) yv := by
 unfold elemsT at h
 split at h
 ·rename_i l
  split at h
  ·rename_i hs
   split at h
   ·rename_i he
    subst he
    cases h
    cases hy
    refine ⟨strT_notInt hs, ?_⟩
    show Elems C kn m w 1 ((l.map fun b => (b.toNat : Int)).map (E.row (.int .u8))) _
    rw [strElems_row]
    exact elems_str
   ·cases h
  ·cases h
 ·rename_i p nm e' len
  split at h
  ·rename_i hs
   refine ⟨slcT_notInt hs, ?_⟩
   split at h
   ·rename_i e2 ety l hg
    split at h
    ·rename_i he
     subst he
     split at h
     ·rename_i he'
      subst he'
      cases h
      cases hy with
      | gs _ _ _ _ _ loc hm hl hr =>
       have hgv : GvRel kn m w nm e'.size ety (l.map e'.row) := hI.obj _ _ _ (sget_some hg)
       cases hr with
       | srefNil _ _ _ loc' hm' hn =>
        have := hgv.nilRows hm' hn
        have h0 : l = [] := by simpa using this
        subst h0
        exact elems_nil ⟨none, 0, rfl⟩
       | sref _ _ _ _ _ loc' hm' hn he hc hle =>
        rw [hm'] at hm; cases hm
        have hlen := (hgv.get hm' hn).1
        rw [List.length_map] at hlen
        have := gv_elems (C := C) hgv hs0 hm' hn (off := 0) (len := len) (by simp; omega) hc
        simp only [List.drop_zero] at this
        rw [List.take_of_length_le (by simp; omega)] at this
        exact this
     ·cases h
    ·cases h
   ·cases h
  ·cases h
 ·rename_i y hy1 hy2
  split at h
  ·rename_i hs
   refine ⟨slcT_notInt hs, ?_⟩
   have := absSl_sound (kn := kn) (m := m) (fun cs x h us hr => absC_sound absF e cs x h us hr) h hy
   exact elems_sound hI hs0 (y := .vec e.size (ys.map e.row)) (by simp [elemsA]) this
  ·cases h
theorem appendT_sound (hI : Inv C B kn m σ nx w) {t t' ty : Nat} {e : E} {x y r : AV} {xv yv : Value} {σ' : Sto} {nx' : Nat} (h : appendT C.P t t' e σ nx x y = some (r, σ', nx')) (hx : Rel kn m x xv) (hy : Rel kn m y yv) :
  ∃ u m' w', (Builtin.append_ #[t, t'] ty #[xv, yv]).run C.P w = .ok u w' ∧ Rel kn m' r u ∧ Inv C B kn m' σ' nx' w' ∧ Keep m σ nx m' σ' nx' := by
 unfold appendT at h
 split at h
 ·rename_i ety sz bytes ys he hys
  split at h
  ·rename_i hc
   obtain ⟨hs0, hzl, hes⟩ := hc
   subst hes
   obtain ⟨hni, hE⟩ := elemsT_sound hI hs0 hys hy
   obtain ⟨zv, hT⟩ := app_ty he hni hzl
   have hlm : (ys.map e.row).length = ys.length := List.length_map _
   split at h
   ·split at h
    ·rename_i hb
     cases h
     cases hx
     by_cases h0 : ys.length = 0
     ·have hn0 : ys = [] := List.eq_nil_of_length_eq_zero h0
      subst hn0
      obtain ⟨news, hnl, hnf, hnr⟩ := hE
      have hrun := run_append_stay (C := C) (w := w) (ty := ty) (sLen := 0) (sCap := 0) (base := none) hT.hu hT.hni hT.hsz (hnr w rfl).1 (hnr w rfl).2 (by simp)
      obtain ⟨q1, q2⟩ := hI.new (ob' := .tg e ety []) (loc' := ⟨0, 0, 0, e.size, 0, true⟩) (w' := w) (Nat.le_refl _) rfl rfl rfl (.inl rfl) (fun h => by cases h) (fun _ _ => rfl)
       (show GvRel _ _ _ _ _ _ _ from ⟨_, mput_same _ _ _, rfl, .inl ⟨rfl, rfl⟩⟩)
      exact ⟨_, _, _, by simpa using hrun, gs_of (.srefNil _ _ _ _ (mput_same _ _ _) rfl) ⟨_, mput_same _ _ _, rfl⟩, q1, q2⟩
     ·obtain ⟨u, m', w', q1, q2, q3, q4, q5⟩ := app_new (ty := ty) (ob' := .tg e ety ys) hI hT hE none (by rw [hlm]; exact h0) (by rw [hlm]; exact hb.1) (by rw [hlm]; exact hb.2) (fun _ _ h => h)
      rw [hlm] at q2 q3
      exact ⟨u, m', w', q1, gs_of q2 q3, q4, q5⟩
    ·cases h
   ·rename_i p nm e' len
    split at h
    ·rename_i e2 ety' l hg
     split at h
     ·rename_i he2
      subst he2
      split at h
      ·rename_i hcc
       obtain ⟨rfl, rfl, hb, hm62⟩ := hcc
       simp only [castL_rfl, Option.some.injEq, Prod.mk.injEq] at h
       obtain ⟨rfl, rfl, rfl⟩ := h
       have hp := sget_some hg
       have hgv : GvRel kn m w nm e'.size ety' (l.map e'.row) := hI.obj _ _ _ hp
       cases hx with
       | gs _ _ _ _ _ loc hm hl hr =>
        cases hr with
        | srefNil _ _ _ loc' hm' hn =>
         have h0 : l = [] := by simpa using hgv.nilRows hm' hn
         subst h0
         obtain ⟨u, m', w', q1, q2, q3, q4, q5⟩ := app_srefNil (ty := ty) (ob' := .tg e' ety' ([] ++ ys)) hI hT hE hp trivial hm' hn (by rw [hlm]; simpa using hb) (by rw [hlm]; simpa using hm62) (fun m w h => tg_mk (l := [] ++ ys) (by rw [List.nil_append]; exact h))
         rw [hlm] at q2 q3
         refine ⟨u, m', w', q1, gs_of ?_ ?_, q4, q5⟩
         ·simpa using q2
         ·simpa using q3
        | sref _ _ _ _ _ loc' hm' hn he'' hc hle =>
         rw [hm'] at hm; cases hm
         have hlen := (hgv.get hm' hn).1
         rw [List.length_map] at hlen
         have hll : len = l.length := by omega
         subst hll
         rw [← he''] at hT hs0 hE hgv
         obtain ⟨u, m', w', q1, q2, q3, q4, q5⟩ := app_sref (ty := ty) (ob' := .tg e' ety' (l ++ ys)) hI hT hs0 hE hp trivial (fun _ => hgv) hm' hn hc (by simp) (by rw [hlm]; exact hb) (by rw [hlm]; exact hm62) (fun m w h => tg_mk (l := l ++ ys) (by
          rw [List.drop_zero, List.take_of_length_le (by simp), ← List.map_append, he''] at h
          exact h))
         rw [hlm] at q2 q3
         rw [he''] at q2
         refine ⟨u, m', w', ?_, gs_of q2 q3, q4, q5⟩
         exact q1
      ·cases h
     ·cases h
    ·cases h
   ·cases h
  ·cases h
 ·cases h
theorem makeT_sound (hI : Inv C B kn m σ nx w) {t : Nat} {e : E} {l c r : AV} {lv cv : Value} {σ' : Sto} {nx' : Nat} (h : makeT C.P t e σ nx l c = some (r, σ', nx')) (hl : Rel kn m l lv) (hc : Rel kn m c cv) :
  ∃ u m' w', (Instr.makeSlice t lv cv).run C.P w = .ok u w' ∧ Rel kn m' r u ∧ Inv C B kn m' σ' nx' w' ∧ Keep m σ nx m' σ' nx' := by
 unfold makeT at h
 split at h
 ·rename_i ety sz bytes kl n kc k he
  split at h
  ·rename_i z hz
   split at h
   ·rename_i z' hz'
    split at h
    ·rename_i hcond
     cases h
     obtain ⟨hs0, hzl, hes, h0, hnk, hby, hk62⟩ := hcond
     subst hes
     have hA : makeA C.P t σ nx (.int kl n) (.int kc k) = some (.sref σ.length nx e.size 0 n.toNat, σ ++ [(nx, .gvec e.size ety (List.replicate n.toNat z))], nx + 1) := by
      unfold makeA
      rw [he]
      simp only [hz]
      rw [if_pos ⟨hs0, hzl, h0, hnk, hby, hk62⟩]
     obtain ⟨u, m', w', q1, q2, q3, q4⟩ := make_sound hI hA hl hc
     have hp : (σ ++ [(nx, AObj.gvec e.size ety (List.replicate n.toNat z))])[σ.length]? = some (nx, .gvec e.size ety (List.replicate n.toNat z)) := by simp
     have hgv : GvRel kn m' w' nx e.size ety (List.replicate n.toNat z) := q3.obj _ _ _ hp
     have hgt : GvRel kn m' w' nx e.size ety ((List.replicate n.toNat z').map e.row) := hgv.conv (by simp) fun i row row' hi hi' => by
      rw [List.getElem?_replicate] at hi
      rw [List.map_replicate, List.getElem?_replicate] at hi'
      split at hi
      ·cases hi
       rename_i hlt
       rw [if_pos hlt] at hi'; cases hi'
       exact ⟨E.row_len _ _, fun us => absC_sound absF e _ _ hz' us⟩
      ·cases hi
     obtain ⟨loc, hm, hll, _⟩ := id hgt
     refine ⟨u, m', w', q1, gs_of q2 ⟨loc, hm, by simpa using hll⟩, ?_, ?_⟩
     ·have := q3.conv hp (ob' := .tg e ety (List.replicate n.toNat z')) (fun _ => trivial) hgt
      simpa using this
     ·exact ⟨q4.le, q4.ag, fun p nm ob a b => (by
       have := q4.pend p nm ob a b
       rw [List.getElem?_append_left (List.getElem?_eq_some_iff.1 a).1] at this ⊢
       exact this)⟩
    ·cases h
   ·cases h
  ·cases h
 ·cases h
theorem bslT_sound (hI : Inv C B kn m σ nx w) {t len : Nat} {e : E} {r : AV} {parts : List (Nat × AV)} {parts' : Array (Nat × Value)} {σ' : Sto} {nx' : Nat} (h : bslT C.P t len e σ nx parts = some (r, σ', nx')) (hl : parts.length = parts'.size)
  (hp : ∀ (i : Nat) (p : Nat × AV) (p' : Nat × Value), parts[i]? = some p → parts'[i]? = some p' → p.1 = p'.1 ∧ Rel kn m p.2 p'.2) :
  ∃ u m' w', (Instr.buildSlice t len parts').run C.P w = .ok u w' ∧ Rel kn m' r u ∧ Inv C B kn m' σ' nx' w' ∧ Keep m σ nx m' σ' nx' := by
 unfold bslT at h
 split at h
 ·rename_i ety sz by_ he
  split at h
  ·rename_i z hz
   split at h
   ·rename_i hc
    obtain ⟨hs0, hzl, hes, hlim⟩ := hc
    subst hes
    split at h
    ·rename_i rows hr
     obtain ⟨l, hl', h⟩ := Option.map_eq_some_iff.1 h
     cases h
     obtain ⟨u, m', w', q1, q2, q3, q4⟩ := writes_buildSlice hI he hz hs0 hzl hlim hr hl hp
     have hp' : (σ ++ [(nx, AObj.gvec e.size ety rows)])[σ.length]? = some (nx, .gvec e.size ety rows) := by simp
     have hgv : GvRel kn m' w' nx e.size ety rows := q3.obj _ _ _ hp'
     obtain ⟨hlen, hget⟩ := mapO_get hl'
     have hgt : GvRel kn m' w' nx e.size ety (l.map e.row) := hgv.conv (by simp [hlen]) fun i row row' hi hi' => by
      rw [List.getElem?_map] at hi'
      cases hx : l[i]? with
      | none => simp [hx] at hi'
      | some x =>
       simp only [hx, Option.map_some, Option.some.injEq] at hi'
       subst hi'
       obtain ⟨a, ha, hf⟩ := hget i x hx
       rw [hi] at ha; cases ha
       exact ⟨E.row_len _ _, fun us => absC_sound absF e _ _ hf us⟩
     obtain ⟨loc, hm, hll, _⟩ := id hgt
     have hlr : rows.length = len := by
      have h4 : ∀ (parts : List (Nat × AV)) (r0 out : List (List AV)), rowsA e.size r0 parts = some out → out.length = r0.length := by
       intro parts
       induction parts with
       | nil => intro r0 out h; simp only [rowsA, Option.some.injEq] at h; subst h; rfl
       | cons p rest ih =>
        obtain ⟨i, x⟩ := p
        intro r0 out h
        simp only [rowsA] at h
        split at h
        ·split at h
         ·rw [ih _ _ h, List.length_set]
         ·cases h
        ·cases h
      have := h4 _ _ _ hr
      simpa using this
     refine ⟨u, m', w', q1, gs_of (by rw [hlen, hlr]; exact q2) ⟨loc, hm, by simpa using hll⟩, ?_, ?_⟩
     ·have := q3.conv hp' (ob' := .tg e ety l) (fun _ => trivial) hgt
      simpa using this
     ·exact ⟨q4.le, q4.ag, fun p nm ob a b => (by
       have := q4.pend p nm ob a b
       rw [List.getElem?_append_left (List.getElem?_eq_some_iff.1 a).1] at this ⊢
       exact this)⟩
    ·cases h
   ·cases h
  ·cases h
 ·cases h
theorem shrinkT_sound (hI : Inv C B kn m σ nx w) {t : Nat} {x r : AV} {v : Value} {lo hi : Option AV} {lo' hi' : Option Value} {σ' : Sto} {nx' : Nat} (h : shrinkT C.P t σ nx x lo hi = some (r, σ', nx')) (hx : Rel kn m x v)
  (hlo : ∀ a, lo = some a → ∃ v, lo' = some v ∧ Rel kn m a v) (hlo0 : lo = none → lo' = none) (hhi : ∀ a, hi = some a → ∃ v, hi' = some v ∧ Rel kn m a v) (hhi0 : hi = none → hi' = none) :
  ∃ u m' w', (Instr.sliceAt t v lo' hi' none).run C.P w = .ok u w' ∧ Rel kn m' r u ∧ Inv C B kn m' σ' nx' w' ∧ Keep m σ nx m' σ' nx' := by
 unfold shrinkT at h
 split at h
 ·rename_i p nm e len
  split at h
  ·rename_i q sz by_ l' h' e2 ety l he hb hg
   split at h
   ·rename_i hc
    obtain ⟨rfl, rfl, rfl, h0, h1⟩ := hc
    cases h
    obtain ⟨hu, hsz, _⟩ := elm_sound he
    have hp := sget_some hg
    have hgv : GvRel kn m w nm e.size ety (l.map e.row) := hI.obj _ _ _ hp
    cases hx with
    | gs _ _ _ _ _ loc hm hl hr =>
     cases hr with
     | srefNil _ _ _ loc' hm' hn =>
      have hl0 : l = [] := by simpa using hgv.nilRows hm' hn
      subst hl0
      have hh0 : h' = 0 := by simp at h1; omega
      subst hh0
      have hbs := bnd_sound (C := C) (w := w) (cap := 0) hb hlo hlo0 hhi hhi0 (Int.le_refl _) (Int.le_refl _) (by simp) true
      have hrun : (Instr.sliceAt t (.slice none 0 0) lo' hi' none).run C.P w = .ok (.slice none 0 0) w := by
       simp [Instr.sliceAt, run_underlying hu, Instr.slice, hbs, run_sizeOf' hsz]
      obtain ⟨q1, q2⟩ := hI.replace (ob' := .tg e ety (([] : List e.den).take (0 : Int).toNat)) (loc' := ⟨0, 0, 0, e.size, 0, true⟩) hp trivial hm' (w' := w) (Nat.le_refl _) rfl rfl rfl (.inl rfl) (fun h => by cases h) (fun _ _ _ => rfl)
       (show GvRel _ _ _ _ _ _ _ from ⟨_, mput_same _ _ _, rfl, .inl ⟨rfl, rfl⟩⟩)
      exact ⟨_, _, _, hrun, gs_of (.srefNil _ _ _ _ (mput_same _ _ _) rfl) ⟨_, mput_same _ _ _, rfl⟩, q1, q2⟩
     | sref _ _ _ _ _ loc' hm' hn he'' hc hle =>
      have hll0 : loc'.len = len := by rw [hm'] at hm; cases hm; exact hl
      obtain ⟨hll, he2, arr, hw, hsz2, hle2, hmx, hone, hrl, hrr⟩ := hgv.get hm' hn
      rw [List.length_map] at hle2 hll
      have hbs := bnd_sound (C := C) (w := w) (cap := loc'.cap - 0) hb hlo hlo0 hhi hhi0 (Int.le_refl _) h0 (by omega) true
      simp only [Nat.sub_zero] at hbs
      have hrun : (Instr.sliceAt t (.slice (some ⟨loc'.blk, loc'.off + 0 * loc'.esz, none⟩) len (loc'.cap - 0)) lo' hi' none).run C.P w = .ok (.slice (some ⟨loc'.blk, loc'.off, none⟩) h'.toNat loc'.cap) w := by
       simp [Instr.sliceAt, run_underlying hu, Instr.slice, hbs, run_sizeOf' hsz, add_mk]
      obtain ⟨q1, q2⟩ := hI.replace (ob' := .tg e ety (l.take h'.toNat)) (loc' := ⟨loc'.blk, loc'.off, loc'.cap, e.size, h'.toNat, false⟩) hp trivial hm' (w' := w) (Nat.le_refl _) rfl rfl rfl (.inr (.inl ⟨hn, rfl⟩)) (fun _ => (hI.own _ _ _ _ hp trivial hm' hn).1) (fun _ _ _ => rfl)
       (show GvRel _ _ _ _ _ _ _ from ⟨_, mput_same _ _ _, by simp; omega, .inr ⟨rfl, rfl, arr, hw, hsz2, by simp; omega, hmx, hone, fun i row hi => (by
         rw [List.map_take, List.getElem?_take] at hi
         split at hi
         ·exact hrl i row hi
         ·cases hi), fun i row j y v hi hj hv => (by
         rw [List.map_take, List.getElem?_take] at hi
         split at hi
         ·exact (hrr i row j y v hi hj hv).mono (KnLe.refl _) (mple_put hI _)
         ·cases hi)⟩⟩)
      refine ⟨_, _, _, hrun, gs_of ?_ ⟨_, mput_same _ _ _, rfl⟩, q1, q2⟩
      have := Rel.sref (kn := kn) p nx e.size 0 h'.toNat _ (mput_same m nx ⟨loc'.blk, loc'.off, loc'.cap, e.size, h'.toNat, false⟩) rfl rfl (by show h'.toNat + 0 ≤ loc'.cap; omega) (by omega)
      simpa using this
   ·cases h
  ·cases h
 ·cases h
theorem splice_get' {α : Type} (l : List α) (z : α) (off len k : Nat) (h : off + len ≤ l.length) : (l.take off ++ (List.replicate len z ++ l.drop (off + len)))[k]? = if off ≤ k ∧ k < off + len then some z else l[k]? := by
 have := splice_get l (List.replicate len z) off k (by simpa using h)
 rw [List.length_replicate] at this
 rw [this]
 split
 ·rename_i hk; rw [List.getElem?_replicate, if_pos (by omega)]
 ·rfl
theorem clearT_sound (hI : Inv C B kn m σ nx w) {t ty : Nat} {x : AV} {v : Value} {σ' : Sto} (h : clearT C.P t σ x = some σ') (hx : Rel kn m x v) :
  ∃ w', (Builtin.clear_ #[t] ty #[v]).run C.P w = .ok (.tuple #[]) w' ∧ Inv C B kn m σ' nx w' ∧ Keep m σ nx m σ' nx := by
 unfold clearT at h
 split at h
 ·rename_i p nm e off len
  split at h
  ·rename_i ety sz by_ e2 ety' l he hg
   split at h
   ·rename_i z hz
    split at h
    ·rename_i z' hz'
     split at h
     ·rename_i hc
      cases h
      obtain ⟨rfl, hes, hzl, hfit⟩ := hc
      subst hes
      have hp := sget_some hg
      obtain ⟨hu, hsz, i, hi, hs1, hs2⟩ := elm_sound he
      have triv : len = 0 → ∃ a cap, v = .slice a 0 cap := fun h0 => by
       subst h0
       cases hx with
       | gvE _ _ _ _ a cap => exact ⟨a, cap, rfl⟩
       | gvS _ _ _ _ _ _ hr =>
        cases hr with
        | srefNil _ _ _ loc hm hn => exact ⟨_, _, rfl⟩
        | sref _ _ _ _ _ loc hm hn he' hl hm' => exact ⟨_, _, rfl⟩
      by_cases h0 : len = 0
      ·obtain ⟨a, cap, rfl⟩ := triv h0
       have hrun : (Builtin.clear_ #[t] ty #[.slice a 0 cap]).run C.P w = .ok (.tuple #[]) w := by
        cases a <;> simp [Builtin.clear_, run_underlying hu]
       have hs : σ.set p (nm, .tg e ety' (l.take off ++ (List.replicate len z' ++ l.drop (off + len)))) = σ := by
        subst h0
        simp only [List.replicate_zero, List.nil_append, Nat.add_zero, List.take_append_drop]
        apply List.ext_getElem?
        intro q
        rw [List.getElem?_set]
        split
        ·rename_i hq; subst hq; rw [hp]; have := (List.getElem?_eq_some_iff.1 hp).1; simp [this]
        ·rfl
       rw [hs]
       exact ⟨w, hrun, hI, Keep.refl _ _ _⟩
      ·cases hx with
       | gvE _ _ _ _ a cap => exact absurd rfl h0
       | gvS _ _ _ _ _ _ hr =>
        cases hr with
        | srefNil _ _ _ loc hm hn => exact absurd rfl h0
        | sref _ _ _ _ _ loc hm hn he' hl hm' =>
         obtain ⟨i', zv, hi', hzv, rfl, hzr⟩ := zero_sound hz kn m
         rw [hi] at hi'; cases hi'
         have hzs : zv.cells.size = e.size := by rw [← Array.length_toList, ← hzr.1.1]; exact hzl
         obtain ⟨hll, hesz, arr, hw, hasz, hle, hmx, hone, hrl, hrr⟩ := GvRel.get (hI.obj _ _ _ hp) hm hn
         have hlen : (l.map e.row).length = l.length := List.length_map ..
         rw [hlen] at hle hll
         have hnew1 : (Builtin.zeroCells zv.cells len).toList.length = len * e.size := by rw [Array.length_toList, size_zeroCells, hzs]
         have hone' := zeroCells_one hzr.2 len
         have hrow : ∀ us, RelL kn m (zv.cells.toList.map ofVal) us → RelL kn m (e.row z') us := fun us => absC_sound _ _ _ _ hz' us
         have hmul : (off + len) * e.size ≤ loc.cap * e.size := Nat.mul_le_mul_right _ (by omega)
         have hA : loc.off + off * e.size + (len * e.size) ≤ arr.toList.length := by
          rw [Nat.add_mul] at hmul; simp; omega
         have hget : ∀ k, (arr.toList.take (loc.off + off * e.size) ++ ((Builtin.zeroCells zv.cells len).toList ++ arr.toList.drop (loc.off + off * e.size + len * e.size)))[k]? = if loc.off + off * e.size ≤ k ∧ k < loc.off + off * e.size + len * e.size then (Builtin.zeroCells zv.cells len).toList[k - (loc.off + off * e.size)]? else arr.toList[k]? := fun k => by
          have := splice_get arr.toList (Builtin.zeroCells zv.cells len).toList (loc.off + off * e.size) k (by rw [hnew1]; exact hA)
          rw [hnew1] at this; exact this
         have hrun : (Builtin.clear_ #[t] ty #[.slice (some ⟨loc.blk, loc.off + off * loc.esz, none⟩) len (loc.cap - off)]).run C.P w = .ok (.tuple #[]) (w.setRow loc.blk (arr.toList.take (loc.off + off * e.size) ++ ((Builtin.zeroCells zv.cells len).toList ++ arr.toList.drop (loc.off + off * e.size + len * e.size))).toArray) := by
          have hst := run_storeCells_at C.P loc.blk (loc.off + off * e.size) ety' (Builtin.zeroCells zv.cells len).toList 0 arr w hw (by rw [hnew1]; simpa using hA) hone'
          simp only [Nat.add_zero, hnew1, List.append_assoc] at hst
          cases len with
          | zero => exact absurd rfl h0
          | succ q =>
           rw [hesz]
           simp [Builtin.clear_, run_underlying hu, zeroValue, run_typeInfo' hi, hzv]
           rw [hst]
           rfl
         obtain ⟨q1, q2⟩ := hI.write (ob' := .tg e ety' (l.take off ++ (List.replicate len z' ++ l.drop (off + len)))) hp trivial hm hn
          (w' := w.setRow loc.blk (arr.toList.take (loc.off + off * e.size) ++ ((Builtin.zeroCells zv.cells len).toList ++ arr.toList.drop (loc.off + off * e.size + len * e.size))).toArray) (by simp) rfl rfl rfl
          (fun b hb => setRow_other _ _ _ _ hb)
          (by
           have hL : ((l.take off ++ (List.replicate len z' ++ l.drop (off + len))).map e.row).length = l.length := by simp; omega
           refine ⟨loc, hm, by rw [hL]; exact hll, .inr ⟨hn, hesz, _, setRow_heap w loc.blk arr _ ety' (0, 0) hw, ?_, by rw [hL]; exact hle, hmx, fun u hu => ?_, fun k r hk => ?_, fun k r j y u hk hj hu => ?_⟩⟩
           ·rw [List.size_toArray]
            have := splice_len arr.toList (Builtin.zeroCells zv.cells len).toList (loc.off + off * e.size) (by rw [hnew1]; exact hA)
            rw [hnew1] at this
            rw [this]; simpa using hasz
           ·simp only [List.mem_append] at hu
            rcases hu with hu | hu | hu
            ·exact hone u (List.mem_of_mem_take hu)
            ·exact hone' u hu
            ·exact hone u (List.mem_of_mem_drop hu)
           ·rw [List.getElem?_map] at hk
            obtain ⟨d, _, rfl⟩ := Option.map_eq_some_iff.1 hk
            exact E.row_len _ _
           ·rw [List.getElem?_toArray, hget] at hu
            rw [List.getElem?_map, splice_get' l z' off len k hfit] at hk
            have hjl : j < e.size := by
             obtain ⟨d, _, rfl⟩ := Option.map_eq_some_iff.1 hk
             rw [← E.row_len e d]; exact (List.getElem?_eq_some_iff.1 hj).1
            by_cases hk2 : off ≤ k ∧ k < off + len
            ·rw [if_pos hk2] at hk
             cases hk
             have h1 : off * e.size ≤ k * e.size := Nat.mul_le_mul_right _ hk2.1
             have h2 : k * e.size + j < (off + len) * e.size := idx_lt hk2.2 hjl
             rw [Nat.add_mul] at h2
             rw [if_pos ⟨by omega, by omega⟩] at hu
             have h3 : loc.off + k * e.size + j - (loc.off + off * e.size) = (k - off) * e.size + j := by rw [Nat.sub_mul]; omega
             rw [h3] at hu
             have hfl := flat_replicate _ _ hzr len
             rw [hzs] at hfl
             have hz0 : (Builtin.zeroCells zv.cells len).toList = ((Array.range (len * e.size)).map (zv.cells[· % e.size]!)).toList := by unfold Builtin.zeroCells; rw [hzs]
             rw [hz0] at hu
             refine (hrow (List.ofFn fun q : Fin e.size => zv.cells[q.1]!) ⟨by simp [hzs], fun a x2 v2 ha hb => ?_⟩).2 j y u hj ?_
             ·have ha' : a < e.size := by have := (List.getElem?_eq_some_iff.1 ha).1; simpa [hzs] using this
              have hb' : v2 = zv.cells[a]! := by simp [ha'] at hb; exact hb.symm
              refine hzr.1.2 a x2 v2 ha ?_
              have : a < zv.cells.size := by omega
              rw [hb', getElem!_pos zv.cells a this]; simp [this]
             ·have h4 : (k - off) * e.size + j < len * e.size := idx_lt (by omega) hjl
              have h5 : ((k - off) * e.size + j) % e.size = j := by rw [Nat.mul_comm, Nat.mul_add_mod, Nat.mod_eq_of_lt hjl]
              simp [h4, h5] at hu
              simp [hjl, hu]
            ·rw [if_neg hk2] at hk
             have hout : ¬ (loc.off + off * e.size ≤ loc.off + k * e.size + j ∧ loc.off + k * e.size + j < loc.off + off * e.size + len * e.size) := by
              rintro ⟨a, b⟩
              apply hk2
              constructor
              ·rcases Nat.lt_or_ge k off with h | h
               ·have := idx_lt (sz := e.size) h hjl; omega
               ·exact h
              ·rcases Nat.lt_or_ge k (off + len) with h | h
               ·exact h
               ·have := Nat.mul_le_mul_right e.size h; rw [Nat.add_mul] at this; omega
             rw [if_neg hout] at hu
             exact hrr k r j y u (by rw [List.getElem?_map]; exact hk) hj (by simpa using hu))
         exact ⟨_, hrun, q1, q2⟩
     ·cases h
    ·cases h
   ·cases h
  ·cases h
 ·cases h
theorem eop_sound {env : Nat → AV} {n : Nat} {act : Act} (hI : Inv C B kn m σ nx w) (hE : RelEnv kn m env n act) {o : Oper} {x : AV} {σ' : Sto} {nx' : Nat} {ty' : Option E} (h : eop C ty' o.op env σ nx = some (x, σ', nx')) :
  Writes C B kn m σ nx x σ' nx' ((execOp act.eval o).run C.P w) := by
 obtain ⟨dst, op, type, pos, after, guard⟩ := o
 simp only at h
 unfold eop at h
 split at h
 ·rename_i T y
  cases hc : cellsA (opv C env y) with
  | none => simp [hc] at h
  | some cs =>
   simp [hc] at h
   obtain ⟨rfl, rfl, rfl⟩ := h
   obtain ⟨u, m', w', h1, h2, h3, h4⟩ := writes_box hI (T := T) (rel_opv hI hE y) hc
   exact ⟨.value u, u, m', w', by simp [execOp, h1], .inl rfl, h2, h3, h4⟩
 ·rename_i t len parts
  cases ty' with
  | some e =>
   simp only at h
   obtain ⟨u, m', w', h1, h2, h3, h4⟩ := bslT_sound hI h (rel_parts hI hE parts).1 (rel_parts hI hE parts).2
   refine ⟨.value u, u, m', w', ?_, .inl rfl, h2, h3, h4⟩
   simp only [execOp, Sem.run_bind]
   rw [h1]
   rfl
  | none =>
   simp only at h
   split at h
   ·rename_i e sz by_ he
    split at h
    ·rename_i z hz
     split at h
     ·rename_i hc
      cases hr : rowsA sz (List.replicate len z) (parts.toList.map fun p => (p.1, opv C env p.2)) with
      | none => simp [hr] at h
      | some rows =>
       simp [hr] at h
       obtain ⟨rfl, rfl, rfl⟩ := h
       obtain ⟨u, m', w', h1, h2, h3, h4⟩ := writes_buildSlice hI he hz hc.1 hc.2.1 hc.2.2 hr (rel_parts hI hE parts).1 (rel_parts hI hE parts).2
       refine ⟨.value u, u, m', w', ?_, .inl rfl, h2, h3, h4⟩
       simp only [execOp, Sem.run_bind]
       rw [h1]
       rfl
     ·cases h
    ·cases h
   ·cases h
 ·rename_i T a y
  cases hs : storeA C.P T σ (opv C env a) (opv C env y) with
  | none => simp [hs] at h
  | some σ1 =>
   simp [hs] at h
   obtain ⟨rfl, rfl, rfl⟩ := h
   obtain ⟨w', h1, h2, h3⟩ := store_sound hI hs (rel_opv hI hE a) (rel_opv hI hE y)
   exact ⟨.skip, undef, m, w', by simp [execOp, h1], .inr ⟨rfl, rfl⟩, .base _, h2, h3⟩
 ·rename_i t a b
  cases ty' with
  | some e =>
   obtain ⟨u, m', w', h1, h2, h3, h4⟩ := makeT_sound hI h (rel_opv hI hE a) (rel_opv hI hE b)
   exact ⟨.value u, u, m', w', by simp [execOp, h1], .inl rfl, h2, h3, h4⟩
  | none =>
   obtain ⟨u, m', w', h1, h2, h3, h4⟩ := make_sound hI h (rel_opv hI hE a) (rel_opv hI hE b)
   exact ⟨.value u, u, m', w', by simp [execOp, h1], .inl rfl, h2, h3, h4⟩
 ·rename_i t a lo hi
  obtain ⟨u, m', w', h1, h2, h3, h4⟩ := shrinkT_sound hI h (rel_opv hI hE a) (rel_omap hI hE lo).1 (rel_omap hI hE lo).2 (rel_omap hI hE hi).1 (rel_omap hI hE hi).2
  exact ⟨.value u, u, m', w', by simp [execOp, h1], .inl rfl, h2, h3, h4⟩
 ·rename_i t a
  obtain ⟨u, m', w', h1, h2, h3, h4⟩ := range_sound hI h (rel_opv hI hE a)
  exact ⟨.value u, u, m', w', by simp [execOp, h1], .inl rfl, h2, h3, h4⟩
 ·rename_i a
  obtain ⟨u, m', w', h1, h2, h3, h4⟩ := next_sound hI (t := type) h (rel_opv hI hE a)
  exact ⟨.value u, u, m', w', by simp [execOp, h1], .inl rfl, h2, h3, h4⟩
 ·rename_i c
  split at h
  ·rename_i t t' x' y' hb ht hx
   have hargs := rel_map hI hE c.args
   rw [hx] at hargs
   obtain ⟨consts, hexec⟩ : ∃ consts, execOp act.eval { dst := dst, op := .call c, type := type, pos := pos, after := after, guard := guard } = builtin .append c.argTypes type consts (c.args.map act.eval) :=
    ⟨_, by simp only [execOp, resolve, hb, invoke, pure_bind]; rfl⟩
   obtain ⟨v, u, hv⟩ := arr_two hargs.1.symm
   have h1 := hargs.2 0 x' v rfl (by rw [hv]; rfl)
   have h2 := hargs.2 1 y' u rfl (by rw [hv]; rfl)
   have hts : c.argTypes = #[t, t'] := by rw [← Array.toArray_toList (xs := c.argTypes), ht]
   obtain ⟨r, m', w', q1, q2, q3, q4⟩ : ∃ r m'' w'', (Builtin.append_ #[t, t'] type #[v, u]).run C.P w = .ok r w'' ∧ Rel kn m'' x r ∧ Inv C B kn m'' σ' nx' w'' ∧ Keep m σ nx m'' σ' nx' := by
    cases ty' with
    | some e => exact appendT_sound hI (ty := type) h h1 h2
    | none => exact append_sound hI (ty := type) h h1 h2
   refine ⟨.value r, r, m', w', ?_, .inl rfl, q2, q3, q4⟩
   rw [hexec, hv, hts]
   simp only [builtin, Sem.run_bind, q1, Result.andThen_ok, Sem.run_pure]
  ·rename_i t x' hb ht hx
   have hargs := rel_map hI hE c.args
   rw [hx] at hargs
   obtain ⟨consts, hexec⟩ : ∃ consts, execOp act.eval { dst := dst, op := .call c, type := type, pos := pos, after := after, guard := guard } = builtin .clear c.argTypes type consts (c.args.map act.eval) :=
    ⟨_, by simp only [execOp, resolve, hb, invoke, pure_bind]; rfl⟩
   obtain ⟨v, hv⟩ := arr_one hargs.1.symm
   have h1 := hargs.2 0 x' v rfl (by rw [hv]; rfl)
   have hts : c.argTypes = #[t] := by rw [← Array.toArray_toList (xs := c.argTypes), ht]
   obtain ⟨σ1, hs, h⟩ := Option.map_eq_some_iff.1 h
   cases h
   obtain ⟨w', q1, q3, q4⟩ := clearT_sound hI (ty := type) hs h1
   refine ⟨.value (.tuple #[]), .tuple #[], m, w', ?_, .inl rfl, .tup [] #[] rfl (fun i x v a => by simp at a), q3, q4⟩
   rw [hexec, hv, hts]
   simp only [builtin, Sem.run_bind, q1, Result.andThen_ok, Sem.run_pure]
  ·cases h
 ·cases h
end
end Go.Ab

namespace Go.Ab
open Go Go.RowKit
inductive AOut where
 | ret (v : AV)
 | pan (v : AV)
def RelOut (kn : Kn) (m : Mp) : AOut → Ending → Prop
 | .ret v, .returned u => Rel kn m v u
 | .pan v, .panicked chain => ∃ u, chain = [{ v := u, recovered := false }] ∧ Rel kn m v u
 | _, _ => False
def m0 : Mp := fun _ => none
structure KnOK (C : Cx) (kn : Kn) (w : World) : Prop where
 ok : ∀ b o v, kn b o = some v → w.cell? ⟨b, o, none⟩ = some v
 glob : ∀ g, Rel kn m0 (C.gl g) (.pointer (some ⟨g, 0, none⟩))
def bodyOK (P : Program) (g : FuncId) : Bool :=
 match P.funcs[g]? with
 | some fn => !(fn.name == "runtime.NumGoroutine") && fn.body.isSome
 | none => false
theorem calls_of_bodyOK {P : Program} {g : FuncId} (h : bodyOK P g = true) (args : Array Value) (w : World) : (callFunc g args).run P w = .ok (.enter g args) w := by
 unfold bodyOK at h
 split at h
 ·rename_i fn hf
  simp only [Bool.and_eq_true, Bool.not_eq_true', Option.isSome_iff_exists] at h
  obtain ⟨h1, c, hc⟩ := h
  unfold callFunc
  have h1' : ¬ fn.name = "runtime.NumGoroutine" := by simpa using h1
  simp [hf, h1', hc]
 ·cases h
def Does (P : Program) (g : FuncId) (vs : Array Value) (w : World) (post : Ending → World → Prop) : Prop :=
 (bodyOK P g = true ∧ Calls P g vs w post) ∨ (∃ u w', (callFunc g vs).run P w = .ok (.value u) w' ∧ post (.returned u) w')
theorem Does.mono {P : Program} {g : FuncId} {vs : Array Value} {w : World} {post post' : Ending → World → Prop} (h : Does P g vs w post) (hp : ∀ e w', post e w' → post' e w') : Does P g vs w post' :=
 h.elim (fun h => .inl ⟨h.1, h.2.mono hp⟩) (fun ⟨u, w', h1, h2⟩ => .inr ⟨u, w', h1, hp _ _ h2⟩)
def PCall (C : Cx) (g : FuncId) (args : List AV) (Q : AOut → Prop) : Prop :=
 ∀ (kn : Kn) (w : World) (vs : List Value), KnOK C kn w → RelL kn m0 args vs →
  Does C.P g vs.toArray w fun e w' => ∃ out kn', Q out ∧ RelOut kn' m0 out e ∧ KnOK C kn' w' ∧ Below w.heap.size w w' ∧ ∀ b, b < w.heap.size → kn' b = kn b
def ACall (C : Cx) (g : FuncId) (args : List AV) (σ : Sto) (nx : Nat) (Q : AOut → Sto → Nat → Prop) : Prop :=
 ∀ (B : Base) (kn : Kn) (m : Mp) (w : World) (vs : List Value), Inv C B kn m σ nx w → RelL kn m args vs →
  Does C.P g vs.toArray w fun e w' => ∃ out kn' m' σ' nx', Q out σ' nx' ∧ RelOut kn' m' out e ∧ KnLe kn kn' ∧ Inv C B kn' m' σ' nx' w' ∧ Keep m σ nx m' σ' nx'
theorem PCall.mono {C : Cx} {g : FuncId} {args : List AV} {Q Q' : AOut → Prop} (h : PCall C g args Q) (hq : ∀ o, Q o → Q' o) : PCall C g args Q' :=
 fun kn w vs h1 h2 => (h kn w vs h1 h2).mono fun e w' ⟨out, kn', a, b⟩ => ⟨out, kn', hq _ a, b⟩
theorem ACall.mono {C : Cx} {g : FuncId} {args : List AV} {σ : Sto} {nx : Nat} {Q Q' : AOut → Sto → Nat → Prop} (h : ACall C g args σ nx Q) (hq : ∀ o σ' nx', Q o σ' nx' → Q' o σ' nx') : ACall C g args σ nx Q' :=
 fun B kn m w vs h1 h2 => (h B kn m w vs h1 h2).mono fun e w' ⟨out, kn', m', σ', nx', a, b⟩ => ⟨out, kn', m', σ', nx', hq _ _ _ a, b⟩
theorem Inv.knOK {C : Cx} {B : Base} {kn : Kn} {m : Mp} {σ : Sto} {nx : Nat} {w : World} (h : Inv C B kn m σ nx w) : KnOK C kn w := ⟨h.knok, fun g => (h.glob g).rf (C.rf g) m0⟩
theorem RelL.rf {kn : Kn} {m : Mp} {args : List AV} {vs : List Value} (h : RelL kn m args vs) (hf : RFL args) (m' : Mp) : RelL kn m' args vs := ⟨h.1, fun i x v a b => (h.2 i x v a b).rf (hf.get a) m'⟩
theorem RelOut.mono {kn kn' : Kn} {m m' : Mp} {o : AOut} {e : Ending} (h : RelOut kn m o e) (hk : KnLe kn kn') (hm : MpLe m m') : RelOut kn' m' o e := by
 cases o <;> cases e <;> simp only [RelOut] at h ⊢
 ·exact h.mono hk hm
 ·obtain ⟨u, a, b⟩ := h; exact ⟨u, a, b.mono hk hm⟩
theorem PCall.acall {C : Cx} {g : FuncId} {args : List AV} {Q : AOut → Prop} (h : PCall C g args Q) (hf : RFL args) (σ : Sto) (nx : Nat) : ACall C g args σ nx (fun o σ' nx' => Q o ∧ σ' = σ ∧ nx' = nx) := by
 refine fun B kn m w vs hI hr => (h kn w vs hI.knOK (hr.rf hf m0)).mono ?_
 rintro e w' ⟨out, kn', hq, ho, hk, hb, hkn⟩
 obtain ⟨hle, hI'⟩ := hI.grow (kn' := kn') hb.size hb.os hb.tape hb.output hb.block hkn (fun b o v _ e => hk.ok b o v e)
 exact ⟨out, kn', m, σ, nx, ⟨hq, rfl, rfl⟩, ho.mono (KnLe.refl _) (fun n l e => by cases e), hle, hI', Keep.refl _ _ _⟩
structure Hints where
 mb : List Nat := []
 ac : List Nat := []
 pl : List Nat := []
 ty : List (Nat × E) := []
inductive Kind where
 | fn | eff | call | panic | bad
 deriving DecidableEq
def dstIn (l : List Nat) : Option Nat → Bool
 | some d => l.contains d
 | none => false
def tyIn : List (Nat × E) → Nat → Option E
 | [], _ => none
 | (d', e) :: l, d => if d' = d then some e else tyIn l d
def tyOf (l : List (Nat × E)) : Option Nat → Option E
 | some d => tyIn l d
 | none => none
def kindOf (H : Hints) (o : Oper) : Kind :=
 match o.op with
 | .call c => match c.callee with
  | .builtin .append => .eff
  | .builtin .clear => .eff
  | .builtin _ => .fn
  | .value _ => .call
  | .invoke _ _ => .bad
 | .box _ _ => if dstIn H.mb o.dst then .eff else .fn
 | .buildSlice _ _ _ => if dstIn H.mb o.dst then .eff else .fn
 | .slice _ _ _ _ _ => if dstIn H.mb o.dst then .eff else .fn
 | .store _ _ _ => .eff
 | .makeSlice _ _ _ => .eff
 | .range _ _ => .eff
 | .next _ _ => .eff
 | .panic _ => .panic
 | _ => .fn
def calleeA (C : Cx) (c : Call) (env : Nat → AV) : Option (FuncId × List AV) :=
 match c.callee with
 | .value f => match opv C env f with
  | .fn (.func g) first caps => some (g, first ++ (c.args.toList.map (opv C env) ++ caps))
  | _ => none
 | _ => none
def CallP (C : Cx) (own tot : Bool) (g : FuncId) (args : List AV) (σ : Sto) (nx : Nat) (K KP : AV → Sto → Nat → Prop) : Prop :=
 ∃ Q : AOut → Sto → Nat → Prop, ACall C g args σ nx Q ∧ (∀ v σ' nx', Q (.ret v) σ' nx' → K v σ' nx') ∧ (∀ v σ' nx', Q (.pan v) σ' nx' → KP v σ' nx') ∧
  (tot = true ∨ ∃ v σ' nx', Q (.ret v) σ' nx') ∧ (own = true ∨ (RFL args ∧ ∃ Q', PCall C g args Q' ∧ ∀ o σ' nx', Q o σ' nx' ↔ (Q' o ∧ σ' = σ ∧ nx' = nx)))
def aop (C : Cx) (H : Hints) (tot : Bool) (al : Nat × Nat) (o : Oper) (K KP : AV → Sto → Nat → Prop) (s : St) : Prop :=
 match kindOf H o with
 | .fn => ∃ v, fop C al o.op s.env (if dstIn H.pl o.dst = true then [] else s.σ) = some v ∧ K v s.σ s.nx
 | .eff => ∃ v σ' nx', eop C (tyOf H.ty o.dst) o.op s.env s.σ s.nx = some (v, σ', nx') ∧ K v σ' nx'
 | .call => match o.op with
  | .call c => ∃ g args, calleeA C c s.env = some (g, args) ∧ CallP C (dstIn H.ac o.dst) tot g args s.σ s.nx K KP
  | _ => False
 | .panic => match o.op with
  | .panic x => ∃ t v, opv C s.env x = .iface t v ∧ KP (.iface t v) s.σ s.nx
  | _ => False
 | .bad => False
theorem readA_nil {P : Program} {T : TypeId} {a x : AV} (h : readA P T [] a = some x) (σ : Sto) : readA P T σ a = some x := by
 cases a <;> simp_all [readA, sget]
theorem fop_nil {C : Cx} {al : Nat × Nat} {op : Op} {env : Nat → AV} {x : AV} (h : fop C al op env [] = some x) (σ : Sto) : fop C al op env σ = some x := by
 cases op <;> first | exact h | exact readA_nil h σ
inductive AExit where
 | normal
 | exit (id : Nat)
 | goto (l : Nat)
 | ret
 | pan (v : AV)
def RelExit (kn : Kn) (m : Mp) : AExit → Exit → Prop
 | .normal, .normal => True
 | .exit i, .exit j => i = j
 | .goto i, .goto j => i = j
 | .ret, .ret => True
 | .pan v, .panic chain => ∃ u, chain = [{ v := u, recovered := false }] ∧ Rel kn m v u
 | _, _ => False
structure RS (C : Cx) (B : Base) (n : Nat) (ds : List Deferred) (kn₀ : Kn) (m₀ : Mp) (σ₀ : Sto) (nx₀ : Nat) (kn : Kn) (m : Mp) (s : St) (act : Act) (w : World) : Prop where
 env : RelEnv kn m s.env n act
 defs : act.defers = ds
 inv : Inv C B kn m s.σ s.nx w
 knle : KnLe kn₀ kn
 keep : Keep m₀ σ₀ nx₀ m s.σ s.nx
section
variable {C : Cx} {B : Base} {n : Nat} {ds : List Deferred} {kn₀ : Kn} {m₀ : Mp} {σ₀ : Sto} {nx₀ : Nat}
theorem aop_sound {H : Hints} {tot : Bool} {al : Nat × Nat} {o : Oper} {K KP : AV → Sto → Nat → Prop} {s : St} {kn : Kn} {m : Mp} {act : Act} {w : World} (hlt₀ : ∀ (p nm : Nat) (ob : AObj), σ₀[p]? = some (nm, ob) → nm < nx₀)
  (hR : RS C B n ds kn₀ m₀ σ₀ nx₀ kn m s act w) (hna : isAlloc o.op = false) (hd : ∀ d, o.dst = some d → d < n) (h : aop C H tot al o K KP s)
  {next : Act → World → Prop} {Q : Exit → Act → World → Prop}
  (hnext : ∀ v kn' m' σ' nx' act' w', K v σ' nx' → RS C B n ds kn₀ m₀ σ₀ nx₀ kn' m' ⟨updo s.env o.dst v, σ', nx'⟩ act' w' → Keep m s.σ s.nx m' σ' nx' → next act' w')
  (hpan : ∀ v u kn' m' σ' nx' act' w', KP v σ' nx' → Rel kn' m' v u → RS C B n ds kn₀ m₀ σ₀ nx₀ kn' m' ⟨s.env, σ', nx'⟩ act' w' → Q (.panic [{ v := u, recovered := false }]) act' w') :
  o.wp C.P act w next Q := by
 have mkRS : ∀ {v : AV} {u : Value} {kn' : Kn} {m' : Mp} {σ' : Sto} {nx' : Nat} {w' : World}, Rel kn' m' v u → KnLe kn kn' → Inv C B kn' m' σ' nx' w' → Keep m s.σ s.nx m' σ' nx' →
   RS C B n ds kn₀ m₀ σ₀ nx₀ kn' m' ⟨updo s.env o.dst v, σ', nx'⟩ (act.put o.dst u) w' := by
  intro v u kn' m' σ' nx' w' hv hk hI hkp
  refine ⟨(hR.env.mono hk (hkp.mple hR.inv)).put o.dst hd hv, ?_, hI, hR.knle.trans hk, hR.keep.trans hkp hlt₀⟩
  cases hdst : o.dst <;> simp [Act.put, hR.defs]
 unfold aop at h
 unfold Oper.wp
 split at h
 ·obtain ⟨v, hv, hK⟩ := h
  have hv' : fop C al o.op s.env s.σ = some v := by
   split at hv
   ·exact fop_nil hv s.σ
   ·exact hv
  obtain ⟨u, kn', w', h1, h2, h3, h4⟩ := fop_sound hR.inv hR.env hna hv'
  rw [h1]
  exact hnext v kn' m _ _ _ _ hK (mkRS h3 h2 h4 (Keep.refl _ _ _)) (Keep.refl _ _ _)
 ·obtain ⟨v, σ', nx', hv, hK⟩ := h
  obtain ⟨nxt, u, m', w', h1, h2, h3, h4, h5⟩ := eop_sound hR.inv hR.env hv
  rw [h1]
  rcases h2 with rfl | ⟨rfl, rfl⟩
  ·exact hnext v kn m' _ _ _ _ hK (mkRS h3 (KnLe.refl _) h4 h5) h5
  ·exact hnext v kn m' _ _ _ _ hK (mkRS h3 (KnLe.refl _) h4 h5) h5
 ·split at h
  ·rename_i c hop
   obtain ⟨g, args, hc, Qc, hAC, hk1, hk2, _, _⟩ := h
   unfold calleeA at hc
   split at hc
   ·rename_i f hcal
    split at hc
    ·rename_i g' first caps hf
     cases hc
     have hfr := rel_opv hR.inv hR.env f
     rw [hf] at hfr
     generalize hfv : act.eval f = fv at hfr
     cases hfr with
     | fn _ _ _ first' caps' hl1 hl2 hr1 hr2 =>
      have hargs := rel_map hR.inv hR.env c.args
      have hrel : RelL kn m (first ++ (c.args.toList.map (opv C s.env) ++ caps)) (first'.toList ++ ((c.args.map act.eval).toList ++ caps'.toList)) := by
       refine RelL.append ⟨by simpa using hl1, fun i x v a b => hr1 i x v a (by simpa using b)⟩ (RelL.append ⟨by simp, fun i x v a b => hargs.2 i x v a (by rw [← Array.getElem?_toList]; exact b)⟩ ⟨by simpa using hl2, fun i x v a b => hr2 i x v a (by simpa using b)⟩)
      have hcall := hAC B kn m w _ hR.inv hrel
      have harr : (first'.toList ++ ((c.args.map act.eval).toList ++ caps'.toList)).toArray = first' ++ c.args.map act.eval ++ caps' := by
       apply Array.ext'
       simp
      rw [harr] at hcall
      have hexec : execOp act.eval o = callFunc g (first' ++ c.args.map act.eval ++ caps') := by
       obtain ⟨dst, op, type, pos, after, guard⟩ := o
       simp only at hop
       subst hop
       simp [execOp, resolve, hcal, hfv, Deferred.ofValue, invoke]
      have fin : ∀ e w', (∃ out kn' m' σ' nx', Qc out σ' nx' ∧ RelOut kn' m' out e ∧ KnLe kn kn' ∧ Inv C B kn' m' σ' nx' w' ∧ Keep m s.σ s.nx m' σ' nx') → (match e with
        | .returned u => next (act.put o.dst u) w'
        | .panicked ch => Q (.panic ch) act w'
        | .outgrown => False) := by
       rintro e w' ⟨out, kn', m', σ', nx', hq, ho, hkl, hI', hkp⟩
       cases out with
       | ret v =>
        cases e with
        | returned u => exact hnext v kn' m' _ _ _ _ (hk1 v σ' nx' hq) (mkRS ho hkl hI' hkp) hkp
        | panicked ch => exact ho.elim
        | outgrown => exact ho.elim
       | pan v =>
        cases e with
        | returned u => exact ho.elim
        | panicked ch =>
         obtain ⟨u, rfl, hu⟩ := ho
         exact hpan v u kn' m' σ' nx' act w' (hk2 v σ' nx' hq) hu ⟨hR.env.mono hkl (hkp.mple hR.inv), hR.defs, hI', hR.knle.trans hkl, hR.keep.trans hkp hlt₀⟩
        | outgrown => exact ho.elim
      rcases hcall with ⟨hbo, hcall⟩ | ⟨u, w', hval, hpost⟩
      ·have hrun : (execOp act.eval o).run C.P w = .ok (.enter g (first' ++ c.args.map act.eval ++ caps')) w := by rw [hexec]; exact calls_of_bodyOK hbo _ w
       rw [hrun]
       simp only [Oper.upon]
       refine hcall.mono fun e w' he => ?_
       have := fin e w' he
       cases e with
       | returned u => exact this
       | panicked ch => exact this
       | outgrown => exact this.elim
      ·rw [hexec, hval]
       simp only [Oper.upon]
       exact fin _ _ hpost
    ·cases hc
   ·cases hc
  ·exact h.elim
 ·split at h
  ·rename_i x hop
   obtain ⟨t, v, hx, hKP⟩ := h
   have hxr := rel_opv hR.inv hR.env x
   rw [hx] at hxr
   generalize hxv : act.eval x = xv at hxr
   cases hxr with
   | iface _ _ v' hr =>
    have hrun : (execOp act.eval o).run C.P w = .halt (.panic (.iface t v')) w := by
     obtain ⟨dst, op, type, pos, after, guard⟩ := o
     simp only at hop
     subst hop
     simp [execOp, hxv, Instr.panic]
    rw [hrun]
    exact hpan _ _ kn m _ _ act w hKP (.iface t v v' hr) ⟨hR.env, hR.defs, hR.inv, hR.knle, hR.keep⟩
  ·exact h.elim
 ·exact h.elim
end
end Go.Ab

namespace Go.Ab
open Go Go.RowKit
def allocObjs (P : Program) : List Oper → Nat → Option Sto
 | [], _ => some []
 | o :: rest, nx => match o.op with
  | .alloc T => match zeroCells P T, allocObjs P rest (nx + 1) with
   | some z, some l => some ((nx, .cells T z) :: l)
   | _, _ => none
  | _ => allocObjs P rest nx
def rk (l : List Oper) (i : Nat) : Nat := ((l.take i).filter fun o => isAlloc o.op).length
theorem rk_succ {l : List Oper} {i : Nat} {o : Oper} (h : l[i]? = some o) : rk l (i + 1) = rk l i + (if isAlloc o.op = true then 1 else 0) := by
 have hi := (List.getElem?_eq_some_iff.1 h)
 obtain ⟨hl, he⟩ := hi
 unfold rk
 rw [List.take_succ_eq_append_getElem hl, List.filter_append, List.length_append, he]
 by_cases ha : isAlloc o.op = true <;> simp [List.filter, ha]
theorem rk_mono (l : List Oper) {i j : Nat} (h : i ≤ j) : rk l i ≤ rk l j := by
 unfold rk
 have : l.take i = (l.take j).take i := by rw [List.take_take]; congr 1; omega
 rw [this]
 exact ((List.take_sublist i (l.take j)).filter _).length_le
theorem rk_inj {l : List Oper} {i j : Nat} {o o' : Oper} (hi : l[i]? = some o) (hj : l[j]? = some o') (ho : isAlloc o.op = true) (ho' : isAlloc o'.op = true) (hne : i ≠ j) : rk l i ≠ rk l j := by
 rcases Nat.lt_or_gt_of_ne hne with h | h
 ·have h1 := rk_succ hi; rw [if_pos ho] at h1; have := rk_mono l (show i + 1 ≤ j from h); omega
 ·have h1 := rk_succ hj; rw [if_pos ho'] at h1; have := rk_mono l (show j + 1 ≤ i from h); omega
theorem allocObjs_get {P : Program} : ∀ {l : List Oper} {nx : Nat} {objs : Sto} (h : allocObjs P l nx = some objs) {j : Nat} {o : Oper} {T : TypeId}, l[j]? = some o → o.op = .alloc T → ∃ z, zeroCells P T = some z ∧ objs[rk l j]? = some (nx + rk l j, .cells T z)
 | [], nx, objs, h, j, o, T, hj, ho => by simp at hj
 | o' :: rest, nx, objs, h, j, o, T, hj, ho => by
  unfold allocObjs at h
  split at h
  ·rename_i T' ho'
   split at h
   ·rename_i z l hz hl
    cases h
    cases j with
    | zero =>
     simp at hj; subst hj
     rw [ho] at ho'; cases ho'
     exact ⟨z, hz, by simp [rk]⟩
    | succ j =>
     obtain ⟨z', h1, h2⟩ := allocObjs_get hl (by simpa using hj) ho
     refine ⟨z', h1, ?_⟩
     have : rk (o' :: rest) (j + 1) = rk rest j + 1 := by simp [rk, List.filter, ho', isAlloc]
     rw [this]
     simpa [Nat.add_assoc, Nat.add_comm 1] using h2
   ·cases h
  ·rename_i hno
   cases j with
   | zero => simp at hj; subst hj; exact absurd ho (hno T)
   | succ j =>
    obtain ⟨z', h1, h2⟩ := allocObjs_get h (by simpa using hj) ho
    refine ⟨z', h1, ?_⟩
    have hna : isAlloc o'.op = false := by
     cases hop : o'.op <;> simp [isAlloc]
     exact absurd hop (hno _)
    have : rk (o' :: rest) (j + 1) = rk rest j := by simp [rk, List.filter, hna]
    rw [this]; exact h2
theorem allocObjs_form {P : Program} : ∀ {l : List Oper} {nx : Nat} {objs : Sto} (h : allocObjs P l nx = some objs) {k nm : Nat} {ob : AObj}, objs[k]? = some (nm, ob) → nm = nx + k ∧ ∃ T z, ob = .cells T z ∧ zeroCells P T = some z
 | [], nx, objs, h, k, nm, ob, hk => by simp [allocObjs] at h; subst h; simp at hk
 | o' :: rest, nx, objs, h, k, nm, ob, hk => by
  unfold allocObjs at h
  split at h
  ·rename_i T' ho'
   split at h
   ·rename_i z l hz hl
    cases h
    cases k with
    | zero => simp at hk; obtain ⟨rfl, rfl⟩ := hk; exact ⟨rfl, T', z, rfl, hz⟩
    | succ k =>
     obtain ⟨h1, h2⟩ := allocObjs_form hl (by simpa using hk)
     exact ⟨by omega, h2⟩
   ·cases h
  ·exact allocObjs_form h hk
section
variable {C : Cx} {B : Base} {kn : Kn} {m : Mp} {σ : Sto} {nx : Nat} {w : World}
theorem Inv.ahead (hI : Inv C B kn m σ nx w) {l : List Oper} {objs : Sto} (h : allocObjs C.P l nx = some objs) : Inv C B kn m (σ ++ objs) (nx + objs.length) w ∧ Keep m σ nx m (σ ++ objs) (nx + objs.length) := by
 have hget : ∀ (p nm : Nat) (ob : AObj), (σ ++ objs)[p]? = some (nm, ob) → (p < σ.length ∧ σ[p]? = some (nm, ob)) ∨ (σ.length ≤ p ∧ nm = nx + (p - σ.length) ∧ p - σ.length < objs.length ∧ ∃ T z, ob = .cells T z ∧ zeroCells C.P T = some z) := fun p nm ob e => by
  rcases Nat.lt_or_ge p σ.length with hp | hp
  ·rw [List.getElem?_append_left hp] at e; exact .inl ⟨hp, e⟩
  ·rw [List.getElem?_append_right hp] at e
   obtain ⟨h1, h2⟩ := allocObjs_form h e
   exact .inr ⟨hp, h1, (List.getElem?_eq_some_iff.1 e).1, h2⟩
 refine ⟨⟨hI.knok, hI.size, hI.os, hI.tape, hI.output, hI.old, fun p nm ob e => ?_, fun p nm ob loc e hl hm hnl => ?_, fun p nm ob loc p' nm' ob' loc' e e' hl hl' hm hm' hn1 hn2 hne => ?_, fun n hn => hI.dom n (by omega), fun p nm ob e => ?_, fun p p' nm ob ob' e e' => ?_, hI.glob⟩,
  ⟨by omega, fun _ _ => rfl, fun p nm ob e _ => by rw [List.getElem?_append_left (List.getElem?_eq_some_iff.1 e).1]; exact e⟩⟩
 ·rcases hget p nm ob e with ⟨_, e'⟩ | ⟨_, rfl, _, T, z, rfl, hz⟩
  ·exact hI.obj p nm ob e'
  ·simp only [ObjRel, hI.dom _ (Nat.le_add_right nx _)]; exact hz
 ·rcases hget p nm ob e with ⟨_, e'⟩ | ⟨_, rfl, _, _⟩
  ·exact hI.own p nm ob loc e' hl hm hnl
  ·rw [hI.dom _ (Nat.le_add_right nx _)] at hm; cases hm
 ·rcases hget p nm ob e with ⟨_, e1⟩ | ⟨_, rfl, _, _⟩
  ·rcases hget p' nm' ob' e' with ⟨_, e2⟩ | ⟨_, rfl, _, _⟩
   ·exact hI.dist p nm ob loc p' nm' ob' loc' e1 e2 hl hl' hm hm' hn1 hn2 hne
   ·rw [hI.dom _ (Nat.le_add_right nx _)] at hm'; cases hm'
  ·rw [hI.dom _ (Nat.le_add_right nx _)] at hm; cases hm
 ·rcases hget p nm ob e with ⟨_, e'⟩ | ⟨_, rfl, hlt, _⟩
  ·have := hI.lt p nm ob e'; omega
  ·omega
 ·rcases hget p nm ob e with ⟨_, e1⟩ | ⟨hp, h1, _, _⟩
  ·rcases hget p' nm ob' e' with ⟨_, e2⟩ | ⟨_, h2, _, _⟩
   ·exact hI.uniq p p' nm ob ob' e1 e2
   ·have := hI.lt p nm ob e1; omega
  ·rcases hget p' nm ob' e' with ⟨_, e2⟩ | ⟨hp', h2, _, _⟩
   ·have := hI.lt p' nm ob' e2; omega
   ·omega
theorem Inv.lay (hI : Inv C B kn m σ nx w) {p nm T : Nat} {z : List AV} (hp : σ[p]? = some (nm, .cells T z)) (hm : m nm = none) {zv : Array Value} (hz : RelC kn m z zv.toList) :
  Inv C B kn (mput m nm ⟨w.heap.size, 0, 0, 0, 0, false⟩) σ nx (w.alloc (.cells zv T)) := by
 have hmle : MpLe m (mput m nm ⟨w.heap.size, 0, 0, 0, 0, false⟩) := fun n l e => by
  rw [mput_ne]
  ·exact e
  ·intro en; subst en; rw [hm] at e; cases e
 obtain ⟨_, hI0⟩ := hI.grow (kn' := kn) (w' := w.alloc (.cells zv T)) (by simp) rfl rfl rfl (fun b hb => Below.heap_alloc _ _ _ hb) (fun _ _ => rfl) (fun b o v hb e => absurd (hI.kn_lt e) (by omega))
 have hlt := hI.lt p nm _ hp
 refine ⟨hI0.knok, hI0.size, hI0.os, hI0.tape, hI0.output, hI0.old, fun p' nm' ob' e => ?_, fun p' nm' ob' l e hl hm' hnl => ?_, fun p1 n1 o1 l1 p2 n2 o2 l2 e1 e2 v1 v2 m1 m2 hn1 hn2 hne => ?_, fun n hn => ?_, hI.lt, hI.uniq, fun g => (hI.glob g).mono (KnLe.refl _) hmle⟩
 ·by_cases hn : nm' = nm
  ·subst hn
   have := hI.uniq p p' nm' _ _ hp e
   subst this
   rw [hp] at e; cases e
   simp only [ObjRel, mput_same]
   exact ⟨trivial, trivial, zv, heap_alloc_new w _, hz.mono (KnLe.refl _) hmle⟩
  ·have hm'' : mput m nm ⟨w.heap.size, 0, 0, 0, 0, false⟩ nm' = m nm' := mput_ne _ _ _ _ hn
   have h1 := hI0.obj p' nm' ob' e
   exact h1.mono_m hm'' hmle
 ·by_cases hn : nm' = nm
  ·subst hn
   rw [mput_same] at hm'; cases hm'
   refine ⟨by simp, .inl hI.size, fun o => ?_⟩
   cases hk : kn w.heap.size o with
   | none => rfl
   | some v => have := hI.kn_lt hk; omega
  ·rw [mput_ne _ _ _ _ hn] at hm'; exact hI0.own p' nm' ob' l e hl hm' hnl
 ·by_cases h1 : n1 = nm
  ·subst h1
   rw [mput_same] at m1; cases m1
   by_cases h2 : n2 = n1
   ·subst h2; exact absurd (hI.uniq _ _ _ _ _ e1 e2) hne
   ·rw [mput_ne _ _ _ _ h2] at m2
    have := (hI.own p2 n2 o2 l2 e2 v2 m2 hn2).1
    exact fun h => by simp at h; omega
  ·rw [mput_ne _ _ _ _ h1] at m1
   by_cases h2 : n2 = nm
   ·subst h2
    rw [mput_same] at m2; cases m2
    have := (hI.own p1 n1 o1 l1 e1 v1 m1 hn1).1
    exact fun h => by simp at h; omega
   ·rw [mput_ne _ _ _ _ h2] at m2
    exact hI.dist p1 n1 o1 l1 p2 n2 o2 l2 e1 e2 v1 v2 m1 m2 hn1 hn2 hne
 ·rw [mput_ne _ _ _ _ (by omega)]; exact hI.dom n hn
end
def wantedA (ops : Array Oper) (env : Nat → AV) (o : Oper) : Option Bool :=
 match o.guard with
 | none => some true
 | some (j, want) => match (ops[j]?).bind (·.dst) with
  | some t => match env t with
   | .bool b => some (b == want)
   | .base (.tuple _) => some false
   | _ => none
  | none => some false
theorem wanted_sound {kn : Kn} {m : Mp} {env : Nat → AV} {n : Nat} {act : Act} (hE : RelEnv kn m env n act) {ops : Array Oper} {o : Oper} {b : Bool} (h : wantedA ops env o = some b) : Region.wanted o (yielded ops act.tmps) = b := by
 unfold wantedA at h
 unfold Region.wanted
 split at h
 ·rename_i hg; rw [hg]; cases h; rfl
 ·rename_i j want hg
  rw [hg]
  simp only
  unfold yielded
  split at h
  ·rename_i t ht
   rw [ht]
   simp only [Option.bind_some]
   have hr := hE.tmp t
   split at h
   ·rename_i q hq
    cases h
    rw [hq] at hr
    generalize hv : act.tmps.getD t undef = v at hr
    cases hr
    have : act.tmps[t]? = some (.bool q) := by
     simp only [Array.getD_eq_getD_getElem?] at hv
     cases ha : act.tmps[t]? with
     | none => simp [ha, undef] at hv
     | some u => simp [ha] at hv; rw [hv]
    simp [this]
   ·rename_i vs hq
    cases h
    rw [hq] at hr
    generalize hv : act.tmps.getD t undef = v at hr
    cases hr
    simp only [Array.getD_eq_getD_getElem?] at hv
    cases ha : act.tmps[t]? with
    | none => simp
    | some u => simp [ha] at hv; simp [hv]
   ·cases h
  ·rename_i ht
   rw [ht]
   cases h
   rfl
def aopAt (C : Cx) (H : Hints) (tt : Nat → Bool) (ops : Array Oper) (p₀ n₀ : Nat) (i : Nat) (K : St → Prop) (KP : AV → Sto → Nat → Prop) (s : St) : Prop :=
 match ops[i]? with
 | none => K s
 | some o => ∃ t, wantedA ops s.env o = some t ∧ (t = true → aop C H (tt i) (p₀ + rk ops.toList i, n₀ + rk ops.toList i) o (fun v σ nx => K ⟨updo s.env o.dst v, σ, nx⟩) KP s) ∧ (t = false → K ⟨updo s.env o.dst .undef, s.σ, s.nx⟩)
structure RR (C : Cx) (B : Base) (n : Nat) (ds : List Deferred) (kn₀ : Kn) (m₀ : Mp) (σ₀ : Sto) (nx₀ : Nat) (ops : Array Oper) (p₀ n₀ : Nat) (listed : Nat → Bool) (kn : Kn) (m : Mp) (s : St) (act : Act) (w : World) : Prop where
 rs : RS C B n ds kn₀ m₀ σ₀ nx₀ kn m s act w
 pend : ∀ j o T, ops[j]? = some o → o.op = .alloc T → listed j = false → m (n₀ + rk ops.toList j) = none ∧ n₀ + rk ops.toList j < s.nx ∧ nx₀ ≤ n₀ + rk ops.toList j ∧ ∃ z, zeroCells C.P T = some z ∧ s.σ[p₀ + rk ops.toList j]? = some (n₀ + rk ops.toList j, .cells T z)
def lput (l : Nat → Bool) (i : Nat) : Nat → Bool := fun j => if j = i then true else l j
section
variable {C : Cx} {B : Base} {n : Nat} {ds : List Deferred} {kn₀ : Kn} {m₀ : Mp} {σ₀ : Sto} {nx₀ : Nat} {ops : Array Oper} {p₀ n₀ : Nat}
theorem aopAt_sound {H : Hints} {tt : Nat → Bool} {i : Nat} {K : St → Prop} {KP : AV → Sto → Nat → Prop} {s : St} {listed : Nat → Bool} {kn : Kn} {m : Mp} {act : Act} {w : World} (hlt₀ : ∀ (p nm : Nat) (ob : AObj), σ₀[p]? = some (nm, ob) → nm < nx₀)
  (hd : ∀ (i : Nat) (o : Oper) (d : Nat), ops[i]? = some o → o.dst = some d → d < n) (hR : RR C B n ds kn₀ m₀ σ₀ nx₀ ops p₀ n₀ listed kn m s act w) (hun : listed i = false) (h : aopAt C H tt ops p₀ n₀ i K KP s)
  {next : Act → World → Prop} {Q : Exit → Act → World → Prop}
  (hnext : ∀ s' kn' m' act' w', K s' → RR C B n ds kn₀ m₀ σ₀ nx₀ ops p₀ n₀ (lput listed i) kn' m' s' act' w' → next act' w')
  (hpan : ∀ v u env' kn' m' σ' nx' act' w', KP v σ' nx' → Rel kn' m' v u → RS C B n ds kn₀ m₀ σ₀ nx₀ kn' m' ⟨env', σ', nx'⟩ act' w' → Q (.panic [{ v := u, recovered := false }]) act' w') :
  wpOp C.P ops Q i next act w := by
 unfold aopAt at h
 unfold wpOp
 have pend' : ∀ {s' : St} {m' : Mp}, Keep m s.σ s.nx m' s'.σ s'.nx → ∀ j o T, ops[j]? = some o → o.op = .alloc T → lput listed i j = false → m' (n₀ + rk ops.toList j) = none ∧ n₀ + rk ops.toList j < s'.nx ∧ nx₀ ≤ n₀ + rk ops.toList j ∧ ∃ z, zeroCells C.P T = some z ∧ s'.σ[p₀ + rk ops.toList j]? = some (n₀ + rk ops.toList j, .cells T z) := by
  intro s' m' hk j o T hj ho hl
  have hl' : listed j = false := by
   unfold lput at hl
   split at hl
   ·cases hl
   ·exact hl
  obtain ⟨h1, h2, h3, z, h4, h5⟩ := hR.pend j o T hj ho hl'
  exact ⟨by rw [hk.ag _ h2]; exact h1, Nat.lt_of_lt_of_le h2 hk.le, h3, z, h4, hk.pend _ _ _ h5 h1⟩
 split at h
 ·rename_i ho
  rw [ho]
  exact hnext s kn m act w h ⟨hR.rs, pend' (Keep.refl _ _ _)⟩
 ·rename_i o ho
  obtain ⟨t, ht, h1, h2⟩ := h
  have hw := wanted_sound hR.rs.env ht
  rw [ho]
  simp only
  rw [hw]
  cases t with
  | false =>
   simp only [Bool.false_eq_true, if_false]
   refine hnext _ kn m _ w (h2 rfl) ⟨⟨hR.rs.env.put o.dst (fun d => hd i o d ho) (.base _), ?_, hR.rs.inv, hR.rs.knle, hR.rs.keep⟩, pend' (Keep.refl _ _ _)⟩
   cases hdst : o.dst <;> simp [Act.put, hR.rs.defs]
  | true =>
   simp only [if_true]
   refine .inl ?_
   by_cases ha : isAlloc o.op = true
   ·obtain ⟨T, hT⟩ : ∃ T, o.op = .alloc T := by
     cases hop : o.op <;> simp [hop, isAlloc] at ha
     exact ⟨_, rfl⟩
    have h1' := h1 rfl
    have hkind : kindOf H o = .fn := by unfold kindOf; rw [hT]
    unfold aop at h1'
    rw [hkind] at h1'
    obtain ⟨v, hv, hK⟩ := h1'
    obtain ⟨q1, q2, q3, z, q4, q5⟩ := hR.pend i o T ho hT hun
    rw [hT] at hv
    simp only [fop, q4, Option.some.injEq] at hv
    subst hv
    obtain ⟨ti, zv, hi, hzv, rfl, hzr⟩ := zero_sound q4 kn m
    have hI' := hR.rs.inv.lay (T := T) q5 q1 hzr
    have hmle : MpLe m (mput m (n₀ + rk ops.toList i) ⟨w.heap.size, 0, 0, 0, 0, false⟩) := fun n l e => by
     rw [mput_ne]
     ·exact e
     ·intro en; subst en; rw [q1] at e; cases e
    have hrun : (execOp act.eval o).run C.P w = .ok (.value (.pointer (some ⟨w.heap.size, 0, none⟩))) (w.alloc (.cells zv.cells T)) := by
     obtain ⟨dst, op, type, pos, after, guard⟩ := o
     simp only at hT
     subst hT
     simp only [execOp, Instr.alloc, zeroValue, Sem.run_bind, run_typeInfo' hi, Result.andThen_ok, hzv, Sem.run_pure]
     rfl
    unfold Oper.wp
    rw [hrun]
    refine hnext _ kn (mput m (n₀ + rk ops.toList i) ⟨w.heap.size, 0, 0, 0, 0, false⟩) _ _ hK ⟨⟨(hR.rs.env.mono (KnLe.refl _) hmle).put o.dst (fun d => hd i o d ho) (.ref _ _ _ _ (mput_same _ _ _)), ?_, hI', hR.rs.knle, ?_⟩, ?_⟩
    ·cases hdst : o.dst <;> simp [Act.put, hR.rs.defs]
    ·exact ⟨hR.rs.keep.le, fun k hk => by rw [mput_ne _ _ _ _ (by omega)]; exact hR.rs.keep.ag k hk, hR.rs.keep.pend⟩
    ·intro j o' T' hj ho' hl
     have hji : j ≠ i ∧ listed j = false := by
      unfold lput at hl
      split at hl
      ·cases hl
      ·rename_i hne; exact ⟨hne, hl⟩
     obtain ⟨r1, r2, r3, r4⟩ := hR.pend j o' T' hj ho' hji.2
     have hrk := rk_inj (l := ops.toList) (i := j) (j := i) (by simpa using hj) (by simpa using ho) (by simp [ho', isAlloc]) ha hji.1
     exact ⟨by rw [mput_ne _ _ _ _ (by omega)]; exact r1, r2, r3, r4⟩
   ·have ha' : isAlloc o.op = false := by simpa using ha
    refine aop_sound hlt₀ hR.rs ha' (fun d => hd i o d ho) (h1 rfl) (fun v kn' m' σ' nx' act' w' hK hRS hkp => ?_) (fun v u kn' m' σ' nx' act' w' hKP hv hRS => hpan v u _ kn' m' σ' nx' act' w' hKP hv hRS)
    exact hnext _ kn' m' act' w' hK ⟨hRS, pend' hkp⟩
def aseq (C : Cx) (H : Hints) (tt : Nat → Bool) (ops : Array Oper) (p₀ n₀ : Nat) (K : St → Prop) (KP : AV → Sto → Nat → Prop) : List Nat → St → Prop
 | [], s => K s
 | i :: rest, s => aopAt C H tt ops p₀ n₀ i (aseq C H tt ops p₀ n₀ K KP rest) KP s
theorem aseq_sound {H : Hints} {tt : Nat → Bool} {K : St → Prop} {KP : AV → Sto → Nat → Prop} (hlt₀ : ∀ (p nm : Nat) (ob : AObj), σ₀[p]? = some (nm, ob) → nm < nx₀)
  (hd : ∀ (i : Nat) (o : Oper) (d : Nat), ops[i]? = some o → o.dst = some d → d < n) {Q : Exit → Act → World → Prop}
  (hend : ∀ s' kn' m' act' w', K s' → RS C B n ds kn₀ m₀ σ₀ nx₀ kn' m' s' act' w' → Q .normal act' w')
  (hpan : ∀ v u env' kn' m' σ' nx' act' w', KP v σ' nx' → Rel kn' m' v u → RS C B n ds kn₀ m₀ σ₀ nx₀ kn' m' ⟨env', σ', nx'⟩ act' w' → Q (.panic [{ v := u, recovered := false }]) act' w') :
  ∀ (l : List Nat) (listed : Nat → Bool) (s : St) (kn : Kn) (m : Mp) (act : Act) (w : World), l.Nodup → (∀ i ∈ l, listed i = false) → RR C B n ds kn₀ m₀ σ₀ nx₀ ops p₀ n₀ listed kn m s act w → aseq C H tt ops p₀ n₀ K KP l s →
   wpOps C.P ops Q l act w
 | [], listed, s, kn, m, act, w, _, _, hR, h => by simpa [wpOps] using hend s kn m act w h hR.rs
 | i :: rest, listed, s, kn, m, act, w, hnd, hl, hR, h => by
  rw [wpOps_cons]
  refine aopAt_sound hlt₀ hd hR (hl i (by simp)) h (fun s' kn' m' act' w' hK hR' => ?_) hpan
  refine aseq_sound hlt₀ hd hend hpan rest (lput listed i) s' kn' m' act' w' (List.nodup_cons.1 hnd).2 (fun j hj => ?_) hR' hK
  unfold lput
  rw [if_neg (show ¬ j = i from fun e => (List.nodup_cons.1 hnd).1 (by rw [← e]; exact hj))]
  exact hl j (by simp [hj])
end
end Go.Ab

namespace Go.Ab
open Go Go.RowKit
def aw (C : Cx) (n : Nat) (ds : List Deferred) (c : Code) (Q : AExit → St → Prop) (s : St) : Prop :=
 ∀ (B : Base) (kn : Kn) (m : Mp) (act : Act) (w : World), RelEnv kn m s.env n act → act.defers = ds → Inv C B kn m s.σ s.nx w →
  c.wp C.P (fun e act' w' => ∃ ae s' kn' m', RelExit kn' m' ae e ∧ RS C B n ds kn m s.σ s.nx kn' m' s' act' w' ∧ Q ae s') act w
section
variable {C : Cx} {n : Nat} {ds : List Deferred} {Q : AExit → St → Prop} {s : St}
theorem RS.refl {B : Base} {kn : Kn} {m : Mp} {act : Act} {w : World} (h1 : RelEnv kn m s.env n act) (h2 : act.defers = ds) (h3 : Inv C B kn m s.σ s.nx w) : RS C B n ds kn m s.σ s.nx kn m s act w :=
 ⟨h1, h2, h3, KnLe.refl _, Keep.refl _ _ _⟩
theorem RS.trans {B : Base} {kn kn1 kn2 : Kn} {m m1 m2 : Mp} {σ : Sto} {nx : Nat} {s1 s2 : St} {act1 act2 : Act} {w1 w2 : World} (hlt : ∀ (p nm : Nat) (ob : AObj), σ[p]? = some (nm, ob) → nm < nx)
  (h : RS C B n ds kn m σ nx kn1 m1 s1 act1 w1) (k : RS C B n ds kn1 m1 s1.σ s1.nx kn2 m2 s2 act2 w2) : RS C B n ds kn m σ nx kn2 m2 s2 act2 w2 :=
 ⟨k.env, k.defs, k.inv, h.knle.trans k.knle, h.keep.trans k.keep hlt⟩
theorem aw_mono {c : Code} {Q' : AExit → St → Prop} (h : aw C n ds c Q s) (hq : ∀ e s', Q e s' → Q' e s') : aw C n ds c Q' s :=
 fun B kn m act w h1 h2 h3 => wp_mono (h B kn m act w h1 h2 h3) fun e a w' ⟨ae, s', kn', m', a1, a2, a3⟩ => ⟨ae, s', kn', m', a1, a2, hq _ _ a3⟩
theorem aw_skip (h : Q .normal s) : aw C n ds .skip Q s := fun B kn m act w h1 h2 h3 => wp_skip ⟨.normal, s, kn, m, trivial, .refl h1 h2 h3, h⟩
theorem aw_exit {id : Nat} (h : Q (.exit id) s) : aw C n ds (.exit id) Q s := fun B kn m act w h1 h2 h3 => wp_exit ⟨.exit id, s, kn, m, rfl, .refl h1 h2 h3, h⟩
theorem aw_ret (h : Q .ret s) : aw C n ds .ret Q s := fun B kn m act w h1 h2 h3 => wp_ret ⟨.ret, s, kn, m, trivial, .refl h1 h2 h3, h⟩
def athen (K : St → Prop) (Q : AExit → St → Prop) : AExit → St → Prop
 | .normal, s => K s
 | e, s => Q e s
theorem aw_seq {x y : Code} (h : aw C n ds x (athen (aw C n ds y Q) Q) s) : aw C n ds (.seq x y) Q s := by
 intro B kn m act w h1 h2 h3
 refine wp_seq (wp_mono (h B kn m act w h1 h2 h3) ?_)
 rintro e a1 w1 ⟨ae, s1, kn1, m1, hx, hR, hq⟩
 cases e with
 | normal =>
  cases ae <;> simp only [RelExit] at hx
  show y.wp C.P _ a1 w1
  refine wp_mono (hq B kn1 m1 a1 w1 hR.env hR.defs hR.inv) ?_
  rintro e a2 w2 ⟨ae2, s2, kn2, m2, hx2, hR2, hq2⟩
  exact ⟨ae2, s2, kn2, m2, hx2, hR.trans h3.lt hR2, hq2⟩
 | exit id => cases ae <;> first | (simp only [RelExit] at hx; done) | exact ⟨_, s1, kn1, m1, hx, hR, hq⟩
 | goto l => cases ae <;> first | (simp only [RelExit] at hx; done) | exact ⟨_, s1, kn1, m1, hx, hR, hq⟩
 | ret => cases ae <;> first | (simp only [RelExit] at hx; done) | exact ⟨_, s1, kn1, m1, hx, hR, hq⟩
 | panic ch => cases ae <;> first | (simp only [RelExit] at hx; done) | exact ⟨_, s1, kn1, m1, hx, hR, hq⟩
 | outgrown => cases ae <;> simp only [RelExit] at hx
theorem aw_cond {c : Operand} {x y : Code} {b : Bool} (hc : opv C s.env c = .bool b) (ht : b = true → aw C n ds x Q s) (hf : b = false → aw C n ds y Q s) : aw C n ds (.cond c x y) Q s := by
 intro B kn m act w h1 h2 h3
 have hr := rel_opv h3 h1 c
 rw [hc] at hr
 generalize hv : act.eval c = v at hr
 cases hr
 refine wp_cond hv ?_
 cases b
 ·exact hf rfl B kn m act w h1 h2 h3
 ·exact ht rfl B kn m act w h1 h2 h3
def ablock (id : Nat) (Q : AExit → St → Prop) : AExit → St → Prop
 | .exit i, s => if i = id then Q .normal s else Q (.exit i) s
 | e, s => Q e s
theorem aw_block {id : Nat} {c : Code} (h : aw C n ds c (ablock id Q) s) : aw C n ds (.block id c) Q s := by
 intro B kn m act w h1 h2 h3
 refine wp_block (wp_mono (h B kn m act w h1 h2 h3) ?_)
 rintro e a1 w1 ⟨ae, s1, kn1, m1, hx, hR, hq⟩
 cases e with
 | exit i =>
  cases ae <;> simp only [RelExit] at hx
  subst hx
  simp only [Exit.inBlock, ablock] at hq ⊢
  split at hq
  ·rename_i he; rw [if_pos he]; exact ⟨.normal, s1, kn1, m1, trivial, hR, hq⟩
  ·rename_i he; rw [if_neg he]; exact ⟨.exit _, s1, kn1, m1, rfl, hR, hq⟩
 | normal => cases ae <;> first | (simp only [RelExit] at hx; done) | exact ⟨_, s1, kn1, m1, hx, hR, hq⟩
 | goto l => cases ae <;> first | (simp only [RelExit] at hx; done) | exact ⟨_, s1, kn1, m1, hx, hR, hq⟩
 | ret => cases ae <;> first | (simp only [RelExit] at hx; done) | exact ⟨_, s1, kn1, m1, hx, hR, hq⟩
 | panic ch => cases ae <;> first | (simp only [RelExit] at hx; done) | exact ⟨_, s1, kn1, m1, hx, hR, hq⟩
 | outgrown => cases ae <;> simp only [RelExit] at hx
theorem wp_loop_rel {P : Program} {c : Code} {Q : Exit → Act → World → Prop} (I : Nat → Act → World → Prop) (round : ∀ d a w, I d a w → c.wp P (Exit.then (fun a' w' => ∃ d', d' < d ∧ I d' a' w') Q) a w) {d : Nat} {a : Act} {w : World} (h₀ : I d a w) :
  (Code.loop c).wp P Q a w := by
 intro b k cs
 have key : ∀ d a w, I d a w → ∃ e a' w', Q e a' w' ∧ Arrives P (lone (b.at a (.code c :: .inLoop c :: k)) cs w) b k cs e a' w' := by
  intro d
  induction d using Nat.strongRecOn with
  | _ d ih =>
   intro a w hI
   obtain ⟨e, a₁, w₁, hq, harr⟩ := round d a w hI b (.inLoop c :: k) cs
   cases e with
   | normal =>
    obtain ⟨d', hlt, hI₁⟩ := hq
    obtain ⟨e₂, a₂, w₂, hq₂, harr₂⟩ := ih d' hlt a₁ w₁ hI₁
    exact ⟨e₂, a₂, w₂, hq₂, .of_steps (Steps.trans harr (.one step_inLoop)) harr₂⟩
   | exit id => exact ⟨_, a₁, w₁, hq, .pass (x := .inLoop c) rfl (fun _ _ => .inl (by simp)) harr⟩
   | goto l => exact ⟨_, a₁, w₁, hq, .pass (x := .inLoop c) rfl (fun _ _ => .inl (by simp)) harr⟩
   | ret => exact ⟨_, a₁, w₁, hq, .pass (x := .inLoop c) rfl (fun _ _ => .inl (by simp)) harr⟩
   | panic ch => exact ⟨_, a₁, w₁, hq, .pass (x := .inLoop c) rfl (fun _ _ => .inl (by simp)) harr⟩
   | outgrown => exact ⟨_, a₁, w₁, hq, .pass (x := .inLoop c) rfl (fun _ _ => .inl (by simp)) harr⟩
 obtain ⟨e, a', w', hq, harr⟩ := key d a w h₀
 exact ⟨e, a', w', hq, .of_steps (.one step_loop) harr⟩
theorem aw_loop {c : Code} (J : Nat → St → Prop) (round : ∀ d s, J d s → aw C n ds c (athen (fun s' => ∃ d', d' < d ∧ J d' s') Q) s) {d : Nat} (h₀ : J d s) : aw C n ds (.loop c) Q s := by
 intro B kn m act w h1 h2 h3
 refine wp_loop_rel (fun d a w' => ∃ s' kn' m', J d s' ∧ RS C B n ds kn m s.σ s.nx kn' m' s' a w') ?_ ⟨s, kn, m, h₀, .refl h1 h2 h3⟩
 rintro d a w' ⟨s', kn', m', hJ, hR⟩
 refine wp_mono (round d s' hJ B kn' m' a w' hR.env hR.defs hR.inv) ?_
 rintro e a1 w1 ⟨ae, s1, kn1, m1, hx, hR1, hq⟩
 have hR' := hR.trans h3.lt hR1
 cases e with
 | normal =>
  cases ae <;> simp only [RelExit] at hx
  obtain ⟨d', hlt, hJ'⟩ := hq
  exact ⟨d', hlt, s1, kn1, m1, hJ', hR'⟩
 | exit id => cases ae <;> first | (simp only [RelExit] at hx; done) | exact ⟨_, s1, kn1, m1, hx, hR', hq⟩
 | goto l => cases ae <;> first | (simp only [RelExit] at hx; done) | exact ⟨_, s1, kn1, m1, hx, hR', hq⟩
 | ret => cases ae <;> first | (simp only [RelExit] at hx; done) | exact ⟨_, s1, kn1, m1, hx, hR', hq⟩
 | panic ch => cases ae <;> first | (simp only [RelExit] at hx; done) | exact ⟨_, s1, kn1, m1, hx, hR', hq⟩
 | outgrown => cases ae <;> simp only [RelExit] at hx
def areg (C : Cx) (H : Hints) (tt : Nat → Bool) (ops : Array Oper) (K : St → Prop) (KP : AV → Sto → Nat → Prop) : List Oper → Nat → Nat × Nat → St → Prop
 | [], _, _, s => K s
 | o :: rest, k, al, s => ∃ t, wantedA ops s.env o = some t ∧
   (t = true → aop C H (tt k) al o (fun v σ nx => areg C H tt ops K KP rest (k + 1) (if isAlloc o.op = true then (al.1 + 1, al.2 + 1) else al) ⟨updo s.env o.dst v, σ, nx⟩) KP s) ∧
   (t = false → areg C H tt ops K KP rest (k + 1) (if isAlloc o.op = true then (al.1 + 1, al.2 + 1) else al) ⟨updo s.env o.dst .undef, s.σ, s.nx⟩)
theorem aop_mono {H : Hints} {tot : Bool} {al : Nat × Nat} {o : Oper} {K K' KP KP' : AV → Sto → Nat → Prop} {s : St} (h : aop C H tot al o K KP s) (hk : ∀ v σ nx, K v σ nx → K' v σ nx) (hp : ∀ v σ nx, KP v σ nx → KP' v σ nx) : aop C H tot al o K' KP' s := by
 unfold aop at h ⊢
 split
 ·rename_i e; rw [e] at h; obtain ⟨v, a, b⟩ := h; exact ⟨v, a, hk _ _ _ b⟩
 ·rename_i e; rw [e] at h; obtain ⟨v, σ', nx', a, b⟩ := h; exact ⟨v, σ', nx', a, hk _ _ _ b⟩
 ·rename_i e; rw [e] at h
  simp only at h
  split
  ·rename_i c hc
   rw [hc] at h
   obtain ⟨g, args, a, Qc, b, c1, c2, d⟩ := h
   exact ⟨g, args, a, Qc, b, fun v σ' nx' q => hk _ _ _ (c1 v σ' nx' q), fun v σ' nx' q => hp _ _ _ (c2 v σ' nx' q), d⟩
  ·rename_i hc
   split at h
   ·rename_i c hc'; exact absurd hc' (hc c)
   ·exact h
 ·rename_i e; rw [e] at h
  simp only at h
  split
  ·rename_i x hx; rw [hx] at h; obtain ⟨t, v, a, b⟩ := h; exact ⟨t, v, a, hp _ _ _ b⟩
  ·rename_i hx
   split at h
   ·rename_i x hx'; exact absurd hx' (hx x)
   ·exact h
 ·rename_i e; rw [e] at h; exact h
theorem aseq_of_areg {H : Hints} {tt : Nat → Bool} {ops : Array Oper} {K : St → Prop} {KP : AV → Sto → Nat → Prop} {p₀ n₀ : Nat} : ∀ (l : List Oper) (k : Nat) (s : St), (∀ j : Nat, l[j]? = ops[k + j]?) →
  areg C H tt ops K KP l k (p₀ + rk ops.toList k, n₀ + rk ops.toList k) s → aseq C H tt ops p₀ n₀ K KP (List.range' k l.length) s
 | [], k, s, hl, h => h
 | o :: rest, k, s, hl, h => by
  have h0 : ops[k]? = some o := by simpa using (hl 0).symm
  have hrest : ∀ j : Nat, rest[j]? = ops[k + 1 + j]? := fun j => by have := hl (j + 1); simpa [Nat.add_assoc, Nat.add_comm 1 j] using this
  have hrk := rk_succ (l := ops.toList) (i := k) (o := o) (by simpa using h0)
  have hal : (if isAlloc o.op = true then (p₀ + rk ops.toList k + 1, n₀ + rk ops.toList k + 1) else (p₀ + rk ops.toList k, n₀ + rk ops.toList k)) = (p₀ + rk ops.toList (k + 1), n₀ + rk ops.toList (k + 1)) := by
   rw [hrk]; split <;> simp [Nat.add_assoc]
  simp only [areg, hal] at h
  simp only [List.length_cons, List.range'_succ, aseq, aopAt, h0]
  obtain ⟨t, a, b, c⟩ := h
  exact ⟨t, a, fun ht => aop_mono (b ht) (fun v σ nx hh => aseq_of_areg rest (k + 1) _ hrest hh) (fun _ _ _ hh => hh), fun ht => aseq_of_areg rest (k + 1) _ hrest (c ht)⟩
def dstOK (n : Nat) (ops : Array Oper) : Bool := ops.toList.all fun o => match o.dst with | some d => decide (d < n) | none => true
theorem dstOK_sound {ops : Array Oper} (h : dstOK n ops = true) : ∀ (i : Nat) (o : Oper) (d : Nat), ops[i]? = some o → o.dst = some d → d < n := by
 intro i o d hi hd
 have := List.all_eq_true.1 h o (List.mem_of_getElem? (by simpa using hi))
 rw [hd] at this
 simpa using this
theorem aw_region {H : Hints} {id : Nat} {ops : Array Oper} {objs : Sto} (hd : dstOK n ops = true) (ho : allocObjs C.P ops.toList s.nx = some objs)
  (h : areg C H (fun _ => true) ops (Q .normal) (fun v σ nx => ∀ env, Q (.pan v) ⟨env, σ, nx⟩) ops.toList 0 (s.σ.length, s.nx) ⟨s.env, s.σ ++ objs, s.nx + objs.length⟩) : aw C n ds (.region id ops false) Q s := by
 intro B kn m act w h1 h2 h3
 obtain ⟨hI', hk'⟩ := h3.ahead ho
 refine wp_region ?_
 have hs := aseq_of_areg (ops := ops) (p₀ := s.σ.length) (n₀ := s.nx) ops.toList 0 ⟨s.env, s.σ ++ objs, s.nx + objs.length⟩ (fun j => by simp) (by simpa [rk] using h)
 have hrange : List.range' 0 ops.toList.length = List.range ops.size := by rw [List.range_eq_range']; simp
 rw [hrange] at hs
 refine aseq_sound (KP := fun v σ nx => ∀ env, Q (.pan v) ⟨env, σ, nx⟩) (K := Q .normal) (B := B) (n := n) (ds := ds) (kn₀ := kn) (m₀ := m) (σ₀ := s.σ) (nx₀ := s.nx) h3.lt (dstOK_sound hd) (fun s' kn' m' act' w' hK hR => ⟨.normal, s', kn', m', trivial, hR, hK⟩)
  (fun v u env' kn' m' σ' nx' act' w' hKP hv hR => ⟨.pan v, ⟨env', σ', nx'⟩, kn', m', ⟨u, rfl, hv⟩, hR, hKP env'⟩) (List.range ops.size) (fun _ => false) ⟨s.env, s.σ ++ objs, s.nx + objs.length⟩ kn m act w List.nodup_range (fun _ _ => rfl) ⟨⟨h1, h2, hI', KnLe.refl _, hk'⟩, ?_⟩ hs
 intro j o T hj hT _
 obtain ⟨z, hz, hg⟩ := allocObjs_get ho (j := j) (by simpa using hj) hT
 refine ⟨h3.dom _ (Nat.le_add_right _ _), ?_, Nat.le_add_right _ _, z, hz, ?_⟩
 ·have := (List.getElem?_eq_some_iff.1 hg).1; simp; omega
 ·rw [List.getElem?_append_right (Nat.le_add_right _ _), Nat.add_sub_cancel_left]; exact hg
end
end Go.Ab
