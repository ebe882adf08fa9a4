/-
  'fop' IS SOUND, part three: parts of strings and slices, arithmetic, tests of nil, assertions; and the whole.
-/
import Derived.Test.YtmompmackgknbaaDoorAb5
set_option linter.unusedVariables false
set_option linter.unusedSimpArgs false
namespace Go.Ab
open Go Go.RowKit

section
variable {C : Cx} {B : Base} {kn : Kn} {m : Mp} {σ : Sto} {nx : Nat} {w : World}

/-- What low and high are, and that the model takes them. -/
theorem bnd_sound {len cap : Nat} {lo hi : Option AV} {l h : Int} {lo' hi' : Option Value} (hb : bndA len lo hi = some (l, h)) (hlo : ∀ a, lo = some a → ∃ v, lo' = some v ∧ Rel kn m a v) (hlo0 : lo = none → lo' = none)
    (hhi : ∀ a, hi = some a → ∃ v, hi' = some v ∧ Rel kn m a v) (hhi0 : hi = none → hi' = none) (h0 : 0 ≤ l) (h1 : l ≤ h) (h2 : h ≤ cap) (isS : Bool) :
    (Instr.sliceBounds isS len cap lo' hi' none).run C.P w = .ok (l.toNat, h.toNat, cap) w := by
  have one : ∀ (k : IntKind) (i : Int) (y : Nat) (code : BoundsCode), 0 ≤ i → i ≤ y → (Instr.sliceBound (.int k i) y code).run C.P w = .ok i.toNat w := by
    intro k i y code a b
    simp [Instr.sliceBound, asIntOf, a, b]
  unfold bndA at hb
  split at hb
  · cases hb
    rw [hlo0 rfl, hhi0 rfl]
    simp [Instr.sliceBounds]
  · rename_i k l'
    cases hb
    obtain ⟨v, e, hr⟩ := hlo _ rfl
    cases hr
    rw [e, hhi0 rfl]
    have := one k l len .sliceB h0 h1
    simp [Instr.sliceBounds, this]
  · rename_i k h'
    cases hb
    obtain ⟨v, e, hr⟩ := hhi _ rfl
    cases hr
    rw [e, hlo0 rfl]
    have := one k h cap (if isS then .sliceAcap else .sliceAlen) h1 h2
    simp [Instr.sliceBounds, this]
  · rename_i k l' k' h'
    cases hb
    obtain ⟨v, e, hr⟩ := hlo _ rfl
    obtain ⟨v', e', hr'⟩ := hhi _ rfl
    cases hr; cases hr'
    rw [e, e']
    have a := one k' h cap (if isS then .sliceAcap else .sliceAlen) (by omega) h2
    have b := one k l h.toNat .sliceB h0 (by omega)
    simp [Instr.sliceBounds, a, b]
  · cases hb

theorem bnd_len {len : Nat} {lo hi : Option AV} {l h : Int} (hb : bndA len lo hi = some (l, h)) : hi = none → h = len := by
  intro e
  subst e
  unfold bndA at hb
  split at hb <;> simp_all

theorem gives_slice (hI : Inv C B kn m σ nx w) {t : Nat} {a x : AV} {v : Value} {lo hi mx : Option AV} {lo' hi' mx' : Option Value} (h : sliceA C.P t a lo hi mx = some x) (ha : Rel kn m a v)
    (hlo : ∀ a, lo = some a → ∃ v, lo' = some v ∧ Rel kn m a v) (hlo0 : lo = none → lo' = none) (hhi : ∀ a, hi = some a → ∃ v, hi' = some v ∧ Rel kn m a v) (hhi0 : hi = none → hi' = none)
    (hmx : ∀ a, mx = some a → ∃ v, mx' = some v ∧ Rel kn m a v) (hmx0 : mx = none → mx' = none) :
    Gives C B kn m σ nx x ((Instr.sliceAt t v lo' hi' mx').run C.P w) := by
  unfold sliceA at h
  split at h
  · rename_i s
    rw [hmx0 rfl]
    split at h
    · rename_i hs
      split at h
      · rename_i l h' hb
        split at h
        · rename_i hc
          cases h
          cases ha
          have hsz : (ByteArray.mk s.toArray).size = s.length := by simp [ByteArray.size]
          have hbs := bnd_sound (C := C) (w := w) (cap := s.length) hb hlo hlo0 hhi hhi0 hc.1 hc.2.1 hc.2.2 false
          refine Gives.pure hI (u := .string ((ByteArray.mk s.toArray).extract l.toNat h'.toNat)) ?_ ?_
          · have hu := strT_sound hs
            simp only [Instr.sliceAt, Sem.run_bind, run_underlying hu, Result.andThen_ok, Instr.slice, hsz, hbs]
            simp [hbs]
          · rw [ByteArray.extract_mk]
            exact .str _
        · cases h
      · cases h
    · cases h
  · rename_i esz rows
    rw [hmx0 rfl]
    split at h
    · rename_i e sz by_ l h' he hb
      split at h
      · rename_i hc
        cases h
        obtain ⟨rfl, h0, h1, h2⟩ := hc
        obtain ⟨hu, hsz, _⟩ := elm_sound he
        have fin : ∀ (ad : Option Addr) (cap : Nat), rows.length ≤ cap → (Instr.sliceAt t (.slice ad rows.length cap) lo' hi' none).run C.P w =
            .ok (.slice (if cap = l.toNat then ad else ad.map (·.add (l.toNat * esz))) (h'.toNat - l.toNat) (cap - l.toNat)) w := by
          intro ad cap hcap
          have hbs := bnd_sound (C := C) (w := w) (cap := cap) hb hlo hlo0 hhi hhi0 h0 h1 (by omega) true
          simp [Instr.sliceAt, run_underlying hu, Instr.slice, hbs, run_sizeOf' hsz]
        cases ha with
        | vecNil _ ad cap =>
          have hl0 : l = 0 := by simp at h2; omega
          have hh0 : h' = 0 := by simp at h2; omega
          subst hl0; subst hh0
          refine Gives.pure hI (fin ad cap (Nat.zero_le _)) ?_
          simp
          split <;> exact .vecNil _ _ _
        | vec _ _ b o cap vals hcp hm hrow hk hr hr1 =>
          refine Gives.pure hI (fin _ cap hcp) ?_
          by_cases hlh : l = h'
          · subst hlh
            simp
            split <;> exact .vecNil _ _ _
          · have hne : ¬ cap = l.toNat := by omega
            simp only [if_neg hne, Option.map_some, add_mk]
            have hlen : ((rows.drop l.toNat).take (h'.toNat - l.toNat)).length = h'.toNat - l.toNat := by simp; omega
            have := Rel.vec (kn := kn) (m := m) esz ((rows.drop l.toNat).take (h'.toNat - l.toNat)) b (o + l.toNat * esz) (cap - l.toNat) (fun i j => vals (l.toNat + i) j) (by rw [hlen]; omega) (by rw [hlen]; omega)
              (fun i row hi => by
                rw [List.getElem?_take] at hi
                split at hi
                · rw [List.getElem?_drop] at hi; exact hrow _ _ hi
                · cases hi)
              (fun i row j y hi hj => by
                rw [List.getElem?_take] at hi
                split at hi
                · rw [List.getElem?_drop] at hi
                  have := hk _ _ _ _ hi hj
                  rw [Nat.add_mul] at this
                  rw [show o + l.toNat * esz + i * esz + j = o + (l.toNat * esz + i * esz) + j by omega]
                  exact this
                · cases hi)
              (fun i row j y hi hj => by
                rw [List.getElem?_take] at hi
                split at hi
                · rw [List.getElem?_drop] at hi; exact hr _ _ _ _ hi hj
                · cases hi)
              (fun i row j y hi hj => by
                rw [List.getElem?_take] at hi
                split at hi
                · rw [List.getElem?_drop] at hi; exact hr1 _ _ _ _ hi hj
                · cases hi)
            rw [hlen] at this
            exact this
      · cases h
    · cases h
  · rename_i p nm esz off len
    rw [hmx0 rfl]
    split at h
    · rename_i e sz by_ l h' he hb
      split at h
      · rename_i hc
        obtain ⟨rfl, h0, h1, h2⟩ := hc
        obtain ⟨hu, hsz, _⟩ := elm_sound he
        cases ha with
        | sref _ _ _ _ _ loc hm he' hl hm' =>
          have hbs := bnd_sound (C := C) (w := w) (cap := loc.cap - off) hb hlo hlo0 hhi hhi0 h0 h1 (by omega) true
          have hrun : (Instr.sliceAt t (.slice (some ⟨loc.blk, loc.off + off * loc.esz, none⟩) len (loc.cap - off)) lo' hi' none).run C.P w =
              .ok (.slice (if loc.cap - off = l.toNat then some ⟨loc.blk, loc.off + off * loc.esz, none⟩ else some ⟨loc.blk, loc.off + off * loc.esz + l.toNat * esz, none⟩) (h'.toNat - l.toNat) (loc.cap - off - l.toNat)) w := by
            simp [Instr.sliceAt, run_underlying hu, Instr.slice, hbs, run_sizeOf' hsz, add_mk]
          refine Gives.pure hI hrun ?_
          split at h
          · rename_i hor
            cases h
            have hadr : (if loc.cap - off = l.toNat then some (⟨loc.blk, loc.off + off * loc.esz, none⟩ : Addr) else some ⟨loc.blk, loc.off + off * loc.esz + l.toNat * esz, none⟩) = some ⟨loc.blk, loc.off + (off + l.toNat) * loc.esz, none⟩ := by
              rw [Nat.add_mul, ← Nat.add_assoc, he']
              split
              · rename_i hcap
                have : l.toNat = 0 := by omega
                rw [this]; simp
              · rfl
            rw [hadr]
            rw [show loc.cap - off - l.toNat = loc.cap - (off + l.toNat) by omega]
            exact .sref p nm esz (off + l.toNat) _ loc hm he' (by omega) (by omega)
          · rename_i hor
            cases h
            rw [show h'.toNat - l.toNat = 0 by omega]
            split <;> exact .vecNil _ _ _
      · cases h
    · cases h
  · rw [hmx0 rfl]
    split at h
    · rename_i e' l h' he hb
      split at h
      · rename_i hc
        cases h
        obtain ⟨rfl, rfl⟩ := hc
        obtain ⟨e, sz, by_⟩ := e'
        obtain ⟨hu, hsz, _⟩ := elm_sound he
        cases ha
        have hbs := bnd_sound (C := C) (w := w) (cap := 0) hb hlo hlo0 hhi hhi0 (Int.le_refl _) (Int.le_refl _) (by simp) true
        refine Gives.pure hI (u := .slice none 0 0) ?_ (.base _)
        simp [Instr.sliceAt, run_underlying hu, Instr.slice, hbs, run_sizeOf' hsz]
      · cases h
    · cases h
  · rename_i a' k kk
    obtain ⟨kv, ek, hkr⟩ := hmx _ rfl
    cases hkr
    rw [ek]
    have three : ∀ (ad : Option Addr) (n cap e sz by_ : Nat) (l h' : Int), elmT C.P t = some (e, sz, by_) → bndA 0 lo hi = some (l, h') → l = 0 → h' = 0 → hi.isSome = true →
        (Instr.sliceAt t (.slice ad n cap) lo' hi' (some (.int k 0))).run C.P w = .ok (.slice ad 0 0) w := by
      intro ad n cap e sz by_ l h' he hb hl hh his
      subst hl; subst hh
      obtain ⟨hu, hsz, _⟩ := elm_sound he
      have one : ∀ (k : IntKind) (y : Nat) (code : BoundsCode), (Instr.sliceBound (.int k 0) y code).run C.P w = .ok 0 w := by
        intro k y code
        simp [Instr.sliceBound, asIntOf]
      obtain ⟨hA, rfl⟩ := Option.isSome_iff_exists.1 his
      obtain ⟨hv, rfl, hhr⟩ := hhi _ rfl
      unfold bndA at hb
      cases lo with
      | none =>
        rw [hlo0 rfl]
        cases hhr <;> simp at hb
        subst hb
        simp [Instr.sliceAt, run_underlying hu, Instr.slice, Instr.sliceBounds, one, run_sizeOf' hsz]
      | some la =>
        obtain ⟨lv, rfl, hlr⟩ := hlo _ rfl
        cases hhr <;> cases hlr <;> simp at hb
        obtain ⟨rfl, rfl⟩ := hb
        simp [Instr.sliceAt, run_underlying hu, Instr.slice, Instr.sliceBounds, one, run_sizeOf' hsz]
    split at h
    · rename_i e' l h' he hb
      split at h
      · rename_i hc
        cases h
        obtain ⟨h1, rfl, h2, h3, h4⟩ := hc
        obtain ⟨e, sz, by_⟩ := e'
        cases ha with
        | base _ =>
          have hu : v = Value.slice none 0 0 := by
            unfold sliceish at h4
            split at h4 <;> simp_all
          subst hu
          exact Gives.pure hI (three _ _ _ _ _ _ _ _ he hb h2 h3 h1) (.base _)
        | vecNil _ _ _ => exact Gives.pure hI (three _ _ _ _ _ _ _ _ he hb h2 h3 h1) (.emp _)
        | vec _ _ _ _ _ _ _ _ _ _ _ _ => exact Gives.pure hI (three _ _ _ _ _ _ _ _ he hb h2 h3 h1) (.emp _)
        | sref _ _ _ _ _ _ _ _ _ _ => exact Gives.pure hI (three _ _ _ _ _ _ _ _ he hb h2 h3 h1) (.emp _)
        | _ => simp [sliceish] at h4
      · cases h
    · cases h
  · cases h

/-! ### Arithmetic, tests -/
theorem gives_binInt (hI : Inv C B kn m σ nx w) {op : BinOp} {t : Nat} {k : IntKind} {p q : Int} {x : AV} {a b : Operand} (h : abinInt op k p q = some x) :
    Gives C B kn m σ nx x ((do eqGuard op t a b (.int k p) (.int k q); binOp op t (.int k p) (.int k q) : Sem Value).run C.P w) := by
  simp only [eqGuard_at_int, pure_bind]
  cases op <;> simp only [abinInt, Option.some.injEq] at h
  case add => subst h; exact Gives.pure hI (by simp [binOp_add, Op.intArith]) (.int _ _)
  case sub => subst h; exact Gives.pure hI (by simp [binOp_sub, Op.intArith]) (.int _ _)
  case mul => subst h; exact Gives.pure hI (by simp [binOp_mul, Op.intArith]) (.int _ _)
  case quo =>
    split at h
    · cases h
    · rename_i hq; cases h; exact Gives.pure hI (by simp [binOp_quo, Op.intDiv, hq]) (.int _ _)
  case rem =>
    split at h
    · cases h
    · rename_i hq; cases h; exact Gives.pure hI (by simp [binOp_rem, Op.intDiv, hq]) (.int _ _)
  case and => subst h; exact Gives.pure hI (by simp [binOp_and, intBits_and]) (.int _ _)
  case or => subst h; exact Gives.pure hI (by simp [binOp_or, intBits_or]) (.int _ _)
  case xor => subst h; exact Gives.pure hI (by simp [binOp_xor, intBits_xor]) (.int _ _)
  case andNot => subst h; exact Gives.pure hI (by simp [binOp_andNot, intBits_andNot]) (.int _ _)
  case eql => subst h; exact Gives.pure hI (by simp [binOp_eql]; rfl) (.bool _)
  case neq => subst h; exact Gives.pure hI (by simp [binOp_neq]; rfl) (.bool _)
  case lss => subst h; exact Gives.pure hI (by simp [binOp_lss]) (.bool _)
  case leq => subst h; exact Gives.pure hI (by simp [binOp_leq]) (.bool _)
  case gtr => subst h; exact Gives.pure hI (by simp [binOp_gtr]) (.bool _)
  case geq => subst h; exact Gives.pure hI (by simp [binOp_geq]) (.bool _)
  all_goals cases h

theorem gives_binStr (hI : Inv C B kn m σ nx w) {op : BinOp} {t : Nat} {p q : List UInt8} {x : AV} {a b : Operand} (h : abinStr op p q = some x) :
    Gives C B kn m σ nx x ((do eqGuard op t a b (.string ⟨p.toArray⟩) (.string ⟨q.toArray⟩); binOp op t (.string ⟨p.toArray⟩) (.string ⟨q.toArray⟩) : Sem Value).run C.P w) := by
  have hs : ∀ l : List UInt8, (ByteArray.mk l.toArray).size = l.length := fun l => by simp [ByteArray.size]
  have hb : binOp op t (.string ⟨p.toArray⟩) (.string ⟨q.toArray⟩) = Op.stringOp op ⟨p.toArray⟩ ⟨q.toArray⟩ := by cases op <;> rfl
  have heq : (p == q) = decide (p = q) := by
    by_cases e : p = q <;> simp [e]
  simp only [eqGuard_at_string, pure_bind, hb]
  cases op <;> simp only [abinStr, Option.some.injEq] at h
  case add =>
    split at h
    · rename_i hl
      cases h
      refine Gives.pure hI (u := .string (ByteArray.mk p.toArray ++ ByteArray.mk q.toArray)) ?_ ?_
      · simp only [Op.stringOp, hs, IntKind.max_i64]
        rw [if_neg (by omega)]
        rfl
      · have : ByteArray.mk p.toArray ++ ByteArray.mk q.toArray = ByteArray.mk (p ++ q).toArray := by
          apply ByteArray.ext
          simp
        rw [this]
        exact .str _
    · cases h
  case eql => subst h; exact Gives.pure hI (by simp [Op.stringOp, heq]) (.bool _)
  case neq => subst h; exact Gives.pure hI (by simp [Op.stringOp, heq]) (.bool _)
  case lss => subst h; exact Gives.pure hI (by simp [Op.stringOp]) (.bool _)
  case leq => subst h; exact Gives.pure hI (by simp [Op.stringOp, heq]) (.bool _)
  case gtr => subst h; exact Gives.pure hI (by simp [Op.stringOp, heq]) (.bool _)
  case geq => subst h; exact Gives.pure hI (by simp [Op.stringOp]) (.bool _)
  all_goals cases h

end
end Go.Ab
