/-
  REGIONS THAT RUN on states told by plain data; calls told by signatures.
-/
import Derived.Test.YthbkbjlfghikfaaGreatDoorZ9
set_option linter.unusedVariables false
set_option linter.unusedSimpArgs false
namespace Go.Ab
open Go Go.RowKit
def osto (k : Nat) (os : Slots) (x : denO os) : Sto := patOs (plO k os x) (fun j => nameOf k j os) 0 os x
mutual
def shOK : Sh → Bool
 | .d _ => true
 | .c v => eqA v v
 | .ref _ _ => true
 | .gs _ _ => true
 | .mref _ _ => true
 | .gv _ _ => true
 | .agg l => shOKL l
 | .tup l => shOKL l
 | .rptr l => shOKL l
 | .fn _ a b => shOKL a && shOKL b
 | .iface _ s => shOK s
def shOKL : List Sh → Bool
 | [] => true
 | s :: l => shOK s && shOKL l
end
def oshOK : OSh → Bool
 | .cells _ l => shOKL l
 | .tg _ _ => true
 | .stk _ _ => true
def slotsOK : Slots → Bool
 | [] => true
 | (_, o) :: l => oshOK o && slotsOK l
theorem slotsOK_get : ∀ {l : Slots}, slotsOK l = true → ∀ (i : Nat) (kp : Bool) (o : OSh), l[i]? = some (kp, o) → oshOK o = true
 | [], _, i, kp, o, e => by simp at e
 | (kp0, o0) :: l, h, i, kp, o, e => by
  simp only [slotsOK, Bool.and_eq_true] at h
  cases i with
  | zero => simp at e; rw [← e.2]; exact h.1
  | succ i => exact slotsOK_get h.2 i kp o (by simpa using e)
section
variable {kn : Kn} {m m' : Mp} {ρ ρ' : Pl}
mutual
theorem patV_ren (hm : ∀ j loc, m (ρ j).2.1 = some loc → m' (ρ' j).2.1 = some loc) (hl : ∀ j, (ρ' j).2.2 = (ρ j).2.2) : ∀ (s : Sh) (x : s.den) (v : Value), shOK s = true → Rel kn m (patV ρ s x) v → Rel kn m' (patV ρ' s x) v
 | .d e, x, v, h, hr => hr.rf (E.av_rf e x) m'
 | .c a, x, v, h, hr => hr.rf (eqA_sound h).2 m'
 | .ref j off, x, v, h, hr => by
  cases hr with
  | ref _ _ _ loc e => exact .ref _ _ _ loc (hm j loc e)
 | .gs j e, x, v, h, hr => by
  cases hr with
  | gs _ _ _ _ _ loc e1 e2 hr =>
   show Rel kn m' (.gs (ρ' j).1 (ρ' j).2.1 e (ρ' j).2.2) v
   rw [hl j]
   refine .gs _ _ _ _ _ loc (hm j loc e1) e2 ?_
   generalize hlen : (ρ j).2.2 = len at hr ⊢
   cases hr with
   | srefNil _ _ _ loc' h1 h2 => exact .srefNil _ _ _ loc' (hm j loc' h1) h2
   | sref _ _ _ _ _ loc' h1 h2 h3 h4 h5 => exact .sref _ _ _ _ _ loc' (hm j loc' h1) h2 h3 h4 h5
 | .gv j e, (x : Nat × Nat), v, h, hr => by
  have hr : Rel kn m (.gv (ρ j).1 (ρ j).2.1 e x.1 x.2) v := hr
  show Rel kn m' (.gv (ρ' j).1 (ρ' j).2.1 e x.1 x.2) v
  obtain ⟨o, l⟩ := x
  simp only at hr ⊢
  cases hr with
  | gvE => exact .gvE _ _ _ _ _ _
  | gvS _ _ _ _ _ _ hq =>
   refine .gvS _ _ _ _ _ _ ?_
   cases hq with
   | srefNil _ _ _ loc h1 h2 => exact .srefNil _ _ _ loc (hm j loc h1) h2
   | sref _ _ _ _ _ loc h1 h2 h3 h4 h5 => exact .sref _ _ _ _ _ loc (hm j loc h1) h2 h3 h4 h5
 | .mref j off, (b : Bool), v, h, hr => by
  cases hr with
  | mrefSome _ _ _ loc e => exact .mrefSome _ _ _ loc (hm j loc e)
  | mrefNil => exact .mrefNil _ _ _
 | .agg l, x, v, h, hr => by
  obtain ⟨us, q1, q2⟩ := rel_agg_conv (m' := m') (ds := patL ρ' l x) hr
  exact q2 (patL_ren hm hl l x us h q1)
 | .tup l, x, v, h, hr => by
  obtain ⟨us, q1, q2⟩ := rel_tup_conv (m' := m') (ds := patL ρ' l x) hr
  exact q2 (patL_ren hm hl l x us h q1)
 | .rptr l, x, v, h, hr => by
  obtain ⟨us, q1, q2⟩ := rel_rptr_conv (m' := m') (ds := patL ρ' l x) hr
  exact q2 (patL_ren hm hl l x us h q1)
 | .fn f a b, x, v, h, hr => by
  simp only [shOK, Bool.and_eq_true] at h
  obtain ⟨us, ws, q1, q2, q3⟩ := rel_fn_conv (m' := m') (a' := patL ρ' a x.1) (b' := patL ρ' b x.2) hr
  exact q3 (patL_ren hm hl a x.1 us h.1 q1) (patL_ren hm hl b x.2 ws h.2 q2)
 | .iface t s, x, v, h, hr => by
  cases hr with
  | iface _ _ u hu => exact .iface _ _ u (patV_ren hm hl s x u h hu)
theorem patL_ren (hm : ∀ j loc, m (ρ j).2.1 = some loc → m' (ρ' j).2.1 = some loc) (hl : ∀ j, (ρ' j).2.2 = (ρ j).2.2) : ∀ (l : List Sh) (x : Sh.denL l) (us : List Value), shOKL l = true → RelL kn m (patL ρ l x) us → RelL kn m' (patL ρ' l x) us
 | [], x, us, h, hr => ⟨hr.1, fun i x v a => by simp [patL] at a⟩
 | s :: l, x, us, h, hr => by
  simp only [shOKL, Bool.and_eq_true] at h
  obtain ⟨v, vs, rfl, h1, h2⟩ := RelL.uncons hr
  exact .cons (patV_ren hm hl s x.1 v h.1 h1) (patL_ren hm hl l x.2 vs h.2 h2)
end
theorem stkRows_rfl (rv : List Value) : ∀ r ∈ stkRows .no rv, RFL r := fun r hr => by
 simp only [stkRows, List.mem_map] at hr
 obtain ⟨v, _, rfl⟩ := hr
 exact ⟨trivial, trivial⟩
theorem patO_ren {P : Program} {B : Base} {w : World} (hm : ∀ j loc, m (ρ j).2.1 = some loc → m' (ρ' j).2.1 = some loc) (hl : ∀ j, (ρ' j).2.2 = (ρ j).2.2) {o : OSh} {x : o.den} {nm nm' : Nat} (hok : oshOK o = true) (hlaid : ∃ loc, m nm = some loc) (he : m' nm' = m nm)
  (h : ObjRel P B kn m w nm (patO ρ o x)) : ObjRel P B kn m' w nm' (patO ρ' o x) := by
 obtain ⟨loc, hloc⟩ := hlaid
 cases o with
 | cells T l =>
  simp only [patO, ObjRel, he, hloc] at h ⊢
  obtain ⟨h0, h1, arr, h2, h3, h4⟩ := h
  exact ⟨h0, h1, arr, h2, patL_ren hm hl l x _ hok h3, h4⟩
 | tg e ety => exact GvRel.rf h he (rows_rfl _ _)
 | stk e ety =>
  obtain ⟨rv, h1, h2, h3, h4, h5⟩ := h
  exact ⟨rv, h1.rf he (stkRows_rfl rv), h2, h3, h4, trivial⟩
theorem patOs_get (nmf : Nat → Nat) : ∀ (l : Slots) (j : Nat) (x : denO l) (i : Nat), (patOs ρ nmf j l x)[i]? = none ∨ ∃ kp o y, l[i]? = some (kp, o) ∧ ∀ (ρ' : Pl) nmf', (patOs ρ' nmf' j l x)[i]? = some (nmf' (j + i), patO ρ' o y)
 | [], j, x, i => .inl rfl
 | (kp, o) :: l, j, x, 0 => .inr ⟨kp, o, x.1, rfl, fun _ _ => rfl⟩
 | (_, _) :: l, j, x, i + 1 => by
  rcases patOs_get nmf l (j + 1) x.2 i with h | ⟨kp, o, y, h1, h2⟩
  ·exact .inl h
  ·refine .inr ⟨kp, o, y, h1, fun ρ' nmf' => ?_⟩
   have := h2 ρ' nmf'
   rw [show j + 1 + i = j + (i + 1) by omega] at this
   exact this
end
section
variable {C : Cx} {B : Base} {kn : Kn} {m : Mp} {σ : Sto} {nx : Nat} {w : World}
theorem norm_core {os : Slots} {β1 βf : Binds} {o : denO os} (hfl : ∀ (j : Nat) (kp : Bool) (o' : OSh), os[j]? = some (kp, o') → kp = false) (ho : absOs os σ β1 0 os = some (o, βf)) (v1 : VB m os β1) (hI : Inv C B kn m σ nx w) :
  Ext β1 βf ∧ Link m (mNew 0 os βf m) (plO 0 os o) os βf ∧ Inv C B kn (mNew 0 os βf m) (osto 0 os o) (0 + os.length) w ∧ (∀ j, j < os.length → ∃ loc, mNew 0 os βf m j = some loc) ∧
   (∀ j p nm, bget βf j = some (.at p nm) → mNew 0 os βf m j = m nm ∧ j < os.length ∧ ∃ ob loc, σ[p]? = some (nm, ob) ∧ live ob ∧ m nm = some loc ∧ isHand ob = false) ∧
   (∀ j j' p nm nm', bget βf j = some (.at p nm) → bget βf j' = some (.at p nm') → j = j') ∧
   (∀ i nm' ob' loc, (osto 0 os o)[i]? = some (nm', ob') → mNew 0 os βf m nm' = some loc → loc.nil = false → ∃ p nm, bget βf i = some (.at p nm) ∧ m nm = some loc) ∧
   (∀ i nm' ob', (osto 0 os o)[i]? = some (nm', ob') → isStk ob' = true → ∃ p nm ob, bget βf i = some (.at p nm) ∧ σ[p]? = some (nm, ob) ∧ isStk ob = true) := by
 obtain ⟨e2, v2, r2⟩ := absOs_ok (os := os) hI os 0 β1 βf o ho v1
 simp only [SlotOk, Nat.zero_add] at r2
 have hlt : ∀ j b, bget βf j = some b → j < os.length := fun j b e => by
  have := v2.dom j b e
  cases hs : os[j]? with
  | none => rw [hs] at this; cases this
  | some q => exact (List.getElem?_eq_some_iff.1 hs).1
 have hget : ∀ j, j < os.length → ∃ o', os[j]? = some (false, o') := fun j hj => by
  have := hfl j (os[j]'hj).1 (os[j]'hj).2 (List.getElem?_eq_getElem hj)
  exact ⟨(os[j]'hj).2, by rw [List.getElem?_eq_getElem hj, ← this]⟩
 have hnm : ∀ j, nameOf 0 j os = j := fun j => by
  unfold nameOf
  split
  ·rfl
  ·omega
 have hmn : ∀ j, j < os.length → mNew 0 os βf m j = match bget βf j with
   | some (.at _ nm) => m nm
   | some .nil => some nilLoc
   | none => none := fun j hj => by
  obtain ⟨o', e⟩ := hget j hj
  unfold mNew
  rw [if_neg (by omega), Nat.sub_zero, e]
  try rfl
 have hat : ∀ j p nm, bget βf j = some (.at p nm) → mNew 0 os βf m j = m nm := fun j p nm e => by rw [hmn j (hlt j _ e), e]
 have hnil : ∀ j, bget βf j = some .nil → mNew 0 os βf m j = some nilLoc := fun j e => by rw [hmn j (hlt j _ e), e]
 have hlink : Link m (mNew 0 os βf m) (plO 0 os o) os βf := fun j b e => by
  have hj := hlt j b e
  obtain ⟨b', q1, _, _, q4, _, _⟩ := r2 j _ _ (List.getElem?_eq_getElem hj)
  cases b with
  | nil =>
   rw [e] at q1; cases q1
   refine ⟨nilLoc, ?_, rfl, rfl, q4.1 rfl⟩
   show mNew 0 os βf m (nameOf 0 j os) = _
   rw [hnm]; exact hnil j e
  | «at» p nm =>
   refine ⟨?_, fun e' loc hst hm => ?_⟩
   ·show mNew 0 os βf m (nameOf 0 j os) = _
    rw [hnm]; exact hat j p nm e
   ·unfold slotTg at hst
    split at hst
    ·rename_i kp o2 hs
     obtain ⟨b', q1, _, _, q4, _, _⟩ := r2 j _ _ hs
     rw [e] at q1; cases q1
     exact q4.2 e' hst p nm loc rfl hm
    ·cases hst
 have hent : ∀ i nm' ob', (osto 0 os o)[i]? = some (nm', ob') → nm' = i ∧ i < os.length ∧ live ob' ∧ ObjRel C.P B kn (mNew 0 os βf m) w nm' ob' ∧
   ∃ b, bget βf i = some b ∧ (∀ p nm, b = .at p nm → ∃ ob, σ[p]? = some (nm, ob) ∧ live ob ∧ isHand ob = false) ∧ (isStk ob' = true → ∃ p nm ob, b = .at p nm ∧ σ[p]? = some (nm, ob) ∧ isStk ob = true) := fun i nm' ob' e => by
  have hi := (List.getElem?_eq_some_iff.1 e).1
  unfold osto at hi
  rw [patOs_len] at hi
  obtain ⟨b, q1, q2, q3, q4, q4', q5⟩ := r2 i _ _ (List.getElem?_eq_getElem hi)
  obtain ⟨ob2, p1, p2, p3, p4⟩ := q5 _ (plO 0 os o) (fun j => nameOf 0 j os) hlink
  unfold osto at e
  have hsk := patOs_sk (ρ := plO 0 os o) (fun j => nameOf 0 j os) os 0 o i _ _ e (List.getElem?_eq_getElem hi)
  rw [e] at p1; cases p1
  refine ⟨hnm i, hi, p2, ?_, b, q1, q2, fun s => q4' (hsk.symm.trans s)⟩
  have hni : nameOf 0 i os = i := hnm i
  cases b with
  | nil => exact p4 rfl nilLoc (by rw [hni]; exact hnil i q1) rfl rfl
  | «at» p nm => exact p3 p nm rfl (by rw [hni]; exact hat i p nm q1)
 have hgetloc : ∀ i b loc, bget βf i = some b → mNew 0 os βf m i = some loc → loc.nil = false → ∃ p nm, b = .at p nm ∧ m nm = some loc := fun i b loc e hm hn => by
  cases b with
  | nil => rw [hnil i e] at hm; cases hm; cases hn
  | «at» p nm => exact ⟨p, nm, rfl, by rw [← hat i p nm e]; exact hm⟩
 refine ⟨e2, hlink, ⟨hI.knok, hI.size, hI.os, hI.tape, hI.output, hI.old, fun i nm' ob' e => ?_, fun i nm' ob' loc e hl hm hn => ?_, fun i1 n1 ob1 l1 i2 n2 ob2 l2 f1 f2 w1 w2 m1 m2 hn1 hn2 hne => ?_, fun q hq => ?_, fun i nm' ob' e => ?_, fun i1 i2 n1 ob1 ob2 f1 f2 => ?_, fun i1 i2 n1 n2 ob1 ob2 f1 f2 s1 s2 => ?_, fun g => (hI.glob g).rf (C.rf g) _, hI.tab⟩, fun j hj => ?_, fun j p nm e => ?_, v2.one, fun i nm' ob' loc e hm hn => ?_, fun i nm' ob' e s => ?_⟩
 ·obtain ⟨rfl, _, _, q, _⟩ := hent i nm' ob' e; exact q
 ·obtain ⟨rfl, _, _, _, b, q1, q2, _⟩ := hent i nm' ob' e
  obtain ⟨p, nm, rfl, hm'⟩ := hgetloc _ b loc q1 hm hn
  obtain ⟨ob, hp, hlv, hnh⟩ := q2 p nm rfl
  obtain ⟨w1, w2, w3⟩ := hI.own p nm ob loc hp hlv hm' hn
  exact ⟨w1, w2, fun _ => w3 hnh⟩
 ·obtain ⟨rfl, _, _, _, b1, q1, q2, _⟩ := hent i1 n1 ob1 f1
  obtain ⟨rfl, _, _, _, b2, q1', q2', _⟩ := hent i2 n2 ob2 f2
  obtain ⟨p, nm, rfl, hm'⟩ := hgetloc _ b1 l1 q1 m1 hn1
  obtain ⟨p', nm', rfl, hm''⟩ := hgetloc _ b2 l2 q1' m2 hn2
  obtain ⟨ob, hp, hlv, _⟩ := q2 p nm rfl
  obtain ⟨ob', hp', hlv', _⟩ := q2' p' nm' rfl
  refine hI.dist p nm ob l1 p' nm' ob' l2 hp hp' hlv hlv' hm' hm'' hn1 hn2 (fun e => hne ?_)
  subst e
  exact v2.one _ _ p nm nm' q1 q1'
 ·have hq : 0 + os.length ≤ q := hq
  unfold mNew
  rw [if_neg (by omega), List.getElem?_eq_none (by omega)]
 ·obtain ⟨rfl, hi, _⟩ := hent i nm' ob' e
  omega
 ·obtain ⟨h1, _⟩ := hent i1 n1 ob1 f1
  obtain ⟨h2, _⟩ := hent i2 n1 ob2 f2
  omega
 ·obtain ⟨_, _, _, _, b1, q1, _, q3⟩ := hent i1 n1 ob1 f1
  obtain ⟨_, _, _, _, b2, q1', _, q3'⟩ := hent i2 n2 ob2 f2
  obtain ⟨p, nm, ob, rfl, h1, h2⟩ := q3 s1
  obtain ⟨p', nm', ob', rfl, h1', h2'⟩ := q3' s2
  have := hI.stk1 _ _ _ _ _ _ h1 h1' h2 h2'
  subst this
  exact v2.one i1 i2 p nm nm' q1 q1'
 ·obtain ⟨b, q1, q2, _⟩ := r2 j _ _ (List.getElem?_eq_getElem hj)
  cases b with
  | nil => exact ⟨nilLoc, hnil j q1⟩
  | «at» p nm =>
   obtain ⟨loc, hl⟩ := v2.laid j p nm q1
   exact ⟨loc, by rw [hat j p nm q1]; exact hl⟩
 ·have hj := hlt j _ e
  obtain ⟨b, q1, q2, _⟩ := r2 j _ _ (List.getElem?_eq_getElem hj)
  rw [e] at q1; cases q1
  obtain ⟨ob, h1, h2, h2'⟩ := q2 p nm rfl
  obtain ⟨loc, hl⟩ := v2.laid j p nm e
  exact ⟨hat j p nm e, hj, ob, loc, h1, h2, hl, h2'⟩
 ·obtain ⟨rfl, _, _, _, b, q1, q2, _⟩ := hent i nm' ob' e
  obtain ⟨p, nm, rfl, h⟩ := hgetloc _ b loc q1 hm hn
  exact ⟨p, nm, q1, h⟩
 ·obtain ⟨_, _, _, _, b, q1, _, q3⟩ := hent i nm' ob' e
  obtain ⟨p, nm, ob, rfl, h1, h2⟩ := q3 s
  exact ⟨p, nm, ob, q1, h1, h2⟩
end
structure OSig where
 pre : Slots
 args : List Sh
 post : Slots
 res : Sh
 f : Sh.denL args × denO pre → Option (res.den × denO post)
def allNew : Slots → Bool
 | [] => true
 | (kp, _) :: l => !kp && allNew l
theorem allNew_get : ∀ {l : Slots}, allNew l = true → ∀ (j : Nat) (kp : Bool) (o : OSh), l[j]? = some (kp, o) → kp = false
 | [], _, j, kp, o, e => by simp at e
 | (kp0, o0) :: l, h, j, kp, o, e => by
  simp only [allNew, Bool.and_eq_true, Bool.not_eq_true'] at h
  cases j with
  | zero => simp at e; rw [← e.1]; exact h.1
  | succ j => exact allNew_get h.2 j kp o (by simpa using e)
def skOK (pre post : Slots) : Bool := !anySk post || anySk pre
def OSig.ok (s : OSig) : Bool := (allNew s.pre && skOK s.pre s.post) && (keepB s.pre.length 0 s.post && (slotsOK s.post && shOK s.res))
def OOK (C : Cx) (g : FuncId) (s : OSig) : Prop := s.ok = true ∧ ∀ x r, s.f x = some r → ∀ (B : Base) (kn : Kn) (m : Mp) (w : World) (vs : List Value), Inv C B kn m (osto 0 s.pre x.2) (0 + s.pre.length) w → (∀ i, i < s.pre.length → ∃ loc, m i = some loc) → RelL kn m (patL (plO 0 s.pre x.2) s.args x.1) vs →
 Does C.P g vs.toArray w fun e w' => ∃ kn' m', KnLe kn kn' ∧ Inv C B kn' m' (osto s.pre.length s.post r.2) (s.pre.length + s.post.length) w' ∧ (∀ i, i < s.pre.length → m' i = m i) ∧ (∀ j, j < s.post.length → ∃ loc, m' (nameOf s.pre.length j s.post) = some loc) ∧
  RelOut kn' m' (.ret (patV (plO s.pre.length s.post r.2) s.res r.1)) e
inductive OutD (α β : Type) where
 | ret (a : α)
 | pan (b : β)
structure QSig where
 pre : Slots
 args : List Sh
 post : Slots
 res : Sh
 pv : Sh
 f : Sh.denL args × denO pre → Option (OutD res.den pv.den × denO post)
def outD (ρ : Pl) (res pv : Sh) : OutD res.den pv.den → AOut
 | .ret r => .ret (patV ρ res r)
 | .pan b => .pan (patV ρ pv b)
def QSig.ok (s : QSig) : Bool := (allNew s.pre && skOK s.pre s.post) && (keepB s.pre.length 0 s.post && (slotsOK s.post && (shOK s.res && shOK s.pv)))
def QOK (C : Cx) (g : FuncId) (s : QSig) : Prop := s.ok = true ∧ ∀ x r, s.f x = some r → ∀ (B : Base) (kn : Kn) (m : Mp) (w : World) (vs : List Value), Inv C B kn m (osto 0 s.pre x.2) (0 + s.pre.length) w → (∀ i, i < s.pre.length → ∃ loc, m i = some loc) → RelL kn m (patL (plO 0 s.pre x.2) s.args x.1) vs →
 Does C.P g vs.toArray w fun e w' => ∃ kn' m', KnLe kn kn' ∧ Inv C B kn' m' (osto s.pre.length s.post r.2) (s.pre.length + s.post.length) w' ∧ (∀ i, i < s.pre.length → m' i = m i) ∧ (∀ j, j < s.post.length → ∃ loc, m' (nameOf s.pre.length j s.post) = some loc) ∧
  RelOut kn' m' (outD (plO s.pre.length s.post r.2) s.res s.pv r.1) e
def retD {α β γ : Type} : Option (α × γ) → Option (OutD α β × γ)
 | some r => some (.ret r.1, r.2)
 | none => none
def OSig.toQ (s : OSig) : QSig := ⟨s.pre, s.args, s.post, s.res, .d .un, fun x => retD (s.f x)⟩
theorem OOK.toQ {C : Cx} {g : FuncId} {s : OSig} (h : OOK C g s) : QOK C g s.toQ := by
 obtain ⟨hok, h⟩ := h
 refine ⟨?_, fun x r hr => ?_⟩
 ·simp only [OSig.ok, Bool.and_eq_true] at hok
  simp only [QSig.ok, OSig.toQ, Bool.and_eq_true]
  exact ⟨hok.1, hok.2.1, hok.2.2.1, hok.2.2.2, rfl⟩
 ·have hr : retD (s.f x) = some r := hr
  unfold retD at hr
  split at hr
  ·rename_i r' hf
   cases hr
   exact h x r' hf
  ·cases hr
def ofind (β : Binds) (q : Nat) : Nat → Nat → Option Nat
 | _, 0 => none
 | j, n + 1 => match bget β j with
  | some (.at p _) => match Nat.beq p q with
   | true => some j
   | false => ofind β q (j + 1) n
  | _ => ofind β q (j + 1) n
theorem ofind_some {β : Binds} {q : Nat} : ∀ {n j i : Nat}, ofind β q j n = some i → ∃ nm, bget β i = some (.at q nm)
 | 0, j, i, h => by cases h
 | n + 1, j, i, h => by
  simp only [ofind] at h
  split at h
  ·rename_i p nm hb
   split at h
   ·rename_i e
    cases h
    have := Nat.eq_of_beq_eq_true e
    subst this
    exact ⟨nm, hb⟩
   ·exact ofind_some h
  ·exact ofind_some h
theorem ofind_none {β : Binds} {q : Nat} : ∀ {n j : Nat}, ofind β q j n = none → ∀ i nm, j ≤ i → i < j + n → bget β i ≠ some (.at q nm)
 | 0, j, h, i, nm, h1, h2, e => by omega
 | n + 1, j, h, i, nm, h1, h2, e => by
  simp only [ofind] at h
  split at h
  ·rename_i p nm' hb
   split at h
   ·cases h
   ·rename_i hne
    rcases Nat.lt_or_ge j i with hlt | hge
    ·exact ofind_none h i nm hlt (by omega) e
    ·have : i = j := by omega
     subst this
     rw [hb] at e; cases e
     simp at hne
  ·rename_i hb
   rcases Nat.lt_or_ge j i with hlt | hge
   ·exact ofind_none h i nm hlt (by omega) e
   ·have : i = j := by omega
    subst this
    exact hb _ _ e
def keepAt (os : Slots) (j : Nat) : Bool := match os[j]? with
 | some (true, _) => true
 | _ => false
def oPl (L nx : Nat) (β : Binds) (post : Slots) (x : denO post) : Pl := fun j => match keepAt post j with
 | true => match bget β j with
  | some (.at p nm) => (p, nm, lensO post x j)
  | _ => (L + j, nx + j, lensO post x j)
 | false => (L + j, nx + j, lensO post x j)
def inPl (β : Binds) (post : Slots) (j : Nat) : Bool := match keepAt post j with
 | true => match bget β j with
  | some (.at _ _) => true
  | _ => false
 | false => false
def objAt : Sto → Nat → AObj
 | [], _ => .none
 | (_, o) :: _, 0 => o
 | _ :: l, j + 1 => objAt l j
def oOld (β : Binds) (post : Slots) (l : Sto) (n : Nat) : Nat → Sto → Sto
 | _, [] => []
 | q, (nm, ob) :: σ => (nm, match ofind β q 0 n with
  | none => ob
  | some j => match keepAt post j with
   | true => objAt l j
   | false => .none) :: oOld β post l n (q + 1) σ
def oNew (β : Binds) (post : Slots) (nx : Nat) : Nat → Sto → Sto
 | _, [] => []
 | j, (_, ob) :: l => (nx + j, match inPl β post j with
  | true => .none
  | false => ob) :: oNew β post nx (j + 1) l
def oBeh (β : Binds) (n : Nat) (post : Slots) (x : denO post) (σ : Sto) (nx : Nat) : Sto :=
 oOld β post (patOs (oPl σ.length nx β post x) (fun j => j) 0 post x) n 0 σ ++ oNew β post nx 0 (patOs (oPl σ.length nx β post x) (fun j => j) 0 post x)
theorem oOld_get {β : Binds} {post : Slots} {l : Sto} {n : Nat} : ∀ (σ : Sto) (q i nm : Nat) (ob : AObj), (oOld β post l n q σ)[i]? = some (nm, ob) → ∃ ob0, σ[i]? = some (nm, ob0) ∧ ob = (match ofind β (q + i) 0 n with
  | none => ob0
  | some j => match keepAt post j with
   | true => objAt l j
   | false => .none)
 | [], q, i, nm, ob, h => by simp [oOld] at h
 | (nm0, ob0) :: σ, q, 0, nm, ob, h => by
  simp only [oOld, List.getElem?_cons_zero, Option.some.injEq, Prod.mk.injEq] at h
  obtain ⟨rfl, rfl⟩ := h
  exact ⟨ob0, rfl, rfl⟩
 | (nm0, ob0) :: σ, q, i + 1, nm, ob, h => by
  simp only [oOld, List.getElem?_cons_succ] at h
  obtain ⟨ob1, h1, h2⟩ := oOld_get σ (q + 1) i nm ob h
  exact ⟨ob1, by simpa using h1, by rw [h2, show q + 1 + i = q + (i + 1) by omega]⟩
theorem oOld_get' {β : Binds} {post : Slots} {l : Sto} {n : Nat} : ∀ (σ : Sto) (q i nm : Nat) (ob0 : AObj), σ[i]? = some (nm, ob0) → ofind β (q + i) 0 n = none → (oOld β post l n q σ)[i]? = some (nm, ob0)
 | [], q, i, nm, ob, h, hf => by simp at h
 | (nm0, ob0) :: σ, q, 0, nm, ob, h, hf => by
  simp at h
  obtain ⟨rfl, rfl⟩ := h
  simp only [oOld, List.getElem?_cons_zero]
  rw [Nat.add_zero] at hf
  rw [hf]
 | (nm0, ob0) :: σ, q, i + 1, nm, ob, h, hf => by
  simp only [oOld, List.getElem?_cons_succ]
  exact oOld_get' σ (q + 1) i nm ob (by simpa using h) (by rw [show q + 1 + i = q + (i + 1) by omega]; exact hf)
theorem oOld_len {β : Binds} {post : Slots} {l : Sto} {n : Nat} : ∀ (σ : Sto) (q : Nat), (oOld β post l n q σ).length = σ.length
 | [], q => rfl
 | (_, _) :: σ, q => by simp [oOld, oOld_len σ (q + 1)]
theorem oNew_get {β : Binds} {post : Slots} {nx : Nat} : ∀ (l : Sto) (j i nm : Nat) (ob : AObj), (oNew β post nx j l)[i]? = some (nm, ob) → nm = nx + (j + i) ∧ ∃ nm0 ob0, l[i]? = some (nm0, ob0) ∧ ob = (match inPl β post (j + i) with
  | true => .none
  | false => ob0)
 | [], j, i, nm, ob, h => by simp [oNew] at h
 | (nm0, ob0) :: l, j, 0, nm, ob, h => by
  simp only [oNew, List.getElem?_cons_zero, Option.some.injEq, Prod.mk.injEq] at h
  obtain ⟨rfl, rfl⟩ := h
  exact ⟨rfl, nm0, ob0, rfl, rfl⟩
 | (nm0, ob0) :: l, j, i + 1, nm, ob, h => by
  simp only [oNew, List.getElem?_cons_succ] at h
  obtain ⟨h1, nm1, ob1, h2, h3⟩ := oNew_get l (j + 1) i nm ob h
  exact ⟨by omega, nm1, ob1, by simpa using h2, by rw [h3, show j + 1 + i = j + (i + 1) by omega]⟩
theorem objAt_get : ∀ (l : Sto) (j : Nat), objAt l j = .none ∨ ∃ nm, l[j]? = some (nm, objAt l j)
 | [], _ => .inl rfl
 | (nm, o) :: _, 0 => .inr ⟨nm, rfl⟩
 | _ :: l, j + 1 => by
  rcases objAt_get l j with h | ⟨nm, h⟩
  ·exact .inl h
  ·exact .inr ⟨nm, by simpa [objAt] using h⟩
def mBig (m m' : Mp) (nx k : Nat) (post : Slots) : Mp := fun i => if i < nx then m i else if i - nx < post.length then m' (nameOf k (i - nx) post) else none
theorem keepAt_spec {os : Slots} {j : Nat} : keepAt os j = true ↔ ∃ o, os[j]? = some (true, o) := by
 unfold keepAt
 split
 ·rename_i o h; exact ⟨(fun _ => ⟨o, h⟩), fun _ => rfl⟩
 ·rename_i h; exact ⟨(fun e => by cases e), fun ⟨o, e⟩ => absurd e (h o)⟩
theorem oPl_len {L nx : Nat} {β : Binds} {post : Slots} {x : denO post} (j : Nat) : (oPl L nx β post x j).2.2 = lensO post x j := by
 unfold oPl
 split
 ·split <;> rfl
 ·rfl
theorem oPl_cases (L nx : Nat) (β : Binds) (post : Slots) (x : denO post) (j : Nat) : (inPl β post j = true ∧ ∃ o p nm, post[j]? = some (true, o) ∧ bget β j = some (.at p nm) ∧ oPl L nx β post x j = (p, nm, lensO post x j)) ∨ (inPl β post j = false ∧ oPl L nx β post x j = (L + j, nx + j, lensO post x j)) := by
 unfold inPl oPl
 cases hk : keepAt post j with
 | false => exact .inr ⟨rfl, rfl⟩
 | true =>
  obtain ⟨o, ho⟩ := keepAt_spec.1 hk
  simp only
  split
  ·rename_i p nm hb
   exact .inl ⟨rfl, o, p, nm, ho, hb, rfl⟩
  ·exact .inr ⟨rfl, rfl⟩
theorem RowV.base {B B2 : Base} {kn : Kn} {w : World} {e : E} {l : List e.den} {v : Value} (h : RowV B kn w e l v) (hO : ∀ b, (∃ o u, kn b o = some u) → Ow B b → Ow B2 b) : RowV B2 kn w e l v := by
 have hkn := fun b => h.known (b := b)
 rcases h with h | ⟨hl, hs, b, o, cap, arr, ty, rfl, h2, h3, h4, h5, h5', h6, h7, h8, h9⟩
 ·exact .inl h
 ·exact .inr ⟨hl, hs, b, o, cap, arr, ty, rfl, h2, h3, h4, h5, h5', h6, h7, h8, hO b (hkn b rfl).1 h9⟩
theorem ObjRel.base {P : Program} {B B2 : Base} {kn : Kn} {m : Mp} {w : World} {nm : Nat} {ob : AObj} (h : ObjRel P B kn m w nm ob) (hO : isStk ob = true → ∀ b, (∃ o u, kn b o = some u) → Ow B b → Ow B2 b) : ObjRel P B2 kn m w nm ob := by
 cases ob with
 | stk e ety l k =>
  obtain ⟨rv, h1, h2, h3, h4, h5⟩ := h
  exact ⟨rv, h1, h2, fun i r v q a b => (h3 i r v q a b).base (hO rfl), h4, h5⟩
 | _ => exact h
theorem anySk_get : ∀ {l : Slots}, anySk l = true → ∃ (i : Nat) (kp : Bool) (o : OSh), l[i]? = some (kp, o) ∧ isSk o = true
 | [], h => by cases h
 | (kp, o) :: l, h => by
  simp only [anySk, Bool.or_eq_true] at h
  rcases h with h | h
  ·exact ⟨0, kp, o, rfl, h⟩
  ·obtain ⟨i, kp', o', a, b⟩ := anySk_get h
   exact ⟨i + 1, kp', o', by simpa using a, b⟩
theorem anySk_of : ∀ {l : Slots} (i : Nat) (kp : Bool) (o : OSh), l[i]? = some (kp, o) → isSk o = true → anySk l = true
 | [], i, kp, o, e, _ => by simp at e
 | (kp0, o0) :: l, i, kp, o, e, h => by
  simp only [anySk, Bool.or_eq_true]
  cases i with
  | zero => simp at e; rw [e.2]; exact .inl h
  | succ i => exact .inr (anySk_of i kp o (by simpa using e) h)
theorem patO_hand {ρ : Pl} {o : OSh} {x : o.den} : isHand (patO ρ o x) = false := by cases o <;> rfl
theorem qcall_sound {C : Cx} {g : FuncId} {s : QSig} (hS : QOK C g s) {ags : List AV} {σ : Sto} {nx : Nat} {x : Sh.denL s.args} {β1 βf : Binds} {o : denO s.pre} {r : OutD s.res.den s.pv.den × denO s.post}
  (h1 : absL s.pre [] s.args ags = some (x, β1)) (h2 : absOs s.pre σ β1 0 s.pre = some (o, βf)) (hf : s.f (x, o) = some r) (hnh0 : anySk s.pre = true → noHand σ = true) :
  ACall C g ags σ nx (fun out σ' nx' => out = outD (oPl σ.length nx βf s.post r.2) s.res s.pv r.1 ∧ σ' = oBeh βf s.pre.length s.post r.2 σ nx ∧ nx' = nx + s.post.length) := by
 obtain ⟨hok, hS⟩ := hS
 simp only [QSig.ok, Bool.and_eq_true] at hok
 obtain ⟨⟨hnew, hskok⟩, hkeep, hslots, hres, hpv⟩ := hok
 have hnh := fun h => noHand_ok (hnh0 h)
 intro B kn m w vs hI hr
 obtain ⟨a1, a2⟩ := absL_ok (kn := kn) (m := m) (os := s.pre) s.args [] β1 ags x h1
 obtain ⟨a3, a4⟩ := a2 vs hr
 have hv1 : VB m s.pre β1 := a3 ⟨fun j b e => by simp [bget] at e, fun j p nm e => by simp [bget] at e, fun j j' p nm nm' e => by simp [bget] at e⟩
 obtain ⟨e2, hlink, hI0, hlaid0, hat, hone, hown0, hstk0⟩ := norm_core (allNew_get hnew) h2 hv1 hI
 have hargs := a4 _ _ (hlink.ext e2)
 have hk0 : ∀ i o, s.post[i]? = some (true, o) → i < s.pre.length := fun i o e => by have := keepB_spec hkeep i o e; omega
 let own2 : Nat → Prop := fun b => (∃ i p nm ob loc, bget βf i = some (.at p nm) ∧ σ[p]? = some (nm, ob) ∧ live ob ∧ m nm = some loc ∧ loc.nil = false ∧ loc.blk = b) ∨ (anySk s.pre = true ∧ ∃ i p nm ob, bget βf i = some (.at p nm) ∧ σ[p]? = some (nm, ob) ∧ isStk ob = true ∧ (∃ o u, kn b o = some u) ∧ Ow B b)
 let B2 : Base := ⟨w, kn, own2⟩
 have hI2 : Inv C B2 kn (mNew 0 s.pre βf m) (osto 0 s.pre o) (0 + s.pre.length) w := ⟨hI0.knok, Nat.le_refl _, rfl, rfl, rfl, fun _ _ _ => ⟨rfl, rfl⟩, fun p nm ob e => (hI0.obj p nm ob e).base (fun hs b hk how => by
  obtain ⟨p', nm', ob', h1, h2, h3⟩ := hstk0 p nm ob e hs
  have hpl := (List.getElem?_eq_some_iff.1 e).1
  unfold osto at hpl
  rw [patOs_len] at hpl
  have hsk := patOs_sk (ρ := plO 0 s.pre o) (fun j => nameOf 0 j s.pre) s.pre 0 o p _ _ e (List.getElem?_eq_getElem hpl)
  exact .inr (.inr ⟨anySk_of p _ _ (List.getElem?_eq_getElem hpl) (hsk.symm.trans hs), p, p', nm', ob', h1, h2, h3, hk, how⟩)), fun p nm ob loc e l hm hn => by
  obtain ⟨q1, q2, q3⟩ := hI0.own p nm ob loc e l hm hn
  obtain ⟨p', nm', h3, h4⟩ := hown0 p nm ob loc e hm hn
  obtain ⟨_, _, ob', loc', h5, h6, h7, _⟩ := hat _ _ _ h3
  exact ⟨q1, .inr (.inl ⟨p, p', nm', ob', loc, h3, h5, h6, h4, hn, rfl⟩), q3⟩, hI0.dist, hI0.dom, hI0.lt, hI0.uniq, hI0.stk1, hI0.glob, hI0.tabW.base _ (fun g a e h => by
   obtain ⟨t1, t2, _⟩ := hI.tab g a e
   rcases h with ⟨i, p, nm, ob, loc, h1, h2, h3, h4, h5, rfl⟩ | ⟨_, _, _, _, _, _, _, _, _, ho⟩
   ·rcases (hI.own p nm ob loc h2 h3 h4 h5).2.1 with q | q
    ·omega
    ·exact t2 q
   ·rcases ho with q | q
    ·omega
    ·exact t2 q)⟩
 refine (hS (x, o) r hf B2 kn _ w vs hI2 hlaid0 hargs).mono ?_
 rintro e w' ⟨kn', m', hle, hJ, hm', hlaid', hout⟩
 have hnmlt : ∀ q nm ob, σ[q]? = some (nm, ob) → nm < nx := fun q nm ob e => hI.lt q nm ob e
 have hbigOld : ∀ i, i < nx → mBig m m' nx s.pre.length s.post i = m i := fun i hi => by unfold mBig; rw [if_pos hi]
 have hmle : MpLe m (mBig m m' nx s.pre.length s.post) := fun n l e => by
  rcases Nat.lt_or_ge n nx with hlt | hge
  ·rw [hbigOld n hlt]; exact e
  ·rw [hI.dom n hge] at e; cases e
 have hF : ∀ j, j < s.post.length → mBig m m' nx s.pre.length s.post (oPl σ.length nx βf s.post r.2 j).2.1 = m' (nameOf s.pre.length j s.post) := fun j hj => by
  rcases oPl_cases σ.length nx βf s.post r.2 j with ⟨_, o', p, nm, q1, q2, q3⟩ | ⟨_, q3⟩
  ·rw [q3, nameOf_keep q1]
   obtain ⟨h3, h4, ob, loc, h5, _⟩ := hat j p nm q2
   show mBig m m' nx s.pre.length s.post nm = _
   rw [hbigOld nm (hnmlt _ _ _ h5), hm' j (hk0 j o' q1), h3]
  ·rw [q3]
   show mBig m m' nx s.pre.length s.post (nx + j) = _
   unfold mBig
   rw [if_neg (by omega), if_pos (by omega), Nat.add_sub_cancel_left]
 have hren : ∀ j loc, m' ((plO s.pre.length s.post r.2) j).2.1 = some loc → mBig m m' nx s.pre.length s.post (oPl σ.length nx βf s.post r.2 j).2.1 = some loc := fun j loc e => by
  have e : m' (nameOf s.pre.length j s.post) = some loc := e
  by_cases hj : j < s.post.length
  ·rw [hF j hj]; exact e
  ·have : nameOf s.pre.length j s.post = s.pre.length + j := by
    unfold nameOf; rw [List.getElem?_eq_none (by omega)]
   rw [this, hJ.dom _ (by omega)] at e; cases e
 have hlens : ∀ j, (oPl σ.length nx βf s.post r.2 j).2.2 = ((plO s.pre.length s.post r.2) j).2.2 := fun j => oPl_len j
 have hown2 : ∀ b, own2 b → b < w.heap.size ∧ (B.w.heap.size ≤ b ∨ B.own b) := fun b hb => by
  rcases hb with ⟨i, p, nm, ob, loc, q1, q2, q3, q4, q5, q6⟩ | ⟨_, i, p, nm, ob, q1, q2, q3, ⟨o1, u1, hu⟩, q4⟩
  ·obtain ⟨h3, h4, _⟩ := hI.own p nm ob loc q2 q3 q4 q5
   subst q6; exact ⟨h3, h4⟩
  ·exact ⟨hI.kn_lt hu, q4⟩
 have hkeepOld : ∀ b, b < w.heap.size → ¬ own2 b → w'.heap[b]? = w.heap[b]? ∧ kn' b = kn b := fun b hb ho => hJ.old b hb ho
 have hsz : w.heap.size ≤ w'.heap.size := hJ.size
 have hfar : ∀ q nm ob loc, σ[q]? = some (nm, ob) → ofind βf q 0 s.pre.length = none → live ob → m nm = some loc → loc.nil = false → ¬ own2 loc.blk := fun q nm ob loc e hq hl hm hn hown => by
  rcases hown with ⟨i, p, nm', ob', loc', q1, q2, q3, q4, q5, q6⟩ | ⟨q0, i, p, nm', ob', q1, q2, q3, ⟨o1, u1, hu⟩, q4⟩
  rotate_left
  ·rw [(hI.own q nm ob loc e hl hm hn).2.2 (hnh q0 _ _ _ e) o1] at hu; cases hu
  by_cases hpq : p = q
  ·subst hpq
   obtain ⟨_, hi, _⟩ := hat i p nm' q1
   exact ofind_none hq i nm' (Nat.zero_le _) (by omega) q1
  ·exact hI.dist p nm' ob' loc' q nm ob loc q2 e q3 hl q4 hm q5 hn hpq q6
 have hstkOld : ∀ q nm ob, σ[q]? = some (nm, ob) → ofind βf q 0 s.pre.length = none → isStk ob = true → anySk s.pre = false := fun q nm ob e hq hs => by
  cases hx : anySk s.pre with
  | false => rfl
  | true =>
   obtain ⟨i, kp, o', h1, h2⟩ := anySk_get hx
   have hil : i < (osto 0 s.pre o).length := by unfold osto; rw [patOs_len]; exact (List.getElem?_eq_some_iff.1 h1).1
   have h3 := patOs_sk (ρ := plO 0 s.pre o) (fun j => nameOf 0 j s.pre) s.pre 0 o i _ _ (List.getElem?_eq_getElem hil) h1
   obtain ⟨p, nm', ob', h4, h5, h6⟩ := hstk0 i _ _ (List.getElem?_eq_getElem hil) (h3.trans h2)
   have := hI.stk1 _ _ _ _ _ _ e h5 hs h6
   subst this
   obtain ⟨_, hi, _⟩ := hat i _ nm' h4
   exact (ofind_none hq i nm' (Nat.zero_le _) (by omega) h4).elim
 let l := patOs (oPl σ.length nx βf s.post r.2) (fun j => j) 0 s.post r.2
 have hl_get : ∀ j nm0 ob, l[j]? = some (nm0, ob) → j < s.post.length ∧ ∃ ob', (osto s.pre.length s.post r.2)[j]? = some (nameOf s.pre.length j s.post, ob') ∧ ((live ob → live ob') ∧ isStk ob' = isStk ob ∧ isHand ob' = false ∧ isHand ob = false ∧ (isStk ob = true → anySk s.post = true)) ∧ ∀ nm', mBig m m' nx s.pre.length s.post nm' = m' (nameOf s.pre.length j s.post) → ObjRel C.P B kn' (mBig m m' nx s.pre.length s.post) w' nm' ob := fun j nm0 ob e => by
  have hj := (List.getElem?_eq_some_iff.1 e).1
  have hj : j < s.post.length := by
   have := patOs_len (oPl σ.length nx βf s.post r.2) (fun j => j) s.post 0 r.2
   exact this ▸ hj
  rcases patOs_get (ρ := oPl σ.length nx βf s.post r.2) (fun j => j) s.post 0 r.2 j with hno | ⟨kp, osh, y, q1, q2⟩
  ·have e' : (patOs (oPl σ.length nx βf s.post r.2) (fun j => j) 0 s.post r.2)[j]? = some (nm0, ob) := e
   rw [hno] at e'; cases e'
  ·have e' : (patOs (oPl σ.length nx βf s.post r.2) (fun j => j) 0 s.post r.2)[j]? = some (nm0, ob) := e
   rw [q2] at e'; cases e'
   have hp := q2 (plO s.pre.length s.post r.2) (fun j => nameOf s.pre.length j s.post)
   simp only [Nat.zero_add] at hp
   refine ⟨hj, _, hp, ⟨fun _ => (by cases osh <;> trivial), patO_sk.trans patO_sk.symm, patO_hand, patO_hand, fun hs => anySk_of j kp osh q1 (patO_sk.symm.trans hs)⟩, fun nm' he => ?_⟩
   refine patO_ren hren hlens (slotsOK_get hslots j kp osh q1) (hlaid' j hj) he ((hJ.obj _ _ _ hp).base (fun _ b _ how => ?_))
   rcases how with h | h
   ·exact .inl (Nat.le_trans hI.size h)
   ·exact (hown2 b h).2
 have hcls : ∀ q nm ob, (oBeh βf s.pre.length s.post r.2 σ nx)[q]? = some (nm, ob) → (q < σ.length ∧ ∃ ob0, σ[q]? = some (nm, ob0) ∧ (ofind βf q 0 s.pre.length = none → ob = ob0) ∧ (live ob → ofind βf q 0 s.pre.length ≠ none → ∃ j nm0, l[j]? = some (nm0, ob) ∧ nm = (oPl σ.length nx βf s.post r.2 j).2.1 ∧ q = (oPl σ.length nx βf s.post r.2 j).1)) ∨
   (∃ j, q = σ.length + j ∧ j < s.post.length ∧ nm = nx + j ∧ (live ob → ∃ nm0, l[j]? = some (nm0, ob) ∧ nm = (oPl σ.length nx βf s.post r.2 j).2.1 ∧ q = (oPl σ.length nx βf s.post r.2 j).1)) := fun q nm ob e => by
  unfold oBeh at e
  rw [List.getElem?_append] at e
  rw [oOld_len] at e
  split at e
  ·rename_i hq
   refine .inl ⟨hq, ?_⟩
   obtain ⟨ob0, p1, p2⟩ := oOld_get _ _ _ _ _ e
   rw [Nat.zero_add] at p2
   refine ⟨ob0, p1, fun h => by rw [h] at p2; exact p2, fun hl hne => ?_⟩
   cases hfd : ofind βf q 0 s.pre.length with
   | none => exact absurd hfd hne
   | some j =>
    rw [hfd] at p2
    simp only at p2
    split at p2
    ·rename_i hk
     obtain ⟨nm', hb⟩ := ofind_some hfd
     obtain ⟨_, _, ob1, _, h5, _⟩ := hat j q nm' hb
     rw [p1] at h5; cases h5
     rcases objAt_get (patOs (oPl σ.length nx βf s.post r.2) (fun j => j) 0 s.post r.2) j with h | ⟨nm0, h⟩
     ·rw [p2, h] at hl; cases hl
     ·rw [← p2] at h
      refine ⟨j, nm0, h, ?_⟩
      unfold oPl
      simp only [hk, hb, and_self]
    ·rw [p2] at hl; cases hl
  ·rename_i hq
   obtain ⟨p1, nm0, ob0, p2, p3⟩ := oNew_get _ _ _ _ _ e
   rw [Nat.zero_add] at p1 p3
   refine .inr ⟨q - σ.length, by omega, (hl_get _ _ _ p2).1, p1, fun hl => ?_⟩
   rcases oPl_cases σ.length nx βf s.post r.2 (q - σ.length) with ⟨q1, _⟩ | ⟨q1, q2⟩
   ·rw [q1] at p3; rw [p3] at hl; cases hl
   ·rw [q1] at p3
    simp only at p3
    subst p3
    exact ⟨nm0, p2, by rw [q2]; exact p1, by rw [q2]; show q = σ.length + (q - σ.length); omega⟩
 have hlive : ∀ q nm ob, (oBeh βf s.pre.length s.post r.2 σ nx)[q]? = some (nm, ob) → live ob → (σ[q]? = some (nm, ob) ∧ ofind βf q 0 s.pre.length = none) ∨
   ∃ j ob', j < s.post.length ∧ nm = (oPl σ.length nx βf s.post r.2 j).2.1 ∧ q = (oPl σ.length nx βf s.post r.2 j).1 ∧ (osto s.pre.length s.post r.2)[j]? = some (nameOf s.pre.length j s.post, ob') ∧ (live ob' ∧ isStk ob' = isStk ob ∧ isHand ob' = false ∧ isHand ob = false ∧ (isStk ob = true → anySk s.post = true)) ∧ mBig m m' nx s.pre.length s.post nm = m' (nameOf s.pre.length j s.post) ∧
    ObjRel C.P B kn' (mBig m m' nx s.pre.length s.post) w' nm ob := fun q nm ob e hl => by
  have key : ∀ j nm0, l[j]? = some (nm0, ob) → nm = (oPl σ.length nx βf s.post r.2 j).2.1 → q = (oPl σ.length nx βf s.post r.2 j).1 → ∃ j ob', j < s.post.length ∧ nm = (oPl σ.length nx βf s.post r.2 j).2.1 ∧ q = (oPl σ.length nx βf s.post r.2 j).1 ∧ (osto s.pre.length s.post r.2)[j]? = some (nameOf s.pre.length j s.post, ob') ∧ (live ob' ∧ isStk ob' = isStk ob ∧ isHand ob' = false ∧ isHand ob = false ∧ (isStk ob = true → anySk s.post = true)) ∧ mBig m m' nx s.pre.length s.post nm = m' (nameOf s.pre.length j s.post) ∧
    ObjRel C.P B kn' (mBig m m' nx s.pre.length s.post) w' nm ob := fun j nm0 e1 e2 e3 => by
   obtain ⟨hj, ob', p1, p2, p3⟩ := hl_get j nm0 ob e1
   have hm : mBig m m' nx s.pre.length s.post nm = m' (nameOf s.pre.length j s.post) := by rw [e2]; exact hF j hj
   exact ⟨j, ob', hj, e2, e3, p1, ⟨p2.1 hl, p2.2⟩, hm, p3 nm hm⟩
  rcases hcls q nm ob e with ⟨hq, ob0, p1, p2, p3⟩ | ⟨j, hq, hj, hnm, p3⟩
  ·by_cases hfd : ofind βf q 0 s.pre.length = none
   ·rw [p2 hfd]; exact .inl ⟨p1, hfd⟩
   ·obtain ⟨j, nm0, e1, e2, e3⟩ := p3 hl hfd
    exact .inr (key j nm0 e1 e2 e3)
  ·obtain ⟨nm0, e1, e2, e3⟩ := p3 hl
   exact .inr (key j nm0 e1 e2 e3)
 refine ⟨outD (oPl σ.length nx βf s.post r.2) s.res s.pv r.1, kn', mBig m m' nx s.pre.length s.post, _, _, ⟨rfl, rfl, rfl⟩, ?_, hle, ⟨hJ.knok, Nat.le_trans hI.size hsz, hJ.os.trans hI.os, hJ.tape.trans hI.tape, hJ.output.trans hI.output, fun b hb hob => ?_, fun q nm ob e => ?_, fun q nm ob loc e hl hm hn => ?_,
  fun q nm ob loc q' nm' ob' loc' e e' hl hl' hm hm2 hn hn' hne => ?_, fun n hn => ?_, fun q nm ob e => ?_, fun q q' nm ob ob' e e' => ?_, fun q q' nm nm' ob ob' e e' s1 s2 => ?_, fun g => (hJ.glob g).rf (C.rf g) _, hI.tab⟩, ⟨Nat.le_add_right _ _, fun n hn => hbigOld n hn, fun q nm ob e hm => ?_⟩⟩
 ·obtain ⟨rv, ro⟩ := r
  cases rv with
  | ret a =>
   cases e with
   | returned u => exact patV_ren hren hlens s.res a u hres hout
   | _ => exact hout.elim
  | pan b =>
   cases e with
   | panicked ch =>
    obtain ⟨u, hu, hr⟩ := hout
    exact ⟨u, hu, patV_ren hren hlens s.pv b u hpv hr⟩
   | _ => exact hout.elim
 ·have hbw : b < w.heap.size := Nat.lt_of_lt_of_le hb hI.size
  have hno : ¬ own2 b := fun h => by
   rcases (hown2 b h).2 with h | h
   ·omega
   ·exact hob h
  obtain ⟨p1, p2⟩ := hkeepOld b hbw hno
  obtain ⟨p3, p4⟩ := hI.old b hb hob
  exact ⟨p1.trans p3, p2.trans p4⟩
 ·by_cases hl : live ob
  ·rcases hlive q nm ob e hl with ⟨p1, p2⟩ | ⟨j, ob', _, _, _, _, _, _, h⟩
   ·refine ((hI.obj q nm ob p1).mono hle (fun loc hl hm hn => (hkeepOld _ (hI.own q nm ob loc p1 hl hm hn).1 (hfar q nm ob loc p1 p2 hl hm hn)).1) (fun b hb => ?_)).mono_m (hbigOld nm (hnmlt _ _ _ p1)) hmle
    rcases hb with ⟨hst, o1, u1, hu⟩ | ⟨hx, _⟩
    ·refine hkeepOld b (hI.kn_lt hu) (fun hown => ?_)
     rcases hown with ⟨i, p', nm', ob', loc', r1, r2, r3, r4, r5, r6⟩ | ⟨_, i, p', nm', ob', r1, r2, r3, _⟩
     ·subst r6
      obtain ⟨_, _, ob3, _, h4, _, _, h5⟩ := hat i p' nm' r1
      rw [r2] at h4; cases h4
      rw [(hI.own p' nm' ob' loc' r2 r3 r4 r5).2.2 h5 o1] at hu; cases hu
     ·have := hI.stk1 _ _ _ _ _ _ p1 r2 hst r3
      subst this
      obtain ⟨_, hi, _⟩ := hat i _ nm' r1
      exact ofind_none p2 i nm' (Nat.zero_le _) (by omega) r1
    ·rename_i hh
     obtain ⟨l0, hm0, hn0, rfl⟩ := hh
     exact hkeepOld _ (hI.own q nm ob l0 p1 hl hm0 hn0).1 (hfar q nm ob l0 p1 p2 hl hm0 hn0)
   ·exact h
  ·cases ob with
   | none => trivial
   | _ => exact absurd trivial hl
 ·rcases hlive q nm ob e hl with ⟨p1, p2⟩ | ⟨j, ob', hj, hnm, hq, h1, h2, h3, _⟩
  ·rw [hbigOld nm (hnmlt _ _ _ p1)] at hm
   obtain ⟨a, b, c⟩ := hI.own q nm ob loc p1 hl hm hn
   refine ⟨Nat.lt_of_lt_of_le a hsz, b, fun hx o => ?_⟩
   rw [(hkeepOld _ a (hfar q nm ob loc p1 p2 hl hm hn)).2]; exact c hx o
  ·rw [h3] at hm
   obtain ⟨a, b, c⟩ := hJ.own j _ ob' loc h1 h2.1 hm hn
   refine ⟨a, ?_, fun _ => c h2.2.2.1⟩
   rcases b with b | b
   ·exact .inl (Nat.le_trans hI.size b)
   ·exact (hown2 _ b).2
 ·rcases hlive q nm ob e hl with ⟨p1, p2⟩ | ⟨j, ob1, hj, hnm, hq, h1, h2, h3, _⟩
  ·rw [hbigOld nm (hnmlt _ _ _ p1)] at hm
   rcases hlive q' nm' ob' e' hl' with ⟨p1', p2'⟩ | ⟨j', ob1', hj', hnm', hq', h1', h2', h3', _⟩
   ·rw [hbigOld nm' (hnmlt _ _ _ p1')] at hm2
    exact hI.dist q nm ob loc q' nm' ob' loc' p1 p1' hl hl' hm hm2 hn hn' hne
   ·rw [h3'] at hm2
    intro hbb
    have hlt := (hI.own q nm ob loc p1 hl hm hn).1
    have hno := hfar q nm ob loc p1 p2 hl hm hn
    rcases (hJ.own j' _ ob1' loc' h1' h2'.1 hm2 hn').2.1 with h | h
    ·have h : w.heap.size ≤ loc'.blk := h
     omega
    ·rw [hbb] at hno; exact hno h
  ·rw [h3] at hm
   rcases hlive q' nm' ob' e' hl' with ⟨p1', p2'⟩ | ⟨j', ob1', hj', hnm', hq', h1', h2', h3', _⟩
   ·rw [hbigOld nm' (hnmlt _ _ _ p1')] at hm2
    intro hbb
    have hlt := (hI.own q' nm' ob' loc' p1' hl' hm2 hn').1
    have hno := hfar q' nm' ob' loc' p1' p2' hl' hm2 hn'
    rcases (hJ.own j _ ob1 loc h1 h2.1 hm hn).2.1 with h | h
    ·have h : w.heap.size ≤ loc.blk := h
     omega
    ·rw [← hbb] at hno; exact hno h
   ·rw [h3'] at hm2
    refine hJ.dist j _ ob1 loc j' _ ob1' loc' h1 h1' h2.1 h2'.1 hm hm2 hn hn' (fun hjj => hne ?_)
    rw [hq, hq', hjj]
 ·show (if n < nx then m n else if n - nx < s.post.length then m' (nameOf s.pre.length (n - nx) s.post) else none) = none
  have hn : nx + s.post.length ≤ n := hn
  rw [if_neg (by omega), if_neg (by omega)]
 ·show nm < nx + s.post.length
  rcases hcls q nm ob e with ⟨hq, ob0, p1, _⟩ | ⟨j, hq, hj, hnm, _⟩
  ·have := hnmlt _ _ _ p1; omega
  ·omega
 ·rcases hcls q nm ob e with ⟨hq, ob0, p1, _⟩ | ⟨j, hq, hj, hnm, _⟩
  ·rcases hcls q' nm ob' e' with ⟨hq', ob0', p1', _⟩ | ⟨j', hq', hj', hnm', _⟩
   ·exact hI.uniq _ _ _ _ _ p1 p1'
   ·have := hnmlt _ _ _ p1; omega
  ·rcases hcls q' nm ob' e' with ⟨hq', ob0', p1', _⟩ | ⟨j', hq', hj', hnm', _⟩
   ·have := hnmlt _ _ _ p1'; omega
   ·omega
 ·rcases hlive q nm ob e (live_stk s1) with ⟨p1, p2⟩ | ⟨j, ob1, hj, hnm, hq, h1, h2, h3, _⟩
  ·have hno := hstkOld q nm ob p1 p2 s1
   rcases hlive q' nm' ob' e' (live_stk s2) with ⟨p1', p2'⟩ | ⟨j', ob1', hj', hnm', hq', h1', h2', h3', _⟩
   ·exact hI.stk1 _ _ _ _ _ _ p1 p1' s1 s2
   ·have h5 := h2'.2.2.2.2 s2
    unfold skOK at hskok
    rw [h5, hno] at hskok; cases hskok
  ·have h5 := h2.2.2.2.2 s1
   rcases hlive q' nm' ob' e' (live_stk s2) with ⟨p1', p2'⟩ | ⟨j', ob1', hj', hnm', hq', h1', h2', h3', _⟩
   ·have hno := hstkOld q' nm' ob' p1' p2' s2
    unfold skOK at hskok
    rw [h5, hno] at hskok; cases hskok
   ·have hjj := hJ.stk1 _ _ _ _ _ _ h1 h1' (h2.2.1.trans s1) (h2'.2.1.trans s2)
    rw [hq, hq', hjj]
 ·have hfd : ofind βf q 0 s.pre.length = none := by
   cases hfd : ofind βf q 0 s.pre.length with
   | none => rfl
   | some j =>
    obtain ⟨nm', hb⟩ := ofind_some hfd
    obtain ⟨_, _, ob1, loc, h5, _, h6, _⟩ := hat j q nm' hb
    rw [e] at h5; cases h5
    rw [hm] at h6; cases h6
  unfold oBeh
  have hq := (List.getElem?_eq_some_iff.1 e).1
  rw [List.getElem?_append_left (by rw [oOld_len]; exact hq)]
  exact oOld_get' σ 0 q nm ob e (by rw [Nat.zero_add]; exact hfd)
theorem ocall_sound {C : Cx} {g : FuncId} {s : OSig} (hS : OOK C g s) {ags : List AV} {σ : Sto} {nx : Nat} {x : Sh.denL s.args} {β1 βf : Binds} {o : denO s.pre} {r : s.res.den × denO s.post}
  (h1 : absL s.pre [] s.args ags = some (x, β1)) (h2 : absOs s.pre σ β1 0 s.pre = some (o, βf)) (hf : s.f (x, o) = some r) (hnh0 : anySk s.pre = true → noHand σ = true) :
  ACall C g ags σ nx (fun out σ' nx' => out = .ret (patV (oPl σ.length nx βf s.post r.2) s.res r.1) ∧ σ' = oBeh βf s.pre.length s.post r.2 σ nx ∧ nx' = nx + s.post.length) :=
 qcall_sound (s := s.toQ) hS.toQ (r := (.ret r.1, r.2)) h1 h2 (show retD (s.f (x, o)) = _ by rw [hf]; rfl) hnh0
end Go.Ab

namespace Go.Ab
open Go Go.RowKit
mutual
def rfB : AV → Bool
 | .any => true
 | .int _ _ => true
 | .bool _ => true
 | .str _ => true
 | .base _ => true
 | .agg cs => rfBL cs
 | .tup cs => rfBL cs
 | .vec _ rows => rfBLL rows
 | .emp => true
 | .rptr cs => rfBL cs
 | .ref _ _ _ => false
 | .eref _ _ _ _ => false
 | .sref _ _ _ _ _ => false
 | .fn _ a b => rfBL a && rfBL b
 | .iface _ v => rfB v
 | .mapr _ _ => false
 | .erri _ => true
 | .tvec _ _ => true
 | .gs _ _ _ _ => false
 | .mref _ _ _ _ => false
 | .gv _ _ _ _ _ => false
def rfBL : List AV → Bool
 | [] => true
 | c :: cs => rfB c && rfBL cs
def rfBLL : List (List AV) → Bool
 | [] => true
 | r :: rs => rfBL r && rfBLL rs
end
mutual
theorem rfB_sound : ∀ v : AV, rfB v = true → RF v
 | .any, _ => trivial
 | .int _ _, _ => trivial
 | .bool _, _ => trivial
 | .str _, _ => trivial
 | .base _, _ => trivial
 | .agg cs, h => rfBL_sound cs h
 | .tup cs, h => rfBL_sound cs h
 | .vec _ rows, h => rfBLL_sound rows h
 | .emp, _ => trivial
 | .rptr cs, h => rfBL_sound cs h
 | .ref _ _ _, h => by simp [rfB] at h
 | .eref _ _ _ _, h => by simp [rfB] at h
 | .sref _ _ _ _ _, h => by simp [rfB] at h
 | .fn _ a b, h => by simp only [rfB, Bool.and_eq_true] at h; exact ⟨rfBL_sound a h.1, rfBL_sound b h.2⟩
 | .iface _ v, h => rfB_sound v h
 | .mapr _ _, h => by simp [rfB] at h
 | .erri _, _ => trivial
 | .tvec _ _, _ => trivial
 | .gs _ _ _ _, h => by simp [rfB] at h
 | .mref _ _ _ _, h => by simp [rfB] at h
 | .gv _ _ _ _ _, h => by simp [rfB] at h
theorem rfBL_sound : ∀ l : List AV, rfBL l = true → RFL l
 | [], _ => trivial
 | c :: cs, h => by simp only [rfBL, Bool.and_eq_true] at h; exact ⟨rfB_sound c h.1, rfBL_sound cs h.2⟩
theorem rfBLL_sound : ∀ l : List (List AV), rfBLL l = true → RFLL l
 | [], _ => trivial
 | r :: rs, h => by simp only [rfBLL, Bool.and_eq_true] at h; exact ⟨rfBL_sound r h.1, rfBLL_sound rs h.2⟩
end
inductive Out (α : Type) where
 | ret (a : α)
 | pan
def ρ0 : Pl := fun j => (j, j, 0)
structure CSig where
 g : FuncId
 q : QSig
 args : List Sh
 res : Sh
 nb : Nat
 dr : Nat
 dp : Nat
 dn : Nat
 go : Sh.denL args → Bool
 no : Sh.denL args → res.den
 f : Sh.denL args → OutD q.res.den q.pv.den → Option res.den
def allKeep : Slots → Bool
 | [] => true
 | (kp, _) :: l => kp && allKeep l
def dD (k : CSig) : OutD k.q.res.den k.q.pv.den → Nat
 | .ret _ => k.dr
 | .pan _ => k.dp
def COK (C : Cx) (g : FuncId) (k : CSig) : Prop := QOK C k.g k.q ∧ allKeep k.q.post = true ∧
 (∀ (x : Sh.denL k.args) (first caps : List AV) (σ : Sto) (nx : Nat), k.go x = false → ACall C g (patL ρ0 k.args x ++ [.fn (.func k.g) first caps]) σ nx (fun o σ' nx' => o = .ret (patV ρ0 k.res (k.no x)) ∧ σ' = σ ∧ nx' = nx + k.dn)) ∧
 ∀ (x : Sh.denL k.args) (y : OutD k.q.res.den k.q.pv.den) (r : k.res.den) (ρ : Pl) (first caps : List AV) (σ σ2 : Sto) (nx : Nat), k.go x = true → k.f x y = some r → σ2.length = σ.length →
  (∀ zs : Sto, zs.length = k.nb → ∃ tail, ACall C k.g (first ++ caps) (σ ++ zs) (nx + k.nb) (fun o σ' nx' => o = outD ρ k.q.res k.q.pv y ∧ σ' = σ2 ++ (zs ++ tail) ∧ nx' = nx + k.nb + k.q.post.length)) →
  ACall C g (patL ρ0 k.args x ++ [.fn (.func k.g) first caps]) σ nx (fun o σ' nx' => o = .ret (patV ρ0 k.res r) ∧ σ' = σ2 ∧ nx' = nx + k.nb + k.q.post.length + dD k y)
inductive Sig where
 | n (args : List Sh) (res : Sh) (f : Sh.denL args → Option res.den)
 | p (args : List Sh) (res : Sh) (pv : AV) (f : Sh.denL args → Option (Out res.den))
 | o (s : OSig)
 | d (args : List Sh) (res pv : Sh) (f : Sh.denL args → Option (OutD res.den pv.den))
 | q (s : QSig)
 | c (k : CSig)
def SigOK (C : Cx) (g : FuncId) : Sig → Prop
 | .n args res f => ∀ x r, f x = some r → PCall C g (patL ρ0 args x) (· = .ret (patV ρ0 res r))
 | .p args res pv f => ∀ x o, f x = some o → PCall C g (patL ρ0 args x) (fun a => match o with
  | .ret r => a = .ret (patV ρ0 res r)
  | .pan => a = .pan pv)
 | .o s => OOK C g s
 | .d args res pv f => ∀ x o, f x = some o → PCall C g (patL ρ0 args x) (· = outD ρ0 res pv o)
 | .q s => QOK C g s
 | .c k => COK C g k
theorem sig_args {kn : Kn} {m m' : Mp} {args : List Sh} {ags : List AV} {us : List Value} {x : Sh.denL args} {β : Binds} (h : absL [] [] args ags = some (x, β)) (hr : RelL kn m ags us) (ρ : Pl) : RelL kn m' (patL ρ args x) us := by
 obtain ⟨h1, h2⟩ := absL_ok (kn := kn) (m := m) args [] β ags x h
 obtain ⟨h3, h4⟩ := h2 us hr
 have hv := h3 ⟨fun j b e => by simp [bget] at e, fun j p nm e => by simp [bget] at e, fun j j' p nm nm' e => by simp [bget] at e⟩
 exact h4 m' ρ (fun j b e => by have := hv.dom j b e; simp at this)
theorem sig_pcall {C : Cx} {g : FuncId} {args : List Sh} {ags : List AV} {x : Sh.denL args} {β : Binds} {Q : AOut → Prop} (h : absL [] [] args ags = some (x, β)) (hp : PCall C g (patL ρ0 args x) Q) : PCall C g ags Q :=
 fun kn w vs hk hr => hp kn w vs hk (sig_args h hr ρ0)
theorem callP_of {C : Cx} {own tot : Bool} {g : FuncId} {ags : List AV} {σ : Sto} {nx : Nat} {K KP : AV → Sto → Nat → Prop} {o : AOut} (hf : RFL ags) (hp : PCall C g ags (· = o)) (hk : ∀ v, o = .ret v → K v σ nx) (hkp : ∀ v, o = .pan v → tot = true ∧ KP v σ nx) : CallP C own tot g ags σ nx K KP := by
 refine ⟨_, hp.acall hf σ nx, fun v σ' nx' q => ?_, fun v σ' nx' q => ?_, ?_, .inr ⟨hf, _, hp, fun o σ' nx' => Iff.rfl⟩⟩
 ·obtain ⟨q1, rfl, rfl⟩ := q; exact hk v q1.symm
 ·obtain ⟨q1, rfl, rfl⟩ := q; exact (hkp v q1.symm).2
 ·cases o with
  | ret v => exact .inr ⟨v, σ, nx, rfl, rfl, rfl⟩
  | pan v => exact .inl (hkp v rfl).1
def ycall (tt : Bool) {R : Type} (Kr KP : AV → Option R) (ags : List AV) : List Sig → Option R
 | [] => none
 | .n args res f :: l => match absL [] [] args ags with
  | some (x, _) => (f x).bind fun r => Kr (patV ρ0 res r)
  | none => ycall tt Kr KP ags l
 | .p args res pv f :: l => match absL [] [] args ags with
  | some (x, _) => (f x).bind fun o => match o with
   | .ret r => Kr (patV ρ0 res r)
   | .pan => if tt = true then KP pv else none
  | none => ycall tt Kr KP ags l
 | .d args res pv f :: l => match absL [] [] args ags with
  | some (x, _) => (f x).bind fun o => match o with
   | .ret r => Kr (patV ρ0 res r)
   | .pan b => if tt = true then KP (patV ρ0 pv b) else none
  | none => ycall tt Kr KP ags l
 | .o _ :: l => ycall tt Kr KP ags l
 | .q _ :: l => ycall tt Kr KP ags l
 | .c _ :: l => ycall tt Kr KP ags l
def splitL : List AV → Option (List AV × AV)
 | [] => none
 | [a] => some ([], a)
 | a :: l => match splitL l with
  | some (l', b) => some (a :: l', b)
  | none => none
theorem splitL_ok : ∀ {l l' : List AV} {b : AV}, splitL l = some (l', b) → l = l' ++ [b]
 | [], _, _, h => by cases h
 | [a], _, _, h => by cases h; rfl
 | a :: c :: l, l', b, h => by
  unfold splitL at h
  split at h
  ·rename_i l2 b2 h2
   cases h
   rw [splitL_ok h2]; rfl
  ·cases h
def fnOf : AV → Option (FuncId × List AV × List AV)
 | .fn (.func g) a b => some (g, a, b)
 | _ => none
theorem fnOf_ok {v : AV} {g : FuncId} {a b : List AV} (h : fnOf v = some (g, a, b)) : v = .fn (.func g) a b := by
 unfold fnOf at h
 split at h
 ·cases h; rfl
 ·cases h
def cBeh (βf : Binds) (q : QSig) (x : denO q.post) (σ : Sto) (nx nb : Nat) : Sto := oOld βf q.post (patOs (oPl (σ.length + nb) (nx + nb) βf q.post x) (fun j => j) 0 q.post x) q.pre.length 0 σ
def absOsN (os : Slots) (σ : Sto) (β : Binds) : Option (denO os × Binds) := cond (anySk os) (cond (noHand σ) (absOs os σ β 0 os) none) (absOs os σ β 0 os)
def absOsC (os : Slots) (σ : Sto) (β : Binds) : Option (denO os × Binds) := cond (anySk os) none (absOs os σ β 0 os)
theorem absOsN_ok {os : Slots} {σ : Sto} {β : Binds} {r : denO os × Binds} (h : absOsN os σ β = some r) : absOs os σ β 0 os = some r ∧ (anySk os = true → noHand σ = true) := by
 unfold absOsN at h
 cases ha : anySk os with
 | false => rw [ha] at h; exact ⟨h, fun e => by cases e⟩
 | true =>
  rw [ha] at h
  cases hn : noHand σ with
  | false => rw [hn] at h; cases h
  | true => rw [hn] at h; exact ⟨h, fun _ => rfl⟩
theorem absOsC_ok {os : Slots} {σ : Sto} {β : Binds} {r : denO os × Binds} (h : absOsC os σ β = some r) : absOs os σ β 0 os = some r ∧ anySk os = false := by
 unfold absOsC at h
 cases ha : anySk os with
 | false => rw [ha] at h; exact ⟨h, rfl⟩
 | true => rw [ha] at h; cases h
def yocall (tt : Bool) {R : Type} (Kr KP : AV → Sto → Nat → Option R) (ags : List AV) (σ : Sto) (nx : Nat) : List Sig → Option R
 | [] => none
 | .n _ _ _ :: l => yocall tt Kr KP ags σ nx l
 | .p _ _ _ _ :: l => yocall tt Kr KP ags σ nx l
 | .d _ _ _ _ :: l => yocall tt Kr KP ags σ nx l
 | .o s :: l => match absL s.pre [] s.args ags with
  | some (x, β1) => match absOsN s.pre σ β1 with
   | some (o, βf) => (s.f (x, o)).bind fun r => Kr (patV (oPl σ.length nx βf s.post r.2) s.res r.1) (oBeh βf s.pre.length s.post r.2 σ nx) (nx + s.post.length)
   | none => yocall tt Kr KP ags σ nx l
  | none => yocall tt Kr KP ags σ nx l
 | .q s :: l => match absL s.pre [] s.args ags with
  | some (x, β1) => match absOsN s.pre σ β1 with
   | some (o, βf) => (s.f (x, o)).bind fun r => match r.1 with
    | .ret a => Kr (patV (oPl σ.length nx βf s.post r.2) s.res a) (oBeh βf s.pre.length s.post r.2 σ nx) (nx + s.post.length)
    | .pan b => if tt = true then KP (patV (oPl σ.length nx βf s.post r.2) s.pv b) (oBeh βf s.pre.length s.post r.2 σ nx) (nx + s.post.length) else none
   | none => yocall tt Kr KP ags σ nx l
  | none => yocall tt Kr KP ags σ nx l
 | .c k :: l => match splitL ags with
  | some (as_, fv) => match fnOf fv with
   | some (g', first, caps) => match decide (g' = k.g) with
    | true => match absL [] [] k.args as_ with
     | some (x, _) => match absL k.q.pre [] k.q.args (first ++ caps) with
      | some (y, β1) => match absOsC k.q.pre σ β1 with
       | some (o, βf) => cond (k.go x) ((k.q.f (y, o)).bind fun r => match r.1 with
        | .ret a1 => (k.f x (.ret a1)).bind fun a => Kr (patV ρ0 k.res a) (cBeh βf k.q r.2 σ nx k.nb) (nx + k.nb + k.q.post.length + k.dr)
        | .pan b1 => (k.f x (.pan b1)).bind fun a => Kr (patV ρ0 k.res a) (cBeh βf k.q r.2 σ nx k.nb) (nx + k.nb + k.q.post.length + k.dp)) (Kr (patV ρ0 k.res (k.no x)) σ (nx + k.dn))
       | none => yocall tt Kr KP ags σ nx l
      | none => yocall tt Kr KP ags σ nx l
     | none => yocall tt Kr KP ags σ nx l
    | false => yocall tt Kr KP ags σ nx l
   | none => yocall tt Kr KP ags σ nx l
  | none => yocall tt Kr KP ags σ nx l
theorem sget_append {σ τ : Sto} {p nm : Nat} {o : AObj} (h : sget σ p nm = some o) : sget (σ ++ τ) p nm = some o := by
 have hp := sget_some h
 unfold sget
 rw [List.getElem?_append_left (List.getElem?_eq_some_iff.1 hp).1, hp]
 simp
theorem absO_append {os : Slots} {β : Binds} {σ τ : Sto} {b : Option Bnd} {o : OSh} {r : o.den × Binds} (h : absO os β σ b o = some r) : absO os β (σ ++ τ) b o = some r := by
 cases o with
 | cells T l =>
  replace h : absCellsO os β σ T l b = some r := h
  show absCellsO os β (σ ++ τ) T l b = some r
  unfold absCellsO at h ⊢
  split at h
  ·rename_i p nm
   split at h
   ·rename_i T' cs hg
    simp only [sget_append hg]
    exact h
   ·cases h
  ·cases h
 | tg e ety =>
  replace h : absTgO β σ e ety b = some r := h
  show absTgO β (σ ++ τ) e ety b = some r
  unfold absTgO at h ⊢
  split at h
  ·rename_i p nm
   split at h
   ·rename_i e' ety' l hg
    simp only [sget_append hg]
    exact h
   ·cases h
  ·exact h
  ·cases h
 | stk e ety =>
  replace h : absSkO β σ e ety b = some r := h
  show absSkO β (σ ++ τ) e ety b = some r
  unfold absSkO at h ⊢
  split at h
  ·rename_i p nm
   split at h
   ·rename_i e' ety' l hg
    simp only [sget_append hg]
    exact h
   ·cases h
  ·cases h
theorem absOs_append {os : Slots} {σ τ : Sto} : ∀ (l : Slots) (β : Binds) (j : Nat) (r : denO l × Binds), absOs os σ β j l = some r → absOs os (σ ++ τ) β j l = some r
 | [], β, j, r, h => h
 | (_, o) :: l, β, j, r, h => by
  unfold absOs at h ⊢
  split at h
  ·rename_i x β1 hx
   rw [absO_append hx]
   simp only
   split at h
   ·rename_i y β2 hy
    rw [absOs_append l β1 (j + 1) _ hy]
    exact h
   ·cases h
  ·cases h
theorem oOld_append {β : Binds} {post : Slots} {l : Sto} {n : Nat} : ∀ (σ : Sto) (q : Nat) (τ : Sto), oOld β post l n q (σ ++ τ) = oOld β post l n q σ ++ oOld β post l n (q + σ.length) τ
 | [], q, τ => by simp [oOld]
 | (nm, ob) :: σ, q, τ => by
  simp only [List.cons_append, oOld, oOld_append σ (q + 1) τ, List.length_cons]
  rw [show q + 1 + σ.length = q + (σ.length + 1) by omega]
theorem oOld_none {β : Binds} {post : Slots} {l : Sto} {n : Nat} : ∀ (σ : Sto) (q : Nat), (∀ i, i < σ.length → ofind β (q + i) 0 n = none) → oOld β post l n q σ = σ
 | [], q, h => rfl
 | (nm, ob) :: σ, q, h => by
  unfold oOld
  have h0 := h 0 (by simp)
  rw [Nat.add_zero] at h0
  simp only [h0]
  rw [oOld_none σ (q + 1) (fun i hi => by have := h (i + 1) (by simpa using hi); rwa [show q + 1 + i = q + (i + 1) by omega])]
theorem acall_inv {C : Cx} {g : FuncId} {args : List AV} {σ : Sto} {nx : Nat} {Q : AOut → Sto → Nat → Prop} (h : (∃ (B : Base) (kn : Kn) (m : Mp) (w : World) (vs : List Value), Inv C B kn m σ nx w ∧ RelL kn m args vs) → ACall C g args σ nx Q) : ACall C g args σ nx Q :=
 fun B kn m w vs hI hr => h ⟨B, kn, m, w, vs, hI, hr⟩ B kn m w vs hI hr
theorem ccall_sound {C : Cx} {g : FuncId} {k : CSig} (hS : COK C g k) {as_ first caps : List AV} {σ : Sto} {nx : Nat} {x : Sh.denL k.args} {β0 β1 βf : Binds} {y : Sh.denL k.q.args} {o : denO k.q.pre} {r : OutD k.q.res.den k.q.pv.den × denO k.q.post} {a : k.res.den}
  (h0 : absL [] [] k.args as_ = some (x, β0)) (h1 : absL k.q.pre [] k.q.args (first ++ caps) = some (y, β1)) (h2 : absOs k.q.pre σ β1 0 k.q.pre = some (o, βf)) (hf : k.q.f (y, o) = some r) (hgo : k.go x = true) (ha : k.f x r.1 = some a) (hns : anySk k.q.pre = false) :
  ACall C g (as_ ++ [.fn (.func k.g) first caps]) σ nx (fun out σ' nx' => out = .ret (patV ρ0 k.res a) ∧ σ' = cBeh βf k.q r.2 σ nx k.nb ∧ nx' = nx + k.nb + k.q.post.length + dD k r.1) := by
 refine acall_inv fun ⟨B, kn, m, w, vs, hI, hr⟩ => ?_
 obtain ⟨us, ws, rfl, hr1, hr2⟩ := RelL.append_iff.1 hr
 obtain ⟨hq, hkp, _, hC⟩ := hS
 have hqok := hq.1
 simp only [QSig.ok, Bool.and_eq_true] at hqok
 have hkeep := hqok.2.1
 have hall := hqok.1.1
 obtain ⟨fv, fws, rfl, hfn, hws⟩ := hr2.uncons
 obtain ⟨fus, cus, hc1, hc2, _⟩ := rel_fn_conv (m' := m) (a' := first) (b' := caps) hfn
 obtain ⟨b1, b2⟩ := absL_ok (kn := kn) (m := m) (os := k.q.pre) k.q.args [] β1 (first ++ caps) y h1
 have hv1 : VB m k.q.pre β1 := (b2 (fus ++ cus) (hc1.append hc2)).1 ⟨fun j b e => by simp [bget] at e, fun j p nm e => by simp [bget] at e, fun j j' p nm nm' e => by simp [bget] at e⟩
 obtain ⟨_, _, _, _, hat, _, _, _⟩ := norm_core (allNew_get hall) h2 hv1 hI
 have hof : ∀ i, ofind βf (σ.length + i) 0 k.q.pre.length = none := fun i => by
  cases hx : ofind βf (σ.length + i) 0 k.q.pre.length with
  | none => rfl
  | some j =>
   obtain ⟨nm, hb⟩ := ofind_some hx
   obtain ⟨_, _, ob, loc, h5, _⟩ := hat j _ nm hb
   have := (List.getElem?_eq_some_iff.1 h5).1
   omega
 have hargs : ACall C g (patL ρ0 k.args x ++ [.fn (.func k.g) first caps]) σ nx (fun out σ' nx' => out = .ret (patV ρ0 k.res a) ∧ σ' = cBeh βf k.q r.2 σ nx k.nb ∧ nx' = nx + k.nb + k.q.post.length + dD k r.1) := by
  refine hC x r.1 a (oPl (σ.length + k.nb) (nx + k.nb) βf k.q.post r.2) first caps σ _ nx hgo ha (oOld_len _ _) fun zs hz => ?_
  refine ⟨oNew βf k.q.post (nx + k.nb) 0 (patOs (oPl (σ ++ zs).length (nx + k.nb) βf k.q.post r.2) (fun j => j) 0 k.q.post r.2), ?_⟩
  have hcall := qcall_sound (nx := nx + k.nb) hq h1 (absOs_append (τ := zs) _ _ _ _ h2) hf (fun e => by rw [hns] at e; cases e)
  refine hcall.mono fun out σ' nx' ⟨e1, e2, e3⟩ => ?_
  have hL : (σ ++ zs).length = σ.length + k.nb := by rw [List.length_append, hz]
  rw [hL] at e1
  refine ⟨e1, ?_, e3⟩
  rw [e2]
  unfold oBeh
  rw [oOld_append, List.append_assoc, hL, Nat.zero_add, oOld_none zs σ.length (fun i _ => hof i)]
  rfl
 exact fun B kn m w vs hI hr => by
  obtain ⟨us, ws, rfl, hr1, hr2⟩ := RelL.append_iff.1 hr
  exact hargs B kn m w _ hI ((sig_args h0 hr1 ρ0).append hr2)
theorem yocall_sound {C : Cx} {tt : Bool} {g : FuncId} {R : Type} {Kr KP : AV → Sto → Nat → Option R} {ags : List AV} {r : R} {σ : Sto} {nx : Nat} {K' KP' : AV → Sto → Nat → Prop} (hk : ∀ v σ' nx', Kr v σ' nx' = some r → K' v σ' nx') (hkp : ∀ v σ' nx', KP v σ' nx' = some r → KP' v σ' nx') :
  ∀ l : List Sig, (∀ s ∈ l, SigOK C g s) → yocall tt Kr KP ags σ nx l = some r → CallP C true tt g ags σ nx K' KP'
 | [], hs, h => by cases h
 | .n _ _ _ :: l, hs, h => yocall_sound hk hkp l (fun s hs' => hs s (by simp [hs'])) h
 | .p _ _ _ _ :: l, hs, h => yocall_sound hk hkp l (fun s hs' => hs s (by simp [hs'])) h
 | .d _ _ _ _ :: l, hs, h => yocall_sound hk hkp l (fun s hs' => hs s (by simp [hs'])) h
 | .o s :: l, hs, h => by
  simp only [yocall] at h
  split at h
  ·rename_i x β1 hx
   split at h
   ·rename_i o βf ho
    obtain ⟨y, hy, h⟩ := Option.bind_eq_some_iff.1 h
    have hh : OOK C g s := hs (.o s) (by simp)
    obtain ⟨ho, hno⟩ := absOsN_ok ho
    refine ⟨_, ocall_sound hh hx ho hy hno, fun v σ' nx' q => ?_, (fun v σ' nx' q => by cases q.1), .inr ⟨_, _, _, rfl, rfl, rfl⟩, .inl rfl⟩
    obtain ⟨q1, q2, q3⟩ := q
    cases q1; subst q2; subst q3
    exact hk _ _ _ h
   ·exact yocall_sound hk hkp l (fun s hs' => hs s (by simp [hs'])) h
  ·exact yocall_sound hk hkp l (fun s hs' => hs s (by simp [hs'])) h
 | .q s :: l, hs, h => by
  simp only [yocall] at h
  split at h
  ·rename_i x β1 hx
   split at h
   ·rename_i o βf ho
    obtain ⟨⟨y, yo⟩, hy, h⟩ := Option.bind_eq_some_iff.1 h
    have hh : QOK C g s := hs (.q s) (by simp)
    obtain ⟨ho, hno⟩ := absOsN_ok ho
    have hc := qcall_sound (nx := nx) hh hx ho hy hno
    cases y with
    | ret a =>
     refine ⟨_, hc, fun v σ' nx' q => ?_, (fun v σ' nx' q => by cases q.1), .inr ⟨_, _, _, rfl, rfl, rfl⟩, .inl rfl⟩
     obtain ⟨q1, q2, q3⟩ := q
     cases q1; subst q2; subst q3
     exact hk _ _ _ h
    | pan b =>
     simp only at h
     split at h
     ·rename_i ht
      refine ⟨_, hc, (fun v σ' nx' q => by cases q.1), fun v σ' nx' q => ?_, .inl ht, .inl rfl⟩
      obtain ⟨q1, q2, q3⟩ := q
      cases q1; subst q2; subst q3
      exact hkp _ _ _ h
     ·cases h
   ·exact yocall_sound hk hkp l (fun s hs' => hs s (by simp [hs'])) h
  ·exact yocall_sound hk hkp l (fun s hs' => hs s (by simp [hs'])) h
 | .c k :: l, hs, h => by
  simp only [yocall] at h
  have ih := yocall_sound (Kr := Kr) (KP := KP) (ags := ags) (tt := tt) (σ := σ) (nx := nx) (g := g) (C := C) hk hkp l (fun s hs' => hs s (by simp [hs']))
  split at h
  ·rename_i as_ fv hsp
   split at h
   ·rename_i g' first caps hfv
    split at h
    ·rename_i hg
     have hg : g' = k.g := of_decide_eq_true hg
     split at h
     ·rename_i x β0 hx
      split at h
      ·rename_i y β1 hy
       split at h
       ·rename_i o βf ho
        have hh : COK C g k := hs (.c k) (by simp)
        obtain ⟨ho, hns⟩ := absOsC_ok ho
        have hags : ags = as_ ++ [.fn (.func k.g) first caps] := by rw [splitL_ok hsp, fnOf_ok hfv, hg]
        subst hags
        cases hgo : k.go x with
        | true =>
         rw [hgo] at h
         obtain ⟨⟨q, qo⟩, hq, h⟩ := Option.bind_eq_some_iff.1 (show ((k.q.f (y, o)).bind _) = some r from h)
         cases q with
         | ret a1 =>
          obtain ⟨a, ha, h⟩ := Option.bind_eq_some_iff.1 (show ((k.f x (.ret a1)).bind _) = some r from h)
          refine ⟨_, ccall_sound hh hx hy ho hq hgo ha hns, fun v σ' nx' q => ?_, (fun v σ' nx' q => by cases q.1), .inr ⟨_, _, _, rfl, rfl, rfl⟩, .inl rfl⟩
          obtain ⟨q1, q2, q3⟩ := q
          cases q1; subst q2; subst q3
          exact hk _ _ _ h
         | pan b1 =>
          obtain ⟨a, ha, h⟩ := Option.bind_eq_some_iff.1 (show ((k.f x (.pan b1)).bind _) = some r from h)
          refine ⟨_, ccall_sound hh hx hy ho hq hgo ha hns, fun v σ' nx' q => ?_, (fun v σ' nx' q => by cases q.1), .inr ⟨_, _, _, rfl, rfl, rfl⟩, .inl rfl⟩
          obtain ⟨q1, q2, q3⟩ := q
          cases q1; subst q2; subst q3
          exact hk _ _ _ h
        | false =>
         rw [hgo] at h
         have hcall := hh.2.2.1 x first caps σ nx hgo
         have hcall' : ACall C g (as_ ++ [.fn (.func k.g) first caps]) σ nx _ := fun B kn m w vs hI hr => by
          obtain ⟨us, ws, rfl, hr1, hr2⟩ := RelL.append_iff.1 hr
          exact hcall B kn m w _ hI ((sig_args hx hr1 ρ0).append hr2)
         refine ⟨_, hcall', fun v σ' nx' q => ?_, (fun v σ' nx' q => by cases q.1), .inr ⟨_, _, _, rfl, rfl, rfl⟩, .inl rfl⟩
         obtain ⟨q1, q2, q3⟩ := q
         cases q1; subst q2; subst q3
         exact hk _ _ _ h
       ·exact ih h
      ·exact ih h
     ·exact ih h
    ·exact ih h
   ·exact ih h
  ·exact ih h
theorem ycall_sound {C : Cx} {own tt : Bool} {g : FuncId} {R : Type} {Kr KP : AV → Option R} {ags : List AV} {r : R} {σ : Sto} {nx : Nat} {K' KP' : AV → Sto → Nat → Prop} (hf : RFL ags) (hk : ∀ v, Kr v = some r → K' v σ nx) (hp : ∀ v, KP v = some r → KP' v σ nx) :
  ∀ l : List Sig, (∀ s ∈ l, SigOK C g s) → ycall tt Kr KP ags l = some r → CallP C own tt g ags σ nx K' KP'
 | [], hs, h => by cases h
 | .n args res f :: l, hs, h => by
  simp only [ycall] at h
  split at h
  ·rename_i x β hx
   obtain ⟨y, hy, h⟩ := Option.bind_eq_some_iff.1 h
   have hh : ∀ x r, f x = some r → PCall C g (patL ρ0 args x) (· = .ret (patV ρ0 res r)) := hs (.n args res f) (by simp)
   refine callP_of hf (sig_pcall hx (hh x y hy)) (fun v e => ?_) (fun v e => by cases e)
   cases e; exact hk _ h
  ·exact ycall_sound hf hk hp l (fun s hs' => hs s (by simp [hs'])) h
 | .p args res pv f :: l, hs, h => by
  simp only [ycall] at h
  split at h
  ·rename_i x β hx
   obtain ⟨y, hy, h⟩ := Option.bind_eq_some_iff.1 h
   have hh : ∀ x o, f x = some o → PCall C g (patL ρ0 args x) (fun a => match o with
    | .ret r => a = .ret (patV ρ0 res r)
    | .pan => a = .pan pv) := hs (.p args res pv f) (by simp)
   have this := hh x y hy
   cases y with
   | ret r' =>
    refine callP_of hf (sig_pcall hx this) (fun v e => ?_) (fun v e => by cases e)
    cases e; exact hk _ h
   | pan =>
    simp only at h
    split at h
    ·rename_i ht
     refine callP_of hf (sig_pcall hx this) (fun v e => by cases e) (fun v' e => ?_)
     cases e; exact ⟨ht, hp _ h⟩
    ·cases h
  ·exact ycall_sound hf hk hp l (fun s hs' => hs s (by simp [hs'])) h
 | .d args res pv f :: l, hs, h => by
  simp only [ycall] at h
  split at h
  ·rename_i x β hx
   obtain ⟨y, hy, h⟩ := Option.bind_eq_some_iff.1 h
   have hh : ∀ x o, f x = some o → PCall C g (patL ρ0 args x) (· = outD ρ0 res pv o) := hs (.d args res pv f) (by simp)
   have this := hh x y hy
   cases y with
   | ret r' =>
    refine callP_of hf (sig_pcall hx this) (fun v e => ?_) (fun v e => by cases e)
    cases e; exact hk _ h
   | pan b =>
    simp only at h
    split at h
    ·rename_i ht
     refine callP_of hf (sig_pcall hx this) (fun v e => by cases e) (fun v' e => ?_)
     cases e; exact ⟨ht, hp _ h⟩
    ·cases h
  ·exact ycall_sound hf hk hp l (fun s hs' => hs s (by simp [hs'])) h
 | .o _ :: l, hs, h => ycall_sound hf hk hp l (fun s hs' => hs s (by simp [hs'])) h
 | .q _ :: l, hs, h => ycall_sound hf hk hp l (fun s hs' => hs s (by simp [hs'])) h
 | .c _ :: l, hs, h => ycall_sound hf hk hp l (fun s hs' => hs s (by simp [hs'])) h
abbrev Gd := Nat × Bool
abbrev Tags := List (Nat × Gd × Bool)
def tagOf : Tags → Nat → Option (Gd × Bool)
 | [], _ => none
 | (t', g) :: l, t => if t' = t then some g else tagOf l t
structure YS where
 env : List AV
 tags : Tags
 σ : Sto
 nx : Nat
def dstAt (ops : Array Oper) (j : Nat) : Option Nat := (ops[j]?).bind (·.dst)
def wantB (w b : Bool) : Bool := match w with
 | true => b
 | false => !b
def evalG (ops : Array Oper) (env : List AV) (tags : Tags) (g : Gd) : Option Bool :=
 match dstAt ops g.1 with
 | some t => match env.getD t .undef with
  | .bool b => match tagOf tags t with
   | none => some (wantB g.2 b)
   | some (_, e) => some (e && wantB g.2 b)
  | _ => none
 | none => none
def eqGd (a b : Gd) : Bool := Nat.beq a.1 b.1 && (wantB a.2 b.2)
theorem eqGd_sound {a b : Gd} (h : eqGd a b = true) : a = b := by
 obtain ⟨a1, a2⟩ := a
 obtain ⟨b1, b2⟩ := b
 simp only [eqGd, Bool.and_eq_true, Nat.beq_eq] at h
 obtain ⟨rfl, h⟩ := h
 cases a2 <;> cases b2 <;> simp_all [wantB]
def implG (ops : Array Oper) (tags : Tags) : Nat → Gd → Gd → Bool
 | 0, _, _ => false
 | f + 1, g, g' => eqGd g g' || match dstAt ops g.1 with
  | some t => match tagOf tags t with
   | some (g2, _) => implG ops tags f g2 g'
   | none => false
  | none => false
def okOp (ops : Array Oper) (tags : Tags) (g : Option Gd) : Operand → Bool
 | .tmp t => match tagOf tags t with
  | none => true
  | some (g', _) => match g with
   | some g => implG ops tags 8 g g'
   | none => false
 | _ => true
def okPick (ops : Array Oper) (tags : Tags) (g : Option Gd) (c : Operand) (w : Bool) (x : Operand) : Bool :=
 okOp ops tags g x || match x with
  | .tmp t => match tagOf tags t with
   | some (g', _) => match c with
    | .tmp tc => wantB w g'.2 && (match dstAt ops g'.1 with | some t' => Nat.beq t' tc | none => false)
    | _ => false
   | none => false
  | _ => false
def okDst (ops : Array Oper) (tags : Tags) (d : Nat) : Bool := tags.all fun q => match dstAt ops q.2.1.1 with
 | some t => !(Nat.beq t d)
 | none => true
def okG (ops : Array Oper) (g : Gd) (d : Nat) : Bool := match dstAt ops g.1 with
 | some t => !(Nat.beq t d)
 | none => true
def unTag (d : Nat) : Tags → Tags
 | [] => []
 | (t, q) :: l => if t = d then unTag d l else (t, q) :: unTag d l
theorem tagOf_unTag (d t : Nat) : ∀ l : Tags, tagOf (unTag d l) t = if t = d then none else tagOf l t
 | [] => by simp [unTag, tagOf]
 | (t', q) :: l => by
  simp only [unTag]
  split
  ·rename_i e
   subst e
   rw [tagOf_unTag t' t l]
   by_cases h : t = t'
   ·simp [h]
   ·rw [if_neg h, if_neg h]
    simp only [tagOf]
    rw [if_neg (fun e => h e.symm)]
  ·rename_i e
   simp only [tagOf]
   rw [tagOf_unTag d t l]
   by_cases h : t' = t
   ·subst h; simp [e]
   ·rw [if_neg h, if_neg h]
def YS.put (ops : Array Oper) (s : YS) (dst : Option Nat) (v : AV) (q : Option (Gd × Bool)) (σ : Sto) (nx : Nat) : Option YS :=
 match dst with
 | none => some ⟨s.env, s.tags, σ, nx⟩
 | some d => if (Nat.blt d s.env.length && okDst ops s.tags d) = true then (match q with
  | none => some ⟨s.env.set d v, unTag d s.tags, σ, nx⟩
  | some (g, e) => if okG ops g d = true then some ⟨s.env.set d v, (d, g, e) :: unTag d s.tags, σ, nx⟩ else none) else none
structure Ref (ops : Array Oper) (s : YS) (aenv : Nat → AV) : Prop where
 plain : ∀ t, tagOf s.tags t = none → aenv t = xenv s.env t
 tag : ∀ t g e, tagOf s.tags t = some (g, e) → (e = true → aenv t = xenv s.env t) ∧ (e = false → aenv t = .undef) ∧ evalG ops s.env s.tags g = some e
 lt : ∀ t q, tagOf s.tags t = some q → t < s.env.length
section
variable {ops : Array Oper} {s : YS} {aenv : Nat → AV} {C : Cx}
theorem Ref.wanted (hR : Ref ops s aenv) {o : Oper} {g : Gd} {e : Bool} (hg : o.guard = some g) (he : evalG ops s.env s.tags g = some e) : wantedA ops aenv o = some e := by
 unfold wantedA
 obtain ⟨j, w⟩ := g
 rw [hg]
 unfold evalG dstAt at he
 simp only at he ⊢
 split at he
 ·rename_i t ht
  rw [ht]
  simp only
  split at he
  ·rename_i b hb
   have hb' : xenv s.env t = .bool b := hb
   split at he
   ·rename_i htag
    cases he
    rw [hR.plain t htag, hb']
    cases w <;> cases b <;> rfl
   ·rename_i g2 e2 htag
    cases he
    obtain ⟨h1, h2, _⟩ := hR.tag t g2 e2 htag
    cases e2 with
    | true => rw [h1 rfl, hb']; cases w <;> cases b <;> rfl
    | false => rw [h2 rfl]; rfl
  ·cases he
 ·cases he
theorem Ref.impl (hR : Ref ops s aenv) : ∀ (f : Nat) (g g' : Gd) (e' : Bool), implG ops s.tags f g g' = true → evalG ops s.env s.tags g = some true → evalG ops s.env s.tags g' = some e' → e' = true
 | 0, _, _, _, h, _, _ => by cases h
 | f + 1, g, g', e', h, h1, h2 => by
  simp only [implG, Bool.or_eq_true] at h
  rcases h with h | h
  ·have := eqGd_sound h
   subst this
   rw [h1] at h2; cases h2; rfl
  ·split at h
   ·rename_i t ht
    split at h
    ·rename_i g2 e2 htag
     obtain ⟨_, _, h3⟩ := hR.tag t g2 e2 htag
     have : e2 = true := by
      unfold evalG at h1
      rw [ht] at h1
      simp only at h1
      split at h1
      ·rw [htag] at h1
       simp only [Option.some.injEq, Bool.and_eq_true] at h1
       exact h1.1
      ·cases h1
     subst this
     exact Ref.impl hR f g2 g' e' h h3 h2
    ·cases h
   ·cases h
theorem Ref.opv (hR : Ref ops s aenv) {g : Option Gd} {x : Operand} (hx : okOp ops s.tags g x = true) (hg : ∀ g', g = some g' → evalG ops s.env s.tags g' = some true) : opv C aenv x = opv C (xenv s.env) x := by
 cases x with
 | tmp t =>
  show aenv t = xenv s.env t
  unfold okOp at hx
  simp only at hx
  split at hx
  ·rename_i h; exact hR.plain t h
  ·rename_i g' e' htag
   split at hx
   ·rename_i g1
    obtain ⟨h1, _, h3⟩ := hR.tag t g' e' htag
    exact h1 (hR.impl 8 g1 g' e' hx (hg g1 rfl) h3)
   ·cases hx
 | _ => rfl
theorem okDst_spec {d : Nat} {tags : Tags} (h : okDst ops tags d = true) {t : Nat} {g : Gd} {e : Bool} (ht : tagOf tags t = some (g, e)) : dstAt ops g.1 ≠ some d := by
 have hm : ∃ q ∈ tags, q.2 = (g, e) := by
  clear h
  induction tags with
  | nil => cases ht
  | cons q l ih =>
   obtain ⟨t', q'⟩ := q
   simp only [tagOf] at ht
   split at ht
   ·cases ht; exact ⟨(t', g, e), by simp, rfl⟩
   ·obtain ⟨q2, h1, h2⟩ := ih ht; exact ⟨q2, by simp [h1], h2⟩
 obtain ⟨q, hq, e'⟩ := hm
 have := List.all_eq_true.1 h q hq
 rw [e'] at this
 intro hh
 simp only [hh] at this
 simp at this
theorem evalG_set {env : List AV} {tags tags' : Tags} {d : Nat} {v : AV} {g : Gd} (hd : dstAt ops g.1 ≠ some d) (ht : ∀ t, t ≠ d → tagOf tags' t = tagOf tags t) : evalG ops (env.set d v) tags' g = evalG ops env tags g := by
 unfold evalG
 cases hs : dstAt ops g.1 with
 | none => rfl
 | some t =>
  have hne : t ≠ d := fun e => hd (by rw [hs, e])
  have : (env.set d v).getD t .undef = env.getD t .undef := by
   simp only [List.getD_eq_getElem?_getD, List.getElem?_set_ne (Ne.symm hne)]
  simp only [this, ht t hne]
theorem xenv_set {env : List AV} {d : Nat} {v : AV} (h : d < env.length) : xenv (env.set d v) = upd (xenv env) d v := by
 funext t
 show (env.set d v).getD t .undef = if t = d then v else env.getD t .undef
 simp only [List.getD_eq_getElem?_getD, List.getElem?_set]
 by_cases ht : t = d
 ·subst ht; simp [h]
 ·rw [if_neg ht, if_neg (fun e => ht e.symm)]
def QOk (ops : Array Oper) (s : YS) : Option (Gd × Bool) → AV → AV → Prop
 | none, av, v => av = v
 | some (g, e), av, v => evalG ops s.env s.tags g = some e ∧ (e = true → av = v) ∧ (e = false → av = .undef)
theorem Ref.put (hR : Ref ops s aenv) {dst : Option Nat} {v : AV} {q : Option (Gd × Bool)} {σ : Sto} {nx : Nat} {s' : YS} (h : s.put ops dst v q σ nx = some s') {av : AV}
  (hq : QOk ops s q av v) :
  Ref ops s' (updo aenv dst av) ∧ s'.σ = σ ∧ s'.nx = nx := by
 cases dst with
 | none => cases h; exact ⟨⟨hR.plain, hR.tag, hR.lt⟩, rfl, rfl⟩
 | some d =>
  simp only [YS.put] at h
  split at h
  ·rename_i hc
   rw [Bool.and_eq_true, Nat.blt_eq] at hc
   obtain ⟨hlt, hok⟩ := hc
   cases q with
   | none =>
    cases h
    have hq : av = v := hq
    refine ⟨⟨fun t ht => ?_, fun t g e ht => ?_, fun t q ht => ?_⟩, rfl, rfl⟩
    ·show (if t = d then av else aenv t) = xenv (s.env.set d v) t
     rw [xenv_set hlt]
     simp only [upd]
     split
     ·exact hq
     ·rename_i hne
      simp only at ht
      rw [tagOf_unTag, if_neg hne] at ht
      exact hR.plain t ht
    ·simp only at ht
     rw [tagOf_unTag] at ht
     split at ht
     ·cases ht
     ·rename_i hne
      obtain ⟨h1, h2, h3⟩ := hR.tag t g e ht
      refine ⟨fun he => ?_, fun he => ?_, ?_⟩
      ·show (if t = d then av else aenv t) = xenv (s.env.set d v) t
       rw [xenv_set hlt]; simp only [upd]; rw [if_neg hne, if_neg hne]; exact h1 he
      ·show (if t = d then av else aenv t) = _
       rw [if_neg hne]; exact h2 he
      ·show evalG ops (s.env.set d v) (unTag d s.tags) g = some e
       rw [evalG_set (tags := s.tags) (okDst_spec hok ht) (fun t ht => by rw [tagOf_unTag, if_neg ht])]; exact h3
    ·simp only at ht ⊢
     rw [tagOf_unTag] at ht
     split at ht
     ·cases ht
     ·rw [List.length_set]; exact hR.lt t q ht
   | some q =>
    obtain ⟨g0, e0⟩ := q
    obtain ⟨q1, q2, q3⟩ := hq
    simp only at h
    split at h
    ·rename_i hgd
     have hgd' : dstAt ops g0.1 ≠ some d := fun e => by unfold okG at hgd; rw [e] at hgd; simp at hgd
     cases h
     have htg : ∀ t, t ≠ d → tagOf ((d, g0, e0) :: unTag d s.tags) t = tagOf s.tags t := fun t ht => by
      simp only [tagOf]
      rw [if_neg (fun e => ht e.symm), tagOf_unTag, if_neg ht]
     refine ⟨⟨fun t ht => ?_, fun t g e ht => ?_, fun t q ht => ?_⟩, rfl, rfl⟩
     ·by_cases hne : t = d
      ·subst hne; simp [tagOf] at ht
      ·show (if t = d then av else aenv t) = xenv (s.env.set d v) t
       rw [xenv_set hlt]; simp only [upd]; rw [if_neg hne, if_neg hne]
       exact hR.plain t (by rw [← htg t hne]; exact ht)
     ·by_cases hne : t = d
      ·subst hne
       simp only [tagOf, if_true, Option.some.injEq, Prod.mk.injEq] at ht
       obtain ⟨rfl, rfl⟩ := ht
       refine ⟨fun he => ?_, fun he => ?_, ?_⟩
       ·show (if t = t then av else aenv t) = xenv (s.env.set t v) t
        rw [xenv_set hlt]; simp only [upd, if_true]; exact q2 he
       ·show (if t = t then av else aenv t) = _
        rw [if_pos rfl]; exact q3 he
       ·show evalG ops (s.env.set t v) _ g0 = some e0
        rw [evalG_set hgd' htg]; exact q1
      ·have ht' : tagOf s.tags t = some (g, e) := by rw [← htg t hne]; exact ht
       obtain ⟨h1, h2, h3⟩ := hR.tag t g e ht'
       refine ⟨fun he => ?_, fun he => ?_, ?_⟩
       ·show (if t = d then av else aenv t) = xenv (s.env.set d v) t
        rw [xenv_set hlt]; simp only [upd]; rw [if_neg hne, if_neg hne]; exact h1 he
       ·show (if t = d then av else aenv t) = _
        rw [if_neg hne]; exact h2 he
       ·show evalG ops (s.env.set d v) _ g = some e
        rw [evalG_set (okDst_spec hok ht') htg]; exact h3
     ·show t < (s.env.set d v).length
      rw [List.length_set]
      by_cases hne : t = d
      ·subst hne; exact hlt
      ·exact hR.lt t q (by rw [← htg t hne]; exact ht)
    ·cases h
  ·cases h
end
end Go.Ab
