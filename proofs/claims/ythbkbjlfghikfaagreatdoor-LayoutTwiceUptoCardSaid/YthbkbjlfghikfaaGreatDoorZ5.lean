/-
  CONTRACTS OF CALLS over abstract values; one operation of a region, whatever its kind, is sound.
-/
import Derived.Test.YthbkbjlfghikfaaGreatDoorZ4
set_option linter.unusedVariables false
set_option linter.unusedSimpArgs false
namespace Go.Ab
open Go Go.RowKit
section
variable {C : Cx} {B : Base} {kn : Kn} {m : Mp} {σ : Sto} {nx : Nat} {w : World}
theorem map_row_len {e : E} {l : List e.den} {k : Nat} {row : List AV} (h : (l.map e.row)[k]? = some row) : row.length = e.size := by
 obtain ⟨y, _, rfl⟩ := List.mem_map.1 (List.mem_of_getElem? h)
 exact E.row_len _ _
theorem base_row {rv : List Value} {k : Nat} {row : List AV} (h : (rv.map fun v => [AV.base v])[k]? = some row) : ∃ v, row = [AV.base v] := by
 obtain ⟨y, _, rfl⟩ := List.mem_map.1 (List.mem_of_getElem? h)
 exact ⟨y, rfl⟩
theorem any_row {row : List AV} {us : List Value} (h : row.length = 1) (hu : RelL kn m row us) : RelL kn m [.any] us := by
 refine ⟨by rw [← hu.1, h]; rfl, fun k x v hx _ => ?_⟩
 cases k with
 | zero => simp at hx; subst hx; exact .any _
 | succ k => simp at hx
theorem sref_slc {h q esz len : Nat} {v : Value} {loc : Loc} (hv : Rel kn m (.sref h q esz 0 len) v) (hm : m q = some loc) (hl : loc.len = len) : v = slcOf loc := by
 cases hv with
 | srefNil _ _ _ loc' hm' hn => rw [hm] at hm'; cases hm'; exact (slcOf_nil hn).symm
 | sref _ _ _ _ _ loc' hm' hn he hc hle =>
  rw [hm] at hm'; cases hm'
  rw [slcOf_some hn, hl]; simp
theorem gs_slc {h q len : Nat} {e : E} {v : Value} (hv : Rel kn m (.gs h q e len) v) : ∃ loc, m q = some loc ∧ loc.len = len ∧ v = slcOf loc := by
 cases hv with
 | gs _ _ _ _ _ loc hm hl hr => exact ⟨loc, hm, hl, sref_slc hr hm hl⟩
theorem gs_of_gv {h nm ety : Nat} {e : E} {rows : List (List AV)} {loc : Loc} (hg : GvRel kn m w nm e.size ety rows) (hm : m nm = some loc) (h62 : rows.length ≤ 2 ^ 62) : Rel kn m (.gs h nm e rows.length) (slcOf loc) := by
 have hll : loc.len = rows.length := by obtain ⟨loc', hm', hl, _⟩ := hg; rw [hm] at hm'; cases hm'; exact hl
 refine .gs _ _ _ _ _ loc hm hll ?_
 cases hn : loc.nil with
 | true =>
  have := hg.nilRows hm hn
  subst this
  rw [slcOf_nil hn]
  exact .srefNil _ _ _ loc hm hn
 | false =>
  obtain ⟨_, he, arr, hw, hsz, hle, _⟩ := hg.get hm hn
  have := Rel.sref (kn := kn) h nm e.size 0 rows.length loc hm hn he (by simpa using hle) h62
  rw [slcOf_some hn, hll]
  simpa using this
theorem bk_slc {loc : Loc} {b : Nat} (h : bkOf (slcOf loc) = some b) : loc.nil = false ∧ b = loc.blk := by
 cases hn : loc.nil with
 | true => rw [slcOf_nil hn] at h; cases h
 | false => rw [slcOf_some hn] at h; cases h; exact ⟨rfl, rfl⟩
def knSeal (kn : Kn) (loc : Loc) (n : Nat) (w : World) : Kn := fun b o => if loc.nil = false ∧ b = loc.blk ∧ loc.off ≤ o ∧ o < loc.off + n then w.cell? ⟨b, o, none⟩ else kn b o
theorem hand_row {q : Nat} {e : E} {r ys : List e.den} {loc : Loc} (hH : HandRel kn m w q e r ys) (hm : m q = some loc) (how : loc.nil = false → Ow B loc.blk) (hle : KnLe kn (knSeal kn loc ((r ++ ys).length * e.size) w)) : RowV B (knSeal kn loc ((r ++ ys).length * e.size) w) w e (r ++ ys) (slcOf loc) := by
 obtain ⟨ty, hg, hs0, h62, hb⟩ := hH
 cases hn : loc.nil with
 | true =>
  have := hg.nilRows hm hn
  exact .inl ⟨by simpa using this, slcOf_nil hn⟩
 | false =>
  obtain ⟨hne, hb⟩ := hb loc hm hn
  obtain ⟨hll, hez, arr, hw, hsz, hlc, hmx, hone, hrl, hrr⟩ := hg.get hm hn
  rw [List.length_map] at hll hlc
  refine .inr ⟨hne, hs0, loc.blk, loc.off, loc.cap, arr, ty, by rw [slcOf_some hn, hll], hw, hsz, hlc, hmx, by rw [List.length_append]; exact h62, hone, fun i row j x u a b c => ⟨fun m1 => ?_, ?_⟩, fun o' ho => ?_, how hn⟩
  ·have h1 := (hrr i row j x u a b c).mono hle (MpLe.refl m)
   exact h1.rf ((E.rows_rf e (r ++ ys) |> fun h => (RFLL_iff _).1 h row (List.mem_of_getElem? a)).get b) m1
  ·have hi : i < (r ++ ys).length := by have := (List.getElem?_eq_some_iff.1 a).1; simpa using this
   have hj : j < e.size := by
    have := hrl i row a
    rw [← this]; exact (List.getElem?_eq_some_iff.1 b).1
   have hlt := idx_lt hi hj
   unfold knSeal
   rw [if_pos ⟨hn, rfl, by omega, by omega⟩]
   simp only [World.cell?, hw]
   simpa using c
  ·unfold knSeal
   rw [if_neg (fun hh => by omega)]
   refine hb o' ?_
   rw [List.length_append, Nat.add_mul] at ho
   omega
theorem knSeal_ok {loc : Loc} {n : Nat} (h : ∀ b o v, kn b o = some v → w.cell? ⟨b, o, none⟩ = some v) : (KnLe kn (knSeal kn loc n w)) ∧ ∀ b o v, knSeal kn loc n w b o = some v → w.cell? ⟨b, o, none⟩ = some v := by
 refine ⟨fun b o v e => ?_, fun b o v e => ?_⟩
 ·unfold knSeal
  split
  ·exact h b o v e
  ·exact e
 ·unfold knSeal at e
  split at e
  ·exact e
  ·exact h b o v e
theorem knSeal_ne {loc : Loc} {n b : Nat} (h : loc.nil = false → loc.blk ≠ b) : knSeal kn loc n w b = kn b := by
 funext o
 unfold knSeal
 rw [if_neg (fun hh => h hh.1 hh.2.1.symm)]
theorem isOut_ne {i j h q : Nat} {b : Bool} (hj : ¬ i = j) : isOut (.out i h q b) j = false := by
 show Nat.beq i j = false
 cases hb : Nat.beq i j with
 | false => rfl
 | true => exact absurd (Nat.eq_of_beq_eq_true hb) hj
theorem isOut_self {i h q : Nat} {b : Bool} : isOut (.out i h q b) i = true := Nat.beq_refl i
theorem Inv.sealT (hI : Inv C B kn m σ nx w) {p h nm q i ps ety : Nat} {e : E} {l : List (List e.den)} {pe : Bool} {r ys : List e.den} (hne : p ≠ h) (hp : σ[p]? = some (nm, .stk e ety l (.out i h q false))) (hh : σ[h]? = some (q, .hand e ps pe r ys)) (hil : i < l.length) :
  ∃ kn', KnLe kn kn' ∧ Inv C B kn' m ((σ.set p (nm, .stk e ety (l.set i (r ++ ys)) .no)).set h (q, .none)) nx w ∧ Keep m σ nx m ((σ.set p (nm, .stk e ety (l.set i (r ++ ys)) .no)).set h (q, .none)) nx := by
 have hS := hI.obj _ _ _ hp
 have hH : HandRel kn m w q e r ys := hI.obj _ _ _ hh
 obtain ⟨rv, hgv, hrl, hrows, hdist, locq, hq, hrv⟩ := hS
 obtain ⟨loc1, hm1, _⟩ := id hgv
 obtain ⟨k1, k2⟩ := knSeal_ok (loc := locq) (n := (r ++ ys).length * e.size) hI.knok
 have how : locq.nil = false → Ow B locq.blk := fun hn => (hI.own h q _ locq hh trivial hq hn).2.1
 refine ⟨knSeal kn locq ((r ++ ys).length * e.size) w, k1, hI.two hne hp hh rfl trivial k1 (fun _ _ => rfl) (Nat.le_refl _) hI.dom (.inl rfl) (Nat.le_refl _) rfl rfl rfl (fun b _ _ hb => ⟨rfl, knSeal_ne (hb locq hq)⟩) k2 ?_ trivial ⟨loc1, hm1⟩ ⟨locq, hq⟩ (fun loc hm hn o => ?_) (fun hl => hl.elim) rfl rfl⟩
 ·refine ⟨rv, hgv.mono k1 (fun _ _ _ => rfl), by rw [List.length_set]; exact hrl, fun j r' v _ a b => ?_, hdist, trivial⟩
  rw [List.getElem?_set] at a
  by_cases hj : i = j
  ·subst hj
   rw [if_pos rfl, if_pos hil] at a
   cases a
   rw [hrv] at b; cases b
   exact hand_row hH hq how k1
  ·rw [if_neg hj] at a
   refine (hrows j r' v (isOut_ne hj) a b).mono k1 (fun b' hb _ => ⟨rfl, knSeal_ne (fun hn eb => ?_)⟩)
   have h1 := hdist j i v (slcOf locq) (fun x => hj x.symm) b hrv (by rw [hb, slcOf_some hn, ← eb]; rfl)
   rw [hb] at h1; cases h1
 ·rw [knSeal_ne (fun hn' => hI.dist h q _ locq p nm _ loc hh hp trivial trivial hq hm hn' hn (fun x => hne x.symm))]
  exact (hI.own p nm _ loc hp trivial hm hn).2.2 rfl o
theorem Inv.addHand (hI : Inv C B kn m σ nx w) {ob : AObj} {loc : Loc} (hx : isHand ob = true) (hob : ObjRel C.P B kn (mput m nx loc) w nx ob) (hbk : loc.nil = false → loc.blk < w.heap.size ∧ Ow B loc.blk ∧ (∃ o v, kn loc.blk o = some v) ∧ ∀ (p nm : Nat) (ob' : AObj), σ[p]? = some (nm, ob') → isHand ob' = false) :
  Inv C B kn (mput m nx loc) (σ ++ [(nx, ob)]) (nx + 1) w ∧ Keep m σ nx (mput m nx loc) (σ ++ [(nx, ob)]) (nx + 1) := by
 have hmle : MpLe m (mput m nx loc) := mple_put hI _
 have hlo : live ob := live_hand hx
 have hns : isStk ob = false := by cases ob <;> first | rfl | cases hx
 have hget : ∀ (p' nm' : Nat) (ob'' : AObj), (σ ++ [(nx, ob)])[p']? = some (nm', ob'') → (p' = σ.length ∧ nm' = nx ∧ ob'' = ob) ∨ (p' ≠ σ.length ∧ σ[p']? = some (nm', ob'')) := fun p' nm' ob'' e => by
  rcases Nat.lt_trichotomy p' σ.length with h | h | h
  ·rw [List.getElem?_append_left h] at e; exact .inr ⟨by omega, e⟩
  ·subst h; rw [List.getElem?_append_right (Nat.le_refl _)] at e; simp at e; exact .inl ⟨rfl, e.1.symm, e.2.symm⟩
  ·rw [List.getElem?_eq_none (by simp; omega)] at e; cases e
 have hfar : loc.nil = false → ∀ (p' nm' : Nat) (ob'' : AObj) (l : Loc), σ[p']? = some (nm', ob'') → live ob'' → m nm' = some l → l.nil = false → l.blk ≠ loc.blk := fun hn p' nm' ob'' l e hl hm hln eb => by
  obtain ⟨_, _, ⟨o, v, hk⟩, hno⟩ := hbk hn
  have := (hI.own p' nm' ob'' l e hl hm hln).2.2 (hno _ _ _ e) o
  rw [eb, hk] at this; cases this
 refine ⟨⟨hI.knok, hI.size, hI.os, hI.tape, hI.output, hI.old, fun p' nm' ob'' e => ?_, fun p' nm' ob'' l e hl' hm' hn' => ?_, fun p1 n1 o1 l1 p2 n2 o2 l2 e1 e2 v1 v2 m1 m2 hn1 hn2 hne => ?_, fun n hn => ?_, fun p' nm' ob'' e => ?_, fun p1 p2 n1 o1 o2 e1 e2 => ?_, fun p1 p2 n1 n2 o1 o2 e1 e2 s1 s2 => ?_, fun g => (hI.glob g).mono (KnLe.refl _) hmle, hI.tab⟩,
  ⟨Nat.le_succ _, fun n hn => mput_ne _ _ _ _ (by omega), fun p' nm' ob'' e e' => by rw [List.getElem?_append_left (List.getElem?_eq_some_iff.1 e).1]; exact e⟩⟩
 ·rcases hget p' nm' ob'' e with ⟨rfl, rfl, rfl⟩ | ⟨hne, e'⟩
  ·exact hob
  ·exact (hI.obj p' nm' ob'' e').mono_m (mput_ne _ _ _ _ (by have := hI.lt _ _ _ e'; omega)) hmle
 ·rcases hget p' nm' ob'' e with ⟨rfl, rfl, rfl⟩ | ⟨hne, e'⟩
  ·rw [mput_same] at hm'; cases hm'
   obtain ⟨a, b, _⟩ := hbk hn'
   exact ⟨a, b, fun h => by rw [hx] at h; cases h⟩
  ·rw [mput_ne _ _ _ _ (by have := hI.lt p' nm' ob'' e'; omega)] at hm'
   exact hI.own p' nm' ob'' l e' hl' hm' hn'
 ·rcases hget p1 n1 o1 e1 with ⟨rfl, rfl, rfl⟩ | ⟨h1, e1'⟩
  ·rcases hget p2 n2 o2 e2 with ⟨rfl, rfl, rfl⟩ | ⟨h2, e2'⟩
   ·exact absurd rfl hne
   ·rw [mput_same] at m1; cases m1
    rw [mput_ne _ _ _ _ (by have := hI.lt p2 n2 o2 e2'; omega)] at m2
    exact fun h => hfar hn1 p2 n2 o2 l2 e2' v2 m2 hn2 h.symm
  ·rw [mput_ne _ _ _ _ (by have := hI.lt p1 n1 o1 e1'; omega)] at m1
   rcases hget p2 n2 o2 e2 with ⟨rfl, rfl, rfl⟩ | ⟨h2, e2'⟩
   ·rw [mput_same] at m2; cases m2
    exact hfar hn2 p1 n1 o1 l1 e1' v1 m1 hn1
   ·rw [mput_ne _ _ _ _ (by have := hI.lt p2 n2 o2 e2'; omega)] at m2
    exact hI.dist p1 n1 o1 l1 p2 n2 o2 l2 e1' e2' v1 v2 m1 m2 hn1 hn2 hne
 ·rw [mput_ne _ _ _ _ (by omega)]; exact hI.dom n (by omega)
 ·rcases hget p' nm' ob'' e with ⟨_, rfl, _⟩ | ⟨hne, e'⟩
  ·omega
  ·have := hI.lt p' nm' ob'' e'; omega
 ·rcases hget p1 n1 o1 e1 with ⟨rfl, rfl, _⟩ | ⟨h1, e1'⟩
  ·rcases hget p2 _ o2 e2 with ⟨rfl, _, _⟩ | ⟨h2, e2'⟩
   ·rfl
   ·have := hI.lt _ _ _ e2'; omega
  ·rcases hget p2 n1 o2 e2 with ⟨rfl, rfl, _⟩ | ⟨h2, e2'⟩
   ·have := hI.lt _ _ _ e1'; omega
   ·exact hI.uniq p1 p2 n1 o1 o2 e1' e2'
 ·rcases hget p1 n1 o1 e1 with ⟨rfl, rfl, rfl⟩ | ⟨h1, e1'⟩
  ·rw [hns] at s1; cases s1
  ·rcases hget p2 n2 o2 e2 with ⟨rfl, rfl, rfl⟩ | ⟨h2, e2'⟩
   ·rw [hns] at s2; cases s2
   ·exact hI.stk1 _ _ _ _ _ _ e1' e2' s1 s2
theorem noHand_ok : ∀ {σ : Sto}, noHand σ = true → ∀ (p nm : Nat) (ob : AObj), σ[p]? = some (nm, ob) → isHand ob = false
 | [], _, p, nm, ob, e => by simp at e
 | (n, o) :: l, h, p, nm, ob, e => by
  simp only [noHand, Bool.and_eq_true, Bool.not_eq_true'] at h
  cases p with
  | zero => simp at e; rw [← e.2]; exact h.1
  | succ p => exact noHand_ok h.2 p nm ob (by simpa using e)
theorem noStk_ok : ∀ {σ : Sto}, noStk σ = true → ∀ (p nm : Nat) (ob : AObj), σ[p]? = some (nm, ob) → isStk ob = false
 | [], _, p, nm, ob, e => by simp at e
 | (n, o) :: l, h, p, nm, ob, e => by
  simp only [noStk, Bool.and_eq_true, Bool.not_eq_true'] at h
  cases p with
  | zero => simp at e; rw [← e.2]; exact h.1
  | succ p => exact noStk_ok h.2 p nm ob (by simpa using e)
theorem stkRd_sound (hI : Inv C B kn m σ nx w) {T : TypeId} {a x : AV} {av : Value} {σ' : Sto} {nx' : Nat} (h : stkRd C.P T σ nx a = some (x, σ', nx')) (ha : Rel kn m a av) :
  ∃ u m', (Instr.loadAt T av).run C.P w = .ok u w ∧ Rel kn m' x u ∧ Inv C B kn m' σ' nx' w ∧ Keep m σ nx m' σ' nx' := by
 unfold stkRd at h
 split at h
 ·rename_i p nm i
  split at h
  ·rename_i e ety l hs
   split at h
   ·rename_i hc
    obtain ⟨hil, hagg, hs0, hnh⟩ := hc
    cases h
    have hp := sget_some hs
    cases ha with
    | eref _ _ _ _ loc hm =>
     obtain ⟨rv, hgv, hrl, hrows, hdist, _⟩ := hI.obj _ _ _ hp
     have hir : i < rv.length := by rw [hrl]; exact hil
     obtain ⟨b, o, vs, hv, hvs, hlen', hcell, hone⟩ := GvRel.row hgv hm (i := i) (row := [AV.base (rv[i]'hir)]) (by simp [stkRows, hir])
     have hload : loadC C.P T [AV.base (rv[i]'hir)] = some (.base (rv[i]'hir)) := by simp [loadC, hagg]
     obtain ⟨u, h1, h2⟩ := run_loadC (kn := kn) (m := m) hload w loc.blk (loc.off + i * loc.esz + 0) (fun j y hy => hcell _ hvs 0 j y hy)
     cases h2
     have hrow := hrows i (l.getD i []) (rv[i]'hir) rfl (by simp [hil]) (List.getElem?_eq_getElem hir)
     obtain ⟨locq, q1, q2, q3⟩ : ∃ locq, slcOf locq = rv[i]'hir ∧ (locq.nil = false → locq.blk < w.heap.size ∧ Ow B locq.blk ∧ ∃ o v, kn locq.blk o = some v) ∧ ∀ (m' : Mp) (q : Nat), MpLe m m' → m' q = some locq → HandRel kn m' w q e (l.getD i []) [] ∧ (l.getD i []).length ≤ 2 ^ 62 ∧ ∃ ty, GvRel kn m' w q e.size ty ((l.getD i []).map e.row) := by
      have hkn := fun b => hrow.known (b := b)
      have hrel := fun m' => hrow.rel m'
      rcases hrow with ⟨r0, rvn⟩ | ⟨hl, hs1, b, o, cap, arr, ty, rvs, h2', h3, h4, h5, h5', h6, h7, h8, h9⟩
      ·refine ⟨⟨0, 0, 0, e.size, 0, true⟩, by rw [rvn]; rfl, (fun hn => by cases hn), fun m' q _ hq => ?_⟩
       have hg : GvRel kn m' w q e.size 0 ((l.getD i []).map e.row) := ⟨_, hq, by rw [r0]; rfl, .inl ⟨rfl, by rw [r0]; rfl⟩⟩
       refine ⟨⟨0, by rw [List.append_nil]; exact hg, hs0, by rw [r0]; simp, fun loc' hl' hn' => by rw [hq] at hl'; cases hl'; cases hn'⟩, by rw [r0]; simp, 0, hg⟩
      ·obtain ⟨hk1, hk2⟩ := hkn b (by rw [rvs]; rfl)
       have hbw : b < w.heap.size := by obtain ⟨o1, u1, hu1⟩ := hk1; exact hI.kn_lt hu1
       refine ⟨⟨b, o, cap, e.size, (l.getD i []).length, false⟩, by rw [rvs]; rfl, fun _ => ⟨hbw, hk2, hk1⟩, fun m' q hmle hq => ?_⟩
       have hg : GvRel kn m' w q e.size ty ((l.getD i []).map e.row) := ⟨_, hq, by simp, .inr ⟨rfl, rfl, arr, h2', h3, by simpa using h4, h5, h6, fun k row hk => map_row_len hk, fun k row j x v hk hj hv => (h7 k row j x v hk hj hv).1 m'⟩⟩
       refine ⟨⟨ty, by rw [List.append_nil]; exact hg, hs0, by simpa using h5', fun loc' hl' hn' => ?_⟩, h5', ty, hg⟩
       rw [hq] at hl'; cases hl'
       exact ⟨by rw [List.append_nil]; exact hl, h8⟩
     have hpl : p < σ.length := (List.getElem?_eq_some_iff.1 hp).1
     obtain ⟨r1, r2, ty, r3⟩ := q3 (mput m nx locq) nx (mple_put hI _) (mput_same _ _ _)
     obtain ⟨k1, k2⟩ := hI.addHand (ob := .hand e p false (l.getD i []) []) (loc := locq) rfl r1 (fun hn => ⟨(q2 hn).1, (q2 hn).2.1, (q2 hn).2.2, noHand_ok hnh⟩)
     have hp' : (σ ++ [(nx, AObj.hand e p false (l.getD i []) [])])[p]? = some (nm, .stk e ety l .no) := by rw [List.getElem?_append_left hpl]; exact hp
     have hlt := hI.lt _ _ _ hp
     have k3 := k1.conv (ob' := .stk e ety l (.out i σ.length nx true)) hp' (fun _ => trivial) (by
      refine ⟨rv, ?_, hrl, fun j r v _ a b => hrows j r v rfl a b, hdist, locq, mput_same _ _ _, by rw [q1]; exact List.getElem?_eq_getElem hir⟩
      have hg1 : GvRel kn (mput m nx locq) w nm 1 ety (stkRows .no rv) := GvRel.mono_m hgv (mput_ne _ _ _ _ (by omega)) (mple_put hI _)
      refine hg1.conv (by simp [stkRows]) fun k row row' hk hk' => ?_
      simp only [stkRows] at hk hk'
      rw [List.getElem?_set] at hk'
      split at hk'
      ·rename_i hik
       subst hik
       rw [if_pos (by simpa using hir)] at hk'
       cases hk'
       obtain ⟨y, hy⟩ := base_row hk
       exact ⟨rfl, fun us hu => any_row (by rw [hy]; rfl) hu⟩
      ·rw [hk] at hk'; cases hk'
       obtain ⟨y, hy⟩ := base_row hk
       exact ⟨by rw [hy]; rfl, fun _ h => h⟩)
     simp only [Nat.add_zero] at h1
     refine ⟨rv[i]'hir, mput m nx locq, by simp [Instr.loadAt, Instr.sureAddr, h1], ?_, ?_, ⟨k2.le, k2.ag, fun p' nm' ob' a b => ?_⟩⟩
     ·have := gs_of_gv (h := σ.length) r3 (mput_same _ _ _) (by simpa using r2)
      rw [q1, List.length_map] at this
      exact this
     ·rw [List.set_append_left _ _ hpl] at k3; exact k3
     ·have h4 := k2.pend p' nm' ob' a b
      have hpne : p' ≠ p := fun x => by subst x; rw [hp] at a; cases a; rw [hm] at b; cases b
      rw [List.getElem?_append_left (List.getElem?_eq_some_iff.1 a).1] at h4
      rw [List.getElem?_append_left (by rw [List.length_set]; exact (List.getElem?_eq_some_iff.1 a).1), List.getElem?_set_ne (fun x => hpne x.symm)]
      exact h4
   ·cases h
  ·cases h
 ·cases h
theorem storeO_sound (hI : Inv C B kn m σ nx w) {T : TypeId} {a x : AV} {av v : Value} {σ' : Sto} (h : storeO C.P T σ a x = some σ') (ha : Rel kn m a av) (hx : Rel kn m x v) :
  ∃ kn' w', (Instr.storeAt T av v).run C.P w = .ok () w' ∧ KnLe kn kn' ∧ Inv C B kn' m σ' nx w' ∧ Keep m σ nx m σ' nx := by
 unfold storeO at h
 split at h
 ·rename_i p nm i h1 q e len
  split at h
  ·rename_i e1 ety l i' h' q' e2 ps pe r ys hs1 hs2
   split at h
   ·rename_i he
    subst he
    split at h
    ·rename_i hc
     obtain ⟨rfl, rfl, rfl, hil, hne, hagg, hT⟩ := hc
     simp only [castL_rfl] at h
     have hp := sget_some hs1
     have hh := sget_some hs2
     obtain ⟨locq, hq1, hq2, rfl⟩ := gs_slc hx
     cases ha with
     | eref _ _ _ _ loc hm =>
      obtain ⟨rv, hgv, hrl, hrows, hdist, locq', hq', hrv⟩ := hI.obj _ _ _ hp
      rw [hq1] at hq'; cases hq'
      have hir : i' < rv.length := by rw [hrl]; exact hil
      have hrow : (stkRows (.out i' h' q' true) rv)[i']? = some [.any] := by simp [stkRows, hir]
      have hnl : loc.nil = false := by
       cases hn : loc.nil with
       | false => rfl
       | true => rw [hgv.nilRows hm hn] at hrow; simp at hrow
      have hone : (slcOf locq).oneCell' = true := by unfold slcOf; split <;> rfl
      have hcells := cells_one hone
      obtain ⟨w', r1, r2, r3, r4, r5, r6, _, r8⟩ := row_run (T := T) (n := 1) (off := 0) (v := slcOf locq) (cs := [.any]) (vs := [.base (slcOf locq)]) (row'' := [.base (slcOf locq)]) hgv hm hnl hrow (fun _ h => h) rfl hT (by rw [hcells]; rfl)
       (by rw [hcells]; exact ⟨.cons (.base _) (.nil _ _), fun u hu => by simp at hu; subst hu; exact hone⟩) rfl (by simp) (fun us h => by simpa using h) rfl
      have hfr : ∀ b o v, kn b o = some v → w'.heap[b]? = w.heap[b]? := fun b o u e => r6 b (fun eb => by rw [eb, (hI.own p nm _ loc hp trivial hm hnl).2.2 rfl o] at e; cases e)
      obtain ⟨k1, k2⟩ := hI.write (ob' := .stk e2 ety l (.out i' h' q' false)) hp trivial hm hnl r2 r3 r4 r5 r6 (by
       refine ⟨rv, ?_, hrl, fun j r u hj a b => (hrows j r u hj a b).mono (KnLe.refl _) (fun b _ ⟨o, u, hu⟩ => ⟨hfr b o u hu, rfl⟩), hdist, locq, hq1, hrv⟩
       have e1 : stkRows (.out i' h' q' false) rv = (stkRows (.out i' h' q' true) rv).set i' [.base (slcOf locq)] := by
        simp only [stkRows, List.set_set]
        apply List.ext_getElem?
        intro j
        rw [List.getElem?_set]
        split
        ·rename_i hj
         subst hj
         rw [List.getElem?_map, hrv]
         simp [hir]
        ·rfl
       rw [e1]; exact r8)
      simp only [Nat.add_zero] at r1
      cases pe with
      | true =>
       cases h
       exact ⟨kn, w', r1, KnLe.refl _, k1, k2⟩
      | false =>
       simp only [cond_false, Option.some.injEq] at h
       subst h
       have hpl : p < σ.length := (List.getElem?_eq_some_iff.1 hp).1
       obtain ⟨kn', s1, s2, s3⟩ := k1.sealT (p := p) (h := h') (nm := nm) (q := q') (i := i') (ps := ps) (pe := false) (r := r) (ys := ys) (e := e2) (ety := ety) (l := l) (fun x => hne x.symm) (by rw [List.getElem?_set_self hpl]) (by rw [List.getElem?_set_ne (fun x => hne x.symm)]; exact hh) hil
       rw [List.set_set] at s2 s3
       exact ⟨kn', w', r1, s1, s2, k2.trans s3 (fun p nm ob a => hI.lt p nm ob a)⟩
    ·cases h
   ·cases h
  ·cases h
 ·cases h
theorem storeH_sound (hI : Inv C B kn m σ nx w) {T : TypeId} {a x : AV} {av v : Value} {σ' : Sto} (h : storeH C.P T σ a x = some σ') (ha : Rel kn m a av) (hx : Rel kn m x v) :
  ∃ kn' w', (Instr.storeAt T av v).run C.P w = .ok () w' ∧ KnLe kn kn' ∧ Inv C B kn' m σ' nx w' ∧ Keep m σ nx m σ' nx := by
 unfold storeH at h
 split at h
 ·rename_i h1 q i off vs n hvs hT
  split at h
  ·rename_i e ps r ys hs1
   split at h
   ·rename_i hc
    obtain ⟨hlen, hri, hiy, hne⟩ := hc
    split at h
    ·rename_i y hy
     obtain ⟨row', hrow', hy⟩ := Option.bind_eq_some_iff.1 hy
     split at h
     ·rename_i n2 e2 ety2 l2 i2 h2 q2 b2 hps
      split at h
      ·rename_i he
       subst he
       split at h
       ·rename_i hc2
        obtain ⟨rfl, rfl, hil⟩ := hc2
        simp only [castL_rfl] at h
        have hh := sget_some hs1
        have hv := hx.cells hvs
        have hvn : v.cells.size = n := by rw [← Array.length_toList, ← hv.1.1]; exact hlen
        unfold spliceA at hrow'
        split at hrow'
        ·rename_i hfit
         cases hrow'
         cases ha with
         | eref _ _ _ _ loc hm =>
          obtain ⟨ty, hgv, hs0, h62, hbeh⟩ := (show HandRel kn m w q2 e r ys from hI.obj _ _ _ hh)
          have hget : (r ++ ys)[i]? = some (ys.getD (i - r.length) e.dflt) := by
           rw [List.getElem?_append_right hri, List.getD_eq_getElem?_getD, List.getElem?_eq_getElem (by omega)]
           rfl
          have hrow : ((r ++ ys).map e.row)[i]? = some (e.row (ys.getD (i - r.length) e.dflt)) := by rw [List.getElem?_map, hget]; rfl
          have hnl : loc.nil = false := by
           cases hn : loc.nil with
           | false => rfl
           | true => rw [hgv.nilRows hm hn] at hrow; simp at hrow
          have hez := (hgv.get hm hnl).2.1
          obtain ⟨w', r1, r2, r3, r4, r5, r6, r7, r8⟩ := row_run (T := T) (n := n) (off := off) (v := v) (cs := e.cells (ys.getD (i - r.length) e.dflt)) (vs := vs) (row'' := e.row y) hgv hm hnl hrow (fun us h => (E.rel_cells e _ us).2 h) (E.cells_len _ _) hT hvn hv hlen hfit
           (fun us h => absC_sound _ _ _ _ hy us h) (E.row_len _ _)
          have hset : ((r ++ ys).map e.row).set i (e.row y) = (r ++ ys.set (i - r.length) y).map e.row := by
           rw [← List.map_set, List.set_append_right _ _ hri]
          rw [hset] at r8
          obtain ⟨hb1, hb2⟩ := hbeh loc hm hnl
          have hbw := (hI.own h2 q2 _ loc hh trivial hm hnl).1
          obtain ⟨rv, hgv2, hrl, hrows, hdist, locq', hq', hrv⟩ := hI.obj _ _ _ hps
          rw [hm] at hq'; cases hq'
          obtain ⟨loc1, hm1, _⟩ := id hgv2
          have hknok : ∀ b o v, kn b o = some v → w'.cell? ⟨b, o, none⟩ = some v := fun b o u e1 => by
           have h0 := hI.knok b o u e1
           by_cases hb : b = loc.blk
           ·subst hb
            have ho : o < loc.off + r.length * e.size := by
             rcases Nat.lt_or_ge o (loc.off + r.length * e.size) with h | h
             ·exact h
             ·rw [hb2 o h] at e1; cases e1
            have : r.length * e.size ≤ i * loc.esz := by rw [hez]; exact Nat.mul_le_mul_right _ hri
            rw [r7 o (by omega)]; exact h0
           ·unfold World.cell? at h0 ⊢
            rw [r6 b hb]; exact h0
          obtain ⟨k1, k2⟩ := hI.two (p := ps) (h := h2) (nm := n2) (q := q2) (q' := q2) (ob1' := .stk e ety2 l2 (.out i2 h2 q2 b2)) (ob2' := .hand e ps false r (ys.set (i - r.length) y)) (m' := m) (kn' := kn) (w' := w') hne hps hh rfl trivial (KnLe.refl _) (fun _ _ => rfl) (Nat.le_refl _) hI.dom (.inl rfl)
           (by omega) r3 r4 r5 (fun b hb _ hq => ⟨r6 b (fun eb => hq loc hm hnl eb.symm), rfl⟩) hknok
           (by
            refine ⟨rv, hgv2.mono (KnLe.refl _) (fun l1 a c => r6 _ (fun eb => hI.dist ps n2 _ l1 h2 q2 _ loc hps hh trivial trivial a hm c hnl hne eb)), hrl, fun j r' u hj a b => (hrows j r' u hj a b).mono (KnLe.refl _) (fun b' hb' _ => ⟨r6 b' (fun eb => ?_), rfl⟩), hdist, loc, hm, hrv⟩
            have hji : j ≠ i2 := fun x => by subst x; rw [isOut_self] at hj; cases hj
            have h1 := hdist j i2 u (slcOf loc) hji b hrv (by rw [hb', slcOf_some hnl, eb]; rfl)
            rw [hb'] at h1; cases h1)
           (show HandRel kn m w' q2 e r (ys.set (i - r.length) y) from ⟨ty, r8, hs0, by rw [List.length_set]; exact h62, fun loc' a c => by
            rw [hm] at a; cases a
            refine ⟨fun hx => hb1 ?_, hb2⟩
            simp only [List.append_eq_nil_iff] at hx ⊢
            exact ⟨hx.1, by have := hx.2; simpa using this⟩⟩) ⟨loc1, hm1⟩ ⟨loc, hm⟩ (fun l1 a c => (hI.own ps n2 _ l1 hps trivial a c).2.2 rfl) (fun _ l1 a c => by
            rw [hm] at a; cases a
            exact ⟨by rw [r2]; exact hbw, .inl ⟨loc, hm, hnl, rfl⟩, (fun h => by cases h)⟩) rfl rfl
          have hsame : σ.set ps (n2, .stk e ety2 l2 (.out i2 h2 q2 b2)) = σ := by
           apply List.ext_getElem?
           intro j
           rw [List.getElem?_set]
           split
           ·rename_i hj; subst hj
            rw [hps]; simp [(List.getElem?_eq_some_iff.1 hps).1]
           ·rfl
          rw [hsame] at k1 k2
          cases b2 with
          | true =>
           cases h
           exact ⟨kn, w', r1, KnLe.refl _, k1, k2⟩
          | false =>
           simp only [cond_false, Option.some.injEq] at h
           subst h
           have hhl : h2 < σ.length := (List.getElem?_eq_some_iff.1 hh).1
           obtain ⟨kn', s1, s2, s3⟩ := k1.sealT (p := ps) (h := h2) (nm := n2) (q := q2) (i := i2) (ps := ps) (pe := false) (r := r) (ys := ys.set (i - r.length) y) (e := e) (ety := ety2) (l := l2) hne (by rw [List.getElem?_set_ne (fun x => hne x.symm)]; exact hps) (by rw [List.getElem?_set_self hhl]) hil
           rw [List.set_comm _ _ (fun x => hne x.symm), List.set_set] at s2 s3
           exact ⟨kn', w', r1, s1, s2, k2.trans s3 (fun p nm ob a => hI.lt p nm ob a)⟩
        ·cases hrow'
       ·cases h
      ·cases h
     ·cases h
    ·cases h
   ·cases h
  ·cases h
 ·cases h
theorem storeS_sound (hI : Inv C B kn m σ nx w) {T : TypeId} {a x : AV} {av v : Value} {σ' : Sto} (h : storeS C.P T σ a x = some σ') (ha : Rel kn m a av) (hx : Rel kn m x v) :
  ∃ kn' w', (Instr.storeAt T av v).run C.P w = .ok () w' ∧ KnLe kn kn' ∧ Inv C B kn' m σ' nx w' ∧ Keep m σ nx m σ' nx := by
 unfold storeS at h
 split at h
 ·rename_i σ1 h1
  cases h
  exact storeO_sound hI h1 ha hx
 ·exact storeH_sound hI h ha hx
end
end Go.Ab

namespace Go.Ab
open Go Go.RowKit
section
variable {C : Cx} {B : Base} {kn : Kn} {m : Mp} {σ : Sto} {nx : Nat} {w : World}
theorem nilRows_eq : ∀ {rows : List (List AV)}, nilRows rows = true → rows = List.replicate rows.length [AV.base (.slice none 0 0)]
 | [], _ => rfl
 | r :: l, h => by
  simp only [nilRows, Bool.and_eq_true] at h
  have h1 : r = [AV.base (.slice none 0 0)] := by
   have := h.1
   unfold nilRow at this
   split at this
   ·rfl
   ·cases this
  rw [List.length_cons, List.replicate_succ, ← nilRows_eq h.2, h1]
theorem nil_rel {nm ety n : Nat} {e : E} {rows : List (List AV)} {w' : World} {kn' : Kn} (h : GvRel kn' m w' nm 1 ety rows) (hn : nilRows rows = true) (hl : rows.length = n) : StkRel B kn' m w' nm e ety (List.replicate n []) .no := by
 have he := nilRows_eq hn
 rw [hl] at he
 refine ⟨List.replicate n (.slice none 0 0), ?_, by simp, fun i r v _ a b => ?_, fun i i' v v' _ a b _ => ?_, trivial⟩
 ·rw [he] at h
  simpa [stkRows] using h
 ·rw [List.getElem?_replicate] at a b
  split at a
  ·cases a; rw [if_pos ‹_›] at b; cases b; exact .inl ⟨rfl, rfl⟩
  ·cases a
 ·rw [List.getElem?_replicate] at a
  split at a
  ·cases a; rfl
  ·cases a
theorem stkNew_sound (hI : Inv C B kn m σ nx w) {t len : Nat} {e : E} {r : AV} {parts : List (Nat × AV)} {parts' : Array (Nat × Value)} {σ' : Sto} {nx' : Nat} (h : stkNew C.P t len e σ nx parts = some (r, σ', nx')) (hl : parts.length = parts'.size)
  (hp : ∀ (i : Nat) (p : Nat × AV) (p' : Nat × Value), parts[i]? = some p → parts'[i]? = some p' → p.1 = p'.1 ∧ Rel kn m p.2 p'.2) :
  ∃ u m' w', (Instr.buildSlice t len parts').run C.P w = .ok u w' ∧ Rel kn m' r u ∧ Inv C B kn m' σ' nx' w' ∧ Keep m σ nx m' σ' nx' := by
 unfold stkNew at h
 split at h
 ·rename_i ety sz by_ he
  split at h
  ·rename_i z hz
   split at h
   ·rename_i hc
    obtain ⟨rfl, hzl, hlim, hns⟩ := hc
    split at h
    ·rename_i rows hr
     split at h
     ·rename_i hnr
      cases h
      obtain ⟨arr, hrun, hfl, has, hrl⟩ := gives_buildSlice hI he hz Nat.zero_lt_one hzl hlim hr hl hp
      have hmle := mple_put hI ⟨w.heap.size, 0, len, 1, len, false⟩
      have hgv : GvRel kn (mput m nx ⟨w.heap.size, 0, len, 1, len, false⟩) (w.alloc (.cells arr ety)) nx 1 ety rows := gvec_obj (mput_same _ _ _) rfl hrl.symm rfl (run_alloc_cells w arr ety) rfl (by rw [has]; exact Nat.le_refl _) (by rw [hrl]; exact Nat.le_refl _) (by show len ≤ maxLen; unfold maxLen; omega) hfl.2.2 hfl.1
       (fun i row j x v a b c => (hfl.2.1 i row j x v a b (by simpa using c)).mono (KnLe.refl _) hmle)
      obtain ⟨h1, h2⟩ := hI.new (ob' := .stk e ety (List.replicate rows.length []) .no) (loc' := ⟨w.heap.size, 0, len, 1, len, false⟩) (w' := w.alloc (.cells arr ety)) (by simp) rfl rfl rfl (.inr (Nat.le_refl _)) (by simp) (fun b hb => Below.heap_alloc _ _ _ hb)
       (nil_rel hgv hnr rfl) (hsk := fun _ => noStk_ok hns)
      refine ⟨_, _, _, hrun, ?_, h1, h2⟩
      have := gs_of_gv (h := σ.length) (e := .slice e) hgv (mput_same _ _ _) (by rw [hrl]; omega)
      rw [slcOf_some rfl] at this
      exact this
     ·cases h
    ·cases h
   ·cases h
  ·cases h
 ·cases h
theorem RowV.fr {e : E} {l : List e.den} {v : Value} {w' : World} (h : RowV B kn w e l v) (hf : Fr kn w w') : RowV B kn w' e l v := h.mono (KnLe.refl _) (fun b _ ⟨o, u, hu⟩ => ⟨hf b o u hu, rfl⟩)
theorem stkPush_sound (hI : Inv C B kn m σ nx w) {t t' ty : Nat} {pe : Bool} {x y r : AV} {xv yv : Value} {σ' : Sto} {nx' : Nat} (h : stkPush C.P t t' pe σ nx x y = some (r, σ', nx')) (hx : Rel kn m x xv) (hy : Rel kn m y yv) :
  ∃ u m' w', (Builtin.append_ #[t, t'] ty #[xv, yv]).run C.P w = .ok u w' ∧ Rel kn m' r u ∧ Inv C B kn m' σ' nx' w' ∧ Keep m σ nx m' σ' nx' := by
 unfold stkPush at h
 split at h
 ·rename_i p nm e' len
  split at h
  ·rename_i e ety l hs
   split at h
   ·rename_i rows ety' sz bytes he
    split at h
    ·rename_i hc
     obtain ⟨rfl, hsl, rfl, rfl, hzl, hnr, hb, h62⟩ := hc
     cases h
     have hp := sget_some hs
     obtain ⟨zv, hT⟩ := app_ty he (slcT_notInt hsl) hzl
     have hE : Elems C kn m w 1 rows yv := elems_sound hI Nat.zero_lt_one (y := .vec 1 rows) (by simp [elemsA]) hy
     obtain ⟨rv, hgv, hrl, hrows, hdist, _⟩ := hI.obj _ _ _ hp
     have mk : ∀ (m' : Mp) (w' : World), Fr kn w w' → GvRel kn m' w' nx 1 ety' (stkRows .no rv ++ rows) → StkRel B kn m' w' nx e ety' (l ++ List.replicate rows.length []) .no := fun m' w' hf hg => by
      refine ⟨rv ++ List.replicate rows.length (.slice none 0 0), ?_, by simp [hrl], fun i r v _ a b => ?_, fun i i' v v' hii a b hbk => ?_, trivial⟩
      ·have : stkRows .no (rv ++ List.replicate rows.length (.slice none 0 0)) = stkRows .no rv ++ rows := by
        rw [nilRows_eq hnr]
        simp [stkRows]
       rw [this]; exact hg
      ·rcases Nat.lt_or_ge i l.length with hi | hi
       ·rw [List.getElem?_append_left hi] at a
        rw [List.getElem?_append_left (by omega)] at b
        exact (hrows i r v rfl a b).fr hf
       ·rw [List.getElem?_append_right hi, List.getElem?_replicate] at a
        rw [List.getElem?_append_right (by omega), List.getElem?_replicate] at b
        split at a
        ·cases a
         split at b
         ·cases b; exact .inl ⟨rfl, rfl⟩
         ·cases b
        ·cases a
      ·rcases Nat.lt_or_ge i rv.length with hi | hi
       ·rcases Nat.lt_or_ge i' rv.length with hi' | hi'
        ·rw [List.getElem?_append_left hi] at a
         rw [List.getElem?_append_left hi'] at b
         exact hdist i i' v v' hii a b hbk
        ·rw [List.getElem?_append_right hi', List.getElem?_replicate] at b
         split at b
         ·cases b; rw [hbk]; rfl
         ·cases b
       ·rw [List.getElem?_append_right hi, List.getElem?_replicate] at a
        split at a
        ·cases a; rfl
        ·cases a
     have hrlen : (stkRows .no rv).length = l.length := by simp [stkRows, hrl]
     cases hx with
     | gs _ _ _ _ _ loc hm hl hr =>
      cases hr with
      | srefNil _ _ _ loc' hm' hn =>
       have h0 := hgv.nilRows hm' hn
       have hl0 : l.length = 0 := by rw [← hrlen, h0]; rfl
       obtain ⟨u, m', w', q1, q2, q3, q4, q5⟩ := app_srefNil (ty := ty) (ob' := .stk e ety' (l ++ List.replicate rows.length []) .no) hI hT hE hp trivial hm' hn (by rw [hl0] at hb; simpa using hb) (by omega) (fun m w hf hg => mk m w hf (by rw [h0]; exact hg)) (hsk := fun _ => rfl)
       have e1 : l.length + rows.length = rows.length := by omega
       rw [e1]
       exact ⟨u, m', w', q1, gs_of q2 q3, q4, q5⟩
      | sref _ _ _ _ _ loc' hm' hn he'' hc hle =>
       have e0 : loc' = loc := by rw [hm'] at hm; cases hm; rfl
       subst e0
       have hlen := (hgv.get hm' hn).1
       have hll : len = l.length := by omega
       subst hll
       have he1 : loc'.esz = 1 := he''
       rw [← he1] at hT hE hgv
       obtain ⟨u, m', w', q1, q2, q3, q4, q5⟩ := app_sref (ty := ty) (ob' := .stk e ety' (l ++ List.replicate rows.length []) .no) hI hT (by rw [he1]; exact Nat.zero_lt_one) hE hp trivial (fun _ => hgv) hm' hn hc (by omega) hb h62 (fun m w hf hg => mk m w hf (by
        rw [List.drop_zero, List.take_of_length_le (by omega), he1] at hg
        exact hg)) (hsk := fun _ => rfl)
       rw [he1] at q2
       exact ⟨u, m', w', q1, gs_of q2 q3, q4, q5⟩
    ·cases h
   ·cases h
  ·rename_i e ps r0 hs
   split at h
   ·rename_i n2 e2 ety2 l2 i2 h2 q2 fty sz bytes ys hps he hys
    split at h
    ·rename_i hc
     obtain ⟨rfl, rfl, rfl, rfl, hne, hil, hs0, hzl, hes, hb, h62⟩ := hc
     cases h
     subst hes
     have hh := sget_some hs
     obtain ⟨locq, hq1, hq2, rfl⟩ := gs_slc hx
     obtain ⟨hni, hE⟩ := elemsT_sound hI hs0 hys hy
     obtain ⟨zv, hT⟩ := app_ty he hni hzl
     obtain ⟨hty, hgv, _, _, hbeh⟩ := (show HandRel kn m w q2 e2 r0 [] from hI.obj _ _ _ hh)
     rw [List.append_nil] at hgv hbeh
     have hlm : (ys.map e2.row).length = ys.length := List.length_map _
     have hlr : (r0.map e2.row).length = r0.length := List.length_map _
     obtain ⟨w', loc', r1, r2, r3, r4, r5, r6, r7, r8, r9, r10⟩ := app_run (ty := ty) hT hs0 hE hgv hq1 (by rw [hlm, hlr]; exact hb) (by rw [hlm, hlr]; exact h62)
     rw [hlm, hlr] at r6 r9
     obtain ⟨rv, hgv2, hrl, hrows, hdist, locq', hq', hrv⟩ := hI.obj _ _ _ hps
     rw [hq1] at hq'; cases hq'
     obtain ⟨loc1, hm1, _⟩ := id hgv2
     have hmle := mple_put hI loc'
     have hnm := hI.lt _ _ _ hps
     have hqn := hI.lt _ _ _ hh
     obtain ⟨ety', hg'⟩ := r10 (mput m nx loc') nx hmle (mput_same _ _ _)
     rw [← List.map_append] at hg'
     have hbw : locq.nil = false → locq.blk < w.heap.size := fun hn => (hI.own _ q2 _ locq hh trivial hq1 hn).1
     have hstay : ∀ b, b < w.heap.size → (locq.nil = false → locq.blk ≠ b) → w'.heap[b]? = w.heap[b]? := fun b hb hq => by
      refine r8 b hb ?_
      rcases r9 with h | ⟨_, h1, h3, _⟩ | ⟨_, h, _⟩
      ·exact .inl h
      ·exact .inr (fun eb => hq h1 (by rw [eb, h3]))
      ·exact .inr (by omega)
     have hknok : ∀ b o v, kn b o = some v → w'.cell? ⟨b, o, none⟩ = some v := fun b o u e1 => by
      have h0 := hI.knok b o u e1
      by_cases hb : locq.nil = false ∧ b = locq.blk
      ·obtain ⟨hn, rfl⟩ := hb
       rcases r9 with h | ⟨_, h1, h3, _, h4⟩ | ⟨_, h, _⟩
       ·unfold World.cell? at h0 ⊢
        rw [r8 _ (hbw hn) (.inl h)]; exact h0
       ·have ho : o < locq.off + r0.length * e2.size := by
         rcases Nat.lt_or_ge o (locq.off + r0.length * e2.size) with h | h
         ·exact h
         ·rw [(hbeh locq hq1 hn).2 o h] at e1; cases e1
        rw [h4 o ho]; exact h0
       ·unfold World.cell? at h0 ⊢
        rw [r8 _ (hbw hn) (.inr (by have := hbw hn; omega))]; exact h0
      ·unfold World.cell? at h0 ⊢
       rw [hstay b (hI.kn_lt e1) (fun hn eb => hb ⟨hn, eb.symm⟩)]; exact h0
     obtain ⟨k1, k2⟩ := hI.two (p := ps) (h := h2) (nm := n2) (q := q2) (q' := nx) (nx' := nx + 1) (ob1' := .stk e2 ety2 l2 (.out i2 h2 nx true)) (ob2' := .hand e2 ps pe r0 ys) (m' := mput m nx loc') (kn' := kn) (w' := w') hne hps hh rfl trivial (KnLe.refl _) (fun n hn => mput_ne _ _ _ _ (by omega)) (Nat.le_succ _) (fun n hn => by rw [mput_ne _ _ _ _ (by omega)]; exact hI.dom n (by omega)) (.inr ⟨Nat.le_refl _, Nat.lt_succ_self _⟩)
      r2 r3 r4 r5 (fun b hb _ hq => ⟨hstay b hb (fun hn => hq locq hq1 hn), rfl⟩) hknok
      (by
       have hir : i2 < rv.length := by rw [hrl]; exact hil
       have hg1 : GvRel kn (mput m nx loc') w' n2 1 ety2 (stkRows (.out i2 h2 q2 true) rv) := GvRel.mono_m (hgv2.mono (KnLe.refl _) (fun l1 a c => hstay _ (hI.own ps n2 _ l1 hps trivial a c).1 (fun hn eb => hI.dist ps n2 _ l1 h2 q2 _ locq hps hh trivial trivial a hq1 c hn hne eb.symm))) (mput_ne _ _ _ _ (by omega)) hmle
       refine ⟨rv.set i2 (slcOf loc'), ?_, by rw [List.length_set]; exact hrl, fun j r' u hj a b => ?_, fun j j' u u' hjj a b hbk => ?_, loc', mput_same _ _ _, by rw [List.getElem?_set_self hir]⟩
       ·have e1 : stkRows (.out i2 h2 nx true) (rv.set i2 (slcOf loc')) = stkRows (.out i2 h2 q2 true) rv := by
         simp only [stkRows, List.map_set, List.set_set]
        rw [e1]; exact hg1
       ·have hji : ¬ i2 = j := fun x => by subst x; rw [isOut_self] at hj; cases hj
        rw [List.getElem?_set_ne hji] at b
        refine (hrows j r' u (isOut_ne hji) a b).mono (KnLe.refl _) (fun b' hb' ⟨o, u', hu'⟩ => ⟨hstay b' (hI.kn_lt hu') (fun hn eb => ?_), rfl⟩)
        have h1 := hdist j i2 u (slcOf locq) (fun x => hji x.symm) b hrv (by rw [hb', slcOf_some hn, eb]; rfl)
        rw [hb'] at h1; cases h1
       ·
        have apart : ∀ (j : Nat) (u : Value), j ≠ i2 → rv[j]? = some u → ∀ b, bkOf u = some b → bkOf (slcOf loc') ≠ some b := fun j u hji a b hb hb2 => by
         obtain ⟨hn', rfl⟩ := bk_slc hb2
         rcases r9 with h | ⟨_, h1, h3, _⟩ | ⟨_, h, _⟩
         ·rw [hn'] at h; cases h
         ·have h4 := hdist j i2 u (slcOf locq) hji a hrv (by rw [hb, slcOf_some h1, h3]; rfl)
          rw [hb] at h4; cases h4
         ·have hjl : j < l2.length := by rw [← hrl]; exact (List.getElem?_eq_some_iff.1 a).1
          obtain ⟨⟨o, u2, hk⟩, _⟩ := (hrows j _ u (isOut_ne (fun x => hji x.symm)) (List.getElem?_eq_getElem hjl) a).known hb
          have := hI.kn_lt hk
          omega
        rw [List.getElem?_set] at a b
        by_cases h1 : i2 = j
        ·subst h1
         rw [if_pos rfl, if_pos hir] at a
         cases a
         rw [if_neg hjj] at b
         cases hu : bkOf u' with
         | none => rw [hbk, hu]
         | some b0 => exact absurd (hbk.trans hu) (apart j' u' (fun x => hjj x.symm) b b0 hu)
        ·rw [if_neg h1] at a
         by_cases h2 : i2 = j'
         ·subst h2
          rw [if_pos rfl, if_pos hir] at b
          cases b
          cases hu : bkOf u with
          | none => rfl
          | some b0 => exact absurd (hbk.symm.trans hu) (apart j u (fun x => h1 x.symm) a b0 hu)
         ·rw [if_neg h2] at b
          exact hdist j j' u u' hjj a b hbk)
      (show HandRel kn (mput m nx loc') w' nx e2 r0 ys from ⟨ety', hg', hs0, le62 h62, fun l1 a c => by
       rw [mput_same] at a; cases a
       rcases r9 with h | ⟨_, h1, h3, h4, _⟩ | ⟨_, h, h5, h6⟩
       ·rw [c] at h; cases h
       ·obtain ⟨d1, d2⟩ := hbeh locq hq1 h1
        exact ⟨fun hx => d1 (List.append_eq_nil_iff.1 hx).1, fun o' ho => by rw [h3]; exact d2 o' (by rw [← h4]; exact ho)⟩
       ·refine ⟨fun hx => h6 (by have := congrArg List.length hx; simpa using this), fun o' _ => ?_⟩
        cases hk : kn loc'.blk o' with
        | none => rfl
        | some v => have := hI.kn_lt hk; omega⟩) ⟨loc1, hm1⟩ ⟨locq, hq1⟩ (fun l1 a c => (hI.own ps n2 _ l1 hps trivial a c).2.2 rfl) (fun _ l1 a c => by
       rw [mput_same] at a; cases a
       refine ⟨(r7 c).2, ?_, (fun h => by cases h)⟩
       rcases r9 with h | ⟨_, h1, h3, _⟩ | ⟨_, h, _⟩
       ·rw [c] at h; cases h
       ·exact .inl ⟨locq, hq1, h1, h3.symm⟩
       ·exact .inr h) rfl rfl
     refine ⟨_, _, _, r1, ?_, k1, k2⟩
     have := gs_of_gv (h := h2) hg' (mput_same _ _ _) (by rw [List.length_map, List.length_append]; exact le62 h62)
     rw [List.length_map, List.length_append] at this
     exact this
    ·cases h
   ·cases h
  ·cases h
 ·cases h
theorem stkPop_sound (hI : Inv C B kn m σ nx w) {t : Nat} {x r : AV} {v : Value} {lo hi : Option AV} {lo' hi' : Option Value} {σ' : Sto} {nx' : Nat} (h : stkPop C.P t σ nx x lo hi = some (r, σ', nx')) (hx : Rel kn m x v)
  (hlo : ∀ a, lo = some a → ∃ v, lo' = some v ∧ Rel kn m a v) (hlo0 : lo = none → lo' = none) (hhi : ∀ a, hi = some a → ∃ v, hi' = some v ∧ Rel kn m a v) (hhi0 : hi = none → hi' = none) :
  ∃ u m' w', (Instr.sliceAt t v lo' hi' none).run C.P w = .ok u w' ∧ Rel kn m' r u ∧ Inv C B kn m' σ' nx' w' ∧ Keep m σ nx m' σ' nx' := by
 unfold stkPop at h
 split at h
 ·rename_i p nm e len
  split at h
  ·rename_i q sz by_ l' h' e2 ety l he hb hg
   split at h
   ·rename_i hc
    obtain ⟨rfl, rfl, rfl, h0, h1⟩ := hc
    cases h
    obtain ⟨hu, hsz, _⟩ := elm_sound he
    have hp := sget_some hg
    obtain ⟨rv, hgv, hrl, hrows, hdist, _⟩ := hI.obj _ _ _ hp
    have hrlen : (stkRows .no rv).length = l.length := by simp [stkRows, hrl]
    have mk : ∀ (m' : Mp), GvRel kn m' w nx 1 ety ((stkRows .no rv).take h'.toNat) → StkRel B kn m' w nx e2 ety (l.take h'.toNat) .no := fun m' hg => by
     refine ⟨rv.take h'.toNat, by simpa [stkRows, List.map_take] using hg, by simp [hrl], fun i r v _ a b => ?_, fun i i' v v' hii a b hbk => ?_, trivial⟩
     ·rw [List.getElem?_take] at a b
      split at a
      ·rename_i hi; rw [if_pos hi] at b; exact hrows i r v rfl a b
      ·cases a
     ·rw [List.getElem?_take] at a b
      split at a
      ·split at b
       ·exact hdist i i' v v' hii a b hbk
       ·cases b
      ·cases a
    cases hx with
    | gs _ _ _ _ _ loc hm hl hr =>
     cases hr with
     | srefNil _ _ _ loc' hm' hn =>
      have hl0 : l.length = 0 := by rw [← hrlen, hgv.nilRows hm' hn]; rfl
      have hh0 : h' = 0 := by omega
      subst hh0
      have hbs := bnd_sound (C := C) (w := w) (cap := 0) hb hlo hlo0 hhi hhi0 (Int.le_refl _) (Int.le_refl _) (by simp) true
      have hrun : (Instr.sliceAt t (.slice none 0 0) lo' hi' none).run C.P w = .ok (.slice none 0 0) w := by
       simp [Instr.sliceAt, run_underlying hu, Instr.slice, hbs, run_sizeOf' hsz]
      obtain ⟨q1, q2⟩ := hI.replace (ob' := .stk e2 ety (l.take (0 : Int).toNat) .no) (loc' := ⟨0, 0, 0, 1, 0, true⟩) hp trivial hm' (w' := w) (Nat.le_refl _) rfl rfl rfl (.inl rfl) (fun h => by cases h) (fun _ _ _ => rfl)
       (mk _ ⟨_, mput_same _ _ _, by simp, .inl ⟨rfl, by simp⟩⟩)
      exact ⟨_, _, _, hrun, gs_of (.srefNil _ _ _ _ (mput_same _ _ _) rfl) ⟨_, mput_same _ _ _, rfl⟩, q1, q2⟩
     | sref _ _ _ _ _ loc' hm' hn he'' hc hle =>
      have hll0 : loc'.len = len := by rw [hm'] at hm; cases hm; exact hl
      obtain ⟨hll, he2, arr, hw, hsz2, hle2, hmx, hone, hrl', hrr⟩ := hgv.get hm' hn
      rw [hrlen] at hle2 hll
      have hbs := bnd_sound (C := C) (w := w) (cap := loc'.cap - 0) hb hlo hlo0 hhi hhi0 (Int.le_refl _) h0 (by omega) true
      simp only [Nat.sub_zero] at hbs
      have hrun : (Instr.sliceAt t (.slice (some ⟨loc'.blk, loc'.off + 0 * loc'.esz, none⟩) len (loc'.cap - 0)) lo' hi' none).run C.P w = .ok (.slice (some ⟨loc'.blk, loc'.off, none⟩) h'.toNat loc'.cap) w := by
       simp [Instr.sliceAt, run_underlying hu, Instr.slice, hbs, run_sizeOf' hsz, add_mk]
      obtain ⟨q1, q2⟩ := hI.replace (ob' := .stk e2 ety (l.take h'.toNat) .no) (loc' := ⟨loc'.blk, loc'.off, loc'.cap, 1, h'.toNat, false⟩) hp trivial hm' (w' := w) (Nat.le_refl _) rfl rfl rfl (.inr (.inl ⟨hn, rfl⟩)) (fun _ => (hI.own _ _ _ _ hp trivial hm' hn).1) (fun _ _ _ => rfl)
       (mk _ ⟨_, mput_same _ _ _, by rw [List.length_take, hrlen]; show h'.toNat = _; omega, .inr ⟨rfl, rfl, arr, hw, hsz2, by rw [List.length_take, hrlen]; show _ ≤ loc'.cap; omega, hmx, hone, fun i row hi => (by
         rw [List.getElem?_take] at hi
         split at hi
         ·exact hrl' i row hi
         ·cases hi), fun i row j y v hi hj hv => (by
         rw [List.getElem?_take] at hi
         split at hi
         ·exact (hrr i row j y v hi hj hv).mono (KnLe.refl _) (mple_put hI _)
         ·cases hi)⟩⟩)
      refine ⟨_, _, _, hrun, gs_of ?_ ⟨_, mput_same _ _ _, rfl⟩, q1, q2⟩
      have := Rel.sref (kn := kn) p nx 1 0 h'.toNat _ (mput_same m nx ⟨loc'.blk, loc'.off, loc'.cap, 1, h'.toNat, false⟩) rfl rfl (by show h'.toNat + 0 ≤ loc'.cap; omega) (by omega)
      have e3 : (E.slice e2).size = 1 := rfl
      rw [e3]
      simpa using this
   ·cases h
  ·cases h
 ·cases h
theorem Wr.of {x : AV} {σ' : Sto} {nx' : Nat} {r : Result Next} (h : ∃ nxt u m' w', r = .ok nxt w' ∧ (nxt = .value u ∨ (nxt = .skip ∧ u = undef)) ∧ Rel kn m' x u ∧ Inv C B kn m' σ' nx' w' ∧ Keep m σ nx m' σ' nx') : Writes C B kn m σ nx x σ' nx' r := by
 obtain ⟨a, b, c, d, e, f, g, i, j⟩ := h
 exact ⟨a, b, kn, c, d, e, f, KnLe.refl _, g, i, j⟩
theorem sop_sound {env : Nat → AV} {n : Nat} {act : Act} (hI : Inv C B kn m σ nx w) (hE : RelEnv kn m env n act) {o : Oper} {x : AV} {σ' : Sto} {nx' : Nat} {e : E} {pe : Bool} (h : sop C e pe o.op env σ nx = some (x, σ', nx')) :
  Writes C B kn m σ nx x σ' nx' ((execOp act.eval o).run C.P w) := by
 obtain ⟨dst, op, type, pos, after, guard⟩ := o
 simp only at h
 refine Wr.of ?_
 unfold sop at h
 split at h
 ·rename_i t len parts
  obtain ⟨u, m', w', h1, h2, h3, h4⟩ := stkNew_sound hI h (rel_parts hI hE parts).1 (rel_parts hI hE parts).2
  refine ⟨.value u, u, m', w', ?_, .inl rfl, h2, h3, h4⟩
  simp only [execOp, Sem.run_bind]
  rw [h1]
  rfl
 ·rename_i T a
  obtain ⟨u, m', h1, h2, h3, h4⟩ := stkRd_sound hI h (rel_opv hI hE a)
  exact ⟨.value u, u, m', w, by simp [execOp, h1], .inl rfl, h2, h3, h4⟩
 ·rename_i t a lo hi
  obtain ⟨u, m', w', h1, h2, h3, h4⟩ := stkPop_sound hI h (rel_opv hI hE a) (rel_omap hI hE lo).1 (rel_omap hI hE lo).2 (rel_omap hI hE hi).1 (rel_omap hI hE hi).2
  exact ⟨.value u, u, m', w', by simp [execOp, h1], .inl rfl, h2, h3, h4⟩
 ·rename_i c
  split at h
  ·rename_i t t' x' y' hb ht hx
   have hargs := rel_map hI hE c.args
   rw [hx] at hargs
   obtain ⟨consts, hexec⟩ : ∃ consts, execOp act.eval { dst := dst, op := .call c, type := type, pos := pos, after := after, guard := guard } = builtin .append c.argTypes type consts (c.args.map act.eval) :=
    ⟨_, by simp only [execOp, resolve, hb, invoke, pure_bind]; rfl⟩
   obtain ⟨v, u, hv⟩ := arr_two hargs.1.symm
   have h1 := hargs.2 0 x' v rfl (by rw [hv]; rfl)
   have h2 := hargs.2 1 y' u rfl (by rw [hv]; rfl)
   have hts : c.argTypes = #[t, t'] := by rw [← Array.toArray_toList (xs := c.argTypes), ht]
   obtain ⟨r, m', w', q1, q2, q3, q4⟩ := stkPush_sound hI (ty := type) h h1 h2
   refine ⟨.value r, r, m', w', ?_, .inl rfl, q2, q3, q4⟩
   rw [hexec, hv, hts]
   simp only [builtin, Sem.run_bind, q1, Result.andThen_ok, Sem.run_pure]
  ·cases h
 ·cases h
theorem eop0_sound {env : Nat → AV} {n : Nat} {act : Act} (hI : Inv C B kn m σ nx w) (hE : RelEnv kn m env n act) {o : Oper} {x : AV} {σ' : Sto} {nx' : Nat} {ty' : Option E} (h : eop0 C ty' o.op env σ nx = some (x, σ', nx')) :
  Writes C B kn m σ nx x σ' nx' ((execOp act.eval o).run C.P w) := by
 obtain ⟨dst, op, type, pos, after, guard⟩ := o
 simp only at h
 unfold eop0 at h
 split at h
 ·rename_i T y
  cases hc : cellsA (opv C env y) with
  | none => simp [hc] at h
  | some cs =>
   simp [hc] at h
   obtain ⟨rfl, rfl, rfl⟩ := h
   obtain ⟨u, m', w', h1, h2, h3, h4⟩ := writes_box hI (T := T) (rel_opv hI hE y) hc
   exact Wr.of ⟨.value u, u, m', w', by simp [execOp, h1], .inl rfl, h2, h3, h4⟩
 ·rename_i t len parts
  cases ty' with
  | some e =>
   simp only at h
   obtain ⟨u, m', w', h1, h2, h3, h4⟩ := bslT_sound hI h (rel_parts hI hE parts).1 (rel_parts hI hE parts).2
   refine Wr.of ⟨.value u, u, m', w', ?_, .inl rfl, h2, h3, h4⟩
   simp only [execOp, Sem.run_bind]
   rw [h1]
   rfl
  | none =>
   simp only at h
   split at h
   ·rename_i e sz by_ he
    split at h
    ·rename_i z hz
     split at h
     ·rename_i hc
      cases hr : rowsA sz (List.replicate len z) (parts.toList.map fun p => (p.1, opv C env p.2)) with
      | none => simp [hr] at h
      | some rows =>
       simp [hr] at h
       obtain ⟨rfl, rfl, rfl⟩ := h
       obtain ⟨u, m', w', h1, h2, h3, h4⟩ := writes_buildSlice hI he hz hc.1 hc.2.1 hc.2.2 hr (rel_parts hI hE parts).1 (rel_parts hI hE parts).2
       refine Wr.of ⟨.value u, u, m', w', ?_, .inl rfl, h2, h3, h4⟩
       simp only [execOp, Sem.run_bind]
       rw [h1]
       rfl
     ·cases h
    ·cases h
   ·cases h
 ·rename_i T a y
  cases hs : storeA C.P T σ (opv C env a) (opv C env y) with
  | none =>
   simp only [hs, Option.map_none, orS] at h
   obtain ⟨σ1, hs1, h⟩ := Option.map_eq_some_iff.1 h
   cases h
   obtain ⟨kn', w', h1, h2, h3, h4⟩ := storeS_sound hI hs1 (rel_opv hI hE a) (rel_opv hI hE y)
   exact ⟨.skip, undef, kn', m, w', by simp [execOp, h1], .inr ⟨rfl, rfl⟩, h2, .base _, h3, h4⟩
  | some σ1 =>
   simp [hs, orS] at h
   obtain ⟨rfl, rfl, rfl⟩ := h
   obtain ⟨w', h1, h2, h3⟩ := store_sound hI hs (rel_opv hI hE a) (rel_opv hI hE y)
   exact Wr.of ⟨.skip, undef, m, w', by simp [execOp, h1], .inr ⟨rfl, rfl⟩, .base _, h2, h3⟩
 ·rename_i t a b
  cases ty' with
  | some e =>
   obtain ⟨u, m', w', h1, h2, h3, h4⟩ := makeT_sound hI h (rel_opv hI hE a) (rel_opv hI hE b)
   exact Wr.of ⟨.value u, u, m', w', by simp [execOp, h1], .inl rfl, h2, h3, h4⟩
  | none =>
   obtain ⟨u, m', w', h1, h2, h3, h4⟩ := make_sound hI h (rel_opv hI hE a) (rel_opv hI hE b)
   exact Wr.of ⟨.value u, u, m', w', by simp [execOp, h1], .inl rfl, h2, h3, h4⟩
 ·rename_i t a lo hi
  obtain ⟨u, m', w', h1, h2, h3, h4⟩ := shrinkT_sound hI h (rel_opv hI hE a) (rel_omap hI hE lo).1 (rel_omap hI hE lo).2 (rel_omap hI hE hi).1 (rel_omap hI hE hi).2
  exact Wr.of ⟨.value u, u, m', w', by simp [execOp, h1], .inl rfl, h2, h3, h4⟩
 ·rename_i t a
  obtain ⟨u, m', w', h1, h2, h3, h4⟩ := range_sound hI h (rel_opv hI hE a)
  exact Wr.of ⟨.value u, u, m', w', by simp [execOp, h1], .inl rfl, h2, h3, h4⟩
 ·rename_i a
  obtain ⟨u, m', w', h1, h2, h3, h4⟩ := next_sound hI (t := type) h (rel_opv hI hE a)
  exact Wr.of ⟨.value u, u, m', w', by simp [execOp, h1], .inl rfl, h2, h3, h4⟩
 ·rename_i s d a
  unfold convG at h
  split at h
  ·rename_i p nm len hx
   split at h
   ·rename_i ety l hg
    split at h
    ·rename_i hc
     cases h
     have ha := rel_opv hI hE a
     rw [hx] at ha
     obtain ⟨u, kn', w', h1, h2, h3, h4⟩ := gives_strgs hI hc.1 hc.2 (sget_some hg) ha
     exact ⟨.value u, u, kn', m, w', by simp [execOp, h1], .inl rfl, h2, h3, h4, Keep.refl _ _ _⟩
    ·cases h
   ·cases h
  ·cases h
 ·rename_i c
  split at h
  ·rename_i t t' x' y' hb ht hx
   have hargs := rel_map hI hE c.args
   rw [hx] at hargs
   obtain ⟨consts, hexec⟩ : ∃ consts, execOp act.eval { dst := dst, op := .call c, type := type, pos := pos, after := after, guard := guard } = builtin .append c.argTypes type consts (c.args.map act.eval) :=
    ⟨_, by simp only [execOp, resolve, hb, invoke, pure_bind]; rfl⟩
   obtain ⟨v, u, hv⟩ := arr_two hargs.1.symm
   have h1 := hargs.2 0 x' v rfl (by rw [hv]; rfl)
   have h2 := hargs.2 1 y' u rfl (by rw [hv]; rfl)
   have hts : c.argTypes = #[t, t'] := by rw [← Array.toArray_toList (xs := c.argTypes), ht]
   obtain ⟨r, m', w', q1, q2, q3, q4⟩ : ∃ r m'' w'', (Builtin.append_ #[t, t'] type #[v, u]).run C.P w = .ok r w'' ∧ Rel kn m'' x r ∧ Inv C B kn m'' σ' nx' w'' ∧ Keep m σ nx m'' σ' nx' := by
    cases ty' with
    | some e => exact appendT_sound hI (ty := type) h h1 h2
    | none => exact append_sound hI (ty := type) h h1 h2
   refine Wr.of ⟨.value r, r, m', w', ?_, .inl rfl, q2, q3, q4⟩
   rw [hexec, hv, hts]
   simp only [builtin, Sem.run_bind, q1, Result.andThen_ok, Sem.run_pure]
  ·rename_i t x' hb ht hx
   have hargs := rel_map hI hE c.args
   rw [hx] at hargs
   obtain ⟨consts, hexec⟩ : ∃ consts, execOp act.eval { dst := dst, op := .call c, type := type, pos := pos, after := after, guard := guard } = builtin .clear c.argTypes type consts (c.args.map act.eval) :=
    ⟨_, by simp only [execOp, resolve, hb, invoke, pure_bind]; rfl⟩
   obtain ⟨v, hv⟩ := arr_one hargs.1.symm
   have h1 := hargs.2 0 x' v rfl (by rw [hv]; rfl)
   have hts : c.argTypes = #[t] := by rw [← Array.toArray_toList (xs := c.argTypes), ht]
   obtain ⟨σ1, hs, h⟩ := Option.map_eq_some_iff.1 h
   cases h
   obtain ⟨w', q1, q3, q4⟩ := clearT_sound hI (ty := type) hs h1
   refine Wr.of ⟨.value (.tuple #[]), .tuple #[], m, w', ?_, .inl rfl, .tup [] #[] rfl (fun i x v a => by simp at a), q3, q4⟩
   rw [hexec, hv, hts]
   simp only [builtin, Sem.run_bind, q1, Result.andThen_ok, Sem.run_pure]
  ·cases h
 ·cases h
theorem eop_sound {env : Nat → AV} {n : Nat} {act : Act} (hI : Inv C B kn m σ nx w) (hE : RelEnv kn m env n act) {o : Oper} {x : AV} {σ' : Sto} {nx' : Nat} {ty' : Option E} (h : eop C ty' o.op env σ nx = some (x, σ', nx')) :
  Writes C B kn m σ nx x σ' nx' ((execOp act.eval o).run C.P w) := by
 cases ho : o.op with
 | buildSlice t len parts =>
  rw [ho] at h
  simp only [eop] at h
  split at h
  ·exact sop_sound hI hE (by rw [ho]; exact h)
  ·exact eop0_sound hI hE (by rw [ho]; exact h)
 | load T a =>
  rw [ho] at h
  simp only [eop] at h
  split at h
  ·exact sop_sound hI hE (by rw [ho]; exact h)
  ·cases h
 | slice t a lo hi mx =>
  rw [ho] at h
  simp only [eop] at h
  split at h
  ·exact sop_sound hI hE (by rw [ho]; exact h)
  ·exact eop0_sound hI hE (by rw [ho]; exact h)
 | call c =>
  rw [ho] at h
  simp only [eop] at h
  split at h
  ·exact sop_sound hI hE (by rw [ho]; exact h)
  ·exact eop0_sound hI hE (by rw [ho]; exact h)
 | _ => rw [ho] at h; exact eop0_sound (ty' := ty') hI hE (by rw [ho]; exact h)
end
end Go.Ab

namespace Go.Ab
open Go Go.RowKit
inductive AOut where
 | ret (v : AV)
 | pan (v : AV)
def RelOut (kn : Kn) (m : Mp) : AOut → Ending → Prop
 | .ret v, .returned u => Rel kn m v u
 | .pan v, .panicked chain => ∃ u, chain = [{ v := u, recovered := false }] ∧ Rel kn m v u
 | _, _ => False
def m0 : Mp := fun _ => none
structure KnOK (C : Cx) (kn : Kn) (w : World) : Prop where
 ok : ∀ b o v, kn b o = some v → w.cell? ⟨b, o, none⟩ = some v
 glob : ∀ g, Rel kn m0 (C.gl g) (.pointer (some ⟨g, 0, none⟩))
 tab : TabW C w
def bodyOK (P : Program) (g : FuncId) : Bool :=
 match P.funcs[g]? with
 | some fn => !(fn.name == "runtime.NumGoroutine") && fn.body.isSome
 | none => false
theorem calls_of_bodyOK {P : Program} {g : FuncId} (h : bodyOK P g = true) (args : Array Value) (w : World) : (callFunc g args).run P w = .ok (.enter g args) w := by
 unfold bodyOK at h
 split at h
 ·rename_i fn hf
  simp only [Bool.and_eq_true, Bool.not_eq_true', Option.isSome_iff_exists] at h
  obtain ⟨h1, c, hc⟩ := h
  unfold callFunc
  have h1' : ¬ fn.name = "runtime.NumGoroutine" := by simpa using h1
  simp [hf, h1', hc]
 ·cases h
def Does (P : Program) (g : FuncId) (vs : Array Value) (w : World) (post : Ending → World → Prop) : Prop :=
 (bodyOK P g = true ∧ Calls P g vs w post) ∨ (∃ u w', (callFunc g vs).run P w = .ok (.value u) w' ∧ post (.returned u) w')
theorem Does.mono {P : Program} {g : FuncId} {vs : Array Value} {w : World} {post post' : Ending → World → Prop} (h : Does P g vs w post) (hp : ∀ e w', post e w' → post' e w') : Does P g vs w post' :=
 h.elim (fun h => .inl ⟨h.1, h.2.mono hp⟩) (fun ⟨u, w', h1, h2⟩ => .inr ⟨u, w', h1, hp _ _ h2⟩)
def PCall (C : Cx) (g : FuncId) (args : List AV) (Q : AOut → Prop) : Prop :=
 ∀ (kn : Kn) (w : World) (vs : List Value), KnOK C kn w → RelL kn m0 args vs →
  Does C.P g vs.toArray w fun e w' => ∃ out kn', Q out ∧ RelOut kn' m0 out e ∧ KnOK C kn' w' ∧ Below w.heap.size w w' ∧ ∀ b, b < w.heap.size → kn' b = kn b
def ACall (C : Cx) (g : FuncId) (args : List AV) (σ : Sto) (nx : Nat) (Q : AOut → Sto → Nat → Prop) : Prop :=
 ∀ (B : Base) (kn : Kn) (m : Mp) (w : World) (vs : List Value), Inv C B kn m σ nx w → RelL kn m args vs →
  Does C.P g vs.toArray w fun e w' => ∃ out kn' m' σ' nx', Q out σ' nx' ∧ RelOut kn' m' out e ∧ KnLe kn kn' ∧ Inv C B kn' m' σ' nx' w' ∧ Keep m σ nx m' σ' nx'
theorem PCall.mono {C : Cx} {g : FuncId} {args : List AV} {Q Q' : AOut → Prop} (h : PCall C g args Q) (hq : ∀ o, Q o → Q' o) : PCall C g args Q' :=
 fun kn w vs h1 h2 => (h kn w vs h1 h2).mono fun e w' ⟨out, kn', a, b⟩ => ⟨out, kn', hq _ a, b⟩
theorem ACall.mono {C : Cx} {g : FuncId} {args : List AV} {σ : Sto} {nx : Nat} {Q Q' : AOut → Sto → Nat → Prop} (h : ACall C g args σ nx Q) (hq : ∀ o σ' nx', Q o σ' nx' → Q' o σ' nx') : ACall C g args σ nx Q' :=
 fun B kn m w vs h1 h2 => (h B kn m w vs h1 h2).mono fun e w' ⟨out, kn', m', σ', nx', a, b⟩ => ⟨out, kn', m', σ', nx', hq _ _ _ a, b⟩
theorem Inv.knOK {C : Cx} {B : Base} {kn : Kn} {m : Mp} {σ : Sto} {nx : Nat} {w : World} (h : Inv C B kn m σ nx w) : KnOK C kn w := ⟨h.knok, fun g => (h.glob g).rf (C.rf g) m0, h.tabW⟩
theorem RelL.rf {kn : Kn} {m : Mp} {args : List AV} {vs : List Value} (h : RelL kn m args vs) (hf : RFL args) (m' : Mp) : RelL kn m' args vs := ⟨h.1, fun i x v a b => (h.2 i x v a b).rf (hf.get a) m'⟩
theorem RelOut.mono {kn kn' : Kn} {m m' : Mp} {o : AOut} {e : Ending} (h : RelOut kn m o e) (hk : KnLe kn kn') (hm : MpLe m m') : RelOut kn' m' o e := by
 cases o <;> cases e <;> simp only [RelOut] at h ⊢
 ·exact h.mono hk hm
 ·obtain ⟨u, a, b⟩ := h; exact ⟨u, a, b.mono hk hm⟩
theorem PCall.acall {C : Cx} {g : FuncId} {args : List AV} {Q : AOut → Prop} (h : PCall C g args Q) (hf : RFL args) (σ : Sto) (nx : Nat) : ACall C g args σ nx (fun o σ' nx' => Q o ∧ σ' = σ ∧ nx' = nx) := by
 refine fun B kn m w vs hI hr => (h kn w vs hI.knOK (hr.rf hf m0)).mono ?_
 rintro e w' ⟨out, kn', hq, ho, hk, hb, hkn⟩
 obtain ⟨hle, hI'⟩ := hI.grow (kn' := kn') hb.size hb.os hb.tape hb.output hb.block hkn (fun b o v _ e => hk.ok b o v e)
 exact ⟨out, kn', m, σ, nx, ⟨hq, rfl, rfl⟩, ho.mono (KnLe.refl _) (fun n l e => by cases e), hle, hI', Keep.refl _ _ _⟩
structure Hints where
 mb : List Nat := []
 ac : List Nat := []
 pl : List Nat := []
 cl : List Nat := []
 ty : List (Nat × E) := []
def celO : AObj → AObj
 | .cells T cs => .cells T cs
 | _ => .none
def celS (σ : Sto) : Sto := σ.map fun q => (q.1, celO q.2)
inductive Kind where
 | fn | eff | call | panic | bad
 deriving DecidableEq
def dstIn (l : List Nat) : Option Nat → Bool
 | some d => l.contains d
 | none => false
def tyIn : List (Nat × E) → Nat → Option E
 | [], _ => none
 | (d', e) :: l, d => if d' = d then some e else tyIn l d
def tyOf (l : List (Nat × E)) : Option Nat → Option E
 | some d => tyIn l d
 | none => none
def celP (H : Hints) (d : Option Nat) (σ : Sto) : Sto := if dstIn H.cl d = true then celS σ else []
def kindOf (H : Hints) (o : Oper) : Kind :=
 match o.op with
 | .call c => match c.callee with
  | .builtin .append => .eff
  | .builtin .clear => .eff
  | .builtin _ => .fn
  | .value _ => .call
  | .invoke _ _ => .bad
 | .load _ _ => if dstIn H.mb o.dst then .eff else .fn
 | .box _ _ => if dstIn H.mb o.dst then .eff else .fn
 | .convert _ _ _ => if dstIn H.mb o.dst then .eff else .fn
 | .buildSlice _ _ _ => if dstIn H.mb o.dst then .eff else .fn
 | .slice _ _ _ _ _ => if dstIn H.mb o.dst then .eff else .fn
 | .store _ _ _ => .eff
 | .makeSlice _ _ _ => .eff
 | .range _ _ => .eff
 | .next _ _ => .eff
 | .panic _ => .panic
 | _ => .fn
def calleeA (C : Cx) (c : Call) (env : Nat → AV) : Option (FuncId × List AV) :=
 match c.callee with
 | .value f => match opv C env f with
  | .fn (.func g) first caps => some (g, first ++ (c.args.toList.map (opv C env) ++ caps))
  | _ => none
 | _ => none
def CallP (C : Cx) (own tot : Bool) (g : FuncId) (args : List AV) (σ : Sto) (nx : Nat) (K KP : AV → Sto → Nat → Prop) : Prop :=
 ∃ Q : AOut → Sto → Nat → Prop, ACall C g args σ nx Q ∧ (∀ v σ' nx', Q (.ret v) σ' nx' → K v σ' nx') ∧ (∀ v σ' nx', Q (.pan v) σ' nx' → KP v σ' nx') ∧
  (tot = true ∨ ∃ v σ' nx', Q (.ret v) σ' nx') ∧ (own = true ∨ (RFL args ∧ ∃ Q', PCall C g args Q' ∧ ∀ o σ' nx', Q o σ' nx' ↔ (Q' o ∧ σ' = σ ∧ nx' = nx)))
def aop (C : Cx) (H : Hints) (tot : Bool) (al : Nat × Nat) (o : Oper) (K KP : AV → Sto → Nat → Prop) (s : St) : Prop :=
 match kindOf H o with
 | .fn => ∃ v, fop C al o.op s.env (if dstIn H.pl o.dst = true then celP H o.dst s.σ else s.σ) = some v ∧ K v s.σ s.nx
 | .eff => ∃ v σ' nx', eop C (tyOf H.ty o.dst) o.op s.env s.σ s.nx = some (v, σ', nx') ∧ K v σ' nx'
 | .call => match o.op with
  | .call c => ∃ g args, calleeA C c s.env = some (g, args) ∧ CallP C (dstIn H.ac o.dst) tot g args s.σ s.nx K KP
  | _ => False
 | .panic => match o.op with
  | .panic x => ∃ t v, opv C s.env x = .iface t v ∧ KP (.iface t v) s.σ s.nx
  | _ => False
 | .bad => False
theorem readA_nil {P : Program} {T : TypeId} {a x : AV} (h : readA P T [] a = some x) (σ : Sto) : readA P T σ a = some x := by
 cases a <;> simp_all [readA, sget]
theorem fop_nil {C : Cx} {al : Nat × Nat} {op : Op} {env : Nat → AV} {x : AV} (h : fop C al op env [] = some x) (σ : Sto) : fop C al op env σ = some x := by
 cases op <;> first | exact h | exact readA_nil h σ
theorem celS_get {σ : Sto} {p nm : Nat} {o : AObj} (h : sget (celS σ) p nm = some o) : (∃ T cs, o = .cells T cs ∧ sget σ p nm = some o) ∨ o = .none := by
 unfold sget celS at h
 rw [List.getElem?_map] at h
 cases hx : σ[p]? with
 | none => rw [hx] at h; cases h
 | some q =>
  obtain ⟨n, ob⟩ := q
  rw [hx] at h
  simp only [Option.map_some] at h
  split at h
  ·rename_i hn
   cases h
   cases ob with
   | cells T cs => exact .inl ⟨T, cs, rfl, by unfold sget; rw [hx]; simp only; rw [if_pos hn]; rfl⟩
   | _ => exact .inr rfl
  ·cases h
theorem readA_celS {P : Program} {T : TypeId} {σ : Sto} {a x : AV} (h : readA P T (celS σ) a = some x) : readA P T σ a = some x := by
 cases a with
 | ref p n off =>
  simp only [readA] at h ⊢
  cases hs : sget (celS σ) p n with
  | none => simp [hs] at h
  | some o =>
   rw [hs] at h
   rcases celS_get hs with ⟨T', cs, rfl, h2⟩ | rfl
   ·rw [h2]; exact h
   ·cases h
 | eref p n i off =>
  simp only [readA] at h
  cases hs : sget (celS σ) p n with
  | none => simp [hs] at h
  | some o =>
   rw [hs] at h
   rcases celS_get hs with ⟨T', cs, rfl, h2⟩ | rfl <;> cases h
 | rptr cs => exact h
 | _ => cases h
theorem fop_celP {C : Cx} {H : Hints} {d : Option Nat} {al : Nat × Nat} {op : Op} {env : Nat → AV} {σ : Sto} {x : AV} (h : fop C al op env (celP H d σ) = some x) : fop C al op env σ = some x := by
 unfold celP at h
 split at h
 ·cases op <;> first | exact h | exact readA_celS h
 ·exact fop_nil h σ
inductive AExit where
 | normal
 | exit (id : Nat)
 | goto (l : Nat)
 | ret
 | pan (v : AV)
def RelExit (kn : Kn) (m : Mp) : AExit → Exit → Prop
 | .normal, .normal => True
 | .exit i, .exit j => i = j
 | .goto i, .goto j => i = j
 | .ret, .ret => True
 | .pan v, .panic chain => ∃ u, chain = [{ v := u, recovered := false }] ∧ Rel kn m v u
 | _, _ => False
structure RS (C : Cx) (B : Base) (n : Nat) (ds : List Deferred) (kn₀ : Kn) (m₀ : Mp) (σ₀ : Sto) (nx₀ : Nat) (kn : Kn) (m : Mp) (s : St) (act : Act) (w : World) : Prop where
 env : RelEnv kn m s.env n act
 defs : act.defers = ds
 inv : Inv C B kn m s.σ s.nx w
 knle : KnLe kn₀ kn
 keep : Keep m₀ σ₀ nx₀ m s.σ s.nx
section
variable {C : Cx} {B : Base} {n : Nat} {ds : List Deferred} {kn₀ : Kn} {m₀ : Mp} {σ₀ : Sto} {nx₀ : Nat}
theorem aop_sound {H : Hints} {tot : Bool} {al : Nat × Nat} {o : Oper} {K KP : AV → Sto → Nat → Prop} {s : St} {kn : Kn} {m : Mp} {act : Act} {w : World} (hlt₀ : ∀ (p nm : Nat) (ob : AObj), σ₀[p]? = some (nm, ob) → nm < nx₀)
  (hR : RS C B n ds kn₀ m₀ σ₀ nx₀ kn m s act w) (hna : isAlloc o.op = false) (hd : ∀ d, o.dst = some d → d < n) (h : aop C H tot al o K KP s)
  {next : Act → World → Prop} {Q : Exit → Act → World → Prop}
  (hnext : ∀ v kn' m' σ' nx' act' w', K v σ' nx' → RS C B n ds kn₀ m₀ σ₀ nx₀ kn' m' ⟨updo s.env o.dst v, σ', nx'⟩ act' w' → Keep m s.σ s.nx m' σ' nx' → next act' w')
  (hpan : ∀ v u kn' m' σ' nx' act' w', KP v σ' nx' → Rel kn' m' v u → RS C B n ds kn₀ m₀ σ₀ nx₀ kn' m' ⟨s.env, σ', nx'⟩ act' w' → Q (.panic [{ v := u, recovered := false }]) act' w') :
  o.wp C.P act w next Q := by
 have mkRS : ∀ {v : AV} {u : Value} {kn' : Kn} {m' : Mp} {σ' : Sto} {nx' : Nat} {w' : World}, Rel kn' m' v u → KnLe kn kn' → Inv C B kn' m' σ' nx' w' → Keep m s.σ s.nx m' σ' nx' →
   RS C B n ds kn₀ m₀ σ₀ nx₀ kn' m' ⟨updo s.env o.dst v, σ', nx'⟩ (act.put o.dst u) w' := by
  intro v u kn' m' σ' nx' w' hv hk hI hkp
  refine ⟨(hR.env.mono hk (hkp.mple hR.inv)).put o.dst hd hv, ?_, hI, hR.knle.trans hk, hR.keep.trans hkp hlt₀⟩
  cases hdst : o.dst <;> simp [Act.put, hR.defs]
 unfold aop at h
 unfold Oper.wp
 split at h
 ·obtain ⟨v, hv, hK⟩ := h
  have hv' : fop C al o.op s.env s.σ = some v := by
   split at hv
   ·exact fop_celP hv
   ·exact hv
  obtain ⟨u, kn', w', h1, h2, h3, h4⟩ := fop_sound hR.inv hR.env hna hv'
  rw [h1]
  exact hnext v kn' m _ _ _ _ hK (mkRS h3 h2 h4 (Keep.refl _ _ _)) (Keep.refl _ _ _)
 ·obtain ⟨v, σ', nx', hv, hK⟩ := h
  obtain ⟨nxt, u, kn', m', w', h1, h2, hkk, h3, h4, h5⟩ := eop_sound hR.inv hR.env hv
  rw [h1]
  rcases h2 with rfl | ⟨rfl, rfl⟩
  ·exact hnext v kn' m' _ _ _ _ hK (mkRS h3 hkk h4 h5) h5
  ·exact hnext v kn' m' _ _ _ _ hK (mkRS h3 hkk h4 h5) h5
 ·split at h
  ·rename_i c hop
   obtain ⟨g, args, hc, Qc, hAC, hk1, hk2, _, _⟩ := h
   unfold calleeA at hc
   split at hc
   ·rename_i f hcal
    split at hc
    ·rename_i g' first caps hf
     cases hc
     have hfr := rel_opv hR.inv hR.env f
     rw [hf] at hfr
     generalize hfv : act.eval f = fv at hfr
     cases hfr with
     | fn _ _ _ first' caps' hl1 hl2 hr1 hr2 =>
      have hargs := rel_map hR.inv hR.env c.args
      have hrel : RelL kn m (first ++ (c.args.toList.map (opv C s.env) ++ caps)) (first'.toList ++ ((c.args.map act.eval).toList ++ caps'.toList)) := by
       refine RelL.append ⟨by simpa using hl1, fun i x v a b => hr1 i x v a (by simpa using b)⟩ (RelL.append ⟨by simp, fun i x v a b => hargs.2 i x v a (by rw [← Array.getElem?_toList]; exact b)⟩ ⟨by simpa using hl2, fun i x v a b => hr2 i x v a (by simpa using b)⟩)
      have hcall := hAC B kn m w _ hR.inv hrel
      have harr : (first'.toList ++ ((c.args.map act.eval).toList ++ caps'.toList)).toArray = first' ++ c.args.map act.eval ++ caps' := by
       apply Array.ext'
       simp
      rw [harr] at hcall
      have hexec : execOp act.eval o = callFunc g (first' ++ c.args.map act.eval ++ caps') := by
       obtain ⟨dst, op, type, pos, after, guard⟩ := o
       simp only at hop
       subst hop
       simp [execOp, resolve, hcal, hfv, Deferred.ofValue, invoke]
      have fin : ∀ e w', (∃ out kn' m' σ' nx', Qc out σ' nx' ∧ RelOut kn' m' out e ∧ KnLe kn kn' ∧ Inv C B kn' m' σ' nx' w' ∧ Keep m s.σ s.nx m' σ' nx') → (match e with
        | .returned u => next (act.put o.dst u) w'
        | .panicked ch => Q (.panic ch) act w'
        | .outgrown => False) := by
       rintro e w' ⟨out, kn', m', σ', nx', hq, ho, hkl, hI', hkp⟩
       cases out with
       | ret v =>
        cases e with
        | returned u => exact hnext v kn' m' _ _ _ _ (hk1 v σ' nx' hq) (mkRS ho hkl hI' hkp) hkp
        | panicked ch => exact ho.elim
        | outgrown => exact ho.elim
       | pan v =>
        cases e with
        | returned u => exact ho.elim
        | panicked ch =>
         obtain ⟨u, rfl, hu⟩ := ho
         exact hpan v u kn' m' σ' nx' act w' (hk2 v σ' nx' hq) hu ⟨hR.env.mono hkl (hkp.mple hR.inv), hR.defs, hI', hR.knle.trans hkl, hR.keep.trans hkp hlt₀⟩
        | outgrown => exact ho.elim
      rcases hcall with ⟨hbo, hcall⟩ | ⟨u, w', hval, hpost⟩
      ·have hrun : (execOp act.eval o).run C.P w = .ok (.enter g (first' ++ c.args.map act.eval ++ caps')) w := by rw [hexec]; exact calls_of_bodyOK hbo _ w
       rw [hrun]
       simp only [Oper.upon]
       refine hcall.mono fun e w' he => ?_
       have := fin e w' he
       cases e with
       | returned u => exact this
       | panicked ch => exact this
       | outgrown => exact this.elim
      ·rw [hexec, hval]
       simp only [Oper.upon]
       exact fin _ _ hpost
    ·cases hc
   ·cases hc
  ·exact h.elim
 ·split at h
  ·rename_i x hop
   obtain ⟨t, v, hx, hKP⟩ := h
   have hxr := rel_opv hR.inv hR.env x
   rw [hx] at hxr
   generalize hxv : act.eval x = xv at hxr
   cases hxr with
   | iface _ _ v' hr =>
    have hrun : (execOp act.eval o).run C.P w = .halt (.panic (.iface t v')) w := by
     obtain ⟨dst, op, type, pos, after, guard⟩ := o
     simp only at hop
     subst hop
     simp [execOp, hxv, Instr.panic]
    rw [hrun]
    exact hpan _ _ kn m _ _ act w hKP (.iface t v v' hr) ⟨hR.env, hR.defs, hR.inv, hR.knle, hR.keep⟩
  ·exact h.elim
 ·exact h.elim
end
end Go.Ab
