/-
  STACKS OF GROWING SLICES: rows are read, appended to and put back.
-/
import Derived.Test.YthbkbjlfghikfaaGreatDoorZ3
set_option linter.unusedVariables false
set_option linter.unusedSimpArgs false
namespace Go.Ab
open Go Go.RowKit
section
variable {C : Cx} {B : Base} {kn : Kn} {m : Mp} {σ : Sto} {nx : Nat} {w : World}
def notInt (P : Program) (t : TypeId) : Prop := P.underlying t = some .string ∨ ∃ e, P.underlying t = some (.slice e)
theorem run_append_stay {t t' ty e sz n sLen sCap : Nat} {base : Option Addr} {yv : Value} {news : List Value} (hu : C.P.underlying t = some (.slice e)) (ht' : notInt C.P t') (hsz : szT C.P e = some sz)
  (h1 : (Builtin.lenOf yv).run C.P w = .ok n w) (h2 : (Builtin.firstCells sz n yv).run C.P w = .ok news.toArray w) (hroom : sLen + n ≤ sCap) :
  (Builtin.append_ #[t, t'] ty #[.slice base sLen sCap, yv]).run C.P w = match base with
   | some a => ((storeCells (a.add (sLen * sz)) news).run C.P w).andThen fun _ w' => .ok (.slice (some a) (sLen + n) sCap) w'
   | none => .ok (.slice none (sLen + n) sCap) w := by
 rcases ht' with hd | ⟨e', hd⟩ <;> cases base <;> simp [Builtin.append_, run_underlying hu, run_underlying hd, run_sizeOf' hsz, h1, h2, hroom]
theorem run_append_go {t t' ty e sz n sLen sCap : Nat} {i : TypeInfo} {z : Value} {base : Option Addr} {yv : Value} {olds news : List Value} (hu : C.P.underlying t = some (.slice e)) (ht' : notInt C.P t') (hi : C.P.info? e = some i) (hsz : i.size = sz) (hz : i.zero = some z)
  (h1 : (Builtin.lenOf yv).run C.P w = .ok n w) (h2 : (Builtin.firstCells sz n yv).run C.P w.drew = .ok news.toArray w.drew) (h3 : (Builtin.firstCells sz sLen (.slice base sLen sCap)).run C.P w.drew = .ok olds.toArray w.drew)
  (hg : sCap < sLen + n) (hm : sLen + n ≤ 4611686018427387904) (hb : (sLen + n) * i.bytes ≤ 140737488355328) :
  (Builtin.append_ #[t, t'] ty #[.slice base sLen sCap, yv]).run C.P w =
   .ok (.slice (some ⟨w.heap.size, 0, none⟩) (sLen + n) (grownCap w (sLen + n) sCap e)) (w.drew.alloc (.cells (olds.toArray ++ news.toArray ++ Builtin.zeroCells z.cells (grownCap w (sLen + n) sCap e - (sLen + n))) e)) := by
 have hn : ¬ (sLen + n ≤ sCap) := by omega
 have h63' : ¬ (9223372036854775807 < ((sLen : Int) + (n : Int))) := by omega
 have h48' : ¬ (281474976710656 < Builtin.nextslicecap (sLen + n) sCap * i.bytes) := by have := growslice_fits hg hb; omega
 have hsz' : szT C.P e = some sz := by simp [szT, hi, hsz]
 rcases ht' with hd | ⟨e', hd⟩ <;> simp [Builtin.append_, run_underlying hu, run_underlying hd, run_sizeOf' hsz', zeroValue, run_typeInfo' hi, hz, h1, h2, h3, hn, h63', h48', Question.forced, newRow, grownCap] <;> (congr 2; apply Array.ext'; simp)
theorem slcT_notInt {P : Program} {t : Nat} (h : slcT P t = true) : notInt P t := by
 exact .inr (slcT_sound h)
theorem strT_notInt {P : Program} {t : Nat} (h : strT P t = true) : notInt P t := .inl (strT_sound h)
theorem flat_append {sz : Nat} {r1 r2 : List (List AV)} {c1 c2 : List Value} (h1 : Flat kn m sz r1 c1) (hl1 : c1.length = r1.length * sz) (h2 : Flat kn m sz r2 c2) : Flat kn m sz (r1 ++ r2) (c1 ++ c2) := by
 refine ⟨fun i row hi => ?_, fun i row j x v hi hj hv => ?_, fun v hv => ?_⟩
 ·rcases Nat.lt_or_ge i r1.length with h | h
  ·rw [List.getElem?_append_left h] at hi; exact h1.1 i row hi
  ·rw [List.getElem?_append_right h] at hi; exact h2.1 _ row hi
 ·rcases Nat.lt_or_ge i r1.length with h | h
  ·rw [List.getElem?_append_left h] at hi
   have hjl : j < sz := by rw [← h1.1 i row hi]; exact (List.getElem?_eq_some_iff.1 hj).1
   rw [List.getElem?_append_left (by rw [hl1]; exact idx_lt h hjl)] at hv
   exact h1.2.1 i row j x v hi hj hv
  ·rw [List.getElem?_append_right h] at hi
   have hge : c1.length ≤ i * sz + j := by rw [hl1]; have := Nat.mul_le_mul_right sz h; omega
   rw [List.getElem?_append_right hge] at hv
   refine h2.2.1 (i - r1.length) row j x v hi hj ?_
   rw [← hv]; congr 1
   rw [hl1, Nat.sub_mul]
   have := Nat.mul_le_mul_right sz h
   omega
 ·rcases List.mem_append.1 hv with hv | hv
  ·exact h1.2.2 v hv
  ·exact h2.2.2 v hv
theorem flat_pad {sz : Nat} {r : List (List AV)} {c d : List Value} (h : Flat kn m sz r c) (hl : c.length = r.length * sz) (hd : ∀ v ∈ d, v.oneCell' = true) : Flat kn m sz r (c ++ d) := by
 refine ⟨h.1, fun i row j x v hi hj hv => ?_, fun v hv => ?_⟩
 ·have hjl : j < sz := by rw [← h.1 i row hi]; exact (List.getElem?_eq_some_iff.1 hj).1
  rw [List.getElem?_append_left (by rw [hl]; exact idx_lt (List.getElem?_eq_some_iff.1 hi).1 hjl)] at hv
  exact h.2.1 i row j x v hi hj hv
 ·rcases List.mem_append.1 hv with hv | hv
  ·exact h.2.2 v hv
  ·exact hd v hv
theorem Flat.mono {kn' : Kn} {m' : Mp} {sz : Nat} {r : List (List AV)} {c : List Value} (h : Flat kn m sz r c) (hk : KnLe kn kn') (hm : MpLe m m') : Flat kn' m' sz r c :=
 ⟨h.1, fun i row j x v a b d => (h.2.1 i row j x v a b d).mono hk hm, h.2.2⟩
theorem zeroCells_one {z : Array Value} (h : ∀ v ∈ z.toList, v.oneCell' = true) (n : Nat) : ∀ v ∈ (Builtin.zeroCells z n).toList, v.oneCell' = true := by
 intro v hv
 simp only [Builtin.zeroCells, Array.toList_map, List.mem_map] at hv
 obtain ⟨k, hk, rfl⟩ := hv
 have hk' : k < n * z.size := by simpa using hk
 have hpos : 0 < z.size := Nat.pos_of_ne_zero (fun e => by rw [e] at hk'; simp at hk')
 have hlt := Nat.mod_lt k hpos
 rw [getElem!_pos z (k % z.size) hlt]
 exact h _ (by simp)
theorem grown_obj {e sz n sCap nm blk : Nat} {rows : List (List AV)} {z : Value} {cells : List Value} {w' : World} (hf : Flat kn m sz rows cells) (hl : cells.length = rows.length * sz) (hn : rows.length = n) (hz : z.cells.size = sz) (hz1 : ∀ v ∈ z.cells.toList, v.oneCell' = true)
  (hm : n ≤ 4611686018427387904) (m' : Mp) (hmle : MpLe m m') (hnm : m' nm = some ⟨blk, 0, grownCap w n sCap e, sz, n, false⟩) (hw : w'.heap[blk]? = some (.cells (cells.toArray ++ Builtin.zeroCells z.cells (grownCap w n sCap e - n)) e (0, 0))) :
  GvRel kn m' w' nm sz e rows := by
 have hge := grownCap_ge w n sCap e
 have hmax := grownCap_le_maxLen w n sCap e (le62_max hm)
 have hpad := flat_pad hf hl (zeroCells_one hz1 (grownCap w n sCap e - n))
 refine gvec_obj hnm rfl hn.symm rfl hw rfl ?_ (by rw [hn]; exact hge) hmax (fun v hv => hpad.2.2 v (by simpa using hv)) hf.1 (fun i row j x v a b c => (hpad.2.1 i row j x v a b (by rw [← c, ← Array.getElem?_toList]; simp)).mono (KnLe.refl _) hmle)
 rw [Array.size_append, size_zeroCells, hz, List.size_toArray, hl, hn, ← Nat.add_mul]
 exact Nat.le_of_eq (by congr 1; show grownCap w n sCap e = _; omega)
theorem gv_elems {nm esz off len ety : Nat} {rows : List (List AV)} {loc : Loc} (hgv : GvRel kn m w nm esz ety rows) (hs0 : 0 < esz) (hm : m nm = some loc) (hn : loc.nil = false) (hle : off + len ≤ rows.length) (hl : len + off ≤ loc.cap) :
  Elems C kn m w esz ((rows.drop off).take len) (.slice (some ⟨loc.blk, loc.off + off * loc.esz, none⟩) len (loc.cap - off)) := by
 obtain ⟨hll, he, arr, hw, hsz, hle', hmx, hone, hrl, hrr⟩ := hgv.get hm hn
 have hlen : ((rows.drop off).take len).length = len := by simp; omega
 have hsub : ∀ (i : Nat) (row : List AV), ((rows.drop off).take len)[i]? = some row → i < len ∧ rows[off + i]? = some row := fun i row hi => by
  rw [List.getElem?_take] at hi
  split at hi
  ·rename_i hil; rw [List.getElem?_drop] at hi; exact ⟨hil, hi⟩
  ·cases hi
 have hin : ∀ i j, i < len → j < esz → loc.off + (off + i) * esz + j < arr.size := fun i j hi hj => by
  have h1 := idx_lt (show off + i < loc.cap by omega) hj
  omega
 have hmem : ∀ i j, i < len → j < esz → w.cell? ⟨loc.blk, loc.off + (off + i) * esz + j, none⟩ = some (arr.getD (loc.off + (off + i) * esz + j) undef) := fun i j hi hj => by
  have := hin i j hi hj
  simp [World.cell?, hw, this]
 have fm := flat_mk (kn := kn) (m := m) hs0 (rows := (rows.drop off).take len) (fun i row hi => hrl _ _ (hsub i row hi).2) (fun i j => arr.getD (loc.off + (off + i) * esz + j) undef)
  (fun i row j x hi hj => by
   obtain ⟨hil, hi'⟩ := hsub i row hi
   have hjl : j < esz := by rw [← hrl _ _ hi']; exact (List.getElem?_eq_some_iff.1 hj).1
   exact hrr _ _ _ _ _ hi' hj (by simp [hin i j hil hjl]))
  (fun i row j x hi hj => by
   obtain ⟨hil, hi'⟩ := hsub i row hi
   have hjl : j < esz := by rw [← hrl _ _ hi']; exact (List.getElem?_eq_some_iff.1 hj).1
   exact hone _ (by simp [hin i j hil hjl]))
 refine ⟨_, by simp, fm, fun w2 hw2 => ⟨by rw [hlen]; rfl, ?_⟩⟩
 refine run_loadRange loc.blk (loc.off + off * loc.esz) _ _ (by simp) (fun k v hv => ?_) w2 hw2
 have hk' : k < ((rows.drop off).take len).length * esz := by
  have := (List.getElem?_eq_some_iff.1 hv).1
  simpa using this
 rw [List.getElem?_map, List.getElem?_range hk'] at hv
 simp only [Option.map_some, Option.some.injEq] at hv
 subst hv
 rw [hlen] at hk'
 have hq : k / esz < len := (Nat.div_lt_iff_lt_mul hs0).2 hk'
 have := hmem (k / esz) (k % esz) hq (Nat.mod_lt _ hs0)
 rw [← this]
 congr 2
 rw [he, Nat.add_mul]
 have := Nat.div_add_mod' k esz
 omega
structure AppTy (C : Cx) (t t' e sz bytes : Nat) (zv : Value) : Prop where
 hu : C.P.underlying t = some (.slice e)
 hni : notInt C.P t'
 i : ∃ i, C.P.info? e = some i ∧ i.size = sz ∧ i.bytes = bytes ∧ i.zero = some zv
 hzs : zv.cells.size = sz
 hz1 : ∀ v ∈ zv.cells.toList, v.oneCell' = true
theorem AppTy.hsz {t t' e sz bytes : Nat} {zv : Value} (h : AppTy C t t' e sz bytes zv) : szT C.P e = some sz := by
 obtain ⟨i, h1, h2, _⟩ := h.i; simp [szT, h1, h2]
theorem app_ty {t t' e sz bytes : Nat} (he : elmT C.P t = some (e, sz, bytes)) (hni : notInt C.P t') (hzl : ((zeroCells C.P e).map (·.length)) = some sz) : ∃ zv, AppTy C t t' e sz bytes zv := by
 obtain ⟨hu, hsz, i, hi, his, hib⟩ := elm_sound he
 obtain ⟨z, hz⟩ : ∃ z, zeroCells C.P e = some z := by
  cases hz : zeroCells C.P e with
  | none => simp [hz] at hzl
  | some z => exact ⟨z, rfl⟩
 rw [hz] at hzl
 simp only [Option.map_some, Option.some.injEq] at hzl
 obtain ⟨i', zv, hi', hzv, rfl, hzr⟩ := zero_sound hz (fun _ _ => none) (fun _ => none)
 rw [hi] at hi'; cases hi'
 exact ⟨zv, hu, hni, ⟨i, hi, his, hib, hzv⟩, by rw [← Array.length_toList, ← hzr.1.1]; exact hzl, hzr.2⟩
theorem app_fresh {t t' ty e sz bytes : Nat} {zv yv : Value} {ys : List (List AV)} (hT : AppTy C t t' e sz bytes zv) (hE : Elems C kn m w sz ys yv) (ad : Option Addr) (hne : ys.length ≠ 0) (hb : ys.length * bytes ≤ limB) (hm : ys.length ≤ 4611686018427387904) :
  ∃ w' cap, (Builtin.append_ #[t, t'] ty #[.slice ad 0 0, yv]).run C.P w = .ok (.slice (some ⟨w.heap.size, 0, none⟩) ys.length cap) w' ∧ w.heap.size ≤ w'.heap.size ∧ w'.os = w.os ∧ w'.tape = w.tape ∧ w'.output = w.output ∧
   w.heap.size < w'.heap.size ∧ (∀ b, b < w.heap.size → w'.heap[b]? = w.heap[b]?) ∧ ys.length ≤ cap ∧ ∀ (m' : Mp) (nm : Nat), MpLe m m' → m' nm = some ⟨w.heap.size, 0, cap, sz, ys.length, false⟩ → GvRel kn m' w' nm sz e ys := by
 obtain ⟨i, hi, his, hib, hzv⟩ := hT.i
 obtain ⟨news, hnl, hnf, hnr⟩ := hE
 have hold : (Builtin.firstCells sz 0 (.slice ad 0 0)).run C.P w.drew = .ok ([] : List Value).toArray w.drew := by
  cases ad with
  | none => rfl
  | some a => simp [Builtin.firstCells, loadCells, loadCellsFrom]
 have hrun := run_append_go (C := C) (w := w) (ty := ty) (sLen := 0) (sCap := 0) (base := ad) hT.hu hT.hni hi his hzv (hnr w rfl).1 (hnr w.drew rfl).2 hold (by omega) (by omega) (by rw [Nat.zero_add, hib]; exact hb)
 simp only [Nat.zero_add, List.toArray, Array.empty_append] at hrun
 refine ⟨w.drew.alloc (.cells (news.toArray ++ Builtin.zeroCells zv.cells (grownCap w ys.length 0 e - ys.length)) e), grownCap w ys.length 0 e, by simpa using hrun, by simp, rfl, rfl, rfl, by simp, fun b hb => Below.heap_alloc w.drew _ _ hb, grownCap_ge w ys.length 0 e, fun m' nm hle hnm => ?_⟩
 exact grown_obj (w := w) hnf hnl rfl hT.hzs hT.hz1 hm m' hle hnm (heap_alloc_new w.drew _)
theorem mple_put (hI : Inv C B kn m σ nx w) (l : Loc) : MpLe m (mput m nx l) := fun n l' e => by
 rw [mput_ne]
 ·exact e
 ·intro en; subst en; rw [hI.dom n (Nat.le_refl _)] at e; cases e
theorem app_new (hI : Inv C B kn m σ nx w) {t t' ty e sz bytes : Nat} {zv yv : Value} {ys : List (List AV)} {ob' : AObj} (hT : AppTy C t t' e sz bytes zv) (hE : Elems C kn m w sz ys yv) (ad : Option Addr) (hne : ys.length ≠ 0) (hb : ys.length * bytes ≤ limB) (hm : ys.length ≤ 4611686018427387904)
  (hg' : ∀ m w', Fr kn w w' → GvRel kn m w' nx sz e ys → ObjRel C.P B kn m w' nx ob') (hsk : isStk ob' = true → ∀ (p nm : Nat) (ob : AObj), σ[p]? = some (nm, ob) → isStk ob = false := by intro h; cases h) :
  ∃ u m' w', (Builtin.append_ #[t, t'] ty #[.slice ad 0 0, yv]).run C.P w = .ok u w' ∧ Rel kn m' (.sref σ.length nx sz 0 ys.length) u ∧ (∃ loc, m' nx = some loc ∧ loc.len = ys.length) ∧
   Inv C B kn m' (σ ++ [(nx, ob')]) (nx + 1) w' ∧ Keep m σ nx m' (σ ++ [(nx, ob')]) (nx + 1) := by
 obtain ⟨w', cap, hrun, h1, h2, h3, h4, h5, h6, h7, h8⟩ := app_fresh (ty := ty) hT hE ad hne hb hm
 obtain ⟨q1, q2⟩ := hI.new (ob' := ob') (loc' := ⟨w.heap.size, 0, cap, sz, ys.length, false⟩) (w' := w') h1 h2 h3 h4 (.inr (Nat.le_refl _)) (fun _ => h5) h6 (hg' _ _ (fun b o v e => h6 b (hI.kn_lt e)) (h8 _ _ (mple_put hI _) (mput_same _ _ _))) (hsk := hsk)
 refine ⟨_, _, _, hrun, ?_, ⟨_, mput_same _ _ _, rfl⟩, q1, q2⟩
 have := Rel.sref (kn := kn) σ.length nx sz 0 ys.length _ (mput_same m nx ⟨w.heap.size, 0, cap, sz, ys.length, false⟩) rfl rfl h7 (le62 hm)
 simpa using this
theorem app_sref (hI : Inv C B kn m σ nx w) {t t' ty e' bytes p nm off len : Nat} {ob ob' : AObj} {zv yv : Value} {rows ys : List (List AV)} {loc : Loc} (hT : AppTy C t t' e' loc.esz bytes zv) (hs0 : 0 < loc.esz) (hE : Elems C kn m w loc.esz ys yv) (hp : σ[p]? = some (nm, ob)) (hlv : live ob)
  (hg : ObjRel C.P B kn m w nm ob → GvRel kn m w nm loc.esz e' rows) (hm : m nm = some loc) (hn : loc.nil = false) (hl : len + off ≤ loc.cap) (hle : off + len ≤ rows.length) (hb : (len + ys.length) * bytes ≤ limB) (hm62 : len + ys.length ≤ 4611686018427387904)
  (hg' : ∀ m w', Fr kn w w' → GvRel kn m w' nx loc.esz e' ((rows.drop off).take len ++ ys) → ObjRel C.P B kn m w' nx ob') (hsk : isStk ob' = true → isStk ob = true := by intro h; first | rfl | cases h) (hnh : isHand ob = false := by rfl) :
  ∃ u m' w', (Builtin.append_ #[t, t'] ty #[.slice (some ⟨loc.blk, loc.off + off * loc.esz, none⟩) len (loc.cap - off), yv]).run C.P w = .ok u w' ∧ Rel kn m' (.sref p nx loc.esz 0 (len + ys.length)) u ∧ (∃ l, m' nx = some l ∧ l.len = len + ys.length) ∧
   Inv C B kn m' (σ.set p (nx, ob')) (nx + 1) w' ∧ Keep m σ nx m' (σ.set p (nx, ob')) (nx + 1) := by
 have hu := hT.hu
 have hni := hT.hni
 have hsz := hT.hsz
 have hzs := hT.hzs
 obtain ⟨i, hi, his, hib, hzv⟩ := hT.i
 obtain ⟨news, hnl, hnf, hnr⟩ := hE
 obtain ⟨hll, hez, arr, hw, hsz', hle', hmx, hone, hrl, hrr⟩ := (hg (hI.obj _ _ _ hp)).get hm hn
 have hrl' : ((rows.drop off).take len).length = len := by simp; omega
 obtain ⟨olds, hol, hof, hor⟩ := gv_elems (C := C) (hg (hI.obj _ _ _ hp)) hs0 hm hn hle hl
 have hlenr : ((rows.drop off).take len ++ ys).length = len + ys.length := by rw [List.length_append, hrl']
 by_cases hroom : len + ys.length ≤ loc.cap - off
 ·have hrun := run_append_stay (C := C) (w := w) (ty := ty) (sLen := len) (sCap := loc.cap - off) (base := some ⟨loc.blk, loc.off + off * loc.esz, none⟩) hu hni hsz (hnr w rfl).1 (hnr w rfl).2 hroom
  have hcap : off * loc.esz + (loc.cap - off) * loc.esz = loc.cap * loc.esz := by rw [← Nat.add_mul]; congr 1; omega
  have hroom' : (len + ys.length) * loc.esz ≤ (loc.cap - off) * loc.esz := Nat.mul_le_mul_right _ hroom
  rw [Nat.add_mul] at hroom'
  have hfit : loc.off + off * loc.esz + len * loc.esz + news.length ≤ arr.toList.length := by rw [hnl, Array.length_toList (xs := arr)]; omega
  have hst := run_storeCells_at C.P loc.blk (loc.off + off * loc.esz + len * loc.esz) e' news 0 arr w hw (by simpa using hfit) hnf.2.2
  simp only [Nat.add_zero, List.append_assoc] at hst
  simp only [add_mk, hst, Result.andThen_ok] at hrun
  have hsp := splice_get arr.toList news (loc.off + off * loc.esz + len * loc.esz)
  obtain ⟨q1, q2⟩ := hI.replace (ob' := ob') (loc' := ⟨loc.blk, loc.off + off * loc.esz, loc.cap - off, loc.esz, len + ys.length, false⟩) hp hlv hm
   (w' := w.setRow loc.blk (arr.toList.take (loc.off + off * loc.esz + len * loc.esz) ++ (news ++ arr.toList.drop (loc.off + off * loc.esz + len * loc.esz + news.length))).toArray) (by simp) rfl rfl rfl (.inr (.inl ⟨hn, rfl⟩))
   (fun _ => by simp; exact (hI.own _ _ _ _ hp hlv hm hn).1) (fun b _ hb => setRow_other _ _ _ _ (hb.resolve_left (by simp))) (hsk := hsk) (hnh := hnh)
   (hg' _ _ (fun b o u e => setRow_other _ _ _ _ (fun eb => by rw [eb, (hI.own _ _ _ _ hp hlv hm hn).2.2 hnh o] at e; cases e)) (by
    have hmle : MpLe m (mput m nx ⟨loc.blk, loc.off + off * loc.esz, loc.cap - off, loc.esz, len + ys.length, false⟩) := fun n l e => by
     rw [mput_ne]
     ·exact e
     ·intro en; subst en; rw [hI.dom n (Nat.le_refl _)] at e; cases e
    refine ⟨_, mput_same _ _ _, hlenr.symm, .inr ⟨rfl, rfl, _, setRow_heap w loc.blk arr _ e' (0, 0) hw, ?_, by rw [hlenr]; exact hroom, (by show loc.cap - off ≤ maxLen; omega), fun u hu => ?_, fun k row hk => ?_, fun k row j x v hk hj hv => ?_⟩⟩
    ·rw [List.size_toArray, splice_len _ _ _ hfit, Array.length_toList]
     show loc.off + off * loc.esz + (loc.cap - off) * loc.esz ≤ arr.size
     omega
    ·simp only [List.mem_append] at hu
     rcases hu with hu | hu | hu
     ·exact hone u (List.mem_of_mem_take hu)
     ·exact hnf.2.2 u hu
     ·exact hone u (List.mem_of_mem_drop hu)
    ·rcases Nat.lt_or_ge k len with hk' | hk'
     ·rw [List.getElem?_append_left (by rw [hrl']; exact hk')] at hk
      exact hof.1 k row hk
     ·rw [List.getElem?_append_right (by rw [hrl']; exact hk')] at hk
      exact hnf.1 _ row hk
    ·have hv' : (arr.toList.take (loc.off + off * loc.esz + len * loc.esz) ++ (news ++ arr.toList.drop (loc.off + off * loc.esz + len * loc.esz + news.length)))[loc.off + off * loc.esz + k * loc.esz + j]? = some v := by
      simpa using hv
     rw [hsp _ hfit] at hv'
     rcases Nat.lt_or_ge k len with hk' | hk'
     ·rw [List.getElem?_append_left (by rw [hrl']; exact hk')] at hk
      have hjl : j < loc.esz := by rw [← hof.1 k row hk]; exact (List.getElem?_eq_some_iff.1 hj).1
      have := idx_lt hk' hjl
      rw [if_neg (by omega)] at hv'
      rw [List.getElem?_take, if_pos hk', List.getElem?_drop] at hk
      refine (hrr (off + k) row j x v hk hj ?_).mono (KnLe.refl _) hmle
      rw [← Array.getElem?_toList, ← hv']
      congr 1
      rw [Nat.add_mul]; omega
     ·rw [List.getElem?_append_right (by rw [hrl']; exact hk'), hrl'] at hk
      have hjl : j < loc.esz := by rw [← hnf.1 _ row hk]; exact (List.getElem?_eq_some_iff.1 hj).1
      have h1 := idx_lt (List.getElem?_eq_some_iff.1 hk).1 hjl
      have h2 : k * loc.esz = len * loc.esz + (k - len) * loc.esz := by rw [← Nat.add_mul]; congr 1; omega
      rw [if_pos ⟨by omega, by rw [hnl]; omega⟩] at hv'
      refine (hnf.2.1 (k - len) row j x v hk hj ?_).mono (KnLe.refl _) hmle
      rw [← hv']
      congr 1
      omega))
  refine ⟨_, _, _, hrun, ?_, ⟨_, mput_same _ _ _, rfl⟩, q1, q2⟩
  have := Rel.sref (kn := kn) p nx loc.esz 0 (len + ys.length) _ (mput_same m nx ⟨loc.blk, loc.off + off * loc.esz, loc.cap - off, loc.esz, len + ys.length, false⟩) rfl rfl (by simpa using hroom) (le62 hm62)
  simpa using this
 ·have hold := (hor w.drew rfl).2
  rw [hrl'] at hold
  have hrun := run_append_go (C := C) (w := w) (ty := ty) (sLen := len) (sCap := loc.cap - off) (base := some ⟨loc.blk, loc.off + off * loc.esz, none⟩) hu hni hi his hzv (hnr w rfl).1 (hnr w.drew rfl).2 hold (by omega) hm62 (by rw [hib]; exact hb)
  have hmle : MpLe m (mput m nx ⟨w.heap.size, 0, grownCap w (len + ys.length) (loc.cap - off) e', loc.esz, len + ys.length, false⟩) := fun n l e => by
   rw [mput_ne]
   ·exact e
   ·intro en; subst en; rw [hI.dom n (Nat.le_refl _)] at e; cases e
  have hcl : (olds ++ news).length = ((rows.drop off).take len ++ ys).length * loc.esz := by rw [List.length_append, List.length_append, hol, hnl, Nat.add_mul]
  obtain ⟨q1, q2⟩ := hI.replace (ob' := ob') (loc' := ⟨w.heap.size, 0, grownCap w (len + ys.length) (loc.cap - off) e', loc.esz, len + ys.length, false⟩) hp hlv hm
   (w' := w.drew.alloc (.cells ((olds ++ news).toArray ++ Builtin.zeroCells zv.cells (grownCap w (len + ys.length) (loc.cap - off) e' - (len + ys.length))) e')) (by simp) rfl rfl rfl (.inr (.inr (Nat.le_refl _))) (fun _ => by simp)
   (fun b hb _ => Below.heap_alloc w.drew _ _ hb) (hsk := hsk) (hnh := hnh) (hg' _ _ (fun b o u e => Below.heap_alloc w.drew _ _ (hI.kn_lt e)) <| grown_obj (w := w) (flat_append hof hol hnf) hcl hlenr hzs hT.hz1 hm62 _ hmle (mput_same _ _ _) (heap_alloc_new w.drew _))
  refine ⟨_, _, _, by rw [hrun, show olds.toArray ++ news.toArray = (olds ++ news).toArray by simp], ?_, ⟨_, mput_same _ _ _, rfl⟩, q1, q2⟩
  have := Rel.sref (kn := kn) p nx loc.esz 0 (len + ys.length) _ (mput_same m nx ⟨w.heap.size, 0, grownCap w (len + ys.length) (loc.cap - off) e', loc.esz, len + ys.length, false⟩) rfl rfl (grownCap_ge _ _ _ _) (le62 hm62)
  simpa using this
theorem app_srefNil (hI : Inv C B kn m σ nx w) {t t' ty e' esz bytes p nm : Nat} {ob ob' : AObj} {zv yv : Value} {ys : List (List AV)} {loc : Loc} (hT : AppTy C t t' e' esz bytes zv) (hE : Elems C kn m w esz ys yv) (hp : σ[p]? = some (nm, ob)) (hlv : live ob)
  (hm : m nm = some loc) (hn : loc.nil = true) (hb : ys.length * bytes ≤ limB) (hm62 : ys.length ≤ 4611686018427387904)
  (hg' : ∀ m w', Fr kn w w' → GvRel kn m w' nx esz e' ys → ObjRel C.P B kn m w' nx ob') (hsk : isStk ob' = true → isStk ob = true := by intro h; first | rfl | cases h) (hnh : isHand ob = false := by rfl) :
  ∃ u m' w', (Builtin.append_ #[t, t'] ty #[.slice none 0 0, yv]).run C.P w = .ok u w' ∧ Rel kn m' (.sref p nx esz 0 ys.length) u ∧ (∃ l, m' nx = some l ∧ l.len = ys.length) ∧
   Inv C B kn m' (σ.set p (nx, ob')) (nx + 1) w' ∧ Keep m σ nx m' (σ.set p (nx, ob')) (nx + 1) := by
 by_cases h0 : ys.length = 0
 ·have hn0 : ys = [] := List.eq_nil_of_length_eq_zero h0
  subst hn0
  obtain ⟨news, hnl, hnf, hnr⟩ := hE
  have hrun := run_append_stay (C := C) (w := w) (ty := ty) (sLen := 0) (sCap := 0) (base := none) hT.hu hT.hni hT.hsz (hnr w rfl).1 (hnr w rfl).2 (by simp)
  obtain ⟨q1, q2⟩ := hI.replace (ob' := ob') (loc' := ⟨0, 0, 0, esz, 0, true⟩) hp hlv hm (w' := w) (Nat.le_refl _) rfl rfl rfl (.inl rfl) (fun h => by cases h) (fun _ _ _ => rfl) (hsk := hsk) (hnh := hnh)
   (hg' _ _ (fun _ _ _ _ => rfl) ⟨_, mput_same _ _ _, rfl, .inl ⟨rfl, rfl⟩⟩)
  exact ⟨_, _, _, by simpa using hrun, .srefNil _ _ _ _ (mput_same _ _ _) rfl, ⟨_, mput_same _ _ _, rfl⟩, q1, q2⟩
 ·obtain ⟨w', cap, hrun, h1, h2, h3, h4, h5, h6, h7, h8⟩ := app_fresh (ty := ty) hT hE none h0 hb hm62
  obtain ⟨q1, q2⟩ := hI.replace (ob' := ob') (loc' := ⟨w.heap.size, 0, cap, esz, ys.length, false⟩) hp hlv hm (w' := w') h1 h2 h3 h4 (.inr (.inr (Nat.le_refl _))) (fun _ => h5) (fun b hb _ => h6 b hb) (hsk := hsk) (hnh := hnh) (hg' _ _ (fun b o u e => h6 b (hI.kn_lt e)) (h8 _ _ (mple_put hI _) (mput_same _ _ _)))
  refine ⟨_, _, _, hrun, ?_, ⟨_, mput_same _ _ _, rfl⟩, q1, q2⟩
  have := Rel.sref (kn := kn) p nx esz 0 ys.length _ (mput_same m nx ⟨w.heap.size, 0, cap, esz, ys.length, false⟩) rfl rfl h7 (le62 hm62)
  simpa using this
theorem append_sound (hI : Inv C B kn m σ nx w) {t t' ty : Nat} {x y r : AV} {xv yv : Value} {σ' : Sto} {nx' : Nat} (h : appendA C.P t t' σ nx x y = some (r, σ', nx')) (hx : Rel kn m x xv) (hy : Rel kn m y yv) :
  ∃ u m' w', (Builtin.append_ #[t, t'] ty #[xv, yv]).run C.P w = .ok u w' ∧ Rel kn m' r u ∧ Inv C B kn m' σ' nx' w' ∧ Keep m σ nx m' σ' nx' := by
 unfold appendA at h
 split at h
 ·rename_i e sz bytes he
  split at h
  ·rename_i hc
   obtain ⟨hs0, hzl⟩ := hc
   split at h
   ·rename_i ys hys
    have hE : notInt C.P t' ∧ Elems C kn m w sz ys yv := by
     split at hys
     ·rename_i l
      split at hys
      ·rename_i hs
       cases hys
       cases hy
       rw [hs.2]
       exact ⟨strT_notInt hs.1, elems_str⟩
      ·cases hys
     ·split at hys
      ·rename_i hs
       exact ⟨slcT_notInt hs, elems_sound hI hs0 hys hy⟩
      ·cases hys
    obtain ⟨hni, hE⟩ := hE
    obtain ⟨zv, hT⟩ := app_ty he hni hzl
    have stay : ∀ ad : Option Addr, ys.length = 0 → (Builtin.append_ #[t, t'] ty #[.slice ad 0 0, yv]).run C.P w = .ok (.slice ad 0 0) w := fun ad h0 => by
     have hn0 : ys = [] := List.eq_nil_of_length_eq_zero h0
     subst hn0
     obtain ⟨news, hnl, hnf, hnr⟩ := hE
     have hnn : news = [] := List.eq_nil_of_length_eq_zero (by simpa using hnl)
     subst hnn
     have hrun := run_append_stay (C := C) (w := w) (ty := ty) (sLen := 0) (sCap := 0) (base := ad) hT.hu hT.hni hT.hsz (hnr w rfl).1 (hnr w rfl).2 (by simp)
     rw [hrun]
     cases ad <;> simp [storeCells]
    split at h
    ·split at h
     ·rename_i hb
      cases hx
      split at h
      ·rename_i h0
       cases h
       exact ⟨_, m, w, stay none h0, .base _, hI, Keep.refl _ _ _⟩
      ·rename_i h0
       cases h
       obtain ⟨u, m', w', q1, q2, _, q3⟩ := app_new (ty := ty) (ob' := .gvec sz e ys) hI hT hE none h0 hb.1 hb.2 (fun _ _ _ h => h)
       exact ⟨u, m', w', q1, q2, q3⟩
     ·cases h
    ·split at h
     ·rename_i hb
      have hx' : ∃ ad, xv = .slice ad 0 0 := by cases hx <;> exact ⟨_, rfl⟩
      obtain ⟨ad, rfl⟩ := hx'
      split at h
      ·rename_i h0
       cases h
       exact ⟨_, m, w, stay ad h0, hx, hI, Keep.refl _ _ _⟩
      ·rename_i h0
       cases h
       obtain ⟨u, m', w', q1, q2, _, q3⟩ := app_new (ty := ty) (ob' := .gvec sz e ys) hI hT hE ad h0 hb.1 hb.2 (fun _ _ _ h => h)
       exact ⟨u, m', w', q1, q2, q3⟩
     ·cases h
    ·rename_i p nm esz off len
     split at h
     ·rename_i esz' e' rows hs
      split at h
      ·rename_i hc
       cases h
       obtain ⟨rfl, rfl, rfl, hle, hb, hm62⟩ := hc
       have hp := sget_some hs
       cases hx with
       | srefNil _ _ _ loc hm hn =>
        have hr0 : rows = [] := GvRel.nilRows (hI.obj _ _ _ hp) hm hn
        subst hr0
        obtain ⟨u, m', w', q1, q2, _, q3⟩ := app_srefNil (ty := ty) (ob' := .gvec esz' e' (((([] : List (List AV)).drop 0).take 0) ++ ys)) hI hT hE hp trivial hm hn (by simpa using hb) (by simpa using hm62) (fun _ _ _ h => h)
        rw [Nat.zero_add]
        exact ⟨u, m', w', q1, q2, q3⟩
       | sref _ _ _ _ _ loc hm hn he' hl hm' =>
        subst he'
        obtain ⟨u, m', w', q1, q2, _, q3⟩ := app_sref (ty := ty) (ob' := .gvec loc.esz e' ((rows.drop off).take len ++ ys)) hI hT hs0 hE hp trivial (fun h => h) hm hn hl hle hb hm62 (fun _ _ _ h => h)
        exact ⟨u, m', w', q1, q2, q3⟩
      ·cases h
     ·cases h
    ·cases h
   ·cases h
  ·cases h
 ·cases h
theorem wrap_small {n : Int} (h0 : 0 ≤ n) (h1 : n ≤ 4611686018427387904) : IntKind.i64.wrap n = n := by
 rw [IntKind.wrap_i64]
 omega
theorem make_sound (hI : Inv C B kn m σ nx w) {t : Nat} {l c r : AV} {lv cv : Value} {σ' : Sto} {nx' : Nat} (h : makeA C.P t σ nx l c = some (r, σ', nx')) (hl : Rel kn m l lv) (hc : Rel kn m c cv) :
  ∃ u m' w', (Instr.makeSlice t lv cv).run C.P w = .ok u w' ∧ Rel kn m' r u ∧ Inv C B kn m' σ' nx' w' ∧ Keep m σ nx m' σ' nx' := by
 unfold makeA at h
 split at h
 ·rename_i e sz bytes kl n kc k he
  obtain ⟨hu, hsz, i, hi, his, hib⟩ := elm_sound he
  cases hl; cases hc
  split at h
  ·rename_i z hz
   split at h
   ·rename_i hcond
    cases h
    obtain ⟨hs0, hzl, h0, hnk, hby, hk62⟩ := hcond
    obtain ⟨i', zv, hi', hzv, rfl, hzr⟩ := zero_sound hz kn m
    rw [hi] at hi'; cases hi'
    have hzs : zv.cells.size = sz := by rw [← Array.length_toList, ← hzr.1.1]; exact hzl
    have w1 : IntKind.i64.wrap n = n := wrap_small h0 (by omega)
    have w2 : IntKind.i64.wrap k = k := wrap_small (by omega) hk62
    have hrun : (Instr.makeSlice t (.int kl n) (.int kc k)).run C.P w = .ok (.slice (some ⟨w.heap.size, 0, none⟩) n.toNat k.toNat) (w.alloc (.cells ((Array.range (k.toNat * sz)).map (zv.cells[· % sz]!)) e)) := by
     have a1 : ¬ (k < 0) := by omega
     have a2 : ¬ (n < 0) := by omega
     have a3 : ¬ (281474976710656 < (bytes : Int) * k) := by rw [Int.mul_comm]; omega
     have a4 : ¬ (k < n) := by omega
     by_cases hk0 : k.toNat * sz = 0
     ·have : k.toNat = 0 := by rcases Nat.mul_eq_zero.1 hk0 with h | h <;> omega
      simp [Instr.makeSlice, run_underlying hu, asInt, asIntOf, run_typeInfo' hi, hib, w1, w2, a1, a2, a3, a4, run_sizeOf' hsz, this, newRow, Array.range_zero']
     ·simp [Instr.makeSlice, run_underlying hu, asInt, asIntOf, run_typeInfo' hi, hib, w1, w2, a1, a2, a3, a4, run_sizeOf' hsz, hk0, newRow, zeroValue, hzv, hzs]
    have hfl := flat_replicate _ _ hzr k.toNat
    rw [hzs] at hfl
    have hmle : MpLe m (mput m nx ⟨w.heap.size, 0, k.toNat, sz, n.toNat, false⟩) := fun n l e => by
     rw [mput_ne]
     ·exact e
     ·intro en; subst en; rw [hI.dom n (Nat.le_refl _)] at e; cases e
    have hget : ∀ i row, (List.replicate n.toNat (zv.cells.toList.map ofVal))[i]? = some row → (List.replicate k.toNat (zv.cells.toList.map ofVal))[i]? = some row := fun i row hi => by
     rw [List.getElem?_replicate] at hi ⊢
     split at hi
     ·rw [if_pos (by omega)]; exact hi
     ·cases hi
    obtain ⟨q1, q2⟩ := hI.new (ob' := .gvec sz e (List.replicate n.toNat (zv.cells.toList.map ofVal))) (loc' := ⟨w.heap.size, 0, k.toNat, sz, n.toNat, false⟩) (w' := w.alloc (.cells ((Array.range (k.toNat * sz)).map (zv.cells[· % sz]!)) e)) (by simp) rfl rfl rfl (.inr (Nat.le_refl _)) (by simp)
     (fun b hb => Below.heap_alloc _ _ _ hb)
     (gvec_obj (mput_same _ _ _) rfl (by simp) rfl (heap_alloc_new w _) rfl (by simp) (by simp; omega) (by show k.toNat ≤ maxLen; exact le62_max (by omega)) hfl.2.2 (fun i row hi => hfl.1 i row (hget i row hi))
      (fun i row j x v a b c => (hfl.2.1 i row j x v (hget i row a) b (by rw [Array.getElem?_toList]; exact c)).mono (KnLe.refl _) hmle))
    refine ⟨_, _, _, hrun, ?_, q1, q2⟩
    have := Rel.sref (kn := kn) σ.length nx sz 0 n.toNat _ (mput_same m nx ⟨w.heap.size, 0, k.toNat, sz, n.toNat, false⟩) rfl rfl (by show n.toNat + 0 ≤ k.toNat; omega) (le62 (by omega))
    simpa using this
   ·cases h
  ·cases h
 ·cases h
theorem tup_three {kn : Kn} {m : Mp} {a b c : AV} {x y z : Value} (h1 : Rel kn m a x) (h2 : Rel kn m b y) (h3 : Rel kn m c z) : Rel kn m (.tup [a, b, c]) (.tuple #[x, y, z]) := by
 have h : RelL kn m [a, b, c] [x, y, z] := .cons h1 (.cons h2 (.cons h3 (.nil _ _)))
 exact .tup _ _ rfl fun i p v q r => h.2 i p v q (by simpa using r)
theorem tup_one {kn : Kn} {m : Mp} {a : AV} {x : Value} (h1 : Rel kn m a x) : Rel kn m (.tup [a]) (.tuple #[x]) := by
 have h : RelL kn m [a] [x] := .cons h1 (.nil _ _)
 exact .tup _ _ rfl fun i p v q r => h.2 i p v q (by simpa using r)
theorem range_sound (hI : Inv C B kn m σ nx w) {t : TypeId} {x r : AV} {v : Value} {σ' : Sto} {nx' : Nat} (h : rangeA C.P t σ nx x = some (r, σ', nx')) (hx : Rel kn m x v) :
  ∃ u m' w', (Instr.range t v).run C.P w = .ok u w' ∧ Rel kn m' r u ∧ Inv C B kn m' σ' nx' w' ∧ Keep m σ nx m' σ' nx' := by
 unfold rangeA at h
 split at h
 ·rename_i l
  simp only [Option.ite_none_right_eq_some, Option.some.injEq, Prod.mk.injEq] at h
  obtain ⟨hs, rfl, rfl, rfl⟩ := h
  cases hx
  have hu : C.P.underlying t = some .string := by
   unfold strT at hs
   split at hs
   ·rename_i e; exact e
   ·cases hs
  obtain ⟨h1, h2⟩ := hI.new (ob' := .siter l 0) (loc' := ⟨w.heap.size, 0, 0, 0, 0, false⟩) (w' := w.alloc (.stringIter ⟨l.toArray⟩ 0)) (by simp) rfl rfl rfl (.inr (Nat.le_refl _)) (by simp) (fun b hb => Below.heap_alloc _ _ _ hb)
   (by simp only [ObjRel]; exact ⟨_, mput_same _ _ _, heap_alloc_new w _, rfl, rfl⟩)
  refine ⟨.pointer (some ⟨w.heap.size, 0, none⟩), _, _, ?_, .ref _ _ _ _ (mput_same _ _ _), h1, h2⟩
  simp only [Instr.range, Sem.run_bind, run_underlying hu, Result.andThen_ok, Sem.run_pure]
  rfl
 ·cases h
theorem next_sound (hI : Inv C B kn m σ nx w) {t : TypeId} {x r : AV} {v : Value} {σ' : Sto} {nx' : Nat} (h : nextA σ nx x = some (r, σ', nx')) (hx : Rel kn m x v) :
  ∃ u m' w', (Instr.next v true t).run C.P w = .ok u w' ∧ Rel kn m' r u ∧ Inv C B kn m' σ' nx' w' ∧ Keep m σ nx m' σ' nx' := by
 unfold nextA at h
 split at h
 ·rename_i p nm
  split at h
  ·rename_i l pos hs
   have hp := sget_some hs
   cases hx with
   | ref _ _ _ loc hm =>
    obtain ⟨loc', hm', hw, h0, hnl⟩ := hI.obj _ _ _ hp
    rw [hm] at hm'; cases hm'
    have hget : (getObj loc.blk).run C.P w = .ok (.stringIter ⟨l.toArray⟩ pos) w := by simp [getObj, Sem.run, hw]
    have hsz : (⟨l.toArray⟩ : ByteArray).size = l.length := by simp [ByteArray.size]
    split at h
    ·rename_i hlt
     simp only [Option.some.injEq, Prod.mk.injEq] at h
     obtain ⟨rfl, rfl, rfl⟩ := h
     have hset : (setObj loc.blk (.stringIter ⟨l.toArray⟩ (pos + (Utf8.decode ⟨l.toArray⟩ pos).2))).run C.P w = .ok () { w with heap := w.heap.setIfInBounds loc.blk (.stringIter ⟨l.toArray⟩ (pos + (Utf8.decode ⟨l.toArray⟩ pos).2)) } := by simp [setObj, Sem.run, hw]
     have hbl : loc.blk < w.heap.size := (Array.getElem?_eq_some_iff.1 hw).1
     obtain ⟨h1, h2⟩ := hI.write (ob' := .siter l (pos + (Utf8.decode ⟨l.toArray⟩ pos).2)) hp trivial hm hnl (w' := { w with heap := w.heap.setIfInBounds loc.blk (.stringIter ⟨l.toArray⟩ (pos + (Utf8.decode ⟨l.toArray⟩ pos).2)) }) (by simp) rfl rfl rfl
      (fun b hb => by simp [Array.getElem?_setIfInBounds_ne (Ne.symm hb)]) (by simp only [ObjRel]; exact ⟨loc, hm, by simp [hbl], h0, hnl⟩)
     refine ⟨.tuple #[.bool true, goInt pos, .int .i32 (Utf8.decode ⟨l.toArray⟩ pos).1], m, _, ?_, tup_three (.bool _) (.int _ _) (.int _ _), h1, h2⟩
     rw [h0]
     simp only [Instr.next, Nat.zero_add, Sem.run_bind, hget, Result.andThen_ok, hsz, hlt, if_true, hset, Sem.run_pure]
    ·rename_i hlt
     simp only [Option.some.injEq, Prod.mk.injEq] at h
     obtain ⟨rfl, rfl, rfl⟩ := h
     refine ⟨.tuple #[.bool false], m, w, ?_, tup_one (.bool _), hI, Keep.refl _ _ _⟩
     rw [h0]
     simp only [Instr.next, Nat.zero_add, Sem.run_bind, hget, Result.andThen_ok, hsz, hlt, if_false, Sem.run_pure]
  ·cases h
 ·cases h
end
end Go.Ab

namespace Go.Ab
open Go Go.RowKit
section
variable {C : Cx} {B : Base} {kn : Kn} {m : Mp} {σ : Sto} {nx : Nat} {w : World}
theorem gs_of {p nm n : Nat} {e : E} {u : Value} (h : Rel kn m (.sref p nm e.size 0 n) u) (hl : ∃ l, m nm = some l ∧ l.len = n) : Rel kn m (.gs p nm e n) u := by
 obtain ⟨l, h1, h2⟩ := hl
 exact .gs p nm e n u l h1 h2 h
theorem tg_mk {P : Program} {nm ety : Nat} {e : E} {l : List e.den} (h : GvRel kn m w nm e.size ety (l.map e.row)) : ObjRel P B kn m w nm (.tg e ety l) := h
theorem strElems_row (l : List UInt8) : (l.map fun b => (b.toNat : Int)).map (E.row (.int .u8)) = strElems l := by
 induction l with
 | nil => rfl
 | cons b l ih => exact congrArg (List.cons [AV.int .u8 b.toNat]) ih
theorem elemsT_sound (hI : Inv C B kn m σ nx w) {t' : TypeId} {e : E} (hs0 : 0 < e.size) {y : AV} {yv : Value} {ys : List e.den} (h : elemsT C.P t' e σ y = some ys) (hy : Rel kn m y yv) : notInt C.P t' ∧ Elems C kn m w e.size (ys.map e.row) yv := by
 unfold elemsT at h
 split at h
 ·rename_i l
  split at h
  ·rename_i hs
   split at h
   ·rename_i he
    subst he
    cases h
    cases hy
    refine ⟨strT_notInt hs, ?_⟩
    show Elems C kn m w 1 ((l.map fun b => (b.toNat : Int)).map (E.row (.int .u8))) _
    rw [strElems_row]
    exact elems_str
   ·cases h
  ·cases h
 ·rename_i p nm e' len
  split at h
  ·rename_i hs
   refine ⟨slcT_notInt hs, ?_⟩
   split at h
   ·rename_i e2 ety l hg
    split at h
    ·rename_i he
     subst he
     split at h
     ·rename_i he'
      subst he'
      cases h
      cases hy with
      | gs _ _ _ _ _ loc hm hl hr =>
       have hgv : GvRel kn m w nm e'.size ety (l.map e'.row) := hI.obj _ _ _ (sget_some hg)
       cases hr with
       | srefNil _ _ _ loc' hm' hn =>
        have := hgv.nilRows hm' hn
        have h0 : l = [] := by simpa using this
        subst h0
        exact elems_nil ⟨none, 0, rfl⟩
       | sref _ _ _ _ _ loc' hm' hn he hc hle =>
        rw [hm'] at hm; cases hm
        have hlen := (hgv.get hm' hn).1
        rw [List.length_map] at hlen
        have := gv_elems (C := C) hgv hs0 hm' hn (off := 0) (len := len) (by simp; omega) hc
        simp only [List.drop_zero] at this
        rw [List.take_of_length_le (by simp; omega)] at this
        exact this
     ·cases h
    ·cases h
   ·cases h
  ·cases h
 ·rename_i y hy1 hy2
  split at h
  ·rename_i hs
   refine ⟨slcT_notInt hs, ?_⟩
   have := absSl_sound (kn := kn) (m := m) (fun cs x h us hr => absC_sound absF e cs x h us hr) h hy
   exact elems_sound hI hs0 (y := .vec e.size (ys.map e.row)) (by simp [elemsA]) this
  ·cases h
theorem appendT_sound (hI : Inv C B kn m σ nx w) {t t' ty : Nat} {e : E} {x y r : AV} {xv yv : Value} {σ' : Sto} {nx' : Nat} (h : appendT C.P t t' e σ nx x y = some (r, σ', nx')) (hx : Rel kn m x xv) (hy : Rel kn m y yv) :
  ∃ u m' w', (Builtin.append_ #[t, t'] ty #[xv, yv]).run C.P w = .ok u w' ∧ Rel kn m' r u ∧ Inv C B kn m' σ' nx' w' ∧ Keep m σ nx m' σ' nx' := by
 unfold appendT at h
 split at h
 ·rename_i ety sz bytes ys he hys
  split at h
  ·rename_i hc
   obtain ⟨hs0, hzl, hes⟩ := hc
   subst hes
   obtain ⟨hni, hE⟩ := elemsT_sound hI hs0 hys hy
   obtain ⟨zv, hT⟩ := app_ty he hni hzl
   have hlm : (ys.map e.row).length = ys.length := List.length_map _
   split at h
   ·split at h
    ·rename_i hb
     cases h
     cases hx
     by_cases h0 : ys.length = 0
     ·have hn0 : ys = [] := List.eq_nil_of_length_eq_zero h0
      subst hn0
      obtain ⟨news, hnl, hnf, hnr⟩ := hE
      have hrun := run_append_stay (C := C) (w := w) (ty := ty) (sLen := 0) (sCap := 0) (base := none) hT.hu hT.hni hT.hsz (hnr w rfl).1 (hnr w rfl).2 (by simp)
      obtain ⟨q1, q2⟩ := hI.new (ob' := .tg e ety []) (loc' := ⟨0, 0, 0, e.size, 0, true⟩) (w' := w) (Nat.le_refl _) rfl rfl rfl (.inl rfl) (fun h => by cases h) (fun _ _ => rfl)
       (show GvRel _ _ _ _ _ _ _ from ⟨_, mput_same _ _ _, rfl, .inl ⟨rfl, rfl⟩⟩)
      exact ⟨_, _, _, by simpa using hrun, gs_of (.srefNil _ _ _ _ (mput_same _ _ _) rfl) ⟨_, mput_same _ _ _, rfl⟩, q1, q2⟩
     ·obtain ⟨u, m', w', q1, q2, q3, q4, q5⟩ := app_new (ty := ty) (ob' := .tg e ety ys) hI hT hE none (by rw [hlm]; exact h0) (by rw [hlm]; exact hb.1) (by rw [hlm]; exact hb.2) (fun _ _ _ h => h)
      rw [hlm] at q2 q3
      exact ⟨u, m', w', q1, gs_of q2 q3, q4, q5⟩
    ·cases h
   ·rename_i p nm e' len
    split at h
    ·rename_i e2 ety' l hg
     split at h
     ·rename_i he2
      subst he2
      split at h
      ·rename_i hcc
       obtain ⟨rfl, rfl, hb, hm62⟩ := hcc
       simp only [castL_rfl, Option.some.injEq, Prod.mk.injEq] at h
       obtain ⟨rfl, rfl, rfl⟩ := h
       have hp := sget_some hg
       have hgv : GvRel kn m w nm e'.size ety' (l.map e'.row) := hI.obj _ _ _ hp
       cases hx with
       | gs _ _ _ _ _ loc hm hl hr =>
        cases hr with
        | srefNil _ _ _ loc' hm' hn =>
         have h0 : l = [] := by simpa using hgv.nilRows hm' hn
         subst h0
         obtain ⟨u, m', w', q1, q2, q3, q4, q5⟩ := app_srefNil (ty := ty) (ob' := .tg e' ety' ([] ++ ys)) hI hT hE hp trivial hm' hn (by rw [hlm]; simpa using hb) (by rw [hlm]; simpa using hm62) (fun m w _ h => tg_mk (l := [] ++ ys) (by rw [List.nil_append]; exact h))
         rw [hlm] at q2 q3
         refine ⟨u, m', w', q1, gs_of ?_ ?_, q4, q5⟩
         ·simpa using q2
         ·simpa using q3
        | sref _ _ _ _ _ loc' hm' hn he'' hc hle =>
         rw [hm'] at hm; cases hm
         have hlen := (hgv.get hm' hn).1
         rw [List.length_map] at hlen
         have hll : len = l.length := by omega
         subst hll
         rw [← he''] at hT hs0 hE hgv
         obtain ⟨u, m', w', q1, q2, q3, q4, q5⟩ := app_sref (ty := ty) (ob' := .tg e' ety' (l ++ ys)) hI hT hs0 hE hp trivial (fun _ => hgv) hm' hn hc (by simp) (by rw [hlm]; exact hb) (by rw [hlm]; exact hm62) (fun m w _ h => tg_mk (l := l ++ ys) (by
          rw [List.drop_zero, List.take_of_length_le (by simp), ← List.map_append, he''] at h
          exact h))
         rw [hlm] at q2 q3
         rw [he''] at q2
         refine ⟨u, m', w', ?_, gs_of q2 q3, q4, q5⟩
         exact q1
      ·cases h
     ·cases h
    ·cases h
   ·cases h
  ·cases h
 ·cases h
theorem makeT_sound (hI : Inv C B kn m σ nx w) {t : Nat} {e : E} {l c r : AV} {lv cv : Value} {σ' : Sto} {nx' : Nat} (h : makeT C.P t e σ nx l c = some (r, σ', nx')) (hl : Rel kn m l lv) (hc : Rel kn m c cv) :
  ∃ u m' w', (Instr.makeSlice t lv cv).run C.P w = .ok u w' ∧ Rel kn m' r u ∧ Inv C B kn m' σ' nx' w' ∧ Keep m σ nx m' σ' nx' := by
 unfold makeT at h
 split at h
 ·rename_i ety sz bytes kl n kc k he
  split at h
  ·rename_i z hz
   split at h
   ·rename_i z' hz'
    split at h
    ·rename_i hcond
     cases h
     obtain ⟨hs0, hzl, hes, h0, hnk, hby, hk62⟩ := hcond
     subst hes
     have hA : makeA C.P t σ nx (.int kl n) (.int kc k) = some (.sref σ.length nx e.size 0 n.toNat, σ ++ [(nx, .gvec e.size ety (List.replicate n.toNat z))], nx + 1) := by
      unfold makeA
      rw [he]
      simp only [hz]
      rw [if_pos ⟨hs0, hzl, h0, hnk, hby, hk62⟩]
     obtain ⟨u, m', w', q1, q2, q3, q4⟩ := make_sound hI hA hl hc
     have hp : (σ ++ [(nx, AObj.gvec e.size ety (List.replicate n.toNat z))])[σ.length]? = some (nx, .gvec e.size ety (List.replicate n.toNat z)) := by simp
     have hgv : GvRel kn m' w' nx e.size ety (List.replicate n.toNat z) := q3.obj _ _ _ hp
     have hgt : GvRel kn m' w' nx e.size ety ((List.replicate n.toNat z').map e.row) := hgv.conv (by simp) fun i row row' hi hi' => by
      rw [List.getElem?_replicate] at hi
      rw [List.map_replicate, List.getElem?_replicate] at hi'
      split at hi
      ·cases hi
       rename_i hlt
       rw [if_pos hlt] at hi'; cases hi'
       exact ⟨E.row_len _ _, fun us => absC_sound absF e _ _ hz' us⟩
      ·cases hi
     obtain ⟨loc, hm, hll, _⟩ := id hgt
     refine ⟨u, m', w', q1, gs_of q2 ⟨loc, hm, by simpa using hll⟩, ?_, ?_⟩
     ·have := q3.conv hp (ob' := .tg e ety (List.replicate n.toNat z')) (fun _ => trivial) hgt
      simpa using this
     ·exact ⟨q4.le, q4.ag, fun p nm ob a b => (by
       have := q4.pend p nm ob a b
       rw [List.getElem?_append_left (List.getElem?_eq_some_iff.1 a).1] at this ⊢
       exact this)⟩
    ·cases h
   ·cases h
  ·cases h
 ·cases h
theorem bslT_sound (hI : Inv C B kn m σ nx w) {t len : Nat} {e : E} {r : AV} {parts : List (Nat × AV)} {parts' : Array (Nat × Value)} {σ' : Sto} {nx' : Nat} (h : bslT C.P t len e σ nx parts = some (r, σ', nx')) (hl : parts.length = parts'.size)
  (hp : ∀ (i : Nat) (p : Nat × AV) (p' : Nat × Value), parts[i]? = some p → parts'[i]? = some p' → p.1 = p'.1 ∧ Rel kn m p.2 p'.2) :
  ∃ u m' w', (Instr.buildSlice t len parts').run C.P w = .ok u w' ∧ Rel kn m' r u ∧ Inv C B kn m' σ' nx' w' ∧ Keep m σ nx m' σ' nx' := by
 unfold bslT at h
 split at h
 ·rename_i ety sz by_ he
  split at h
  ·rename_i z hz
   split at h
   ·rename_i hc
    obtain ⟨hs0, hzl, hes, hlim⟩ := hc
    subst hes
    split at h
    ·rename_i rows hr
     obtain ⟨l, hl', h⟩ := Option.map_eq_some_iff.1 h
     cases h
     obtain ⟨u, m', w', q1, q2, q3, q4⟩ := writes_buildSlice hI he hz hs0 hzl hlim hr hl hp
     have hp' : (σ ++ [(nx, AObj.gvec e.size ety rows)])[σ.length]? = some (nx, .gvec e.size ety rows) := by simp
     have hgv : GvRel kn m' w' nx e.size ety rows := q3.obj _ _ _ hp'
     obtain ⟨hlen, hget⟩ := mapO_get hl'
     have hgt : GvRel kn m' w' nx e.size ety (l.map e.row) := hgv.conv (by simp [hlen]) fun i row row' hi hi' => by
      rw [List.getElem?_map] at hi'
      cases hx : l[i]? with
      | none => simp [hx] at hi'
      | some x =>
       simp only [hx, Option.map_some, Option.some.injEq] at hi'
       subst hi'
       obtain ⟨a, ha, hf⟩ := hget i x hx
       rw [hi] at ha; cases ha
       exact ⟨E.row_len _ _, fun us => absC_sound absF e _ _ hf us⟩
     obtain ⟨loc, hm, hll, _⟩ := id hgt
     have hlr : rows.length = len := by
      have h4 : ∀ (parts : List (Nat × AV)) (r0 out : List (List AV)), rowsA e.size r0 parts = some out → out.length = r0.length := by
       intro parts
       induction parts with
       | nil => intro r0 out h; simp only [rowsA, Option.some.injEq] at h; subst h; rfl
       | cons p rest ih =>
        obtain ⟨i, x⟩ := p
        intro r0 out h
        simp only [rowsA] at h
        split at h
        ·split at h
         ·rw [ih _ _ h, List.length_set]
         ·cases h
        ·cases h
      have := h4 _ _ _ hr
      simpa using this
     refine ⟨u, m', w', q1, gs_of (by rw [hlen, hlr]; exact q2) ⟨loc, hm, by simpa using hll⟩, ?_, ?_⟩
     ·have := q3.conv hp' (ob' := .tg e ety l) (fun _ => trivial) hgt
      simpa using this
     ·exact ⟨q4.le, q4.ag, fun p nm ob a b => (by
       have := q4.pend p nm ob a b
       rw [List.getElem?_append_left (List.getElem?_eq_some_iff.1 a).1] at this ⊢
       exact this)⟩
    ·cases h
   ·cases h
  ·cases h
 ·cases h
theorem shrinkT_sound (hI : Inv C B kn m σ nx w) {t : Nat} {x r : AV} {v : Value} {lo hi : Option AV} {lo' hi' : Option Value} {σ' : Sto} {nx' : Nat} (h : shrinkT C.P t σ nx x lo hi = some (r, σ', nx')) (hx : Rel kn m x v)
  (hlo : ∀ a, lo = some a → ∃ v, lo' = some v ∧ Rel kn m a v) (hlo0 : lo = none → lo' = none) (hhi : ∀ a, hi = some a → ∃ v, hi' = some v ∧ Rel kn m a v) (hhi0 : hi = none → hi' = none) :
  ∃ u m' w', (Instr.sliceAt t v lo' hi' none).run C.P w = .ok u w' ∧ Rel kn m' r u ∧ Inv C B kn m' σ' nx' w' ∧ Keep m σ nx m' σ' nx' := by
 unfold shrinkT at h
 split at h
 ·rename_i p nm e len
  split at h
  ·rename_i q sz by_ l' h' e2 ety l he hb hg
   split at h
   ·rename_i hc
    obtain ⟨rfl, rfl, rfl, h0, h1⟩ := hc
    cases h
    obtain ⟨hu, hsz, _⟩ := elm_sound he
    have hp := sget_some hg
    have hgv : GvRel kn m w nm e.size ety (l.map e.row) := hI.obj _ _ _ hp
    cases hx with
    | gs _ _ _ _ _ loc hm hl hr =>
     cases hr with
     | srefNil _ _ _ loc' hm' hn =>
      have hl0 : l = [] := by simpa using hgv.nilRows hm' hn
      subst hl0
      have hh0 : h' = 0 := by simp at h1; omega
      subst hh0
      have hbs := bnd_sound (C := C) (w := w) (cap := 0) hb hlo hlo0 hhi hhi0 (Int.le_refl _) (Int.le_refl _) (by simp) true
      have hrun : (Instr.sliceAt t (.slice none 0 0) lo' hi' none).run C.P w = .ok (.slice none 0 0) w := by
       simp [Instr.sliceAt, run_underlying hu, Instr.slice, hbs, run_sizeOf' hsz]
      obtain ⟨q1, q2⟩ := hI.replace (ob' := .tg e ety (([] : List e.den).take (0 : Int).toNat)) (loc' := ⟨0, 0, 0, e.size, 0, true⟩) hp trivial hm' (w' := w) (Nat.le_refl _) rfl rfl rfl (.inl rfl) (fun h => by cases h) (fun _ _ _ => rfl)
       (show GvRel _ _ _ _ _ _ _ from ⟨_, mput_same _ _ _, rfl, .inl ⟨rfl, rfl⟩⟩)
      exact ⟨_, _, _, hrun, gs_of (.srefNil _ _ _ _ (mput_same _ _ _) rfl) ⟨_, mput_same _ _ _, rfl⟩, q1, q2⟩
     | sref _ _ _ _ _ loc' hm' hn he'' hc hle =>
      have hll0 : loc'.len = len := by rw [hm'] at hm; cases hm; exact hl
      obtain ⟨hll, he2, arr, hw, hsz2, hle2, hmx, hone, hrl, hrr⟩ := hgv.get hm' hn
      rw [List.length_map] at hle2 hll
      have hbs := bnd_sound (C := C) (w := w) (cap := loc'.cap - 0) hb hlo hlo0 hhi hhi0 (Int.le_refl _) h0 (by omega) true
      simp only [Nat.sub_zero] at hbs
      have hrun : (Instr.sliceAt t (.slice (some ⟨loc'.blk, loc'.off + 0 * loc'.esz, none⟩) len (loc'.cap - 0)) lo' hi' none).run C.P w = .ok (.slice (some ⟨loc'.blk, loc'.off, none⟩) h'.toNat loc'.cap) w := by
       simp [Instr.sliceAt, run_underlying hu, Instr.slice, hbs, run_sizeOf' hsz, add_mk]
      obtain ⟨q1, q2⟩ := hI.replace (ob' := .tg e ety (l.take h'.toNat)) (loc' := ⟨loc'.blk, loc'.off, loc'.cap, e.size, h'.toNat, false⟩) hp trivial hm' (w' := w) (Nat.le_refl _) rfl rfl rfl (.inr (.inl ⟨hn, rfl⟩)) (fun _ => (hI.own _ _ _ _ hp trivial hm' hn).1) (fun _ _ _ => rfl)
       (show GvRel _ _ _ _ _ _ _ from ⟨_, mput_same _ _ _, by simp; omega, .inr ⟨rfl, rfl, arr, hw, hsz2, by simp; omega, hmx, hone, fun i row hi => (by
         rw [List.map_take, List.getElem?_take] at hi
         split at hi
         ·exact hrl i row hi
         ·cases hi), fun i row j y v hi hj hv => (by
         rw [List.map_take, List.getElem?_take] at hi
         split at hi
         ·exact (hrr i row j y v hi hj hv).mono (KnLe.refl _) (mple_put hI _)
         ·cases hi)⟩⟩)
      refine ⟨_, _, _, hrun, gs_of ?_ ⟨_, mput_same _ _ _, rfl⟩, q1, q2⟩
      have := Rel.sref (kn := kn) p nx e.size 0 h'.toNat _ (mput_same m nx ⟨loc'.blk, loc'.off, loc'.cap, e.size, h'.toNat, false⟩) rfl rfl (by show h'.toNat + 0 ≤ loc'.cap; omega) (by omega)
      simpa using this
   ·cases h
  ·cases h
 ·cases h
theorem splice_get' {α : Type} (l : List α) (z : α) (off len k : Nat) (h : off + len ≤ l.length) : (l.take off ++ (List.replicate len z ++ l.drop (off + len)))[k]? = if off ≤ k ∧ k < off + len then some z else l[k]? := by
 have := splice_get l (List.replicate len z) off k (by simpa using h)
 rw [List.length_replicate] at this
 rw [this]
 split
 ·rename_i hk; rw [List.getElem?_replicate, if_pos (by omega)]
 ·rfl
theorem clearT_sound (hI : Inv C B kn m σ nx w) {t ty : Nat} {x : AV} {v : Value} {σ' : Sto} (h : clearT C.P t σ x = some σ') (hx : Rel kn m x v) :
  ∃ w', (Builtin.clear_ #[t] ty #[v]).run C.P w = .ok (.tuple #[]) w' ∧ Inv C B kn m σ' nx w' ∧ Keep m σ nx m σ' nx := by
 unfold clearT at h
 split at h
 ·rename_i p nm e off len
  split at h
  ·rename_i ety sz by_ e2 ety' l he hg
   split at h
   ·rename_i z hz
    split at h
    ·rename_i z' hz'
     split at h
     ·rename_i hc
      cases h
      obtain ⟨rfl, hes, hzl, hfit⟩ := hc
      subst hes
      have hp := sget_some hg
      obtain ⟨hu, hsz, i, hi, hs1, hs2⟩ := elm_sound he
      have triv : len = 0 → ∃ a cap, v = .slice a 0 cap := fun h0 => by
       subst h0
       cases hx with
       | gvE _ _ _ _ a cap => exact ⟨a, cap, rfl⟩
       | gvS _ _ _ _ _ _ hr =>
        cases hr with
        | srefNil _ _ _ loc hm hn => exact ⟨_, _, rfl⟩
        | sref _ _ _ _ _ loc hm hn he' hl hm' => exact ⟨_, _, rfl⟩
      by_cases h0 : len = 0
      ·obtain ⟨a, cap, rfl⟩ := triv h0
       have hrun : (Builtin.clear_ #[t] ty #[.slice a 0 cap]).run C.P w = .ok (.tuple #[]) w := by
        cases a <;> simp [Builtin.clear_, run_underlying hu]
       have hs : σ.set p (nm, .tg e ety' (l.take off ++ (List.replicate len z' ++ l.drop (off + len)))) = σ := by
        subst h0
        simp only [List.replicate_zero, List.nil_append, Nat.add_zero, List.take_append_drop]
        apply List.ext_getElem?
        intro q
        rw [List.getElem?_set]
        split
        ·rename_i hq; subst hq; rw [hp]; have := (List.getElem?_eq_some_iff.1 hp).1; simp [this]
        ·rfl
       rw [hs]
       exact ⟨w, hrun, hI, Keep.refl _ _ _⟩
      ·cases hx with
       | gvE _ _ _ _ a cap => exact absurd rfl h0
       | gvS _ _ _ _ _ _ hr =>
        cases hr with
        | srefNil _ _ _ loc hm hn => exact absurd rfl h0
        | sref _ _ _ _ _ loc hm hn he' hl hm' =>
         obtain ⟨i', zv, hi', hzv, rfl, hzr⟩ := zero_sound hz kn m
         rw [hi] at hi'; cases hi'
         have hzs : zv.cells.size = e.size := by rw [← Array.length_toList, ← hzr.1.1]; exact hzl
         obtain ⟨hll, hesz, arr, hw, hasz, hle, hmx, hone, hrl, hrr⟩ := GvRel.get (hI.obj _ _ _ hp) hm hn
         have hlen : (l.map e.row).length = l.length := List.length_map ..
         rw [hlen] at hle hll
         have hnew1 : (Builtin.zeroCells zv.cells len).toList.length = len * e.size := by rw [Array.length_toList, size_zeroCells, hzs]
         have hone' := zeroCells_one hzr.2 len
         have hrow : ∀ us, RelL kn m (zv.cells.toList.map ofVal) us → RelL kn m (e.row z') us := fun us => absC_sound _ _ _ _ hz' us
         have hmul : (off + len) * e.size ≤ loc.cap * e.size := Nat.mul_le_mul_right _ (by omega)
         have hA : loc.off + off * e.size + (len * e.size) ≤ arr.toList.length := by
          rw [Nat.add_mul] at hmul; simp; omega
         have hget : ∀ k, (arr.toList.take (loc.off + off * e.size) ++ ((Builtin.zeroCells zv.cells len).toList ++ arr.toList.drop (loc.off + off * e.size + len * e.size)))[k]? = if loc.off + off * e.size ≤ k ∧ k < loc.off + off * e.size + len * e.size then (Builtin.zeroCells zv.cells len).toList[k - (loc.off + off * e.size)]? else arr.toList[k]? := fun k => by
          have := splice_get arr.toList (Builtin.zeroCells zv.cells len).toList (loc.off + off * e.size) k (by rw [hnew1]; exact hA)
          rw [hnew1] at this; exact this
         have hrun : (Builtin.clear_ #[t] ty #[.slice (some ⟨loc.blk, loc.off + off * loc.esz, none⟩) len (loc.cap - off)]).run C.P w = .ok (.tuple #[]) (w.setRow loc.blk (arr.toList.take (loc.off + off * e.size) ++ ((Builtin.zeroCells zv.cells len).toList ++ arr.toList.drop (loc.off + off * e.size + len * e.size))).toArray) := by
          have hst := run_storeCells_at C.P loc.blk (loc.off + off * e.size) ety' (Builtin.zeroCells zv.cells len).toList 0 arr w hw (by rw [hnew1]; simpa using hA) hone'
          simp only [Nat.add_zero, hnew1, List.append_assoc] at hst
          cases len with
          | zero => exact absurd rfl h0
          | succ q =>
           rw [hesz]
           simp [Builtin.clear_, run_underlying hu, zeroValue, run_typeInfo' hi, hzv]
           rw [hst]
           rfl
         obtain ⟨q1, q2⟩ := hI.write (ob' := .tg e ety' (l.take off ++ (List.replicate len z' ++ l.drop (off + len)))) hp trivial hm hn
          (w' := w.setRow loc.blk (arr.toList.take (loc.off + off * e.size) ++ ((Builtin.zeroCells zv.cells len).toList ++ arr.toList.drop (loc.off + off * e.size + len * e.size))).toArray) (by simp) rfl rfl rfl
          (fun b hb => setRow_other _ _ _ _ hb)
          (by
           have hL : ((l.take off ++ (List.replicate len z' ++ l.drop (off + len))).map e.row).length = l.length := by simp; omega
           refine ⟨loc, hm, by rw [hL]; exact hll, .inr ⟨hn, hesz, _, setRow_heap w loc.blk arr _ ety' (0, 0) hw, ?_, by rw [hL]; exact hle, hmx, fun u hu => ?_, fun k r hk => ?_, fun k r j y u hk hj hu => ?_⟩⟩
           ·rw [List.size_toArray]
            have := splice_len arr.toList (Builtin.zeroCells zv.cells len).toList (loc.off + off * e.size) (by rw [hnew1]; exact hA)
            rw [hnew1] at this
            rw [this]; simpa using hasz
           ·simp only [List.mem_append] at hu
            rcases hu with hu | hu | hu
            ·exact hone u (List.mem_of_mem_take hu)
            ·exact hone' u hu
            ·exact hone u (List.mem_of_mem_drop hu)
           ·rw [List.getElem?_map] at hk
            obtain ⟨d, _, rfl⟩ := Option.map_eq_some_iff.1 hk
            exact E.row_len _ _
           ·rw [List.getElem?_toArray, hget] at hu
            rw [List.getElem?_map, splice_get' l z' off len k hfit] at hk
            have hjl : j < e.size := by
             obtain ⟨d, _, rfl⟩ := Option.map_eq_some_iff.1 hk
             rw [← E.row_len e d]; exact (List.getElem?_eq_some_iff.1 hj).1
            by_cases hk2 : off ≤ k ∧ k < off + len
            ·rw [if_pos hk2] at hk
             cases hk
             have h1 : off * e.size ≤ k * e.size := Nat.mul_le_mul_right _ hk2.1
             have h2 : k * e.size + j < (off + len) * e.size := idx_lt hk2.2 hjl
             rw [Nat.add_mul] at h2
             rw [if_pos ⟨by omega, by omega⟩] at hu
             have h3 : loc.off + k * e.size + j - (loc.off + off * e.size) = (k - off) * e.size + j := by rw [Nat.sub_mul]; omega
             rw [h3] at hu
             have hfl := flat_replicate _ _ hzr len
             rw [hzs] at hfl
             have hz0 : (Builtin.zeroCells zv.cells len).toList = ((Array.range (len * e.size)).map (zv.cells[· % e.size]!)).toList := by unfold Builtin.zeroCells; rw [hzs]
             rw [hz0] at hu
             refine (hrow (List.ofFn fun q : Fin e.size => zv.cells[q.1]!) ⟨by simp [hzs], fun a x2 v2 ha hb => ?_⟩).2 j y u hj ?_
             ·have ha' : a < e.size := by have := (List.getElem?_eq_some_iff.1 ha).1; simpa [hzs] using this
              have hb' : v2 = zv.cells[a]! := by simp [ha'] at hb; exact hb.symm
              refine hzr.1.2 a x2 v2 ha ?_
              have : a < zv.cells.size := by omega
              rw [hb', getElem!_pos zv.cells a this]; simp [this]
             ·have h4 : (k - off) * e.size + j < len * e.size := idx_lt (by omega) hjl
              have h5 : ((k - off) * e.size + j) % e.size = j := by rw [Nat.mul_comm, Nat.mul_add_mod, Nat.mod_eq_of_lt hjl]
              simp [h4, h5] at hu
              simp [hjl, hu]
            ·rw [if_neg hk2] at hk
             have hout : ¬ (loc.off + off * e.size ≤ loc.off + k * e.size + j ∧ loc.off + k * e.size + j < loc.off + off * e.size + len * e.size) := by
              rintro ⟨a, b⟩
              apply hk2
              constructor
              ·rcases Nat.lt_or_ge k off with h | h
               ·have := idx_lt (sz := e.size) h hjl; omega
               ·exact h
              ·rcases Nat.lt_or_ge k (off + len) with h | h
               ·exact h
               ·have := Nat.mul_le_mul_right e.size h; rw [Nat.add_mul] at this; omega
             rw [if_neg hout] at hu
             exact hrr k r j y u (by rw [List.getElem?_map]; exact hk) hj (by simpa using hu))
         exact ⟨_, hrun, q1, q2⟩
     ·cases h
    ·cases h
   ·cases h
  ·cases h
 ·cases h
end
end Go.Ab

namespace Go.Ab
open Go Go.RowKit
section
variable {C : Cx} {B : Base} {kn : Kn} {m : Mp} {σ : Sto} {nx : Nat} {w : World}
theorem slcOf_nil {loc : Loc} (h : loc.nil = true) : slcOf loc = .slice none 0 0 := by unfold slcOf; rw [if_pos h]
theorem slcOf_some {loc : Loc} (h : loc.nil = false) : slcOf loc = .slice (some ⟨loc.blk, loc.off, none⟩) loc.len loc.cap := by unfold slcOf; rw [if_neg (by rw [h]; exact Bool.false_ne_true)]
theorem app_run {t t' ty e' bytes nm esz ety : Nat} {zv yv : Value} {rows ys : List (List AV)} {loc : Loc} (hT : AppTy C t t' e' esz bytes zv) (hs0 : 0 < esz) (hE : Elems C kn m w esz ys yv) (hg : GvRel kn m w nm esz ety rows) (hm : m nm = some loc)
  (hb : (rows.length + ys.length) * bytes ≤ limB) (hm62 : rows.length + ys.length ≤ 4611686018427387904) :
  ∃ w' loc', (Builtin.append_ #[t, t'] ty #[slcOf loc, yv]).run C.P w = .ok (slcOf loc') w' ∧ w.heap.size ≤ w'.heap.size ∧ w'.os = w.os ∧ w'.tape = w.tape ∧ w'.output = w.output ∧ loc'.len = rows.length + ys.length ∧
   (loc'.nil = false → loc'.esz = esz ∧ loc'.blk < w'.heap.size) ∧ (∀ b, b < w.heap.size → (loc'.nil = true ∨ b ≠ loc'.blk) → w'.heap[b]? = w.heap[b]?) ∧
   (loc'.nil = true ∨ (loc'.nil = false ∧ loc.nil = false ∧ loc'.blk = loc.blk ∧ loc'.off = loc.off ∧ ∀ o, o < loc.off + rows.length * esz → w'.cell? ⟨loc.blk, o, none⟩ = w.cell? ⟨loc.blk, o, none⟩) ∨ (loc'.nil = false ∧ w.heap.size ≤ loc'.blk ∧ loc'.off = 0 ∧ rows.length + ys.length ≠ 0)) ∧
   ∀ (m' : Mp) (nm' : Nat), MpLe m m' → m' nm' = some loc' → ∃ ety', GvRel kn m' w' nm' esz ety' (rows ++ ys) := by
 cases hnil : loc.nil with
 | true =>
  have h0 : rows = [] := hg.nilRows hm hnil
  subst h0
  rw [slcOf_nil hnil]
  by_cases hy : ys.length = 0
  ·have hn0 : ys = [] := List.eq_nil_of_length_eq_zero hy
   subst hn0
   obtain ⟨news, hnl, hnf, hnr⟩ := hE
   have hrun := run_append_stay (C := C) (w := w) (ty := ty) (sLen := 0) (sCap := 0) (base := none) hT.hu hT.hni hT.hsz (hnr w rfl).1 (hnr w rfl).2 (by simp)
   refine ⟨w, ⟨0, 0, 0, esz, 0, true⟩, by rw [slcOf_nil rfl]; simpa using hrun, Nat.le_refl _, rfl, rfl, rfl, rfl, (fun h => by cases h), fun _ _ _ => rfl, .inl rfl, fun m' nm' _ h => ⟨ety, ⟨_, h, rfl, .inl ⟨rfl, rfl⟩⟩⟩⟩
  ·obtain ⟨w', cap, hrun, h1, h2, h3, h4, h5, h6, h7, h8⟩ := app_fresh (ty := ty) hT hE none hy (by simpa using hb) (by simpa using hm62)
   refine ⟨w', ⟨w.heap.size, 0, cap, esz, ys.length, false⟩, by rw [slcOf_some rfl]; exact hrun, h1, h2, h3, h4, by simp, fun _ => ⟨rfl, h5⟩, fun b hb _ => h6 b hb, .inr (.inr ⟨rfl, Nat.le_refl _, rfl, by simpa using hy⟩), fun m' nm' hle h => ⟨e', h8 m' nm' hle h⟩⟩
 | false =>
  rw [slcOf_some hnil]
  have hu := hT.hu
  have hni := hT.hni
  have hsz := hT.hsz
  have hzs := hT.hzs
  obtain ⟨i, hi, his, hib, hzv⟩ := hT.i
  obtain ⟨news, hnl, hnf, hnr⟩ := hE
  obtain ⟨hll, hez, arr, hw, hsz', hle', hmx, hone, hrl, hrr⟩ := hg.get hm hnil
  obtain ⟨olds, hol, hof, hor⟩ := gv_elems (C := C) hg hs0 hm hnil (off := 0) (len := rows.length) (by omega) (by omega)
  simp only [List.drop_zero, List.take_length, Nat.zero_mul, Nat.add_zero, Nat.sub_zero] at hol hof hor
  rw [hll]
  have hlenr : (rows ++ ys).length = rows.length + ys.length := List.length_append
  by_cases hroom : rows.length + ys.length ≤ loc.cap
  ·have hrun := run_append_stay (C := C) (w := w) (ty := ty) (sLen := rows.length) (sCap := loc.cap) (base := some ⟨loc.blk, loc.off, none⟩) hu hni hsz (hnr w rfl).1 (hnr w rfl).2 hroom
   have hroom' : (rows.length + ys.length) * esz ≤ loc.cap * esz := Nat.mul_le_mul_right _ hroom
   rw [Nat.add_mul] at hroom'
   have hfit : loc.off + rows.length * esz + news.length ≤ arr.toList.length := by rw [hnl, Array.length_toList (xs := arr)]; omega
   have hst := run_storeCells_at C.P loc.blk (loc.off + rows.length * esz) ety news 0 arr w hw (by simpa using hfit) hnf.2.2
   simp only [Nat.add_zero, List.append_assoc] at hst
   simp only [add_mk, hst, Result.andThen_ok] at hrun
   have hsp := splice_get arr.toList news (loc.off + rows.length * esz)
   have hset := setRow_heap w loc.blk arr (arr.toList.take (loc.off + rows.length * esz) ++ (news ++ arr.toList.drop (loc.off + rows.length * esz + news.length))).toArray ety (0, 0) hw
   have hbw : loc.blk < w.heap.size := by
    rcases Nat.lt_or_ge loc.blk w.heap.size with h | h
    ·exact h
    ·rw [Array.getElem?_eq_none h] at hw; cases hw
   refine ⟨w.setRow loc.blk (arr.toList.take (loc.off + rows.length * esz) ++ (news ++ arr.toList.drop (loc.off + rows.length * esz + news.length))).toArray, ⟨loc.blk, loc.off, loc.cap, esz, rows.length + ys.length, false⟩, by rw [slcOf_some rfl]; exact hrun, by simp, rfl, rfl, rfl, rfl, fun _ => ⟨rfl, by simpa using hbw⟩, fun b _ hb => setRow_other _ _ _ _ (hb.resolve_left (by simp)), .inr (.inl ⟨rfl, rfl, rfl, rfl, fun o ho => ?_⟩), fun m' nm' hmle hnm => ⟨ety, ?_⟩⟩
   ·have h2 : (arr.toList.take (loc.off + rows.length * esz) ++ (news ++ arr.toList.drop (loc.off + rows.length * esz + news.length))).toArray[o]? = arr[o]? := by
     rw [List.getElem?_toArray, hsp _ hfit, if_neg (fun hh => by omega), Array.getElem?_toList]
    simp only [World.cell?, hset, hw]
    simpa using h2
   ·refine ⟨_, hnm, hlenr.symm, .inr ⟨rfl, rfl, _, hset, ?_, by rw [hlenr]; exact hroom, hmx, fun u hu => ?_, fun k row hk => ?_, fun k row j x v hk hj hv => ?_⟩⟩
    ·rw [List.size_toArray, splice_len _ _ _ hfit, Array.length_toList]
     exact hsz'
    ·simp only [List.mem_append] at hu
     rcases hu with hu | hu | hu
     ·exact hone u (List.mem_of_mem_take hu)
     ·exact hnf.2.2 u hu
     ·exact hone u (List.mem_of_mem_drop hu)
    ·rcases Nat.lt_or_ge k rows.length with hk' | hk'
     ·rw [List.getElem?_append_left hk'] at hk
      exact hrl k row hk
     ·rw [List.getElem?_append_right hk'] at hk
      exact hnf.1 _ row hk
    ·have hv' : (arr.toList.take (loc.off + rows.length * esz) ++ (news ++ arr.toList.drop (loc.off + rows.length * esz + news.length)))[loc.off + k * esz + j]? = some v := by
      simpa using hv
     rw [hsp _ hfit] at hv'
     rcases Nat.lt_or_ge k rows.length with hk' | hk'
     ·rw [List.getElem?_append_left hk'] at hk
      have hjl : j < esz := by rw [← hrl k row hk]; exact (List.getElem?_eq_some_iff.1 hj).1
      have := idx_lt hk' hjl
      rw [if_neg (by omega)] at hv'
      exact (hrr k row j x v hk hj (by rw [← Array.getElem?_toList, ← hv'])).mono (KnLe.refl _) hmle
     ·rw [List.getElem?_append_right hk'] at hk
      have hjl : j < esz := by rw [← hnf.1 _ row hk]; exact (List.getElem?_eq_some_iff.1 hj).1
      have h1 := idx_lt (List.getElem?_eq_some_iff.1 hk).1 hjl
      have h2 : k * esz = rows.length * esz + (k - rows.length) * esz := by rw [← Nat.add_mul]; congr 1; omega
      rw [if_pos ⟨by omega, by rw [hnl]; omega⟩] at hv'
      refine (hnf.2.1 (k - rows.length) row j x v hk hj ?_).mono (KnLe.refl _) hmle
      rw [← hv']
      congr 1
      omega
  ·have hold := (hor w.drew rfl).2
   rw [← hll] at hold
   rw [← hll]
   have hrun := run_append_go (C := C) (w := w) (ty := ty) (sLen := loc.len) (sCap := loc.cap) (base := some ⟨loc.blk, loc.off, none⟩) hu hni hi his hzv (hnr w rfl).1 (hnr w.drew rfl).2 (by rw [hll]; rw [hll] at hold; exact hold) (by omega) (by omega) (by rw [hib, hll]; exact hb)
   rw [hll] at hrun ⊢
   have hcl : (olds ++ news).length = (rows ++ ys).length * esz := by rw [List.length_append, List.length_append, hol, hnl, Nat.add_mul]
   refine ⟨w.drew.alloc (.cells ((olds ++ news).toArray ++ Builtin.zeroCells zv.cells (grownCap w (rows.length + ys.length) loc.cap e' - (rows.length + ys.length))) e'), ⟨w.heap.size, 0, grownCap w (rows.length + ys.length) loc.cap e', esz, rows.length + ys.length, false⟩, ?_, by simp, rfl, rfl, rfl, rfl, fun _ => ⟨rfl, by simp⟩, fun b hb _ => Below.heap_alloc w.drew _ _ hb, .inr (.inr ⟨rfl, Nat.le_refl _, rfl, by omega⟩), fun m' nm' hmle hnm => ⟨e', ?_⟩⟩
   ·rw [slcOf_some rfl, hrun, show olds.toArray ++ news.toArray = (olds ++ news).toArray by simp]
   ·exact grown_obj (w := w) (flat_append hof hol hnf) hcl hlenr hzs hT.hz1 hm62 m' hmle hnm (heap_alloc_new w.drew _)
theorem live_hand {ob : AObj} (h : isHand ob = true) : live ob := by cases ob <;> first | trivial | cases h
theorem live_stk {ob : AObj} (h : isStk ob = true) : live ob := by cases ob <;> first | trivial | cases h
theorem Inv.two (hI : Inv C B kn m σ nx w) {p h nm q q' nx' : Nat} {ob1 ob1' ob2 ob2' : AObj} {m' : Mp} {kn' : Kn} {w' : World} (hne : p ≠ h) (hp : σ[p]? = some (nm, ob1)) (hh : σ[h]? = some (q, ob2)) (hst : isStk ob1 = true) (hl2 : live ob2)
  (hle : KnLe kn kn') (hold : ∀ n, n < nx → m' n = m n) (hnx : nx ≤ nx') (hdom : ∀ n, nx' ≤ n → m' n = none) (hq' : q' = q ∨ (nx ≤ q' ∧ q' < nx'))
  (hs : w.heap.size ≤ w'.heap.size) (ho : w'.os = w.os) (ht : w'.tape = w.tape) (hout : w'.output = w.output)
  (hsame : ∀ b, b < w.heap.size → (∀ loc, m nm = some loc → loc.nil = false → loc.blk ≠ b) → (∀ loc, m q = some loc → loc.nil = false → loc.blk ≠ b) → w'.heap[b]? = w.heap[b]? ∧ kn' b = kn b)
  (hknok : ∀ b o v, kn' b o = some v → w'.cell? ⟨b, o, none⟩ = some v)
  (hob1 : ObjRel C.P B kn' m' w' nm ob1') (hob2 : ObjRel C.P B kn' m' w' q' ob2') (hlaid1 : ∃ loc, m nm = some loc) (hlaid2 : ∃ loc, m q = some loc)
  (hown1 : ∀ loc, m nm = some loc → loc.nil = false → ∀ o, kn' loc.blk o = none)
  (hown2 : live ob2' → ∀ loc, m' q' = some loc → loc.nil = false → loc.blk < w'.heap.size ∧ ((∃ l, m q = some l ∧ l.nil = false ∧ l.blk = loc.blk) ∨ w.heap.size ≤ loc.blk) ∧ (isHand ob2' = false → ∀ o, kn' loc.blk o = none))
  (hsk1 : isStk ob1' = true) (hsk2 : isStk ob2' = false) :
  Inv C B kn' m' ((σ.set p (nm, ob1')).set h (q', ob2')) nx' w' ∧ Keep m σ nx m' ((σ.set p (nm, ob1')).set h (q', ob2')) nx' := by
 have hpl : p < σ.length := (List.getElem?_eq_some_iff.1 hp).1
 have hhl : h < σ.length := (List.getElem?_eq_some_iff.1 hh).1
 have hl1 := live_stk hst
 have hnm := hI.lt p nm ob1 hp
 have hq := hI.lt h q ob2 hh
 have hmle : MpLe m m' := fun n l e => by
  rcases Nat.lt_or_ge n nx with hlt | hge
  ·rw [hold n hlt]; exact e
  ·rw [hI.dom n hge] at e; cases e
 have hget : ∀ (p' nm' : Nat) (ob'' : AObj), ((σ.set p (nm, ob1')).set h (q', ob2'))[p']? = some (nm', ob'') → (p' = p ∧ nm' = nm ∧ ob'' = ob1') ∨ (p' = h ∧ nm' = q' ∧ ob'' = ob2') ∨ (p' ≠ p ∧ p' ≠ h ∧ σ[p']? = some (nm', ob'')) := fun p' nm' ob'' e => by
  rw [List.getElem?_set] at e
  split at e
  ·rename_i hx
   first
    | (cases e; exact .inr (.inl ⟨hx.symm, rfl, rfl⟩))
    | (split at e
       ·cases e; exact .inr (.inl ⟨hx.symm, rfl, rfl⟩)
       ·cases e)
  ·rename_i hx
   rw [List.getElem?_set] at e
   split at e
   ·rename_i hy
    first
     | (cases e; exact .inl ⟨hy.symm, rfl, rfl⟩)
     | (split at e
        ·cases e; exact .inl ⟨hy.symm, rfl, rfl⟩
        ·cases e)
   ·rename_i hy; exact .inr (.inr ⟨fun h => hy h.symm, fun h => hx h.symm, e⟩)
 have far : ∀ (p' nm' : Nat) (ob'' : AObj) (l : Loc), p' ≠ p → p' ≠ h → σ[p']? = some (nm', ob'') → live ob'' → m nm' = some l → l.nil = false → w'.heap[l.blk]? = w.heap[l.blk]? ∧ kn' l.blk = kn l.blk := fun p' nm' ob'' l h1 h2 e hl hm hn =>
  hsame l.blk (hI.own p' nm' ob'' l e hl hm hn).1 (fun loc a b => hI.dist p nm ob1 loc p' nm' ob'' l hp e hl1 hl a hm b hn (fun x => h1 x.symm)) (fun loc a b => hI.dist h q ob2 loc p' nm' ob'' l hh e hl2 hl a hm b hn (fun x => h2 x.symm))
 have hqlt : q' < nx' := by rcases hq' with rfl | h <;> omega
 refine ⟨⟨hknok, Nat.le_trans hI.size hs, ho.trans hI.os, ht.trans hI.tape, hout.trans hI.output, fun b hbb hob => ?_, fun p' nm' ob'' e => ?_, fun p' nm' ob'' l e hl hm hn => ?_, fun p1 n1 o1 l1 p2 n2 o2 l2 e1 e2 v1 v2 m1 m2 hn1 hn2 hne' => ?_, hdom, fun p' nm' ob'' e => ?_, fun p1 p2 n1 o1 o2 e1 e2 => ?_, fun p1 p2 n1 n2 o1 o2 e1 e2 s1 s2 => ?_, fun g => (hI.glob g).mono hle hmle, hI.tab⟩,
  ⟨hnx, hold, fun p' nm' ob'' e e' => ?_⟩⟩
 ·have h0 := hI.old b hbb hob
  obtain ⟨a, b⟩ := hsame b (Nat.lt_of_lt_of_le hbb hI.size) (fun loc a b' eb => by
    rcases (hI.own p nm ob1 loc hp hl1 a b').2.1 with h | h
    ·omega
    ·rw [eb] at h; exact hob h) (fun loc a b' eb => by
    rcases (hI.own h q ob2 loc hh hl2 a b').2.1 with h | h
    ·omega
    ·rw [eb] at h; exact hob h)
  exact ⟨a.trans h0.1, b.trans h0.2⟩
 ·rcases hget p' nm' ob'' e with ⟨rfl, rfl, rfl⟩ | ⟨rfl, rfl, rfl⟩ | ⟨h1, h2, e'⟩
  ·exact hob1
  ·exact hob2
  ·have hlt := hI.lt p' nm' ob'' e'
   refine ((hI.obj p' nm' ob'' e').mono hle (fun l hl hm hn => (far p' nm' ob'' l h1 h2 e' hl hm hn).1) (fun b hq => ?_)).mono_m (hold nm' hlt) hmle
   rcases hq with ⟨hx, _⟩ | ⟨hx, l, hm, hn, rfl⟩
   ·exact absurd (hI.stk1 _ _ _ _ _ _ e' hp hx hst) h1
   ·exact far p' nm' ob'' l h1 h2 e' (live_hand hx) hm hn
 ·rcases hget p' nm' ob'' e with ⟨rfl, rfl, rfl⟩ | ⟨rfl, rfl, rfl⟩ | ⟨h1, h2, e'⟩
  ·rw [hold _ hnm] at hm
   obtain ⟨a, b, c⟩ := hI.own p' nm' ob1 l hp hl1 hm hn
   exact ⟨Nat.lt_of_lt_of_le a hs, b, fun _ => hown1 l hm hn⟩
  ·obtain ⟨a, b, c⟩ := hown2 hl l hm hn
   refine ⟨a, ?_, c⟩
   rcases b with ⟨l', b1, b2, b3⟩ | b
   ·rw [← b3]; exact (hI.own _ q ob2 l' hh hl2 b1 b2).2.1
   ·exact .inl (Nat.le_trans hI.size b)
  ·rw [hold _ (hI.lt p' nm' ob'' e')] at hm
   obtain ⟨a, b, c⟩ := hI.own p' nm' ob'' l e' hl hm hn
   exact ⟨Nat.lt_of_lt_of_le a hs, b, fun hx o => by rw [(far p' nm' ob'' l h1 h2 e' hl hm hn).2]; exact c hx o⟩
 ·
  have key : ∀ (p1 n1 : Nat) (o1 : AObj) (l1 : Loc), p1 ≠ h → ((σ.set p (nm, ob1')).set h (q', ob2'))[p1]? = some (n1, o1) → live o1 → m' n1 = some l1 → l1.nil = false → ∃ o1', σ[p1]? = some (n1, o1') ∧ live o1' ∧ m n1 = some l1 := fun p1 n1 o1 l1 hx e1 v1 m1 hn1 => by
   rcases hget p1 n1 o1 e1 with ⟨rfl, rfl, rfl⟩ | ⟨rfl, rfl, rfl⟩ | ⟨h1, h2, e'⟩
   ·exact ⟨ob1, hp, hl1, by rw [← hold _ hnm]; exact m1⟩
   ·exact absurd rfl hx
   ·exact ⟨o1, e', v1, by rw [← hold _ (hI.lt _ _ _ e')]; exact m1⟩
  have key2 : ∀ (p1 n1 n2 : Nat) (o1 o2 : AObj) (l1 l2 : Loc), p1 ≠ h → ((σ.set p (nm, ob1')).set h (q', ob2'))[p1]? = some (n1, o1) → ((σ.set p (nm, ob1')).set h (q', ob2'))[h]? = some (n2, o2) → live o1 → live o2 → m' n1 = some l1 → m' n2 = some l2 → l1.nil = false → l2.nil = false → l1.blk ≠ l2.blk := fun p1 n1 n2 o1 o2 l1 l2 hx e1 e2 v1 v2 m1 m2 hn1 hn2 => by
   obtain ⟨o1', a1, a2, a3⟩ := key p1 n1 o1 l1 hx e1 v1 m1 hn1
   rcases hget h n2 o2 e2 with ⟨hy, _⟩ | ⟨_, rfl, rfl⟩ | ⟨_, hy, _⟩
   ·exact absurd hy.symm hne
   ·obtain ⟨_, b, _⟩ := hown2 v2 l2 m2 hn2
    rcases b with ⟨l', b1, b2, b3⟩ | b
    ·rw [← b3]
     exact hI.dist p1 n1 o1' l1 h q ob2 l' a1 hh a2 hl2 a3 b1 hn1 b2 hx
    ·have := (hI.own p1 n1 o1' l1 a1 a2 a3 hn1).1
     omega
   ·exact absurd rfl hy
  by_cases hx : p1 = h
  ·subst hx
   exact fun hb => key2 p2 n2 n1 o2 o1 l2 l1 (fun hy => hne' hy.symm) e2 e1 v2 v1 m2 m1 hn2 hn1 hb.symm
  ·by_cases hy : p2 = h
   ·subst hy
    exact key2 p1 n1 n2 o1 o2 l1 l2 hx e1 e2 v1 v2 m1 m2 hn1 hn2
   ·obtain ⟨o1', a1, a2, a3⟩ := key p1 n1 o1 l1 hx e1 v1 m1 hn1
    obtain ⟨o2', b1, b2, b3⟩ := key p2 n2 o2 l2 hy e2 v2 m2 hn2
    exact hI.dist p1 n1 o1' l1 p2 n2 o2' l2 a1 b1 a2 b2 a3 b3 hn1 hn2 hne'
 ·rcases hget p' nm' ob'' e with ⟨rfl, rfl, rfl⟩ | ⟨rfl, rfl, rfl⟩ | ⟨h1, h2, e'⟩
  ·omega
  ·exact hqlt
  ·have := hI.lt _ _ _ e'; omega
 ·have uq : ∀ (p1 n1 : Nat) (o1 : AObj), ((σ.set p (nm, ob1')).set h (q', ob2'))[p1]? = some (n1, o1) → (p1 = h ∧ n1 = q') ∨ (p1 ≠ h ∧ ∃ o, σ[p1]? = some (n1, o)) := fun p1 n1 o1 e1 => by
   rcases hget p1 n1 o1 e1 with ⟨rfl, rfl, rfl⟩ | ⟨rfl, rfl, rfl⟩ | ⟨h1, h2, e'⟩
   ·exact .inr ⟨hne, _, hp⟩
   ·exact .inl ⟨rfl, rfl⟩
   ·exact .inr ⟨h2, _, e'⟩
  rcases uq p1 n1 o1 e1 with ⟨rfl, h1⟩ | ⟨h1, o, a1⟩
  ·rcases uq p2 n1 o2 e2 with ⟨rfl, _⟩ | ⟨h2, o', a2⟩
   ·rfl
   ·rcases hq' with h3 | h3
    ·rw [h1, h3] at a2
     exact absurd (hI.uniq _ _ _ _ _ a2 hh) h2
    ·have := hI.lt _ _ _ a2; omega
  ·rcases uq p2 n1 o2 e2 with ⟨rfl, h2⟩ | ⟨h2, o', a2⟩
   ·rcases hq' with h3 | h3
    ·rw [h2, h3] at a1
     exact absurd (hI.uniq _ _ _ _ _ a1 hh) h1
    ·have := hI.lt _ _ _ a1; omega
   ·exact hI.uniq _ _ _ _ _ a1 a2
 ·have sk : ∀ (p1 n1 : Nat) (o1 : AObj), ((σ.set p (nm, ob1')).set h (q', ob2'))[p1]? = some (n1, o1) → isStk o1 = true → p1 = p := fun p1 n1 o1 e1 s1 => by
   rcases hget p1 n1 o1 e1 with ⟨rfl, rfl, rfl⟩ | ⟨rfl, rfl, rfl⟩ | ⟨h1, h2, e'⟩
   ·rfl
   ·rw [hsk2] at s1; cases s1
   ·exact absurd (hI.stk1 _ _ _ _ _ _ e' hp s1 hst) h1
  rw [sk _ _ _ e1 s1, sk _ _ _ e2 s2]
 ·have h1 : p' ≠ p := fun x => by
   subst x; rw [hp] at e; cases e
   obtain ⟨loc, hl⟩ := hlaid1
   rw [hl] at e'; cases e'
  have h2 : p' ≠ h := fun x => by
   subst x; rw [hh] at e; cases e
   obtain ⟨loc, hl⟩ := hlaid2
   rw [hl] at e'; cases e'
  rw [List.getElem?_set_ne (fun x => h2 x.symm), List.getElem?_set_ne (fun x => h1 x.symm)]
  exact e
end
end Go.Ab
