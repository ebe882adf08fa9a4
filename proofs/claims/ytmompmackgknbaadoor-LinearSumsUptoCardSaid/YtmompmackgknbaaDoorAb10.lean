/-
  OPERATIONS THAT WRITE, part three: append, make; and the whole.
-/
import Derived.Test.YtmompmackgknbaaDoorAb9
set_option linter.unusedVariables false
set_option linter.unusedSimpArgs false
namespace Go.Ab
open Go Go.RowKit

section
variable {C : Cx} {B : Base} {kn : Kn} {m : Mp} {σ : Sto} {nx : Nat} {w : World}

def notInt (P : Program) (t : TypeId) : Prop := P.underlying t = some .string ∨ ∃ e, P.underlying t = some (.slice e)

theorem run_append_stay {t t' ty e sz n sLen sCap : Nat} {base : Option Addr} {yv : Value} {news : List Value} (hu : C.P.underlying t = some (.slice e)) (ht' : notInt C.P t') (hsz : szT C.P e = some sz)
    (h1 : (Builtin.lenOf yv).run C.P w = .ok n w) (h2 : (Builtin.firstCells sz n yv).run C.P w = .ok news.toArray w) (hroom : sLen + n ≤ sCap) :
    (Builtin.append_ #[t, t'] ty #[.slice base sLen sCap, yv]).run C.P w = match base with
      | some a => ((storeCells (a.add (sLen * sz)) news).run C.P w).andThen fun _ w' => .ok (.slice (some a) (sLen + n) sCap) w'
      | none => .ok (.slice none (sLen + n) sCap) w := by
  rcases ht' with hd | ⟨e', hd⟩ <;> cases base <;> simp [Builtin.append_, run_underlying hu, run_underlying hd, run_sizeOf' hsz, h1, h2, hroom]

theorem run_append_go {t t' ty e sz n sLen sCap : Nat} {i : TypeInfo} {z : Value} {base : Option Addr} {yv : Value} {olds news : List Value} (hu : C.P.underlying t = some (.slice e)) (ht' : notInt C.P t') (hi : C.P.info? e = some i) (hsz : i.size = sz) (hz : i.zero = some z)
    (h1 : (Builtin.lenOf yv).run C.P w = .ok n w) (h2 : (Builtin.firstCells sz n yv).run C.P w.drew = .ok news.toArray w.drew) (h3 : (Builtin.firstCells sz sLen (.slice base sLen sCap)).run C.P w.drew = .ok olds.toArray w.drew)
    (hg : sCap < sLen + n) (hm : sLen + n ≤ 4611686018427387904) (hb : (sLen + n) * i.bytes ≤ 140737488355328) :
    (Builtin.append_ #[t, t'] ty #[.slice base sLen sCap, yv]).run C.P w =
      .ok (.slice (some ⟨w.heap.size, 0, none⟩) (sLen + n) (grownCap w (sLen + n) sCap e)) (w.drew.alloc (.cells (olds.toArray ++ news.toArray ++ Builtin.zeroCells z.cells (grownCap w (sLen + n) sCap e - (sLen + n))) e)) := by
  have hn : ¬ (sLen + n ≤ sCap) := by omega
  have h63' : ¬ (9223372036854775807 < ((sLen : Int) + (n : Int))) := by omega
  have h48' : ¬ (281474976710656 < Builtin.nextslicecap (sLen + n) sCap * i.bytes) := by have := growslice_fits hg hb; omega
  have hsz' : szT C.P e = some sz := by simp [szT, hi, hsz]
  rcases ht' with hd | ⟨e', hd⟩ <;> simp [Builtin.append_, run_underlying hu, run_underlying hd, run_sizeOf' hsz', zeroValue, run_typeInfo' hi, hz, h1, h2, h3, hn, h63', h48', Question.forced, newRow, grownCap] <;> (congr 2; apply Array.ext'; simp)

theorem slcT_notInt {P : Program} {t : Nat} (h : slcT P t = true) : notInt P t := by
  exact .inr (slcT_sound h)
theorem strT_notInt {P : Program} {t : Nat} (h : strT P t = true) : notInt P t := .inl (strT_sound h)

theorem flat_append {sz : Nat} {r1 r2 : List (List AV)} {c1 c2 : List Value} (h1 : Flat kn m sz r1 c1) (hl1 : c1.length = r1.length * sz) (h2 : Flat kn m sz r2 c2) : Flat kn m sz (r1 ++ r2) (c1 ++ c2) := by
  refine ⟨fun i row hi => ?_, fun i row j x v hi hj hv => ?_, fun v hv => ?_⟩
  · rcases Nat.lt_or_ge i r1.length with h | h
    · rw [List.getElem?_append_left h] at hi; exact h1.1 i row hi
    · rw [List.getElem?_append_right h] at hi; exact h2.1 _ row hi
  · rcases Nat.lt_or_ge i r1.length with h | h
    · rw [List.getElem?_append_left h] at hi
      have hjl : j < sz := by rw [← h1.1 i row hi]; exact (List.getElem?_eq_some_iff.1 hj).1
      rw [List.getElem?_append_left (by rw [hl1]; exact idx_lt h hjl)] at hv
      exact h1.2.1 i row j x v hi hj hv
    · rw [List.getElem?_append_right h] at hi
      have hge : c1.length ≤ i * sz + j := by rw [hl1]; have := Nat.mul_le_mul_right sz h; omega
      rw [List.getElem?_append_right hge] at hv
      refine h2.2.1 (i - r1.length) row j x v hi hj ?_
      rw [← hv]; congr 1
      rw [hl1, Nat.sub_mul]
      have := Nat.mul_le_mul_right sz h
      omega
  · rcases List.mem_append.1 hv with hv | hv
    · exact h1.2.2 v hv
    · exact h2.2.2 v hv
theorem flat_pad {sz : Nat} {r : List (List AV)} {c d : List Value} (h : Flat kn m sz r c) (hl : c.length = r.length * sz) (hd : ∀ v ∈ d, v.oneCell' = true) : Flat kn m sz r (c ++ d) := by
  refine ⟨h.1, fun i row j x v hi hj hv => ?_, fun v hv => ?_⟩
  · have hjl : j < sz := by rw [← h.1 i row hi]; exact (List.getElem?_eq_some_iff.1 hj).1
    rw [List.getElem?_append_left (by rw [hl]; exact idx_lt (List.getElem?_eq_some_iff.1 hi).1 hjl)] at hv
    exact h.2.1 i row j x v hi hj hv
  · rcases List.mem_append.1 hv with hv | hv
    · exact h.2.2 v hv
    · exact hd v hv
theorem Flat.mono {kn' : Kn} {m' : Mp} {sz : Nat} {r : List (List AV)} {c : List Value} (h : Flat kn m sz r c) (hk : KnLe kn kn') (hm : MpLe m m') : Flat kn' m' sz r c :=
  ⟨h.1, fun i row j x v a b d => (h.2.1 i row j x v a b d).mono hk hm, h.2.2⟩

theorem zeroCells_one {z : Array Value} (h : ∀ v ∈ z.toList, v.oneCell' = true) (n : Nat) : ∀ v ∈ (Builtin.zeroCells z n).toList, v.oneCell' = true := by
  intro v hv
  simp only [Builtin.zeroCells, Array.toList_map, List.mem_map] at hv
  obtain ⟨k, hk, rfl⟩ := hv
  have hk' : k < n * z.size := by simpa using hk
  have hpos : 0 < z.size := Nat.pos_of_ne_zero (fun e => by rw [e] at hk'; simp at hk')
  have hlt := Nat.mod_lt k hpos
  rw [getElem!_pos z (k % z.size) hlt]
  exact h _ (by simp)

/-- Appended into a new block: the object, laid anew. -/
theorem grown_obj {e sz n sCap nm blk : Nat} {rows : List (List AV)} {z : Value} {cells : List Value} {w' : World} (hf : Flat kn m sz rows cells) (hl : cells.length = rows.length * sz) (hn : rows.length = n) (hz : z.cells.size = sz) (hz1 : ∀ v ∈ z.cells.toList, v.oneCell' = true)
    (hm : n ≤ 4611686018427387904) (m' : Mp) (hmle : MpLe m m') (hnm : m' nm = some ⟨blk, 0, grownCap w n sCap e, sz⟩) (hw : w'.heap[blk]? = some (.cells (cells.toArray ++ Builtin.zeroCells z.cells (grownCap w n sCap e - n)) e (0, 0))) :
    ObjRel C.P kn m' w' nm (.gvec sz e rows) := by
  have hge := grownCap_ge w n sCap e
  have hmax := grownCap_le_maxLen w n sCap e (le62_max hm)
  have hpad := flat_pad hf hl (zeroCells_one hz1 (grownCap w n sCap e - n))
  refine gvec_obj hnm rfl hw rfl ?_ (by rw [hn]; exact hge) hmax (fun v hv => hpad.2.2 v (by simpa using hv)) hf.1 (fun i row j x v a b c => (hpad.2.1 i row j x v a b (by rw [← c, ← Array.getElem?_toList]; simp)).mono (KnLe.refl _) hmle)
  rw [Array.size_append, size_zeroCells, hz, List.size_toArray, hl, hn, ← Nat.add_mul]
  exact Nat.le_of_eq (by congr 1; show grownCap w n sCap e = _; omega)

theorem notMem_oneRow : True := trivial

theorem append_sound (hI : Inv C B kn m σ nx w) {t t' ty : Nat} {x y r : AV} {xv yv : Value} {σ' : Sto} {nx' : Nat} (h : appendA C.P t t' σ nx x y = some (r, σ', nx')) (hx : Rel kn m x xv) (hy : Rel kn m y yv) :
    ∃ u m' w', (Builtin.append_ #[t, t'] ty #[xv, yv]).run C.P w = .ok u w' ∧ Rel kn m' r u ∧ Inv C B kn m' σ' nx' w' ∧ Keep m σ nx m' σ' nx' := by
  unfold appendA at h
  split at h
  · rename_i e sz bytes he
    obtain ⟨hu, hsz, i, hi, his, hib⟩ := elm_sound he
    split at h
    · rename_i hc
      obtain ⟨hs0, hzl⟩ := hc
      obtain ⟨z, hz⟩ : ∃ z, zeroCells C.P e = some z := by
        cases hz : zeroCells C.P e with
        | none => simp [hz] at hzl
        | some z => exact ⟨z, rfl⟩
      rw [hz] at hzl
      simp only [Option.map_some, Option.some.injEq] at hzl
      obtain ⟨i', zv, hi', hzv, rfl, hzr⟩ := zero_sound hz kn m
      rw [hi] at hi'; cases hi'
      have hzs : zv.cells.size = sz := by rw [← Array.length_toList, ← hzr.1.1]; exact hzl
      split at h
      · rename_i ys hys
        have hE : notInt C.P t' ∧ Elems C kn m w sz ys yv := by
          split at hys
          · rename_i l
            split at hys
            · rename_i hs
              cases hys
              cases hy
              rw [hs.2]
              exact ⟨strT_notInt hs.1, elems_str⟩
            · cases hys
          · split at hys
            · rename_i hs
              exact ⟨slcT_notInt hs, elems_sound hI hs0 hys hy⟩
            · cases hys
        obtain ⟨hni, news, hnl, hnf, hnr⟩ := hE
        have fresh : ∀ (ad : Option Addr), ys.length ≠ 0 → ys.length * bytes ≤ limB → ys.length ≤ 4611686018427387904 → ∃ u m' w', (Builtin.append_ #[t, t'] ty #[.slice ad 0 0, yv]).run C.P w = .ok u w' ∧ Rel kn m' (.sref σ.length nx sz 0 ys.length) u ∧
            Inv C B kn m' (σ ++ [(nx, .gvec sz e ys)]) (nx + 1) w' ∧ Keep m σ nx m' (σ ++ [(nx, .gvec sz e ys)]) (nx + 1) := by
          intro ad hne hb hm
          have hold : (Builtin.firstCells sz 0 (.slice ad 0 0)).run C.P w.drew = .ok ([] : List Value).toArray w.drew := by
            cases ad with
            | none => rfl
            | some a => simp [Builtin.firstCells, loadCells, loadCellsFrom]
          have hrun := run_append_go (C := C) (w := w) (ty := ty) (sLen := 0) (sCap := 0) (base := ad) hu hni hi his hzv (hnr w rfl).1 (hnr w.drew rfl).2 hold (by omega) (by omega) (by rw [Nat.zero_add, hib]; exact hb)
          simp only [Nat.zero_add, List.toArray, Array.empty_append] at hrun
          have hmle : MpLe m (mput m nx ⟨w.heap.size, 0, grownCap w ys.length 0 e, sz⟩) := fun n l e => by
            rw [mput_ne]
            · exact e
            · intro en; subst en; rw [hI.dom n (Nat.le_refl _)] at e; cases e
          obtain ⟨q1, q2⟩ := hI.new (ob' := .gvec sz e ys) (loc' := ⟨w.heap.size, 0, grownCap w ys.length 0 e, sz⟩) (w' := w.drew.alloc (.cells (news.toArray ++ Builtin.zeroCells zv.cells (grownCap w ys.length 0 e - ys.length)) e)) (by simp) rfl rfl rfl (Nat.le_refl _) (by simp)
            (fun b hb => Below.heap_alloc w.drew _ _ hb) (grown_obj (w := w) hnf hnl rfl hzs hzr.2 hm _ hmle (mput_same _ _ _) (heap_alloc_new w.drew _))
          refine ⟨_, _, _, by simpa using hrun, ?_, q1, q2⟩
          have := Rel.sref (kn := kn) σ.length nx sz 0 ys.length _ (mput_same m nx ⟨w.heap.size, 0, grownCap w ys.length 0 e, sz⟩) rfl (grownCap_ge w ys.length 0 e) (le62 hm)
          simpa using this
        split at h
        · split at h
          · rename_i hb
            cases hx
            split at h
            · rename_i h0
              cases h
              have hn0 : ys = [] := List.eq_nil_of_length_eq_zero h0
              subst hn0
              have hrun := run_append_stay (C := C) (w := w) (ty := ty) (sLen := 0) (sCap := 0) (base := none) hu hni hsz (hnr w rfl).1 (hnr w rfl).2 (by simp)
              exact ⟨_, m, w, by simpa using hrun, .base _, hI, Keep.refl _ _ _⟩
            · rename_i h0
              cases h
              exact fresh none h0 hb.1 hb.2
          · cases h
        · split at h
          · rename_i hb
            cases hx with
            | emp ad =>
              split at h
              · rename_i h0
                cases h
                have hn0 : ys = [] := List.eq_nil_of_length_eq_zero h0
                subst hn0
                have hnn : news = [] := List.eq_nil_of_length_eq_zero (by simpa using hnl)
                subst hnn
                have hrun := run_append_stay (C := C) (w := w) (ty := ty) (sLen := 0) (sCap := 0) (base := ad) hu hni hsz (hnr w rfl).1 (hnr w rfl).2 (by simp)
                refine ⟨.slice ad 0 0, m, w, ?_, .emp _, hI, Keep.refl _ _ _⟩
                rw [hrun]
                cases ad <;> simp [storeCells]
              · rename_i h0
                cases h
                exact fresh ad h0 hb.1 hb.2
          · cases h
        · rename_i p nm esz off len
          split at h
          · rename_i esz' e' rows hs
            split at h
            · rename_i hc
              cases h
              obtain ⟨rfl, rfl, rfl, hle, hb, hm62⟩ := hc
              have hp := sget_some hs
              cases hx with
              | sref _ _ _ _ _ loc hm he' hl hm' =>
                have hob := hI.obj _ _ _ hp
                obtain ⟨loc', hm'', hez, arr, hw, hsz', hle', hmx, hone, hrl, hrr⟩ := hob
                rw [hm] at hm''; cases hm''
                subst hez
                have hrl' : ((rows.drop off).take len).length = len := by simp; omega
                obtain ⟨olds, hol, hof, hor⟩ := elems_sound hI hs0 (y := .sref p nm loc.esz off len) (yv := .slice (some ⟨loc.blk, loc.off + off * loc.esz, none⟩) len (loc.cap - off)) (ys := (rows.drop off).take len)
                  (by simp only [elemsA, hs]; rw [if_pos ⟨trivial, trivial, hle⟩]) (.sref _ _ _ _ _ loc hm rfl hl hm')
                have hlenr : ((rows.drop off).take len ++ ys).length = len + ys.length := by rw [List.length_append, hrl']
                by_cases hroom : len + ys.length ≤ loc.cap - off
                · have hrun := run_append_stay (C := C) (w := w) (ty := ty) (sLen := len) (sCap := loc.cap - off) (base := some ⟨loc.blk, loc.off + off * loc.esz, none⟩) hu hni hsz (hnr w rfl).1 (hnr w rfl).2 hroom
                  have hcap : off * loc.esz + (loc.cap - off) * loc.esz = loc.cap * loc.esz := by rw [← Nat.add_mul]; congr 1; omega
                  have hroom' : (len + ys.length) * loc.esz ≤ (loc.cap - off) * loc.esz := Nat.mul_le_mul_right _ hroom
                  rw [Nat.add_mul] at hroom'
                  have hfit : loc.off + off * loc.esz + len * loc.esz + news.length ≤ arr.toList.length := by rw [hnl, Array.length_toList (xs := arr)]; omega
                  have hst := run_storeCells_at C.P loc.blk (loc.off + off * loc.esz + len * loc.esz) e' news 0 arr w hw (by simpa using hfit) hnf.2.2
                  simp only [Nat.add_zero, List.append_assoc] at hst
                  simp only [add_mk, hst, Result.andThen_ok] at hrun
                  have hsp := splice_get arr.toList news (loc.off + off * loc.esz + len * loc.esz)
                  obtain ⟨q1, q2⟩ := hI.replace (ob' := .gvec loc.esz e' ((rows.drop off).take len ++ ys)) (loc' := ⟨loc.blk, loc.off + off * loc.esz, loc.cap - off, loc.esz⟩) hp trivial hm
                    (w' := w.setRow loc.blk (arr.toList.take (loc.off + off * loc.esz + len * loc.esz) ++ (news ++ arr.toList.drop (loc.off + off * loc.esz + len * loc.esz + news.length))).toArray) (by simp) rfl rfl rfl (.inl rfl)
                    (by simp; exact (hI.own _ _ _ _ hp trivial hm).1) (fun b _ hb => setRow_other _ _ _ _ hb)
                    (by
                      have hmle : MpLe m (mput m nx ⟨loc.blk, loc.off + off * loc.esz, loc.cap - off, loc.esz⟩) := fun n l e => by
                        rw [mput_ne]
                        · exact e
                        · intro en; subst en; rw [hI.dom n (Nat.le_refl _)] at e; cases e
                      refine ⟨_, mput_same _ _ _, rfl, _, setRow_heap w loc.blk arr _ e' (0, 0) hw, ?_, by rw [hlenr]; exact hroom, (by show loc.cap - off ≤ maxLen; omega), fun u hu => ?_, fun k row hk => ?_, fun k row j x v hk hj hv => ?_⟩
                      · rw [List.size_toArray, splice_len _ _ _ hfit, Array.length_toList]
                        show loc.off + off * loc.esz + (loc.cap - off) * loc.esz ≤ arr.size
                        omega
                      · simp only [List.mem_append] at hu
                        rcases hu with hu | hu | hu
                        · exact hone u (List.mem_of_mem_take hu)
                        · exact hnf.2.2 u hu
                        · exact hone u (List.mem_of_mem_drop hu)
                      · rcases Nat.lt_or_ge k len with hk' | hk'
                        · rw [List.getElem?_append_left (by rw [hrl']; exact hk')] at hk
                          exact hof.1 k row hk
                        · rw [List.getElem?_append_right (by rw [hrl']; exact hk')] at hk
                          exact hnf.1 _ row hk
                      · have hv' : (arr.toList.take (loc.off + off * loc.esz + len * loc.esz) ++ (news ++ arr.toList.drop (loc.off + off * loc.esz + len * loc.esz + news.length)))[loc.off + off * loc.esz + k * loc.esz + j]? = some v := by
                          simpa using hv
                        rw [hsp _ hfit] at hv'
                        rcases Nat.lt_or_ge k len with hk' | hk'
                        · rw [List.getElem?_append_left (by rw [hrl']; exact hk')] at hk
                          have hjl : j < loc.esz := by rw [← hof.1 k row hk]; exact (List.getElem?_eq_some_iff.1 hj).1
                          have := idx_lt hk' hjl
                          rw [if_neg (by omega)] at hv'
                          rw [List.getElem?_take, if_pos hk', List.getElem?_drop] at hk
                          refine (hrr (off + k) row j x v hk hj ?_).mono (KnLe.refl _) hmle
                          rw [← Array.getElem?_toList, ← hv']
                          congr 1
                          rw [Nat.add_mul]; omega
                        · rw [List.getElem?_append_right (by rw [hrl']; exact hk'), hrl'] at hk
                          have hjl : j < loc.esz := by rw [← hnf.1 _ row hk]; exact (List.getElem?_eq_some_iff.1 hj).1
                          have h1 := idx_lt (List.getElem?_eq_some_iff.1 hk).1 hjl
                          have h2 : k * loc.esz = len * loc.esz + (k - len) * loc.esz := by rw [← Nat.add_mul]; congr 1; omega
                          rw [if_pos ⟨by omega, by rw [hnl]; omega⟩] at hv'
                          refine (hnf.2.1 (k - len) row j x v hk hj ?_).mono (KnLe.refl _) hmle
                          rw [← hv']
                          congr 1
                          omega)
                  refine ⟨_, _, _, hrun, ?_, q1, q2⟩
                  have := Rel.sref (kn := kn) p nx loc.esz 0 (len + ys.length) _ (mput_same m nx ⟨loc.blk, loc.off + off * loc.esz, loc.cap - off, loc.esz⟩) rfl (by simpa using hroom) (le62 hm62)
                  simpa using this
                · have hold := (hor w.drew rfl).2
                  rw [hrl'] at hold
                  have hrun := run_append_go (C := C) (w := w) (ty := ty) (sLen := len) (sCap := loc.cap - off) (base := some ⟨loc.blk, loc.off + off * loc.esz, none⟩) hu hni hi his hzv (hnr w rfl).1 (hnr w.drew rfl).2 hold (by omega) hm62 (by rw [hib]; exact hb)
                  have hmle : MpLe m (mput m nx ⟨w.heap.size, 0, grownCap w (len + ys.length) (loc.cap - off) e', loc.esz⟩) := fun n l e => by
                    rw [mput_ne]
                    · exact e
                    · intro en; subst en; rw [hI.dom n (Nat.le_refl _)] at e; cases e
                  have hcl : (olds ++ news).length = ((rows.drop off).take len ++ ys).length * loc.esz := by rw [List.length_append, List.length_append, hol, hnl, Nat.add_mul]
                  obtain ⟨q1, q2⟩ := hI.replace (ob' := .gvec loc.esz e' ((rows.drop off).take len ++ ys)) (loc' := ⟨w.heap.size, 0, grownCap w (len + ys.length) (loc.cap - off) e', loc.esz⟩) hp trivial hm
                    (w' := w.drew.alloc (.cells ((olds ++ news).toArray ++ Builtin.zeroCells zv.cells (grownCap w (len + ys.length) (loc.cap - off) e' - (len + ys.length))) e')) (by simp) rfl rfl rfl (.inr (Nat.le_refl _)) (by simp)
                    (fun b hb _ => Below.heap_alloc w.drew _ _ hb) (grown_obj (w := w) (flat_append hof hol hnf) hcl hlenr hzs hzr.2 hm62 _ hmle (mput_same _ _ _) (heap_alloc_new w.drew _))
                  refine ⟨_, _, _, by rw [hrun, show olds.toArray ++ news.toArray = (olds ++ news).toArray by simp], ?_, q1, q2⟩
                  have := Rel.sref (kn := kn) p nx loc.esz 0 (len + ys.length) _ (mput_same m nx ⟨w.heap.size, 0, grownCap w (len + ys.length) (loc.cap - off) e', loc.esz⟩) rfl (grownCap_ge _ _ _ _) (le62 hm62)
                  simpa using this
            · cases h
          · cases h
        · cases h
      · cases h
    · cases h
  · cases h

theorem wrap_small {n : Int} (h0 : 0 ≤ n) (h1 : n ≤ 4611686018427387904) : IntKind.i64.wrap n = n := by
  rw [IntKind.wrap_i64]

  omega

theorem make_sound (hI : Inv C B kn m σ nx w) {t : Nat} {l c r : AV} {lv cv : Value} {σ' : Sto} {nx' : Nat} (h : makeA C.P t σ nx l c = some (r, σ', nx')) (hl : Rel kn m l lv) (hc : Rel kn m c cv) :
    ∃ u m' w', (Instr.makeSlice t lv cv).run C.P w = .ok u w' ∧ Rel kn m' r u ∧ Inv C B kn m' σ' nx' w' ∧ Keep m σ nx m' σ' nx' := by
  unfold makeA at h
  split at h
  · rename_i e sz bytes kl n kc k he
    obtain ⟨hu, hsz, i, hi, his, hib⟩ := elm_sound he
    cases hl; cases hc
    split at h
    · rename_i z hz
      split at h
      · rename_i hcond
        cases h
        obtain ⟨hs0, hzl, h0, hnk, hby, hk62⟩ := hcond
        obtain ⟨i', zv, hi', hzv, rfl, hzr⟩ := zero_sound hz kn m
        rw [hi] at hi'; cases hi'
        have hzs : zv.cells.size = sz := by rw [← Array.length_toList, ← hzr.1.1]; exact hzl
        have w1 : IntKind.i64.wrap n = n := wrap_small h0 (by omega)
        have w2 : IntKind.i64.wrap k = k := wrap_small (by omega) hk62
        have hrun : (Instr.makeSlice t (.int kl n) (.int kc k)).run C.P w = .ok (.slice (some ⟨w.heap.size, 0, none⟩) n.toNat k.toNat) (w.alloc (.cells ((Array.range (k.toNat * sz)).map (zv.cells[· % sz]!)) e)) := by
          have a1 : ¬ (k < 0) := by omega
          have a2 : ¬ (n < 0) := by omega
          have a3 : ¬ (281474976710656 < (bytes : Int) * k) := by rw [Int.mul_comm]; omega
          have a4 : ¬ (k < n) := by omega
          by_cases hk0 : k.toNat * sz = 0
          · have : k.toNat = 0 := by rcases Nat.mul_eq_zero.1 hk0 with h | h <;> omega
            simp [Instr.makeSlice, run_underlying hu, asInt, asIntOf, run_typeInfo' hi, hib, w1, w2, a1, a2, a3, a4, run_sizeOf' hsz, this, newRow, Array.range_zero']
          · simp [Instr.makeSlice, run_underlying hu, asInt, asIntOf, run_typeInfo' hi, hib, w1, w2, a1, a2, a3, a4, run_sizeOf' hsz, hk0, newRow, zeroValue, hzv, hzs]
        have hfl := flat_replicate _ _ hzr k.toNat
        rw [hzs] at hfl
        have hmle : MpLe m (mput m nx ⟨w.heap.size, 0, k.toNat, sz⟩) := fun n l e => by
          rw [mput_ne]
          · exact e
          · intro en; subst en; rw [hI.dom n (Nat.le_refl _)] at e; cases e
        have hget : ∀ i row, (List.replicate n.toNat (zv.cells.toList.map ofVal))[i]? = some row → (List.replicate k.toNat (zv.cells.toList.map ofVal))[i]? = some row := fun i row hi => by
          rw [List.getElem?_replicate] at hi ⊢
          split at hi
          · rw [if_pos (by omega)]; exact hi
          · cases hi
        obtain ⟨q1, q2⟩ := hI.new (ob' := .gvec sz e (List.replicate n.toNat (zv.cells.toList.map ofVal))) (loc' := ⟨w.heap.size, 0, k.toNat, sz⟩) (w' := w.alloc (.cells ((Array.range (k.toNat * sz)).map (zv.cells[· % sz]!)) e)) (by simp) rfl rfl rfl (Nat.le_refl _) (by simp)
          (fun b hb => Below.heap_alloc _ _ _ hb)
          (gvec_obj (mput_same _ _ _) rfl (heap_alloc_new w _) rfl (by simp) (by simp; omega) (by show k.toNat ≤ maxLen; exact le62_max (by omega)) hfl.2.2 (fun i row hi => hfl.1 i row (hget i row hi))
            (fun i row j x v a b c => (hfl.2.1 i row j x v (hget i row a) b (by rw [Array.getElem?_toList]; exact c)).mono (KnLe.refl _) hmle))
        refine ⟨_, _, _, hrun, ?_, q1, q2⟩
        have := Rel.sref (kn := kn) σ.length nx sz 0 n.toNat _ (mput_same m nx ⟨w.heap.size, 0, k.toNat, sz⟩) rfl (by show n.toNat + 0 ≤ k.toNat; omega) (le62 (by omega))
        simpa using this
      · cases h
    · cases h
  · cases h

theorem tup_three {kn : Kn} {m : Mp} {a b c : AV} {x y z : Value} (h1 : Rel kn m a x) (h2 : Rel kn m b y) (h3 : Rel kn m c z) : Rel kn m (.tup [a, b, c]) (.tuple #[x, y, z]) := by
  have h : RelL kn m [a, b, c] [x, y, z] := .cons h1 (.cons h2 (.cons h3 (.nil _ _)))
  exact .tup _ _ rfl fun i p v q r => h.2 i p v q (by simpa using r)
theorem tup_one {kn : Kn} {m : Mp} {a : AV} {x : Value} (h1 : Rel kn m a x) : Rel kn m (.tup [a]) (.tuple #[x]) := by
  have h : RelL kn m [a] [x] := .cons h1 (.nil _ _)
  exact .tup _ _ rfl fun i p v q r => h.2 i p v q (by simpa using r)
theorem range_sound (hI : Inv C B kn m σ nx w) {t : TypeId} {x r : AV} {v : Value} {σ' : Sto} {nx' : Nat} (h : rangeA C.P t σ nx x = some (r, σ', nx')) (hx : Rel kn m x v) :
    ∃ u m' w', (Instr.range t v).run C.P w = .ok u w' ∧ Rel kn m' r u ∧ Inv C B kn m' σ' nx' w' ∧ Keep m σ nx m' σ' nx' := by
  unfold rangeA at h
  split at h
  · rename_i l
    simp only [Option.ite_none_right_eq_some, Option.some.injEq, Prod.mk.injEq] at h
    obtain ⟨hs, rfl, rfl, rfl⟩ := h
    cases hx
    have hu : C.P.underlying t = some .string := by
      unfold strT at hs
      split at hs
      · rename_i e; exact e
      · cases hs
    obtain ⟨h1, h2⟩ := hI.new (ob' := .siter l 0) (loc' := ⟨w.heap.size, 0, 0, 0⟩) (w' := w.alloc (.stringIter ⟨l.toArray⟩ 0)) (by simp) rfl rfl rfl (Nat.le_refl _) (by simp) (fun b hb => Below.heap_alloc _ _ _ hb)
      (by simp only [ObjRel]; exact ⟨_, mput_same _ _ _, heap_alloc_new w _, rfl⟩)
    refine ⟨.pointer (some ⟨w.heap.size, 0, none⟩), _, _, ?_, .ref _ _ _ _ (mput_same _ _ _), h1, h2⟩
    simp only [Instr.range, Sem.run_bind, run_underlying hu, Result.andThen_ok, Sem.run_pure]
    rfl
  · cases h
theorem next_sound (hI : Inv C B kn m σ nx w) {t : TypeId} {x r : AV} {v : Value} {σ' : Sto} {nx' : Nat} (h : nextA σ nx x = some (r, σ', nx')) (hx : Rel kn m x v) :
    ∃ u m' w', (Instr.next v true t).run C.P w = .ok u w' ∧ Rel kn m' r u ∧ Inv C B kn m' σ' nx' w' ∧ Keep m σ nx m' σ' nx' := by
  unfold nextA at h
  split at h
  · rename_i p nm
    split at h
    · rename_i l pos hs
      have hp := sget_some hs
      cases hx with
      | ref _ _ _ loc hm =>
        obtain ⟨loc', hm', hw, h0⟩ := hI.obj _ _ _ hp
        rw [hm] at hm'; cases hm'
        have hget : (getObj loc.blk).run C.P w = .ok (.stringIter ⟨l.toArray⟩ pos) w := by simp [getObj, Sem.run, hw]
        have hsz : (⟨l.toArray⟩ : ByteArray).size = l.length := by simp [ByteArray.size]
        split at h
        · rename_i hlt
          simp only [Option.some.injEq, Prod.mk.injEq] at h
          obtain ⟨rfl, rfl, rfl⟩ := h
          have hset : (setObj loc.blk (.stringIter ⟨l.toArray⟩ (pos + (Utf8.decode ⟨l.toArray⟩ pos).2))).run C.P w = .ok () { w with heap := w.heap.setIfInBounds loc.blk (.stringIter ⟨l.toArray⟩ (pos + (Utf8.decode ⟨l.toArray⟩ pos).2)) } := by simp [setObj, Sem.run, hw]
          have hbl : loc.blk < w.heap.size := (Array.getElem?_eq_some_iff.1 hw).1
          obtain ⟨h1, h2⟩ := hI.write (ob' := .siter l (pos + (Utf8.decode ⟨l.toArray⟩ pos).2)) hp trivial hm (w' := { w with heap := w.heap.setIfInBounds loc.blk (.stringIter ⟨l.toArray⟩ (pos + (Utf8.decode ⟨l.toArray⟩ pos).2)) }) (by simp) rfl rfl rfl
            (fun b hb => by simp [Array.getElem?_setIfInBounds_ne (Ne.symm hb)]) (by simp only [ObjRel]; exact ⟨loc, hm, by simp [hbl], h0⟩)
          refine ⟨.tuple #[.bool true, goInt pos, .int .i32 (Utf8.decode ⟨l.toArray⟩ pos).1], m, _, ?_, tup_three (.bool _) (.int _ _) (.int _ _), h1, h2⟩
          rw [h0]
          simp only [Instr.next, Nat.zero_add, Sem.run_bind, hget, Result.andThen_ok, hsz, hlt, if_true, hset, Sem.run_pure]
        · rename_i hlt
          simp only [Option.some.injEq, Prod.mk.injEq] at h
          obtain ⟨rfl, rfl, rfl⟩ := h
          refine ⟨.tuple #[.bool false], m, w, ?_, tup_one (.bool _), hI, Keep.refl _ _ _⟩
          rw [h0]
          simp only [Instr.next, Nat.zero_add, Sem.run_bind, hget, Result.andThen_ok, hsz, hlt, if_false, Sem.run_pure]
    · cases h
  · cases h

theorem eop_sound {env : Nat → AV} {n : Nat} {act : Act} (hI : Inv C B kn m σ nx w) (hE : RelEnv kn m env n act) {o : Oper} {x : AV} {σ' : Sto} {nx' : Nat} (h : eop C o.op env σ nx = some (x, σ', nx')) :
    Writes C B kn m σ nx x σ' nx' ((execOp act.eval o).run C.P w) := by
  obtain ⟨dst, op, type, pos, after, guard⟩ := o
  simp only at h
  unfold eop at h
  split at h
  · rename_i T y
    cases hc : cellsA (opv C env y) with
    | none => simp [hc] at h
    | some cs =>
      simp [hc] at h
      obtain ⟨rfl, rfl, rfl⟩ := h
      obtain ⟨u, m', w', h1, h2, h3, h4⟩ := writes_box hI (T := T) (rel_opv hI hE y) hc
      exact ⟨.value u, u, m', w', by simp [execOp, h1], .inl rfl, h2, h3, h4⟩
  · rename_i t len parts
    split at h
    · rename_i e sz by_ he
      split at h
      · rename_i z hz
        split at h
        · rename_i hc
          cases hr : rowsA sz (List.replicate len z) (parts.toList.map fun p => (p.1, opv C env p.2)) with
          | none => simp [hr] at h
          | some rows =>
            simp [hr] at h
            obtain ⟨rfl, rfl, rfl⟩ := h
            obtain ⟨u, m', w', h1, h2, h3, h4⟩ := writes_buildSlice hI he hz hc.1 hc.2.1 hc.2.2 hr (rel_parts hI hE parts).1 (rel_parts hI hE parts).2
            refine ⟨.value u, u, m', w', ?_, .inl rfl, h2, h3, h4⟩
            simp only [execOp, Sem.run_bind]
            rw [h1]
            rfl
        · cases h
      · cases h
    · cases h
  · rename_i T a y
    cases hs : storeA C.P T σ (opv C env a) (opv C env y) with
    | none => simp [hs] at h
    | some σ1 =>
      simp [hs] at h
      obtain ⟨rfl, rfl, rfl⟩ := h
      obtain ⟨w', h1, h2, h3⟩ := store_sound hI hs (rel_opv hI hE a) (rel_opv hI hE y)
      exact ⟨.skip, undef, m, w', by simp [execOp, h1], .inr ⟨rfl, rfl⟩, .base _, h2, h3⟩
  · rename_i t a b
    obtain ⟨u, m', w', h1, h2, h3, h4⟩ := make_sound hI h (rel_opv hI hE a) (rel_opv hI hE b)
    exact ⟨.value u, u, m', w', by simp [execOp, h1], .inl rfl, h2, h3, h4⟩
  · rename_i t a
    obtain ⟨u, m', w', h1, h2, h3, h4⟩ := range_sound hI h (rel_opv hI hE a)
    exact ⟨.value u, u, m', w', by simp [execOp, h1], .inl rfl, h2, h3, h4⟩
  · rename_i a
    obtain ⟨u, m', w', h1, h2, h3, h4⟩ := next_sound hI (t := type) h (rel_opv hI hE a)
    exact ⟨.value u, u, m', w', by simp [execOp, h1], .inl rfl, h2, h3, h4⟩
  · rename_i c
    split at h
    · rename_i t t' x' y' hb ht hx
      have hargs := rel_map hI hE c.args
      rw [hx] at hargs
      obtain ⟨consts, hexec⟩ : ∃ consts, execOp act.eval { dst := dst, op := .call c, type := type, pos := pos, after := after, guard := guard } = builtin .append c.argTypes type consts (c.args.map act.eval) :=
        ⟨_, by simp only [execOp, resolve, hb, invoke, pure_bind]; rfl⟩
      obtain ⟨v, u, hv⟩ := arr_two hargs.1.symm
      have h1 := hargs.2 0 x' v rfl (by rw [hv]; rfl)
      have h2 := hargs.2 1 y' u rfl (by rw [hv]; rfl)
      have hts : c.argTypes = #[t, t'] := by rw [← Array.toArray_toList (xs := c.argTypes), ht]
      obtain ⟨r, m', w', q1, q2, q3, q4⟩ := append_sound hI (ty := type) h h1 h2
      refine ⟨.value r, r, m', w', ?_, .inl rfl, q2, q3, q4⟩
      rw [hexec, hv, hts]
      simp only [builtin, Sem.run_bind, q1, Result.andThen_ok, Sem.run_pure]
    · cases h
  · cases h
end
end Go.Ab
