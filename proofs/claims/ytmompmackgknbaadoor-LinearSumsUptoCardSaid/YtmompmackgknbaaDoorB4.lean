/-
  THE BOUNDARY: what an argument reads as is a sum, or a number.
-/
import Derived.Test.YtmompmackgknbaaDoorB1
import Derived.Test.YtmompmackgknbaaDoorF8
set_option linter.unusedVariables false
set_option linter.unusedSimpArgs false
set_option maxRecDepth 100000
namespace Go.Ab
open Go Go.RowKit Go.Proofs

theorem und_terms : Tryd.prog.underlying 36 = some (.slice 71) := by kernel_rfl
theorem cellsOf_part : Tryd.prog.cellsOf 71 = 5 := by kernel_rfl
theorem cellsOf_sum : Tryd.prog.cellsOf 39 = 2 := by kernel_rfl
theorem cellsOf_terms : Tryd.prog.cellsOf 36 = 1 := by kernel_rfl
theorem structOf_some {t : TypeId} {L : List (TypeId × Nat)} (hne : L ≠ []) (h : structOf (Tryd.prog.underlying t) = L) : ∃ fs, Tryd.prog.underlying t = some (.struct fs) ∧ (fs.toList.map fun f => (f.type, f.offset)) = L := by
  unfold structOf at h
  split at h
  · rename_i fs e; exact ⟨fs, e, h⟩
  · exact absurd h.symm hne
theorem part_struct : ∃ fs, Tryd.prog.underlying 71 = some (.struct fs) ∧ (fs.toList.map fun f => (f.type, f.offset)) = [(3, 0), (24, 1)] := structOf_some (by simp) (by kernel_rfl)
theorem sum_struct : ∃ fs, Tryd.prog.underlying 39 = some (.struct fs) ∧ (fs.toList.map fun f => (f.type, f.offset)) = [(3, 0), (36, 1)] := structOf_some (by simp) (by kernel_rfl)

section
variable {H : Type} {enc : TypeId × Value → H} {W : World} {sp : Nat → Bool} {f : Nat} {cs : List Value} {d : DataW H} {ps : List MemPlace}
theorem trod_int_wf (h : DataW.trod enc Tryd.prog W 0 sp true f 3 cs = some (d, ps)) : ∃ n, cs = [.int .i64 n] ∧ d = .lit (.int .i64 n) ∧ -9223372036854775808 ≤ n ∧ n ≤ 9223372036854775807 := by
  cases f with
  | zero => unfold DataW.trod at h; cases h
  | succ f =>
  obtain ⟨n, rfl, rfl⟩ := trod_int h
  refine ⟨n, rfl, rfl, ?_⟩
  unfold DataW.trod at h
  rw [und_int] at h
  simp only at h
  split at h
  · rename_i hw
    have h2 := hw.2
    simp only [Lit.wf, Bool.and_eq_true, decide_eq_true_eq] at h2
    exact ⟨h2.1, h2.2⟩
  · cases h
theorem trod_slice {t e : TypeId} (hu : Tryd.prog.underlying t = some (.slice e)) (h : DataW.trod enc Tryd.prog W 0 sp true (f + 1) t cs = some (d, ps)) : (cs = [.slice none 0 0] ∧ d = .nil) ∨
    ∃ a len cap elems rest, cs = [.slice (some a) len cap] ∧ len ≤ cap ∧ cap ≤ maxLen ∧ d = .slice (elems.map (·.1)) rest ∧
      (List.range len).mapM (fun i => (W.cells? 0 (a.add (i * Tryd.prog.cellsOf e)) (Tryd.prog.cellsOf e)).bind (DataW.trod enc Tryd.prog W 0 sp true f e)) = some elems := by
  unfold DataW.trod at h
  rw [hu] at h
  split at h <;> try (simp_all; done)
  rename_i e' a len cap he
  cases he
  refine .inr ?_
  dsimp only at h
  split at h
  · rename_i hc
    cases he : (List.range len).mapM (fun i => (W.cells? 0 (a.add (i * Tryd.prog.cellsOf e)) (Tryd.prog.cellsOf e)).bind (DataW.trod enc Tryd.prog W 0 sp true f e)) with
    | none => rw [he] at h; cases h
    | some elems =>
      rw [he] at h
      simp only [Option.bind_some] at h
      rw [Option.map_eq_some_iff] at h
      obtain ⟨rest, _, h2⟩ := h
      simp only [Prod.mk.injEq] at h2
      exact ⟨a, len, cap, elems, _, rfl, hc.2.1, hc.2.2, h2.1.symm, he⟩
  · cases h
/-- A struct of two fields. -/
theorem trod_two {t t0 t1 : TypeId} {o1 n : Nat} (hu : ∃ fs, Tryd.prog.underlying t = some (.struct fs) ∧ (fs.toList.map fun f => (f.type, f.offset)) = [(t0, 0), (t1, o1)]) (hn : Tryd.prog.cellsOf t = n) (h : DataW.trod enc Tryd.prog W 0 sp true (f + 1) t cs = some (d, ps)) :
    cs.length = n ∧ ∃ d0 p0 d1 p1, d = .agg [d0, d1] ∧ DataW.trod enc Tryd.prog W 0 sp true f t0 (cs.take (Tryd.prog.cellsOf t0)) = some (d0, p0) ∧ DataW.trod enc Tryd.prog W 0 sp true f t1 ((cs.drop o1).take (Tryd.prog.cellsOf t1)) = some (d1, p1) := by
  obtain ⟨fs, hu, hf⟩ := hu
  unfold DataW.trod at h
  rw [hu] at h
  simp only [hn] at h
  split at h
  · rename_i hlen
    rw [Option.map_eq_some_iff] at h
    obtain ⟨r, hr, hd⟩ := h
    obtain ⟨q1, q2⟩ := mapM_get hr
    generalize fs.toList = L at hf q1 q2
    rcases L with _ | ⟨f0, _ | ⟨f1, _ | ⟨f2, L⟩⟩⟩ <;> simp at hf
    obtain ⟨⟨t0', o0'⟩, t1', o1'⟩ := hf
    rcases r with _ | ⟨y0, _ | ⟨y1, _ | ⟨y2, r⟩⟩⟩ <;> simp at q1
    obtain ⟨z0, e0, g0⟩ := q2 0 f0 rfl
    obtain ⟨z1, e1, g1⟩ := q2 1 f1 rfl
    simp at e0 e1
    subst e0; subst e1
    rw [t0', o0', List.drop_zero] at g0
    rw [t1', o1'] at g1
    simp only [Prod.mk.injEq] at hd
    exact ⟨hlen, y0.1, y0.2, y1.1, y1.2, hd.1.symm, g0, g1⟩
  · cases h
/-- Rows that lie one behind the other make a slice. -/
theorem rel_vec {sz : Nat} (hsz : 0 < sz) {rows : List (List AV)} {a : Addr} {len cap : Nat} (hl : rows.length = len) (hle : len ≤ cap) (h62 : len ≤ 4611686018427387904) (hr : ∀ (i : Nat) (row : List AV), rows[i]? = some row → row.length = sz ∧ ∃ rowv, W.cells? 0 (a.add (i * sz)) sz = some rowv ∧ RelC (knW W) m0 row rowv) :
    Rel (knW W) m0 (.vec sz rows) (.slice (some a) len cap) := by
  cases rows with
  | nil => simp at hl; subst hl; exact .vecNil _ _ _
  | cons r0 rows =>
    obtain ⟨_, rowv0, b0, c0⟩ := hr 0 r0 rfl
    obtain ⟨_, hc0⟩ := cells?_get b0
    obtain ⟨v0, _, hv0⟩ := hc0 0 hsz
    simp [Addr.add] at hv0
    have ha := addr_none hv0
    generalize a.block = b at ha
    generalize a.off = o at ha
    subst ha
    have hcell : ∀ (i : Nat) (row : List AV) (j : Nat) (x : AV), (r0 :: rows)[i]? = some row → row[j]? = some x → ∃ v, W.cell? ⟨b, o + i * sz + j, none⟩ = some v ∧ Rel (knW W) m0 x v ∧ v.oneCell' = true := by
      intro i row j x hrow hx
      obtain ⟨hrl0, rowv, bi, ci⟩ := hr i row hrow
      obtain ⟨hrl, hci⟩ := cells?_get bi
      have hj : j < sz := by have := (List.getElem?_eq_some_iff.1 hx).1; omega
      obtain ⟨v, hv1, hv2⟩ := hci j hj
      rw [add_mk, add_mk] at hv2
      exact ⟨v, hv2, ci.1.2 j x v hx hv1, ci.2 v (List.mem_of_getElem? hv1)⟩
    have := Rel.vec (kn := knW W) (m := m0) sz (r0 :: rows) b o cap (fun i j => (W.cell? ⟨b, o + i * sz + j, none⟩).getD undef) (by omega) (by rw [hl]; omega)
      (fun i row hrow => (hr i row hrow).1)
      (fun i row j x hrow hx => by
        obtain ⟨v, h1, _⟩ := hcell i row j x hrow hx
        show W.cell? _ = _
        rw [h1]; rfl)
      (fun i row j x hrow hx => by
        obtain ⟨v, h1, h2, _⟩ := hcell i row j x hrow hx
        simp only [h1, Option.getD_some]; exact h2)
      (fun i row j x hrow hx => by
        obtain ⟨v, h1, _, h3⟩ := hcell i row j x hrow hx
        simp only [h1, Option.getD_some]; exact h3)
    rw [hl] at this
    exact this

/-- What is asked of a measure of readings. -/
structure Bulk (bulk : DataW H → Nat) (bulkAll : List (DataW H) → Nat) : Prop where
  hs : ∀ l, bulk (.lit (.string l)) = l.length + 1
  hn : bulk .nil = 1
  hi : ∀ n, bulk (.lit (.int .i64 n)) = 1
  hsl : ∀ l r, bulkAll l ≤ bulk (.slice l r)
  hag : ∀ l, bulk (.agg l) = bulkAll l + 1
  hp : ∀ d, 1 ≤ bulk d
  h0 : bulkAll [] = 0
  h1 : ∀ d l, bulkAll (d :: l) = bulk d + bulkAll l
variable {bulk : DataW H → Nat} {bulkAll : List (DataW H) → Nat}
theorem form_read' (B : Bulk bulk bulkAll) {f : Nat} {cs : List Value} {d : DataW H} {ps : List MemPlace} (h : DataW.trod enc Tryd.prog W 0 sp true f 24 cs = some (d, ps)) (hb : bulk d ≤ 4611686018427387904) : ∃ x : Fm, RelC (knW W) m0 x.cells cs ∧ x.big ≤ bulk d :=
  form_read B.hs B.hn B.hi B.hsl B.hag B.hp B.h0 B.h1 f cs d ps h hb
theorem part_read (B : Bulk bulk bulkAll) {f : Nat} {cs : List Value} {d : DataW H} {ps : List MemPlace} (h : DataW.trod enc Tryd.prog W 0 sp true f 71 cs = some (d, ps)) (hb : bulk d ≤ 4611686018427387904) : ∃ p : Pt, RelC (knW W) m0 p.row cs ∧ p.t.big ≤ bulk d := by
  cases f with
  | zero => unfold DataW.trod at h; cases h
  | succ f =>
  obtain ⟨hlen, d0, p0, d1, p1, rfl, g0, g1⟩ := trod_two part_struct cellsOf_part h
  rw [cellsOf_int] at g0
  rw [cellsOf_form] at g1
  obtain ⟨n, hc, rfl, -⟩ := trod_int_wf g0
  rcases cs with _ | ⟨c0, cs⟩
  · simp at hlen
  simp only [List.length_cons] at hlen
  simp only [List.take_succ_cons, List.take_zero, List.cons.injEq, and_true] at hc
  subst hc
  simp only [List.drop_succ_cons, List.drop_zero] at g1
  rw [List.take_of_length_le (by omega)] at g1
  simp only [B.hag, B.h1, B.h0, B.hi] at hb ⊢
  obtain ⟨x, hx, hxb⟩ := form_read' B g1 (by omega)
  refine ⟨⟨n, x⟩, ⟨.cons (.int _ _) hx.1, fun v hv => ?_⟩, by simp only; omega⟩
  rcases List.mem_cons.1 hv with rfl | hv
  · rfl
  · exact hx.2 v hv
theorem sum_read (B : Bulk bulk bulkAll) {f : Nat} {cs : List Value} {d : DataW H} {ps : List MemPlace} (h : DataW.trod enc Tryd.prog W 0 sp true f 39 cs = some (d, ps)) (hb : bulk d ≤ 4611686018427387904) :
    ∃ s : Sm, RelC (knW W) m0 s.cells cs ∧ (∀ p ∈ s.l, p.t.big ≤ bulk d) ∧ s.l.length ≤ bulk d := by
  cases f with
  | zero => unfold DataW.trod at h; cases h
  | succ f =>
  obtain ⟨hlen, d0, p0, d1, p1, rfl, g0, g1⟩ := trod_two sum_struct cellsOf_sum h
  rw [cellsOf_int] at g0
  rw [cellsOf_terms] at g1
  obtain ⟨n, hc, rfl, -⟩ := trod_int_wf g0
  rcases cs with _ | ⟨c0, _ | ⟨c1, _ | ⟨c2, cs⟩⟩⟩ <;> simp at hlen
  simp only [List.take_succ_cons, List.take_zero, List.cons.injEq, and_true] at hc
  subst hc
  simp only [List.drop_succ_cons, List.drop_zero, List.take_succ_cons, List.take_zero] at g1
  simp only [B.hag, B.h1, B.h0, B.hi] at hb ⊢
  cases f with
  | zero => unfold DataW.trod at g1; cases g1
  | succ f =>
  rcases trod_slice und_terms g1 with ⟨h3, rfl⟩ | ⟨a, len, cap, elems, rest, h3, hle, hmx, rfl, hm⟩
  · simp only [List.cons.injEq, and_true] at h3
    subst h3
    refine ⟨⟨n, true, []⟩, ⟨.cons (.int _ _) (.cons (.base _) (.nil _ _)), fun v hv => ?_⟩, fun p hp => (by cases hp), by simp⟩
    simp at hv
    rcases hv with rfl | rfl <;> rfl
  · simp only [List.cons.injEq, and_true] at h3
    subst h3
    obtain ⟨m1, m2⟩ := mapM_get hm
    simp only [List.length_range] at m1
    have hbs := B.hsl (elems.map (·.1)) rest
    have hbl := bulk_length B.hp B.h1 (elems.map (·.1))
    rw [List.length_map, m1] at hbl
    have each : ∀ i, i < len → ∃ p : Pt, ∃ rowv : List Value, W.cells? 0 (a.add (i * 5)) 5 = some rowv ∧ RelC (knW W) m0 p.row rowv ∧ p.t.big ≤ bulkAll (elems.map (·.1)) := by
      intro i hi
      obtain ⟨y, a1, a2⟩ := m2 i i (by simp [hi])
      simp only [cellsOf_part, Option.bind_eq_some_iff] at a2
      obtain ⟨rowv, b1, b2⟩ := a2
      have hby := bulk_mem B.h1 (elems.map (·.1)) i y.1 (by rw [List.getElem?_map, a1]; rfl)
      obtain ⟨p, c1, c2⟩ := part_read B b2 (by omega)
      exact ⟨p, rowv, b1, c1, by omega⟩
    obtain ⟨l, l1, l2⟩ := list_of len each
    refine ⟨⟨n, false, l⟩, ⟨.cons (.int _ _) (.cons ?_ (.nil _ _)), fun v hv => ?_⟩, fun p hp => ?_, by simp only; omega⟩
    · show Rel (knW W) m0 (.vec 5 (l.map Pt.row)) (.slice (some a) len cap)
      refine rel_vec (by omega) (by simpa using l1) hle (by omega) fun i row hrow => ?_
      rw [List.getElem?_map, Option.map_eq_some_iff] at hrow
      obtain ⟨p, hp, rfl⟩ := hrow
      obtain ⟨rowv, b1, c1, _⟩ := l2 i p hp
      exact ⟨by simp [Pt.row, cells_length], rowv, b1, c1⟩
    · simp at hv
      rcases hv with rfl | rfl <;> rfl
    · obtain ⟨i, hi⟩ := List.getElem?_of_mem hp
      obtain ⟨_, _, _, c2⟩ := l2 i p hi
      omega
theorem rel_agg {row : List AV} {cs : Array Value} (h : RelC (knW W) m0 row (Value.agg cs).cells.toList) : Rel (knW W) m0 (.agg row) (.agg cs) := by
  have hcs : (Value.agg cs).cells.toList = cs.toList := rfl
  rw [hcs] at h
  exact .agg _ _ (by simpa using h.1.1) (fun i y v q r => h.1.2 i y v q (by simpa using r)) (fun i v r => h.2 v (by simpa using Array.mem_of_getElem? r))
end
end Go.Ab
