/-
  THE BOUNDARY: what an argument reads as is a form.
-/
import Derived.Test.YtmompmackgknbaaDoorF6
import Derived.Test.YtmompmackgknbaaDoorCards
import Derived.Carry
set_option linter.unusedVariables false
set_option linter.unusedSimpArgs false
set_option maxRecDepth 100000
namespace Go.Ab
open Go Go.RowKit Go.Proofs

/-- All that the cells of a world hold. -/
def knW (W : World) : Kn := fun b o => W.cell? ⟨b, o, none⟩
theorem knOK_W (W : World) : KnOK CX (knW W) W := ⟨fun _ _ _ h => h, fun g => .any _⟩

theorem und_int : Tryd.prog.underlying 3 = some (.int .i64) := by kernel_rfl
theorem und_str : Tryd.prog.underlying 9 = some .string := by kernel_rfl
theorem und_kids : Tryd.prog.underlying 22 = some (.slice 24) := by kernel_rfl
theorem cellsOf_form : Tryd.prog.cellsOf 24 = 4 := by kernel_rfl
theorem cellsOf_int : Tryd.prog.cellsOf 3 = 1 := by kernel_rfl
theorem cellsOf_str : Tryd.prog.cellsOf 9 = 1 := by kernel_rfl
theorem cellsOf_kids : Tryd.prog.cellsOf 22 = 1 := by kernel_rfl
def structOf (d : Option TypeDesc) : List (TypeId × Nat) := match d with
  | some (.struct fs) => fs.toList.map fun f => (f.type, f.offset)
  | _ => []
theorem und_form : structOf (Tryd.prog.underlying 24) = [(3, 0), (3, 1), (9, 2), (22, 3)] := by kernel_rfl
theorem form_struct : ∃ fs, Tryd.prog.underlying 24 = some (.struct fs) ∧ (fs.toList.map fun f => (f.type, f.offset)) = [(3, 0), (3, 1), (9, 2), (22, 3)] := by
  have h := und_form
  unfold structOf at h
  split at h
  · rename_i fs e; exact ⟨fs, e, h⟩
  · cases h

section
variable {H : Type} {enc : TypeId × Value → H} {W : World} {sp : Nat → Bool} {f : Nat} {cs : List Value} {d : DataW H} {ps : List MemPlace}
theorem trod_int (h : DataW.trod enc Tryd.prog W 0 sp true (f + 1) 3 cs = some (d, ps)) : ∃ n, cs = [.int .i64 n] ∧ d = .lit (.int .i64 n) := by
  unfold DataW.trod at h
  rw [und_int] at h
  split at h <;> simp_all
theorem trod_str (h : DataW.trod enc Tryd.prog W 0 sp true (f + 1) 9 cs = some (d, ps)) : ∃ s, cs = [.string s] ∧ d = .lit (.string s.data.toList) := by
  unfold DataW.trod at h
  rw [und_str] at h
  split at h <;> simp_all
theorem trod_kids (h : DataW.trod enc Tryd.prog W 0 sp true (f + 1) 22 cs = some (d, ps)) : (cs = [.slice none 0 0] ∧ d = .nil) ∨
    ∃ a len cap elems rest, cs = [.slice (some a) len cap] ∧ len ≤ cap ∧ cap ≤ maxLen ∧ d = .slice (elems.map (·.1)) rest ∧
      (List.range len).mapM (fun i => (W.cells? 0 (a.add (i * Tryd.prog.cellsOf 24)) (Tryd.prog.cellsOf 24)).bind (DataW.trod enc Tryd.prog W 0 sp true f 24)) = some elems := by
  unfold DataW.trod at h
  rw [und_kids] at h
  split at h <;> try (simp_all; done)
  rename_i e a len cap he
  cases he
  refine .inr ?_
  dsimp only at h
  split at h
  · rename_i hc
    cases he : (List.range len).mapM (fun i => (W.cells? 0 (a.add (i * Tryd.prog.cellsOf 24)) (Tryd.prog.cellsOf 24)).bind (DataW.trod enc Tryd.prog W 0 sp true f 24)) with
    | none => rw [he] at h; cases h
    | some elems =>
      rw [he] at h
      simp only [Option.bind_some] at h
      rw [Option.map_eq_some_iff] at h
      obtain ⟨rest, _, h2⟩ := h
      simp only [Prod.mk.injEq] at h2
      exact ⟨a, len, cap, elems, _, rfl, hc.2.1, hc.2.2, h2.1.symm, he⟩
  · cases h
theorem mapM_get {α β : Type} {g : α → Option β} : ∀ {l : List α} {r : List β}, l.mapM g = some r → r.length = l.length ∧ ∀ (i : Nat) (x : α), l[i]? = some x → ∃ y, r[i]? = some y ∧ g x = some y
  | [], r, h => by
    simp at h
    subst h
    exact ⟨rfl, fun i x h => by simp at h⟩
  | a :: l, r, h => by
    simp only [List.mapM_cons, Option.bind_eq_bind, Option.bind_eq_some_iff] at h
    obtain ⟨b, h1, r', h2, h3⟩ := h
    cases h3
    obtain ⟨q1, q2⟩ := mapM_get h2
    refine ⟨by simp [q1], fun i x hx => ?_⟩
    cases i with
    | zero => simp at hx; subst hx; exact ⟨b, rfl, h1⟩
    | succ i => simpa using q2 i x (by simpa using hx)
theorem cells?_get {a : Addr} {n : Nat} {cs : List Value} (h : W.cells? 0 a n = some cs) : cs.length = n ∧ ∀ i, i < n → ∃ v, cs[i]? = some v ∧ W.cell? (a.add i) = some v := by
  unfold World.cells? at h
  rw [if_pos (Nat.zero_le _)] at h
  obtain ⟨h1, h2⟩ := mapM_get h
  refine ⟨by simpa using h1, fun i hi => ?_⟩
  obtain ⟨v, a1, a2⟩ := h2 i i (by simp [hi])
  exact ⟨v, a1, a2⟩
theorem addr_none {a : Addr} {v : Value} (h : W.cell? a = some v) : a = ⟨a.block, a.off, none⟩ := by
  obtain ⟨b, o, s⟩ := a
  cases s with
  | none => rfl
  | some k =>
    unfold World.cell? at h
    simp at h
    split at h <;> cases h

theorem bigL_le {bulk : DataW H → Nat} {bulkAll : List (DataW H) → Nat} (h1 : ∀ d l, bulkAll (d :: l) = bulk d + bulkAll l) : ∀ (l : List Fm) (ds : List (DataW H)), l.length = ds.length → (∀ (i : Nat) (x : Fm) (d : DataW H), l[i]? = some x → ds[i]? = some d → x.big ≤ bulk d) → Fm.bigL l ≤ bulkAll ds
  | [], ds, hl, h => by simp only [Fm.bigL]; omega
  | x :: l, [], hl, h => by simp at hl
  | x :: l, d :: ds, hl, h => by
    simp only [Fm.bigL, h1]
    have a1 := h 0 x d rfl rfl
    have a2 := bigL_le h1 l ds (by simpa using hl) (fun i x d a b => h (i + 1) x d (by simpa using a) (by simpa using b))
    omega
theorem bulk_mem {bulk : DataW H → Nat} {bulkAll : List (DataW H) → Nat} (h1 : ∀ d l, bulkAll (d :: l) = bulk d + bulkAll l) : ∀ (ds : List (DataW H)) (i : Nat) (d : DataW H), ds[i]? = some d → bulk d ≤ bulkAll ds
  | [], i, d, h => by simp at h
  | x :: ds, 0, d, h => by simp at h; subst h; rw [h1]; omega
  | x :: ds, i + 1, d, h => by have := bulk_mem h1 ds i d (by simpa using h); rw [h1]; omega
theorem bulk_length {bulk : DataW H → Nat} {bulkAll : List (DataW H) → Nat} (hp : ∀ d, 1 ≤ bulk d) (h1 : ∀ d l, bulkAll (d :: l) = bulk d + bulkAll l) : ∀ (ds : List (DataW H)), ds.length ≤ bulkAll ds
  | [] => Nat.zero_le _
  | x :: ds => by have a := bulk_length hp h1 ds; have b := hp x; rw [h1, List.length_cons]; omega
/-- Forms that are there one by one make a list. -/
theorem list_of {α : Type} {Q : Nat → α → Prop} : ∀ (n : Nat), (∀ i, i < n → ∃ x, Q i x) → ∃ l : List α, l.length = n ∧ ∀ (i : Nat) (x : α), l[i]? = some x → Q i x
  | 0, _ => ⟨[], rfl, fun i x h => by simp at h⟩
  | n + 1, h => by
    obtain ⟨l, h1, h2⟩ := list_of n (fun i hi => h i (by omega))
    obtain ⟨x, hx⟩ := h n (by omega)
    refine ⟨l ++ [x], by simp [h1], fun i y hy => ?_⟩
    rcases Nat.lt_or_ge i n with hi | hi
    · rw [List.getElem?_append_left (by omega)] at hy; exact h2 i y hy
    · rw [List.getElem?_append_right (by omega)] at hy
      have : i = n := by
        have := (List.getElem?_eq_some_iff.1 hy).1
        simp at this; omega
      subst this
      simp [h1] at hy
      subst hy
      exact hx
/-- WHAT READS AS A FORM IS ONE. -/
theorem form_read {bulk : DataW H → Nat} (hs : ∀ l, bulk (.lit (.string l)) = l.length + 1) (hn : bulk .nil = 1) (hi : ∀ n, bulk (.lit (.int .i64 n)) = 1) {bulkAll : List (DataW H) → Nat} (hsl : ∀ l r, bulkAll l ≤ bulk (.slice l r)) (hag : ∀ l, bulk (.agg l) = bulkAll l + 1)
    (hp : ∀ d, 1 ≤ bulk d) (h0 : bulkAll [] = 0) (h1 : ∀ d l, bulkAll (d :: l) = bulk d + bulkAll l) : ∀ (f : Nat) (cs : List Value) (d : DataW H) (ps : List MemPlace), DataW.trod enc Tryd.prog W 0 sp true f 24 cs = some (d, ps) → bulk d ≤ 4611686018427387904 →
    ∃ x : Fm, RelC (knW W) m0 x.cells cs ∧ x.big ≤ bulk d := by
  intro f
  induction f using Nat.strongRecOn with
  | _ f ih =>
  intro cs d ps h hbd
  obtain ⟨fs, hu, hf⟩ := form_struct
  cases f with
  | zero => unfold DataW.trod at h; cases h
  | succ f =>
  unfold DataW.trod at h
  rw [hu] at h
  simp only [cellsOf_form] at h
  split at h
  · rename_i hlen
    rw [Option.map_eq_some_iff] at h
    obtain ⟨r, hr, hd⟩ := h
    obtain ⟨q1, q2⟩ := mapM_get hr
    generalize fs.toList = L at hf q1 q2
    rcases L with _ | ⟨f0, _ | ⟨f1, _ | ⟨f2, _ | ⟨f3, _ | ⟨f4, L⟩⟩⟩⟩⟩ <;> simp at hf
    obtain ⟨⟨t0, o0⟩, ⟨t1, o1⟩, ⟨t2, o2⟩, t3, o3⟩ := hf
    rcases cs with _ | ⟨c0, _ | ⟨c1, _ | ⟨c2, _ | ⟨c3, _ | ⟨c4, cs⟩⟩⟩⟩⟩ <;> simp at hlen
    rcases r with _ | ⟨y0, _ | ⟨y1, _ | ⟨y2, _ | ⟨y3, _ | ⟨y4, r⟩⟩⟩⟩⟩ <;> simp at q1
    obtain ⟨z0, e0, g0⟩ := q2 0 f0 rfl
    obtain ⟨z1, e1, g1⟩ := q2 1 f1 rfl
    obtain ⟨z2, e2, g2⟩ := q2 2 f2 rfl
    obtain ⟨z3, e3, g3⟩ := q2 3 f3 rfl
    simp at e0 e1 e2 e3
    subst e0; subst e1; subst e2; subst e3
    rw [t0, o0, cellsOf_int] at g0
    rw [t1, o1, cellsOf_int] at g1
    rw [t2, o2, cellsOf_str] at g2
    rw [t3, o3, cellsOf_kids] at g3
    simp at g0 g1 g2 g3
    cases f with
    | zero => unfold DataW.trod at g0; cases g0
    | succ f =>
    obtain ⟨d0, p0⟩ := y0
    obtain ⟨d1, p1⟩ := y1
    obtain ⟨d2, p2⟩ := y2
    obtain ⟨d3, p3⟩ := y3
    obtain ⟨k, hk, rfl⟩ := trod_int g0
    obtain ⟨n, hn', rfl⟩ := trod_int g1
    obtain ⟨t, ht, rfl⟩ := trod_str g2
    simp only [List.cons.injEq, and_true] at hk hn' ht
    subst hk; subst hn'; subst ht
    simp only [Prod.mk.injEq] at hd
    obtain ⟨rfl, -⟩ := hd
    simp only [List.map_cons, List.map_nil, hag, h1, h0, hi, hs] at hbd ⊢
    have hstr : Rel (knW W) m0 (.str t.data.toList) (.string t) := by
      have := Rel.str (kn := knW W) (m := m0) t.data.toList
      simpa using this
    rcases trod_kids g3 with ⟨h3, rfl⟩ | ⟨a, len, cap, elems, rest, h3, hle, hmx, rfl, hm⟩
    · simp only [List.cons.injEq, and_true] at h3
      subst h3
      refine ⟨.mk k n t.data.toList true [], ⟨?_, ?_⟩, ?_⟩
      · rw [cells_mk]
        exact .cons (.int _ _) (.cons (.int _ _) (.cons hstr (.cons (.base _) (.nil _ _))))
      · intro v hv
        simp at hv
        rcases hv with rfl | rfl | rfl | rfl <;> rfl
      · simp only [Fm.big, Fm.bigL, hn]; omega
    · simp only [List.cons.injEq, and_true] at h3
      subst h3
      obtain ⟨m1, m2⟩ := mapM_get hm
      simp only [List.length_range] at m1
      have hbs := hsl (elems.map (·.1)) rest
      have hbl := bulk_length hp h1 (elems.map (·.1))
      rw [List.length_map, m1] at hbl
      have each : ∀ i, i < len → ∃ x : Fm, ∃ rowv : List Value, ∃ y, elems[i]? = some y ∧ W.cells? 0 (a.add (i * 4)) 4 = some rowv ∧ RelC (knW W) m0 x.cells rowv ∧ x.big ≤ bulk y.1 := by
        intro i hi
        obtain ⟨y, a1, a2⟩ := m2 i i (by simp [hi])
        simp only [cellsOf_form, Option.bind_eq_some_iff] at a2
        obtain ⟨rowv, b1, b2⟩ := a2
        have hby := bulk_mem h1 (elems.map (·.1)) i y.1 (by rw [List.getElem?_map, a1]; rfl)
        obtain ⟨x, c1, c2⟩ := ih f (by omega) rowv y.1 y.2 b2 (by omega)
        exact ⟨x, rowv, y, a1, b1, c1, c2⟩
      obtain ⟨l, l1, l2⟩ := list_of len each
      refine ⟨.mk k n t.data.toList false l, ⟨?_, ?_⟩, ?_⟩
      · rw [cells_mk]
        refine .cons (.int _ _) (.cons (.int _ _) (.cons hstr (.cons ?_ (.nil _ _))))
        show Rel (knW W) m0 (.vec 4 (l.map Fm.cells)) (.slice (some a) len cap)
        cases l with
        | nil => simp at l1; subst l1; exact .vecNil _ _ _
        | cons x0 l' =>
          obtain ⟨rowv0, y0, _, b0, c0, _⟩ := l2 0 x0 rfl
          obtain ⟨_, hc0⟩ := cells?_get b0
          obtain ⟨v0, _, hv0⟩ := hc0 0 (by omega)
          simp [Addr.add] at hv0
          have ha := addr_none hv0
          generalize a.block = b at ha
          generalize a.off = o at ha
          subst ha
          have hcell : ∀ (i : Nat) (row : List AV) (j : Nat) (x : AV), ((x0 :: l').map Fm.cells)[i]? = some row → row[j]? = some x → ∃ v, W.cell? ⟨b, o + i * 4 + j, none⟩ = some v ∧ Rel (knW W) m0 x v ∧ v.oneCell' = true := by
            intro i row j x hrow hx
            rw [List.getElem?_map, Option.map_eq_some_iff] at hrow
            obtain ⟨fm, hfm, rfl⟩ := hrow
            obtain ⟨rowv, y, _, bi, ci, _⟩ := l2 i fm hfm
            obtain ⟨hrl, hci⟩ := cells?_get bi
            have hj : j < 4 := by have := (List.getElem?_eq_some_iff.1 hx).1; rw [cells_length] at this; exact this
            obtain ⟨v, hv1, hv2⟩ := hci j hj
            rw [add_mk, add_mk] at hv2
            exact ⟨v, hv2, ci.1.2 j x v hx hv1, ci.2 v (List.mem_of_getElem? hv1)⟩
          have hll : ((x0 :: l').map Fm.cells).length = len := by simpa using l1
          have := Rel.vec (kn := knW W) (m := m0) 4 ((x0 :: l').map Fm.cells) b o cap (fun i j => (W.cell? ⟨b, o + i * 4 + j, none⟩).getD undef) (by omega) (by rw [hll]; omega)
            (fun i row hrow => by
              rw [List.getElem?_map, Option.map_eq_some_iff] at hrow
              obtain ⟨fm, _, rfl⟩ := hrow
              exact cells_length fm)
            (fun i row j x hrow hx => by
              obtain ⟨v, h1, _⟩ := hcell i row j x hrow hx
              show W.cell? _ = _
              rw [h1]; rfl)
            (fun i row j x hrow hx => by
              obtain ⟨v, h1, h2, _⟩ := hcell i row j x hrow hx
              simp only [h1, Option.getD_some]; exact h2)
            (fun i row j x hrow hx => by
              obtain ⟨v, h1, _, h3⟩ := hcell i row j x hrow hx
              simp only [h1, Option.getD_some]; exact h3)
          rw [hll] at this
          exact this
      · intro v hv
        simp at hv
        rcases hv with rfl | rfl | rfl | rfl <;> rfl
      · have hb := bigL_le h1 l (elems.map (·.1)) (by simp [l1, m1]) (fun i x d hx hd => by
          obtain ⟨rowv, y, a1, _, _, c2⟩ := l2 i x hx
          rw [List.getElem?_map, a1] at hd
          simp at hd
          subst hd
          exact c2)
        have := hsl (elems.map (·.1)) rest
        simp only [Fm.big]
        omega
  · cases h
end
end Go.Ab
