/-
  LINEAR: products of words, and numbers within bounds.
-/
import Derived.Test.YtdagildojaagiaaGreatDoorZ11
import Derived.Test.YtdagildojaagiaaGreatDoorCards
import Derived.Carry
import Derived.Test.YtdagildojaagiaaGreatDoorTie
import Derived.WalkKit
import Derived.ProofKit
import Derived.OpenShut
import Derived.Deep.DeepHandedRow
import Derived.Lib.Builder
import Derived.Lib.UnsafeStr
import Derived.Laws.Externs
import Derived.Shelf.RegionOpenPlain
import Derived.Laws.Bits64b
set_option linter.unusedVariables false
set_option linter.unusedSimpArgs false
set_option maxRecDepth 100000
namespace Go.Ab
open Go Go.RowKit Go.Proofs
def knW (W : World) : Kn := fun b o => W.cell? ⟨b, o, none⟩
theorem knOK_W (W : World) : KnOK CX (knW W) W := ⟨fun _ _ _ h => h, fun g => .any _⟩
def bigE : (e : E) → e.den → Nat
 | .str, (l : List UInt8) => l.length
 | .form, (f : Fm) => f.big
 | .pr a b, x => bigE a x.1 + bigE b x.2
 | .slice e, (l : List e.den) => (l.map fun x => max 1 (bigE e x)).sum
 | _, _ => 0
def wfE : (e : E) → e.den → Prop
 | .int .i64, (n : Int) => -9223372036854775808 ≤ n ∧ n ≤ 9223372036854775807
 | .pr a b, x => wfE a x.1 ∧ wfE b x.2
 | .slice e, (l : List e.den) => ∀ x ∈ l, wfE e x
 | _, _ => True
def isI64 (P : Program) (t : TypeId) : Bool := match P.underlying t with
 | some (.int .i64) => Nat.beq (P.cellsOf t) 1
 | _ => false
def isStr (P : Program) (t : TypeId) : Bool := match P.underlying t with
 | some .string => Nat.beq (P.cellsOf t) 1
 | _ => false
def isSl (P : Program) (t e : TypeId) : Bool := match P.underlying t with
 | some (.slice e') => Nat.beq e' e && Nat.beq (P.cellsOf t) 1
 | _ => false
def kFs (r : TypeId → E → Bool) (P : Program) : List Field → Nat → E → Bool
 | [], _, .un => true
 | [f], o, e => Nat.beq f.offset o && (Nat.beq (P.cellsOf f.type) e.size && r f.type e)
 | f :: fs, o, .pr a b => Nat.beq f.offset o && (Nat.beq (P.cellsOf f.type) a.size && (r f.type a && kFs r P fs (o + a.size) b))
 | _, _, _ => false
def isForm (P : Program) (t : TypeId) : Bool := match P.underlying t with
 | some (.struct fs) => match fs.toList with
  | [a, b, c, d] => (Nat.beq a.offset 0 && (Nat.beq b.offset 1 && (Nat.beq c.offset 2 && Nat.beq d.offset 3))) && ((isI64 P a.type && isI64 P b.type) && (isStr P c.type && (isSl P d.type t && Nat.beq (P.cellsOf t) 4)))
  | _ => false
 | _ => false
def kOK (P : Program) : Nat → TypeId → E → Bool
 | 0, _, _ => false
 | n + 1, t, e => match e with
  | .int .i64 => isI64 P t
  | .str => isStr P t
  | .bool => match P.underlying t with
   | some .bool => true
   | _ => false
  | .form => isForm P t
  | .slice e => match P.underlying t with
   | some (.slice t') => kOK P n t' e && (Nat.beq (P.cellsOf t') e.size && Nat.blt 0 e.size)
   | _ => false
  | e => match P.underlying t with
   | some (.struct fs) => Nat.beq (P.cellsOf t) e.size && kFs (kOK P n) P fs.toList 0 e
   | _ => false
structure Bulk {H : Type} (bulk : DataW H → Nat) (bulkAll : List (DataW H) → Nat) : Prop where
 hs : ∀ l, bulk (.lit (.string l)) = l.length + 1
 hsl : ∀ l r, bulkAll l ≤ bulk (.slice l r)
 hag : ∀ l, bulk (.agg l) = bulkAll l + 1
 hp : ∀ d, 1 ≤ bulk d
 h0 : bulkAll [] = 0
 h1 : ∀ d l, bulkAll (d :: l) = bulk d + bulkAll l
section
variable {H : Type} {enc : TypeId × Value → H} {W : World} {sp : Nat → Bool} {f : Nat} {cs : List Value} {d : DataW H} {ps : List MemPlace} {P : Program}
theorem mapM_get {α β : Type} {g : α → Option β} : ∀ {l : List α} {r : List β}, l.mapM g = some r → r.length = l.length ∧ ∀ (i : Nat) (x : α), l[i]? = some x → ∃ y, r[i]? = some y ∧ g x = some y
 | [], r, h => by
  simp at h
  subst h
  exact ⟨rfl, fun i x h => by simp at h⟩
 | a :: l, r, h => by
  simp only [List.mapM_cons, Option.bind_eq_bind, Option.bind_eq_some_iff] at h
  obtain ⟨b, h1, r', h2, h3⟩ := h
  cases h3
  obtain ⟨q1, q2⟩ := mapM_get h2
  refine ⟨by simp [q1], fun i x hx => ?_⟩
  cases i with
  | zero => simp at hx; subst hx; exact ⟨b, rfl, h1⟩
  | succ i => simpa using q2 i x (by simpa using hx)
theorem cells?_get {a : Addr} {n : Nat} {cs : List Value} (h : W.cells? 0 a n = some cs) : cs.length = n ∧ ∀ i, i < n → ∃ v, cs[i]? = some v ∧ W.cell? (a.add i) = some v := by
 unfold World.cells? at h
 rw [if_pos (Nat.zero_le _)] at h
 obtain ⟨h1, h2⟩ := mapM_get h
 refine ⟨by simpa using h1, fun i hi => ?_⟩
 obtain ⟨v, a1, a2⟩ := h2 i i (by simp [hi])
 exact ⟨v, a1, a2⟩
theorem addr_none {a : Addr} {v : Value} (h : W.cell? a = some v) : a = ⟨a.block, a.off, none⟩ := by
 obtain ⟨b, o, s⟩ := a
 cases s with
 | none => rfl
 | some k =>
  unfold World.cell? at h
  simp at h
  split at h <;> cases h
theorem bulk_mem {bulk : DataW H → Nat} {bulkAll : List (DataW H) → Nat} (h1 : ∀ d l, bulkAll (d :: l) = bulk d + bulkAll l) : ∀ (ds : List (DataW H)) (i : Nat) (d : DataW H), ds[i]? = some d → bulk d ≤ bulkAll ds
 | [], i, d, h => by simp at h
 | x :: ds, 0, d, h => by simp at h; subst h; rw [h1]; omega
 | x :: ds, i + 1, d, h => by have := bulk_mem h1 ds i d (by simpa using h); rw [h1]; omega
theorem bulk_length {bulk : DataW H → Nat} {bulkAll : List (DataW H) → Nat} (hp : ∀ d, 1 ≤ bulk d) (h1 : ∀ d l, bulkAll (d :: l) = bulk d + bulkAll l) : ∀ (ds : List (DataW H)), ds.length ≤ bulkAll ds
 | [] => Nat.zero_le _
 | x :: ds => by have a := bulk_length hp h1 ds; have b := hp x; rw [h1, List.length_cons]; omega
theorem sum_le {α : Type} {bulk : DataW H → Nat} {bulkAll : List (DataW H) → Nat} (h1 : ∀ d l, bulkAll (d :: l) = bulk d + bulkAll l) (hp : ∀ d, 1 ≤ bulk d) (g : α → Nat) : ∀ (l : List α) (ds : List (DataW H)), l.length = ds.length → (∀ (i : Nat) (x : α) (d : DataW H), l[i]? = some x → ds[i]? = some d → g x ≤ bulk d) → (l.map fun x => max 1 (g x)).sum ≤ bulkAll ds
 | [], ds, hl, h => by simp
 | x :: l, [], hl, h => by simp at hl
 | x :: l, d :: ds, hl, h => by
  simp only [List.map_cons, List.sum_cons, h1]
  have a1 := h 0 x d rfl rfl
  have a2 := sum_le h1 hp g l ds (by simpa using hl) (fun i x d a b => h (i + 1) x d (by simpa using a) (by simpa using b))
  have a3 := hp d
  omega
theorem list_of {α : Type} {Q : Nat → α → Prop} : ∀ (n : Nat), (∀ i, i < n → ∃ x, Q i x) → ∃ l : List α, l.length = n ∧ ∀ (i : Nat) (x : α), l[i]? = some x → Q i x
 | 0, _ => ⟨[], rfl, fun i x h => by simp at h⟩
 | n + 1, h => by
  obtain ⟨l, h1, h2⟩ := list_of n (fun i hi => h i (by omega))
  obtain ⟨x, hx⟩ := h n (by omega)
  refine ⟨l ++ [x], by simp [h1], fun i y hy => ?_⟩
  rcases Nat.lt_or_ge i n with hi | hi
  ·rw [List.getElem?_append_left (by omega)] at hy; exact h2 i y hy
  ·rw [List.getElem?_append_right (by omega)] at hy
   have : i = n := by
    have := (List.getElem?_eq_some_iff.1 hy).1
    simp at this; omega
   subst this
   simp [h1] at hy
   subst hy
   exact hx
theorem rel_vec {sz : Nat} (hsz : 0 < sz) {rows : List (List AV)} {a : Addr} {len cap : Nat} (hl : rows.length = len) (hle : len ≤ cap) (h62 : len ≤ 4611686018427387904) (hr : ∀ (i : Nat) (row : List AV), rows[i]? = some row → row.length = sz ∧ ∃ rowv, W.cells? 0 (a.add (i * sz)) sz = some rowv ∧ RelC (knW W) m0 row rowv) :
  Rel (knW W) m0 (.vec sz rows) (.slice (some a) len cap) := by
 cases rows with
 | nil => simp at hl; subst hl; exact .vecNil _ _ _
 | cons r0 rows =>
  obtain ⟨_, rowv0, b0, c0⟩ := hr 0 r0 rfl
  obtain ⟨_, hc0⟩ := cells?_get b0
  obtain ⟨v0, _, hv0⟩ := hc0 0 hsz
  simp [Addr.add] at hv0
  have ha := addr_none hv0
  generalize a.block = b at ha
  generalize a.off = o at ha
  subst ha
  have hcell : ∀ (i : Nat) (row : List AV) (j : Nat) (x : AV), (r0 :: rows)[i]? = some row → row[j]? = some x → ∃ v, W.cell? ⟨b, o + i * sz + j, none⟩ = some v ∧ Rel (knW W) m0 x v ∧ v.oneCell' = true := by
   intro i row j x hrow hx
   obtain ⟨hrl0, rowv, bi, ci⟩ := hr i row hrow
   obtain ⟨hrl, hci⟩ := cells?_get bi
   have hj : j < sz := by have := (List.getElem?_eq_some_iff.1 hx).1; omega
   obtain ⟨v, hv1, hv2⟩ := hci j hj
   rw [add_mk, add_mk] at hv2
   exact ⟨v, hv2, ci.1.2 j x v hx hv1, ci.2 v (List.mem_of_getElem? hv1)⟩
  have := Rel.vec (kn := knW W) (m := m0) sz (r0 :: rows) b o cap (fun i j => (W.cell? ⟨b, o + i * sz + j, none⟩).getD undef) (by omega) (by rw [hl]; omega)
   (fun i row hrow => (hr i row hrow).1)
   (fun i row j x hrow hx => by
    obtain ⟨v, h1, _⟩ := hcell i row j x hrow hx
    show W.cell? _ = _
    rw [h1]; rfl)
   (fun i row j x hrow hx => by
    obtain ⟨v, h1, h2, _⟩ := hcell i row j x hrow hx
    simp only [h1, Option.getD_some]; exact h2)
   (fun i row j x hrow hx => by
    obtain ⟨v, h1, _, h3⟩ := hcell i row j x hrow hx
    simp only [h1, Option.getD_some]; exact h3)
  rw [hl] at this
  exact this
theorem trod_i64 {t : TypeId} (hk : isI64 P t = true) (h : DataW.trod enc P W 0 sp true f t cs = some (d, ps)) : ∃ n, cs = [.int .i64 n] ∧ d = .lit (.int .i64 n) ∧ -9223372036854775808 ≤ n ∧ n ≤ 9223372036854775807 := by
 cases f with
 | zero => unfold DataW.trod at h; cases h
 | succ f =>
  unfold isI64 at hk
  split at hk
  ·rename_i hu
   unfold DataW.trod at h
   rw [hu] at h
   split at h <;> try (simp_all; done)
   rename_i k k' n hcs
   cases hcs
   split at h
   ·rename_i hw
    obtain ⟨rfl, hw⟩ := hw
    cases h
    simp only [Lit.wf, Bool.and_eq_true, decide_eq_true_eq] at hw
    exact ⟨n, rfl, rfl, hw.1, hw.2⟩
   ·cases h
  ·cases hk
theorem trod_str {t : TypeId} (hk : isStr P t = true) (h : DataW.trod enc P W 0 sp true f t cs = some (d, ps)) : ∃ s, cs = [.string s] ∧ d = .lit (.string s.data.toList) := by
 cases f with
 | zero => unfold DataW.trod at h; cases h
 | succ f =>
  unfold isStr at hk
  split at hk
  ·rename_i hu
   unfold DataW.trod at h
   rw [hu] at h
   split at h <;> simp_all
  ·cases hk
theorem trod_slice {t e : TypeId} (hu : P.underlying t = some (.slice e)) (h : DataW.trod enc P W 0 sp true (f + 1) t cs = some (d, ps)) : (cs = [.slice none 0 0] ∧ d = .nil) ∨
  ∃ a len cap elems rest, cs = [.slice (some a) len cap] ∧ len ≤ cap ∧ cap ≤ maxLen ∧ d = .slice (elems.map (·.1)) rest ∧
   (List.range len).mapM (fun i => (W.cells? 0 (a.add (i * P.cellsOf e)) (P.cellsOf e)).bind (DataW.trod enc P W 0 sp true f e)) = some elems := by
 unfold DataW.trod at h
 rw [hu] at h
 split at h <;> try (simp_all; done)
 rename_i e' a len cap he
 cases he
 refine .inr ?_
 dsimp only at h
 split at h
 ·rename_i hc
  cases he : (List.range len).mapM (fun i => (W.cells? 0 (a.add (i * P.cellsOf e)) (P.cellsOf e)).bind (DataW.trod enc P W 0 sp true f e)) with
  | none => rw [he] at h; cases h
  | some elems =>
   rw [he] at h
   simp only [Option.bind_some] at h
   rw [Option.map_eq_some_iff] at h
   obtain ⟨rest, _, h2⟩ := h
   simp only [Prod.mk.injEq] at h2
   exact ⟨a, len, cap, elems, _, rfl, hc.2.1, hc.2.2, h2.1.symm, he⟩
 ·cases h
variable {bulk : DataW H → Nat} {bulkAll : List (DataW H) → Nat}
theorem read_slice (B : Bulk bulk bulkAll) {α : Type} {t e : TypeId} {sz : Nat} (hsz : 0 < sz) (hce : P.cellsOf e = sz) (row : α → List AV) (hrow : ∀ x, (row x).length = sz) (big : α → Nat) (wf : α → Prop) (hu : P.underlying t = some (.slice e))
  (ih : ∀ cs d ps, DataW.trod enc P W 0 sp true f e cs = some (d, ps) → bulk d ≤ 4611686018427387904 → ∃ x : α, RelC (knW W) m0 (row x) cs ∧ big x ≤ bulk d ∧ wf x)
  (h : DataW.trod enc P W 0 sp true (f + 1) t cs = some (d, ps)) (hb : bulk d ≤ 4611686018427387904) : ∃ l : List α, RelC (knW W) m0 [.vec sz (l.map row)] cs ∧ (l.map fun x => max 1 (big x)).sum ≤ bulk d ∧ ∀ x ∈ l, wf x := by
 rcases trod_slice hu h with ⟨rfl, rfl⟩ | ⟨a, len, cap, elems, rest, rfl, hle, hmx, rfl, hm⟩
 ·refine ⟨[], ⟨.cons (.vecNone _) (.nil _ _), fun v hv => ?_⟩, by simp, fun x hx => by cases hx⟩
  simp at hv; subst hv; rfl
 ·obtain ⟨m1, m2⟩ := mapM_get hm
  simp only [List.length_range] at m1
  have hbs := B.hsl (elems.map (·.1)) rest
  have hbl := bulk_length B.hp B.h1 (elems.map (·.1))
  rw [List.length_map, m1] at hbl
  have each : ∀ i, i < len → ∃ x : α, ∃ rowv : List Value, ∃ y, elems[i]? = some y ∧ W.cells? 0 (a.add (i * sz)) sz = some rowv ∧ RelC (knW W) m0 (row x) rowv ∧ big x ≤ bulk y.1 ∧ wf x := by
   intro i hi
   obtain ⟨y, a1, a2⟩ := m2 i i (by simp [hi])
   simp only [hce, Option.bind_eq_some_iff] at a2
   obtain ⟨rowv, b1, b2⟩ := a2
   have hby := bulk_mem B.h1 (elems.map (·.1)) i y.1 (by rw [List.getElem?_map, a1]; rfl)
   obtain ⟨x, c1, c2, c3⟩ := ih rowv y.1 y.2 b2 (by omega)
   exact ⟨x, rowv, y, a1, b1, c1, c2, c3⟩
  obtain ⟨l, l1, l2⟩ := list_of len each
  refine ⟨l, ⟨.cons ?_ (.nil _ _), fun v hv => by simp at hv; subst hv; rfl⟩, ?_, fun x hx => ?_⟩
  ·refine rel_vec hsz (by simpa using l1) hle (by omega) fun i r hr => ?_
   rw [List.getElem?_map, Option.map_eq_some_iff] at hr
   obtain ⟨x, hx, rfl⟩ := hr
   obtain ⟨rowv, y, _, b1, c1, _⟩ := l2 i x hx
   exact ⟨hrow x, rowv, b1, c1⟩
  ·have := sum_le B.h1 B.hp big l (elems.map (·.1)) (by simp [l1, m1]) (fun i x d hx hd => by
    obtain ⟨rowv, y, a1, _, _, c2, _⟩ := l2 i x hx
    rw [List.getElem?_map, a1] at hd
    simp at hd
    subst hd
    exact c2)
   omega
  ·obtain ⟨i, hi⟩ := List.getElem?_of_mem hx
   obtain ⟨_, _, _, _, _, _, c3⟩ := l2 i x hi
   exact c3
theorem bigL_sum (l : List Fm) : (l.map fun x => max 1 x.big).sum = Fm.bigL l := by
 induction l with
 | nil => rfl
 | cons f r ih => simp only [List.map_cons, List.sum_cons, Fm.bigL, ih]; have := big_pos f; omega
theorem form_read (B : Bulk bulk bulkAll) {t : TypeId} (hk : isForm P t = true) : ∀ (f : Nat) (cs : List Value) (d : DataW H) (ps : List MemPlace), DataW.trod enc P W 0 sp true f t cs = some (d, ps) → bulk d ≤ 4611686018427387904 →
  ∃ x : Fm, RelC (knW W) m0 x.row cs ∧ x.big ≤ bulk d := by
 intro f
 induction f using Nat.strongRecOn with
 | _ f ih =>
 intro cs d ps h hbd
 cases f with
 | zero => unfold DataW.trod at h; cases h
 | succ f =>
 have hk' := hk
 unfold isForm at hk
 split at hk
 ·rename_i fs hu
  split at hk
  ·rename_i f0 f1 f2 f3 hfs
   simp only [Bool.and_eq_true] at hk
   obtain ⟨⟨o0, o1, o2, o3⟩, ⟨k0, k1⟩, k2, k3, hc⟩ := hk
   have o0 := Nat.eq_of_beq_eq_true o0
   have o1 := Nat.eq_of_beq_eq_true o1
   have o2 := Nat.eq_of_beq_eq_true o2
   have o3 := Nat.eq_of_beq_eq_true o3
   have hc := Nat.eq_of_beq_eq_true hc
   have c1 : ∀ {u : TypeId}, isI64 P u = true → P.cellsOf u = 1 := fun {u} h => by
    unfold isI64 at h
    split at h
    ·exact Nat.eq_of_beq_eq_true h
    ·cases h
   have c2 : ∀ {u : TypeId}, isStr P u = true → P.cellsOf u = 1 := fun {u} h => by
    unfold isStr at h
    split at h
    ·exact Nat.eq_of_beq_eq_true h
    ·cases h
   obtain ⟨hu3, c3⟩ : P.underlying f3.type = some (.slice t) ∧ P.cellsOf f3.type = 1 := by
    unfold isSl at k3
    split at k3
    ·rename_i e' he
     rw [Bool.and_eq_true] at k3
     rw [Nat.eq_of_beq_eq_true k3.1] at he
     exact ⟨he, Nat.eq_of_beq_eq_true k3.2⟩
    ·cases k3
   unfold DataW.trod at h
   rw [hu] at h
   simp only [hc, hfs] at h
   split at h
   ·rename_i hlen
    rw [Option.map_eq_some_iff] at h
    obtain ⟨r, hr, hd⟩ := h
    obtain ⟨q1, q2⟩ := mapM_get hr
    rcases cs with _ | ⟨c0, _ | ⟨cc1, _ | ⟨cc2, _ | ⟨cc3, _ | ⟨c4, cs⟩⟩⟩⟩⟩ <;> simp at hlen
    rcases r with _ | ⟨y0, _ | ⟨y1, _ | ⟨y2, _ | ⟨y3, _ | ⟨y4, r⟩⟩⟩⟩⟩ <;> simp at q1
    obtain ⟨z0, e0, g0⟩ := q2 0 f0 rfl
    obtain ⟨z1, e1, g1⟩ := q2 1 f1 rfl
    obtain ⟨z2, e2, g2⟩ := q2 2 f2 rfl
    obtain ⟨z3, e3, g3⟩ := q2 3 f3 rfl
    simp at e0 e1 e2 e3
    subst e0; subst e1; subst e2; subst e3
    rw [o0, c1 k0] at g0
    rw [o1, c1 k1] at g1
    rw [o2, c2 k2] at g2
    rw [o3, c3] at g3
    simp at g0 g1 g2 g3
    obtain ⟨d0, p0⟩ := y0
    obtain ⟨d1, p1⟩ := y1
    obtain ⟨d2, p2⟩ := y2
    obtain ⟨d3, p3⟩ := y3
    obtain ⟨k, hk0, rfl, -, -⟩ := trod_i64 k0 g0
    obtain ⟨n, hn', rfl, -, -⟩ := trod_i64 k1 g1
    obtain ⟨s, hs, rfl⟩ := trod_str k2 g2
    simp only [List.cons.injEq, and_true] at hk0 hn' hs
    subst hk0; subst hn'; subst hs
    simp only [Prod.mk.injEq] at hd
    obtain ⟨rfl, -⟩ := hd
    simp only [List.map_cons, List.map_nil, B.hag, B.h1, B.h0, B.hs] at hbd ⊢
    cases f with
    | zero => unfold DataW.trod at g3; cases g3
    | succ f =>
    obtain ⟨l, hl, hlb, -⟩ := read_slice B (sz := 4) (by omega) hc Fm.row Fm.row_len Fm.big (fun _ => True) hu3 (fun cs d ps hh hb => by
     obtain ⟨x, h1, h2⟩ := ih f (by omega) cs d ps hh hb
     exact ⟨x, h1, h2, trivial⟩) g3 (by omega)
    rw [bigL_sum] at hlb
    have hstr : Rel (knW W) m0 (.str s.data.toList) (.string s) := by
     have := Rel.str (kn := knW W) (m := m0) s.data.toList
     simpa using this
    refine ⟨.mk k n s.data.toList l, ⟨?_, ?_⟩, by simp only [Fm.big]; omega⟩
    ·simp only [Fm.row, Fm.rows_map]
     exact .cons (.int _ _) (.cons (.int _ _) (.cons hstr hl.1))
    ·intro v hv
     simp at hv
     rcases hv with rfl | rfl | rfl | rfl
     ·rfl
     ·rfl
     ·rfl
     ·exact hl.2 _ (by simp)
   ·cases h
  ·cases hk
 ·cases hk
theorem read_fields (B : Bulk bulk bulkAll) {r : TypeId → E → Bool} (ih : ∀ (t : TypeId) (e : E) cs d ps, r t e = true → DataW.trod enc P W 0 sp true f t cs = some (d, ps) → bulk d ≤ 4611686018427387904 → ∃ x : e.den, RelC (knW W) m0 (e.row x) cs ∧ bigE e x ≤ bulk d ∧ wfE e x) :
  ∀ (fs : List Field) (o : Nat) (e : E) (cs : List Value) (ys : List (DataW H × List MemPlace)), kFs r P fs o e = true → cs.length = o + e.size → fs.mapM (fun g => DataW.trod enc P W 0 sp true f g.type ((cs.drop g.offset).take (P.cellsOf g.type))) = some ys → bulkAll (ys.map (·.1)) ≤ 4611686018427387904 →
   ∃ x : e.den, RelC (knW W) m0 (e.row x) (cs.drop o) ∧ bigE e x ≤ bulkAll (ys.map (·.1)) ∧ wfE e x := by
 intro fs
 induction fs with
 | nil =>
  intro o e cs ys hk hl hm hb
  cases e <;> simp only [kFs] at hk <;> try (cases hk; done)
  refine ⟨(), ?_, by simp [bigE], trivial⟩
  have : cs.drop o = [] := List.drop_eq_nil_iff.2 (by simp only [E.size] at hl; omega)
  rw [this]
  exact ⟨.nil _ _, fun v hv => by cases hv⟩
 | cons g fs ihf =>
  intro o e cs ys hk hl hm hb
  obtain ⟨m1, m2⟩ := mapM_get hm
  obtain ⟨y0, e0, g0⟩ := m2 0 g rfl
  rcases ys with _ | ⟨y, ys⟩
  ·simp at e0
  simp only [List.getElem?_cons_zero, Option.some.injEq] at e0
  subst e0
  simp only [List.map_cons, B.h1] at hb ⊢
  have one : ∀ (a : E), g.offset = o → P.cellsOf g.type = a.size → r g.type a = true → ∃ x : a.den, RelC (knW W) m0 (a.row x) ((cs.drop o).take a.size) ∧ bigE a x ≤ bulk y.1 ∧ wfE a x := fun a h1 h2 h3 => by
   rw [h1, h2] at g0
   exact ih _ a _ y.1 y.2 h3 g0 (by omega)
  have many : ∀ a b, e = .pr a b → g.offset = o → P.cellsOf g.type = a.size → r g.type a = true → kFs r P fs (o + a.size) b = true → ∃ x : e.den, RelC (knW W) m0 (e.row x) (cs.drop o) ∧ bigE e x ≤ bulk y.1 + bulkAll (ys.map (·.1)) ∧ wfE e x := by
   rintro a b rfl h1 h2 h3 h4
   obtain ⟨x, hx, hxb, hxw⟩ := one a h1 h2 h3
   have hm' : fs.mapM (fun g => DataW.trod enc P W 0 sp true f g.type ((cs.drop g.offset).take (P.cellsOf g.type))) = some ys := by
    simp only [List.mapM_cons, Option.bind_eq_bind, Option.bind_eq_some_iff] at hm
    obtain ⟨_, _, _, q, q'⟩ := hm
    cases q'
    exact q
   obtain ⟨z, hz, hzb, hzw⟩ := ihf (o + a.size) b cs ys h4 (by simp only [E.size] at hl; omega) hm' (by omega)
   refine ⟨(x, z), ?_, by simp only [bigE]; omega, ⟨hxw, hzw⟩⟩
   have : cs.drop o = (cs.drop o).take a.size ++ cs.drop (o + a.size) := by rw [← List.drop_drop]; exact (List.take_append_drop _ _).symm
   rw [this]
   exact hx.append hz
  cases fs with
  | nil =>
   have hk1 : (Nat.beq g.offset o && (Nat.beq (P.cellsOf g.type) e.size && r g.type e)) = true := by cases e <;> exact hk
   simp only [Bool.and_eq_true] at hk1
   obtain ⟨h1, h2, h3⟩ := hk1
   obtain ⟨x, hx, hxb, hxw⟩ := one e (Nat.eq_of_beq_eq_true h1) (Nat.eq_of_beq_eq_true h2) h3
   refine ⟨x, ?_, by omega, hxw⟩
   rwa [List.take_of_length_le (by rw [List.length_drop]; omega)] at hx
  | cons g' fs' =>
   cases e <;> simp only [kFs] at hk <;> try (cases hk; done)
   rename_i a b
   simp only [Bool.and_eq_true] at hk
   obtain ⟨h1, h2, h3, h4⟩ := hk
   exact many a b rfl (Nat.eq_of_beq_eq_true h1) (Nat.eq_of_beq_eq_true h2) h3 h4
theorem read_e (B : Bulk bulk bulkAll) : ∀ (n : Nat) (f : Nat) (t : TypeId) (e : E) (cs : List Value) (d : DataW H) (ps : List MemPlace), kOK P n t e = true → DataW.trod enc P W 0 sp true f t cs = some (d, ps) → bulk d ≤ 4611686018427387904 →
  ∃ x : e.den, RelC (knW W) m0 (e.row x) cs ∧ bigE e x ≤ bulk d ∧ wfE e x
 | 0, f, t, e, cs, d, ps, hk, h, hb => by cases hk
 | n + 1, f, t, e, cs, d, ps, hk, h, hb => by
  have struct : (match P.underlying t with
   | some (.struct fs) => Nat.beq (P.cellsOf t) e.size && kFs (kOK P n) P fs.toList 0 e
   | _ => false) = true → ∃ x : e.den, RelC (knW W) m0 (e.row x) cs ∧ bigE e x ≤ bulk d ∧ wfE e x := fun hk => by
   split at hk
   ·rename_i fs hu
    rw [Bool.and_eq_true] at hk
    have hc := Nat.eq_of_beq_eq_true hk.1
    cases f with
    | zero => unfold DataW.trod at h; cases h
    | succ f =>
     unfold DataW.trod at h
     rw [hu] at h
     simp only [hc] at h
     split at h
     ·rename_i hlen
      rw [Option.map_eq_some_iff] at h
      obtain ⟨r, hr, hd⟩ := h
      simp only [Prod.mk.injEq] at hd
      obtain ⟨rfl, -⟩ := hd
      rw [B.hag] at hb ⊢
      obtain ⟨x, h1, h2, h3⟩ := read_fields B (f := f) (fun t e cs d ps hk hh hb => read_e B n f t e cs d ps hk hh hb) fs.toList 0 e cs r hk.2 (by omega) hr (by omega)
      exact ⟨x, by simpa using h1, by omega, h3⟩
     ·cases h
   ·cases hk
  cases e with
  | int k =>
   cases k <;> try exact struct hk
   obtain ⟨m, rfl, rfl, h1, h2⟩ := trod_i64 hk h
   exact ⟨m, ⟨.cons (.int _ _) (.nil _ _), fun v hv => by simp at hv; subst hv; rfl⟩, by simp [bigE], h1, h2⟩
  | str =>
   obtain ⟨s, rfl, rfl⟩ := trod_str hk h
   refine ⟨s.data.toList, ⟨.cons ?_ (.nil _ _), fun v hv => by simp at hv; subst hv; rfl⟩, by simp only [bigE, B.hs]; omega, trivial⟩
   have := Rel.str (kn := knW W) (m := m0) s.data.toList
   simpa using this
  | bool =>
   have hk : (match P.underlying t with
    | some .bool => true
    | _ => false) = true := hk
   split at hk
   ·rename_i hu
    cases f with
    | zero => unfold DataW.trod at h; cases h
    | succ f =>
     unfold DataW.trod at h
     rw [hu] at h
     split at h <;> try (simp_all; done)
     rename_i b _
     exact ⟨b, ⟨.cons (.bool _) (.nil _ _), fun v hv => by simp at hv; subst hv; rfl⟩, by simp [bigE], trivial⟩
   ·cases hk
  | form =>
   obtain ⟨x, h1, h2⟩ := form_read B hk f cs d ps h hb
   exact ⟨x, h1, h2, trivial⟩
  | slice e =>
   have hk : (match P.underlying t with
    | some (.slice t') => kOK P n t' e && (Nat.beq (P.cellsOf t') e.size && Nat.blt 0 e.size)
    | _ => false) = true := hk
   split at hk
   ·rename_i t' hu
    simp only [Bool.and_eq_true] at hk
    cases f with
    | zero => unfold DataW.trod at h; cases h
    | succ f =>
     obtain ⟨l, h1, h2, h3⟩ := read_slice B (sz := e.size) (by have := hk.2.2; unfold Nat.blt at this; exact Nat.le_of_ble_eq_true this) (Nat.eq_of_beq_eq_true hk.2.1) e.row e.row_len (bigE e) (wfE e) hu (fun cs d ps hh hb => read_e B n f t' e cs d ps hk.1 hh hb) h hb
     exact ⟨l, h1, h2, h3⟩
   ·cases hk
  | erri => exact struct hk
  | un => exact struct hk
  | pr a b => exact struct hk
theorem row_cells {kn : Kn} {m : Mp} : ∀ (e : E) (x : e.den) (vs : List Value), RelC kn m (e.row x) vs → RelC kn m (e.cells x) vs
 | .int _, _, _, h => h
 | .bool, _, _, h => h
 | .str, _, _, h => h
 | .erri, _, _, h => h
 | .form, .mk k n t l, vs, h => by
  refine ⟨?_, h.2⟩
  have h := h.1
  simp only [E.row, Fm.row, Fm.rows_map] at h
  obtain ⟨v0, u0, rfl, h0, h⟩ := h.uncons
  obtain ⟨v1, u1, rfl, h1, h⟩ := h.uncons
  obtain ⟨v2, u2, rfl, h2, h⟩ := h.uncons
  obtain ⟨v3, u3, rfl, h3, h⟩ := h.uncons
  exact .cons h0 (.cons h1 (.cons h2 (.cons (rel_tvec.2 h3) h)))
 | .un, _, _, h => h
 | .pr a b, (x, y), vs, h => by
  obtain ⟨us, ws, rfl, h1, h2⟩ := RelL.append_iff.1 h.1
  exact (row_cells a x us ⟨h1, fun v hv => h.2 v (by simp [hv])⟩).append (row_cells b y ws ⟨h2, fun v hv => h.2 v (by simp [hv])⟩)
 | .slice e, l, vs, h => by
  refine ⟨?_, h.2⟩
  have h := h.1
  simp only [E.row] at h
  obtain ⟨v0, u0, rfl, h0, h⟩ := h.uncons
  exact .cons (rel_tvec.2 h0) h
theorem rel_aggW {row : List AV} {cs : Array Value} (h : RelC (knW W) m0 row (Value.agg cs).cells.toList) : Rel (knW W) m0 (.agg row) (.agg cs) := by
 have hcs : (Value.agg cs).cells.toList = cs.toList := rfl
 rw [hcs] at h
 exact .agg _ _ (by simpa using h.1.1) (fun i y v q r => h.1.2 i y v q (by simpa using r)) (fun i v r => h.2 v (by simpa using Array.mem_of_getElem? r))
end
end Go.Ab

set_option maxRecDepth 100000
namespace Go.Ab
open Go Go.ChangeShapes Go.WideShapes Go.ChangeAt Go.RowKit Go.Proofs Go.Proofs.YtdagildojaagiaaGreatDoor
def argOK (P : Program) (n : Nat) (t : TypeId) (e : E) : Bool := kOK P n t e && match e with
 | .int .i64 => true
 | .bool => true
 | .str => true
 | .form => true
 | .slice _ => true
 | .pr _ _ => true
 | _ => false
def parOK (P : Program) (n : Nat) : List TypeId → List E → Bool
 | [], [] => true
 | t :: ts, e :: es => argOK P n t e && parOK P n ts es
 | _, _ => false
abbrev shA (es : List E) : List Sh := es.map .d
def bigA : (es : List E) → Sh.denL (shA es) → Nat
 | [], _ => 0
 | e :: es, x => bigE e x.1 + bigA es x.2
def wfA : (es : List E) → Sh.denL (shA es) → Prop
 | [], _ => True
 | e :: es, x => wfE e x.1 ∧ wfA es x.2
section
variable {H : Type} {enc : TypeId × Value → H} {W : World} {P : Program}
theorem one_cell {t : TypeId} {v c : Value} {base : Nat} (hs : ∀ fs, P.underlying t ≠ some (.struct fs)) (ha : ∀ k a, P.underlying t ≠ some (.array k a)) (hok : Value.okWide P W .any base t v) (h : v.cells.toList = [c]) : v = c := by
 cases v <;> simp [Value.cells] at h <;> try exact h
 rename_i cs
 exfalso
 unfold Value.okWide at hok
 split at hok
 ·rename_i fs e; exact hs fs e
 ·rename_i k a e; exact ha _ _ e
 ·unfold Cell.okWide at hok
  split at hok <;> first | (simp_all; done) | skip
  unfold Cell.ok at hok
  split at hok <;> simp_all
theorem struct_agg {t : TypeId} {v : Value} {base : Nat} {fs : Array Field} (hu : P.underlying t = some (.struct fs)) (hok : Value.okWide P W .any base t v) : ∃ cs, v = .agg cs := by
 unfold Value.okWide at hok
 rw [hu] at hok
 obtain ⟨cs, h, _⟩ := hok
 exact ⟨cs, h⟩
theorem row_av {n : Nat} {t : TypeId} {e : E} {x : e.den} {v : Value} {base : Nat} (hk : argOK P n t e = true) (hok : Value.okWide P W .any base t v) (h : RelC (knW W) m0 (e.row x) v.cells.toList) : Rel (knW W) m0 (e.av x) v := by
 unfold argOK at hk
 rw [Bool.and_eq_true] at hk
 obtain ⟨hk, hk2⟩ := hk
 cases n with
 | zero => cases hk
 | succ n =>
 have one : ∀ {a : AV}, (∀ fs, P.underlying t ≠ some (.struct fs)) → (∀ k a, P.underlying t ≠ some (.array k a)) → RelC (knW W) m0 [a] v.cells.toList → Rel (knW W) m0 a v := by
  intro a hs ha h
  obtain ⟨c, u, hc, h1, h2⟩ := h.1.uncons
  have : u = [] := by have q := h2.1; exact List.length_eq_zero_iff.1 q.symm
  subst this
  rw [one_cell hs ha hok hc]
  exact h1
 cases e with
 | int k =>
  cases k <;> try (cases hk2; done)
  have hk : isI64 P t = true := hk
  unfold isI64 at hk
  split at hk
  ·rename_i hu; exact one (fun fs e => by rw [hu] at e; cases e) (fun _ _ e => by rw [hu] at e; cases e) h
  ·cases hk
 | bool =>
  have hk : (match P.underlying t with
   | some .bool => true
   | _ => false) = true := hk
  split at hk
  ·rename_i hu; exact one (fun fs e => by rw [hu] at e; cases e) (fun _ _ e => by rw [hu] at e; cases e) h
  ·cases hk
 | str =>
  have hk : isStr P t = true := hk
  unfold isStr at hk
  split at hk
  ·rename_i hu; exact one (fun fs e => by rw [hu] at e; cases e) (fun _ _ e => by rw [hu] at e; cases e) h
  ·cases hk
 | slice e =>
  have hk : (match P.underlying t with
   | some (.slice t') => kOK P n t' e && (Nat.beq (P.cellsOf t') e.size && Nat.blt 0 e.size)
   | _ => false) = true := hk
  split at hk
  ·rename_i hu
   exact one (fun fs e => by rw [hu] at e; cases e) (fun _ _ e => by rw [hu] at e; cases e) (row_cells (.slice e) x _ h)
  ·cases hk
 | form =>
  have hk : isForm P t = true := hk
  unfold isForm at hk
  split at hk
  ·rename_i fs hu
   obtain ⟨cs, rfl⟩ := struct_agg hu hok
   exact rel_aggW (row_cells .form x _ h)
  ·cases hk
 | pr a b =>
  have hk : (match P.underlying t with
   | some (.struct fs) => Nat.beq (P.cellsOf t) (E.pr a b).size && kFs (kOK P n) P fs.toList 0 (.pr a b)
   | _ => false) = true := hk
  split at hk
  ·rename_i fs hu
   obtain ⟨cs, rfl⟩ := struct_agg hu hok
   exact rel_aggW (row_cells (.pr a b) x _ h)
  ·cases hk
 | erri => cases hk2
 | un => cases hk2
variable {bulk : DataW H → Nat} {bulkAll : List (DataW H) → Nat}
theorem args_read (B : Bulk bulk bulkAll) (n : Nat) : ∀ (ts : List TypeId) (es : List E) (vs : List Value) (ds : List (DataW H)) (ps : List MemPlace) (base : Nat), parOK P n ts es = true → DataW.TrodAll enc P W 0 (fun _ => true) true ts vs ds ps → (∀ (j : Nat) t v, ts[j]? = some t → vs[j]? = some v → Value.okWide P W .any base t v) → bulkAll ds ≤ 4611686018427387904 →
  ∃ x : Sh.denL (shA es), RelL (knW W) m0 (patL ρ0 (shA es) x) vs ∧ bigA es x ≤ bulkAll ds ∧ wfA es x
 | [], [], vs, ds, ps, base, _, h, _, _ => by
  obtain ⟨rfl, rfl, rfl⟩ := trodAll_nil h
  exact ⟨(), .nil _ _, by simp [bigA], trivial⟩
 | [], e :: es, vs, ds, ps, base, hk, _, _, _ => by cases hk
 | t :: ts, [], vs, ds, ps, base, hk, _, _, _ => by cases hk
 | t :: ts, e :: es, vs, ds, ps, base, hk, h, hok, hb => by
  simp only [parOK, Bool.and_eq_true] at hk
  obtain ⟨v, vs', d, ds', p, q, rfl, rfl, rfl, h1, h2⟩ := trodAll_cons h
  rw [B.h1] at hb ⊢
  obtain ⟨f, t1⟩ := id h1
  have hk1 : kOK P n t e = true := by have := hk.1; unfold argOK at this; rw [Bool.and_eq_true] at this; exact this.1
  obtain ⟨x, a1, a2, a3⟩ := read_e B n f t e _ d p hk1 t1 (by omega)
  obtain ⟨y, b1, b2, b3⟩ := args_read B n ts es vs' ds' q base hk.2 h2 (fun j t v q1 q2 => hok (j + 1) t v q1 q2) (by omega)
  exact ⟨(x, y), .cons (row_av hk.1 (hok 0 t v rfl rfl) a1) b1, by simp only [bigA]; omega, a3, b3⟩
theorem trodAll_length : ∀ {ts : List TypeId} {vs : List Value} {ds : List (DataW H)} {ps : List MemPlace} {W : World} {b : Nat} {sp : Nat → Bool} {hd : Bool}, DataW.TrodAll enc P W b sp hd ts vs ds ps → ds.length = ts.length
 | [], vs, ds, ps, W, b, sp, hd, h => by obtain ⟨_, rfl, _⟩ := trodAll_nil h; rfl
 | t :: ts, vs, ds, ps, W, b, sp, hd, h => by
  obtain ⟨v, vs', d, ds', p, q, rfl, rfl, rfl, h1, h2⟩ := trodAll_cons h
  simp [trodAll_length h2]
theorem trodAll_below {W' : World} (hl : laidOutB P = true) : ∀ {ts : List TypeId} {vs : List Value} {ds : List (DataW H)} {ps : List MemPlace}, ts.all (fun t => P.readableRec t && Nat.blt t P.types.size) = true → DataW.TrodAll enc P W 0 (fun _ => true) true ts vs ds ps → Below W.heap.size W W' → (∀ x ∈ ps, x.block < W.heap.size) → DataW.TrodAll enc P W' 0 (fun b => decide (b < W.heap.size)) true ts vs ds ps
 | [], vs, ds, ps, _, h, _, _ => by obtain ⟨rfl, rfl, rfl⟩ := trodAll_nil h; exact trodAll_mk0
 | t :: ts, vs, ds, ps, hr, h, hb, hp => by
  simp only [List.all_cons, Bool.and_eq_true] at hr
  obtain ⟨v, vs', d, ds', p, q, rfl, rfl, rfl, h1, h2⟩ := trodAll_cons h
  exact trodAll_cons_mk (Below.trod hl hr.1.1 (Nat.le_of_ble_eq_true hr.1.2) h1 hb (fun x hx => hp x (by simp [hx]))) (trodAll_below hl hr.2 h2 hb (fun x hx => hp x (by simp [hx])))
end
theorem len_sum {α : Type} (g : α → Nat) : ∀ l : List α, l.length ≤ (l.map fun x => max 1 (g x)).sum
 | [] => Nat.le_refl _
 | x :: l => by have := len_sum g l; simp only [List.length_cons, List.map_cons, List.sum_cons]; omega
theorem bulk_pos {H : Type} (d : DataW H) : 1 ≤ Rows.uptoBulk d := by
 cases d with
 | lit l => cases l <;> simp [Rows.uptoBulk]
 | _ => simp [Rows.uptoBulk]
theorem uptoB {H : Type} : Bulk (Rows.uptoBulk (H := H)) Rows.uptoBulkAll := ⟨fun l => by simp [Rows.uptoBulk], fun l r => by simp [Rows.uptoBulk]; omega, fun l => by simp [Rows.uptoBulk], bulk_pos, by simp [Rows.uptoBulkAll], fun d l => by simp [Rows.uptoBulkAll]⟩
theorem contract_of {g : FuncId} {fn : Func} {es : List E} {n : Nat} {spec : ChangeSpec} {tb : TypeId} (hv : spec.vars = []) (hfn : ∀ (H : Type) (ds : List (DataW H)), ds.length = fn.params.toList.length → spec.fn H ds = { results := [.lit (.bool true)], args := ds })
  (hres : fn.resultTypes = #[tb]) (htb : Tryz.prog.underlying tb = some .bool) (hk : parOK Tryz.prog n fn.params.toList es = true) (hrr : fn.params.toList.all (fun t => Tryz.prog.readableRec t && Nat.blt t Tryz.prog.types.size) = true) (hl : laidOutB Tryz.prog = true) (hbo : bodyOK Tryz.prog g = true)
  (hlaw : ∀ x, bigA es x ≤ 1048576 → wfA es x → PCall CX g (patL ρ0 (shA es) x) (· = .ret (.bool true)))
  (H : Type) (enc : TypeId × Value → H) (W : World) (base : Nat) (args : Array Value) (ds gs : List (DataW H)) (before : List MemPlace)
  (hval : ∀ (j : Nat) t v, fn.params[j]? = some t → args[j]? = some v → Value.okWide Tryz.prog W .any base t v)
  (hW : DataW.Whole enc Tryz.prog fn.params.toList spec.vars false W args.toList ds gs before) (hb : Rows.uptoSmall H (ds ++ gs) = true) :
  Calls Tryz.prog g args W fun e W' => ∃ v, e = .returned v ∧ spec.post enc Tryz.prog fn false true false false W args v W' := by
 have hW' := hW
 obtain ⟨p, q, hA0, hV, rfl, hfz, hnd⟩ := hW
 have hA : DataW.TrodAll enc Tryz.prog W 0 (fun _ => true) true fn.params.toList args.toList ds p := hA0
 rw [hv] at hV
 obtain ⟨rfl, rfl⟩ := trodVars_none hV
 have hbd : Rows.uptoBulkAll ds ≤ 1048576 := by
  have := of_decide_eq_true hb
  simpa using this
 obtain ⟨x, hx, hxb, hxw⟩ := args_read uptoB n fn.params.toList es args.toList ds p base hk hA (fun j t v a b => hval j t v (by simpa using a) (by simpa using b)) (by omega)
 have hdo := hlaw x (by omega) hxw (knW W) W args.toList (knOK_W W) hx
 have hlt : ∀ y ∈ p, y.block < W.heap.size := fun y hy => hW'.lt y (by simp [hy])
 have fin : ∀ e w', (∃ out kn', out = AOut.ret (.bool true) ∧ RelOut kn' m0 out e ∧ KnOK CX kn' w' ∧ Below W.heap.size W w' ∧ ∀ b, b < W.heap.size → kn' b = knW W b) → ∃ v, e = .returned v ∧ spec.post enc Tryz.prog fn false true false false W args v w' := by
  rintro e w' ⟨out, kn', rfl, ho, _, hbel, _⟩
  cases e with
  | returned u =>
   simp only [RelOut] at ho
   cases ho
   have hT := trodAll_below hl hrr hA hbel hlt
   refine ⟨_, rfl, _, _, _, [], p, [], hW', ?_, ?_, ?_, hbel.frame _, fun h => by cases h⟩
   ·rw [hres, hfn H _ (by simpa using trodAll_length hA)]
    exact trodAll_cons_mk (shut_bool htb _) trodAll_mk0
   ·rw [hfn H _ (by simpa using trodAll_length hA), List.append_nil]
    exact hT
   ·rw [hv, hfn H _ (by simpa using trodAll_length hA)]; rfl
  | panicked ch => exact ho.elim
  | outgrown => exact ho.elim
 rcases hdo with ⟨_, hc⟩ | ⟨u, w', h1, _⟩
 ·exact hc.mono fin
 ·have h2 : (callFunc g args.toList.toArray).run Tryz.prog W = _ := calls_of_bodyOK hbo _ W
  have h1' : (callFunc g args.toList.toArray).run Tryz.prog W = _ := h1
  rw [h2] at h1'
  cases h1'
end Go.Ab

namespace Go.Ab
open Go Go.RowKit Go.Proofs
end Go.Ab

namespace Go.Ab
open Go Go.RowKit Go.Proofs
end Go.Ab

set_option maxRecDepth 100000
namespace Go.Ab
open Go Go.RowKit Go.Proofs
def badR (c : Int) : Bool := !decide (c = 10) && (decide (c < 32) || decide (126 < c))
theorem badR_call (c : Int) : PCall CX 154 [.int .i32 c] (· = .ret (.bool (badR c))) := by
 refine pcall_mk 0 13 [.tmp 2] Tryz.func154 rfl (by decide) rfl rfl rfl ?_
 refine aw_sreg {} rfl rfl fun K KP hK hP => ?_
 simp only [go_sem, ↓reduceIte]
 apply hK; clear hK hP
 by_cases c1_0 : c = 10
 ·
  refine aw_sreg {} rfl rfl fun K KP hK hP => ?_
  simp only [go_sem, ↓reduceIte, c1_0]
  apply hK; clear hK hP
  refine aw_ret ?_
  simp only [go_sem, ↓reduceIte, c1_0, athen_ret] <;> (
   simp [badR])
 ·
  by_cases c1_1 : c < 32
  ·
   refine aw_sreg {} rfl rfl fun K KP hK hP => ?_
   simp only [go_sem, ↓reduceIte, c1_0, c1_1]
   apply hK; clear hK hP
   refine aw_ret ?_
   simp only [go_sem, ↓reduceIte, c1_0, c1_1, athen_ret] <;> (
    simp [badR, c1_0, c1_1])
  ·
   refine aw_sreg {} rfl rfl fun K KP hK hP => ?_
   simp only [go_sem, ↓reduceIte, c1_0, c1_1]
   apply hK; clear hK hP
   refine aw_ret ?_
   simp only [go_sem, ↓reduceIte, c1_0, c1_1, athen_ret] <;> (
    simp [badR, c1_0, c1_1])
def idxR (p : Int → Bool) (s : List UInt8) : Nat → Nat → Int
 | 0, _ => -1
 | f + 1, pos => if pos < s.length then (if p (Utf8.decode ⟨s.toArray⟩ pos).1 = true then pos else idxR p s f (pos + (Utf8.decode ⟨s.toArray⟩ pos).2)) else -1
theorem decode_wide (b : ByteArray) (i : Nat) : 1 ≤ (Utf8.decode b i).2 := by
 unfold Utf8.decode
 simp only
 repeat' split
 all_goals simp
theorem indexFunc_call (p : Int → Bool) (g : FuncId) (hg : ∀ c, PCall CX g [.int .i32 c] (· = .ret (.bool (p c)))) (s : List UInt8) : PCall CX 206 [.str s, .fn (.func g) [] [], .bool true] (· = .ret (.int .i64 (idxR p s (s.length + 1) 0))) := by
 refine pcall_mk 0 21 [.tmp 6] Tryz.func206 rfl (by decide) rfl rfl rfl ?_
 refine aw_sreg {} rfl rfl fun K KP hK hP => ?_
 simp only [go_sem, ↓reduceIte]
 apply hK; clear hK hP
 refine aw_seq ?_
 refine aw_sreg {} rfl rfl fun K KP hK hP => ?_
 simp only [go_sem, ↓reduceIte]
 apply hK; clear hK hP
 refine aw_block ?_
 refine aw_loop' (fun dd st => ∃ (pos f : Nat), (s.length < pos + f) ∧ (idxR p s f pos = idxR p s (s.length + 1) 0) ∧ f = dd ∧ [(0, .siter s pos)] = st.σ ∧ st.env 0 = .str s ∧ st.env 1 = .fn (.func g) [] [] ∧ st.env 2 = .bool true ∧ st.env 10 = .ref 0 0 0) (fun dd st hJ => ?_) ?_
 ·
  obtain ⟨env0, σ0, nx0⟩ := st
  obtain ⟨pos, f, hp0_0, hp0_1, hd0, hs0, e0_0, e0_1, e0_2, e0_10⟩ := hJ
  dsimp only at hs0  e0_0 e0_1 e0_2 e0_10
  subst hd0; subst hs0
  refine aw_forget' 1 rfl ?_
  by_cases c2 : pos < s.length
  ·
   refine aw_sreg {} rfl rfl fun K KP hK hP => ?_
   simp only [go_sem, ↓reduceIte, e0_0, e0_1, e0_2, e0_10, c2]
   apply hK; clear hK hP
   refine aw_seq ?_
   refine aw_if (True) (by simp only [go_sem, ↓reduceIte, e0_0, e0_1, e0_2, e0_10, c2]) (fun h2 => ?_) (fun h2 => ?_)
   ·
    refine aw_skip ?_
    refine athen_normal.2 ?_
    refine aw_block ?_
    refine aw_sreg {} rfl rfl fun K KP hK hP => ?_
    simp only [go_sem, ↓reduceIte, e0_0, e0_1, e0_2, e0_10, c2]
    apply hK; clear hK hP
    refine aw_sreg {} rfl rfl fun K KP hK hP => ?_
    simp only [go_sem, ↓reduceIte, e0_0, e0_1, e0_2, e0_10, c2]
    refine CallP.ret (hg _) (by simp only [go_sem]) ?_
    try simp only [go_sem, ↓reduceIte, e0_0, e0_1, e0_2, e0_10, c2]
    apply hK; clear hK hP
    refine aw_if (p (Utf8.decode ⟨s.toArray⟩ pos).1 = true) (by simp only [go_sem, ↓reduceIte, e0_0, e0_1, e0_2, e0_10, c2]) (fun h4 => ?_) (fun h4 => ?_)
    ·
     refine aw_sreg {} rfl rfl fun K KP hK hP => ?_
     simp only [go_sem, ↓reduceIte, e0_0, e0_1, e0_2, e0_10, c2]
     apply hK; clear hK hP
     refine aw_ret ?_
     refine ablock_ret.2 ?_
     refine afor_one ?_
     refine athen_ret.2 ?_
     refine ablock_ret.2 ?_
     refine athen_ret.2 ?_
     simp only [go_sem, ↓reduceIte, e0_0, e0_1, e0_2, e0_10, c2, athen_ret] <;> (
      rw [← hp0_1]
      cases f with
      | zero => omega
      | succ f => simp only [idxR, c2, if_true, h4])
    ·
     refine aw_skip ?_
     refine ablock_normal.2 ?_
     refine afor_one ?_
     refine athen_normal.2 ?_
     refine ⟨_, ?_, (pos + (Utf8.decode ⟨s.toArray⟩ pos).2), (f - 1), ?_, ?_, rfl, rfl, ?_, ?_, ?_, ?_⟩
     ·have := decode_wide ⟨s.toArray⟩ pos
      omega
     ·have := decode_wide ⟨s.toArray⟩ pos
      omega
     ·rw [← hp0_1]
      cases f with
      | zero => omega
      | succ f => simp only [idxR, c2, if_true, h4, Nat.add_sub_cancel, if_false]; rfl
     ·simp only [go_sem, ↓reduceIte, e0_0, e0_1, e0_2, e0_10, c2] <;> try rfl
     ·simp only [go_sem, ↓reduceIte, e0_0, e0_1, e0_2, e0_10, c2] <;> try rfl
     ·simp only [go_sem, ↓reduceIte, e0_0, e0_1, e0_2, e0_10, c2] <;> try rfl
     ·simp only [go_sem, ↓reduceIte, e0_0, e0_1, e0_2, e0_10, c2] <;> try rfl
   ·
    exact absurd trivial h2
  ·
   refine aw_sreg {} rfl rfl fun K KP hK hP => ?_
   simp only [go_sem, ↓reduceIte, e0_0, e0_1, e0_2, e0_10, c2]
   apply hK; clear hK hP
   refine aw_seq ?_
   refine aw_if (False) (by simp only [go_sem, ↓reduceIte, e0_0, e0_1, e0_2, e0_10, c2]) (fun h2 => ?_) (fun h2 => ?_)
   ·
    exact h2.elim
   ·
    refine aw_exit ?_
    refine athen_exit.2 ?_
    refine afor_one ?_
    refine athen_exit.2 ?_
    refine ablock_here ?_
    refine athen_normal.2 ?_
    refine aw_sreg {} rfl rfl fun K KP hK hP => ?_
    simp only [go_sem, ↓reduceIte, e0_0, e0_1, e0_2, e0_10, c2]
    apply hK; clear hK hP
    refine aw_ret ?_
    simp only [go_sem, ↓reduceIte, e0_0, e0_1, e0_2, e0_10, c2, athen_ret] <;> (
     rw [← hp0_1]
     cases f with
     | zero => rfl
     | succ f => simp only [idxR, c2, if_false])
 ·
  refine ⟨_, 0, s.length + 1, ?_, ?_, rfl, ?_, ?_, ?_, ?_, ?_⟩
  ·first | omega | trivial | assumption
  ·first | omega | trivial | assumption
  ·first | rfl | (simp only [go_sem, ↓reduceIte])
  ·simp only [go_sem, ↓reduceIte] <;> try rfl
  ·simp only [go_sem, ↓reduceIte] <;> try rfl
  ·simp only [go_sem, ↓reduceIte] <;> try rfl
  ·simp only [go_sem, ↓reduceIte] <;> try rfl
theorem indexFunc2_call (p : Int → Bool) (g : FuncId) (hg : ∀ c, PCall CX g [.int .i32 c] (· = .ret (.bool (p c)))) (s : List UInt8) : PCall CX 174 [.str s, .fn (.func g) [] []] (· = .ret (.int .i64 (idxR p s (s.length + 1) 0))) := by
 refine pcall_mk 0 8 [.tmp 4] Tryz.func174 rfl (by decide) rfl rfl rfl ?_
 refine aw_sreg {} rfl rfl fun K KP hK hP => ?_
 simp only [go_sem, ↓reduceIte]
 apply hK; clear hK hP
 refine aw_sreg {} rfl rfl fun K KP hK hP => ?_
 simp only [go_sem, ↓reduceIte]
 refine CallP.ret (indexFunc_call p g hg s) (by simp only [go_sem]) ?_
 try simp only [go_sem, ↓reduceIte]
 apply hK; clear hK hP
 refine aw_ret ?_
 simp only [go_sem, ↓reduceIte, athen_ret]
theorem containsFunc_call (p : Int → Bool) (g : FuncId) (hg : ∀ c, PCall CX g [.int .i32 c] (· = .ret (.bool (p c)))) (s : List UInt8) : PCall CX 155 [.str s, .fn (.func g) [] []] (· = .ret (.bool (decide (0 ≤ idxR p s (s.length + 1) 0)))) := by
 refine pcall_mk 0 9 [.tmp 4] Tryz.func155 rfl (by decide) rfl rfl rfl ?_
 refine aw_sreg {} rfl rfl fun K KP hK hP => ?_
 simp only [go_sem, ↓reduceIte]
 apply hK; clear hK hP
 refine aw_sreg {} rfl rfl fun K KP hK hP => ?_
 simp only [go_sem, ↓reduceIte]
 refine CallP.ret (indexFunc2_call p g hg s) (by simp only [go_sem]) ?_
 try simp only [go_sem, ↓reduceIte]
 apply hK; clear hK hP
 refine aw_ret ?_
 simp only [go_sem, ↓reduceIte, athen_ret]
def badT (t : List UInt8) : Bool := decide (0 ≤ idxR badR t (t.length + 1) 0)
noncomputable def S_containsBad : Sig := .n [.d .str, .c (.fn (.func 154) [] [])] (.d .bool) (fun x => some (badT x.1))
theorem S_containsBad_ok : SigOK CX 155 S_containsBad := fun x r h => by cases h; exact containsFunc_call badR _ badR_call x.1
end Go.Ab

set_option maxRecDepth 100000
namespace Go.Ab
open Go Go.RowKit Go.Proofs
theorem wrapU {z : Nat} (h : z < 18446744073709551616) : IntKind.wrap .u64 (z : Int) = z := by
 simp [IntKind.wrap, IntKind.bits, IntKind.signed]; omega
theorem and32 (n : Nat) (h : n < 18446744073709551616) : Go.bits .and .u64 (n : Int) 4294967295 = ((n % 4294967296 : Nat) : Int) := by
 have := bits_and_u64_nat n 4294967295 h (by decide)
 rw [show ((4294967295 : Nat) : Int) = 4294967295 from rfl] at this
 rw [this]
 congr 1
 exact Nat.and_two_pow_sub_one_eq_mod n 32
theorem shr32 (n : Nat) : (n : Int) / 2 ^ 32 = ((n / 4294967296 : Nat) : Int) := by
 have : (2 : Int) ^ 32 = ((4294967296 : Nat) : Int) := by decide
 rw [this]; rfl
theorem cast64 : ((64 : Nat) : Int) = 64 := rfl
theorem mulU {x y : Nat} (h : x * y < 18446744073709551616) : IntKind.wrap .u64 ((x : Int) * (y : Int)) = ((x * y : Nat) : Int) := by
 rw [← Int.natCast_mul]; exact wrapU h
theorem addU {x y : Nat} (h : x + y < 18446744073709551616) : IntKind.wrap .u64 ((x : Int) + (y : Int)) = ((x + y : Nat) : Int) := by
 rw [← Int.natCast_add]; exact wrapU h
theorem mulLo (x y : Nat) : IntKind.wrap .u64 ((x : Int) * (y : Int)) = ((x * y % 18446744073709551616 : Nat) : Int) := by
 rw [← Int.natCast_mul]
 simp [IntKind.wrap, IntKind.bits, IntKind.signed]
theorem low_mul {x y : Nat} (hx : x < 4294967296) (hy : y < 4294967296) : x * y ≤ 18446744065119617025 :=
 Nat.mul_le_mul (show x ≤ 4294967295 by omega) (show y ≤ 4294967295 by omega)
theorem hi_eq (a b : Nat) : a / 4294967296 * (b / 4294967296) + (a / 4294967296 * (b % 4294967296) + a % 4294967296 * (b % 4294967296) / 4294967296) / 4294967296 +
  ((a / 4294967296 * (b % 4294967296) + a % 4294967296 * (b % 4294967296) / 4294967296) % 4294967296 + a % 4294967296 * (b / 4294967296)) / 4294967296 = a * b / 18446744073709551616 := by
 have e : a * b = a / 4294967296 * (b / 4294967296) * 18446744073709551616 + (a / 4294967296 * (b % 4294967296) + a % 4294967296 * (b / 4294967296)) * 4294967296 + a % 4294967296 * (b % 4294967296) := by
  conv => lhs; rw [← Nat.div_add_mod a 4294967296, ← Nat.div_add_mod b 4294967296]
  generalize a / 4294967296 = p
  generalize a % 4294967296 = q
  generalize b / 4294967296 = r
  generalize b % 4294967296 = s
  have h1 : 4294967296 * p * (4294967296 * r) = p * r * 18446744073709551616 := by rw [Nat.mul_mul_mul_comm]; omega
  have h2 : 4294967296 * p * s = p * s * 4294967296 := by rw [Nat.mul_assoc]; omega
  have h3 : q * (4294967296 * r) = q * r * 4294967296 := by rw [Nat.mul_left_comm]; omega
  rw [Nat.add_mul, Nat.mul_add, Nat.mul_add, h1, h2, h3]
  omega
 rw [e]
 generalize a / 4294967296 * (b / 4294967296) = p
 generalize a / 4294967296 * (b % 4294967296) = q
 generalize a % 4294967296 * (b / 4294967296) = r
 generalize a % 4294967296 * (b % 4294967296) = s
 omega
theorem mul64_call (a b : Nat) (ha : a < 18446744073709551616) (hb : b < 18446744073709551616) : PCall CX 161 [.int .u64 a, .int .u64 b] (· = .ret (.tup [.int .u64 ((a * b / 18446744073709551616 : Nat) : Int), .int .u64 ((a * b % 18446744073709551616 : Nat) : Int)])) := by
 have ha0 := and32 a ha
 have hb0 := and32 b hb
 have hsa := shr32 a
 have hsb := shr32 b
 have q0 : a % 4294967296 < 4294967296 := Nat.mod_lt _ (by decide)
 have q1 : b % 4294967296 < 4294967296 := Nat.mod_lt _ (by decide)
 have q2 : a / 4294967296 < 4294967296 := by omega
 have q3 : b / 4294967296 < 4294967296 := by omega
 have m00 := low_mul q0 q1
 have m10 := low_mul q2 q1
 have m01 := low_mul q0 q3
 have m11 := low_mul q2 q3
 have w00 : IntKind.wrap .u64 (((a % 4294967296 : Nat) : Int) * ((b % 4294967296 : Nat) : Int)) = _ := mulU (by omega)
 have w10 : IntKind.wrap .u64 (((a / 4294967296 : Nat) : Int) * ((b % 4294967296 : Nat) : Int)) = _ := mulU (by omega)
 have w01 : IntKind.wrap .u64 (((a % 4294967296 : Nat) : Int) * ((b / 4294967296 : Nat) : Int)) = _ := mulU (by omega)
 have w11 : IntKind.wrap .u64 (((a / 4294967296 : Nat) : Int) * ((b / 4294967296 : Nat) : Int)) = _ := mulU (by omega)
 have s0 := shr32 (a % 4294967296 * (b % 4294967296))
 have t0 : IntKind.wrap .u64 (((a / 4294967296 * (b % 4294967296) : Nat) : Int) + ((a % 4294967296 * (b % 4294967296) / 4294967296 : Nat) : Int)) = _ := addU (by omega)
 have t1 := and32 (a / 4294967296 * (b % 4294967296) + a % 4294967296 * (b % 4294967296) / 4294967296) (by omega)
 have t2 := shr32 (a / 4294967296 * (b % 4294967296) + a % 4294967296 * (b % 4294967296) / 4294967296)
 have u0 : IntKind.wrap .u64 ((((a / 4294967296 * (b % 4294967296) + a % 4294967296 * (b % 4294967296) / 4294967296) % 4294967296 : Nat) : Int) + ((a % 4294967296 * (b / 4294967296) : Nat) : Int)) = _ := addU (by omega)
 have u1 := shr32 ((a / 4294967296 * (b % 4294967296) + a % 4294967296 * (b % 4294967296) / 4294967296) % 4294967296 + a % 4294967296 * (b / 4294967296))
 have v0 : IntKind.wrap .u64 (((a / 4294967296 * (b / 4294967296) : Nat) : Int) + (((a / 4294967296 * (b % 4294967296) + a % 4294967296 * (b % 4294967296) / 4294967296) / 4294967296 : Nat) : Int)) = _ := addU (by omega)
 have v1 : IntKind.wrap .u64 (((a / 4294967296 * (b / 4294967296) + (a / 4294967296 * (b % 4294967296) + a % 4294967296 * (b % 4294967296) / 4294967296) / 4294967296 : Nat) : Int) + ((((a / 4294967296 * (b % 4294967296) + a % 4294967296 * (b % 4294967296) / 4294967296) % 4294967296 + a % 4294967296 * (b / 4294967296)) / 4294967296 : Nat) : Int)) = _ := addU (by omega)
 have lo := mulLo a b
 have hi := hi_eq a b
 refine pcall_mk 0 51 [.tmp 4, .tmp 5] Tryz.func161 rfl (by decide) rfl rfl rfl ?_
 refine aw_sreg {} rfl rfl fun K KP hK hP => ?_
 simp only [go_sem, ↓reduceIte, ha0, hb0, hsa, hsb, w00, w10, w01, w11, s0, t0, t1, t2, u0, u1, v0, v1, lo, cast64]
 apply hK; clear hK hP
 refine aw_sreg {} rfl rfl fun K KP hK hP => ?_
 simp only [go_sem, ↓reduceIte, ha0, hb0, hsa, hsb, w00, w10, w01, w11, s0, t0, t1, t2, u0, u1, v0, v1, lo, cast64]
 apply hK; clear hK hP
 refine aw_sreg {} rfl rfl fun K KP hK hP => ?_
 simp only [go_sem, ↓reduceIte, ha0, hb0, hsa, hsb, w00, w10, w01, w11, s0, t0, t1, t2, u0, u1, v0, v1, lo, cast64]
 apply hK; clear hK hP
 refine aw_sreg {} rfl rfl fun K KP hK hP => ?_
 simp only [go_sem, ↓reduceIte, ha0, hb0, hsa, hsb, w00, w10, w01, w11, s0, t0, t1, t2, u0, u1, v0, v1, lo, cast64]
 apply hK; clear hK hP
 refine aw_sreg {} rfl rfl fun K KP hK hP => ?_
 simp only [go_sem, ↓reduceIte, ha0, hb0, hsa, hsb, w00, w10, w01, w11, s0, t0, t1, t2, u0, u1, v0, v1, lo, cast64]
 apply hK; clear hK hP
 refine aw_sreg {} rfl rfl fun K KP hK hP => ?_
 simp only [go_sem, ↓reduceIte, ha0, hb0, hsa, hsb, w00, w10, w01, w11, s0, t0, t1, t2, u0, u1, v0, v1, lo, cast64]
 apply hK; clear hK hP
 refine aw_sreg {} rfl rfl fun K KP hK hP => ?_
 simp only [go_sem, ↓reduceIte, ha0, hb0, hsa, hsb, w00, w10, w01, w11, s0, t0, t1, t2, u0, u1, v0, v1, lo, cast64]
 apply hK; clear hK hP
 refine aw_sreg {} rfl rfl fun K KP hK hP => ?_
 simp only [go_sem, ↓reduceIte, ha0, hb0, hsa, hsb, w00, w10, w01, w11, s0, t0, t1, t2, u0, u1, v0, v1, lo, cast64]
 apply hK; clear hK hP
 refine aw_sreg {} rfl rfl fun K KP hK hP => ?_
 simp only [go_sem, ↓reduceIte, ha0, hb0, hsa, hsb, w00, w10, w01, w11, s0, t0, t1, t2, u0, u1, v0, v1, lo, cast64]
 apply hK; clear hK hP
 refine aw_sreg {} rfl rfl fun K KP hK hP => ?_
 simp only [go_sem, ↓reduceIte, ha0, hb0, hsa, hsb, w00, w10, w01, w11, s0, t0, t1, t2, u0, u1, v0, v1, lo, cast64]
 apply hK; clear hK hP
 refine aw_sreg {} rfl rfl fun K KP hK hP => ?_
 simp only [go_sem, ↓reduceIte, ha0, hb0, hsa, hsb, w00, w10, w01, w11, s0, t0, t1, t2, u0, u1, v0, v1, lo, cast64]
 apply hK; clear hK hP
 refine aw_sreg {} rfl rfl fun K KP hK hP => ?_
 simp only [go_sem, ↓reduceIte, ha0, hb0, hsa, hsb, w00, w10, w01, w11, s0, t0, t1, t2, u0, u1, v0, v1, lo, cast64]
 apply hK; clear hK hP
 refine aw_ret ?_
 simp only [go_sem, ↓reduceIte, ha0, hb0, hsa, hsb, w00, w10, w01, w11, s0, t0, t1, t2, u0, u1, v0, v1, lo, cast64, athen_ret, hi]
def within (n : Int) : Bool := decide (-1152921504606846976 ≤ n) && decide (n ≤ 1152921504606846976)
def beyondA : AV := .iface 142 (.agg [])
def outI : Option Int → AOut
 | some n => .ret (.int .i64 n)
 | none => .pan beyondA
def wholeS (n : Int) : Option Int := if n < -1152921504606846976 ∨ 1152921504606846976 < n then none else some n
theorem whole_call (n : Int) : PCall CX 134 [.int .i64 n] (· = outI (wholeS n)) := by
 refine pcall_mk 0 12 [.tmp 2] Tryz.func134 rfl (by decide) rfl rfl rfl ?_
 refine aw_sreg {} rfl rfl fun K KP hK hP => ?_
 simp only [go_sem, ↓reduceIte]
 apply hK; clear hK hP
 refine aw_seq ?_
 by_cases c1_0 : n < -1152921504606846976
 ·
  refine aw_sreg {} rfl rfl fun K KP hK hP => ?_
  simp only [go_sem, ↓reduceIte, c1_0]
  apply hK; clear hK hP
  refine aw_if (True) (by simp only [go_sem, ↓reduceIte, c1_0]) (fun h1 => ?_) (fun h1 => ?_)
  ·
   refine aw_lreg {} rfl rfl fun K KP hK hP => ?_
   simp only [go_sem, ↓reduceIte, c1_0]
   refine ⟨_, _, rfl, hP _ _ _ fun env => ?_⟩
   simp [wholeS, outI, beyondA, go_sem, *]
  ·
   exact absurd trivial h1
 ·
  by_cases c1_1 : 1152921504606846976 < n
  ·
   refine aw_sreg {} rfl rfl fun K KP hK hP => ?_
   simp only [go_sem, ↓reduceIte, c1_0, c1_1]
   apply hK; clear hK hP
   refine aw_if (True) (by simp only [go_sem, ↓reduceIte, c1_0, c1_1]) (fun h1 => ?_) (fun h1 => ?_)
   ·
    refine aw_lreg {} rfl rfl fun K KP hK hP => ?_
    simp only [go_sem, ↓reduceIte, c1_0, c1_1]
    refine ⟨_, _, rfl, hP _ _ _ fun env => ?_⟩
    simp [wholeS, outI, beyondA, go_sem, *]
   ·
    exact absurd trivial h1
  ·
   refine aw_sreg {} rfl rfl fun K KP hK hP => ?_
   simp only [go_sem, ↓reduceIte, c1_0, c1_1]
   apply hK; clear hK hP
   refine aw_if (False) (by simp only [go_sem, ↓reduceIte, c1_0, c1_1]) (fun h1 => ?_) (fun h1 => ?_)
   ·
    exact h1.elim
   ·
    refine aw_skip ?_
    refine athen_normal.2 ?_
    refine aw_sreg {} rfl rfl fun K KP hK hP => ?_
    simp only [go_sem, ↓reduceIte, c1_0, c1_1]
    apply hK; clear hK hP
    refine aw_ret ?_
    simp only [go_sem, ↓reduceIte, c1_0, c1_1, athen_ret] <;> (
     simp [wholeS, outI, c1_0, c1_1])
def timesS (a b : Int) : Option Int := if 1152921504606846976 < a.natAbs * b.natAbs then none else some (a * b)
theorem abs_conv {a : Int} (h : -9223372036854775808 ≤ a) (h' : a ≤ 9223372036854775807) : IntKind.wrap .u64 (if IntKind.wrap .i64 (0 - a) > a then IntKind.wrap .i64 (0 - a) else a) = ((a.natAbs : Nat) : Int) := by
 by_cases hm : a = -9223372036854775808
 ·subst hm; decide
 ·rw [wrap64 (by omega) (by omega)]
  have : (if 0 - a > a then 0 - a else a) = ((a.natAbs : Nat) : Int) := by split <;> omega
  rw [this]
  exact wrapU (by omega)
theorem times_call (a b : Int) (ha : -9223372036854775808 ≤ a) (ha' : a ≤ 9223372036854775807) (hb : -9223372036854775808 ≤ b) (hb' : b ≤ 9223372036854775807) : PCall CX 135 [.int .i64 a, .int .i64 b] (· = outI (timesS a b)) := by
 have ea := abs_conv ha ha'
 have eb := abs_conv hb hb'
 refine pcall_mk 0 32 [.tmp 4] Tryz.func135 rfl (by decide) rfl rfl rfl ?_
 refine aw_sreg {} rfl rfl fun K KP hK hP => ?_
 simp only [go_sem, ↓reduceIte, ea, eb]
 apply hK; clear hK hP
 refine aw_sreg {} rfl rfl fun K KP hK hP => ?_
 simp only [go_sem, ↓reduceIte, ea, eb]
 refine CallP.ret (mul64_call _ _ (by omega) (by omega)) (by simp only [go_sem]) ?_
 try simp only [go_sem, ↓reduceIte, ea, eb]
 apply hK; clear hK hP
 refine aw_seq ?_
 by_cases c2_0 : 0 < ((a.natAbs * b.natAbs / 18446744073709551616 : Nat) : Int)
 ·
  refine aw_sreg {} rfl rfl fun K KP hK hP => ?_
  simp only [go_sem, ↓reduceIte, ea, eb, c2_0]
  apply hK; clear hK hP
  refine aw_if (True) (by simp only [go_sem, ↓reduceIte, ea, eb, c2_0]) (fun h2 => ?_) (fun h2 => ?_)
  ·
   refine aw_lreg {} rfl rfl fun K KP hK hP => ?_
   simp only [go_sem, ↓reduceIte, ea, eb, c2_0]
   refine ⟨_, _, rfl, hP _ _ _ fun env => ?_⟩
   have hbig : 1152921504606846976 < a.natAbs * b.natAbs := by generalize a.natAbs * b.natAbs = p at *; omega
   simp [timesS, outI, beyondA, go_sem, hbig]
  ·
   exact absurd trivial h2
 ·
  by_cases c2_1 : 1152921504606846976 < ((a.natAbs * b.natAbs % 18446744073709551616 : Nat) : Int)
  ·
   refine aw_sreg {} rfl rfl fun K KP hK hP => ?_
   simp only [go_sem, ↓reduceIte, ea, eb, c2_0, c2_1]
   apply hK; clear hK hP
   refine aw_if (True) (by simp only [go_sem, ↓reduceIte, ea, eb, c2_0, c2_1]) (fun h2 => ?_) (fun h2 => ?_)
   ·
    refine aw_lreg {} rfl rfl fun K KP hK hP => ?_
    simp only [go_sem, ↓reduceIte, ea, eb, c2_0, c2_1]
    refine ⟨_, _, rfl, hP _ _ _ fun env => ?_⟩
    have hbig : 1152921504606846976 < a.natAbs * b.natAbs := by generalize a.natAbs * b.natAbs = p at *; omega
    simp [timesS, outI, beyondA, go_sem, hbig]
   ·
    exact absurd trivial h2
  ·
   refine aw_sreg {} rfl rfl fun K KP hK hP => ?_
   simp only [go_sem, ↓reduceIte, ea, eb, c2_0, c2_1]
   apply hK; clear hK hP
   refine aw_if (False) (by simp only [go_sem, ↓reduceIte, ea, eb, c2_0, c2_1]) (fun h2 => ?_) (fun h2 => ?_)
   ·
    exact h2.elim
   ·
    have hbig : ¬ 1152921504606846976 < a.natAbs * b.natAbs := by generalize a.natAbs * b.natAbs = p at *; omega
    have hab : (a * b).natAbs ≤ 1152921504606846976 := by rw [Int.natAbs_mul]; omega
    have hw : IntKind.wrap .i64 (a * b) = a * b := wrap64 (by omega) (by omega)
    refine aw_skip ?_
    refine athen_normal.2 ?_
    refine aw_sreg {} rfl rfl fun K KP hK hP => ?_
    simp only [go_sem, ↓reduceIte, ea, eb, c2_0, c2_1, hw]
    apply hK; clear hK hP
    refine aw_ret ?_
    simp only [go_sem, ↓reduceIte, ea, eb, c2_0, c2_1, hw, athen_ret] <;> (
     simp [timesS, outI, hbig])
end Go.Ab
