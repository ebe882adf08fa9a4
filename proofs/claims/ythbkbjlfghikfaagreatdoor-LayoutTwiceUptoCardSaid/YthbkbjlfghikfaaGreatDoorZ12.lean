/-
  strings.Builder: copyCheck and String, walked over the heap; then over objects.
-/
import Derived.Test.YthbkbjlfghikfaaGreatDoorZ11
import Derived.Test.YthbkbjlfghikfaaGreatDoorCards
import Derived.Carry
import Derived.Test.YthbkbjlfghikfaaGreatDoorTie
import Derived.WalkKit
import Derived.ProofKit
import Derived.OpenShut
import Derived.Deep.DeepHandedRow
import Derived.Lib.LaidTab
import Derived.Lib.Bytealg
import Derived.Lib.Builder
import Derived.Lib.UnsafeStr
import Derived.Laws.Externs
import Derived.Shelf.RegionOpenPlain
set_option linter.unusedVariables false
set_option linter.unusedSimpArgs false
set_option maxRecDepth 100000
namespace Go.Ab
open Go Go.RowKit Go.Proofs
def knW (W : World) : Kn := fun b o => W.cell? ⟨b, o, none⟩
def ErrW (W : World) : Prop := (∀ g, errG = some g → ∃ t v, W.cell? ⟨g, 0, none⟩ = some (.iface t v)) ∧ TabW CX W
theorem knOK_W (W : World) (he : ErrW W) : KnOK CX (knW W) W := ⟨fun _ _ _ h => h, fun g => by
 show Rel _ _ (if errG = some g then .rptr [.erri false] else .any) _
 split
 ·rename_i h
  obtain ⟨t, v, hc⟩ := he.1 g h
  refine .rptr _ g 0 (fun _ => .iface t v) (fun j x a => ?_) (fun j x a => ?_) (fun j x a => rfl)
  all_goals
   cases j with
   | zero =>
    simp at a
    subst a
    first | exact hc | exact .erriSome t v
   | succ j => simp at a
 ·exact .any _, he.2⟩
def bigE : (e : E) → e.den → Nat
 | .str, (l : List UInt8) => l.length
 | .form, (f : Fm) => f.big
 | .pr a b, x => bigE a x.1 + bigE b x.2
 | .slice e, (l : List e.den) => (l.map fun x => max 1 (bigE e x)).sum
 | _, _ => 0
def wfE : (e : E) → e.den → Prop
 | .int .i64, (n : Int) => -9223372036854775808 ≤ n ∧ n ≤ 9223372036854775807
 | .pr a b, x => wfE a x.1 ∧ wfE b x.2
 | .slice e, (l : List e.den) => ∀ x ∈ l, wfE e x
 | _, _ => True
def isI64 (P : Program) (t : TypeId) : Bool := match P.underlying t with
 | some (.int .i64) => Nat.beq (P.cellsOf t) 1
 | _ => false
def isStr (P : Program) (t : TypeId) : Bool := match P.underlying t with
 | some .string => Nat.beq (P.cellsOf t) 1
 | _ => false
def isSl (P : Program) (t e : TypeId) : Bool := match P.underlying t with
 | some (.slice e') => Nat.beq e' e && Nat.beq (P.cellsOf t) 1
 | _ => false
def kFs (r : TypeId → E → Bool) (P : Program) : List Field → Nat → E → Bool
 | [], _, .un => true
 | [f], o, e => Nat.beq f.offset o && (Nat.beq (P.cellsOf f.type) e.size && r f.type e)
 | f :: fs, o, .pr a b => Nat.beq f.offset o && (Nat.beq (P.cellsOf f.type) a.size && (r f.type a && kFs r P fs (o + a.size) b))
 | _, _, _ => false
def isForm (P : Program) (t : TypeId) : Bool := match P.underlying t with
 | some (.struct fs) => match fs.toList with
  | [a, b, c, d] => (Nat.beq a.offset 0 && (Nat.beq b.offset 1 && (Nat.beq c.offset 2 && Nat.beq d.offset 3))) && ((isI64 P a.type && isI64 P b.type) && (isStr P c.type && (isSl P d.type t && Nat.beq (P.cellsOf t) 4)))
  | _ => false
 | _ => false
def kOK (P : Program) : Nat → TypeId → E → Bool
 | 0, _, _ => false
 | n + 1, t, e => match e with
  | .int .i64 => isI64 P t
  | .str => isStr P t
  | .bool => match P.underlying t with
   | some .bool => true
   | _ => false
  | .form => isForm P t
  | .slice e => match P.underlying t with
   | some (.slice t') => kOK P n t' e && (Nat.beq (P.cellsOf t') e.size && Nat.blt 0 e.size)
   | _ => false
  | e => match P.underlying t with
   | some (.struct fs) => Nat.beq (P.cellsOf t) e.size && kFs (kOK P n) P fs.toList 0 e
   | _ => false
structure Bulk {H : Type} (bulk : DataW H → Nat) (bulkAll : List (DataW H) → Nat) : Prop where
 hs : ∀ l, bulk (.lit (.string l)) = l.length + 1
 hsl : ∀ l r, bulkAll l ≤ bulk (.slice l r)
 hag : ∀ l, bulk (.agg l) = bulkAll l + 1
 hp : ∀ d, 1 ≤ bulk d
 h0 : bulkAll [] = 0
 h1 : ∀ d l, bulkAll (d :: l) = bulk d + bulkAll l
section
variable {H : Type} {enc : TypeId × Value → H} {W : World} {sp : Nat → Bool} {f : Nat} {cs : List Value} {d : DataW H} {ps : List MemPlace} {P : Program}
theorem mapM_get {α β : Type} {g : α → Option β} : ∀ {l : List α} {r : List β}, l.mapM g = some r → r.length = l.length ∧ ∀ (i : Nat) (x : α), l[i]? = some x → ∃ y, r[i]? = some y ∧ g x = some y
 | [], r, h => by
  simp at h
  subst h
  exact ⟨rfl, fun i x h => by simp at h⟩
 | a :: l, r, h => by
  simp only [List.mapM_cons, Option.bind_eq_bind, Option.bind_eq_some_iff] at h
  obtain ⟨b, h1, r', h2, h3⟩ := h
  cases h3
  obtain ⟨q1, q2⟩ := mapM_get h2
  refine ⟨by simp [q1], fun i x hx => ?_⟩
  cases i with
  | zero => simp at hx; subst hx; exact ⟨b, rfl, h1⟩
  | succ i => simpa using q2 i x (by simpa using hx)
theorem cells?_get {a : Addr} {n : Nat} {cs : List Value} (h : W.cells? 0 a n = some cs) : cs.length = n ∧ ∀ i, i < n → ∃ v, cs[i]? = some v ∧ W.cell? (a.add i) = some v := by
 unfold World.cells? at h
 rw [if_pos (Nat.zero_le _)] at h
 obtain ⟨h1, h2⟩ := mapM_get h
 refine ⟨by simpa using h1, fun i hi => ?_⟩
 obtain ⟨v, a1, a2⟩ := h2 i i (by simp [hi])
 exact ⟨v, a1, a2⟩
theorem addr_none {a : Addr} {v : Value} (h : W.cell? a = some v) : a = ⟨a.block, a.off, none⟩ := by
 obtain ⟨b, o, s⟩ := a
 cases s with
 | none => rfl
 | some k =>
  unfold World.cell? at h
  simp at h
  split at h <;> cases h
theorem bulk_mem {bulk : DataW H → Nat} {bulkAll : List (DataW H) → Nat} (h1 : ∀ d l, bulkAll (d :: l) = bulk d + bulkAll l) : ∀ (ds : List (DataW H)) (i : Nat) (d : DataW H), ds[i]? = some d → bulk d ≤ bulkAll ds
 | [], i, d, h => by simp at h
 | x :: ds, 0, d, h => by simp at h; subst h; rw [h1]; omega
 | x :: ds, i + 1, d, h => by have := bulk_mem h1 ds i d (by simpa using h); rw [h1]; omega
theorem bulk_length {bulk : DataW H → Nat} {bulkAll : List (DataW H) → Nat} (hp : ∀ d, 1 ≤ bulk d) (h1 : ∀ d l, bulkAll (d :: l) = bulk d + bulkAll l) : ∀ (ds : List (DataW H)), ds.length ≤ bulkAll ds
 | [] => Nat.zero_le _
 | x :: ds => by have a := bulk_length hp h1 ds; have b := hp x; rw [h1, List.length_cons]; omega
theorem sum_le {α : Type} {bulk : DataW H → Nat} {bulkAll : List (DataW H) → Nat} (h1 : ∀ d l, bulkAll (d :: l) = bulk d + bulkAll l) (hp : ∀ d, 1 ≤ bulk d) (g : α → Nat) : ∀ (l : List α) (ds : List (DataW H)), l.length = ds.length → (∀ (i : Nat) (x : α) (d : DataW H), l[i]? = some x → ds[i]? = some d → g x ≤ bulk d) → (l.map fun x => max 1 (g x)).sum ≤ bulkAll ds
 | [], ds, hl, h => by simp
 | x :: l, [], hl, h => by simp at hl
 | x :: l, d :: ds, hl, h => by
  simp only [List.map_cons, List.sum_cons, h1]
  have a1 := h 0 x d rfl rfl
  have a2 := sum_le h1 hp g l ds (by simpa using hl) (fun i x d a b => h (i + 1) x d (by simpa using a) (by simpa using b))
  have a3 := hp d
  omega
theorem list_of {α : Type} {Q : Nat → α → Prop} : ∀ (n : Nat), (∀ i, i < n → ∃ x, Q i x) → ∃ l : List α, l.length = n ∧ ∀ (i : Nat) (x : α), l[i]? = some x → Q i x
 | 0, _ => ⟨[], rfl, fun i x h => by simp at h⟩
 | n + 1, h => by
  obtain ⟨l, h1, h2⟩ := list_of n (fun i hi => h i (by omega))
  obtain ⟨x, hx⟩ := h n (by omega)
  refine ⟨l ++ [x], by simp [h1], fun i y hy => ?_⟩
  rcases Nat.lt_or_ge i n with hi | hi
  ·rw [List.getElem?_append_left (by omega)] at hy; exact h2 i y hy
  ·rw [List.getElem?_append_right (by omega)] at hy
   have : i = n := by
    have := (List.getElem?_eq_some_iff.1 hy).1
    simp at this; omega
   subst this
   simp [h1] at hy
   subst hy
   exact hx
theorem rel_vec {sz : Nat} (hsz : 0 < sz) {rows : List (List AV)} {a : Addr} {len cap : Nat} (hl : rows.length = len) (hle : len ≤ cap) (h62 : len ≤ 4611686018427387904) (hr : ∀ (i : Nat) (row : List AV), rows[i]? = some row → row.length = sz ∧ ∃ rowv, W.cells? 0 (a.add (i * sz)) sz = some rowv ∧ RelC (knW W) m0 row rowv) :
  Rel (knW W) m0 (.vec sz rows) (.slice (some a) len cap) := by
 cases rows with
 | nil => simp at hl; subst hl; exact .vecNil _ _ _
 | cons r0 rows =>
  obtain ⟨_, rowv0, b0, c0⟩ := hr 0 r0 rfl
  obtain ⟨_, hc0⟩ := cells?_get b0
  obtain ⟨v0, _, hv0⟩ := hc0 0 hsz
  simp [Addr.add] at hv0
  have ha := addr_none hv0
  generalize a.block = b at ha
  generalize a.off = o at ha
  subst ha
  have hcell : ∀ (i : Nat) (row : List AV) (j : Nat) (x : AV), (r0 :: rows)[i]? = some row → row[j]? = some x → ∃ v, W.cell? ⟨b, o + i * sz + j, none⟩ = some v ∧ Rel (knW W) m0 x v ∧ v.oneCell' = true := by
   intro i row j x hrow hx
   obtain ⟨hrl0, rowv, bi, ci⟩ := hr i row hrow
   obtain ⟨hrl, hci⟩ := cells?_get bi
   have hj : j < sz := by have := (List.getElem?_eq_some_iff.1 hx).1; omega
   obtain ⟨v, hv1, hv2⟩ := hci j hj
   rw [add_mk, add_mk] at hv2
   exact ⟨v, hv2, ci.1.2 j x v hx hv1, ci.2 v (List.mem_of_getElem? hv1)⟩
  have := Rel.vec (kn := knW W) (m := m0) sz (r0 :: rows) b o cap (fun i j => (W.cell? ⟨b, o + i * sz + j, none⟩).getD undef) (by omega) (by rw [hl]; omega)
   (fun i row hrow => (hr i row hrow).1)
   (fun i row j x hrow hx => by
    obtain ⟨v, h1, _⟩ := hcell i row j x hrow hx
    show W.cell? _ = _
    rw [h1]; rfl)
   (fun i row j x hrow hx => by
    obtain ⟨v, h1, h2, _⟩ := hcell i row j x hrow hx
    simp only [h1, Option.getD_some]; exact h2)
   (fun i row j x hrow hx => by
    obtain ⟨v, h1, _, h3⟩ := hcell i row j x hrow hx
    simp only [h1, Option.getD_some]; exact h3)
  rw [hl] at this
  exact this
theorem trod_i64 {t : TypeId} (hk : isI64 P t = true) (h : DataW.trod enc P W 0 sp true f t cs = some (d, ps)) : ∃ n, cs = [.int .i64 n] ∧ d = .lit (.int .i64 n) ∧ -9223372036854775808 ≤ n ∧ n ≤ 9223372036854775807 := by
 cases f with
 | zero => unfold DataW.trod at h; cases h
 | succ f =>
  unfold isI64 at hk
  split at hk
  ·rename_i hu
   unfold DataW.trod at h
   rw [hu] at h
   split at h <;> try (simp_all; done)
   rename_i k k' n hcs
   cases hcs
   split at h
   ·rename_i hw
    obtain ⟨rfl, hw⟩ := hw
    cases h
    simp only [Lit.wf, Bool.and_eq_true, decide_eq_true_eq] at hw
    exact ⟨n, rfl, rfl, hw.1, hw.2⟩
   ·cases h
  ·cases hk
theorem trod_str {t : TypeId} (hk : isStr P t = true) (h : DataW.trod enc P W 0 sp true f t cs = some (d, ps)) : ∃ s, cs = [.string s] ∧ d = .lit (.string s.data.toList) := by
 cases f with
 | zero => unfold DataW.trod at h; cases h
 | succ f =>
  unfold isStr at hk
  split at hk
  ·rename_i hu
   unfold DataW.trod at h
   rw [hu] at h
   split at h <;> simp_all
  ·cases hk
theorem trod_slice {t e : TypeId} (hu : P.underlying t = some (.slice e)) (h : DataW.trod enc P W 0 sp true (f + 1) t cs = some (d, ps)) : (cs = [.slice none 0 0] ∧ d = .nil) ∨
  ∃ a len cap elems rest, cs = [.slice (some a) len cap] ∧ len ≤ cap ∧ cap ≤ maxLen ∧ d = .slice (elems.map (·.1)) rest ∧
   (List.range len).mapM (fun i => (W.cells? 0 (a.add (i * P.cellsOf e)) (P.cellsOf e)).bind (DataW.trod enc P W 0 sp true f e)) = some elems := by
 unfold DataW.trod at h
 rw [hu] at h
 split at h <;> try (simp_all; done)
 rename_i e' a len cap he
 cases he
 refine .inr ?_
 dsimp only at h
 split at h
 ·rename_i hc
  cases he : (List.range len).mapM (fun i => (W.cells? 0 (a.add (i * P.cellsOf e)) (P.cellsOf e)).bind (DataW.trod enc P W 0 sp true f e)) with
  | none => rw [he] at h; cases h
  | some elems =>
   rw [he] at h
   simp only [Option.bind_some] at h
   rw [Option.map_eq_some_iff] at h
   obtain ⟨rest, _, h2⟩ := h
   simp only [Prod.mk.injEq] at h2
   exact ⟨a, len, cap, elems, _, rfl, hc.2.1, hc.2.2, h2.1.symm, he⟩
 ·cases h
variable {bulk : DataW H → Nat} {bulkAll : List (DataW H) → Nat}
theorem read_slice (B : Bulk bulk bulkAll) {α : Type} {t e : TypeId} {sz : Nat} (hsz : 0 < sz) (hce : P.cellsOf e = sz) (row : α → List AV) (hrow : ∀ x, (row x).length = sz) (big : α → Nat) (wf : α → Prop) (hu : P.underlying t = some (.slice e))
  (ih : ∀ cs d ps, DataW.trod enc P W 0 sp true f e cs = some (d, ps) → bulk d ≤ 4611686018427387904 → ∃ x : α, RelC (knW W) m0 (row x) cs ∧ big x ≤ bulk d ∧ wf x)
  (h : DataW.trod enc P W 0 sp true (f + 1) t cs = some (d, ps)) (hb : bulk d ≤ 4611686018427387904) : ∃ l : List α, RelC (knW W) m0 [.vec sz (l.map row)] cs ∧ (l.map fun x => max 1 (big x)).sum ≤ bulk d ∧ ∀ x ∈ l, wf x := by
 rcases trod_slice hu h with ⟨rfl, rfl⟩ | ⟨a, len, cap, elems, rest, rfl, hle, hmx, rfl, hm⟩
 ·refine ⟨[], ⟨.cons (.vecNone _) (.nil _ _), fun v hv => ?_⟩, by simp, fun x hx => by cases hx⟩
  simp at hv; subst hv; rfl
 ·obtain ⟨m1, m2⟩ := mapM_get hm
  simp only [List.length_range] at m1
  have hbs := B.hsl (elems.map (·.1)) rest
  have hbl := bulk_length B.hp B.h1 (elems.map (·.1))
  rw [List.length_map, m1] at hbl
  have each : ∀ i, i < len → ∃ x : α, ∃ rowv : List Value, ∃ y, elems[i]? = some y ∧ W.cells? 0 (a.add (i * sz)) sz = some rowv ∧ RelC (knW W) m0 (row x) rowv ∧ big x ≤ bulk y.1 ∧ wf x := by
   intro i hi
   obtain ⟨y, a1, a2⟩ := m2 i i (by simp [hi])
   simp only [hce, Option.bind_eq_some_iff] at a2
   obtain ⟨rowv, b1, b2⟩ := a2
   have hby := bulk_mem B.h1 (elems.map (·.1)) i y.1 (by rw [List.getElem?_map, a1]; rfl)
   obtain ⟨x, c1, c2, c3⟩ := ih rowv y.1 y.2 b2 (by omega)
   exact ⟨x, rowv, y, a1, b1, c1, c2, c3⟩
  obtain ⟨l, l1, l2⟩ := list_of len each
  refine ⟨l, ⟨.cons ?_ (.nil _ _), fun v hv => by simp at hv; subst hv; rfl⟩, ?_, fun x hx => ?_⟩
  ·refine rel_vec hsz (by simpa using l1) hle (by omega) fun i r hr => ?_
   rw [List.getElem?_map, Option.map_eq_some_iff] at hr
   obtain ⟨x, hx, rfl⟩ := hr
   obtain ⟨rowv, y, _, b1, c1, _⟩ := l2 i x hx
   exact ⟨hrow x, rowv, b1, c1⟩
  ·have := sum_le B.h1 B.hp big l (elems.map (·.1)) (by simp [l1, m1]) (fun i x d hx hd => by
    obtain ⟨rowv, y, a1, _, _, c2, _⟩ := l2 i x hx
    rw [List.getElem?_map, a1] at hd
    simp at hd
    subst hd
    exact c2)
   omega
  ·obtain ⟨i, hi⟩ := List.getElem?_of_mem hx
   obtain ⟨_, _, _, _, _, _, c3⟩ := l2 i x hi
   exact c3
theorem bigL_sum (l : List Fm) : (l.map fun x => max 1 x.big).sum = Fm.bigL l := by
 induction l with
 | nil => rfl
 | cons f r ih => simp only [List.map_cons, List.sum_cons, Fm.bigL, ih]; have := big_pos f; omega
theorem form_read (B : Bulk bulk bulkAll) {t : TypeId} (hk : isForm P t = true) : ∀ (f : Nat) (cs : List Value) (d : DataW H) (ps : List MemPlace), DataW.trod enc P W 0 sp true f t cs = some (d, ps) → bulk d ≤ 4611686018427387904 →
  ∃ x : Fm, RelC (knW W) m0 x.row cs ∧ x.big ≤ bulk d := by
 intro f
 induction f using Nat.strongRecOn with
 | _ f ih =>
 intro cs d ps h hbd
 cases f with
 | zero => unfold DataW.trod at h; cases h
 | succ f =>
 have hk' := hk
 unfold isForm at hk
 split at hk
 ·rename_i fs hu
  split at hk
  ·rename_i f0 f1 f2 f3 hfs
   simp only [Bool.and_eq_true] at hk
   obtain ⟨⟨o0, o1, o2, o3⟩, ⟨k0, k1⟩, k2, k3, hc⟩ := hk
   have o0 := Nat.eq_of_beq_eq_true o0
   have o1 := Nat.eq_of_beq_eq_true o1
   have o2 := Nat.eq_of_beq_eq_true o2
   have o3 := Nat.eq_of_beq_eq_true o3
   have hc := Nat.eq_of_beq_eq_true hc
   have c1 : ∀ {u : TypeId}, isI64 P u = true → P.cellsOf u = 1 := fun {u} h => by
    unfold isI64 at h
    split at h
    ·exact Nat.eq_of_beq_eq_true h
    ·cases h
   have c2 : ∀ {u : TypeId}, isStr P u = true → P.cellsOf u = 1 := fun {u} h => by
    unfold isStr at h
    split at h
    ·exact Nat.eq_of_beq_eq_true h
    ·cases h
   obtain ⟨hu3, c3⟩ : P.underlying f3.type = some (.slice t) ∧ P.cellsOf f3.type = 1 := by
    unfold isSl at k3
    split at k3
    ·rename_i e' he
     rw [Bool.and_eq_true] at k3
     rw [Nat.eq_of_beq_eq_true k3.1] at he
     exact ⟨he, Nat.eq_of_beq_eq_true k3.2⟩
    ·cases k3
   unfold DataW.trod at h
   rw [hu] at h
   simp only [hc, hfs] at h
   split at h
   ·rename_i hlen
    rw [Option.map_eq_some_iff] at h
    obtain ⟨r, hr, hd⟩ := h
    obtain ⟨q1, q2⟩ := mapM_get hr
    rcases cs with _ | ⟨c0, _ | ⟨cc1, _ | ⟨cc2, _ | ⟨cc3, _ | ⟨c4, cs⟩⟩⟩⟩⟩ <;> simp at hlen
    rcases r with _ | ⟨y0, _ | ⟨y1, _ | ⟨y2, _ | ⟨y3, _ | ⟨y4, r⟩⟩⟩⟩⟩ <;> simp at q1
    obtain ⟨z0, e0, g0⟩ := q2 0 f0 rfl
    obtain ⟨z1, e1, g1⟩ := q2 1 f1 rfl
    obtain ⟨z2, e2, g2⟩ := q2 2 f2 rfl
    obtain ⟨z3, e3, g3⟩ := q2 3 f3 rfl
    simp at e0 e1 e2 e3
    subst e0; subst e1; subst e2; subst e3
    rw [o0, c1 k0] at g0
    rw [o1, c1 k1] at g1
    rw [o2, c2 k2] at g2
    rw [o3, c3] at g3
    simp at g0 g1 g2 g3
    obtain ⟨d0, p0⟩ := y0
    obtain ⟨d1, p1⟩ := y1
    obtain ⟨d2, p2⟩ := y2
    obtain ⟨d3, p3⟩ := y3
    obtain ⟨k, hk0, rfl, -, -⟩ := trod_i64 k0 g0
    obtain ⟨n, hn', rfl, -, -⟩ := trod_i64 k1 g1
    obtain ⟨s, hs, rfl⟩ := trod_str k2 g2
    simp only [List.cons.injEq, and_true] at hk0 hn' hs
    subst hk0; subst hn'; subst hs
    simp only [Prod.mk.injEq] at hd
    obtain ⟨rfl, -⟩ := hd
    simp only [List.map_cons, List.map_nil, B.hag, B.h1, B.h0, B.hs] at hbd ⊢
    cases f with
    | zero => unfold DataW.trod at g3; cases g3
    | succ f =>
    obtain ⟨l, hl, hlb, -⟩ := read_slice B (sz := 4) (by omega) hc Fm.row Fm.row_len Fm.big (fun _ => True) hu3 (fun cs d ps hh hb => by
     obtain ⟨x, h1, h2⟩ := ih f (by omega) cs d ps hh hb
     exact ⟨x, h1, h2, trivial⟩) g3 (by omega)
    rw [bigL_sum] at hlb
    have hstr : Rel (knW W) m0 (.str s.data.toList) (.string s) := by
     have := Rel.str (kn := knW W) (m := m0) s.data.toList
     simpa using this
    refine ⟨.mk k n s.data.toList l, ⟨?_, ?_⟩, by simp only [Fm.big]; omega⟩
    ·simp only [Fm.row, Fm.rows_map]
     exact .cons (.int _ _) (.cons (.int _ _) (.cons hstr hl.1))
    ·intro v hv
     simp at hv
     rcases hv with rfl | rfl | rfl | rfl
     ·rfl
     ·rfl
     ·rfl
     ·exact hl.2 _ (by simp)
   ·cases h
  ·cases hk
 ·cases hk
theorem read_fields (B : Bulk bulk bulkAll) {r : TypeId → E → Bool} (ih : ∀ (t : TypeId) (e : E) cs d ps, r t e = true → DataW.trod enc P W 0 sp true f t cs = some (d, ps) → bulk d ≤ 4611686018427387904 → ∃ x : e.den, RelC (knW W) m0 (e.row x) cs ∧ bigE e x ≤ bulk d ∧ wfE e x) :
  ∀ (fs : List Field) (o : Nat) (e : E) (cs : List Value) (ys : List (DataW H × List MemPlace)), kFs r P fs o e = true → cs.length = o + e.size → fs.mapM (fun g => DataW.trod enc P W 0 sp true f g.type ((cs.drop g.offset).take (P.cellsOf g.type))) = some ys → bulkAll (ys.map (·.1)) ≤ 4611686018427387904 →
   ∃ x : e.den, RelC (knW W) m0 (e.row x) (cs.drop o) ∧ bigE e x ≤ bulkAll (ys.map (·.1)) ∧ wfE e x := by
 intro fs
 induction fs with
 | nil =>
  intro o e cs ys hk hl hm hb
  cases e <;> simp only [kFs] at hk <;> try (cases hk; done)
  refine ⟨(), ?_, by simp [bigE], trivial⟩
  have : cs.drop o = [] := List.drop_eq_nil_iff.2 (by simp only [E.size] at hl; omega)
  rw [this]
  exact ⟨.nil _ _, fun v hv => by cases hv⟩
 | cons g fs ihf =>
  intro o e cs ys hk hl hm hb
  obtain ⟨m1, m2⟩ := mapM_get hm
  obtain ⟨y0, e0, g0⟩ := m2 0 g rfl
  rcases ys with _ | ⟨y, ys⟩
  ·simp at e0
  simp only [List.getElem?_cons_zero, Option.some.injEq] at e0
  subst e0
  simp only [List.map_cons, B.h1] at hb ⊢
  have one : ∀ (a : E), g.offset = o → P.cellsOf g.type = a.size → r g.type a = true → ∃ x : a.den, RelC (knW W) m0 (a.row x) ((cs.drop o).take a.size) ∧ bigE a x ≤ bulk y.1 ∧ wfE a x := fun a h1 h2 h3 => by
   rw [h1, h2] at g0
   exact ih _ a _ y.1 y.2 h3 g0 (by omega)
  have many : ∀ a b, e = .pr a b → g.offset = o → P.cellsOf g.type = a.size → r g.type a = true → kFs r P fs (o + a.size) b = true → ∃ x : e.den, RelC (knW W) m0 (e.row x) (cs.drop o) ∧ bigE e x ≤ bulk y.1 + bulkAll (ys.map (·.1)) ∧ wfE e x := by
   rintro a b rfl h1 h2 h3 h4
   obtain ⟨x, hx, hxb, hxw⟩ := one a h1 h2 h3
   have hm' : fs.mapM (fun g => DataW.trod enc P W 0 sp true f g.type ((cs.drop g.offset).take (P.cellsOf g.type))) = some ys := by
    simp only [List.mapM_cons, Option.bind_eq_bind, Option.bind_eq_some_iff] at hm
    obtain ⟨_, _, _, q, q'⟩ := hm
    cases q'
    exact q
   obtain ⟨z, hz, hzb, hzw⟩ := ihf (o + a.size) b cs ys h4 (by simp only [E.size] at hl; omega) hm' (by omega)
   refine ⟨(x, z), ?_, by simp only [bigE]; omega, ⟨hxw, hzw⟩⟩
   have : cs.drop o = (cs.drop o).take a.size ++ cs.drop (o + a.size) := by rw [← List.drop_drop]; exact (List.take_append_drop _ _).symm
   rw [this]
   exact hx.append hz
  cases fs with
  | nil =>
   have hk1 : (Nat.beq g.offset o && (Nat.beq (P.cellsOf g.type) e.size && r g.type e)) = true := by cases e <;> exact hk
   simp only [Bool.and_eq_true] at hk1
   obtain ⟨h1, h2, h3⟩ := hk1
   obtain ⟨x, hx, hxb, hxw⟩ := one e (Nat.eq_of_beq_eq_true h1) (Nat.eq_of_beq_eq_true h2) h3
   refine ⟨x, ?_, by omega, hxw⟩
   rwa [List.take_of_length_le (by rw [List.length_drop]; omega)] at hx
  | cons g' fs' =>
   cases e <;> simp only [kFs] at hk <;> try (cases hk; done)
   rename_i a b
   simp only [Bool.and_eq_true] at hk
   obtain ⟨h1, h2, h3, h4⟩ := hk
   exact many a b rfl (Nat.eq_of_beq_eq_true h1) (Nat.eq_of_beq_eq_true h2) h3 h4
theorem read_e (B : Bulk bulk bulkAll) : ∀ (n : Nat) (f : Nat) (t : TypeId) (e : E) (cs : List Value) (d : DataW H) (ps : List MemPlace), kOK P n t e = true → DataW.trod enc P W 0 sp true f t cs = some (d, ps) → bulk d ≤ 4611686018427387904 →
  ∃ x : e.den, RelC (knW W) m0 (e.row x) cs ∧ bigE e x ≤ bulk d ∧ wfE e x
 | 0, f, t, e, cs, d, ps, hk, h, hb => by cases hk
 | n + 1, f, t, e, cs, d, ps, hk, h, hb => by
  have struct : (match P.underlying t with
   | some (.struct fs) => Nat.beq (P.cellsOf t) e.size && kFs (kOK P n) P fs.toList 0 e
   | _ => false) = true → ∃ x : e.den, RelC (knW W) m0 (e.row x) cs ∧ bigE e x ≤ bulk d ∧ wfE e x := fun hk => by
   split at hk
   ·rename_i fs hu
    rw [Bool.and_eq_true] at hk
    have hc := Nat.eq_of_beq_eq_true hk.1
    cases f with
    | zero => unfold DataW.trod at h; cases h
    | succ f =>
     unfold DataW.trod at h
     rw [hu] at h
     simp only [hc] at h
     split at h
     ·rename_i hlen
      rw [Option.map_eq_some_iff] at h
      obtain ⟨r, hr, hd⟩ := h
      simp only [Prod.mk.injEq] at hd
      obtain ⟨rfl, -⟩ := hd
      rw [B.hag] at hb ⊢
      obtain ⟨x, h1, h2, h3⟩ := read_fields B (f := f) (fun t e cs d ps hk hh hb => read_e B n f t e cs d ps hk hh hb) fs.toList 0 e cs r hk.2 (by omega) hr (by omega)
      exact ⟨x, by simpa using h1, by omega, h3⟩
     ·cases h
   ·cases hk
  cases e with
  | int k =>
   cases k <;> try exact struct hk
   obtain ⟨m, rfl, rfl, h1, h2⟩ := trod_i64 hk h
   exact ⟨m, ⟨.cons (.int _ _) (.nil _ _), fun v hv => by simp at hv; subst hv; rfl⟩, by simp [bigE], h1, h2⟩
  | str =>
   obtain ⟨s, rfl, rfl⟩ := trod_str hk h
   refine ⟨s.data.toList, ⟨.cons ?_ (.nil _ _), fun v hv => by simp at hv; subst hv; rfl⟩, by simp only [bigE, B.hs]; omega, trivial⟩
   have := Rel.str (kn := knW W) (m := m0) s.data.toList
   simpa using this
  | bool =>
   have hk : (match P.underlying t with
    | some .bool => true
    | _ => false) = true := hk
   split at hk
   ·rename_i hu
    cases f with
    | zero => unfold DataW.trod at h; cases h
    | succ f =>
     unfold DataW.trod at h
     rw [hu] at h
     split at h <;> try (simp_all; done)
     rename_i b _
     exact ⟨b, ⟨.cons (.bool _) (.nil _ _), fun v hv => by simp at hv; subst hv; rfl⟩, by simp [bigE], trivial⟩
   ·cases hk
  | form =>
   obtain ⟨x, h1, h2⟩ := form_read B hk f cs d ps h hb
   exact ⟨x, h1, h2, trivial⟩
  | slice e =>
   have hk : (match P.underlying t with
    | some (.slice t') => kOK P n t' e && (Nat.beq (P.cellsOf t') e.size && Nat.blt 0 e.size)
    | _ => false) = true := hk
   split at hk
   ·rename_i t' hu
    simp only [Bool.and_eq_true] at hk
    cases f with
    | zero => unfold DataW.trod at h; cases h
    | succ f =>
     obtain ⟨l, h1, h2, h3⟩ := read_slice B (sz := e.size) (by have := hk.2.2; unfold Nat.blt at this; exact Nat.le_of_ble_eq_true this) (Nat.eq_of_beq_eq_true hk.2.1) e.row e.row_len (bigE e) (wfE e) hu (fun cs d ps hh hb => read_e B n f t' e cs d ps hk.1 hh hb) h hb
     exact ⟨l, h1, h2, h3⟩
   ·cases hk
  | erri => exact struct hk
  | un => exact struct hk
  | pr a b => exact struct hk
theorem row_cells {kn : Kn} {m : Mp} : ∀ (e : E) (x : e.den) (vs : List Value), RelC kn m (e.row x) vs → RelC kn m (e.cells x) vs
 | .int _, _, _, h => h
 | .bool, _, _, h => h
 | .str, _, _, h => h
 | .erri, _, _, h => h
 | .form, .mk k n t l, vs, h => by
  refine ⟨?_, h.2⟩
  have h := h.1
  simp only [E.row, Fm.row, Fm.rows_map] at h
  obtain ⟨v0, u0, rfl, h0, h⟩ := h.uncons
  obtain ⟨v1, u1, rfl, h1, h⟩ := h.uncons
  obtain ⟨v2, u2, rfl, h2, h⟩ := h.uncons
  obtain ⟨v3, u3, rfl, h3, h⟩ := h.uncons
  exact .cons h0 (.cons h1 (.cons h2 (.cons (rel_tvec.2 h3) h)))
 | .un, _, _, h => h
 | .pr a b, (x, y), vs, h => by
  obtain ⟨us, ws, rfl, h1, h2⟩ := RelL.append_iff.1 h.1
  exact (row_cells a x us ⟨h1, fun v hv => h.2 v (by simp [hv])⟩).append (row_cells b y ws ⟨h2, fun v hv => h.2 v (by simp [hv])⟩)
 | .slice e, l, vs, h => by
  refine ⟨?_, h.2⟩
  have h := h.1
  simp only [E.row] at h
  obtain ⟨v0, u0, rfl, h0, h⟩ := h.uncons
  exact .cons (rel_tvec.2 h0) h
theorem rel_aggW {row : List AV} {cs : Array Value} (h : RelC (knW W) m0 row (Value.agg cs).cells.toList) : Rel (knW W) m0 (.agg row) (.agg cs) := by
 have hcs : (Value.agg cs).cells.toList = cs.toList := rfl
 rw [hcs] at h
 exact .agg _ _ (by simpa using h.1.1) (fun i y v q r => h.1.2 i y v q (by simpa using r)) (fun i v r => h.2 v (by simpa using Array.mem_of_getElem? r))
end
end Go.Ab

set_option maxRecDepth 100000
namespace Go.Ab
open Go Go.ChangeShapes Go.WideShapes Go.ChangeAt Go.RowKit Go.Proofs Go.Proofs.YthbkbjlfghikfaaGreatDoor
def argOK (P : Program) (n : Nat) (t : TypeId) (e : E) : Bool := kOK P n t e && match e with
 | .int .i64 => true
 | .bool => true
 | .str => true
 | .form => true
 | .slice _ => true
 | .pr _ _ => true
 | _ => false
def parOK (P : Program) (n : Nat) : List TypeId → List E → Bool
 | [], [] => true
 | t :: ts, e :: es => argOK P n t e && parOK P n ts es
 | _, _ => false
abbrev shA (es : List E) : List Sh := es.map .d
def bigA : (es : List E) → Sh.denL (shA es) → Nat
 | [], _ => 0
 | e :: es, x => bigE e x.1 + bigA es x.2
def wfA : (es : List E) → Sh.denL (shA es) → Prop
 | [], _ => True
 | e :: es, x => wfE e x.1 ∧ wfA es x.2
section
variable {H : Type} {enc : TypeId × Value → H} {W : World} {P : Program}
theorem one_cell {t : TypeId} {v c : Value} {base : Nat} (hs : ∀ fs, P.underlying t ≠ some (.struct fs)) (ha : ∀ k a, P.underlying t ≠ some (.array k a)) (hok : Value.okWide P W .any base t v) (h : v.cells.toList = [c]) : v = c := by
 cases v <;> simp [Value.cells] at h <;> try exact h
 rename_i cs
 exfalso
 unfold Value.okWide at hok
 split at hok
 ·rename_i fs e; exact hs fs e
 ·rename_i k a e; exact ha _ _ e
 ·unfold Cell.okWide at hok
  split at hok <;> first | (simp_all; done) | skip
  unfold Cell.ok at hok
  split at hok <;> simp_all
theorem struct_agg {t : TypeId} {v : Value} {base : Nat} {fs : Array Field} (hu : P.underlying t = some (.struct fs)) (hok : Value.okWide P W .any base t v) : ∃ cs, v = .agg cs := by
 unfold Value.okWide at hok
 rw [hu] at hok
 obtain ⟨cs, h, _⟩ := hok
 exact ⟨cs, h⟩
theorem row_av {n : Nat} {t : TypeId} {e : E} {x : e.den} {v : Value} {base : Nat} (hk : argOK P n t e = true) (hok : Value.okWide P W .any base t v) (h : RelC (knW W) m0 (e.row x) v.cells.toList) : Rel (knW W) m0 (e.av x) v := by
 unfold argOK at hk
 rw [Bool.and_eq_true] at hk
 obtain ⟨hk, hk2⟩ := hk
 cases n with
 | zero => cases hk
 | succ n =>
 have one : ∀ {a : AV}, (∀ fs, P.underlying t ≠ some (.struct fs)) → (∀ k a, P.underlying t ≠ some (.array k a)) → RelC (knW W) m0 [a] v.cells.toList → Rel (knW W) m0 a v := by
  intro a hs ha h
  obtain ⟨c, u, hc, h1, h2⟩ := h.1.uncons
  have : u = [] := by have q := h2.1; exact List.length_eq_zero_iff.1 q.symm
  subst this
  rw [one_cell hs ha hok hc]
  exact h1
 cases e with
 | int k =>
  cases k <;> try (cases hk2; done)
  have hk : isI64 P t = true := hk
  unfold isI64 at hk
  split at hk
  ·rename_i hu; exact one (fun fs e => by rw [hu] at e; cases e) (fun _ _ e => by rw [hu] at e; cases e) h
  ·cases hk
 | bool =>
  have hk : (match P.underlying t with
   | some .bool => true
   | _ => false) = true := hk
  split at hk
  ·rename_i hu; exact one (fun fs e => by rw [hu] at e; cases e) (fun _ _ e => by rw [hu] at e; cases e) h
  ·cases hk
 | str =>
  have hk : isStr P t = true := hk
  unfold isStr at hk
  split at hk
  ·rename_i hu; exact one (fun fs e => by rw [hu] at e; cases e) (fun _ _ e => by rw [hu] at e; cases e) h
  ·cases hk
 | slice e =>
  have hk : (match P.underlying t with
   | some (.slice t') => kOK P n t' e && (Nat.beq (P.cellsOf t') e.size && Nat.blt 0 e.size)
   | _ => false) = true := hk
  split at hk
  ·rename_i hu
   exact one (fun fs e => by rw [hu] at e; cases e) (fun _ _ e => by rw [hu] at e; cases e) (row_cells (.slice e) x _ h)
  ·cases hk
 | form =>
  have hk : isForm P t = true := hk
  unfold isForm at hk
  split at hk
  ·rename_i fs hu
   obtain ⟨cs, rfl⟩ := struct_agg hu hok
   exact rel_aggW (row_cells .form x _ h)
  ·cases hk
 | pr a b =>
  have hk : (match P.underlying t with
   | some (.struct fs) => Nat.beq (P.cellsOf t) (E.pr a b).size && kFs (kOK P n) P fs.toList 0 (.pr a b)
   | _ => false) = true := hk
  split at hk
  ·rename_i fs hu
   obtain ⟨cs, rfl⟩ := struct_agg hu hok
   exact rel_aggW (row_cells (.pr a b) x _ h)
  ·cases hk
 | erri => cases hk2
 | un => cases hk2
variable {bulk : DataW H → Nat} {bulkAll : List (DataW H) → Nat}
theorem args_read (B : Bulk bulk bulkAll) (n : Nat) : ∀ (ts : List TypeId) (es : List E) (vs : List Value) (ds : List (DataW H)) (ps : List MemPlace) (base : Nat), parOK P n ts es = true → DataW.TrodAll enc P W 0 (fun _ => true) true ts vs ds ps → (∀ (j : Nat) t v, ts[j]? = some t → vs[j]? = some v → Value.okWide P W .any base t v) → bulkAll ds ≤ 4611686018427387904 →
  ∃ x : Sh.denL (shA es), RelL (knW W) m0 (patL ρ0 (shA es) x) vs ∧ bigA es x ≤ bulkAll ds ∧ wfA es x
 | [], [], vs, ds, ps, base, _, h, _, _ => by
  obtain ⟨rfl, rfl, rfl⟩ := trodAll_nil h
  exact ⟨(), .nil _ _, by simp [bigA], trivial⟩
 | [], e :: es, vs, ds, ps, base, hk, _, _, _ => by cases hk
 | t :: ts, [], vs, ds, ps, base, hk, _, _, _ => by cases hk
 | t :: ts, e :: es, vs, ds, ps, base, hk, h, hok, hb => by
  simp only [parOK, Bool.and_eq_true] at hk
  obtain ⟨v, vs', d, ds', p, q, rfl, rfl, rfl, h1, h2⟩ := trodAll_cons h
  rw [B.h1] at hb ⊢
  obtain ⟨f, t1⟩ := id h1
  have hk1 : kOK P n t e = true := by have := hk.1; unfold argOK at this; rw [Bool.and_eq_true] at this; exact this.1
  obtain ⟨x, a1, a2, a3⟩ := read_e B n f t e _ d p hk1 t1 (by omega)
  obtain ⟨y, b1, b2, b3⟩ := args_read B n ts es vs' ds' q base hk.2 h2 (fun j t v q1 q2 => hok (j + 1) t v q1 q2) (by omega)
  exact ⟨(x, y), .cons (row_av hk.1 (hok 0 t v rfl rfl) a1) b1, by simp only [bigA]; omega, a3, b3⟩
theorem trodAll_length : ∀ {ts : List TypeId} {vs : List Value} {ds : List (DataW H)} {ps : List MemPlace} {W : World} {b : Nat} {sp : Nat → Bool} {hd : Bool}, DataW.TrodAll enc P W b sp hd ts vs ds ps → ds.length = ts.length
 | [], vs, ds, ps, W, b, sp, hd, h => by obtain ⟨_, rfl, _⟩ := trodAll_nil h; rfl
 | t :: ts, vs, ds, ps, W, b, sp, hd, h => by
  obtain ⟨v, vs', d, ds', p, q, rfl, rfl, rfl, h1, h2⟩ := trodAll_cons h
  simp [trodAll_length h2]
theorem trodAll_below {W' : World} (hl : laidOutB P = true) : ∀ {ts : List TypeId} {vs : List Value} {ds : List (DataW H)} {ps : List MemPlace}, ts.all (fun t => P.readableRec t && Nat.blt t P.types.size) = true → DataW.TrodAll enc P W 0 (fun _ => true) true ts vs ds ps → Below W.heap.size W W' → (∀ x ∈ ps, x.block < W.heap.size) → DataW.TrodAll enc P W' 0 (fun b => decide (b < W.heap.size)) true ts vs ds ps
 | [], vs, ds, ps, _, h, _, _ => by obtain ⟨rfl, rfl, rfl⟩ := trodAll_nil h; exact trodAll_mk0
 | t :: ts, vs, ds, ps, hr, h, hb, hp => by
  simp only [List.all_cons, Bool.and_eq_true] at hr
  obtain ⟨v, vs', d, ds', p, q, rfl, rfl, rfl, h1, h2⟩ := trodAll_cons h
  exact trodAll_cons_mk (Below.trod hl hr.1.1 (Nat.le_of_ble_eq_true hr.1.2) h1 hb (fun x hx => hp x (by simp [hx]))) (trodAll_below hl hr.2 h2 hb (fun x hx => hp x (by simp [hx])))
end
theorem bulk_pos {H : Type} (d : DataW H) : 1 ≤ Rows.uptoBulk d := by
 cases d with
 | lit l => cases l <;> simp [Rows.uptoBulk]
 | _ => simp [Rows.uptoBulk]
theorem uptoB {H : Type} : Bulk (Rows.uptoBulk (H := H)) Rows.uptoBulkAll := ⟨fun l => by simp [Rows.uptoBulk], fun l r => by simp [Rows.uptoBulk]; omega, fun l => by simp [Rows.uptoBulk], bulk_pos, by simp [Rows.uptoBulkAll], fun d l => by simp [Rows.uptoBulkAll]⟩
theorem contract_of {g : FuncId} {fn : Func} {es : List E} {n : Nat} {spec : ChangeSpec} {tb : TypeId} (hv : spec.vars = []) (hfn : ∀ (H : Type) (ds : List (DataW H)), ds.length = fn.params.toList.length → spec.fn H ds = { results := [.lit (.bool true)], args := ds })
  (hres : fn.resultTypes = #[tb]) (htb : Tryz.prog.underlying tb = some .bool) (hk : parOK Tryz.prog n fn.params.toList es = true) (hrr : fn.params.toList.all (fun t => Tryz.prog.readableRec t && Nat.blt t Tryz.prog.types.size) = true) (hl : laidOutB Tryz.prog = true) (hbo : bodyOK Tryz.prog g = true)
  (hlaw : ∀ x, bigA es x ≤ 1048576 → wfA es x → PCall CX g (patL ρ0 (shA es) x) (· = .ret (.bool true)))
  (H : Type) (enc : TypeId × Value → H) (W : World) (base : Nat) (args : Array Value) (ds gs : List (DataW H)) (before : List MemPlace)
  (hval : ∀ (j : Nat) t v, fn.params[j]? = some t → args[j]? = some v → Value.okWide Tryz.prog W .any base t v)
  (hW : DataW.Whole enc Tryz.prog fn.params.toList spec.vars false W args.toList ds gs before) (hb : Rows.uptoSmall H (ds ++ gs) = true) (hE : ErrW W) :
  Calls Tryz.prog g args W fun e W' => ∃ v, e = .returned v ∧ spec.post enc Tryz.prog fn false true false false W args v W' := by
 have hW' := hW
 obtain ⟨p, q, hA0, hV, rfl, hfz, hnd⟩ := hW
 have hA : DataW.TrodAll enc Tryz.prog W 0 (fun _ => true) true fn.params.toList args.toList ds p := hA0
 rw [hv] at hV
 obtain ⟨rfl, rfl⟩ := trodVars_none hV
 have hbd : Rows.uptoBulkAll ds ≤ 1048576 := by
  have := of_decide_eq_true hb
  simpa using this
 obtain ⟨x, hx, hxb, hxw⟩ := args_read uptoB n fn.params.toList es args.toList ds p base hk hA (fun j t v a b => hval j t v (by simpa using a) (by simpa using b)) (by omega)
 have hdo := hlaw x (by omega) hxw (knW W) W args.toList (knOK_W W hE) hx
 have hlt : ∀ y ∈ p, y.block < W.heap.size := fun y hy => hW'.lt y (by simp [hy])
 have fin : ∀ e w', (∃ out kn', out = AOut.ret (.bool true) ∧ RelOut kn' m0 out e ∧ KnOK CX kn' w' ∧ Below W.heap.size W w' ∧ ∀ b, b < W.heap.size → kn' b = knW W b) → ∃ v, e = .returned v ∧ spec.post enc Tryz.prog fn false true false false W args v w' := by
  rintro e w' ⟨out, kn', rfl, ho, _, hbel, _⟩
  cases e with
  | returned u =>
   simp only [RelOut] at ho
   cases ho
   have hT := trodAll_below hl hrr hA hbel hlt
   refine ⟨_, rfl, _, _, _, [], p, [], hW', ?_, ?_, ?_, hbel.frame _, fun h => by cases h⟩
   ·rw [hres, hfn H _ (by simpa using trodAll_length hA)]
    exact trodAll_cons_mk (shut_bool htb _) trodAll_mk0
   ·rw [hfn H _ (by simpa using trodAll_length hA), List.append_nil]
    exact hT
   ·rw [hv, hfn H _ (by simpa using trodAll_length hA)]; rfl
  | panicked ch => exact ho.elim
  | outgrown => exact ho.elim
 rcases hdo with ⟨_, hc⟩ | ⟨u, w', h1, _⟩
 ·exact hc.mono fin
 ·have h2 : (callFunc g args.toList.toArray).run Tryz.prog W = _ := calls_of_bodyOK hbo _ W
  have h1' : (callFunc g args.toList.toArray).run Tryz.prog W = _ := h1
  rw [h2] at h1'
  cases h1'
end Go.Ab

set_option maxRecDepth 100000
namespace Go.Ab
open Go Go.RowKit Go.Proofs
theorem laidVars_mem {P : Program} {w : World} : ∀ (l : List (String × DataW Unit)) (ps : List MemPlace), DataW.LaidVars P w l ps → ∀ n d, (n, d) ∈ l → ∃ g t cs fuel p, P.globalNamed n = some g ∧ (P.globals[g]?).map (·.type) = some t ∧ w.var? P n = some cs ∧ DataW.trod (fun _ => ()) P w 0 (fun _ => true) false fuel t cs.toList = some (d, p)
 | [], ps, h, n, d, hm => by cases hm
 | (n', d') :: r, ps, h, n, d, hm => by
  obtain ⟨g, t, cs, fuel, p, q, h1, h2, h3, h4, h5, h6⟩ := h
  rcases List.mem_cons.1 hm with e | hm
  ·cases e
   exact ⟨g, t, cs, fuel, p, h1, h2, h3, h4⟩
  ·exact laidVars_mem r q h5 n d hm
noncomputable def tabTy (q : String × IntKind × List Int) : Bool := match Tryz.prog.globalNamed q.1 with
 | some g => (match (Tryz.prog.globals[g]?).map (·.type) with
  | some t => (match Tryz.prog.underlying t with
   | some (.array n e) => (match Tryz.prog.underlying e with
    | some (.int k) => (decide (k = q.2.1) && (Nat.beq (Tryz.prog.cellsOf e) 1 && Nat.beq (Tryz.prog.cellsOf t) n))
    | _ => false)
   | _ => false)
  | none => false)
 | none => false
theorem tabTy_ok : tabL.all tabTy = true := by kernel_rfl
theorem tabW_of {l : List (String × DataW Unit)} {W : World} (hL : laidMet Tryz.prog l W) (hm : ∀ q ∈ tabL, (q.1, Lib.tabData q.2.1 q.2.2) ∈ l) : TabW CX W := by
 intro g a hg
 have hg : tabG g = some a := hg
 unfold tabG at hg
 obtain ⟨q, hq, rfl⟩ := Option.map_eq_some_iff.1 hg
 have hmem := List.mem_of_find?_eq_some hq
 have hname : Tryz.prog.globalNamed q.1 = some g := by
  have := List.find?_some hq
  simpa using this
 obtain ⟨ps, hv, _⟩ := hL
 obtain ⟨g', t, cs, fuel, p, h1, h2, h3, h4⟩ := laidVars_mem l ps hv _ _ (hm q hmem)
 rw [hname] at h1
 cases h1
 have hty := List.all_eq_true.1 tabTy_ok q hmem
 unfold tabTy at hty
 rw [hname] at hty
 simp only [h2] at hty
 split at hty
 ·rename_i n e hu
  split at hty
  ·rename_i k hk
   simp only [Bool.and_eq_true, decide_eq_true_eq] at hty
   obtain ⟨hk', hc1, hc2⟩ := hty
   subst hk'
   have hcs := Lib.cells_of_tab hu hk (Nat.eq_of_beq_eq_true hc1) (Nat.eq_of_beq_eq_true hc2) h4
   unfold World.var? at h3
   rw [hname] at h3
   simp only [Option.bind_some] at h3
   split at h3
   ·rename_i c T z hw
    cases h3
    refine ⟨T, z, ?_⟩
    rw [hw, ← hcs]
   ·cases h3
  ·cases hty
 ·cases hty
def errTy (P : Program) : Bool := match P.globalNamed "strconv.ErrRange" with
 | some g => (match (P.globals[g]?).map (·.type) with
  | some t => (match P.underlying t with
   | some (.interface _) => true
   | _ => false)
  | none => false)
 | none => false
theorem errTy_ok : errTy Tryz.prog = true := by kernel_rfl
theorem errW_of {l : List (String × DataW Unit)} {W : World} (hL : laidMet Tryz.prog l W) {nm : String} {x : DataW Unit} (hm : ("strconv.ErrRange", .iface nm x) ∈ l) (hT : ∀ q ∈ tabL, (q.1, Lib.tabData q.2.1 q.2.2) ∈ l) : ErrW W := by
 refine ⟨?_, tabW_of hL hT⟩
 intro g hg
 obtain ⟨ps, hv, _⟩ := hL
 obtain ⟨g', t, cs, fuel, p, h1, h2, h3, h4⟩ := laidVars_mem l ps hv _ _ hm
 have hg' : Tryz.prog.globalNamed "strconv.ErrRange" = some g := hg
 rw [hg'] at h1
 cases h1
 have hty := errTy_ok
 unfold errTy at hty
 rw [hg'] at hty
 simp only [h2] at hty
 cases fuel with
 | zero => cases h4
 | succ fuel =>
  cases hu : Tryz.prog.underlying t with
  | none => rw [hu] at hty; cases hty
  | some td =>
   rw [hu] at hty
   cases td with
   | interface ms =>
    unfold World.var? at h3
    rw [hg'] at h3
    simp only [Option.bind_some] at h3
    unfold DataW.trod at h4
    rw [hu] at h4
    match hcs : cs.toList, h4 with
    | [.iface u v], _ =>
     refine ⟨u, v, ?_⟩
     cases hh : W.heap[g]? with
     | none => rw [hh] at h3; cases h3
     | some ob =>
      rw [hh] at h3
      cases ob with
      | cells c a b =>
       cases h3
       have hc : cs[0]? = some (Value.iface u v) := by
        have := congrArg (·[0]?) hcs
        simpa using this
       simp [World.cell?, hh, hc]
      | _ => cases h3
    | [.nilIface], h4 => cases h4
   | _ => cases hty
end Go.Ab

set_option maxRecDepth 100000
namespace Go.Ab
open Go Go.RowKit Go.Proofs
@[go_sem] theorem ofVal_string (l : List UInt8) : ofVal (.string ⟨l.toArray⟩) = .str l := by simp [ofVal]
theorem hasPrefix_call (s p : List UInt8) : PCall CX 136 [.str s, .str p] (· = .ret (.bool (decide (p.length ≤ s.length ∧ s.take p.length = p)))) := by
 refine pcall_mk 0 18 [.tmp 4] Tryz.func136 rfl (by decide) rfl rfl rfl ?_
 refine aw_sreg {} rfl rfl fun K KP hK hP => ?_
 simp only [go_sem, ↓reduceIte]
 apply hK; clear hK hP
 by_cases c1 : p.length ≤ s.length
 ·
  refine aw_sreg {} rfl rfl fun K KP hK hP => ?_
  simp only [go_sem, ↓reduceIte, c1]
  apply hK; clear hK hP
  refine aw_ret ?_
  simp only [go_sem, ↓reduceIte, c1, athen_ret] <;> (
   simp [c1])
 ·
  refine aw_sreg {} rfl rfl fun K KP hK hP => ?_
  simp only [go_sem, ↓reduceIte, c1]
  apply hK; clear hK hP
  refine aw_ret ?_
  simp only [go_sem, ↓reduceIte, c1, athen_ret] <;> (
   simp [c1])
theorem slTrimPrefix_call (s p : List UInt8) : PCall CX 144 [.str s, .str p] (· = .ret (.str (if p.length ≤ s.length ∧ s.take p.length = p then s.drop p.length else s))) := by
 refine pcall_mk 0 13 [.tmp 4] Tryz.func144 rfl (by decide) rfl rfl rfl ?_
 refine aw_sreg {} rfl rfl fun K KP hK hP => ?_
 simp only [go_sem, ↓reduceIte]
 apply hK; clear hK hP
 refine aw_seq ?_
 refine aw_sreg {} rfl rfl fun K KP hK hP => ?_
 simp only [go_sem, ↓reduceIte]
 refine CallP.ret (hasPrefix_call s p) (by simp only [go_sem]) ?_
 try simp only [go_sem, ↓reduceIte]
 apply hK; clear hK hP
 refine aw_if (p.length ≤ s.length ∧ s.take p.length = p) (by simp only [go_sem, ↓reduceIte]) (fun h1 => ?_) (fun h1 => ?_)
 ·
  refine aw_sreg {} rfl rfl fun K KP hK hP => ?_
  simp only [go_sem, ↓reduceIte, h1.1]
  apply hK; clear hK hP
  refine aw_ret ?_
  refine athen_ret.2 ?_
  simp only [go_sem, ↓reduceIte, athen_ret] <;> (
   rw [if_pos h1]; try (rw [List.take_of_length_le (by simp)]))
 ·
  refine aw_skip ?_
  refine athen_normal.2 ?_
  refine aw_sreg {} rfl rfl fun K KP hK hP => ?_
  simp only [go_sem, ↓reduceIte]
  apply hK; clear hK hP
  refine aw_ret ?_
  simp only [go_sem, ↓reduceIte, athen_ret] <;> (
   rw [if_neg h1])
theorem trimPrefix_call (s p : List UInt8) : PCall CX 129 [.str s, .str p] (· = .ret (.str (if p.length ≤ s.length ∧ s.take p.length = p then s.drop p.length else s))) := by
 refine pcall_mk 0 8 [.tmp 4] Tryz.func129 rfl (by decide) rfl rfl rfl ?_
 refine aw_sreg {} rfl rfl fun K KP hK hP => ?_
 simp only [go_sem, ↓reduceIte]
 apply hK; clear hK hP
 refine aw_sreg {} rfl rfl fun K KP hK hP => ?_
 simp only [go_sem, ↓reduceIte]
 refine CallP.ret (slTrimPrefix_call s p) (by simp only [go_sem]) ?_
 try simp only [go_sem, ↓reduceIte]
 apply hK; clear hK hP
 refine aw_ret ?_
 simp only [go_sem, ↓reduceIte, athen_ret]
def setA (l : List UInt8) : List AV := (List.range 256).map fun c => .bool (decide (UInt8.ofNat c ∈ l))
@[go_sem] theorem length_setA (l : List UInt8) : (setA l).length = 256 := by simp [setA]
theorem setA_nil : setA [] = List.replicate 256 (.bool false) := by kernel_rfl
theorem setA_drop (l : List UInt8) (c : UInt8) : ((setA l).drop c.toNat).head? = some (.bool (decide (c ∈ l))) := by
 have hc : c.toNat < 256 := c.toNat_lt
 rw [List.head?_drop]
 simp [setA, hc]
theorem setA_get (l : List UInt8) (k : Nat) (h : k < 256) : (setA l)[k]? = some (.bool (decide (UInt8.ofNat k ∈ l))) := by simp [setA, h]
theorem setA_put (l : List UInt8) (c : UInt8) : (setA l).take c.toNat ++ .bool true :: (setA l).drop (c.toNat + 1) = setA (l ++ [c]) := by
 have hc : c.toNat < 256 := c.toNat_lt
 apply List.ext_getElem?
 intro k
 rcases Nat.lt_or_ge k 256 with hk | hk
 ·rw [setA_get _ _ hk]
  rcases Nat.lt_trichotomy k c.toNat with h | h | h
  ·rw [List.getElem?_append_left (by simp [length_setA]; omega), List.getElem?_take, if_pos h, setA_get _ _ hk]
   have : UInt8.ofNat k ≠ c := fun e => by
    have := congrArg UInt8.toNat e
    simp at this; omega
   simp [this]
  ·subst h
   rw [List.getElem?_append_right (by simp [length_setA] <;> omega), show c.toNat - ((setA l).take c.toNat).length = 0 by simp [length_setA] <;> omega]
   simp
  ·rw [List.getElem?_append_right (by simp [length_setA]; omega)]
   have e : k - ((setA l).take c.toNat).length = (k - c.toNat - 1) + 1 := by simp [length_setA]; omega
   rw [e, List.getElem?_cons_succ, List.getElem?_drop, show c.toNat + 1 + (k - c.toNat - 1) = k by omega, setA_get _ _ hk]
   have : UInt8.ofNat k ≠ c := fun e => by
    have := congrArg UInt8.toNat e
    simp at this; omega
   simp [this]
 ·rw [List.getElem?_eq_none (by simp [length_setA]; omega), List.getElem?_eq_none (by simp [length_setA]; omega)]
theorem u8_lt (c : UInt8) : c.toNat < 256 := c.toNat_lt
theorem u8_lti (c : UInt8) : (c.toNat : Int) < 256 := by have := c.toNat_lt; omega
theorem contains_call (σ : Sto) (nx p nm : Nat) (l : List UInt8) (c : UInt8) (hs : sget σ p nm = some (.cells 131 (setA l))) : ACall CX 139 [.ref p nm 0, .int .u8 c.toNat] σ nx (Gets (.bool (decide (c ∈ l))) σ nx) := by
 refine acall_mk 10 [.tmp 4] Tryz.func139 rfl (by decide) rfl rfl rfl ?_
 have hc := u8_lti c
 have hc' := u8_lt c
 refine aw_sreg {} rfl rfl fun K KP hK hP => ?_
 simp only [go_sem, ↓reduceIte]
 apply hK; clear hK hP
 refine aw_sreg {} rfl rfl fun K KP hK hP => ?_
 simp only [go_sem, ↓reduceIte, hc, hc', hs, Nat.mul_one, setA_drop]
 apply hK; clear hK hP
 refine aw_ret ?_
 simp only [go_sem, ↓reduceIte, athen_ret]
def trimRi (p : UInt8 → Bool) (s : List UInt8) : Nat → List UInt8
 | 0 => []
 | i + 1 => if p (s.getD i 0) then trimRi p s i else s.take (i + 1)
theorem trimRight_call (σ : Sto) (nx p nm : Nat) (l s : List UInt8) (hs : sget σ p nm = some (.cells 131 (setA l))) (hl : s.length ≤ 4611686018427387904) : ACall CX 113 [.str s, .ref p nm 0] σ nx (Gets (.str (trimRi (fun c => decide (c ∈ l)) s s.length)) σ nx) := by
 refine acall_mk 22 [.tmp 4] Tryz.func113 rfl (by decide) rfl rfl rfl ?_
 refine aw_sreg {} rfl rfl fun K KP hK hP => ?_
 simp only [go_sem, ↓reduceIte]
 apply hK; clear hK hP
 refine aw_seq ?_
 refine aw_block ?_
 refine aw_loop' (fun dd st => ∃ (i : Nat), (i ≤ s.length) ∧ (trimRi (fun c => decide (c ∈ l)) s i = trimRi (fun c => decide (c ∈ l)) s s.length) ∧ i = dd ∧ σ = st.σ ∧ nx = st.nx ∧ st.env 0 = .str (s.take i) ∧ st.env 1 = .ref p nm 0) (fun dd st hJ => ?_) ?_
 ·
  obtain ⟨env0, σ0, nx0⟩ := st
  obtain ⟨i, hp0_0, hp0_1, hd0, hs0, hn0, e0_0, e0_1⟩ := hJ
  dsimp only at hs0 hn0 e0_0 e0_1
  subst hd0; subst hs0; subst hn0
  have hlen : (s.take i).length = i := by simp; omega
  refine aw_seq ?_
  refine aw_sreg {} rfl rfl fun K KP hK hP => ?_
  simp only [go_sem, ↓reduceIte, e0_0, e0_1, hlen]
  apply hK; clear hK hP
  refine aw_if (0 < i) (by simp only [go_sem, ↓reduceIte, e0_0, e0_1, hlen]) (fun h1 => ?_) (fun h1 => ?_)
  ·
   have hx : s[i - 1]? = some (s.getD (i - 1) 0) := by simp [show i - 1 < s.length by omega]
   have hx1 : (s.take i)[i - 1]? = some (s.getD (i - 1) 0) := by rw [List.getElem?_take, if_pos (by omega)]; exact hx
   have hw : IntKind.wrap .i64 ((i : Int) - 1) = ((i - 1 : Nat) : Int) := by rw [wrap64 (by omega) (by omega)]; omega
   have hm : i - 1 ≤ i := by omega
   have ht : (s.take i).take (i - 1) = s.take (i - 1) := by rw [List.take_take]; congr 1; omega
   refine aw_skip ?_
   refine athen_normal.2 ?_
   refine aw_block ?_
   refine aw_seq ?_
   refine aw_sreg { ac := [14] } rfl rfl fun K KP hK hP => ?_
   simp only [go_sem, ↓reduceIte, e0_0, e0_1, hlen, hx1, hw, hm, ht]
   refine CallP.acall (contains_call σ nx p nm l _ hs) ?_
   try simp only [go_sem, ↓reduceIte, e0_0, e0_1, hlen, hx1, hw, hm, ht]
   apply hK; clear hK hP
   refine aw_if (¬ (s.getD (i - 1) 0) ∈ l) (by simp only [go_sem, ↓reduceIte, e0_0, e0_1, hlen, hx1, hw, hm, ht]) (fun h2 => ?_) (fun h2 => ?_)
   ·
    refine aw_exit ?_
    refine athen_exit.2 ?_
    refine ablock_pass rfl ?_
    refine athen_exit.2 ?_
    refine ablock_here ?_
    refine athen_normal.2 ?_
    refine aw_sreg {} rfl rfl fun K KP hK hP => ?_
    simp only [go_sem, ↓reduceIte, e0_0, e0_1, hlen, hx1, hw, hm, ht]
    apply hK; clear hK hP
    refine aw_ret ?_
    simp only [go_sem, ↓reduceIte, e0_0, e0_1, hlen, hx1, hw, hm, ht, athen_ret] <;> (
     rw [← hp0_1]
     cases i with
     | zero => simp [trimRi]
     | succ j => first | (exfalso; omega) | (simp only [trimRi]; rw [if_neg (by simpa using h2)]))
   ·
    refine aw_skip ?_
    refine athen_normal.2 ?_
    refine aw_lreg {} rfl rfl fun K KP hK hP => ?_
    simp only [go_sem, ↓reduceIte, e0_0, e0_1, hlen, hx1, hw, hm, ht]
    apply hK; clear hK hP
    refine ablock_normal.2 ?_
    refine athen_normal.2 ?_
    refine ⟨_, ?_, (i - 1), ?_, ?_, rfl, rfl, rfl, ?_, ?_⟩
    ·omega
    ·first | omega | trivial | assumption
    ·rw [← hp0_1]
     cases i with
     | zero => rfl
     | succ j => simp only [Nat.add_sub_cancel, trimRi]; rw [if_pos (by simpa using h2)]
    ·simp only [go_sem, ↓reduceIte, e0_0, e0_1, hlen, hx1, hw, hm, ht] <;> try rfl
    ·simp only [go_sem, ↓reduceIte, e0_0, e0_1, hlen, hx1, hw, hm, ht] <;> try rfl
  ·
   refine aw_exit ?_
   refine athen_exit.2 ?_
   refine athen_exit.2 ?_
   refine ablock_here ?_
   refine athen_normal.2 ?_
   refine aw_sreg {} rfl rfl fun K KP hK hP => ?_
   simp only [go_sem, ↓reduceIte, e0_0, e0_1, hlen]
   apply hK; clear hK hP
   refine aw_ret ?_
   simp only [go_sem, ↓reduceIte, e0_0, e0_1, hlen, athen_ret] <;> (
    rw [← hp0_1]
    cases i with
    | zero => simp [trimRi]
    | succ j => first | (exfalso; omega) | (simp only [trimRi]; rw [if_neg (by simpa using h2)]))
 ·
  refine ⟨_, s.length, ?_, ?_, rfl, ?_, rfl, ?_, ?_⟩
  ·first | omega | trivial | assumption
  ·first | omega | trivial | assumption
  ·first | rfl | (simp only [go_sem, ↓reduceIte])
  ·simp only [go_sem, ↓reduceIte] <;> try rfl
  ·simp only [go_sem, ↓reduceIte] <;> try rfl
theorem trimLeft_call (σ : Sto) (nx p nm : Nat) (l s : List UInt8) (hs : sget σ p nm = some (.cells 131 (setA l))) : ACall CX 112 [.str s, .ref p nm 0] σ nx (Gets (.str (s.dropWhile fun c => decide (c ∈ l))) σ nx) := by
 refine acall_mk 16 [.tmp 4] Tryz.func112 rfl (by decide) rfl rfl rfl ?_
 refine aw_sreg {} rfl rfl fun K KP hK hP => ?_
 simp only [go_sem, ↓reduceIte]
 apply hK; clear hK hP
 refine aw_seq ?_
 refine aw_block ?_
 refine aw_loop' (fun dd st => ∃ (r : List UInt8), (r.dropWhile (fun c => decide (c ∈ l)) = s.dropWhile fun c => decide (c ∈ l)) ∧ r.length = dd ∧ σ = st.σ ∧ nx = st.nx ∧ st.env 0 = .str r ∧ st.env 1 = .ref p nm 0) (fun dd st hJ => ?_) ?_
 ·
  obtain ⟨env0, σ0, nx0⟩ := st
  obtain ⟨r, hp0_0, hd0, hs0, hn0, e0_0, e0_1⟩ := hJ
  dsimp only at hs0 hn0 e0_0 e0_1
  subst hd0; subst hs0; subst hn0
  refine aw_seq ?_
  refine aw_sreg {} rfl rfl fun K KP hK hP => ?_
  simp only [go_sem, ↓reduceIte, e0_0, e0_1]
  apply hK; clear hK hP
  refine aw_if (0 < r.length) (by simp only [go_sem, ↓reduceIte, e0_0, e0_1]) (fun h1 => ?_) (fun h1 => ?_)
  ·
   obtain ⟨c, r', rfl⟩ : ∃ c r', r = c :: r' := by cases r with | nil => simp at h1 | cons c r' => exact ⟨c, r', rfl⟩
   have h11 : (1 : Int) ≤ ((r'.length + 1 : Nat) : Int) := by omega
   refine aw_skip ?_
   refine athen_normal.2 ?_
   refine aw_block ?_
   refine aw_seq ?_
   refine aw_sreg { ac := [11] } rfl rfl fun K KP hK hP => ?_
   simp only [go_sem, ↓reduceIte, e0_0, e0_1, h11]
   refine CallP.acall (contains_call σ nx p nm l _ hs) ?_
   try simp only [go_sem, ↓reduceIte, e0_0, e0_1, h11]
   apply hK; clear hK hP
   refine aw_if (¬ c ∈ l) (by simp only [go_sem, ↓reduceIte, e0_0, e0_1, h11]) (fun h2 => ?_) (fun h2 => ?_)
   ·
    refine aw_exit ?_
    refine athen_exit.2 ?_
    refine ablock_pass rfl ?_
    refine athen_exit.2 ?_
    refine ablock_here ?_
    refine athen_normal.2 ?_
    refine aw_sreg {} rfl rfl fun K KP hK hP => ?_
    simp only [go_sem, ↓reduceIte, e0_0, e0_1, h11]
    apply hK; clear hK hP
    refine aw_ret ?_
    simp only [go_sem, ↓reduceIte, e0_0, e0_1, h11, athen_ret] <;> (
     rw [← hp0_0]
     first | (cases r with | nil => rfl | cons => simp at h1) | (rw [List.dropWhile_cons, if_neg (by simpa using h2)]))
   ·
    refine aw_skip ?_
    refine athen_normal.2 ?_
    refine aw_lreg {} rfl rfl fun K KP hK hP => ?_
    simp only [go_sem, ↓reduceIte, e0_0, e0_1, h11]
    apply hK; clear hK hP
    refine ablock_normal.2 ?_
    refine athen_normal.2 ?_
    refine ⟨_, ?_, r', ?_, rfl, rfl, rfl, ?_, ?_⟩
    ·simp
    ·rw [← hp0_0, List.dropWhile_cons, if_pos (by simpa using h2)]
    ·simp only [go_sem, ↓reduceIte, e0_0, e0_1, h11] <;> try rfl
    ·simp only [go_sem, ↓reduceIte, e0_0, e0_1, h11] <;> try rfl
  ·
   refine aw_exit ?_
   refine athen_exit.2 ?_
   refine athen_exit.2 ?_
   refine ablock_here ?_
   refine athen_normal.2 ?_
   refine aw_sreg {} rfl rfl fun K KP hK hP => ?_
   simp only [go_sem, ↓reduceIte, e0_0, e0_1]
   apply hK; clear hK hP
   refine aw_ret ?_
   simp only [go_sem, ↓reduceIte, e0_0, e0_1, athen_ret] <;> (
    rw [← hp0_0]
    first | (cases r with | nil => rfl | cons => simp at h1) | (rw [List.dropWhile_cons, if_neg (by simpa using h2)]))
 ·
  refine ⟨_, s, ?_, rfl, ?_, rfl, ?_, ?_⟩
  ·first | omega | trivial | assumption
  ·first | rfl | (simp only [go_sem, ↓reduceIte])
  ·simp only [go_sem, ↓reduceIte] <;> try rfl
  ·simp only [go_sem, ↓reduceIte] <;> try rfl
theorem loadC_setA (l : List UInt8) : loadC Tryz.prog 131 (setA l) = some (.agg (setA l)) := by
 have h := length_setA l
 simp only [loadC, aggT_131, szT_131, h, Nat.le_refl, if_true]
 rw [List.take_of_length_le (by omega)]
theorem makeSet_call (s : List UInt8) (hs : ∀ c ∈ s, c < 128) (hl : s.length ≤ 4611686018427387904) : PCall CX 111 [.str s] (· = .ret (.tup [.agg (setA s), .bool true])) := by
 have hd : ∀ l, (setA l).drop 256 = [] := fun l => List.drop_of_length_le (by simp [length_setA])
 refine pcall_mk 0 21 [.cell 2 131, .tmp 3] Tryz.func111 rfl (by decide) rfl rfl rfl ?_
 refine aw_sreg {} rfl (by simp only [allocObjs, go_sem]; rfl) fun K KP hK hP => ?_
 simp only [go_sem, ↓reduceIte]
 apply hK; clear hK hP
 refine aw_seq ?_
 refine aw_sreg {} rfl rfl fun K KP hK hP => ?_
 simp only [go_sem, ↓reduceIte]
 apply hK; clear hK hP
 refine aw_block ?_
 refine aw_loop' (fun dd st => ∃ (i : Nat), (i ≤ s.length) ∧ s.length - i = dd ∧ [(0, .cells 131 (setA (s.take i)))] = st.σ ∧ st.env 0 = .str s ∧ st.env 2 = .ref 0 0 0 ∧ st.env 4 = .int .i64 (i : Nat)) (fun dd st hJ => ?_) ?_
 ·
  obtain ⟨env0, σ0, nx0⟩ := st
  obtain ⟨i, hp0_0, hd0, hs0, e0_0, e0_2, e0_4⟩ := hJ
  dsimp only at hs0  e0_0 e0_2 e0_4
  subst hd0; subst hs0
  refine aw_forget' 1 rfl ?_
  refine aw_seq ?_
  refine aw_sreg {} rfl rfl fun K KP hK hP => ?_
  simp only [go_sem, ↓reduceIte, e0_0, e0_2, e0_4]
  apply hK; clear hK hP
  refine aw_if (i < s.length) (by simp only [go_sem, ↓reduceIte, e0_0, e0_2, e0_4]) (fun h2 => ?_) (fun h2 => ?_)
  ·
   have hx : s[i]? = some s[i] := List.getElem?_eq_getElem h2
   have hlt := hs _ (List.getElem_mem h2)
   have hln : ¬ (128 : Int) ≤ (s[i].toNat : Int) := by have : s[i].toNat < 128 := hlt; omega
   have hc := u8_lti s[i]
   have hc' := u8_lt s[i]
   have hw : IntKind.wrap .i64 ((i : Int) + 1) = ((i + 1 : Nat) : Int) := by rw [wrap64 (by omega) (by omega)]; omega
   have ht : setA (s.take i ++ [s[i]]) = setA (s.take (i + 1)) := by rw [List.take_succ_eq_append_getElem h2]
   refine aw_skip ?_
   refine athen_normal.2 ?_
   refine aw_seq ?_
   refine aw_block ?_
   refine aw_sreg {} rfl rfl fun K KP hK hP => ?_
   simp only [go_sem, ↓reduceIte, e0_0, e0_2, e0_4, hx, hln, hc, hc', hw]
   apply hK; clear hK hP
   refine aw_seq ?_
   refine aw_sreg {} rfl rfl fun K KP hK hP => ?_
   simp only [go_sem, ↓reduceIte, e0_0, e0_2, e0_4, hx, hln, hc, hc', hw]
   apply hK; clear hK hP
   refine aw_if (False) (by simp only [go_sem, ↓reduceIte, e0_0, e0_2, e0_4, hx, hln, hc, hc', hw]) (fun h5 => ?_) (fun h5 => ?_)
   ·
    exact h5.elim
   ·
    refine aw_skip ?_
    refine athen_normal.2 ?_
    refine aw_lreg {} rfl rfl fun K KP hK hP => ?_
    simp only [go_sem, ↓reduceIte, e0_0, e0_2, e0_4, hx, hln, hc, hc', hw, Nat.mul_one, setA_put, ht, Nat.succ_le_of_lt hc']
    apply hK; clear hK hP
    refine ablock_normal.2 ?_
    refine athen_normal.2 ?_
    refine aw_lreg {} rfl rfl fun K KP hK hP => ?_
    simp only [go_sem, ↓reduceIte, e0_0, e0_2, e0_4, hx, hln, hc, hc', hw]
    apply hK; clear hK hP
    refine afor_one ?_
    refine athen_normal.2 ?_
    refine ⟨_, ?_, i + 1, ?_, rfl, rfl, ?_, ?_, ?_⟩
    ·omega
    ·first | omega | trivial | assumption
    ·simp only [go_sem, ↓reduceIte, e0_0, e0_2, e0_4, hx, hln, hc, hc', hw] <;> try rfl
    ·simp only [go_sem, ↓reduceIte, e0_0, e0_2, e0_4, hx, hln, hc, hc', hw] <;> try rfl
    ·simp only [go_sem, ↓reduceIte, e0_0, e0_2, e0_4, hx, hln, hc, hc', hw] <;> try rfl
  ·
   refine aw_exit ?_
   refine athen_exit.2 ?_
   refine afor_one ?_
   refine athen_exit.2 ?_
   refine ablock_here ?_
   refine athen_normal.2 ?_
   refine aw_sreg {} rfl rfl fun K KP hK hP => ?_
   simp only [go_sem, ↓reduceIte, e0_0, e0_2, e0_4, loadC_setA, hd]
   apply hK; clear hK hP
   refine aw_ret ?_
   simp only [go_sem, ↓reduceIte, e0_0, e0_2, e0_4, athen_ret, loadC_setA] <;> (
    have hi : i = s.length := by omega
    subst hi
    simp only [List.take_length]
    refine ⟨?_, trivial⟩
    refine (RFL_iff _).2 fun x hx => ?_
    obtain ⟨c, _, rfl⟩ := List.mem_map.1 hx
    trivial)
 ·
  refine ⟨_, 0, ?_, rfl, ?_, ?_, ?_, ?_⟩
  ·first | omega | trivial | assumption
  ·simp only [List.take_zero, setA_nil]
  ·simp only [go_sem, ↓reduceIte] <;> try rfl
  ·simp only [go_sem, ↓reduceIte] <;> try rfl
  ·simp only [go_sem, ↓reduceIte] <;> try rfl
def digitsL : List UInt8 := [48, 49, 50, 51, 52, 53, 54, 55, 56, 57]
def trimS (s : List UInt8) : List UInt8 := (trimRi (fun c => decide (c ∈ digitsL)) s s.length).dropWhile fun c => decide (c ∈ digitsL)
theorem trim_call (s : List UInt8) (hl : s.length ≤ 4611686018427387904) : PCall CX 75 [.str s, .str digitsL] (· = .ret (.str (trimS s))) := by
 have hdl : ((digitsL.length : Nat) : Int) = 10 := rfl
 have hne : digitsL ≠ [] := by decide
 refine pcall_mk 0 43 [.tmp 4] Tryz.func75 rfl (by decide) rfl rfl rfl ?_
 refine aw_sreg {} rfl rfl fun K KP hK hP => ?_
 simp only [go_sem, ↓reduceIte]
 apply hK; clear hK hP
 refine aw_seq ?_
 by_cases c1 : s = []
 ·
  refine aw_sreg {} rfl rfl fun K KP hK hP => ?_
  simp only [go_sem, ↓reduceIte, c1, hne]
  apply hK; clear hK hP
  refine aw_if (True) (by simp only [go_sem, ↓reduceIte, c1]) (fun h1 => ?_) (fun h1 => ?_)
  ·
   refine aw_sreg {} rfl rfl fun K KP hK hP => ?_
   simp only [go_sem, ↓reduceIte, c1]
   apply hK; clear hK hP
   refine aw_ret ?_
   refine athen_ret.2 ?_
   simp only [go_sem, ↓reduceIte, c1, athen_ret] <;> (
    simp [trimS, trimRi, c1])
  ·
   exact absurd trivial h1
 ·
  refine aw_sreg {} rfl rfl fun K KP hK hP => ?_
  simp only [go_sem, ↓reduceIte, c1, hne]
  apply hK; clear hK hP
  refine aw_if (False) (by simp only [go_sem, ↓reduceIte, c1]) (fun h1 => ?_) (fun h1 => ?_)
  ·
   exact h1.elim
  ·
   refine aw_skip ?_
   refine athen_normal.2 ?_
   refine aw_seq ?_
   refine aw_sreg {} rfl rfl fun K KP hK hP => ?_
   simp only [go_sem, ↓reduceIte, c1, hdl]
   apply hK; clear hK hP
   refine aw_if (False) (by simp only [go_sem, ↓reduceIte, c1]) (fun h3 => ?_) (fun h3 => ?_)
   ·
    exact h3.elim
   ·
    refine aw_skip ?_
    refine athen_normal.2 ?_
    refine aw_seq ?_
    refine aw_sreg {} rfl (by simp only [allocObjs, go_sem]; rfl) fun K KP hK hP => ?_
    simp only [go_sem, ↓reduceIte, c1]
    refine CallP.ret (makeSet_call digitsL (by decide) (by decide)) (by simp only [go_sem]) ?_
    try simp only [go_sem, ↓reduceIte, c1]
    apply hK; clear hK hP
    refine aw_sreg {} rfl rfl fun K KP hK hP => ?_
    simp only [go_sem, ↓reduceIte, c1]
    apply hK; clear hK hP
    refine aw_if (True) (by simp only [go_sem, ↓reduceIte, c1]) (fun h6 => ?_) (fun h6 => ?_)
    ·
     refine aw_sreg { ac := [36, 37] } rfl rfl fun K KP hK hP => ?_
     simp only [go_sem, ↓reduceIte, c1]
     refine CallP.acall (trimRight_call _ _ 0 0 digitsL s rfl hl) ?_
     try simp only [go_sem, ↓reduceIte, c1]
     refine CallP.acall (trimLeft_call _ _ 0 0 digitsL _ rfl) ?_
     try simp only [go_sem, ↓reduceIte, c1]
     apply hK; clear hK hP
     refine aw_ret ?_
     refine athen_ret.2 ?_
     simp only [go_sem, ↓reduceIte, c1, athen_ret] <;> (
      rfl)
    ·
     exact absurd trivial h6
theorem dropWhile_nil (p : UInt8 → Bool) : ∀ l : List UInt8, l.dropWhile p = [] ↔ ∀ c ∈ l, p c = true
 | [] => by simp
 | c :: l => by
  rw [List.dropWhile_cons]
  split
  ·rename_i h; rw [dropWhile_nil p l]; simp [h]
  ·rename_i h; simp [h]
theorem trimRi_nil (p : UInt8 → Bool) (s : List UInt8) : ∀ i, i ≤ s.length → ((trimRi p s i).dropWhile p = [] ↔ ∀ c ∈ s.take i, p c = true)
 | 0, _ => by simp [trimRi]
 | i + 1, h => by
  have hx : s.getD i 0 = s[i] := by simp [show i < s.length by omega]
  simp only [trimRi, hx]
  rw [List.take_succ_eq_append_getElem (by omega)]
  split
  ·rename_i hp
   rw [trimRi_nil p s i (by omega)]
   constructor
   ·intro h1 c hc
    rcases List.mem_append.1 hc with hc | hc
    ·exact h1 c hc
    ·simp at hc; subst hc; exact hp
   ·intro h1 c hc; exact h1 c (List.mem_append.2 (.inl hc))
  ·rename_i hp
   constructor
   ·intro h1
    exact (dropWhile_nil p _).1 h1
   ·intro h1
    exact absurd (h1 s[i] (List.mem_append.2 (.inr (by simp)))) hp
def digitB (c : UInt8) : Bool := decide (c ∈ digitsL)
theorem trimS_nil (s : List UInt8) : trimS s = [] ↔ s.all digitB = true := by
 unfold trimS
 rw [trimRi_nil _ _ _ (Nat.le_refl _), List.take_length, List.all_eq_true]
 rfl
def cutMinus (s : List UInt8) : List UInt8 := if s.head? = some 45 then s.tail else s
def numericS (s : List UInt8) : Bool := decide (cutMinus s ≠ []) && (cutMinus s).all digitB
theorem cutMinus_eq (s : List UInt8) [Decidable ([45].length ≤ s.length ∧ s.take [45].length = [45])] : (if [45].length ≤ s.length ∧ s.take [45].length = [45] then s.drop [45].length else s) = cutMinus s := by
 unfold cutMinus
 cases s with
 | nil => simp
 | cons c r => by_cases h : c = 45 <;> simp [h]
theorem cutMinus_length (s : List UInt8) : (cutMinus s).length ≤ s.length := by
 unfold cutMinus
 split
 ·simp
 ·exact Nat.le_refl _
theorem numeric_call (s : List UInt8) (hl : s.length ≤ 4611686018427387904) : PCall CX 94 [.str s] (· = .ret (.bool (numericS s))) := by
 have hcl := cutMinus_length s
 refine pcall_mk 0 12 [.tmp 2] Tryz.func94 rfl (by decide) rfl rfl rfl ?_
 refine aw_sreg {} rfl rfl fun K KP hK hP => ?_
 simp only [go_sem, ↓reduceIte]
 apply hK; clear hK hP
 refine aw_sreg {} rfl rfl fun K KP hK hP => ?_
 simp only [go_sem, ↓reduceIte]
 refine CallP.ret ((trimPrefix_call s [45]).mono fun o h => h.trans (congrArg (fun x => AOut.ret (.str x)) (cutMinus_eq s))) (by simp only [go_sem]) ?_
 try simp only [go_sem, ↓reduceIte]
 apply hK; clear hK hP
 by_cases c2 : cutMinus s = []
 ·
  refine aw_sreg {} rfl rfl fun K KP hK hP => ?_
  simp only [go_sem, ↓reduceIte, c2]
  apply hK; clear hK hP
  refine aw_ret ?_
  simp only [go_sem, ↓reduceIte, c2, athen_ret] <;> (
   simp [numericS, c2])
 ·
  refine aw_sreg {} rfl rfl fun K KP hK hP => ?_
  simp only [go_sem, ↓reduceIte, c2]
  refine CallP.ret (trim_call (cutMinus s) (by omega)) (by simp only [go_sem]) ?_
  try simp only [go_sem, ↓reduceIte, c2]
  apply hK; clear hK hP
  refine aw_ret ?_
  simp only [go_sem, ↓reduceIte, c2, athen_ret] <;> (
   have hb : decide (trimS (cutMinus s) = []) = (cutMinus s).all digitB := by rw [Bool.eq_iff_iff, decide_eq_true_iff]; exact trimS_nil _
   rw [hb]
   simp [numericS, c2])
theorem indexString_call (s : List UInt8) (c : UInt8) : PCall CX 138 [.str s, .int .u8 c.toNat] (· = .ret (.int .i64 (Lib.indexByte s c))) := by
 intro kn w vs hk hr
 obtain ⟨v, vs', rfl, h1, hr'⟩ := hr.uncons
 obtain ⟨u, vs'', rfl, h2, hr''⟩ := hr'.uncons
 have : vs'' = [] := List.eq_nil_of_length_eq_zero hr''.1.symm
 subst this
 cases h1
 cases h2
 refine .inr ⟨.int .i64 (Lib.indexByte s c), w, ?_, .ret (.int .i64 (Lib.indexByte s c)), kn, rfl, .int _ _, hk, Below.refl _ _, fun _ _ => rfl⟩
 refine (run_callFunc_extern (P := CX.P) (e := Extern.BytealgIndexByte.indexByte) (fn := Tryz.f138) Tryz.func138 (by decide) rfl (by kernel_rfl) (by kernel_rfl) _ w).trans ?_
 have h := Lib.run_indexByteString (P := CX.P) ⟨s.toArray⟩ c.toNat w
 rw [show (#[Value.string ⟨s.toArray⟩, .int .u8 (c.toNat : Int)] : Array Value) = [Value.string ⟨s.toArray⟩, .int .u8 (c.toNat : Int)].toArray from rfl] at h
 rw [h]
 simp [Result.andThen]
theorem slIndexByte_call (s : List UInt8) (c : UInt8) : PCall CX 107 [.str s, .int .u8 c.toNat] (· = .ret (.int .i64 (Lib.indexByte s c))) := by
 refine pcall_mk 0 8 [.tmp 4] Tryz.func107 rfl (by decide) rfl rfl rfl ?_
 refine aw_sreg {} rfl rfl fun K KP hK hP => ?_
 simp only [go_sem, ↓reduceIte]
 apply hK; clear hK hP
 refine aw_sreg {} rfl rfl fun K KP hK hP => ?_
 simp only [go_sem, ↓reduceIte]
 refine CallP.ret (indexString_call s c) (by simp only [go_sem]) ?_
 try simp only [go_sem, ↓reduceIte]
 apply hK; clear hK hP
 refine aw_ret ?_
 simp only [go_sem, ↓reduceIte, athen_ret]
theorem indexByte_call (s : List UInt8) (c : UInt8) : PCall CX 73 [.str s, .int .u8 c.toNat] (· = .ret (.int .i64 (Lib.indexByte s c))) := by
 refine pcall_mk 0 8 [.tmp 4] Tryz.func73 rfl (by decide) rfl rfl rfl ?_
 refine aw_sreg {} rfl rfl fun K KP hK hP => ?_
 simp only [go_sem, ↓reduceIte]
 apply hK; clear hK hP
 refine aw_sreg {} rfl rfl fun K KP hK hP => ?_
 simp only [go_sem, ↓reduceIte]
 refine CallP.ret (slIndexByte_call s c) (by simp only [go_sem]) ?_
 try simp only [go_sem, ↓reduceIte]
 apply hK; clear hK hP
 refine aw_ret ?_
 simp only [go_sem, ↓reduceIte, athen_ret]
def outsideS (c : UInt8) : Bool := decide (c.toNat < 33) || decide (126 < c.toNat) || decide (c ∈ ([40, 41, 34, 59] : List UInt8))
theorem indexByte_four (c : UInt8) : (0 ≤ Lib.indexByte [40, 41, 34, 59] c) ↔ c ∈ ([40, 41, 34, 59] : List UInt8) := by
 revert c
 have : ∀ n : Fin 256, (0 ≤ Lib.indexByte [40, 41, 34, 59] (UInt8.ofFin n)) ↔ (UInt8.ofFin n) ∈ ([40, 41, 34, 59] : List UInt8) := by decide +kernel
 exact fun c => this c.toFin
theorem outside_call (c : UInt8) : PCall CX 95 [.int .u8 c.toNat] (· = .ret (.bool (outsideS c))) := by
 refine pcall_mk 0 14 [.tmp 2] Tryz.func95 rfl (by decide) rfl rfl rfl ?_
 refine aw_sreg {} rfl rfl fun K KP hK hP => ?_
 simp only [go_sem, ↓reduceIte]
 apply hK; clear hK hP
 by_cases c1_0 : ((c.toNat : Nat) : Int) < 33
 ·
  refine aw_sreg {} rfl rfl fun K KP hK hP => ?_
  simp only [go_sem, ↓reduceIte, c1_0]
  apply hK; clear hK hP
  refine aw_ret ?_
  simp only [go_sem, ↓reduceIte, c1_0, athen_ret] <;> (
   have : c.toNat < 33 := by omega
   simp [outsideS, this])
 ·
  by_cases c1_1 : 126 < ((c.toNat : Nat) : Int)
  ·
   refine aw_sreg {} rfl rfl fun K KP hK hP => ?_
   simp only [go_sem, ↓reduceIte, c1_0, c1_1]
   apply hK; clear hK hP
   refine aw_ret ?_
   simp only [go_sem, ↓reduceIte, c1_0, c1_1, athen_ret] <;> (
    have : 126 < c.toNat := by omega
    simp [outsideS, this])
  ·
   refine aw_sreg {} rfl rfl fun K KP hK hP => ?_
   simp only [go_sem, ↓reduceIte, c1_0, c1_1]
   refine CallP.ret (indexByte_call _ c) (by simp only [go_sem]) ?_
   try simp only [go_sem, ↓reduceIte, c1_0, c1_1]
   apply hK; clear hK hP
   refine aw_ret ?_
   simp only [go_sem, ↓reduceIte, c1_0, c1_1, athen_ret] <;> (
    have h1 : ¬ c.toNat < 33 := by omega
    have h2 : ¬ 126 < c.toNat := by omega
    have h3 : decide (0 ≤ Lib.indexByte [40, 41, 34, 59] c) = decide (c ∈ ([40, 41, 34, 59] : List UInt8)) := by rw [Bool.eq_iff_iff, decide_eq_true_iff, decide_eq_true_iff]; exact indexByte_four c
    rw [h3]
    simp [outsideS, h1, h2])
end Go.Ab

namespace Go.Ab
open Go Go.RowKit Go.Proofs
theorem uPB : Tryz.prog.underlying 45 = some (.pointer 48) := by kernel_rfl
theorem uUP : Tryz.prog.underlying 104 = some .unsafePointer := by kernel_rfl
theorem iB : ∃ j, Tryz.prog.info? 48 = some j ∧ j.size = 2 := by
 have h : (Tryz.prog.info? 48).map (·.size) = some 2 := by kernel_rfl
 exact Option.map_eq_some_iff.1 h
set_option maxHeartbeats 1000000 in
set_option maxRecDepth 100000 in
theorem copyCheck_used (b : Nat) (w : World) (h0 : w.cell? ⟨b, 0, none⟩ = some (.pointer (some ⟨b, 0, none⟩))) :
  Calls Tryz.prog 51 #[.pointer (some ⟨b, 0, none⟩)] w fun e w' => e = .returned (.tuple #[]) ∧ w' = w := by
 obtain ⟨j, hj, _⟩ := iB
 go_enter Tryz.func51, Tryz.ntmps51
 go_wp2
 rw [Lib.run_neq_ptr_same w _ uPB hj]
 go_wp2
 go_end0
 exact ⟨rfl, rfl⟩
set_option maxHeartbeats 1000000 in
set_option maxRecDepth 100000 in
theorem copyCheck_fresh (b : Nat) (w : World) (h0 : w.cell? ⟨b, 0, none⟩ = some (.pointer none)) (hsh : w.shape? b = some (48, 2)) (hfz : w.frozen? ⟨b, 0, none⟩ = false) :
  Calls Tryz.prog 51 #[.pointer (some ⟨b, 0, none⟩)] w fun e w' => e = .returned (.tuple #[]) ∧ w' = w.setCell ⟨b, 0, none⟩ (.pointer (some ⟨b, 0, none⟩)) := by
 obtain ⟨j, hj, hjs⟩ := iB
 go_enter Tryz.func51, Tryz.ntmps51
 go_wp2
 rw [Lib.run_to_unsafe w ⟨b, 0, none⟩ uPB uUP hj (by rw [hjs]; decide) hsh (Nat.zero_lt_succ 1)]
 simp only [Result.andThen]
 rw [Oper.upon_value]
 go_wp2
 rw [run_callFunc_extern Tryz.func78 (by kernel_rfl) (by kernel_rfl) (by kernel_rfl) (e := Extern.AbiNoEscape.same) (by kernel_rfl)]
 rw [Lib.run_noEscape]
 simp only [Result.andThen]
 rw [Oper.upon_value]
 go_wp2
 rw [Lib.run_from_unsafe w ⟨b, 0, none⟩ uUP uPB hj hsh (by kernel_rfl)]
 simp only [Result.andThen]
 rw [Oper.upon_value]
 go_wp2
 go_end0
 exact ⟨rfl, rfl⟩
theorem Inv.nxup {C : Cx} {B : Base} {kn : Kn} {m : Mp} {σ : Sto} {nx nx' : Nat} {w : World} (h : Inv C B kn m σ nx w) (hn : nx ≤ nx') : Inv C B kn m σ nx' w :=
 ⟨h.knok, h.size, h.os, h.tape, h.output, h.old, h.obj, h.own, h.dist, fun n q => h.dom n (Nat.le_trans hn q), fun p nm ob e => Nat.lt_of_lt_of_le (h.lt p nm ob e) hn, h.uniq, h.stk1, h.glob, h.tab⟩
abbrev bldCells : List Sh := [.mref 0 0, .gs 1 (.int .u8)]
abbrev bldO (k : Bool) : Slots := [(k, .cells 48 bldCells), (k, .tg (.int .u8) 5)]
def S_copyCheck : Sig := .o ⟨bldO false, [.ref 0 0], bldO true, .tup [], fun x => some ((), ((true, (), ()), x.2.2.1, ()))⟩
theorem S_copyCheck_ok : SigOK CX 51 S_copyCheck := by
 refine ⟨by kernel_rfl, fun x r hr B kn m w vs hI hlay hargs => ?_⟩
 cases hr
 obtain ⟨loc, hm⟩ := hlay 0 (by decide)
 obtain ⟨xa, ⟨⟨b0, u1, u2⟩, l, u3⟩⟩ := x
 have hp : (osto 0 (bldO false) ((b0, u1, u2), l, u3))[0]? = some (0, .cells 48 [.mref 0 0 0 b0, .gs 1 1 (.int .u8) l.length]) := rfl
 have hob := hI.obj _ _ _ hp
 simp only [ObjRel, hm] at hob
 obtain ⟨hnl, h0, arr, hw, hrl, hone⟩ := hob
 obtain ⟨v0, vs0, ha0, hr0, hrl⟩ := hrl.uncons
 obtain ⟨v1, vs1, rfl, hr1, hrl⟩ := hrl.uncons
 have : vs1 = [] := List.eq_nil_of_length_eq_zero hrl.1.symm
 subst this
 have harr : arr = #[v0, v1] := by rw [← Array.toArray_toList (xs := arr), ha0]
 subst harr
 obtain ⟨a, as1, rfl, hra, hargs⟩ := RelL.uncons hargs
 have : as1 = [] := List.eq_nil_of_length_eq_zero hargs.1.symm
 subst this
 have hra : Rel kn m (.ref 0 0 0) a := hra
 cases hra with
 | ref _ _ _ loc' hm' =>
  rw [hm] at hm'; cases hm'
  rw [h0]
  refine .inl ⟨by kernel_rfl, ?_⟩
  have fin : ∀ w', w'.heap.size = w.heap.size → w'.os = w.os → w'.tape = w.tape → w'.output = w.output → (∀ b, b ≠ loc.blk → w'.heap[b]? = w.heap[b]?) → w'.heap[loc.blk]? = some (.cells #[.pointer (some ⟨loc.blk, 0, none⟩), v1] 48 (0, 0)) →
    ∃ kn' m', KnLe kn kn' ∧ Inv CX B kn' m' (osto 2 (bldO true) ((true, (), ()), l, ())) (2 + 2) w' ∧ (∀ i, i < 2 → m' i = m i) ∧ (∀ j, j < 2 → ∃ loc, m' (nameOf 2 j (bldO true)) = some loc) ∧ RelOut kn' m' (.ret (.tup [])) (.returned (.tuple #[])) := fun w' q1 q2 q3 q4 q5 q6 => by
   obtain ⟨k1, k2⟩ := hI.write (ob' := .cells 48 [.mref 0 0 0 true, .gs 1 1 (.int .u8) l.length]) hp trivial hm hnl q1 q2 q3 q4 q5 (by
    simp only [ObjRel, hm]
    refine ⟨hnl, h0, _, q6, .cons ?_ (.cons hr1 (.nil _ _)), fun v hv => ?_⟩
    ·have := Rel.mrefSome (kn := kn) 0 0 0 loc hm
     rw [h0] at this
     exact this
    ·simp at hv
     rcases hv with rfl | rfl
     ·rfl
     ·exact hone _ (by rw [ha0]; simp))
   refine ⟨kn, m, KnLe.refl _, k1.nxup (by show 0 + 2 ≤ 4; omega), fun _ _ => rfl, fun j hj => ?_, .tup [] #[] rfl (fun i x v e => by simp at e)⟩
   have hj2 : nameOf 2 j (bldO true) = j := by
    match j, hj with
    | 0, _ => rfl
    | 1, _ => rfl
   rw [hj2]
   exact hlay j hj
  have hr0 : Rel kn m (.mref 0 0 0 b0) v0 := hr0
  cases hr0 with
  | mrefSome _ _ _ loc' hm' =>
   rw [hm] at hm'; cases hm'
   rw [h0] at hw
   refine (copyCheck_used loc.blk w (by rw [Lib.cell_of_heap hw]; rfl)).mono fun e w' ⟨he, hw'⟩ => ?_
   subst he; rw [hw']
   exact fin w rfl rfl rfl rfl (fun _ _ => rfl) hw
  | mrefNil =>
   refine (copyCheck_fresh loc.blk w (by rw [Lib.cell_of_heap hw]; rfl) (by simp [World.shape?, hw]) (Lib.frozen_of_heap hw 0)).mono fun e w' ⟨he, hw'⟩ => ?_
   subst he; rw [hw']
   exact fin _ (by simp [World.setCell]) rfl rfl rfl (fun b hb => Below.heap_setCell _ _ _ _ hb) (by simp [World.setCell, Array.getElem?_modify, hw])
theorem liesAt_off {P : Program} {e : TypeId} (hc : P.cellsOf e = 1) (count o n : Nat) (hn : o + n ≤ count) : liesAt P P.depth e count o e n = true := by
 have hd : P.depth = (2 * (P.types.size + Made.depth) + 1) + 1 := rfl
 rw [hd]
 simp only [liesAt, Bool.or_eq_true]
 left
 rw [hd]
 simp [rowAt, hc, hn, sameLayout, Nat.mod_one]
theorem run_unsafeString_off {P : Program} (w : World) (pt it ty e : TypeId) (hp : P.underlying pt = some (.pointer e)) (hc : P.cellsOf e = 1) (g o cells : Nat) (hsh : w.shape? g = some (e, cells)) (l : List UInt8) (h0 : l ≠ []) (hn : o + l.length ≤ cells) (h63 : l.length ≤ 9223372036854775807)
  (hcell : ∀ j x, l[j]? = some x → w.cell? ((⟨g, o, none⟩ : Addr).add j) = some (.int .u8 x.toNat)) :
  (Builtin.unsafeString_ #[pt, it] ty #[.pointer (some ⟨g, o, none⟩), .int .i64 l.length]).run P w = .ok (.string ⟨l.toArray⟩) (w.freeze ⟨g, o, none⟩ l.length) := by
 have hl : l.length ≠ 0 := by simpa using h0
 have hlb := Lib.run_loadBytes (P := P) w l ⟨g, o, none⟩ .empty hcell
 have hlies := liesAt_off (P := P) hc (cells / P.cellsOf e) o l.length (by rw [hc]; simpa using hn)
 have h63' : ¬ (9223372036854775807 : Int) < (l.length : Int) := by omega
 have hdef : Builtin.unsafeString_ #[pt, it] ty #[.pointer (some ⟨g, o, none⟩), .int .i64 l.length] =
   (do
    let n ← asInt (.int .i64 l.length)
    if n < 0 then runtimePanic (.error "unsafe.String: len out of range")
    if n > IntKind.i64.max then unsupported (.unsafePointer "String: a length above the largest int")
    if n = 0 then pure (.string .empty)
    else if ← variablesAt ⟨g, o, none⟩ (← elemOf pt) n.toNat then do
     let s ← loadBytes ⟨g, o, none⟩ .empty n.toNat
     freeze ⟨g, o, none⟩ n.toNat
     pure (.string s)
    else unsupported (.unsafePointer "String: not so many bytes at ptr")) := rfl
 rw [hdef]
 have hmax : IntKind.i64.max = 9223372036854775807 := rfl
 have hneg : ¬ (l.length : Int) < 0 := by omega
 simp [asInt, asIntOf, hmax, h63', hneg, hl, variablesAt, hsh, elemOf, run_underlying hp, hlies, hlb]
theorem uPU : Tryz.prog.underlying 81 = some (.pointer 5) := by kernel_rfl
theorem cU8 : Tryz.prog.cellsOf 5 = 1 := by kernel_rfl
abbrev Same (w w' : World) (g : Nat) : Prop := w.heap.size ≤ w'.heap.size ∧ w'.os = w.os ∧ w'.tape = w.tape ∧ w'.output = w.output ∧ ∀ b, b < w.heap.size → b ≠ g → w'.heap[b]? = w.heap[b]?
theorem same_drew (w : World) (g : Nat) : Same w w.drew g := ⟨Nat.le_refl _, rfl, rfl, rfl, fun _ _ _ => rfl⟩
theorem same_freeze (w : World) (g o n : Nat) : Same w (w.drew.freeze ⟨g, o, none⟩ n) g := by
 obtain ⟨k1, k2, k3, k4, _⟩ := Lib.below_freeze (Below.drew (Below.refl g w)) (p := ⟨g, o, none⟩) (Nat.le_refl g) n
 refine ⟨k4, k1, k2, k3, fun b hb hne => ?_⟩
 unfold World.freeze
 split
 ·rfl
 ·show (Array.modify _ _ _)[b]? = _
  rw [Array.getElem?_modify, if_neg (fun e => hne e.symm)]
  rfl
theorem same_alloc (w : World) (g : Nat) (ob : Obj) : Same w (w.drew.alloc ob) g := ⟨by simp, rfl, rfl, rfl, fun b hb _ => Below.heap_alloc _ _ _ hb⟩
theorem mixedO : Tryz.prog.follows .mixedOrders = true := by kernel_rfl
set_option maxHeartbeats 2000000 in
set_option maxRecDepth 100000 in
theorem string_row (b g o cap : Nat) (cur : Array Value) (w : World) (l : List UInt8) (p : Value) (h0 : l ≠ []) (hbk : w.heap[b]? = some (.cells #[p, .slice (some ⟨g, o, none⟩) l.length cap] 48 (0, 0)))
  (hg : w.heap[g]? = some (.cells cur 5 (0, 0))) (hnc : l.length ≤ cap) (hcs : o + cap ≤ cur.size) (hcm : cap ≤ maxLen) (hcell : ∀ j x, l[j]? = some x → w.cell? ((⟨g, o, none⟩ : Addr).add j) = some (.int .u8 x.toNat)) :
  Calls Tryz.prog 26 #[.pointer (some ⟨b, 0, none⟩)] w fun e w' => e = .returned (.string ⟨l.toArray⟩) ∧ Same w w' g := by
 have hl0 : l.length ≠ 0 := by simpa using h0
 have mixed := mixedO
 have c1 : w.drew.cell? ⟨b, 1, none⟩ = some (.slice (some ⟨g, o, none⟩) l.length cap) := by
  have : w.drew.heap[b]? = some (.cells #[p, .slice (some ⟨g, o, none⟩) l.length cap] 48 (0, 0)) := hbk
  rw [Lib.cell_of_heap this]; rfl
 have c0 : w.cell? ⟨b, 1, none⟩ = some (.slice (some ⟨g, o, none⟩) l.length cap) := c1
 have hSD : (Builtin.unsafeSliceData_ #[46] 81 #[.slice (some ⟨g, o, none⟩) l.length cap]).run Tryz.prog w.drew = .ok (.pointer (some ⟨g, o, none⟩)) w.drew :=
  Lib.run_unsafeSliceData_row _ _ _ _ _ _ (by omega)
 have hUS : (Builtin.unsafeString_ #[81, 3] 9 #[.pointer (some ⟨g, o, none⟩), .int .i64 l.length]).run Tryz.prog w.drew = .ok (.string ⟨l.toArray⟩) (w.drew.freeze ⟨g, o, none⟩ l.length) := by
  refine run_unsafeString_off w.drew 81 3 9 5 uPU cU8 g o cur.size (by have hg' : w.drew.heap[g]? = some (.cells cur 5 (0, 0)) := hg; simp [World.shape?, hg']) l h0 (by omega) (by unfold maxLen at hcm; omega) hcell
 have hfin := same_freeze w g o l.length
 go_enter Tryz.func26, Tryz.ntmps26
 go_wp2
 go_region_o
 all_goals (go_wp2; go_ret; exact ⟨rfl, hfin⟩)
set_option maxHeartbeats 2000000 in
set_option maxRecDepth 100000 in
theorem string_nil (b g : Nat) (w : World) (p : Value) (hbk : w.heap[b]? = some (.cells #[p, .slice none 0 0] 48 (0, 0))) :
  Calls Tryz.prog 26 #[.pointer (some ⟨b, 0, none⟩)] w fun e w' => e = .returned (.string ⟨#[]⟩) ∧ Same w w' g := by
 have mixed := mixedO
 have c1 : w.drew.cell? ⟨b, 1, none⟩ = some (.slice none 0 0) := by
  have : w.drew.heap[b]? = some (.cells #[p, .slice none 0 0] 48 (0, 0)) := hbk
  rw [Lib.cell_of_heap this]; rfl
 have c0 : w.cell? ⟨b, 1, none⟩ = some (.slice none 0 0) := c1
 have hSD : (Builtin.unsafeSliceData_ #[46] 81 #[.slice none 0 0]).run Tryz.prog w.drew = .ok (.pointer none) w.drew := rfl
 have hUS : (Builtin.unsafeString_ #[81, 3] 9 #[.pointer none, .int .i64 0]).run Tryz.prog w.drew = .ok (.string ⟨#[]⟩) w.drew := Lib.run_unsafeString_none w.drew _ _ _ none
 have hfin := same_drew w g
 go_enter Tryz.func26, Tryz.ntmps26
 go_wp2
 go_region_o
 all_goals (go_wp2; go_ret; exact ⟨rfl, hfin⟩)
set_option maxHeartbeats 2000000 in
set_option maxRecDepth 100000 in
theorem string_room (b g g' o cap : Nat) (w : World) (p : Value) (hc : cap ≠ 0) (hbk : w.heap[b]? = some (.cells #[p, .slice (some ⟨g', o, none⟩) 0 cap] 48 (0, 0))) :
  Calls Tryz.prog 26 #[.pointer (some ⟨b, 0, none⟩)] w fun e w' => e = .returned (.string ⟨#[]⟩) ∧ Same w w' g := by
 have mixed := mixedO
 have c1 : w.drew.cell? ⟨b, 1, none⟩ = some (.slice (some ⟨g', o, none⟩) 0 cap) := by
  have : w.drew.heap[b]? = some (.cells #[p, .slice (some ⟨g', o, none⟩) 0 cap] 48 (0, 0)) := hbk
  rw [Lib.cell_of_heap this]; rfl
 have c0 : w.cell? ⟨b, 1, none⟩ = some (.slice (some ⟨g', o, none⟩) 0 cap) := c1
 have hSD : (Builtin.unsafeSliceData_ #[46] 81 #[.slice (some ⟨g', o, none⟩) 0 cap]).run Tryz.prog w.drew = .ok (.pointer (some ⟨g', o, none⟩)) w.drew :=
  Lib.run_unsafeSliceData_row _ _ _ _ _ _ hc
 have hUS : (Builtin.unsafeString_ #[81, 3] 9 #[.pointer (some ⟨g', o, none⟩), .int .i64 0]).run Tryz.prog w.drew = .ok (.string ⟨#[]⟩) w.drew := Lib.run_unsafeString_none w.drew _ _ _ _
 have hfin := same_drew w g
 go_enter Tryz.func26, Tryz.ntmps26
 go_wp2
 go_region_o
 all_goals (go_wp2; go_ret; exact ⟨rfl, hfin⟩)
set_option maxHeartbeats 2000000 in
set_option maxRecDepth 100000 in
theorem string_noroom (b g g' o : Nat) (cur : Array Value) (w : World) (p : Value) (hbk : w.heap[b]? = some (.cells #[p, .slice (some ⟨g', o, none⟩) 0 0] 48 (0, 0))) (hg : w.heap[g']? = some (.cells cur 5 (0, 0))) :
  Calls Tryz.prog 26 #[.pointer (some ⟨b, 0, none⟩)] w fun e w' => e = .returned (.string ⟨#[]⟩) ∧ Same w w' g := by
 have mixed := mixedO
 have hlt : b < w.heap.size := by
  rcases Nat.lt_or_ge b w.heap.size with h' | h'
  ·exact h'
  ·simp [Array.getElem?_eq_none h'] at hbk
 have c1 : w.drew.cell? ⟨b, 1, none⟩ = some (.slice (some ⟨g', o, none⟩) 0 0) := by
  have : w.drew.heap[b]? = some (.cells #[p, .slice (some ⟨g', o, none⟩) 0 0] 48 (0, 0)) := hbk
  rw [Lib.cell_of_heap this]; rfl
 have hSD : (Builtin.unsafeSliceData_ #[46] 81 #[.slice (some ⟨g', o, none⟩) 0 0]).run Tryz.prog w.drew = .ok (.pointer (some ⟨w.drew.heap.size, 0, none⟩)) (w.drew.alloc (.view ⟨g', o, none⟩ 5)) :=
  Lib.run_unsafeSliceData_zero w.drew _ _ 5 uPU ⟨g', o, none⟩ 0 (5, cur.size) (by have hg' : w.drew.heap[g']? = some (.cells cur 5 (0, 0)) := hg; simp [World.shape?, hg'])
 have c2 : (w.drew.alloc (.view ⟨g', o, none⟩ 5)).cell? ⟨b, 1, none⟩ = some (.slice (some ⟨g', o, none⟩) 0 0) := by
  have : (w.drew.alloc (.view ⟨g', o, none⟩ 5)).heap[b]? = _ := (Lib.alloc_old w.drew _ b hlt).trans hbk
  rw [Lib.cell_of_heap this]; rfl
 have c3 : (w.alloc (.view ⟨g', o, none⟩ 5)).drew.cell? ⟨b, 1, none⟩ = some (.slice (some ⟨g', o, none⟩) 0 0) := c2
 have c0 : w.cell? ⟨b, 1, none⟩ = some (.slice (some ⟨g', o, none⟩) 0 0) := c1
 have hUS : ∀ (W : World) (q : Option Addr), (Builtin.unsafeString_ #[81, 3] 9 #[.pointer q, .int .i64 0]).run Tryz.prog W = .ok (.string ⟨#[]⟩) W := fun W q => Lib.run_unsafeString_none W _ _ _ q
 have hfin := same_alloc w g (.view ⟨g', o, none⟩ 5)
 go_enter Tryz.func26, Tryz.ntmps26
 go_wp2
 go_region_o
 all_goals (go_wp2; go_ret; exact ⟨rfl, hfin⟩)
end Go.Ab
