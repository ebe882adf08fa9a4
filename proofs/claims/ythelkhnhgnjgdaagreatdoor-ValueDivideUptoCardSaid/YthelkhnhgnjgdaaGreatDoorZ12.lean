/-
  What is thrown on the way to a value is caught: the way that throws nothing.
-/
import Derived.Test.YthelkhnhgnjgdaaGreatDoorZ11
import Derived.Test.YthelkhnhgnjgdaaGreatDoorCards
import Derived.Carry
import Derived.Test.YthelkhnhgnjgdaaGreatDoorTie
import Derived.WalkKit
import Derived.ProofKit
import Derived.OpenShut
import Derived.Deep.DeepHandedRow
/-
  FORMS without the program: their order, their size, loops.
-/
set_option linter.unusedVariables false
set_option linter.unusedSimpArgs false
namespace Go.Ab
open Go
theorem Fm.ind {P : Fm → Prop} (h : ∀ k n t l, (∀ f ∈ l, P f) → P (.mk k n t l)) : ∀ f, P f := fun f => Fm.rec (motive_1 := P) (motive_2 := fun l => ∀ f ∈ l, P f) (fun k n t l ih => h k n t l ih) (fun f hf => by cases hf) (fun f r hf hr g hg => by
    rcases List.mem_cons.1 hg with rfl | hg
    · exact hf
    · exact hr g hg) f
mutual
def Fm.big : Fm → Nat
  | .mk _ _ t l => 1 + t.length + Fm.bigL l
def Fm.bigL : List Fm → Nat
  | [] => 0
  | f :: r => f.big + Fm.bigL r
end
theorem big_mem {l : List Fm} {f : Fm} (h : f ∈ l) : f.big ≤ Fm.bigL l := by
  induction l with
  | nil => cases h
  | cons g r ih => rcases List.mem_cons.1 h with rfl | h <;> simp only [Fm.bigL] <;> first | omega | (have := ih h; omega)
theorem big_pos (f : Fm) : 1 ≤ f.big := by cases f; simp only [Fm.big]; omega
theorem big_kids (f : Fm) : Fm.bigL f.l < f.big := by cases f; simp only [Fm.big, Fm.l]; omega
theorem length_le_big (l : List Fm) : l.length ≤ Fm.bigL l := by
  induction l with
  | nil => simp [Fm.bigL]
  | cons f r ih => simp only [Fm.bigL, List.length_cons]; have := big_pos f; omega
def cmpI (a b : Int) : Int := if a < b then -1 else if b < a then 1 else 0
def cmpS (a b : List UInt8) : Int := if Op.bytesLess a b = true then -1 else if a = b then 0 else 1
mutual
def cmpF : Fm → Fm → Int
  | .mk k n t l, g => if ¬ k = g.k then cmpI k g.k else if k = 0 then cmpI n g.n else if k = 1 ∨ k = 2 then cmpS t g.t else if k = 3 then cmpL l g.l else 0
def cmpL : List Fm → List Fm → Int
  | [], m => if m = [] then 0 else -1
  | f :: r, m => match m with
    | [] => 1
    | g :: m => if ¬ cmpF f g = 0 then cmpF f g else cmpL r m
end
theorem cmpL_drop {l m : List Fm} {i : Nat} (h : i < l.length) (h' : i < m.length) : cmpL (l.drop i) (m.drop i) = if ¬ cmpF l[i] m[i] = 0 then cmpF l[i] m[i] else cmpL (l.drop (i + 1)) (m.drop (i + 1)) := by
  rw [List.drop_eq_getElem_cons h, List.drop_eq_getElem_cons h']; simp only [cmpL]
/-- How three comparisons hang together: of a and b, of b and c, of a and c. -/
def Tri (x y z : Int) : Prop := (x ≤ 0 → y ≤ 0 → z ≤ 0) ∧ (x < 0 → y ≤ 0 → z < 0) ∧ (x ≤ 0 → y < 0 → z < 0) ∧ (x = 0 → z = y) ∧ (y = 0 → z = x)
theorem Tri.lex {x y z x' y' z' : Int} (h : Tri x y z) (h' : Tri x' y' z') : Tri (if ¬ x = 0 then x else x') (if ¬ y = 0 then y else y') (if ¬ z = 0 then z else z') := by
  unfold Tri at *
  split <;> split <;> split <;> omega
theorem cmpI_neg (a b : Int) : cmpI b a = - cmpI a b := by unfold cmpI; split <;> split <;> (try split) <;> omega
theorem cmpI_tri (a b c : Int) : Tri (cmpI a b) (cmpI b c) (cmpI a c) := by
  unfold cmpI Tri; split <;> split <;> split <;> (try split) <;> (try split) <;> (try split) <;> omega
theorem bytesLess_irrefl : ∀ a : List UInt8, Op.bytesLess a a = false
  | [] => rfl
  | a :: x => by simp [Op.bytesLess, bytesLess_irrefl x]
theorem u8lt_nat (a b : UInt8) : (a < b) = (a.toNat < b.toNat) := rfl
theorem u8eq_nat (a b : UInt8) : (a = b) ↔ (a.toNat = b.toNat) := ⟨fun h => by rw [h], fun h => UInt8.toNat_inj.1 h⟩
theorem cmpS_nil (b : List UInt8) : cmpS [] b = if b = [] then 0 else -1 := by
  cases b <;> simp [cmpS, Op.bytesLess]
theorem cmpS_nil' (b : List UInt8) : cmpS b [] = if b = [] then 0 else 1 := by
  cases b <;> simp [cmpS, Op.bytesLess]
theorem cmpS_cons (a b : UInt8) (x y : List UInt8) : cmpS (a :: x) (b :: y) = if ¬ cmpI a.toNat b.toNat = 0 then cmpI a.toNat b.toNat else cmpS x y := by
  unfold cmpS cmpI
  simp only [Op.bytesLess, Bool.or_eq_true, Bool.and_eq_true, decide_eq_true_eq, beq_iff_eq, List.cons.injEq, u8lt_nat, u8eq_nat]
  by_cases h1 : a.toNat < b.toNat
  · simp [h1]
  · by_cases h2 : b.toNat < a.toNat
    · have : ¬ a.toNat = b.toNat := by omega
      simp [h1, h2, this]
    · have e : a = b := UInt8.toNat_inj.1 (by omega)
      subst e
      simp
theorem cmpS_neg : ∀ a b : List UInt8, cmpS b a = - cmpS a b
  | [], b => by rw [cmpS_nil, cmpS_nil']; split <;> rfl
  | a :: x, [] => by rw [cmpS_nil, cmpS_nil']; rfl
  | a :: x, b :: y => by rw [cmpS_cons, cmpS_cons, cmpS_neg x y, cmpI_neg]; split <;> split <;> omega
theorem cmpS_tri : ∀ a b c : List UInt8, Tri (cmpS a b) (cmpS b c) (cmpS a c)
  | [], b, c => by
    rw [cmpS_nil, cmpS_nil]
    cases b with
    | nil => simp only [if_true, cmpS_nil]; unfold Tri; split <;> omega
    | cons b y => cases c with
      | nil => rw [cmpS_nil']; simp [Tri]
      | cons c z => simp [Tri]
  | a :: x, [], c => by
    rw [cmpS_nil, cmpS_nil']
    cases c <;> simp [Tri, cmpS_nil']
  | a :: x, b :: y, [] => by
    rw [cmpS_nil', cmpS_nil']; simp [Tri]
  | a :: x, b :: y, c :: z => by
    rw [cmpS_cons, cmpS_cons, cmpS_cons]
    exact (cmpI_tri _ _ _).lex (cmpS_tri x y z)

theorem cmpF_mk (k k' : Int) (n n' : Int) (t t' : List UInt8) (l l' : List Fm) : cmpF (.mk k n t l) (.mk k' n' t' l') = if k = k' then (if k = 0 then cmpI n n' else if k = 1 ∨ k = 2 then cmpS t t' else if k = 3 then cmpL l l' else 0) else cmpI k k' := by
  by_cases h : k = k'
  · subst h; simp [cmpF, Fm.k, Fm.n, Fm.t, Fm.l]
  · simp [cmpF, Fm.k, h]
theorem cmpL_neg_of : ∀ l m : List Fm, (∀ f ∈ l, ∀ g, cmpF g f = - cmpF f g) → cmpL m l = - cmpL l m
  | [], m, _ => by cases m <;> simp [cmpL]
  | f :: r, [], _ => by simp [cmpL]
  | f :: r, g :: m, h => by
    simp only [cmpL]
    rw [h f (by simp) g, cmpL_neg_of r m (fun f hf => h f (by simp [hf]))]
    split <;> split <;> omega
theorem cmpF_neg : ∀ f g : Fm, cmpF g f = - cmpF f g := Fm.ind fun k n t l ih g => by
  obtain ⟨k', n', t', l'⟩ := g
  rw [cmpF_mk, cmpF_mk]
  by_cases h : k = k'
  · subst h
    simp only [if_true]
    split
    · exact cmpI_neg _ _
    · split
      · exact cmpS_neg _ _
      · split
        · exact cmpL_neg_of l l' ih
        · rfl
  · rw [if_neg (show ¬ k' = k from fun e => h e.symm), if_neg h]; exact cmpI_neg _ _
theorem cmpL_tri_of : ∀ l m o : List Fm, (∀ f ∈ l, ∀ g h, Tri (cmpF f g) (cmpF g h) (cmpF f h)) → Tri (cmpL l m) (cmpL m o) (cmpL l o)
  | [], m, o, _ => by
    cases m with
    | nil => cases o <;> simp [cmpL, Tri]
    | cons g m => cases o with
      | nil => simp [cmpL, Tri]
      | cons h o => simp [cmpL, Tri]
  | f :: r, [], o, _ => by cases o <;> simp [cmpL, Tri]
  | f :: r, g :: m, [], _ => by simp [cmpL, Tri]
  | f :: r, g :: m, h :: o, ih => by
    simp only [cmpL]
    exact (ih f (by simp) g h).lex (cmpL_tri_of r m o (fun f hf => ih f (by simp [hf])))
theorem cmpI_ne {a b : Int} (h : ¬ a = b) : ¬ cmpI a b = 0 := by unfold cmpI; split <;> (try split) <;> omega
theorem cmpI_self (a : Int) : cmpI a a = 0 := by unfold cmpI; simp
theorem cmpF_tri : ∀ f g h : Fm, Tri (cmpF f g) (cmpF g h) (cmpF f h) := Fm.ind fun k n t l ih g h => by
  obtain ⟨k', n', t', l'⟩ := g
  obtain ⟨k'', n'', t'', l''⟩ := h
  have e : ∀ (k k' : Int) (n n' : Int) (t t' : List UInt8) (l l' : List Fm), cmpF (.mk k n t l) (.mk k' n' t' l') = if ¬ cmpI k k' = 0 then cmpI k k' else if k = 0 then cmpI n n' else if k = 1 ∨ k = 2 then cmpS t t' else if k = 3 then cmpL l l' else 0 := by
    intro k k' n n' t t' l l'
    rw [cmpF_mk]
    by_cases h : k = k'
    · subst h; simp [cmpI_self]
    · rw [if_neg h, if_pos (cmpI_ne h)]
  by_cases h1 : k = k'
  · by_cases h2 : k' = k''
    · subst h1; subst h2
      rw [e, e, e]
      refine (cmpI_tri _ _ _).lex ?_
      split
      · exact cmpI_tri _ _ _
      · split
        · exact cmpS_tri _ _ _
        · split
          · exact cmpL_tri_of l l' l'' ih
          · simp [Tri]
    · subst h1
      rw [e, e k k'', e k k'']
      have := cmpI_ne h2
      rw [if_pos this, if_pos this, cmpI_self, if_neg (by simp)]
      unfold Tri
      omega
  · have t := cmpI_tri k k' k''
    have := cmpI_ne h1
    by_cases h2 : k' = k''
    · subst h2
      rw [e, e k' k', e k k', if_pos this, cmpI_self, if_neg (by simp)]
      unfold Tri
      omega
    · have h3 := cmpI_ne h2
      rw [e, e k' k'', e k k'', if_pos this, if_pos h3]
      unfold Tri at *
      split
      · omega
      · rename_i h4
        have : cmpI k k'' = 0 := Classical.not_not.1 h4
        omega
theorem cmpL_self_of : ∀ l : List Fm, (∀ f ∈ l, cmpF f f = 0) → cmpL l l = 0
  | [], _ => by simp [cmpL]
  | f :: r, h => by simp only [cmpL, h f (by simp)]; simpa using cmpL_self_of r (fun f hf => h f (by simp [hf]))
theorem cmpS_self (a : List UInt8) : cmpS a a = 0 := by simp [cmpS, bytesLess_irrefl]
theorem cmpF_self : ∀ f : Fm, cmpF f f = 0 := Fm.ind fun k n t l ih => by
  rw [cmpF_mk, if_pos rfl]
  split
  · exact cmpI_self _
  · split
    · exact cmpS_self _
    · split
      · exact cmpL_self_of l ih
      · rfl
theorem cmpF_trans {f g h : Fm} (h1 : cmpF f g < 0) (h2 : cmpF g h < 0) : cmpF f h < 0 := (cmpF_tri f g h).2.1 h1 (Int.le_of_lt h2)
theorem cmpF_eq_l {f g : Fm} (h : cmpF f g = 0) (o : Fm) : cmpF f o = cmpF g o := (cmpF_tri f g o).2.2.2.1 h
theorem cmpF_eq_r {f g : Fm} (h : cmpF f g = 0) (o : Fm) : cmpF o f = cmpF o g := by
  rw [cmpF_neg f o, cmpF_neg g o, cmpF_eq_l h]
theorem cmpF_lt_gt {f g : Fm} : 0 < cmpF f g ↔ cmpF g f < 0 := by rw [cmpF_neg f g]; omega


/-! ### Functions with a bound on their depth: what they come to, if it is something -/
def Up {R : Type} (N : Prop) (o : Option R) (v : R) : Prop := o = some v ∨ (o = none ∧ N)
theorem Up.mono {R : Type} {N N' : Prop} {o : Option R} {v : R} (h : Up N o v) (k : N → N') : Up N' o v := h.imp id fun h => ⟨h.1, k h.2⟩
theorem Up.of {R : Type} {N : Prop} {o : Option R} {v : R} (h : o = some v) : Up N o v := .inl h
theorem Up.bind {R S : Type} {N : Prop} {o : Option R} {v : R} {F : R → Option S} {u : S} (h : Up N o v) (k : Up N (F v) u) : Up N (Option.bind o F) u := by
  rcases h with h | ⟨h, n⟩
  · rw [h]; exact k
  · exact .inr ⟨by rw [h]; rfl, n⟩
theorem limF_up {R : Type} {f : Nat → Option R} {v : R} {b : Nat} (h : ∀ k, Up (k < b) (f k) v) : limF f = some v := by
  refine limF_eq ⟨b, ?_⟩ fun k r hr => ?_
  · rcases h b with h | ⟨_, h⟩
    · exact h
    · omega
  · rcases h k with h | ⟨h, _⟩
    · rw [h] at hr; cases hr; rfl
    · rw [h] at hr; cases hr
theorem loopM_none {L R : Type} {b : L → Option (Step L R)} {l : L} (h : b l = none) : loopM b l = none := by
  cases hx : loopM b l with
  | none => rfl
  | some r =>
    obtain ⟨d, hd⟩ := loopM_iff.1 hx
    cases d with
    | zero => cases hd
    | succ d => simp only [iterM, h] at hd; cases hd
/-- A loop over indices. -/
theorem loop_ix {L R A : Type} {N : Prop} {b : L → Option (Step L R)} {F : R → Option A} (st : Nat → L) (res : Nat → A) (n : Nat)
    (hstep : ∀ i, i < n → (b (st i) = some (.next (st (i + 1))) ∧ res i = res (i + 1)) ∨ (∃ r, b (st i) = some (.done r) ∧ Up N (F r) (res i)) ∨ (b (st i) = none ∧ N))
    (hend : ∃ r, b (st n) = some (.done r) ∧ Up N (F r) (res n)) : Up N (Option.bind (loopM b (st 0)) F) (res 0) := by
  have key : ∀ j i, i + j = n → Up N (Option.bind (loopM b (st i)) F) (res i) := by
    intro j
    induction j with
    | zero =>
      intro i hi
      obtain rfl : i = n := by omega
      obtain ⟨r, h1, h2⟩ := hend
      rw [loopM_done h1]; exact h2
    | succ j ih =>
      intro i hi
      rcases hstep i (by omega) with ⟨h1, h2⟩ | ⟨r, h1, h2⟩ | ⟨h1, h2⟩
      · rw [loopM_next h1, h2]; exact ih (i + 1) (by omega)
      · rw [loopM_done h1]; exact h2
      · rw [loopM_none h1]; exact .inr ⟨rfl, h2⟩
  exact key n 0 (by omega)
theorem wrapN {i : Nat} (h : i < 4611686018427387904) : IntKind.wrap .i64 ((i : Int) + 1) = ((i + 1 : Nat) : Int) := by
  rw [w64 (by omega) (by omega)]; rfl
theorem getD_in {α : Type} {l : List α} {i : Nat} (h : i < l.length) (d : α) : l.getD i d = l[i] := by simp [h]

end Go.Ab

/-
  THE BOUNDARY: what an argument of a plain type reads as is plain data.
-/
set_option linter.unusedVariables false
set_option linter.unusedSimpArgs false
set_option maxRecDepth 100000
namespace Go.Ab
open Go Go.RowKit Go.Proofs

/-- All that the cells of a world hold. -/
def knW (W : World) : Kn := fun b o => W.cell? ⟨b, o, none⟩
theorem knOK_W (W : World) : KnOK CX (knW W) W := ⟨fun _ _ _ h => h, fun g => .any _⟩

/-! ### Types of plain data -/
def bigE : (e : E) → e.den → Nat
  | .str, (l : List UInt8) => l.length
  | .form, (f : Fm) => f.big
  | .pr a b, x => bigE a x.1 + bigE b x.2
  | .slice e, (l : List e.den) => (l.map fun x => max 1 (bigE e x)).sum
  | _, _ => 0
def wfE : (e : E) → e.den → Prop
  | .int .i64, (n : Int) => -9223372036854775808 ≤ n ∧ n ≤ 9223372036854775807
  | .pr a b, x => wfE a x.1 ∧ wfE b x.2
  | .slice e, (l : List e.den) => ∀ x ∈ l, wfE e x
  | _, _ => True
def isI64 (P : Program) (t : TypeId) : Bool := match P.underlying t with
  | some (.int .i64) => Nat.beq (P.cellsOf t) 1
  | _ => false
def isStr (P : Program) (t : TypeId) : Bool := match P.underlying t with
  | some .string => Nat.beq (P.cellsOf t) 1
  | _ => false
def isSl (P : Program) (t e : TypeId) : Bool := match P.underlying t with
  | some (.slice e') => Nat.beq e' e && Nat.beq (P.cellsOf t) 1
  | _ => false
def kFs (r : TypeId → E → Bool) (P : Program) : List Field → Nat → E → Bool
  | [], _, .un => true
  | [f], o, e => Nat.beq f.offset o && (Nat.beq (P.cellsOf f.type) e.size && r f.type e)
  | f :: fs, o, .pr a b => Nat.beq f.offset o && (Nat.beq (P.cellsOf f.type) a.size && (r f.type a && kFs r P fs (o + a.size) b))
  | _, _, _ => false
def isForm (P : Program) (t : TypeId) : Bool := match P.underlying t with
  | some (.struct fs) => match fs.toList with
    | [a, b, c, d] => (Nat.beq a.offset 0 && (Nat.beq b.offset 1 && (Nat.beq c.offset 2 && Nat.beq d.offset 3))) && ((isI64 P a.type && isI64 P b.type) && (isStr P c.type && (isSl P d.type t && Nat.beq (P.cellsOf t) 4)))
    | _ => false
  | _ => false
def kOK (P : Program) : Nat → TypeId → E → Bool
  | 0, _, _ => false
  | n + 1, t, e => match e with
    | .int .i64 => isI64 P t
    | .str => isStr P t
    | .bool => match P.underlying t with
      | some .bool => true
      | _ => false
    | .form => isForm P t
    | .slice e => match P.underlying t with
      | some (.slice t') => kOK P n t' e && (Nat.beq (P.cellsOf t') e.size && Nat.blt 0 e.size)
      | _ => false
    | e => match P.underlying t with
      | some (.struct fs) => Nat.beq (P.cellsOf t) e.size && kFs (kOK P n) P fs.toList 0 e
      | _ => false

/-- What is asked of a measure of readings. -/
structure Bulk {H : Type} (bulk : DataW H → Nat) (bulkAll : List (DataW H) → Nat) : Prop where
  hs : ∀ l, bulk (.lit (.string l)) = l.length + 1
  hsl : ∀ l r, bulkAll l ≤ bulk (.slice l r)
  hag : ∀ l, bulk (.agg l) = bulkAll l + 1
  hp : ∀ d, 1 ≤ bulk d
  h0 : bulkAll [] = 0
  h1 : ∀ d l, bulkAll (d :: l) = bulk d + bulkAll l

section
variable {H : Type} {enc : TypeId × Value → H} {W : World} {sp : Nat → Bool} {f : Nat} {cs : List Value} {d : DataW H} {ps : List MemPlace} {P : Program}
theorem mapM_get {α β : Type} {g : α → Option β} : ∀ {l : List α} {r : List β}, l.mapM g = some r → r.length = l.length ∧ ∀ (i : Nat) (x : α), l[i]? = some x → ∃ y, r[i]? = some y ∧ g x = some y
  | [], r, h => by
    simp at h
    subst h
    exact ⟨rfl, fun i x h => by simp at h⟩
  | a :: l, r, h => by
    simp only [List.mapM_cons, Option.bind_eq_bind, Option.bind_eq_some_iff] at h
    obtain ⟨b, h1, r', h2, h3⟩ := h
    cases h3
    obtain ⟨q1, q2⟩ := mapM_get h2
    refine ⟨by simp [q1], fun i x hx => ?_⟩
    cases i with
    | zero => simp at hx; subst hx; exact ⟨b, rfl, h1⟩
    | succ i => simpa using q2 i x (by simpa using hx)
theorem cells?_get {a : Addr} {n : Nat} {cs : List Value} (h : W.cells? 0 a n = some cs) : cs.length = n ∧ ∀ i, i < n → ∃ v, cs[i]? = some v ∧ W.cell? (a.add i) = some v := by
  unfold World.cells? at h
  rw [if_pos (Nat.zero_le _)] at h
  obtain ⟨h1, h2⟩ := mapM_get h
  refine ⟨by simpa using h1, fun i hi => ?_⟩
  obtain ⟨v, a1, a2⟩ := h2 i i (by simp [hi])
  exact ⟨v, a1, a2⟩
theorem addr_none {a : Addr} {v : Value} (h : W.cell? a = some v) : a = ⟨a.block, a.off, none⟩ := by
  obtain ⟨b, o, s⟩ := a
  cases s with
  | none => rfl
  | some k =>
    unfold World.cell? at h
    simp at h
    split at h <;> cases h
theorem bulk_mem {bulk : DataW H → Nat} {bulkAll : List (DataW H) → Nat} (h1 : ∀ d l, bulkAll (d :: l) = bulk d + bulkAll l) : ∀ (ds : List (DataW H)) (i : Nat) (d : DataW H), ds[i]? = some d → bulk d ≤ bulkAll ds
  | [], i, d, h => by simp at h
  | x :: ds, 0, d, h => by simp at h; subst h; rw [h1]; omega
  | x :: ds, i + 1, d, h => by have := bulk_mem h1 ds i d (by simpa using h); rw [h1]; omega
theorem bulk_length {bulk : DataW H → Nat} {bulkAll : List (DataW H) → Nat} (hp : ∀ d, 1 ≤ bulk d) (h1 : ∀ d l, bulkAll (d :: l) = bulk d + bulkAll l) : ∀ (ds : List (DataW H)), ds.length ≤ bulkAll ds
  | [] => Nat.zero_le _
  | x :: ds => by have a := bulk_length hp h1 ds; have b := hp x; rw [h1, List.length_cons]; omega
theorem sum_le {α : Type} {bulk : DataW H → Nat} {bulkAll : List (DataW H) → Nat} (h1 : ∀ d l, bulkAll (d :: l) = bulk d + bulkAll l) (hp : ∀ d, 1 ≤ bulk d) (g : α → Nat) : ∀ (l : List α) (ds : List (DataW H)), l.length = ds.length → (∀ (i : Nat) (x : α) (d : DataW H), l[i]? = some x → ds[i]? = some d → g x ≤ bulk d) → (l.map fun x => max 1 (g x)).sum ≤ bulkAll ds
  | [], ds, hl, h => by simp
  | x :: l, [], hl, h => by simp at hl
  | x :: l, d :: ds, hl, h => by
    simp only [List.map_cons, List.sum_cons, h1]
    have a1 := h 0 x d rfl rfl
    have a2 := sum_le h1 hp g l ds (by simpa using hl) (fun i x d a b => h (i + 1) x d (by simpa using a) (by simpa using b))
    have a3 := hp d
    omega
/-- What is there one by one makes a list. -/
theorem list_of {α : Type} {Q : Nat → α → Prop} : ∀ (n : Nat), (∀ i, i < n → ∃ x, Q i x) → ∃ l : List α, l.length = n ∧ ∀ (i : Nat) (x : α), l[i]? = some x → Q i x
  | 0, _ => ⟨[], rfl, fun i x h => by simp at h⟩
  | n + 1, h => by
    obtain ⟨l, h1, h2⟩ := list_of n (fun i hi => h i (by omega))
    obtain ⟨x, hx⟩ := h n (by omega)
    refine ⟨l ++ [x], by simp [h1], fun i y hy => ?_⟩
    rcases Nat.lt_or_ge i n with hi | hi
    · rw [List.getElem?_append_left (by omega)] at hy; exact h2 i y hy
    · rw [List.getElem?_append_right (by omega)] at hy
      have : i = n := by
        have := (List.getElem?_eq_some_iff.1 hy).1
        simp at this; omega
      subst this
      simp [h1] at hy
      subst hy
      exact hx
/-- Rows that lie one behind the other make a slice. -/
theorem rel_vec {sz : Nat} (hsz : 0 < sz) {rows : List (List AV)} {a : Addr} {len cap : Nat} (hl : rows.length = len) (hle : len ≤ cap) (h62 : len ≤ 4611686018427387904) (hr : ∀ (i : Nat) (row : List AV), rows[i]? = some row → row.length = sz ∧ ∃ rowv, W.cells? 0 (a.add (i * sz)) sz = some rowv ∧ RelC (knW W) m0 row rowv) :
    Rel (knW W) m0 (.vec sz rows) (.slice (some a) len cap) := by
  cases rows with
  | nil => simp at hl; subst hl; exact .vecNil _ _ _
  | cons r0 rows =>
    obtain ⟨_, rowv0, b0, c0⟩ := hr 0 r0 rfl
    obtain ⟨_, hc0⟩ := cells?_get b0
    obtain ⟨v0, _, hv0⟩ := hc0 0 hsz
    simp [Addr.add] at hv0
    have ha := addr_none hv0
    generalize a.block = b at ha
    generalize a.off = o at ha
    subst ha
    have hcell : ∀ (i : Nat) (row : List AV) (j : Nat) (x : AV), (r0 :: rows)[i]? = some row → row[j]? = some x → ∃ v, W.cell? ⟨b, o + i * sz + j, none⟩ = some v ∧ Rel (knW W) m0 x v ∧ v.oneCell' = true := by
      intro i row j x hrow hx
      obtain ⟨hrl0, rowv, bi, ci⟩ := hr i row hrow
      obtain ⟨hrl, hci⟩ := cells?_get bi
      have hj : j < sz := by have := (List.getElem?_eq_some_iff.1 hx).1; omega
      obtain ⟨v, hv1, hv2⟩ := hci j hj
      rw [add_mk, add_mk] at hv2
      exact ⟨v, hv2, ci.1.2 j x v hx hv1, ci.2 v (List.mem_of_getElem? hv1)⟩
    have := Rel.vec (kn := knW W) (m := m0) sz (r0 :: rows) b o cap (fun i j => (W.cell? ⟨b, o + i * sz + j, none⟩).getD undef) (by omega) (by rw [hl]; omega)
      (fun i row hrow => (hr i row hrow).1)
      (fun i row j x hrow hx => by
        obtain ⟨v, h1, _⟩ := hcell i row j x hrow hx
        show W.cell? _ = _
        rw [h1]; rfl)
      (fun i row j x hrow hx => by
        obtain ⟨v, h1, h2, _⟩ := hcell i row j x hrow hx
        simp only [h1, Option.getD_some]; exact h2)
      (fun i row j x hrow hx => by
        obtain ⟨v, h1, _, h3⟩ := hcell i row j x hrow hx
        simp only [h1, Option.getD_some]; exact h3)
    rw [hl] at this
    exact this
theorem trod_i64 {t : TypeId} (hk : isI64 P t = true) (h : DataW.trod enc P W 0 sp true f t cs = some (d, ps)) : ∃ n, cs = [.int .i64 n] ∧ d = .lit (.int .i64 n) ∧ -9223372036854775808 ≤ n ∧ n ≤ 9223372036854775807 := by
  cases f with
  | zero => unfold DataW.trod at h; cases h
  | succ f =>
    unfold isI64 at hk
    split at hk
    · rename_i hu
      unfold DataW.trod at h
      rw [hu] at h
      split at h <;> try (simp_all; done)
      rename_i k k' n hcs
      cases hcs
      split at h
      · rename_i hw
        obtain ⟨rfl, hw⟩ := hw
        cases h
        simp only [Lit.wf, Bool.and_eq_true, decide_eq_true_eq] at hw
        exact ⟨n, rfl, rfl, hw.1, hw.2⟩
      · cases h
    · cases hk
theorem trod_str {t : TypeId} (hk : isStr P t = true) (h : DataW.trod enc P W 0 sp true f t cs = some (d, ps)) : ∃ s, cs = [.string s] ∧ d = .lit (.string s.data.toList) := by
  cases f with
  | zero => unfold DataW.trod at h; cases h
  | succ f =>
    unfold isStr at hk
    split at hk
    · rename_i hu
      unfold DataW.trod at h
      rw [hu] at h
      split at h <;> simp_all
    · cases hk
theorem trod_slice {t e : TypeId} (hu : P.underlying t = some (.slice e)) (h : DataW.trod enc P W 0 sp true (f + 1) t cs = some (d, ps)) : (cs = [.slice none 0 0] ∧ d = .nil) ∨
    ∃ a len cap elems rest, cs = [.slice (some a) len cap] ∧ len ≤ cap ∧ cap ≤ maxLen ∧ d = .slice (elems.map (·.1)) rest ∧
      (List.range len).mapM (fun i => (W.cells? 0 (a.add (i * P.cellsOf e)) (P.cellsOf e)).bind (DataW.trod enc P W 0 sp true f e)) = some elems := by
  unfold DataW.trod at h
  rw [hu] at h
  split at h <;> try (simp_all; done)
  rename_i e' a len cap he
  cases he
  refine .inr ?_
  dsimp only at h
  split at h
  · rename_i hc
    cases he : (List.range len).mapM (fun i => (W.cells? 0 (a.add (i * P.cellsOf e)) (P.cellsOf e)).bind (DataW.trod enc P W 0 sp true f e)) with
    | none => rw [he] at h; cases h
    | some elems =>
      rw [he] at h
      simp only [Option.bind_some] at h
      rw [Option.map_eq_some_iff] at h
      obtain ⟨rest, _, h2⟩ := h
      simp only [Prod.mk.injEq] at h2
      exact ⟨a, len, cap, elems, _, rfl, hc.2.1, hc.2.2, h2.1.symm, he⟩
  · cases h
variable {bulk : DataW H → Nat} {bulkAll : List (DataW H) → Nat}
/-- A slice of what can be read. -/
theorem read_slice (B : Bulk bulk bulkAll) {α : Type} {t e : TypeId} {sz : Nat} (hsz : 0 < sz) (hce : P.cellsOf e = sz) (row : α → List AV) (hrow : ∀ x, (row x).length = sz) (big : α → Nat) (wf : α → Prop) (hu : P.underlying t = some (.slice e))
    (ih : ∀ cs d ps, DataW.trod enc P W 0 sp true f e cs = some (d, ps) → bulk d ≤ 4611686018427387904 → ∃ x : α, RelC (knW W) m0 (row x) cs ∧ big x ≤ bulk d ∧ wf x)
    (h : DataW.trod enc P W 0 sp true (f + 1) t cs = some (d, ps)) (hb : bulk d ≤ 4611686018427387904) : ∃ l : List α, RelC (knW W) m0 [.vec sz (l.map row)] cs ∧ (l.map fun x => max 1 (big x)).sum ≤ bulk d ∧ ∀ x ∈ l, wf x := by
  rcases trod_slice hu h with ⟨rfl, rfl⟩ | ⟨a, len, cap, elems, rest, rfl, hle, hmx, rfl, hm⟩
  · refine ⟨[], ⟨.cons (.vecNone _) (.nil _ _), fun v hv => ?_⟩, by simp, fun x hx => by cases hx⟩
    simp at hv; subst hv; rfl
  · obtain ⟨m1, m2⟩ := mapM_get hm
    simp only [List.length_range] at m1
    have hbs := B.hsl (elems.map (·.1)) rest
    have hbl := bulk_length B.hp B.h1 (elems.map (·.1))
    rw [List.length_map, m1] at hbl
    have each : ∀ i, i < len → ∃ x : α, ∃ rowv : List Value, ∃ y, elems[i]? = some y ∧ W.cells? 0 (a.add (i * sz)) sz = some rowv ∧ RelC (knW W) m0 (row x) rowv ∧ big x ≤ bulk y.1 ∧ wf x := by
      intro i hi
      obtain ⟨y, a1, a2⟩ := m2 i i (by simp [hi])
      simp only [hce, Option.bind_eq_some_iff] at a2
      obtain ⟨rowv, b1, b2⟩ := a2
      have hby := bulk_mem B.h1 (elems.map (·.1)) i y.1 (by rw [List.getElem?_map, a1]; rfl)
      obtain ⟨x, c1, c2, c3⟩ := ih rowv y.1 y.2 b2 (by omega)
      exact ⟨x, rowv, y, a1, b1, c1, c2, c3⟩
    obtain ⟨l, l1, l2⟩ := list_of len each
    refine ⟨l, ⟨.cons ?_ (.nil _ _), fun v hv => by simp at hv; subst hv; rfl⟩, ?_, fun x hx => ?_⟩
    · refine rel_vec hsz (by simpa using l1) hle (by omega) fun i r hr => ?_
      rw [List.getElem?_map, Option.map_eq_some_iff] at hr
      obtain ⟨x, hx, rfl⟩ := hr
      obtain ⟨rowv, y, _, b1, c1, _⟩ := l2 i x hx
      exact ⟨hrow x, rowv, b1, c1⟩
    · have := sum_le B.h1 B.hp big l (elems.map (·.1)) (by simp [l1, m1]) (fun i x d hx hd => by
        obtain ⟨rowv, y, a1, _, _, c2, _⟩ := l2 i x hx
        rw [List.getElem?_map, a1] at hd
        simp at hd
        subst hd
        exact c2)
      omega
    · obtain ⟨i, hi⟩ := List.getElem?_of_mem hx
      obtain ⟨_, _, _, _, _, _, c3⟩ := l2 i x hi
      exact c3
theorem bigL_sum (l : List Fm) : (l.map fun x => max 1 x.big).sum = Fm.bigL l := by
  induction l with
  | nil => rfl
  | cons f r ih => simp only [List.map_cons, List.sum_cons, Fm.bigL, ih]; have := big_pos f; omega
/-- What reads as a form is one. -/
theorem form_read (B : Bulk bulk bulkAll) {t : TypeId} (hk : isForm P t = true) : ∀ (f : Nat) (cs : List Value) (d : DataW H) (ps : List MemPlace), DataW.trod enc P W 0 sp true f t cs = some (d, ps) → bulk d ≤ 4611686018427387904 →
    ∃ x : Fm, RelC (knW W) m0 x.row cs ∧ x.big ≤ bulk d := by
  intro f
  induction f using Nat.strongRecOn with
  | _ f ih =>
  intro cs d ps h hbd
  cases f with
  | zero => unfold DataW.trod at h; cases h
  | succ f =>
  have hk' := hk
  unfold isForm at hk
  split at hk
  · rename_i fs hu
    split at hk
    · rename_i f0 f1 f2 f3 hfs
      simp only [Bool.and_eq_true] at hk
      obtain ⟨⟨o0, o1, o2, o3⟩, ⟨k0, k1⟩, k2, k3, hc⟩ := hk
      have o0 := Nat.eq_of_beq_eq_true o0
      have o1 := Nat.eq_of_beq_eq_true o1
      have o2 := Nat.eq_of_beq_eq_true o2
      have o3 := Nat.eq_of_beq_eq_true o3
      have hc := Nat.eq_of_beq_eq_true hc
      have c1 : ∀ {u : TypeId}, isI64 P u = true → P.cellsOf u = 1 := fun {u} h => by
        unfold isI64 at h
        split at h
        · exact Nat.eq_of_beq_eq_true h
        · cases h
      have c2 : ∀ {u : TypeId}, isStr P u = true → P.cellsOf u = 1 := fun {u} h => by
        unfold isStr at h
        split at h
        · exact Nat.eq_of_beq_eq_true h
        · cases h
      obtain ⟨hu3, c3⟩ : P.underlying f3.type = some (.slice t) ∧ P.cellsOf f3.type = 1 := by
        unfold isSl at k3
        split at k3
        · rename_i e' he
          rw [Bool.and_eq_true] at k3
          rw [Nat.eq_of_beq_eq_true k3.1] at he
          exact ⟨he, Nat.eq_of_beq_eq_true k3.2⟩
        · cases k3
      unfold DataW.trod at h
      rw [hu] at h
      simp only [hc, hfs] at h
      split at h
      · rename_i hlen
        rw [Option.map_eq_some_iff] at h
        obtain ⟨r, hr, hd⟩ := h
        obtain ⟨q1, q2⟩ := mapM_get hr
        rcases cs with _ | ⟨c0, _ | ⟨cc1, _ | ⟨cc2, _ | ⟨cc3, _ | ⟨c4, cs⟩⟩⟩⟩⟩ <;> simp at hlen
        rcases r with _ | ⟨y0, _ | ⟨y1, _ | ⟨y2, _ | ⟨y3, _ | ⟨y4, r⟩⟩⟩⟩⟩ <;> simp at q1
        obtain ⟨z0, e0, g0⟩ := q2 0 f0 rfl
        obtain ⟨z1, e1, g1⟩ := q2 1 f1 rfl
        obtain ⟨z2, e2, g2⟩ := q2 2 f2 rfl
        obtain ⟨z3, e3, g3⟩ := q2 3 f3 rfl
        simp at e0 e1 e2 e3
        subst e0; subst e1; subst e2; subst e3
        rw [o0, c1 k0] at g0
        rw [o1, c1 k1] at g1
        rw [o2, c2 k2] at g2
        rw [o3, c3] at g3
        simp at g0 g1 g2 g3
        obtain ⟨d0, p0⟩ := y0
        obtain ⟨d1, p1⟩ := y1
        obtain ⟨d2, p2⟩ := y2
        obtain ⟨d3, p3⟩ := y3
        obtain ⟨k, hk0, rfl, -, -⟩ := trod_i64 k0 g0
        obtain ⟨n, hn', rfl, -, -⟩ := trod_i64 k1 g1
        obtain ⟨s, hs, rfl⟩ := trod_str k2 g2
        simp only [List.cons.injEq, and_true] at hk0 hn' hs
        subst hk0; subst hn'; subst hs
        simp only [Prod.mk.injEq] at hd
        obtain ⟨rfl, -⟩ := hd
        simp only [List.map_cons, List.map_nil, B.hag, B.h1, B.h0, B.hs] at hbd ⊢
        cases f with
        | zero => unfold DataW.trod at g3; cases g3
        | succ f =>
        obtain ⟨l, hl, hlb, -⟩ := read_slice B (sz := 4) (by omega) hc Fm.row Fm.row_len Fm.big (fun _ => True) hu3 (fun cs d ps hh hb => by
          obtain ⟨x, h1, h2⟩ := ih f (by omega) cs d ps hh hb
          exact ⟨x, h1, h2, trivial⟩) g3 (by omega)
        rw [bigL_sum] at hlb
        have hstr : Rel (knW W) m0 (.str s.data.toList) (.string s) := by
          have := Rel.str (kn := knW W) (m := m0) s.data.toList
          simpa using this
        refine ⟨.mk k n s.data.toList l, ⟨?_, ?_⟩, by simp only [Fm.big]; omega⟩
        · simp only [Fm.row, Fm.rows_map]
          exact .cons (.int _ _) (.cons (.int _ _) (.cons hstr hl.1))
        · intro v hv
          simp at hv
          rcases hv with rfl | rfl | rfl | rfl
          · rfl
          · rfl
          · rfl
          · exact hl.2 _ (by simp)
      · cases h
    · cases hk
  · cases hk
/-- What reads as a struct's fields. -/
theorem read_fields (B : Bulk bulk bulkAll) {r : TypeId → E → Bool} (ih : ∀ (t : TypeId) (e : E) cs d ps, r t e = true → DataW.trod enc P W 0 sp true f t cs = some (d, ps) → bulk d ≤ 4611686018427387904 → ∃ x : e.den, RelC (knW W) m0 (e.row x) cs ∧ bigE e x ≤ bulk d ∧ wfE e x) :
    ∀ (fs : List Field) (o : Nat) (e : E) (cs : List Value) (ys : List (DataW H × List MemPlace)), kFs r P fs o e = true → cs.length = o + e.size → fs.mapM (fun g => DataW.trod enc P W 0 sp true f g.type ((cs.drop g.offset).take (P.cellsOf g.type))) = some ys → bulkAll (ys.map (·.1)) ≤ 4611686018427387904 →
      ∃ x : e.den, RelC (knW W) m0 (e.row x) (cs.drop o) ∧ bigE e x ≤ bulkAll (ys.map (·.1)) ∧ wfE e x := by
  intro fs
  induction fs with
  | nil =>
    intro o e cs ys hk hl hm hb
    cases e <;> simp only [kFs] at hk <;> try (cases hk; done)
    refine ⟨(), ?_, by simp [bigE], trivial⟩
    have : cs.drop o = [] := List.drop_eq_nil_iff.2 (by simp only [E.size] at hl; omega)
    rw [this]
    exact ⟨.nil _ _, fun v hv => by cases hv⟩
  | cons g fs ihf =>
    intro o e cs ys hk hl hm hb
    obtain ⟨m1, m2⟩ := mapM_get hm
    obtain ⟨y0, e0, g0⟩ := m2 0 g rfl
    rcases ys with _ | ⟨y, ys⟩
    · simp at e0
    simp only [List.getElem?_cons_zero, Option.some.injEq] at e0
    subst e0
    simp only [List.map_cons, B.h1] at hb ⊢
    have one : ∀ (a : E), g.offset = o → P.cellsOf g.type = a.size → r g.type a = true → ∃ x : a.den, RelC (knW W) m0 (a.row x) ((cs.drop o).take a.size) ∧ bigE a x ≤ bulk y.1 ∧ wfE a x := fun a h1 h2 h3 => by
      rw [h1, h2] at g0
      exact ih _ a _ y.1 y.2 h3 g0 (by omega)
    have many : ∀ a b, e = .pr a b → g.offset = o → P.cellsOf g.type = a.size → r g.type a = true → kFs r P fs (o + a.size) b = true → ∃ x : e.den, RelC (knW W) m0 (e.row x) (cs.drop o) ∧ bigE e x ≤ bulk y.1 + bulkAll (ys.map (·.1)) ∧ wfE e x := by
      rintro a b rfl h1 h2 h3 h4
      obtain ⟨x, hx, hxb, hxw⟩ := one a h1 h2 h3
      have hm' : fs.mapM (fun g => DataW.trod enc P W 0 sp true f g.type ((cs.drop g.offset).take (P.cellsOf g.type))) = some ys := by
        simp only [List.mapM_cons, Option.bind_eq_bind, Option.bind_eq_some_iff] at hm
        obtain ⟨_, _, _, q, q'⟩ := hm
        cases q'
        exact q
      obtain ⟨z, hz, hzb, hzw⟩ := ihf (o + a.size) b cs ys h4 (by simp only [E.size] at hl; omega) hm' (by omega)
      refine ⟨(x, z), ?_, by simp only [bigE]; omega, ⟨hxw, hzw⟩⟩
      have : cs.drop o = (cs.drop o).take a.size ++ cs.drop (o + a.size) := by rw [← List.drop_drop]; exact (List.take_append_drop _ _).symm
      rw [this]
      exact hx.append hz
    cases fs with
    | nil =>
      have hk1 : (Nat.beq g.offset o && (Nat.beq (P.cellsOf g.type) e.size && r g.type e)) = true := by cases e <;> exact hk
      simp only [Bool.and_eq_true] at hk1
      obtain ⟨h1, h2, h3⟩ := hk1
      obtain ⟨x, hx, hxb, hxw⟩ := one e (Nat.eq_of_beq_eq_true h1) (Nat.eq_of_beq_eq_true h2) h3
      refine ⟨x, ?_, by omega, hxw⟩
      rwa [List.take_of_length_le (by rw [List.length_drop]; omega)] at hx
    | cons g' fs' =>
      cases e <;> simp only [kFs] at hk <;> try (cases hk; done)
      rename_i a b
      simp only [Bool.and_eq_true] at hk
      obtain ⟨h1, h2, h3, h4⟩ := hk
      exact many a b rfl (Nat.eq_of_beq_eq_true h1) (Nat.eq_of_beq_eq_true h2) h3 h4
/-- **What reads as a value of a plain type is plain data.** -/
theorem read_e (B : Bulk bulk bulkAll) : ∀ (n : Nat) (f : Nat) (t : TypeId) (e : E) (cs : List Value) (d : DataW H) (ps : List MemPlace), kOK P n t e = true → DataW.trod enc P W 0 sp true f t cs = some (d, ps) → bulk d ≤ 4611686018427387904 →
    ∃ x : e.den, RelC (knW W) m0 (e.row x) cs ∧ bigE e x ≤ bulk d ∧ wfE e x
  | 0, f, t, e, cs, d, ps, hk, h, hb => by cases hk
  | n + 1, f, t, e, cs, d, ps, hk, h, hb => by
    have struct : (match P.underlying t with
      | some (.struct fs) => Nat.beq (P.cellsOf t) e.size && kFs (kOK P n) P fs.toList 0 e
      | _ => false) = true → ∃ x : e.den, RelC (knW W) m0 (e.row x) cs ∧ bigE e x ≤ bulk d ∧ wfE e x := fun hk => by
      split at hk
      · rename_i fs hu
        rw [Bool.and_eq_true] at hk
        have hc := Nat.eq_of_beq_eq_true hk.1
        cases f with
        | zero => unfold DataW.trod at h; cases h
        | succ f =>
          unfold DataW.trod at h
          rw [hu] at h
          simp only [hc] at h
          split at h
          · rename_i hlen
            rw [Option.map_eq_some_iff] at h
            obtain ⟨r, hr, hd⟩ := h
            simp only [Prod.mk.injEq] at hd
            obtain ⟨rfl, -⟩ := hd
            rw [B.hag] at hb ⊢
            obtain ⟨x, h1, h2, h3⟩ := read_fields B (f := f) (fun t e cs d ps hk hh hb => read_e B n f t e cs d ps hk hh hb) fs.toList 0 e cs r hk.2 (by omega) hr (by omega)
            exact ⟨x, by simpa using h1, by omega, h3⟩
          · cases h
      · cases hk
    cases e with
    | int k =>
      cases k <;> try exact struct hk
      obtain ⟨m, rfl, rfl, h1, h2⟩ := trod_i64 hk h
      exact ⟨m, ⟨.cons (.int _ _) (.nil _ _), fun v hv => by simp at hv; subst hv; rfl⟩, by simp [bigE], h1, h2⟩
    | str =>
      obtain ⟨s, rfl, rfl⟩ := trod_str hk h
      refine ⟨s.data.toList, ⟨.cons ?_ (.nil _ _), fun v hv => by simp at hv; subst hv; rfl⟩, by simp only [bigE, B.hs]; omega, trivial⟩
      have := Rel.str (kn := knW W) (m := m0) s.data.toList
      simpa using this
    | bool =>
      have hk : (match P.underlying t with
        | some .bool => true
        | _ => false) = true := hk
      split at hk
      · rename_i hu
        cases f with
        | zero => unfold DataW.trod at h; cases h
        | succ f =>
          unfold DataW.trod at h
          rw [hu] at h
          split at h <;> try (simp_all; done)
          rename_i b _
          exact ⟨b, ⟨.cons (.bool _) (.nil _ _), fun v hv => by simp at hv; subst hv; rfl⟩, by simp [bigE], trivial⟩
      · cases hk
    | form =>
      obtain ⟨x, h1, h2⟩ := form_read B hk f cs d ps h hb
      exact ⟨x, h1, h2, trivial⟩
    | slice e =>
      have hk : (match P.underlying t with
        | some (.slice t') => kOK P n t' e && (Nat.beq (P.cellsOf t') e.size && Nat.blt 0 e.size)
        | _ => false) = true := hk
      split at hk
      · rename_i t' hu
        simp only [Bool.and_eq_true] at hk
        cases f with
        | zero => unfold DataW.trod at h; cases h
        | succ f =>
          obtain ⟨l, h1, h2, h3⟩ := read_slice B (sz := e.size) (by have := hk.2.2; unfold Nat.blt at this; exact Nat.le_of_ble_eq_true this) (Nat.eq_of_beq_eq_true hk.2.1) e.row e.row_len (bigE e) (wfE e) hu (fun cs d ps hh hb => read_e B n f t' e cs d ps hk.1 hh hb) h hb
          exact ⟨l, h1, h2, h3⟩
      · cases hk
    | erri => exact struct hk
    | un => exact struct hk
    | pr a b => exact struct hk
/-- The cells, one step. -/
theorem row_cells {kn : Kn} {m : Mp} : ∀ (e : E) (x : e.den) (vs : List Value), RelC kn m (e.row x) vs → RelC kn m (e.cells x) vs
  | .int _, _, _, h => h
  | .bool, _, _, h => h
  | .str, _, _, h => h
  | .erri, _, _, h => h
  | .form, .mk k n t l, vs, h => by
    refine ⟨?_, h.2⟩
    have h := h.1
    simp only [E.row, Fm.row, Fm.rows_map] at h
    obtain ⟨v0, u0, rfl, h0, h⟩ := h.uncons
    obtain ⟨v1, u1, rfl, h1, h⟩ := h.uncons
    obtain ⟨v2, u2, rfl, h2, h⟩ := h.uncons
    obtain ⟨v3, u3, rfl, h3, h⟩ := h.uncons
    exact .cons h0 (.cons h1 (.cons h2 (.cons (rel_tvec.2 h3) h)))
  | .un, _, _, h => h
  | .pr a b, (x, y), vs, h => by
    obtain ⟨us, ws, rfl, h1, h2⟩ := RelL.append_iff.1 h.1
    exact (row_cells a x us ⟨h1, fun v hv => h.2 v (by simp [hv])⟩).append (row_cells b y ws ⟨h2, fun v hv => h.2 v (by simp [hv])⟩)
  | .slice e, l, vs, h => by
    refine ⟨?_, h.2⟩
    have h := h.1
    simp only [E.row] at h
    obtain ⟨v0, u0, rfl, h0, h⟩ := h.uncons
    exact .cons (rel_tvec.2 h0) h
theorem rel_aggW {row : List AV} {cs : Array Value} (h : RelC (knW W) m0 row (Value.agg cs).cells.toList) : Rel (knW W) m0 (.agg row) (.agg cs) := by
  have hcs : (Value.agg cs).cells.toList = cs.toList := rfl
  rw [hcs] at h
  exact .agg _ _ (by simpa using h.1.1) (fun i y v q r => h.1.2 i y v q (by simpa using r)) (fun i v r => h.2 v (by simpa using Array.mem_of_getElem? r))
end
end Go.Ab

/-
  THE CONTRACT OF A LAW whose arguments are plain data, out of its call.
-/
set_option linter.unusedVariables false
set_option linter.unusedSimpArgs false
set_option maxRecDepth 100000
namespace Go.Ab
open Go Go.ChangeShapes Go.WideShapes Go.ChangeAt Go.RowKit Go.Proofs Go.Proofs.YthelkhnhgnjgdaaGreatDoor
def argOK (P : Program) (n : Nat) (t : TypeId) (e : E) : Bool := kOK P n t e && match e with
  | .int .i64 => true
  | .bool => true
  | .str => true
  | .form => true
  | .slice _ => true
  | .pr _ _ => true
  | _ => false
def parOK (P : Program) (n : Nat) : List TypeId → List E → Bool
  | [], [] => true
  | t :: ts, e :: es => argOK P n t e && parOK P n ts es
  | _, _ => false
abbrev shA (es : List E) : List Sh := es.map .d
def bigA : (es : List E) → Sh.denL (shA es) → Nat
  | [], _ => 0
  | e :: es, x => bigE e x.1 + bigA es x.2
def wfA : (es : List E) → Sh.denL (shA es) → Prop
  | [], _ => True
  | e :: es, x => wfE e x.1 ∧ wfA es x.2
section
variable {H : Type} {enc : TypeId × Value → H} {W : World} {P : Program}
theorem one_cell {t : TypeId} {v c : Value} {base : Nat} (hs : ∀ fs, P.underlying t ≠ some (.struct fs)) (ha : ∀ k a, P.underlying t ≠ some (.array k a)) (hok : Value.okWide P W .any base t v) (h : v.cells.toList = [c]) : v = c := by
  cases v <;> simp [Value.cells] at h <;> try exact h
  rename_i cs
  exfalso
  unfold Value.okWide at hok
  split at hok
  · rename_i fs e; exact hs fs e
  · rename_i k a e; exact ha _ _ e
  · unfold Cell.okWide at hok
    split at hok <;> first | (simp_all; done) | skip
    unfold Cell.ok at hok
    split at hok <;> simp_all
theorem struct_agg {t : TypeId} {v : Value} {base : Nat} {fs : Array Field} (hu : P.underlying t = some (.struct fs)) (hok : Value.okWide P W .any base t v) : ∃ cs, v = .agg cs := by
  unfold Value.okWide at hok
  rw [hu] at hok
  obtain ⟨cs, h, _⟩ := hok
  exact ⟨cs, h⟩
theorem row_av {n : Nat} {t : TypeId} {e : E} {x : e.den} {v : Value} {base : Nat} (hk : argOK P n t e = true) (hok : Value.okWide P W .any base t v) (h : RelC (knW W) m0 (e.row x) v.cells.toList) : Rel (knW W) m0 (e.av x) v := by
  unfold argOK at hk
  rw [Bool.and_eq_true] at hk
  obtain ⟨hk, hk2⟩ := hk
  cases n with
  | zero => cases hk
  | succ n =>
  have one : ∀ {a : AV}, (∀ fs, P.underlying t ≠ some (.struct fs)) → (∀ k a, P.underlying t ≠ some (.array k a)) → RelC (knW W) m0 [a] v.cells.toList → Rel (knW W) m0 a v := by
    intro a hs ha h
    obtain ⟨c, u, hc, h1, h2⟩ := h.1.uncons
    have : u = [] := by have q := h2.1; exact List.length_eq_zero_iff.1 q.symm
    subst this
    rw [one_cell hs ha hok hc]
    exact h1
  cases e with
  | int k =>
    cases k <;> try (cases hk2; done)
    have hk : isI64 P t = true := hk
    unfold isI64 at hk
    split at hk
    · rename_i hu; exact one (fun fs e => by rw [hu] at e; cases e) (fun _ _ e => by rw [hu] at e; cases e) h
    · cases hk
  | bool =>
    have hk : (match P.underlying t with
      | some .bool => true
      | _ => false) = true := hk
    split at hk
    · rename_i hu; exact one (fun fs e => by rw [hu] at e; cases e) (fun _ _ e => by rw [hu] at e; cases e) h
    · cases hk
  | str =>
    have hk : isStr P t = true := hk
    unfold isStr at hk
    split at hk
    · rename_i hu; exact one (fun fs e => by rw [hu] at e; cases e) (fun _ _ e => by rw [hu] at e; cases e) h
    · cases hk
  | slice e =>
    have hk : (match P.underlying t with
      | some (.slice t') => kOK P n t' e && (Nat.beq (P.cellsOf t') e.size && Nat.blt 0 e.size)
      | _ => false) = true := hk
    split at hk
    · rename_i hu
      exact one (fun fs e => by rw [hu] at e; cases e) (fun _ _ e => by rw [hu] at e; cases e) (row_cells (.slice e) x _ h)
    · cases hk
  | form =>
    have hk : isForm P t = true := hk
    unfold isForm at hk
    split at hk
    · rename_i fs hu
      obtain ⟨cs, rfl⟩ := struct_agg hu hok
      exact rel_aggW (row_cells .form x _ h)
    · cases hk
  | pr a b =>
    have hk : (match P.underlying t with
      | some (.struct fs) => Nat.beq (P.cellsOf t) (E.pr a b).size && kFs (kOK P n) P fs.toList 0 (.pr a b)
      | _ => false) = true := hk
    split at hk
    · rename_i fs hu
      obtain ⟨cs, rfl⟩ := struct_agg hu hok
      exact rel_aggW (row_cells (.pr a b) x _ h)
    · cases hk
  | erri => cases hk2
  | un => cases hk2
variable {bulk : DataW H → Nat} {bulkAll : List (DataW H) → Nat}
theorem args_read (B : Bulk bulk bulkAll) (n : Nat) : ∀ (ts : List TypeId) (es : List E) (vs : List Value) (ds : List (DataW H)) (ps : List MemPlace) (base : Nat), parOK P n ts es = true → DataW.TrodAll enc P W 0 (fun _ => true) true ts vs ds ps → (∀ (j : Nat) t v, ts[j]? = some t → vs[j]? = some v → Value.okWide P W .any base t v) → bulkAll ds ≤ 4611686018427387904 →
    ∃ x : Sh.denL (shA es), RelL (knW W) m0 (patL ρ0 (shA es) x) vs ∧ bigA es x ≤ bulkAll ds ∧ wfA es x
  | [], [], vs, ds, ps, base, _, h, _, _ => by
    obtain ⟨rfl, rfl, rfl⟩ := trodAll_nil h
    exact ⟨(), .nil _ _, by simp [bigA], trivial⟩
  | [], e :: es, vs, ds, ps, base, hk, _, _, _ => by cases hk
  | t :: ts, [], vs, ds, ps, base, hk, _, _, _ => by cases hk
  | t :: ts, e :: es, vs, ds, ps, base, hk, h, hok, hb => by
    simp only [parOK, Bool.and_eq_true] at hk
    obtain ⟨v, vs', d, ds', p, q, rfl, rfl, rfl, h1, h2⟩ := trodAll_cons h
    rw [B.h1] at hb ⊢
    obtain ⟨f, t1⟩ := id h1
    have hk1 : kOK P n t e = true := by have := hk.1; unfold argOK at this; rw [Bool.and_eq_true] at this; exact this.1
    obtain ⟨x, a1, a2, a3⟩ := read_e B n f t e _ d p hk1 t1 (by omega)
    obtain ⟨y, b1, b2, b3⟩ := args_read B n ts es vs' ds' q base hk.2 h2 (fun j t v q1 q2 => hok (j + 1) t v q1 q2) (by omega)
    exact ⟨(x, y), .cons (row_av hk.1 (hok 0 t v rfl rfl) a1) b1, by simp only [bigA]; omega, a3, b3⟩
theorem trodAll_length : ∀ {ts : List TypeId} {vs : List Value} {ds : List (DataW H)} {ps : List MemPlace} {W : World} {b : Nat} {sp : Nat → Bool} {hd : Bool}, DataW.TrodAll enc P W b sp hd ts vs ds ps → ds.length = ts.length
  | [], vs, ds, ps, W, b, sp, hd, h => by obtain ⟨_, rfl, _⟩ := trodAll_nil h; rfl
  | t :: ts, vs, ds, ps, W, b, sp, hd, h => by
    obtain ⟨v, vs', d, ds', p, q, rfl, rfl, rfl, h1, h2⟩ := trodAll_cons h
    simp [trodAll_length h2]
theorem trodAll_below {W' : World} (hl : laidOutB P = true) : ∀ {ts : List TypeId} {vs : List Value} {ds : List (DataW H)} {ps : List MemPlace}, ts.all (fun t => P.readableRec t && Nat.blt t P.types.size) = true → DataW.TrodAll enc P W 0 (fun _ => true) true ts vs ds ps → Below W.heap.size W W' → (∀ x ∈ ps, x.block < W.heap.size) → DataW.TrodAll enc P W' 0 (fun b => decide (b < W.heap.size)) true ts vs ds ps
  | [], vs, ds, ps, _, h, _, _ => by obtain ⟨rfl, rfl, rfl⟩ := trodAll_nil h; exact trodAll_mk0
  | t :: ts, vs, ds, ps, hr, h, hb, hp => by
    simp only [List.all_cons, Bool.and_eq_true] at hr
    obtain ⟨v, vs', d, ds', p, q, rfl, rfl, rfl, h1, h2⟩ := trodAll_cons h
    exact trodAll_cons_mk (Below.trod hl hr.1.1 (Nat.le_of_ble_eq_true hr.1.2) h1 hb (fun x hx => hp x (by simp [hx]))) (trodAll_below hl hr.2 h2 hb (fun x hx => hp x (by simp [hx])))
end
theorem len_sum {α : Type} (g : α → Nat) : ∀ l : List α, l.length ≤ (l.map fun x => max 1 (g x)).sum
  | [] => Nat.le_refl _
  | x :: l => by have := len_sum g l; simp only [List.length_cons, List.map_cons, List.sum_cons]; omega
theorem bulk_pos {H : Type} (d : DataW H) : 1 ≤ Rows.uptoBulk d := by
  cases d with
  | lit l => cases l <;> simp [Rows.uptoBulk]
  | _ => simp [Rows.uptoBulk]
theorem uptoB {H : Type} : Bulk (Rows.uptoBulk (H := H)) Rows.uptoBulkAll := ⟨fun l => by simp [Rows.uptoBulk], fun l r => by simp [Rows.uptoBulk]; omega, fun l => by simp [Rows.uptoBulk], bulk_pos, by simp [Rows.uptoBulkAll], fun d l => by simp [Rows.uptoBulkAll]⟩
/-- **The contract of a law**, out of its call. -/
theorem contract_of {g : FuncId} {fn : Func} {es : List E} {n : Nat} {spec : ChangeSpec} {tb : TypeId} (hv : spec.vars = []) (hfn : ∀ (H : Type) (ds : List (DataW H)), ds.length = fn.params.toList.length → spec.fn H ds = { results := [.lit (.bool true)], args := ds })
    (hres : fn.resultTypes = #[tb]) (htb : Tryz.prog.underlying tb = some .bool) (hk : parOK Tryz.prog n fn.params.toList es = true) (hrr : fn.params.toList.all (fun t => Tryz.prog.readableRec t && Nat.blt t Tryz.prog.types.size) = true) (hl : laidOutB Tryz.prog = true) (hbo : bodyOK Tryz.prog g = true)
    (hlaw : ∀ x, bigA es x ≤ 1048576 → wfA es x → PCall CX g (patL ρ0 (shA es) x) (· = .ret (.bool true)))
    (H : Type) (enc : TypeId × Value → H) (W : World) (base : Nat) (args : Array Value) (ds gs : List (DataW H)) (before : List MemPlace)
    (hval : ∀ (j : Nat) t v, fn.params[j]? = some t → args[j]? = some v → Value.okWide Tryz.prog W .any base t v)
    (hW : DataW.Whole enc Tryz.prog fn.params.toList spec.vars false W args.toList ds gs before) (hb : Rows.uptoSmall H (ds ++ gs) = true) :
    Calls Tryz.prog g args W fun e W' => ∃ v, e = .returned v ∧ spec.post enc Tryz.prog fn false true false false W args v W' := by
  have hW' := hW
  obtain ⟨p, q, hA0, hV, rfl, hfz, hnd⟩ := hW
  have hA : DataW.TrodAll enc Tryz.prog W 0 (fun _ => true) true fn.params.toList args.toList ds p := hA0
  rw [hv] at hV
  obtain ⟨rfl, rfl⟩ := trodVars_none hV
  have hbd : Rows.uptoBulkAll ds ≤ 1048576 := by
    have := of_decide_eq_true hb
    simpa using this
  obtain ⟨x, hx, hxb, hxw⟩ := args_read uptoB n fn.params.toList es args.toList ds p base hk hA (fun j t v a b => hval j t v (by simpa using a) (by simpa using b)) (by omega)
  have hdo := hlaw x (by omega) hxw (knW W) W args.toList (knOK_W W) hx
  have hlt : ∀ y ∈ p, y.block < W.heap.size := fun y hy => hW'.lt y (by simp [hy])
  have fin : ∀ e w', (∃ out kn', out = AOut.ret (.bool true) ∧ RelOut kn' m0 out e ∧ KnOK CX kn' w' ∧ Below W.heap.size W w' ∧ ∀ b, b < W.heap.size → kn' b = knW W b) → ∃ v, e = .returned v ∧ spec.post enc Tryz.prog fn false true false false W args v w' := by
    rintro e w' ⟨out, kn', rfl, ho, _, hbel, _⟩
    cases e with
    | returned u =>
      simp only [RelOut] at ho
      cases ho
      have hT := trodAll_below hl hrr hA hbel hlt
      refine ⟨_, rfl, _, _, _, [], p, [], hW', ?_, ?_, ?_, hbel.frame _, fun h => by cases h⟩
      · rw [hres, hfn H _ (by simpa using trodAll_length hA)]
        exact trodAll_cons_mk (shut_bool htb _) trodAll_mk0
      · rw [hfn H _ (by simpa using trodAll_length hA), List.append_nil]
        exact hT
      · rw [hv, hfn H _ (by simpa using trodAll_length hA)]; rfl
    | panicked ch => exact ho.elim
    | outgrown => exact ho.elim
  rcases hdo with ⟨_, hc⟩ | ⟨u, w', h1, _⟩
  · exact hc.mono fin
  · have h2 : (callFunc g args.toList.toArray).run Tryz.prog W = _ := calls_of_bodyOK hbo _ W
    have h1' : (callFunc g args.toList.toArray).run Tryz.prog W = _ := h1
    rw [h2] at h1'
    cases h1'
end Go.Ab

/-
  VALUES: forms and their sizes, as far as numbers need them.
-/
set_option linter.unusedVariables false
set_option maxRecDepth 100000
namespace Go.Ab
open Go Go.RowKit Go.Proofs
noncomputable def G_kids (x0 : Fm) : Option (List Fm) := (
 cond (decide (x0.k = 3)) (some x0.l) (some ([] : List Fm)))
def A_kids : An := .leaf
def H_kids : Nat → RH := fun _ => {}
noncomputable def S_kids : Sig := .n [(.d .form)] (.d (.slice .form)) (fun x => G_kids x.1)
theorem S_kids_ok : SigOK CX 57 S_kids := sigN_of (l := []) trivial (hint := H_kids) (an := A_kids) (fun x => by kernel_rfl)
noncomputable def G_size (k : Nat) (x0 : Fm) : Option (Int) := match k with
| 0 => none
| k + 1 => (
 Option.bind (α := (Int × Unit) × (Unit))
 (Option.bind (α := List Fm) (G_kids (Fm.eta x0)) fun r1 => (
 loopM (L := (Int × (List Fm) × Int × Int × Unit) × (Unit)) (R := (Int × Unit) × (Unit)) (fun d2 => (
 let v3_3 := d2.1.1
 let v7_4 := d2.1.2.1
 let v8_5 := d2.1.2.2.1
 let v9_6 := d2.1.2.2.2.1
 cond (decide (v9_6 < v8_5)) (cond (ixOK v9_6 v7_4.length) (Option.bind (α := Int) (G_size k (Fm.eta (v7_4.getD v9_6.toNat (Fm.mk 0 0 [] [])))) fun r7 => (
 some (Step.next ((IntKind.wrap .i64 (v3_3 + r7), v7_4, v8_5, IntKind.wrap .i64 (v9_6 + 1), ()), ())))) none) (some (Step.done ((v3_3, ()), ()))))) ((1, r1, (r1.length : Int), 0, ()), ()))) fun d8 => (
 let v3_9 := d8.1.1
 some v3_9))
def A_size : An := .seq (.leaf) (.seq (.leaf) (.join false { env := [(3, (.d (.int .i64)))], objs := [] } (.seq (.leaf) (.block (.loop { env := [(3, (.d (.int .i64))), (7, (.d (.slice .form))), (8, (.d (.int .i64))), (9, (.d (.int .i64)))], objs := [] } (.leaf)))) (.leaf)))
def H_size : Nat → RH := fun _ => {}
noncomputable def S_size (k : Nat) : Sig := .n [(.d .form)] (.d (.int .i64)) (fun x => G_size k x.1)
theorem S_size_rec : ∀ k, SigOK CX 37 (S_size k)
| 0 => fun x r h => by cases h
| k + 1 => by
  have ih := S_size_rec k
  exact sigN_of (l := [(57, S_kids), (37, (S_size k))]) ⟨S_kids_ok, ih, trivial⟩ (hint := H_size) (an := A_size) (fun x => by kernel_rfl)
theorem S_size_ok : ∀ k, SigOK CX 37 (S_size k) := fun k => S_size_rec k
noncomputable def L_size (x0 : Fm) : Option (Int) := limF fun k => G_size k x0
noncomputable def S_size_l : Sig := .n [(.d .form)] (.d (.int .i64)) (fun x => L_size x.1)
theorem S_size_l_ok : SigOK CX 37 S_size_l := SigOK.limN S_size_ok fun x r h => limF_ex h
noncomputable def G_leaf (x0 : Fm) : Option (Bool) := (
 Option.bind (α := Step ((Unit) × (Unit)) (Bool))
 (cond (decide (x0.k = 0)) (some (Step.done (cond (cond (cond (decide (x0.t = [])) (decide ((x0.l.length : Int) = 0)) false) (decide (x0.n ≥ (-1152921504606846976))) false) (decide (x0.n ≤ 1152921504606846976)) false))) (cond (decide (x0.k = 1)) (none) (cond (decide (x0.k = 2)) (none) (cond (decide (x0.k = 3)) (some (Step.done (cond (decide (x0.t = [])) (decide (x0.n = 0)) false))) (some (Step.next ((), ()))))))) fun qd1 => match qd1 with
 | .next d1 => (
 some false)
 | .done r => some r)
def A_leaf : An := .seq (.leaf) (.join true { env := [], objs := [] } (.leaf) (.leaf))
def H_leaf : Nat → RH := fun _ => {}
noncomputable def S_leaf : Sig := .n [(.d .form)] (.d .bool) (fun x => G_leaf x.1)
theorem S_leaf_ok : SigOK CX 56 S_leaf := sigN_of (l := []) trivial (hint := H_leaf) (an := A_leaf) (fun x => by kernel_rfl)
noncomputable def G_valid (k : Nat) (x0 : Fm) (x2 : Int) (o0 : Int × Unit) : Option ((Bool) × ((Int × Unit) × Unit)) := match k with
| 0 => none
| k + 1 => (
 Option.bind (α := Bool) (cond (!(cond (decide (IntKind.wrap .i64 (o0.1 - 1) < 0)) true (decide (x2 = 0)))) (G_leaf (Fm.eta x0)) (some false)) fun r1 => (
 cond (cond (cond (decide (IntKind.wrap .i64 (o0.1 - 1) < 0)) true (decide (x2 = 0))) true (!r1)) (some (false, ((IntKind.wrap .i64 (o0.1 - 1), ()), ()))) (Option.bind (α := Step ((Unit) × ((Int × Unit) × Unit)) ((Bool) × ((Int × Unit) × Unit)))
 (loopM (L := (Unit × Int × (List Fm) × Int × Int × Unit) × ((Int × Unit) × Unit)) (R := Step ((Unit) × ((Int × Unit) × Unit)) ((Bool) × ((Int × Unit) × Unit))) (fun d2 => (
 let c3 := d2.2.1.1
 let v2_4 := d2.1.2.1
 let v28_5 := d2.1.2.2.1
 let v29_6 := d2.1.2.2.2.1
 let v30_7 := d2.1.2.2.2.2.1
 cond (decide (v30_7 < v29_6)) (cond (ixOK v30_7 v28_5.length) (Option.bind (α := (Bool) × ((Int × Unit) × Unit)) (G_valid k (Fm.eta (v28_5.getD v30_7.toNat (Fm.mk 0 0 [] []))) (IntKind.wrap .i64 (v2_4 - 1)) (c3, ())) fun r8 => (
 cond (!r8.1) (some (Step.done (Step.done (false, ((r8.2.1.1, ()), ()))))) (some (Step.next (((), v2_4, v28_5, v29_6, IntKind.wrap .i64 (v30_7 + 1), ()), ((r8.2.1.1, ()), ())))))) none) (some (Step.done (Step.next ((), ((c3, ()), ()))))))) (((), x2, x0.l, (x0.l.length : Int), 0, ()), ((IntKind.wrap .i64 (o0.1 - 1), ()), ()))) fun qd9 => match qd9 with
 | .next d9 => (
 let c10 := d9.2.1.1
 some (true, ((c10, ()), ())))
 | .done r => some r)))
def A_valid : An := .seq (.leaf) (.seq (.leaf) (.seq (.leaf) (.join true { env := [], objs := [(true, .cells 3 [(.d (.int .i64))])] } (.seq (.leaf) (.block (.loop { env := [(1, (.ref 0 0)), (2, (.d (.int .i64))), (28, (.d (.slice .form))), (29, (.d (.int .i64))), (30, (.d (.int .i64)))], objs := [(true, .cells 3 [(.d (.int .i64))])] } (.leaf)))) (.leaf))))
def H_valid : Nat → RH := fun r => match r with
  | 7 => { H := { ac := [38] } }
  | _ => {}
noncomputable def S_valid (k : Nat) : Sig := .o { pre := [(false, .cells 3 [(.d (.int .i64))])], args := [(.d .form), (.ref 0 0), (.d (.int .i64))], post := [(true, .cells 3 [(.d (.int .i64))])], res := (.d .bool), f := fun x => G_valid k x.1.1 x.1.2.2.1 x.2.1 }
theorem S_valid_ok : ∀ k, SigOK CX 28 (S_valid k)
| 0 => ⟨by kernel_rfl, fun x r h => by cases h⟩
| k + 1 => by
  have ih := S_valid_ok k
  exact sigO_of (l := [(56, S_leaf), (28, (S_valid k))]) ⟨S_leaf_ok, ih, trivial⟩ (hint := H_valid) (an := A_valid) (by kernel_rfl) (fun x => by kernel_rfl)
noncomputable def L_valid (x0 : Fm) (x2 : Int) (o0 : Int × Unit) : Option ((Bool) × ((Int × Unit) × Unit)) := limF fun k => G_valid k x0 x2 o0
noncomputable def S_valid_l : Sig := .o { pre := [(false, .cells 3 [(.d (.int .i64))])], args := [(.d .form), (.ref 0 0), (.d (.int .i64))], post := [(true, .cells 3 [(.d (.int .i64))])], res := (.d .bool), f := fun x => L_valid x.1.1 x.1.2.2.1 x.2.1 }
theorem S_valid_l_ok : SigOK CX 28 S_valid_l := SigOK.limO S_valid_ok fun x r h => limF_ex h
noncomputable def G_rvalid (x0 : Fm) : Option (Bool) := (
 Option.bind (α := (Bool) × ((Int × Unit) × Unit)) (L_valid (Fm.eta x0) 100 (20000, ())) fun r1 => (
 some r1.1))
def A_rvalid : An := .leaf
def H_rvalid : Nat → RH := fun r => match r with
  | 2 => { H := { ac := [5] } }
  | _ => {}
noncomputable def S_rvalid : Sig := .n [(.d .form)] (.d .bool) (fun x => G_rvalid x.1)
theorem S_rvalid_ok : SigOK CX 15 S_rvalid := sigN_of (l := [(28, S_valid_l)]) ⟨S_valid_l_ok, trivial⟩ (hint := H_rvalid) (an := A_rvalid) (fun x => by kernel_rfl)
noncomputable def G_vparts (x0 : Fm) : Option (Int) := (
 Option.bind (α := Int) (L_size (Fm.eta x0)) fun r1 => (
 some r1))
def A_vparts : An := .leaf
def H_vparts : Nat → RH := fun _ => {}
noncomputable def S_vparts : Sig := .n [(.d .form)] (.d (.int .i64)) (fun x => G_vparts x.1)
theorem S_vparts_ok : SigOK CX 18 S_vparts := sigN_of (l := [(37, S_size_l)]) ⟨S_size_l_ok, trivial⟩ (hint := H_vparts) (an := A_vparts) (fun x => by kernel_rfl)
noncomputable def G_vis (x0 : Fm) : Option (Bool) := (
 cond (decide (x0.k = 0)) (some true) (cond (decide (x0.k = 1)) (some (cond (cond (decide (x0.t = [116, 114, 117, 101])) true (decide (x0.t = [102, 97, 108, 115, 101]))) true (decide (x0.t = [110, 117, 108, 108])))) (cond (decide (x0.k = 2)) (some false) (cond (decide ((x0.l.length : Int) = 0)) (some false) (cond (slOK 1 (x0.l.length : Int) x0.l.length) (none) none)))))
def A_vis : An := .leaf
def H_vis : Nat → RH := fun _ => {}
noncomputable def S_vis : Sig := .n [(.d .form)] (.d .bool) (fun x => G_vis x.1)
theorem S_vis_ok : SigOK CX 16 S_vis := sigN_of (l := []) trivial (hint := H_vis) (an := A_vis) (fun x => by kernel_rfl)
noncomputable def G_vIs (x0 : Fm) : Option (Bool) := (
 Option.bind (α := Bool) (G_rvalid (Fm.eta x0)) fun r1 => (
 Option.bind (α := Bool) (cond r1 (G_vis (Fm.eta x0)) (some false)) fun r2 => (
 some (cond r1 r2 false))))
def A_vIs : An := .leaf
def H_vIs : Nat → RH := fun _ => {}
noncomputable def S_vIs : Sig := .n [(.d .form)] (.d .bool) (fun x => G_vIs x.1)
theorem S_vIs_ok : SigOK CX 10 S_vIs := sigN_of (l := [(15, S_rvalid), (16, S_vis)]) ⟨S_rvalid_ok, S_vis_ok, trivial⟩ (hint := H_vIs) (an := A_vIs) (fun x => by kernel_rfl)
noncomputable def G_mnum (x0 : Int) : Option (Fm) := (
 some (Fm.mk 0 x0 ([]) ([] : List Fm)))
def A_mnum : An := .leaf
def H_mnum : Nat → RH := fun _ => {}
noncomputable def S_mnum : Sig := .n [(.d (.int .i64))] (.d .form) (fun x => G_mnum x.1)
theorem S_mnum_ok : SigOK CX 41 S_mnum := sigN_of (l := []) trivial (hint := H_mnum) (an := A_mnum) (fun x => by kernel_rfl)
noncomputable def G_mword (x0 : List UInt8) : Option (Fm) := (
 some (Fm.mk 1 0 x0 ([] : List Fm)))
def A_mword : An := .leaf
def H_mword : Nat → RH := fun _ => {}
noncomputable def S_mword : Sig := .n [(.d .str)] (.d .form) (fun x => G_mword x.1)
theorem S_mword_ok : SigOK CX 42 S_mword := sigN_of (l := []) trivial (hint := H_mword) (an := A_mword) (fun x => by kernel_rfl)
noncomputable def G_mtruth (x0 : Bool) : Option (Fm) := (
 cond x0 (Option.bind (α := Fm) (G_mword ([116, 114, 117, 101])) fun r1 => (
 some (Fm.eta r1))) (Option.bind (α := Fm) (G_mword ([102, 97, 108, 115, 101])) fun r2 => (
 some (Fm.eta r2))))
def A_mtruth : An := .leaf
def H_mtruth : Nat → RH := fun _ => {}
noncomputable def S_mtruth : Sig := .n [(.d .bool)] (.d .form) (fun x => G_mtruth x.1)
theorem S_mtruth_ok : SigOK CX 23 S_mtruth := sigN_of (l := [(42, S_mword)]) ⟨S_mword_ok, trivial⟩ (hint := H_mtruth) (an := A_mtruth) (fun x => by kernel_rfl)
noncomputable def G_refNum (x0 : Int) : Option (Fm) := (
 some (Fm.mk 0 x0 ([]) ([] : List Fm)))
def A_refNum : An := .leaf
def H_refNum : Nat → RH := fun _ => {}
noncomputable def S_refNum : Sig := .n [(.d (.int .i64))] (.d .form) (fun x => G_refNum x.1)
theorem S_refNum_ok : SigOK CX 6 S_refNum := sigN_of (l := []) trivial (hint := H_refNum) (an := A_refNum) (fun x => by kernel_rfl)
end Go.Ab

set_option linter.unusedVariables false
set_option linter.unusedSimpArgs false
set_option maxRecDepth 100000
namespace Go.Ab
open Go Go.RowKit Go.Proofs
theorem leaves_two {C : Cx} {rs : List ResultVar} {Q : AOut → Sto → Nat → Prop} {g : FuncId} {ags : List AV} {u : Option AV} {env : Nat → AV} {σ σ1 : Sto} {nx n1 : Nat} (h : DCall C g ags σ nx u (fun u' σ' nx' => u' = none ∧ σ' = σ1 ∧ nx' = n1)) (hk : afin σ1 n1 Q (resA C.P rs ⟨env, σ1, n1⟩)) : LeavesA C rs Q [(g, ags)] u ⟨env, σ, nx⟩ := by
  refine ⟨_, h, ?_⟩
  rintro u' σ' nx' ⟨rfl, rfl, rfl⟩
  exact (afin_iff _ _ _ _).1 hk
theorem vcaught1_none (σ : Sto) (nx p nm q nm2 : Nat) : DCall CX 17 [.ref p nm 0, .ref q nm2 0] σ nx none (fun u' σ' nx' => u' = none ∧ σ' = σ ∧ nx' = nx) := by
  refine dcall_mk {} 19 [] Tryz.func17 rfl (by decide) rfl rfl rfl rfl rfl rfl rfl rfl fun K hK => ?_
  simp only [go_sem, ↓reduceIte, recA]
  apply hK; clear hK
  refine aw_sreg {} rfl rfl fun K KP hK hP => ?_
  simp only [go_sem, ↓reduceIte]
  apply hK; clear hK hP
  refine aw_if (False) (by simp only [go_sem, ↓reduceIte]) (fun h1 => ?_) (fun h1 => ?_)
  ·
    exact h1.elim
  ·
    refine aw_skip ?_
    simp only [go_sem, ↓reduceIte, athen_ret]
def noV : Fm × Int × Unit := (Fm.mk 0 0 [] [], 0, ())
noncomputable section
open Classical
/-- Forms that are let through. -/
def okV (f : Fm) : Prop := (∃ n : Int, L_size f = some n ∧ n ≤ 2000) ∧ G_rvalid f = some true
def vcF (f : Fm) : Option (Fm × Int × Unit) := if okV f then some (f, 0, ()) else none
def vpF {α : Type} (_ : α) : Option (Fm × Int × Unit) := none
def vcB {α : Type} : OutD Fm α → Option (Fm × Int × Unit)
  | .ret f => vcF f
  | .pan x => vpF x
end
theorem vcaught_ret {g : FuncId} {first caps : List AV} {σ σ2 : Sto} {nx n : Nat} {k0 n0 : Int} {t0 : List UInt8} {l0 : List Fm} (hok : okV (.mk k0 n0 t0 l0)) (hlen : σ2.length = σ.length)
    (hf : ∀ y z, ∃ tail, ACall CX g (first ++ caps) (σ ++ [y, z]) (nx + 2) (fun o σ' nx' => o = .ret (.agg [.int .i64 k0, .int .i64 n0, .str t0, .tvec .form l0]) ∧ σ' = σ2 ++ ([y, z] ++ tail) ∧ nx' = nx + 2 + n)) :
    ACall CX 11 [.fn (.func g) first caps] σ nx (fun o σ' nx' => o = .ret (.tup [.agg [.int .i64 k0, .int .i64 n0, .str t0, .tvec .form l0], .int .i64 0]) ∧ σ' = σ2 ∧ nx' = nx + 2 + n) := by
  obtain ⟨⟨m, hm, hm2⟩, hv⟩ := hok
  have c1 : PCall CX 18 [.agg [.int .i64 k0, .int .i64 n0, .str t0, .tvec .form l0]] (· = .ret (.int .i64 m)) := S_vparts_ok (.mk k0 n0 t0 l0, ()) m (by
    show G_vparts (.mk k0 n0 t0 l0) = some m
    unfold G_vparts; simp only [Fm.eta_eq, hm, Option.bind_some])
  have c2 : PCall CX 15 [.agg [.int .i64 k0, .int .i64 n0, .str t0, .tvec .form l0]] (· = .ret (.bool true)) := S_rvalid_ok (.mk k0 n0 t0 l0, ()) true hv
  obtain ⟨tail, hf⟩ := hf (nx, .cells 25 [.int .i64 0, .int .i64 0, .str [], .base (.slice none 0 0)]) (nx + 1, .cells 30 [.int .i64 0])
  have hgt : ¬ m > 2000 := by omega
  have hgt' : ¬ 2000 < m := by omega
  have s1 : ∀ (a : AObj) (tl : Sto), sget (σ2 ++ ((nx, a) :: tl)) σ2.length nx = some a := fun a tl => by simp [sget]
  have s2 : ∀ (x : Nat × AObj) (b : AObj) (tl : Sto), sget (σ2 ++ (x :: (nx + 1, b) :: tl)) (σ2.length + 1) (nx + 1) = some b := fun x b tl => by simp [sget]
  have e1 : ∀ (x y : Nat × AObj) (tl : Sto), (σ2 ++ (x :: tl)).set σ2.length y = σ2 ++ (y :: tl) := fun x y tl => by simp [List.set_append_right]
  have e2 : ∀ (x z y : Nat × AObj) (tl : Sto), (σ2 ++ (x :: z :: tl)).set (σ2.length + 1) y = σ2 ++ (x :: y :: tl) := fun x z y tl => by simp [List.set_append_right]
  have e3 : ∀ (x z : Nat × AObj) (tl : Sto), (σ2 ++ (x :: z :: tl)).take σ2.length = σ2 := fun x z tl => by simp
  refine acall_cut ?_
  refine acall_mkD 17 [.cell 2 25, .cell 3 30] Tryz.func11 rfl (by decide) rfl rfl rfl ?_
  refine awD_sreg {} rfl (by simp only [allocObjs, go_sem]; rfl) fun K KP hK hP => ?_
  simp only [go_sem, ↓reduceIte, hgt, hgt', s1, s2, e1, e2, e3]
  apply hK; clear hK hP
  refine awD_sdefer {} (pre := [_]) rfl rfl rfl rfl rfl fun K KP hK hP => ?_
  simp only [go_sem, ↓reduceIte, hgt, hgt', s1, s2, e1, e2, e3]
  apply hK; clear hK hP
  refine ⟨_, _, by simp only [calleeA, go_sem, ↓reduceIte, Nat.reduceEqDiff]; rfl, ?_⟩
  refine awD_rest fun ds => ?_
  refine aw_sreg { ac := [6] } rfl rfl fun K KP hK hP => ?_
  simp only [go_sem, ↓reduceIte, hgt, hgt', s1, s2, e1, e2, e3]
  refine ⟨_, hf, ?_, ?_, .inl rfl, .inl rfl⟩
  case refine_2 => rintro v σ' nx' ⟨hv, _⟩; cases hv
  rintro v σ' nx' ⟨hv, rfl, rfl⟩
  cases hv
  rw [← hlen]
  try simp only [go_sem, ↓reduceIte, hgt, hgt', s1, s2, e1, e2, e3]
  apply hK; clear hK hP
  refine aw_seq ?_
  refine aw_sreg {} rfl rfl fun K KP hK hP => ?_
  simp only [go_sem, ↓reduceIte, hgt, hgt', s1, s2, e1, e2, e3]
  refine CallP.ret c1 (by simp only [go_sem]; exact trivial) ?_
  try simp only [go_sem, ↓reduceIte, hgt, hgt', s1, s2, e1, e2, e3]
  refine CallP.ret c2 (by simp only [go_sem]; exact trivial) ?_
  try simp only [go_sem, ↓reduceIte, hgt, hgt', s1, s2, e1, e2, e3]
  apply hK; clear hK hP
  refine aw_if (False) (by simp only [go_sem, ↓reduceIte, hgt, hgt', s1, s2, e1, e2, e3]) (fun h3 => ?_) (fun h3 => ?_)
  ·
    exact h3.elim
  ·
    refine aw_skip ?_
    refine athen_normal.2 ?_
    refine aw_sreg {} rfl rfl fun K KP hK hP => ?_
    simp only [go_sem, ↓reduceIte, hgt, hgt', s1, s2, e1, e2, e3]
    apply hK; clear hK hP
    refine aw_ret ?_
    simp only [go_sem, ↓reduceIte, hgt, hgt', s1, s2, e1, e2, e3, athen_ret] <;> (
      refine leaves_two (vcaught1_none _ _ _ _ _ _) ?_
      simp only [go_sem, ↓reduceIte, Nat.reduceEqDiff, s1, s2, e1, e2]
      rw [← hlen]; exact e3 _ _ _)
theorem vcaught_ret' {g : FuncId} {first caps : List AV} {σ σ2 : Sto} {nx n : Nat} {f : Fm} (hok : okV f) (hlen : σ2.length = σ.length)
    (hf : ∀ y z, ∃ tail, ACall CX g (first ++ caps) (σ ++ [y, z]) (nx + 2) (fun o σ' nx' => o = .ret (.agg (E.cells .form f)) ∧ σ' = σ2 ++ ([y, z] ++ tail) ∧ nx' = nx + 2 + n)) :
    ACall CX 11 [.fn (.func g) first caps] σ nx (fun o σ' nx' => o = .ret (.tup [.agg (E.cells .form f), .int .i64 0]) ∧ σ' = σ2 ∧ nx' = nx + 2 + n) := by
  obtain ⟨k0, n0, t0, l0⟩ := f
  exact vcaught_ret hok hlen hf
/-- A closure's contract makes one of what is caught. -/
theorem vcaught_ok {g : FuncId} {pre args post pv f} (hq : QOK CX g ⟨pre, args, post, .d .form, pv, f⟩) (hk : allKeep post = true) :
    COK CX 11 ⟨g, ⟨pre, args, post, .d .form, pv, f⟩, [], .tup [.d .form, .d (.int .i64)], 2, 0, 1, 0, fun _ => true, fun _ => noV, fun _ o => vcB o⟩ := by
  refine And.intro hq (And.intro hk (And.intro ?_ ?_))
  · intro x first caps σ nx h
    cases h
  intro x y r ρ first caps σ σ2 nx _ hr hlen hc
  cases y with
  | ret a =>
    have hr : vcF a = some r := hr
    unfold vcF at hr
    split at hr
    · rename_i hok
      cases hr
      exact vcaught_ret' (f := a) hok hlen fun y z => hc [y, z] rfl
    · cases hr
  | pan b => cases hr
end Go.Ab
