/- merged by minib.py -/
import Derived.Test.YthbkbjlfghikfaaGreatDoorT3
import Derived.Test.YthbkbjlfghikfaaGreatDoorT4
import Derived.Test.YthbkbjlfghikfaaGreatDoorCards
import Derived.Carry
import Derived.Test.YthbkbjlfghikfaaGreatDoorTie
import Derived.WalkKit
import Derived.ProofKit
import Derived.OpenShut
import Derived.Deep.DeepHandedRow
import Derived.Lib.LaidTab
import Derived.Lib.Bytealg
import Derived.Lib.Builder
import Derived.Lib.UnsafeStr
import Derived.Laws.Externs
import Derived.Shelf.RegionOpenPlain
set_option linter.unusedVariables false
set_option linter.unusedSimpArgs false
set_option maxRecDepth 100000
noncomputable section
namespace Go.Ab
open Go Go.RowKit
def Z1W (ops : Array Oper) (π : List Nat) : Bool :=
 decide (π.length = ops.size) && ((List.range ops.size).all (fun i => π.contains i) && (List.range π.length).all fun q => match π[q]? with
  | some j => match ops[j]? with
   | some oj => (!(π.take q).contains j && (oj.after.all fun e => !Region.binds .any e || (π.take q).contains e.on)) && (!X0n oj.op || cntA ops (π.take q) == rk ops.toList j)
   | none => false
  | none => true)
structure Lin (ops : Array Oper) (π : List Nat) : Prop where
 len : π.length = ops.size
 all : ∀ i, i < ops.size -> i ∈ π
 get : ∀ q j, π[q]? = some j -> ∃ oj, ops[j]? = some oj /\ j ∉ π.take q /\ (∀ e ∈ oj.after, Region.binds .any e = true -> e.on ∈ π.take q) /\ (X0n oj.op = true -> cntA ops (π.take q) = rk ops.toList j)
theorem X4M {ops : Array Oper} {π : List Nat} (h : Z1W ops π = true) : Lin ops π := by
 unfold Z1W at h;simp only [Bool.and_eq_true, decide_eq_true_eq] at h;obtain ⟨h2, h3, h4⟩ := h;refine ⟨h2, fun i hi => ?_, fun q j hq => ?_⟩
 ·have := List.all_eq_true.1 h3 i (List.mem_range.2 hi);simpa using this
 have hql : q < π.length := (List.getElem?_eq_some_iff.1 hq).1;have := List.all_eq_true.1 h4 q (List.mem_range.2 hql);rw [hq] at this;simp only at this;split at this
 ·rename_i oj hoj;simp only [Bool.and_eq_true] at this;obtain ⟨⟨a, b⟩, c⟩ := this;refine ⟨oj, hoj, by simpa using a, fun e he hb => ?_, fun ha => ?_⟩
  ·have := Array.all_eq_true_iff_forall_mem.1 b e he;simpa [hb] using this
  simpa [ha] using c
 cases this
def Z4B (P : Program) (H : Hints) (ops : Array Oper) (ms : List Nat) (k : Nat) (r : List Nat) : Bool := match ops[k]? with
 | some ok => r.all fun j => (decide (k < j) && (ms.getD j 0).testBit k) || match ops[j]? with
  | some oj => X7b P H false ops ok oj
  | none => false
 | none => false
def X89 (P : Program) (H : Hints) (ops : Array Oper) (ms : List Nat) : List Nat -> List Nat -> Bool
 | [], _ => true
 | k :: r, t => Z4B P H ops ms k (r ++ t) && X89 P H ops ms r t
def Y0t (P : Program) (H : Hints) (ops : Array Oper) (ms : List Nat) (pre : List Nat) (i j : Nat) (post : List Nat) : Bool :=
 (X4s ops ms && (Z1W ops (pre ++ i :: j :: post) && Z1W ops (pre ++ j :: i :: post))) && ((X89 P H ops ms pre (i :: j :: post) && (X89 P H ops ms (j :: post) [] && X89 P H ops ms (i :: post) [])) && post.all fun l => decide (i < l) && (ms.getD l 0).testBit i)
section
variable {C : Cx} {H : Hints} {ops : Array Oper} {p₀ n₀ : Nat} {ms : List Nat} {K : St -> Prop} {KP : AV -> Sto -> Nat -> Prop}
theorem Lin.closed {pre r : List Nat} (hL : Lin ops (pre ++ r)) : Closed ops (setL ops.size pre) := by
 intro j o ho hl e he hb;have hj := (Array.getElem?_eq_some_iff.1 ho).1;rw [X0Q, if_pos hj] at hl;have hjp : j ∈ pre := by simpa using hl
 obtain ⟨q, hq, hqj⟩ := List.mem_iff_getElem.1 hjp;have hqπ : (pre ++ r)[q]? = some j := by rw [List.getElem?_append_left hq, List.getElem?_eq_getElem hq, hqj]
 obtain ⟨oj, hoj, _, hej, _⟩ := hL.get _ _ hqπ;rw [ho] at hoj; cases hoj;have hm := hej e he hb;have hm' : e.on ∈ pre := by
  rw [List.take_append_of_le_length (Nat.le_of_lt hq)] at hm;exact List.mem_of_mem_take hm
 have hin : e.on < ops.size := by
  obtain ⟨q', hq', hqe⟩ := List.mem_iff_getElem.1 hm';have hqπ' : (pre ++ r)[q']? = some e.on := by rw [List.getElem?_append_left hq', List.getElem?_eq_getElem hq', hqe]
  obtain ⟨oe, hoe, _⟩ := hL.get _ _ hqπ';exact (Array.getElem?_eq_some_iff.1 hoe).1
 rw [X0Q, if_pos hin]; simp [hm']
theorem Lin.head {pre r : List Nat} {k : Nat} (hL : Lin ops (pre ++ k :: r)) : ∃ ok, ops[k]? = some ok /\ k < ops.size /\ k ∉ pre /\ k ∈ Region.ready .any ops (setL ops.size pre) /\ (X0n ok.op = true -> cntA ops pre = rk ops.toList k) := by
 have hk : (pre ++ k :: r)[pre.length]? = some k := by simp
 obtain ⟨ok, hok, hnk, hek, hal⟩ := hL.get _ _ hk;have hlt := (Array.getElem?_eq_some_iff.1 hok).1;have htk : (pre ++ k :: r).take pre.length = pre := by simp
 rw [htk] at hnk hek hal;refine ⟨ok, hok, hlt, hnk, mem_ready.2 ⟨by rw [X0Q, if_pos hlt]; simp [hnk], _, hok, fun e he hb => ?_⟩, hal⟩;have hm' := hek e he hb;have hin : e.on < ops.size := by
  obtain ⟨q', hq', hqe⟩ := List.mem_iff_getElem.1 hm';have hqπ' : (pre ++ k :: r)[q']? = some e.on := by rw [List.getElem?_append_left hq', List.getElem?_eq_getElem hq', hqe]
  obtain ⟨oe, hoe, _⟩ := hL.get _ _ hqπ';exact (Array.getElem?_eq_some_iff.1 hoe).1
 rw [X0Q, if_pos hin]; simp [hm']
theorem Lin.rest {pre r : List Nat} (hL : Lin ops (pre ++ r)) {j : Nat} (hj : j ∈ Region.ready .any ops (setL ops.size pre)) : j ∈ r := by
 obtain ⟨hun, oj, hoj, _⟩ := mem_ready.1 hj;have hlt := (Array.getElem?_eq_some_iff.1 hoj).1;rw [X0Q, if_pos hlt] at hun;have := hL.all j hlt;rcases List.mem_append.1 this with h | h
 ·simp [h] at hun
 exact h
theorem Y85 (hw : X4s ops ms = true) {pre r : List Nat} {k : Nat} {s : St} (hL : Lin ops (pre ++ k :: r)) (hst : Z4B C.P H ops ms k r = true)
  (h : X33 C H (fun _ => false) ops p₀ n₀ k (aAny C H (fun _ => false) ops p₀ n₀ K KP r.length (setL ops.size (pre ++ [k]))) KP s) : aAny C H (fun _ => false) ops p₀ n₀ K KP (r.length + 1) (setL ops.size pre) s := by
 obtain ⟨ok, hok, hlt, hnk, hrd, _⟩ := hL.head;have rest : ∀ j, j < ops.size -> j ∉ pre -> j ≠ k -> j ∈ r := by
  intro j hj hjp hjk;have := hL.all j hj;rcases List.mem_append.1 this with h | h
  ·exact absurd h hjp
  rcases List.mem_cons.1 h with h | h
  ·exact absurd h hjk
  exact h
 refine X6p hok _ _ s (fun l' j oj hc' hsub hoj hjk hun hj => ?_) (fun L hL' hLu => ?_) hL.closed hrd ?_
 ·have hjs := (Array.getElem?_eq_some_iff.1 hoj).1;obtain ⟨hjun, oj', hoj', hall⟩ := mem_ready.1 hj;rw [hoj] at hoj'; cases hoj';have hjp : j ∉ pre := fun hm => by
   have := hsub j (by rw [X0Q, if_pos hjs]; simp [hm]);rw [this] at hjun; cases hjun
  have hjr := rest j hjs hjp hjk;unfold Z4B at hst;rw [hok] at hst;have hst := List.all_eq_true.1 hst j hjr;simp only [Bool.or_eq_true, Bool.and_eq_true, decide_eq_true_eq, hoj] at hst;rcases hst with ⟨hkj, hbit⟩ | hsw
  ·have := X4U hw hc' j oj hoj hall k hkj hbit;rw [Array.getD_eq_getD_getElem?] at this hun;cases hq : l'[k]? with
   | none => rw [hq] at hun; cases hun
   | some q => rw [hq] at this hun; simp at this hun; rw [this] at hun; cases hun
  exact hsw
 ·have := X9g L (k :: r) hL' (fun x hx => by
   have := hLu x hx;rw [X0Q] at this;split at this
   ·rename_i hxl
    by_cases hxk : x = k
    ·simp [hxk]
    have hxp : x ∉ pre := by simpa using this
    simp [rest x hxl hxp hxk]
   cases this)
  simpa using this
 rw [X7J]; exact h
theorem Y1j (hw : X4s ops ms = true) : ∀ (p pre t : List Nat) (s : St), Lin ops (pre ++ (p ++ t)) -> X89 C.P H ops ms p t = true ->
  aseq C H (fun _ => false) ops p₀ n₀ (fun s => aAny C H (fun _ => false) ops p₀ n₀ K KP t.length (setL ops.size (pre ++ p)) s) KP p s -> aAny C H (fun _ => false) ops p₀ n₀ K KP (p.length + t.length) (setL ops.size pre) s
 | [], pre, t, s, hL, hst, h => by simpa [aseq] using h
 | k :: p, pre, t, s, hL, hst, h => by
  simp only [X89, Bool.and_eq_true] at hst;simp only [aseq] at h;have hlen : (k :: p).length + t.length = (p ++ t).length + 1 := by simp; omega
  rw [hlen];refine Y85 hw hL hst.1 (X1q (fun s' h' => ?_) h);have := Y1j hw p (pre ++ [k]) t s' (by simpa using hL) hst.2 (by simpa using h');simpa using this
theorem X9Y (hw : X4s ops ms = true) (p pre : List Nat) (s : St) (hL : Lin ops (pre ++ p)) (hst : X89 C.P H ops ms p [] = true)
  (h : aseq C H (fun _ => false) ops p₀ n₀ K KP p s) : aAny C H (fun _ => false) ops p₀ n₀ K KP p.length (setL ops.size pre) s := by
 have := Y1j (K := K) (KP := KP) (p₀ := p₀) (n₀ := n₀) hw p pre [] s (by simpa using hL) hst ?_
 ·simpa using this
 have hnone : Region.ready .any ops (setL ops.size (pre ++ p)) = [] := by
  cases hr : Region.ready .any ops (setL ops.size (pre ++ p)) with
  | nil => rfl
  | cons j rest =>
   have := Lin.rest (ops := ops) (pre := pre ++ p) (r := []) (by simpa using hL) (j := j) (by rw [hr]; simp);simp at this
 have mono : ∀ (q : List Nat) (s : St), aseq C H (fun _ => false) ops p₀ n₀ K KP q s -> aseq C H (fun _ => false) ops p₀ n₀ (fun s => aAny C H (fun _ => false) ops p₀ n₀ K KP 0 (setL ops.size (pre ++ p)) s) KP q s := by
  intro q
  induction q with
  | nil => intro s h; exact ⟨hnone, h⟩
  | cons k q ih => intro s h; simp only [aseq] at h ⊢; exact X1q ih h
 exact mono p s h
theorem Z1n {pre post : List Nat} {i j : Nat} {s : St} (hB : Y0t C.P H ops ms pre i j post = true) (h1 : aseq C H (fun _ => false) ops p₀ n₀ K KP (i :: j :: post) s) (h2 : aseq C H (fun _ => false) ops p₀ n₀ K KP (j :: i :: post) s) :
  aAny C H (fun _ => false) ops p₀ n₀ K KP (i :: j :: post).length (setL ops.size pre) s := by
 unfold Y0t at hB;simp only [Bool.and_eq_true] at hB;obtain ⟨⟨hw, hL1, hL2⟩, ⟨hs0, hs1, hs2⟩, hp⟩ := hB;have hL1 := X4M hL1;have hL2 := X4M hL2;obtain ⟨oi, hoi, hil, hni, hri, _⟩ := hL1.head;refine ⟨fun e => by rw [e] at hri; (cases hri), fun q hq => ?_⟩;have hqr := hL1.rest hq;rcases List.mem_cons.1 hqr with rfl | hqr
 ·rw [X7J];simp only [aseq] at h1;refine X1q (fun s' h' => ?_) h1;exact X9Y hw (j :: post) (pre ++ [q]) s' (by simpa using hL1) hs1 (by simpa [aseq] using h')
 rcases List.mem_cons.1 hqr with rfl | hqr
 ·rw [X7J];simp only [aseq] at h2;refine X1q (fun s' h' => ?_) h2;exact X9Y hw (i :: post) (pre ++ [q]) s' (by simpa using hL2) hs2 (by simpa [aseq] using h')
 exfalso;have := List.all_eq_true.1 hp q hqr;simp only [Bool.and_eq_true, decide_eq_true_eq] at this;obtain ⟨_, oq, hoq, hall⟩ := mem_ready.1 hq;have h3 := X4U hw hL1.closed q oq hoq hall i this.1 this.2;rw [X0Q, if_pos hil] at h3;exact hni (by simpa using h3)
def X7e (C : Cx) (H : Hints) (ops : Array Oper) (E : Nat -> Nat × Nat -> St -> Prop) (KP : AV -> Sto -> Nat -> Prop) : List Oper -> Nat -> Nat × Nat -> St -> Prop
 | [], k, al, s => E k al s
 | o :: rest, k, al, s => ∃ t, X02 ops s.env o = some t /\
   (t = true -> aop C H false al o (fun v σ nx => X7e C H ops E KP rest (k + 1) (if X0n o.op = true then (al.1 + 1, al.2 + 1) else al) ⟨updo s.env o.dst v, σ, nx⟩) KP s) /\
   (t = false -> X7e C H ops E KP rest (k + 1) (if X0n o.op = true then (al.1 + 1, al.2 + 1) else al) ⟨updo s.env o.dst .undef, s.σ, s.nx⟩)
theorem X2g {E : Nat -> Nat × Nat -> St -> Prop} : ∀ (r pre t : List Nat) (s : St), Lin ops (pre ++ (r ++ t)) ->
  X7e C H ops E KP (r.filterMap (ops[·]?)) pre.length (p₀ + cntA ops pre, n₀ + cntA ops pre) s -> aseq C H (fun _ => false) ops p₀ n₀ (E (pre ++ r).length (p₀ + cntA ops (pre ++ r), n₀ + cntA ops (pre ++ r))) KP r s
 | [], pre, t, s, hL, h => by simpa [aseq, X7e] using h
 | k :: r, pre, t, s, hL, h => by
  obtain ⟨ok, hok, hlt, hnk, _, hal⟩ := Lin.head (r := r ++ t) hL;have hcnt := Y20 ops pre k ok hok;have hnext : (if X0n ok.op = true then (p₀ + cntA ops pre + 1, n₀ + cntA ops pre + 1) else (p₀ + cntA ops pre, n₀ + cntA ops pre)) = (p₀ + cntA ops (pre ++ [k]), n₀ + cntA ops (pre ++ [k])) := by
   rw [hcnt]; split <;> simp [Nat.add_assoc]
  simp only [List.filterMap_cons, hok, X7e, hnext] at h;simp only [aseq, X33, hok];obtain ⟨t', a, b, c⟩ := h;have hlen : pre.length + 1 = (pre ++ [k]).length := by simp
  rw [hlen] at b c;have go : ∀ st, X7e C H ops E KP (r.filterMap (ops[·]?)) (pre ++ [k]).length (p₀ + cntA ops (pre ++ [k]), n₀ + cntA ops (pre ++ [k])) st -> aseq C H (fun _ => false) ops p₀ n₀ (E (pre ++ k :: r).length (p₀ + cntA ops (pre ++ k :: r), n₀ + cntA ops (pre ++ k :: r))) KP r st := fun st hh => by
   have := X2g r (pre ++ [k]) t st (by simpa using hL) hh;simpa using this
  refine ⟨t', a, fun ht => ?_, fun ht => go _ (c ht)⟩;have hb := X4D (b ht) (fun v σ nx hh => go _ hh) (fun _ _ _ hh => hh)
  by_cases ha : X0n ok.op = true
  ·rw [<- hal ha]; exact hb
  exact Z2R (by simpa using ha) hb
end
section
variable {C : Cx} {n : Nat} {ds : List Deferred} {Q : AExit -> St -> Prop} {s : St} {id : Nat} {ops : Array Oper} {objs : Sto}
theorem Z3M {H : Hints} {ms pre post : List Nat} {i j : Nat} (hm : C.P.follows .mixedOrders = true) (hB : Y0t C.P H ops ms pre i j post = true) (hd : Y1v n ops = true) (ho : X0A C.P ops.toList s.nx = some objs)
  (h : X7e C H ops (fun k al st => X7e C H ops (fun _ _ => Q .normal) (fun v σ nx => ∀ env, Q (.pan v) ⟨env, σ, nx⟩) ((i :: j :: post).filterMap (ops[·]?)) k al st /\ X7e C H ops (fun _ _ => Q .normal) (fun v σ nx => ∀ env, Q (.pan v) ⟨env, σ, nx⟩) ((j :: i :: post).filterMap (ops[·]?)) k al st)
   (fun v σ nx => ∀ env, Q (.pan v) ⟨env, σ, nx⟩) (pre.filterMap (ops[·]?)) 0 (s.σ.length, s.nx) ⟨s.env, s.σ ++ objs, s.nx + objs.length⟩) : aw C n ds (.region id ops true) Q s := by
 have hB' := hB;unfold Y0t at hB';simp only [Bool.and_eq_true] at hB';obtain ⟨⟨hw, hL1, hL2⟩, ⟨hs0, hs1, hs2⟩, hp⟩ := hB';have hL1 := X4M hL1;have hL2 := X4M hL2;intro B kn m act w h1 h2 h3;obtain ⟨hI', hk'⟩ := h3.ahead ho;refine wp_region_any hm ?_;have hq := X2g (p₀ := s.σ.length) (n₀ := s.nx) pre [] (i :: j :: post) ⟨s.env, s.σ ++ objs, s.nx + objs.length⟩ (by simpa using hL1) h;have mono : ∀ (q : List Nat) (s1 : St) {K K' : St -> Prop} {KP : AV -> Sto -> Nat -> Prop}, (∀ s, K s -> K' s) -> aseq C H (fun _ => false) ops s.σ.length s.nx K KP q s1 -> aseq C H (fun _ => false) ops s.σ.length s.nx K' KP q s1 := by
  intro q
  induction q with
  | nil => intro s1 K K' KP hk h; exact hk _ h
  | cons k q ih => intro s1 K K' KP hk h; simp only [aseq] at h ⊢; exact X1q (fun s h => ih s hk h) h
 have ha := Y1j (p₀ := s.σ.length) (n₀ := s.nx) (K := Q .normal) hw pre [] (i :: j :: post) _ (by simpa using hL1) hs0 (mono pre _ (fun st hst => by
  obtain ⟨a1, a2⟩ := hst;have b1 := X2g (i :: j :: post) ([] ++ pre) [] st (by simpa using hL1) a1;have b2 := X2g (j :: i :: post) ([] ++ pre) [] st (by simpa using hL2) a2;exact Z1n (by simpa using hB) b1 b2) hq)
 have hlen : pre.length + (i :: j :: post).length = ops.size := by have := hL1.len; simpa using this
 rw [hlen] at ha;rw [Y6B]
 refine X4C (KP := fun v σ nx => ∀ env, Q (.pan v) ⟨env, σ, nx⟩) (K := Q .normal) (B := B) (n := n) (ds := ds) (kn₀ := kn) (m₀ := m) (σ₀ := s.σ) (nx₀ := s.nx) h3.lt (X3t hd) (fun s' kn' m' act' w' hK hR => ⟨.normal, s', kn', m', trivial, hR, hK⟩)
  (fun v u env' kn' m' σ' nx' act' w' hKP hv hR => ⟨.pan v, ⟨env', σ', nx'⟩, kn', m', ⟨u, rfl, hv⟩, hR, hKP env'⟩) ops.size (setL ops.size []) ⟨s.env, s.σ ++ objs, s.nx + objs.length⟩ kn m act _ ⟨⟨h1, h2, hI'.drew, KnLe.refl _, hk'⟩, ?_⟩ ha
 intro j o T hj hT _;obtain ⟨z, hz, hg⟩ := X1p ho (j := j) (by simpa using hj) hT;refine ⟨h3.dom _ (Nat.le_add_right _ _), ?_, Nat.le_add_right _ _, z, hz, ?_⟩
 ·have := (List.getElem?_eq_some_iff.1 hg).1; simp; omega
 rw [List.getElem?_append_right (Nat.le_add_right _ _), Nat.add_sub_cancel_left]; exact hg
end
end Go.Ab
namespace Go.Ab
open Go Go.RowKit
inductive Step (L R : Type) where
 | next (l : L)
 | done (r : R)
def iterM {L R : Type} (b : L -> Option (Step L R)) : Nat -> L -> Option R
 | 0, _ => none
 | d + 1, l => match b l with
  | some (.next l') => iterM b d l'
  | some (.done r) => some r
  | none => none
theorem Y3i {L R : Type} {b : L -> Option (Step L R)} : ∀ (d d' : Nat) (l : L) (r r' : R), iterM b d l = some r -> iterM b d' l = some r' -> r = r'
 | 0, _, _, _, _, h, _ => by cases h
 | _ + 1, 0, _, _, _, _, h => by cases h
 | d + 1, d' + 1, l, r, r', h, h' => by
  simp only [iterM] at h h';split at h
  ·rename_i l' e; rw [e] at h'; exact Y3i d d' l' r r' h h'
  ·rename_i q e; rw [e] at h'; cases h; cases h'; rfl
  cases h
def X0v {L R : Type} (b : L -> Option (Step L R)) (l : L) : Option R :=
 match Classical.propDecidable (∃ r d, iterM b d l = some r) with
 | .isTrue h => some (Classical.choose h)
 | .isFalse _ => none
theorem X19 {L R : Type} {b : L -> Option (Step L R)} {l : L} {r : R} : X0v b l = some r ↔ ∃ d, iterM b d l = some r := by
 unfold X0v;split
 ·rename_i h e;constructor
  ·intro h'; cases h'; exact Classical.choose_spec h
  rintro ⟨d, hd⟩;obtain ⟨d', hd'⟩ := Classical.choose_spec h;rw [Y3i d' d l _ _ hd' hd]
 rename_i h e;constructor
 ·intro h'; cases h'
 rintro ⟨d, hd⟩; exact absurd ⟨r, d, hd⟩ h
theorem X29 {L R : Type} {b : L -> Option (Step L R)} {l l' : L} (h : b l = some (.next l')) : X0v b l = X0v b l' := by
 cases hx : X0v b l' with
 | some r =>
  obtain ⟨d, hd⟩ := X19.1 hx;exact X19.2 ⟨d + 1, by simp only [iterM, h]; exact hd⟩
 | none =>
  cases hy : X0v b l with
  | none => rfl
  | some r =>
   obtain ⟨d, hd⟩ := X19.1 hy;cases d with
   | zero => cases hd
   | succ d =>
    simp only [iterM, h] at hd;rw [X19.2 ⟨d, hd⟩] at hx; cases hx
theorem X0R {L R : Type} {b : L -> Option (Step L R)} {l : L} {r : R} (h : b l = some (.done r)) : X0v b l = some r := X19.2 ⟨1, by simp only [iterM, h]⟩
structure RH where
 H : Hints := {}
 tl : List Nat := []
 π : List Nat := []
 pair : Option (List Nat × Nat × Nat × List Nat) := none
inductive An where
 | leaf
 | seq (a b : An)
 | join (full : Bool) (sh : SS) (a b : An)
 | cond (a b : An)
 | block (a : An)
 | loop (sh : SS) (a : An)
 | frz (js : List Nat) (a : An)
 | frzt (ts : List Nat) (a : An)
 | joinX (keep : List Nat) (a b : An)
 | unroll (n : Nat) (a : An)
def msOf (ops : Array Oper) : List Nat := ops.toList.foldl (fun ms o => ms ++ [o.after.foldl (fun m e => if Region.binds .any e = true then m ||| (1 <<< e.on) ||| ms.getD e.on 0 else m) 0]) []
def X1V : Nat -> Sto -> Sto
 | _, [] => []
 | 0, e :: l => e :: l.map fun q => (q.1, .none)
 | p + 1, q :: l => (q.1, .none) :: X1V p l
def X8E (σp : Sto) : AObj -> AObj
 | .cells T cs => .cells T (cs.map (frzF σp 6))
 | o => o
def Y0g (σp : Sto) (p : Nat) : Nat -> Sto -> Sto
 | _, [] => []
 | j, (nm, o) :: l => (nm, if j = p then .none else X8E σp o) :: Y0g σp p (j + 1) l
def frz1 (p : Nat) (s : XS) : XS := ⟨s.env.map (frzF (X1V p s.σ) 6), Y0g (X1V p s.σ) p 0 s.σ, s.nx⟩
def Y6j (σ : Sto) (p : Nat) : Bool := match σ[p]? with
 | some (_, o) => X0K o
 | none => false
def X3M : List Nat -> XS -> XS
 | [], s => s
 | p :: l, s => X3M l (match Y6j s.σ p with
  | true => s
  | false => frz1 p s)
def Z69 : AV -> List Nat
 | .gs p _ _ _ => [p]
 | .ref p _ _ => [p]
 | _ => []
def jsOf (env : List AV) : An -> List Nat
 | .frz js _ => js
 | .frzt ts _ => ts.flatMap fun t => Z69 (env.getD t .undef)
 | _ => []
def mgC {R : Type} (a b : Option R) : Option R := match Classical.propDecidable (a = b) with
 | .isTrue _ => a
 | .isFalse _ => none
def MgOK {R : Type} (mg : Option R -> Option R -> Option R) : Prop := ∀ a b r, mg a b = some r -> a = some r /\ b = some r
theorem Y0q {R : Type} : MgOK (mgC (R := R)) := fun a b r h => by
 unfold mgC at h;split at h
 ·rename_i e _; exact ⟨h, e ▸ h⟩
 cases h
def mgX {R : Type} (mg : Option R -> Option R -> Option R) (a b : Option (Step XS R)) : Option (Step XS R) := match a with
 | some (.next s) => match b with
  | some (.next s') => match eqXS s s' with
   | true => some (.next s)
   | false => none
  | _ => none
 | some (.done r) => match b with
  | some (.done r') => (mg (some r) (some r')).map .done
  | _ => none
 | none => none
theorem Z51 {R : Type} {mg : Option R -> Option R -> Option R} (h : MgOK mg) : MgOK (mgX mg) := fun a b q hq => by
 unfold mgX at hq;split at hq
 ·split at hq
  ·split at hq
   ·rename_i e; cases hq; exact ⟨rfl, by rw [Y7k _ _ e]⟩
   cases hq
  cases hq
 ·split at hq
  ·obtain ⟨r, hr, rfl⟩ := Option.map_eq_some_iff.1 hq;obtain ⟨h1, h2⟩ := h _ _ _ hr;cases h1; cases h2; exact ⟨rfl, rfl⟩
  cases hq
 cases hq
def Y14 (C : Cx) (sigs : FuncId -> List Sig) (H : Hints) (ops : Array Oper) {R : Type} (KP : AV -> Sto -> Nat -> Option R) (E : Nat -> Nat × Nat -> YS -> Option R) : List Oper -> Nat -> Nat × Nat -> YS -> Option R
 | [], k, al, s => E k al s
 | o :: rest, k, al, s => Z2G C sigs H false ops KP o al s fun s' => Y14 C sigs H ops KP E rest (k + 1) (if X0n o.op = true then (al.1 + 1, al.2 + 1) else al) s'
def Y76 {R : Type} (nxt : XS -> Option R) (K : AExit -> XS -> Option R) : AExit -> XS -> Option R
 | .normal, s => nxt s
 | e, s => K e s
def Z7a {L : Type} (ab : XS -> Option L) : AExit -> XS -> Option L
 | .normal, s => ab s
 | _, _ => none
def Z4g {L R : Type} (ab : XS -> Option L) (K : AExit -> XS -> Option R) : AExit -> XS -> Option (Step L R)
 | .normal, s => (ab s).map .next
 | e, s => (K e s).map .done
def Z5Y {R : Type} (keep : List Nat) (K : AExit -> XS -> Option R) : AExit -> XS -> Option (Step XS R)
 | .normal, s => fcXS ⟨clrE keep 0 s.env, s.σ, s.nx⟩ fun s' => some (.next s')
 | e, s => (K e s).map .done
def Y9t {R : Type} (id : Nat) (K : AExit -> XS -> Option R) : AExit -> XS -> Option R
 | .exit i, s => if i = id then K .normal s else K (.exit i) s
 | e, s => K e s
def Y5G {R : Type} (b : XS -> (AExit -> XS -> Option R) -> Option R) : Nat -> XS -> (AExit -> XS -> Option R) -> Option R
 | 0, _, _ => none
 | d + 1, s, K => b s (Y76 (fun s' => Y5G b d s' K) K)
def X1i (C : Cx) (sigs : FuncId -> List Sig) (hint : Nat -> RH) (k n : Nat) : Code -> An -> {R : Type} -> (Option R -> Option R -> Option R) -> XS -> (AExit -> XS -> Option R) -> Option R
 | .skip, _, _, _, s, K => K .normal s
 | .label _, _, _, _, s, K => K .normal s
 | .exit id, _, _, _, s, K => K (.exit id) s
 | .ret, an, _, _, s, K => K .ret (X3M (jsOf s.env an) s)
 | .seq x y, an, _, mg, s, K => match an with
  | .join full sh a b => if X9D k 0 sh.objs = true then (match full with
   | false => (X1i C sigs hint k n x a mgC s (Z7a (absS sh))).bind fun l => X1i C sigs hint k n y b mg (patS k n sh l) K
   | true => (X1i C sigs hint k n x a mgC s (Z4g (absS sh) K)).bind fun q => match q with
    | .next l => X1i C sigs hint k n y b mg (patS k n sh l) K
    | .done r => some r) else none
  | .joinX keep a b => (X1i C sigs hint k n x a (mgX mg) s (Z5Y keep K)).bind fun q => match q with
   | .next s' => X1i C sigs hint k n y b mg s' K
   | .done r => some r
  | .seq a b => X1i C sigs hint k n x a mg s (Y76 (fun s' => X1i C sigs hint k n y b mg s' K) K)
  | .frz js a => X1i C sigs hint k n x .leaf mg (X3M js s) (Y76 (fun s' => X1i C sigs hint k n y a mg s' K) K)
  | .frzt ts a => X1i C sigs hint k n x .leaf mg (X3M (jsOf s.env (.frzt ts a)) s) (Y76 (fun s' => X1i C sigs hint k n y a mg s' K) K)
  | _ => X1i C sigs hint k n x .leaf mg s (Y76 (fun s' => X1i C sigs hint k n y .leaf mg s' K) K)
 | .cond o x y, an, _, mg, s, K => match opv C (xenv s.env) o with
  | .bool c => match an with
   | .cond a b => cond c (X1i C sigs hint k n x a mg s K) (X1i C sigs hint k n y b mg s K)
   | _ => cond c (X1i C sigs hint k n x .leaf mg s K) (X1i C sigs hint k n y .leaf mg s K)
  | _ => none
 | .block id c, an, _, mg, s, K => match an with
  | .block a => X1i C sigs hint k n c a mg s (Y9t id K)
  | _ => X1i C sigs hint k n c .leaf mg s (Y9t id K)
 | .loop c, an, _, mg, s, K => match an with
  | .loop sh a => if X9D k 0 sh.objs = true then (absS sh s).bind fun l0 => X0v (fun l => X1i C sigs hint k n c a mgC (patS k n sh l) (Z4g (absS sh) K)) l0 else none
  | .unroll d a => Y5G (fun s K => X1i C sigs hint k n c a mg s K) d s K
  | _ => none
 | .region id ops draws, an, _, mg, s0, K =>
  let s := X3M (jsOf s0.env an) s0
  if Y1v n ops = true then (match X0A C.P ops.toList s.nx with
   | none => none
   | some objs => match draws with
    | false => yreg C sigs (hint id).H (fun _ => true) ops (fun x => K .normal x) (fun v σ nx => K (.pan v) ⟨[], σ, nx⟩) ops.toList 0 (s.σ.length, s.nx) ⟨s.env, [], s.σ ++ objs, s.nx + objs.length⟩
    | true => match (hint id).pair with
     | some (pre, i, j, post) => if (C.P.follows .mixedOrders && Y0t C.P (hint id).H ops (msOf ops) pre i j post) = true then
       Y14 C sigs (hint id).H ops (fun v σ nx => K (.pan v) ⟨[], σ, nx⟩)
        (fun q al st => mg (Y14 C sigs (hint id).H ops (fun v σ nx => K (.pan v) ⟨[], σ, nx⟩) (fun _ _ st => K .normal ⟨X2u st.tags st.env, st.σ, st.nx⟩) ((i :: j :: post).filterMap (ops[·]?)) q al st)
         (Y14 C sigs (hint id).H ops (fun v σ nx => K (.pan v) ⟨[], σ, nx⟩) (fun _ _ st => K .normal ⟨X2u st.tags st.env, st.σ, st.nx⟩) ((j :: i :: post).filterMap (ops[·]?)) q al st))
        (pre.filterMap (ops[·]?)) 0 (s.σ.length, s.nx) ⟨s.env, [], s.σ ++ objs, s.nx + objs.length⟩ else none
     | none => match (hint id).π with
      | [] => if (C.P.follows .mixedOrders && Y25 C.P (hint id).H (fun i => (hint id).tl.contains i) ops (msOf ops)) = true then
        yreg C sigs (hint id).H (fun i => (hint id).tl.contains i) ops (fun x => K .normal x) (fun v σ nx => K (.pan v) ⟨[], σ, nx⟩) ops.toList 0 (s.σ.length, s.nx) ⟨s.env, [], s.σ ++ objs, s.nx + objs.length⟩ else none
      | π => if (C.P.follows .mixedOrders && Y3v C.P (hint id).H (hint id).tl ops (msOf ops) π) = true then
        yreg C sigs (hint id).H (fun i => (hint id).tl.contains i) ops (fun x => K .normal x) (fun v σ nx => K (.pan v) ⟨[], σ, nx⟩) (π.filterMap (ops[·]?)) 0 (s.σ.length, s.nx) ⟨s.env, [], s.σ ++ objs, s.nx + objs.length⟩ else none) else none
 | _, _, _, _, _, _ => none
end Go.Ab
namespace Go.Ab
open Go Go.RowKit
structure Sim (C : Cx) (B : Base) (n : Nat) (ds : List Deferred) (k : Nat) (kn₀ : Kn) (m₀ : Mp) (s : XS) (kn : Kn) (m : Mp) (act : Act) (w : World) : Prop where
 env : RelEnv kn m (xenv s.env) n act
 defs : act.defers = ds
 inv : Inv C B kn m s.σ s.nx w
 le : KnLe kn₀ kn
 nx : k <= s.nx
 base : ∀ i, i < k -> m i = m₀ i
 lay : ∀ i, i < k -> ∃ loc, m i = some loc
structure SimP (C : Cx) (B : Base) (ds : List Deferred) (k : Nat) (kn₀ : Kn) (m₀ : Mp) (σ : Sto) (nx : Nat) (kn : Kn) (m : Mp) (act : Act) (w : World) : Prop where
 defs : act.defers = ds
 inv : Inv C B kn m σ nx w
 le : KnLe kn₀ kn
 nx : k <= nx
 base : ∀ i, i < k -> m i = m₀ i
def Good (C : Cx) (B : Base) (n : Nat) (ds : List Deferred) (k : Nat) (kn₀ : Kn) (m₀ : Mp) (post : Exit -> Act -> World -> Prop) : AExit -> XS -> Prop
 | .pan v, s => ∀ kn m act w, SimP C B ds k kn₀ m₀ s.σ s.nx kn m act w -> ∀ u, Rel kn m v u -> post (.panic [{ v := u, recovered := false }]) act w
 | e, s => ∀ kn m act w, Sim C B n ds k kn₀ m₀ s kn m act w -> ∀ ce, X0x kn m e ce -> post ce act w
section
variable {C : Cx} {B : Base} {n : Nat} {ds : List Deferred} {k : Nat} {kn₀ : Kn} {m₀ : Mp}
theorem X6A : ∀ (p : Nat) (σ : Sto) (q nm : Nat) (o : AObj), (X1V p σ)[q]? = some (nm, o) -> (q = p /\ σ[q]? = some (nm, o)) \/ o = .none
 | _, [], q, nm, o, h => by simp [X1V] at h
 | 0, e :: l, q, nm, o, h => by
  cases q with
  | zero => simp only [X1V, List.getElem?_cons_zero] at h; exact .inl ⟨rfl, h⟩
  | succ q =>
   simp only [X1V, List.getElem?_cons_succ, List.getElem?_map] at h;cases hx : l[q]? with
   | none => simp [hx] at h
   | some y => simp [hx] at h; exact .inr h.2.symm
 | p + 1, e :: l, q, nm, o, h => by
  cases q with
  | zero => simp only [X1V, List.getElem?_cons_zero, Option.some.injEq, Prod.mk.injEq] at h; exact .inr h.2.symm
  | succ q =>
   simp only [X1V, List.getElem?_cons_succ] at h;rcases X6A p l q nm o h with ⟨h1, h⟩ | h
   ·exact .inl ⟨by omega, by simpa using h⟩
   exact .inr h
theorem Y0h (σp : Sto) (p : Nat) : ∀ (σ : Sto) (j q nm : Nat) (o : AObj), (Y0g σp p j σ)[q]? = some (nm, o) -> ∃ o', σ[q]? = some (nm, o') /\ ((j + q = p /\ o = .none) \/ (j + q ≠ p /\ o = X8E σp o'))
 | [], j, q, nm, o, h => by simp [Y0g] at h
 | (nm0, o0) :: l, j, q, nm, o, h => by
  cases q with
  | zero =>
   simp only [Y0g, List.getElem?_cons_zero, Option.some.injEq, Prod.mk.injEq] at h;obtain ⟨rfl, rfl⟩ := h;refine ⟨o0, rfl, ?_⟩
   by_cases hj : j = p
   ·exact .inl ⟨hj, if_pos hj⟩
   exact .inr ⟨hj, if_neg hj⟩
  | succ q =>
   simp only [Y0g, List.getElem?_cons_succ] at h;obtain ⟨o', h1, h2⟩ := Y0h σp p l (j + 1) q nm o h;exact ⟨o', by simpa using h1, by rwa [show j + (q + 1) = j + 1 + q by omega]⟩
theorem Y7n {s : XS} {kn : Kn} {m : Mp} {act : Act} {w : World} (p : Nat) (h : Sim C B n ds k kn₀ m₀ s kn m act w) (hnh : Y6j s.σ p = false) : ∃ kn', Sim C B n ds k kn₀ m₀ (frz1 p s) kn' m act w := by
 have hI := h.inv
 obtain ⟨kn', hcase⟩ : ∃ kn' : Kn, (kn' = kn /\ ∀ (nm : Nat) (ob : AObj) (loc : Loc), s.σ[p]? = some (nm, ob) -> live ob -> m nm = some loc -> loc.nil = false -> False) \/
   ∃ nm ob loc, s.σ[p]? = some (nm, ob) /\ live ob /\ m nm = some loc /\ loc.nil = false /\ kn' = fun b o => if b = loc.blk then w.cell? ⟨b, o, none⟩ else kn b o := by
  by_cases hx : ∃ nm ob loc, s.σ[p]? = some (nm, ob) /\ live ob /\ m nm = some loc /\ loc.nil = false
  ·obtain ⟨nm, ob, loc, h1, h2, h3, h4⟩ := hx;exact ⟨_, .inr ⟨nm, ob, loc, h1, h2, h3, h4, rfl⟩⟩
  exact ⟨kn, .inl ⟨rfl, fun nm ob loc h1 h2 h3 h4 => hx ⟨nm, ob, loc, h1, h2, h3, h4⟩⟩⟩
 have hle : KnLe kn kn' := by
  rcases hcase with ⟨e, _⟩ | ⟨nm, ob, loc, hp, hl, hm, hn, e⟩
  ·rw [e]; exact KnLe.refl _
  intro b o v hv;rw [e];simp only;split
  ·rename_i hb;subst hb;exact hI.knok _ _ _ hv
  exact hv
 have hold : ∀ b, b < B.w.heap.size -> ¬ B.own b -> kn' b = kn b := fun b hb hob => by
  rcases hcase with ⟨e, _⟩ | ⟨nm, ob, loc, hp, hl, hm, hn, e⟩
  ·rw [e]
  rw [e]
  funext o
  simp only;rw [if_neg];intro hbb;subst hbb;rcases (hI.own p nm ob loc hp hl hm hn).2.1 with h1 | h1
  ·omega
  exact hob h1
 have hfrz : ∀ (x : AV) (v : Value), Rel kn m x v -> Rel kn' m (frzF (X1V p s.σ) 6 x) v := Y9L (P := C.P) (w := w) hle (fun q nm ob e l => by
   rcases X6A p s.σ q nm ob e with ⟨_, e⟩ | e
   ·exact hI.obj _ _ _ e
   ·rw [e] at l; cases l) (fun q nm ob loc e l hm hn o => by
   rcases X6A p s.σ q nm ob e with ⟨hq, e⟩ | e
   ·rw [hq] at e;rcases hcase with ⟨hk, hno⟩ | ⟨nm', ob', loc', hp, hl, hm', hn', hk⟩
    ·exact (hno nm ob loc e l hm hn).elim
    rw [e] at hp; cases hp;rw [hm] at hm'; cases hm';rw [hk]; simp
   rw [e] at l; cases l) 6
 have hother : ∀ (q nm : Nat) (ob : AObj) (loc : Loc), q ≠ p -> s.σ[q]? = some (nm, ob) -> live ob -> m nm = some loc -> loc.nil = false -> kn' loc.blk = kn loc.blk := fun q nm ob loc hq e l hm hn => by
  rcases hcase with ⟨hk, hno⟩ | ⟨nm', ob', loc', hp, hl, hm', hn', hk⟩
  ·rw [hk]
  rw [hk]
  funext o
  simp only;rw [if_neg (hI.dist q nm ob loc p nm' ob' loc' e hp l hl hm hm' hn hn' hq)]
 have hget : ∀ (q nm : Nat) (o : AObj), (frz1 p s).σ[q]? = some (nm, o) -> ∃ o', s.σ[q]? = some (nm, o') /\ ((q = p /\ o = .none) \/ (q ≠ p /\ o = X8E (X1V p s.σ) o')) := fun q nm o e => by
  have := Y0h (X1V p s.σ) p s.σ 0 q nm o e;simpa only [Nat.zero_add] using this
 have hlive : ∀ o', live (X8E (X1V p s.σ) o') -> live o' := fun o' => by cases o' <;> exact id
 have hhand : ∀ o', X0K (X8E (X1V p s.σ) o') = false -> X0K o' = false := fun o' => by cases o' <;> exact id
 have hstk : ∀ o', X0D (X8E (X1V p s.σ) o') = true -> X0D o' = true := fun o' => by cases o' <;> exact id
 refine ⟨kn', ⟨⟨h.env.size, fun t => ?_⟩, h.defs, ⟨fun b o v e => ?_, hI.size, hI.os, hI.tape, hI.output, fun b hb hob => ⟨(hI.old b hb hob).1, (hold b hb hob).trans (hI.old b hb hob).2⟩, fun q nm o e => ?_, fun q nm o loc e l hm hn => ?_,
  fun q nm o loc q' nm' o' loc' e e' l l' hm hm' hn hn' hne => ?_, hI.dom, fun q nm o e => ?_, fun q q' nm o o' e e' => ?_, fun q q' nm nm' o o' e e' s1 s2 => ?_, fun g => (hI.glob g).mono hle (MpLe.refl m), hI.tab⟩, h.le.trans hle, h.nx, h.base, h.lay⟩⟩
 ·show Rel kn' m ((s.env.map (frzF (X1V p s.σ) 6)).getD t .undef) _;have h1 := h.env.tmp t;simp only [xenv, List.getD_eq_getElem?_getD, List.getElem?_map] at h1 ⊢;cases hx : s.env[t]? with
  | none =>
   rw [hx] at h1;simp only [Option.map_none, Option.getD_none] at h1 ⊢;exact h1.mono hle (MpLe.refl m)
  | some a =>
   rw [hx] at h1;simp only [Option.map_some, Option.getD_some] at h1 ⊢;exact hfrz a _ h1
 ·rcases hcase with ⟨hk, hno⟩ | ⟨nm', ob', loc', hp, hl, hm', hn', hk⟩
  ·rw [hk] at e; exact hI.knok b o v e
  rw [hk] at e;simp only at e;split at e
  ·exact e
  exact hI.knok b o v e
 ·obtain ⟨o', e', h2⟩ := hget q nm o e;rcases h2 with ⟨_, rfl⟩ | ⟨hne, rfl⟩
  ·trivial
  have h0 := hI.obj q nm o' e';cases o' with
  | cells T cs =>
   simp only [X8E, ObjRel] at h0 ⊢;cases hm : m nm with
   | none =>
    rw [hm] at h0;simp only at h0 ⊢;have : cs.map (frzF (X1V p s.σ) 6) = cs := by
     have hz := h0;unfold zeroCells at hz;cases hi : (C.P.info? T).bind (·.zero) with
     | none => rw [hi] at hz; simp at hz
     | some v =>
      rw [hi] at hz;simp only [Option.bind_some, Option.ite_none_right_eq_some, Option.some.injEq] at hz;rw [<- hz.2, List.map_map];apply List.map_congr_left;intro a _;show frzF (X1V p s.σ) 6 (X11 a) = X11 a;unfold X11;split <;> first | rfl | (split <;> rfl)
    rw [this]; exact h0
   | some loc =>
    rw [hm] at h0;simp only at h0 ⊢;obtain ⟨a0, a1, arr, a2, a3⟩ := h0;refine ⟨a0, a1, arr, a2, ⟨by simpa using a3.1.1, fun i x v ex ev => ?_⟩, a3.2⟩;rw [List.getElem?_map] at ex;cases hx : cs[i]? with
    | none => simp [hx] at ex
    | some y =>
     simp only [hx, Option.map_some, Option.some.injEq] at ex;subst ex;exact hfrz y v (a3.1.2 i y v hx ev)
  | none => trivial
  | gvec a b c => exact h0.mono hle (fun _ _ _ _ => rfl) (fun b hb => by rcases hb with ⟨h, _⟩ | ⟨h, _⟩ <;> cases h)
  | tg a b c => exact h0.mono hle (fun _ _ _ _ => rfl) (fun b hb => by rcases hb with ⟨h, _⟩ | ⟨h, _⟩ <;> cases h)
  | siter a b => exact h0.mono hle (fun _ _ _ _ => rfl) (fun b hb => by rcases hb with ⟨h, _⟩ | ⟨h, _⟩ <;> cases h)
  | hand e ps pe r ys =>
   refine h0.mono hle (fun _ _ _ _ => rfl) (fun b hb => ?_);rcases hb with ⟨h, _⟩ | ⟨_, loc, hm, hn, rfl⟩
   ·cases h
   exact ⟨rfl, hother q nm _ loc hne e' trivial hm hn⟩
  | stk e ety l k =>
   refine h0.mono hle (fun _ _ _ _ => rfl) (fun b hb => ?_);rcases hb with ⟨_, o1, v1, hk1⟩ | ⟨h, _⟩
   ·refine ⟨rfl, ?_⟩;rcases hcase with ⟨hk, hno⟩ | ⟨nm', ob', loc', hp, hl, hm', hn', hk⟩
    ·rw [hk]
    rw [hk]
    funext o
    simp only;rw [if_neg];rintro rfl;cases hx : X0K ob' with
    | false => rw [(hI.own p nm' ob' loc' hp hl hm' hn').2.2 hx o1] at hk1; cases hk1
    | true => unfold Y6j at hnh; rw [hp] at hnh; exact absurd (hx.symm.trans hnh) (fun h => by cases h)
   cases h
 ·obtain ⟨o', e', h2⟩ := hget q nm o e;rcases h2 with ⟨_, rfl⟩ | ⟨hne, rfl⟩
  ·cases l
  obtain ⟨h3, h4, h5⟩ := hI.own q nm o' loc e' (hlive _ l) hm hn;exact ⟨h3, h4, fun hx o => by rw [hother q nm o' loc hne e' (hlive _ l) hm hn]; exact h5 (hhand _ hx) o⟩
 ·obtain ⟨o1, e1, h2⟩ := hget q nm o e;obtain ⟨o2, e2, h3⟩ := hget q' nm' o' e';rcases h2 with ⟨_, rfl⟩ | ⟨hne1, rfl⟩
  ·cases l
  rcases h3 with ⟨_, rfl⟩ | ⟨hne2, rfl⟩
  ·cases l'
  exact hI.dist q nm o1 loc q' nm' o2 loc' e1 e2 (hlive _ l) (hlive _ l') hm hm' hn hn' hne
 ·obtain ⟨o', e', _⟩ := hget q nm o e; exact hI.lt _ _ _ e'
 ·obtain ⟨o1, e1, _⟩ := hget q nm o e;obtain ⟨o2, e2, _⟩ := hget q' nm o' e';exact hI.uniq _ _ _ _ _ e1 e2
 have st : ∀ (q nm : Nat) (o : AObj), (frz1 p s).σ[q]? = some (nm, o) -> X0D o = true -> ∃ o', s.σ[q]? = some (nm, o') /\ X0D o' = true := fun q nm o e s1 => by
  obtain ⟨o', e', h2⟩ := hget q nm o e;rcases h2 with ⟨_, rfl⟩ | ⟨_, rfl⟩
  ·cases s1
  exact ⟨o', e', hstk _ s1⟩
 obtain ⟨o1, e1, t1⟩ := st q nm o e s1;obtain ⟨o2, e2, t2⟩ := st q' nm' o' e' s2;exact hI.stk1 _ _ _ _ _ _ e1 e2 t1 t2
theorem X1G {m : Mp} {act : Act} {w : World} : ∀ (js : List Nat) (s : XS) (kn : Kn), Sim C B n ds k kn₀ m₀ s kn m act w -> ∃ kn', Sim C B n ds k kn₀ m₀ (X3M js s) kn' m act w
 | [], s, kn, h => ⟨kn, h⟩
 | p :: l, s, kn, h => by
  cases hx : Y6j s.σ p with
  | true =>
   have : X3M (p :: l) s = X3M l s := by simp only [X3M, hx]
   rw [this];exact X1G l _ kn h
  | false =>
   have : X3M (p :: l) s = X3M l (frz1 p s) := by simp only [X3M, hx]
   rw [this];obtain ⟨kn', h'⟩ := Y7n p h hx;exact X1G l _ kn' h'
theorem Z3Y {keep : List Nat} {s : XS} {kn : Kn} {m : Mp} {act : Act} {w : World} (h : Sim C B n ds k kn₀ m₀ s kn m act w) : Sim C B n ds k kn₀ m₀ ⟨clrE keep 0 s.env, s.σ, s.nx⟩ kn m act w :=
 ⟨⟨h.env.size, fun t => by
   have := h.env.tmp t;show Rel kn m ((clrE keep 0 s.env).getD t .undef) _;rcases Y6f keep s.env 0 t with e | e
   ·rw [e]; exact this
   rw [e]; exact .any _⟩, h.defs, h.inv, h.le, h.nx, h.base, h.lay⟩
theorem Y1K {ss : SS} {x : XS} {d : ss.den} {kn : Kn} {m : Mp} {act : Act} {w : World} (h : absS ss x = some d) (hkeep : X9D k 0 ss.objs = true) (hS : Sim C B n ds k kn₀ m₀ x kn m act w) : ∃ m', Sim C B n ds k kn₀ m₀ (patS k n ss d) kn m' act w := by
 obtain ⟨m', h1, h2, h3, _⟩ := Y0r (n := n) h hkeep hS.inv hS.env hS.lay;exact ⟨m', h2, hS.defs, h1, hS.le, Nat.le_add_right _ _, fun i hi => (h3 i hi).trans (hS.base i hi), fun i hi => by rw [h3 i hi]; exact hS.lay i hi⟩
theorem Y0R {sigs : FuncId -> List Sig} (hs : ∀ g, ∀ sg ∈ sigs g, SigOK C g sg) {H : Hints} {tt : Nat -> Bool} {ops : Array Oper} {R : Type} {K : XS -> Option R} {KP : AV -> Sto -> Nat -> Option R} {r : R} {Kp : St -> Prop} {KPp : AV -> Sto -> Nat -> Prop}
  (hK : ∀ x, K x = some r -> ∀ aenv', Weak x.env aenv' -> Kp ⟨aenv', x.σ, x.nx⟩) (hP : ∀ v σ nx, KP v σ nx = some r -> KPp v σ nx) :
  ∀ (l : List Oper) (q : Nat) (al : Nat × Nat) (s : YS) (aenv : Nat -> AV), Ref ops s aenv -> yreg C sigs H tt ops K KP l q al s = some r -> areg C H tt ops Kp KPp l q al ⟨aenv, s.σ, s.nx⟩
 | [], q, al, s, aenv, hR, h => hK _ h aenv hR.weak
 | o :: rest, q, al, s, aenv, hR, h => by
  exact X9r (N := fun aenv σ nx => areg C H tt ops Kp KPp rest (q + 1) (if X0n o.op = true then (al.1 + 1, al.2 + 1) else al) ⟨aenv, σ, nx⟩) hs hR h
   (fun s' aenv' h' hR' => Y0R hs hK hP rest (q + 1) _ s' aenv' hR' h') hP
theorem X5x {sigs : FuncId -> List Sig} (hs : ∀ g, ∀ sg ∈ sigs g, SigOK C g sg) {H : Hints} {ops : Array Oper} {R : Type} {KP : AV -> Sto -> Nat -> Option R} {E : Nat -> Nat × Nat -> YS -> Option R} {r : R} {KPp : AV -> Sto -> Nat -> Prop} {Ep : Nat -> Nat × Nat -> St -> Prop}
  (hE : ∀ q al st aenv, E q al st = some r -> Ref ops st aenv -> Ep q al ⟨aenv, st.σ, st.nx⟩) (hP : ∀ v σ nx, KP v σ nx = some r -> KPp v σ nx) :
  ∀ (l : List Oper) (q : Nat) (al : Nat × Nat) (s : YS) (aenv : Nat -> AV), Ref ops s aenv -> Y14 C sigs H ops KP E l q al s = some r -> X7e C H ops Ep KPp l q al ⟨aenv, s.σ, s.nx⟩
 | [], q, al, s, aenv, hR, h => hE _ _ _ _ h hR
 | o :: rest, q, al, s, aenv, hR, h => by
  exact X9r (N := fun aenv σ nx => X7e C H ops Ep KPp rest (q + 1) (if X0n o.op = true then (al.1 + 1, al.2 + 1) else al) ⟨aenv, σ, nx⟩) hs hR h
   (fun s' aenv' h' hR' => X5x hs hE hP rest (q + 1) _ s' aenv' hR' h') hP
end
end Go.Ab
namespace Go.Ab
open Go Go.RowKit
section
variable {C : Cx} {B : Base} {n : Nat} {ds : List Deferred} {k : Nat} {kn₀ : Kn} {m₀ : Mp}
theorem Z0q {s : XS} {s' : XS} {kn kn' : Kn} {m m' : Mp} {act act' : Act} {w w' : World} {aenv : Nat -> AV} (hS : Sim C B n ds k kn₀ m₀ s kn m act w) (hR : RS C B n ds kn m s.σ s.nx kn' m' ⟨aenv, s'.σ, s'.nx⟩ act' w') (hw : Weak s'.env aenv) : Sim C B n ds k kn₀ m₀ s' kn' m' act' w' :=
 ⟨⟨hR.env.size, fun t => by
   have := hR.env.tmp t;rcases hw t with e | e
   ·rw [<- e]; exact this
   ·rw [e]; exact .any _⟩, hR.defs, hR.inv, hS.le.trans hR.knle, Nat.le_trans hS.nx hR.keep.le, fun i hi => (hR.keep.ag i (Nat.lt_of_lt_of_le hi hS.nx)).trans (hS.base i hi),
   fun i hi => by rw [hR.keep.ag i (Nat.lt_of_lt_of_le hi hS.nx)]; exact hS.lay i hi⟩
def X7Y {R : Type} (K : AExit -> XS -> Option R) (r : R) : AExit -> St -> Prop
 | .normal, s => ∃ x : XS, K .normal x = some r /\ Weak x.env s.env /\ x.σ = s.σ /\ x.nx = s.nx
 | .pan v, s => K (.pan v) ⟨[], s.σ, s.nx⟩ = some r
 | _, _ => False
theorem Z2d {R : Type} {K : AExit -> XS -> Option R} {r : R} {post : Exit -> Act -> World -> Prop} (hK : ∀ e s', K e s' = some r -> Good C B n ds k kn₀ m₀ post e s') {c : Code} {s : XS} {kn : Kn} {m : Mp} {act : Act} {w : World} (hS : Sim C B n ds k kn₀ m₀ s kn m act w)
  (h : aw C n ds c (X7Y K r) s.st) : c.wp C.P post act w := by
 refine wp_mono (h B kn m act w hS.env hS.defs hS.inv) ?_;rintro e act' w' ⟨ae, s', kn', m', hx, hR, hq⟩;cases ae with
 | normal =>
  obtain ⟨x, h1, h2, h3, h4⟩ := hq;refine hK _ _ h1 kn' m' act' w' ?_ e hx;refine Z0q (aenv := s'.env) hS ?_ h2;rw [h3, h4]; exact hR
 | pan v =>
  cases e with
  | panic ch =>
   obtain ⟨u, rfl, hu⟩ := hx;exact hK _ _ hq kn' m' act' w' ⟨hR.defs, hR.inv, hS.le.trans hR.knle, Nat.le_trans hS.nx hR.keep.le, fun i hi => (hR.keep.ag i (Nat.lt_of_lt_of_le hi hS.nx)).trans (hS.base i hi)⟩ u hu
  | _ => exact hx.elim
 | _ => exact hq.elim
theorem Y3C (ops : Array Oper) (env : List AV) (σ : Sto) (nx : Nat) : Ref ops ⟨env, [], σ, nx⟩ (xenv env) := ⟨fun _ _ => rfl, (fun t g e h => by cases h), (fun t q h => by cases h)⟩
theorem X4d {post : Exit -> Act -> World -> Prop} {nxt : Act -> World -> Prop} {e : AExit} {s : XS} (h : Good C B n ds k kn₀ m₀ post e s) (hn : e ≠ .normal) : Good C B n ds k kn₀ m₀ (Exit.then nxt post) e s := by
 cases e with
 | normal => exact absurd rfl hn
 | pan v => exact fun kn m act w hS u hu => h kn m act w hS u hu
 | exit i => intro kn m act w hS ce hx; cases ce <;> first | exact h kn m act w hS _ hx | exact hx.elim
 | goto i => intro kn m act w hS ce hx; cases ce <;> first | exact h kn m act w hS _ hx | exact hx.elim
 | ret => intro kn m act w hS ce hx; cases ce <;> first | exact h kn m act w hS _ hx | exact hx.elim
theorem X1Z {post : Exit -> Act -> World -> Prop} {s : XS} (h : ∀ kn m act w, Sim C B n ds k kn₀ m₀ s kn m act w -> post .normal act w) : Good C B n ds k kn₀ m₀ post .normal s := fun kn m act w hS ce hx => by
 cases ce <;> first | exact h kn m act w hS | exact hx.elim
theorem Y15 {sigs : FuncId -> List Sig} (hs : ∀ g, ∀ sg ∈ sigs g, SigOK C g sg) {hint : Nat -> RH} {id : Nat} {ops : Array Oper} {draws : Bool} {R : Type} {mg : Option R -> Option R -> Option R} (hmg : MgOK mg) {s : XS} {K : AExit -> XS -> Option R} {r : R} {post : Exit -> Act -> World -> Prop}
  (h : (if Y1v n ops = true then (match X0A C.P ops.toList s.nx with
   | none => none
   | some objs => match draws with
    | false => yreg C sigs (hint id).H (fun _ => true) ops (fun x => K .normal x) (fun v σ nx => K (.pan v) ⟨[], σ, nx⟩) ops.toList 0 (s.σ.length, s.nx) ⟨s.env, [], s.σ ++ objs, s.nx + objs.length⟩
    | true => match (hint id).pair with
     | some (pre, i, j, post) => if (C.P.follows .mixedOrders && Y0t C.P (hint id).H ops (msOf ops) pre i j post) = true then
       Y14 C sigs (hint id).H ops (fun v σ nx => K (.pan v) ⟨[], σ, nx⟩)
        (fun q al st => mg (Y14 C sigs (hint id).H ops (fun v σ nx => K (.pan v) ⟨[], σ, nx⟩) (fun _ _ st => K .normal ⟨X2u st.tags st.env, st.σ, st.nx⟩) ((i :: j :: post).filterMap (ops[·]?)) q al st)
         (Y14 C sigs (hint id).H ops (fun v σ nx => K (.pan v) ⟨[], σ, nx⟩) (fun _ _ st => K .normal ⟨X2u st.tags st.env, st.σ, st.nx⟩) ((j :: i :: post).filterMap (ops[·]?)) q al st))
        (pre.filterMap (ops[·]?)) 0 (s.σ.length, s.nx) ⟨s.env, [], s.σ ++ objs, s.nx + objs.length⟩ else none
     | none => match (hint id).π with
      | [] => if (C.P.follows .mixedOrders && Y25 C.P (hint id).H (fun i => (hint id).tl.contains i) ops (msOf ops)) = true then
        yreg C sigs (hint id).H (fun i => (hint id).tl.contains i) ops (fun x => K .normal x) (fun v σ nx => K (.pan v) ⟨[], σ, nx⟩) ops.toList 0 (s.σ.length, s.nx) ⟨s.env, [], s.σ ++ objs, s.nx + objs.length⟩ else none
      | π => if (C.P.follows .mixedOrders && Y3v C.P (hint id).H (hint id).tl ops (msOf ops) π) = true then
        yreg C sigs (hint id).H (fun i => (hint id).tl.contains i) ops (fun x => K .normal x) (fun v σ nx => K (.pan v) ⟨[], σ, nx⟩) (π.filterMap (ops[·]?)) 0 (s.σ.length, s.nx) ⟨s.env, [], s.σ ++ objs, s.nx + objs.length⟩ else none) else none) = some r)
  (hK : ∀ e s', K e s' = some r -> Good C B n ds k kn₀ m₀ post e s') {kn : Kn} {m : Mp} {act : Act} {w : World} (hS : Sim C B n ds k kn₀ m₀ s kn m act w) : (Code.region id ops draws).wp C.P post act w := by
 refine Z2d hK hS ?_;split at h
 ·rename_i hd;split at h
  ·cases h
  rename_i objs ho
  have key : ∀ (tt : Nat -> Bool) (l : List Oper), yreg C sigs (hint id).H tt ops (fun x => K .normal x) (fun v σ nx => K (.pan v) ⟨[], σ, nx⟩) l 0 (s.σ.length, s.nx) ⟨s.env, [], s.σ ++ objs, s.nx + objs.length⟩ = some r ->
    areg C (hint id).H tt ops (X7Y K r .normal) (fun v σ nx => ∀ env, X7Y K r (.pan v) ⟨env, σ, nx⟩) l 0 (s.st.σ.length, s.st.nx) ⟨s.st.env, s.st.σ ++ objs, s.st.nx + objs.length⟩ := fun tt l hh =>
   Y0R hs (fun x hx aenv' hw => ⟨x, hx, hw, rfl, rfl⟩) (fun v σ nx hx env => hx) l 0 _ _ _ (Y3C ops _ _ _) hh
  cases draws with
  | false => exact X8q hd ho (key _ _ h)
  | true =>
   simp only at h;split at h
   ·rename_i pre i j post' hpr;split at h
    ·rename_i hB;rw [Bool.and_eq_true] at hB
     have fin : ∀ (l : List Oper) (q : Nat) (al : Nat × Nat) (st : YS) (aenv : Nat -> AV), Ref ops st aenv -> Y14 C sigs (hint id).H ops (fun v σ nx => K (.pan v) ⟨[], σ, nx⟩) (fun _ _ st => K .normal ⟨X2u st.tags st.env, st.σ, st.nx⟩) l q al st = some r ->
       X7e C (hint id).H ops (fun _ _ => X7Y K r .normal) (fun v σ nx => ∀ env, X7Y K r (.pan v) ⟨env, σ, nx⟩) l q al ⟨aenv, st.σ, st.nx⟩ := fun l q al st aenv hR hh =>
      X5x hs (fun q al st aenv hx hR => ⟨_, hx, hR.weak, rfl, rfl⟩) (fun v σ nx hx env => hx) l q al st aenv hR hh
     refine Z3M hB.1 hB.2 hd ho ?_;exact X5x hs (fun q al st aenv hx hR => ⟨fin _ q al st aenv hR (hmg _ _ _ hx).1, fin _ q al st aenv hR (hmg _ _ _ hx).2⟩) (fun v σ nx hx env => hx) _ 0 _ _ _ (Y3C ops _ _ _) h
    cases h
   split at h
   ·split at h
    ·rename_i hB;rw [Bool.and_eq_true] at hB;exact Z3J hB.1 hB.2 hd ho (key _ _ h)
    cases h
   rename_i π hπ;split at h
   ·rename_i hB;rw [Bool.and_eq_true] at hB;exact Z1u hB.1 hB.2 hd ho rfl (key _ _ h)
   cases h
 cases h
theorem X9q {sigs : FuncId -> List Sig} (hs : ∀ g, ∀ sg ∈ sigs g, SigOK C g sg) {hint : Nat -> RH} : ∀ (c : Code) (an : An) {R : Type} (mg : Option R -> Option R -> Option R) (hmg : MgOK mg) (s : XS) (K : AExit -> XS -> Option R) (r : R), X1i C sigs hint k n c an mg s K = some r ->
  ∀ (post : Exit -> Act -> World -> Prop), (∀ e s', K e s' = some r -> Good C B n ds k kn₀ m₀ post e s') -> ∀ kn m act w, Sim C B n ds k kn₀ m₀ s kn m act w -> c.wp C.P post act w := by
 intro c
 induction c with
 | skip => intro an R mg hmg s K r h post hK kn m act w hS; exact wp_skip (hK _ _ h kn m act w hS _ trivial)
 | label l => intro an R mg hmg s K r h post hK kn m act w hS; exact wp_label (hK _ _ h kn m act w hS _ trivial)
 | exit id => intro an R mg hmg s K r h post hK kn m act w hS; exact wp_exit (hK _ _ h kn m act w hS _ rfl)
 | ret =>
  intro an R mg hmg s K r h post hK kn m act w hS;obtain ⟨kn', hS'⟩ := X1G (jsOf s.env an) s kn hS;exact wp_ret (hK _ _ h kn' m act w hS' _ trivial)
 | seq x y ihx ihy =>
  intro an R mg hmg s K r h post hK kn m act w hS;have plain : ∀ a b (s : XS) kn, Sim C B n ds k kn₀ m₀ s kn m act w -> X1i C sigs hint k n x a mg s (Y76 (fun s' => X1i C sigs hint k n y b mg s' K) K) = some r -> (Code.seq x y).wp C.P post act w := fun a b s kn hS h => by
   refine wp_seq (ihx a mg hmg s _ r h _ (fun e s' he => ?_) kn m act w hS);cases e with
   | normal => exact X1Z fun kn m act w hS' => ihy b mg hmg s' K r he post hK kn m act w hS'
   | _ => exact X4d (hK _ _ he) (by simp)
  unfold X1i at h;split at h
  ·rename_i full sh a b;split at h
   ·rename_i hkp;cases full with
    | false =>
     simp only at h;obtain ⟨l, h1, h2⟩ := Option.bind_eq_some_iff.1 h;refine wp_seq (ihx a mgC Y0q s _ l h1 _ (fun e s' he => ?_) kn m act w hS);cases e with
     | normal =>
      refine X1Z fun kn m act w hS' => ?_
      obtain ⟨m', hS2⟩ := Y1K he hkp hS';exact ihy b mg hmg _ K r h2 post hK kn m' act w hS2
     | _ => cases he
    | true =>
     simp only at h;obtain ⟨q, h1, h2⟩ := Option.bind_eq_some_iff.1 h;refine wp_seq (ihx a mgC Y0q s _ q h1 _ (fun e s' he => ?_) kn m act w hS);cases e with
     | normal =>
      obtain ⟨l, hl, rfl⟩ := Option.map_eq_some_iff.1 he;refine X1Z fun kn m act w hS' => ?_
      obtain ⟨m', hS2⟩ := Y1K hl hkp hS';exact ihy b mg hmg _ K r h2 post hK kn m' act w hS2
     | _ =>
      obtain ⟨r', hr', rfl⟩ := Option.map_eq_some_iff.1 he;cases h2;exact X4d (hK _ _ hr') (by simp)
   cases h
  ·rename_i keep a b;obtain ⟨q, h1, h2⟩ := Option.bind_eq_some_iff.1 h;refine wp_seq (ihx a (mgX mg) (Z51 hmg) s _ q h1 _ (fun e s' he => ?_) kn m act w hS);cases e with
   | normal =>
    have he : fcXS ⟨clrE keep 0 s'.env, s'.σ, s'.nx⟩ (fun s' => some (Step.next s')) = some q := he;rw [Z4a] at he;cases he;exact X1Z fun kn m act w hS' => ihy b mg hmg _ K r h2 post hK kn m act w (Z3Y hS')
   | _ =>
    obtain ⟨r', hr', rfl⟩ := Option.map_eq_some_iff.1 he;cases h2;exact X4d (hK _ _ hr') (by simp)
  ·exact plain _ _ s kn hS h
  ·rename_i js a;obtain ⟨kn', hS'⟩ := X1G js s kn hS;exact plain _ _ _ kn' hS' h
  ·rename_i ts a;obtain ⟨kn', hS'⟩ := X1G (jsOf s.env (.frzt ts a)) s kn hS;exact plain _ _ _ kn' hS' h
  exact plain _ _ s kn hS h
 | cond o x y ihx ihy =>
  intro an R mg hmg s K r h post hK kn m act w hS;unfold X1i at h;split at h
  ·rename_i b hb;have hr := X0o hS.inv hS.env o;rw [hb] at hr;generalize hv : act.eval o = v at hr;cases hr;refine wp_cond hv ?_;have key : ∀ a a', cond b (X1i C sigs hint k n x a mg s K) (X1i C sigs hint k n y a' mg s K) = some r -> (if b = true then x else y).wp C.P post act w := fun a a' h => by
    cases b with
    | true => exact ihx a mg hmg s K r h post hK kn m act w hS
    | false => exact ihy a' mg hmg s K r h post hK kn m act w hS
   split at h
   ·have := key _ _ h; cases b <;> exact this
   have := key _ _ h; cases b <;> exact this
  cases h
 | block id c ih =>
  intro an R mg hmg s K r h post hK kn m act w hS;have key : ∀ a, X1i C sigs hint k n c a mg s (Y9t id K) = some r -> (Code.block id c).wp C.P post act w := fun a h => by
   refine wp_block (ih a mg hmg s _ r h _ (fun e s' he => ?_) kn m act w hS);cases e with
   | exit i =>
    have he : (if i = id then K .normal s' else K (.exit i) s') = some r := he;intro kn m act w hS' ce hx;cases ce <;> first | exact hx.elim | skip
    have hx : i = _ := hx;subst hx;simp only [Exit.inBlock];split at he
    ·rename_i e; rw [if_pos e]; exact hK _ _ he kn m act w hS' _ trivial
    rename_i e; rw [if_neg e]; exact hK _ _ he kn m act w hS' _ rfl
   | normal => intro kn m act w hS' ce hx; cases ce <;> first | exact hK _ _ he kn m act w hS' _ hx | exact hx.elim
   | goto l => intro kn m act w hS' ce hx; cases ce <;> first | exact hK _ _ he kn m act w hS' _ hx | exact hx.elim
   | ret => intro kn m act w hS' ce hx; cases ce <;> first | exact hK _ _ he kn m act w hS' _ hx | exact hx.elim
   | pan v => intro kn m act w hS' u hu; exact hK _ _ he kn m act w hS' u hu
  unfold X1i at h;split at h
  ·exact key _ h
  exact key _ h
 | loop c ih =>
  intro an R mg hmg s K r h post hK kn m act w hS;unfold X1i at h;split at h
  ·rename_i sh a;split at h
   ·rename_i hkp;obtain ⟨l0, hl0, h⟩ := Option.bind_eq_some_iff.1 h;obtain ⟨d, hd⟩ := X19.1 h;refine X5w (fun d act w => ∃ s kn m l, Sim C B n ds k kn₀ m₀ s kn m act w /\ absS sh s = some l /\ iterM (fun l => X1i C sigs hint k n c a mgC (patS k n sh l) (Z4g (absS sh) K)) d l = some r) ?_ (d := d) ⟨s, kn, m, l0, hS, hl0, hd⟩;rintro d act w ⟨s, kn, m, l, hS, hl, hit⟩;cases d with
    | zero => cases hit
    | succ d =>
     obtain ⟨m', hS'⟩ := Y1K hl hkp hS;simp only [iterM] at hit;split at hit
     ·rename_i l' hb;refine ih a mgC Y0q _ _ _ hb _ (fun e s' he => ?_) kn m' act w hS';cases e with
      | normal =>
       obtain ⟨l2, hl2, e2⟩ := Option.map_eq_some_iff.1 he;cases e2;exact X1Z fun kn m act w hS2 => ⟨d, Nat.lt_succ_self d, s', kn, m, _, hS2, hl2, hit⟩
      | _ => obtain ⟨r', _, e2⟩ := Option.map_eq_some_iff.1 he; cases e2
     ·rename_i r' hb;cases hit;refine ih a mgC Y0q _ _ _ hb _ (fun e s' he => ?_) kn m' act w hS';cases e with
      | normal => obtain ⟨l2, hl2, e2⟩ := Option.map_eq_some_iff.1 he; cases e2
      | _ =>
       obtain ⟨r', hr', e2⟩ := Option.map_eq_some_iff.1 he;cases e2;exact X4d (hK _ _ hr') (by simp)
     cases hit
   cases h
  ·rename_i d a;refine X5w (fun d act w => ∃ s kn m, Sim C B n ds k kn₀ m₀ s kn m act w /\ Y5G (fun s K => X1i C sigs hint k n c a mg s K) d s K = some r) ?_ (d := d) ⟨s, kn, m, hS, h⟩;rintro d act w ⟨s, kn, m, hS, hit⟩;cases d with
   | zero => cases hit
   | succ d =>
    refine ih a mg hmg s _ r hit _ (fun e s' he => ?_) kn m act w hS;cases e with
    | normal => exact X1Z fun kn m act w hS2 => ⟨d, Nat.lt_succ_self d, s', kn, m, hS2, he⟩
    | _ => exact X4d (hK _ _ he) (by simp)
  cases h
 | region id ops draws =>
  intro an R mg hmg s K r h post hK kn m act w hS;unfold X1i at h;obtain ⟨kn', hS'⟩ := X1G (jsOf s.env an) s kn hS;exact Y15 hs hmg h hK hS'
 | _ => intro an R mg hmg s K r h; simp [X1i] at h
end
end Go.Ab
namespace Go.Ab
open Go Go.RowKit
def X69 : List (Nat × Sig) -> FuncId -> List Sig
 | [], _ => []
 | (g', s) :: l, g => match Nat.beq g' g with
  | true => s :: X69 l g
  | false => X69 l g
def Z1m (C : Cx) : List (Nat × Sig) -> Prop
 | [] => True
 | (g, s) :: l => SigOK C g s /\ Z1m C l
theorem X54 {C : Cx} : ∀ {l : List (Nat × Sig)}, Z1m C l -> ∀ g, ∀ s ∈ X69 l g, SigOK C g s
 | [], _, g, s, h => by cases h
 | (g', s') :: l, ht, g, s, h => by
  simp only [X69] at h;split at h
  ·rename_i e;have := Nat.eq_of_beq_eq_true e;subst this;rcases List.mem_cons.1 h with rfl | h
   ·exact ht.1
   exact X54 ht.2 _ s h
  exact X54 ht.2 g s h
def resY {α : Type} (σ : Sto) (res : Sh) (v : AV) (f : res.den -> α) : Option α :=
 match rfB (frzF σ 6 v) with
 | true => match absV [] [] res (frzF σ 6 v) with
  | some (x, _) => some (f x)
  | none => none
 | false => none
def finN (C : Cx) (fn : Func) (res : Sh) : AExit -> XS -> Option res.den
 | .normal, s => (resA C.P fn.results.toList s.st).bind fun v => resY s.σ res v id
 | .ret, s => (resA C.P fn.results.toList s.st).bind fun v => resY s.σ res v id
 | _, _ => none
def Z4N (C : Cx) (sigs : FuncId -> List Sig) (hint : Nat -> RH) (g : FuncId) {R : Type} (mg : Option R -> Option R -> Option R) (fin : Func -> AExit -> XS -> Option R) (args : List Sh) (an : An) (x : Sh.denL args) : Option R :=
 match C.P.funcs[g]? with
 | none => none
 | some fn => match fn.body with
  | none => none
  | some c => if ((fn.name == "runtime.NumGoroutine") = false /\ args.length <= fn.ntmps) then X1i C sigs hint 0 fn.ntmps c an mg ⟨patL ρ0 args x ++ List.replicate (fn.ntmps - args.length) .undef, [], 0⟩ (fin fn) else none
abbrev yfun (C : Cx) (sigs : FuncId -> List Sig) (hint : Nat -> RH) (g : FuncId) {R : Type} (fin : Func -> AExit -> XS -> Option R) (args : List Sh) (an : An) (x : Sh.denL args) : Option R := Z4N C sigs hint g mgC fin args an x
theorem Y1M (ρ : Pl) : ∀ (l : List Sh) (x : Sh.denL l), (patL ρ l x).length = l.length
 | [], _ => rfl
 | s :: l, x => by show (patL ρ l x.2).length + 1 = _; rw [Y1M ρ l x.2]; rfl
theorem Y32 (args : List AV) (k : Nat) : xenv (args ++ List.replicate k .undef) = X3L args := by
 funext t
 simp only [xenv, X3L, List.getD_eq_getElem?_getD, List.getElem?_append];split
 ·rfl
 rename_i h;rw [List.getElem?_eq_none (Nat.le_of_not_lt h), List.getElem?_replicate];split <;> rfl
theorem Y7I {α : Type} {σ : Sto} {res : Sh} {v : AV} {f : res.den -> α} {a : α} (h : resY σ res v f = some a) : ∃ x, a = f x /\ RF (frzF σ 6 v) /\ ∀ kn u, Rel kn m0 (frzF σ 6 v) u -> Rel kn m0 (patV ρ0 res x) u := by
 unfold resY at h;split at h
 ·rename_i hr;split at h
  ·rename_i x β hx;cases h;refine ⟨x, rfl, X84 _ hr, fun kn u hu => ?_⟩;obtain ⟨h1, h2⟩ := Y1m (kn := kn) (m := m0) res [] β _ x hx;obtain ⟨h3, h4⟩ := h2 u hu;have hv := h3 ⟨fun j b e => by simp [bget] at e, fun j p nm e => by simp [bget] at e, fun j j' p nm nm' e => by simp [bget] at e⟩;exact h4 m0 ρ0 (fun j b e => by have := hv.dom j b e; simp at this)
  cases h
 cases h
theorem Y75 {C : Cx} {sigs : FuncId -> List Sig} (hs : ∀ g, ∀ sg ∈ sigs g, SigOK C g sg) {hint : Nat -> RH} {g : FuncId} {R : Type} {mg : Option R -> Option R -> Option R} (hmg : MgOK mg) {fin : Func -> AExit -> XS -> Option R} {args : List Sh} {an : An} {x : Sh.denL args} {r : R} {Q : AOut -> Prop}
  (h : Z4N C sigs hint g mg fin args an x = some r)
  (hfin : ∀ (fn : Func) (s : XS), (∀ e, (e = .normal \/ e = .ret) -> fin fn e s = some r -> ∃ v, resA C.P fn.results.toList s.st = some v /\ RF (frzF s.σ 6 v) /\ ∃ x, Q (.ret x) /\ ∀ kn u, Rel kn m0 (frzF s.σ 6 v) u -> Rel kn m0 x u) /\
   (∀ v, fin fn (.pan v) s = some r -> RF (frzF s.σ 6 v) /\ ∃ x, Q (.pan x) /\ ∀ kn u, Rel kn m0 (frzF s.σ 6 v) u -> Rel kn m0 x u) /\ (∀ i, fin fn (.exit i) s ≠ some r) /\ ∀ i, fin fn (.goto i) s ≠ some r) : PCall C g (patL ρ0 args x) Q := by
 unfold Z4N at h;split at h
 ·cases h
 rename_i fn hf;split at h
 ·cases h
 rename_i c hb;split at h
 ·rename_i hc;obtain ⟨hname, hn⟩ := hc;refine fun kn w vs hk hr => .inl ⟨X5N hf hb hname, ?_⟩
  let B : Base := ⟨w, kn, fun _ => False⟩
  have hI : Inv C B kn m0 [] 0 w := ⟨hk.ok, Nat.le_refl _, rfl, rfl, rfl, fun _ _ _ => ⟨rfl, rfl⟩, fun p nm ob e => by simp at e, fun p nm ob loc e => by simp at e, fun p nm ob loc p' nm' ob' loc' e => by simp at e, fun _ _ => rfl, fun p nm ob e => by simp at e, fun p p' nm ob ob' e => by simp at e, fun p p' nm nm' ob ob' e => by simp at e, hk.glob, hk.tab.base _ (fun _ _ _ h => h)⟩;have hn' : (patL ρ0 args x).length <= fn.ntmps := by rw [Y1M]; exact hn
  have hS : Sim C B fn.ntmps [] 0 kn m0 ⟨patL ρ0 args x ++ List.replicate (fn.ntmps - args.length) .undef, [], 0⟩ kn m0 { tmps := vs.toArray ++ Array.replicate (fn.ntmps - vs.toArray.size) undef, defers := [] } w :=
   ⟨by rw [Y32]; exact X4E hr hn', rfl, hI, KnLe.refl _, Nat.le_refl _, fun i hi => absurd hi (by omega), fun i hi => absurd hi (by omega)⟩
  refine calls_of_wp hf hb (X9q hs c an mg hmg _ _ r h _ (fun e s he => ?_) kn m0 _ w hS);obtain ⟨f1, f2, f3, f4⟩ := hfin fn s;have after : ∀ kn' m' act' w', Inv C B kn' m' s.σ s.nx w' -> (∀ (x : AV) (v : Value), Rel kn' m' x v -> RF (frzF s.σ 6 x) -> Rel (X28 kn' w.heap.size w') m0 (frzF s.σ 6 x) v) /\ Below w.heap.size w w' /\ KnOK C (X28 kn' w.heap.size w') w' /\ ∀ b, b < w.heap.size -> X28 kn' w.heap.size w' b = kn b := fun kn' m' (act' : Act) w' hI' => by
   refine ⟨fun x v hr hf => (Y3b hI' (fun _ h => h) 6 x v hr).rf hf m0, ⟨hI'.os, hI'.tape, hI'.output, hI'.size, fun k hk => (hI'.old k hk (fun h => h)).1⟩, ⟨fun b o v e => ?_, fun g => ((hI'.glob g).mono (Y1E hI' _) (MpLe.refl _)).rf (C.rf g) m0, hI'.tabW⟩, fun b hb => ?_⟩
   ·unfold X28 at e;split at e
    ·exact hI'.knok b o v e
    exact e
   funext o
   unfold X28;rw [if_pos hb];rw [(hI'.old b hb (fun h => h)).2]
  cases e with
  | normal =>
   obtain ⟨v, q1, q2, y, q3, q4⟩ := f1 _ (.inl rfl) he;intro kn' m' act' w' hS' ce hx;cases ce <;> first | exact hx.elim | skip
   obtain ⟨a1, a2, a3, a4⟩ := after kn' m' act' w' hS'.inv;obtain ⟨u, p1, p2⟩ := X1g (s := s.st) hS'.inv hS'.env q1;exact ⟨hS'.defs, u, p1, .ret y, X28 kn' w.heap.size w', q3, q4 _ _ (a1 v u p2 q2), a3, a2, a4⟩
  | ret =>
   obtain ⟨v, q1, q2, y, q3, q4⟩ := f1 _ (.inr rfl) he;intro kn' m' act' w' hS' ce hx;cases ce <;> first | exact hx.elim | skip
   obtain ⟨a1, a2, a3, a4⟩ := after kn' m' act' w' hS'.inv;obtain ⟨u, p1, p2⟩ := X1g (s := s.st) hS'.inv hS'.env q1;exact ⟨hS'.defs, u, p1, .ret y, X28 kn' w.heap.size w', q3, q4 _ _ (a1 v u p2 q2), a3, a2, a4⟩
  | exit i => exact absurd he (f3 i)
  | goto i => exact absurd he (f4 i)
  | pan v =>
   obtain ⟨q1, y, q2, q3⟩ := f2 v he;intro kn' m' act' w' hS' u hu;obtain ⟨a1, a2, a3, a4⟩ := after kn' m' act' w' hS'.inv;exact ⟨hS'.defs, .pan y, X28 kn' w.heap.size w', q2, ⟨u, rfl, q3 _ _ (a1 v u hu q1)⟩, a3, a2, a4⟩
 cases h
theorem X0i {C : Cx} {l : List (Nat × Sig)} (ht : Z1m C l) {hint : Nat -> RH} {g : FuncId} {args : List Sh} {res : Sh} {an : An} {f : Sh.denL args -> Option res.den}
  (h : ∀ x, yfun C (X69 l) hint g (fun fn => finN C fn res) args an x = f x) : SigOK C g (.n args res f) := fun x r hr =>
 Y75 (X54 ht) Y0q ((h x).trans hr) fun fn s => ⟨fun e he hf => by
  have hf' : (resA C.P fn.results.toList s.st).bind (fun v => resY s.σ res v id) = some r := by rcases he with rfl | rfl <;> exact hf
  obtain ⟨v, h1, h2⟩ := Option.bind_eq_some_iff.1 hf';obtain ⟨y, rfl, h3, h4⟩ := Y7I h2;exact ⟨v, h1, h3, _, rfl, h4⟩, (fun v hv => by cases hv), (fun i hi => by cases hi), (fun i hi => by cases hi)⟩
theorem SigOK.spec {C : Cx} {g : FuncId} {args : List Sh} {res : Sh} {f f' : Sh.denL args -> Option res.den} (h : SigOK C g (.n args res f)) (hf : ∀ x r, f' x = some r -> f x = some r) : SigOK C g (.n args res f') := fun x r hr => h x r (hf x r hr)
theorem SigOK.specK {C : Cx} {g : FuncId} {args : List Sh} {res : Sh} {f : Nat -> Sh.denL args -> Option res.den} {f' : Sh.denL args -> Option res.den} (h : ∀ k, SigOK C g (.n args res (f k))) (hf : ∀ x r, f' x = some r -> ∃ k, f k x = some r) : SigOK C g (.n args res f') := fun x r hr => by
 obtain ⟨k, hk⟩ := hf x r hr; exact h k x r hk
end Go.Ab
namespace Go.Ab
open Go Go.RowKit
def Z7c {res : Sh} {post : X0r} (d : SS.den ⟨[(0, res)], post⟩) : res.den × denO post := (d.1.1, d.2)
def finV (C : Cx) (fn : Func) (res : Sh) (post : X0r) (s : XS) : Option (res.den × denO post) :=
 (resA C.P fn.results.toList s.st).bind fun v => match absS ⟨[(0, res)], post⟩ ⟨[v], s.σ, s.nx⟩ with
  | some d => some (Z7c d)
  | none => none
def finO (C : Cx) (fn : Func) (res : Sh) (post : X0r) : AExit -> XS -> Option (res.den × denO post)
 | .normal, s => finV C fn res post s
 | .ret, s => finV C fn res post s
 | _, _ => none
def Z2E (C : Cx) (sigs : FuncId -> List Sig) (hint : Nat -> RH) (g : FuncId) (pre : X0r) (args : List Sh) (post : X0r) (res : Sh) (an : An) (x : Sh.denL args × denO pre) : Option (res.den × denO post) :=
 match C.P.funcs[g]? with
 | none => none
 | some fn => match fn.body with
  | none => none
  | some c => if ((fn.name == "runtime.NumGoroutine") = false /\ args.length <= fn.ntmps) then
    X1i C sigs hint pre.length fn.ntmps c an mgC ⟨patL (plO 0 pre x.2) args x.1 ++ List.replicate (fn.ntmps - args.length) .undef, osto 0 pre x.2, 0 + pre.length⟩ (finO C fn res post) else none
theorem Y0f {C : Cx} {B : Base} {n : Nat} {k : Nat} {kn₀ kn : Kn} {m₀ m : Mp} {fn : Func} {res : Sh} {post : X0r} {s : XS} {r : res.den × denO post} {act : Act} {w : World} (hkeep : X9D k 0 post = true) (h : finV C fn res post s = some r)
  (hS : Sim C B n [] k kn₀ m₀ s kn m act w) : ∃ u, (results fn act.tmps).run C.P w = .ok u w /\ ∃ m', Inv C B kn m' (osto k post r.2) (k + post.length) w /\ (∀ i, i < k -> m' i = m₀ i) /\ (∀ j, j < post.length -> ∃ loc, m' (nameOf k j post) = some loc) /\ Rel kn m' (patV (plO k post r.2) res r.1) u := by
 obtain ⟨v, h1, h2⟩ := Option.bind_eq_some_iff.1 h;split at h2
 ·rename_i d hd;cases h2;obtain ⟨u, p1, p2⟩ := X1g (s := s.st) hS.inv hS.env h1;have hE : RelEnv kn m (xenv [v]) 1 { tmps := #[u], defers := [] } := ⟨rfl, fun t => by
   cases t with
   | zero => exact p2
   | succ t => exact .base _⟩
  obtain ⟨m', q1, q2, q3, q4⟩ := Y0r (n := 1) hd hkeep hS.inv hE hS.lay;exact ⟨u, p1, m', q1, fun i hi => (q3 i hi).trans (hS.base i hi), q4, q2.tmp 0⟩
 cases h2
theorem X1h {C : Cx} {l : List (Nat × Sig)} (ht : Z1m C l) {hint : Nat -> RH} {g : FuncId} {pre post : X0r} {args : List Sh} {res : Sh} {an : An} {f : Sh.denL args × denO pre -> Option (res.den × denO post)} (hok : (OSig.mk pre args post res f).ok = true)
  (h : ∀ x, Z2E C (X69 l) hint g pre args post res an x = f x) : SigOK C g (.o ⟨pre, args, post, res, f⟩) := by
 refine ⟨hok, fun x r hr B kn m w vs hI hlay hargs => ?_⟩;simp only [OSig.ok, Bool.and_eq_true] at hok;obtain ⟨hnew, hkeep, hslots, hres⟩ := hok;have h := (h x).trans hr;unfold Z2E at h;split at h
 ·cases h
 rename_i fn hf;split at h
 ·cases h
 rename_i c hb;split at h
 ·rename_i hc;obtain ⟨hname, hn⟩ := hc;refine .inl ⟨X5N hf hb hname, ?_⟩;have hn' : (patL (plO 0 pre x.2) args x.1).length <= fn.ntmps := by rw [Y1M]; exact hn
  have hS : Sim C B fn.ntmps [] pre.length kn m ⟨patL (plO 0 pre x.2) args x.1 ++ List.replicate (fn.ntmps - args.length) .undef, osto 0 pre x.2, 0 + pre.length⟩ kn m { tmps := vs.toArray ++ Array.replicate (fn.ntmps - vs.toArray.size) undef, defers := [] } w :=
   ⟨by rw [Y32]; exact X4E hargs hn', rfl, hI, KnLe.refl _, by show pre.length <= 0 + pre.length; omega, fun i hi => rfl, hlay⟩
  refine calls_of_wp hf hb (X9q (X54 ht) c an mgC Y0q _ _ r h _ (fun e s he => ?_) kn m _ w hS);cases e with
  | normal =>
   intro kn' m' act' w' hS' ce hx;cases ce <;> first | exact hx.elim | skip
   obtain ⟨u, p1, m'', q1, q2, q3, q4⟩ := Y0f hkeep he hS';exact ⟨hS'.defs, u, p1, kn', m'', hS'.le, q1, q2, q3, q4⟩
  | ret =>
   intro kn' m' act' w' hS' ce hx;cases ce <;> first | exact hx.elim | skip
   obtain ⟨u, p1, m'', q1, q2, q3, q4⟩ := Y0f hkeep he hS';exact ⟨hS'.defs, u, p1, kn', m'', hS'.le, q1, q2, q3, q4⟩
  | exit i => cases he
  | goto i => cases he
  | pan v => cases he
 cases h
end Go.Ab
namespace Go.Ab
open Go Go.RowKit Go.Proofs
def errG : Option Nat := Tryz.prog.globalNamed "strconv.ErrRange"
theorem Z35 (g : Nat) : RF (if errG = some g then .rptr [.erri false] else .any) := by
 split
 ·exact ⟨trivial, trivial⟩
 trivial
def powT : List Int := (List.range 20).map fun i => ((10 ^ i : Nat) : Int)
def tabL : List (String × IntKind × List Int) := [("internal/strconv.uint64pow10", .u64, powT)]
def tabG (g : Nat) : Option (Array Value) := (tabL.find? fun q => decide (Tryz.prog.globalNamed q.1 = some g)).map fun q => (q.2.2.map fun z => Value.int q.2.1 z).toArray
def CX : Cx := ⟨Tryz.prog, fun g => if errG = some g then .rptr [.erri false] else .any, Z35, tabG⟩
@[go_sem] theorem CX_P : CX.P = Tryz.prog := rfl
def Fm.eta (f : Fm) : Fm := .mk f.k f.n f.t f.l
theorem Fm.eta_eq (f : Fm) : f.eta = f := by cases f; rfl
theorem w64 {n : Int} (h1 : -9223372036854775808 <= n) (h2 : n <= 9223372036854775807) : IntKind.wrap .i64 n = n := by rw [IntKind.wrap_i64]; omega
def ixOK (i : Int) (n : Nat) : Bool := decide (0 <= i /\ i < (n : Int))
def slOK (lo hi : Int) (n : Nat) : Bool := decide (0 <= lo /\ lo <= hi /\ hi <= (n : Int))
def hiOK (hi : Int) (n : Nat) : Bool := decide (0 <= hi /\ hi <= (n : Int))
theorem X0e {i : Int} {n : Nat} : ixOK i n = true ↔ 0 <= i /\ i < (n : Int) := by unfold ixOK; exact decide_eq_true_iff
theorem X1t {lo hi : Int} {n : Nat} : slOK lo hi n = true ↔ 0 <= lo /\ lo <= hi /\ hi <= (n : Int) := by unfold slOK; exact decide_eq_true_iff
theorem Y6k {hi : Int} {n : Nat} : hiOK hi n = true ↔ 0 <= hi /\ hi <= (n : Int) := by unfold hiOK; exact decide_eq_true_iff
def Le {R : Type} (p q : Option R) : Prop := ∀ r, p = some r -> q = some r
theorem Le.refl {R : Type} (p : Option R) : Le p p := fun _ h => h
theorem Le.cond {R : Type} {c : Bool} {a b a' b' : Option R} (h : Le a a') (k : Le b b') : Le (cond c a b) (cond c a' b') := by cases c; exact k; exact h
theorem Le.bind {A R : Type} {a a' : Option A} {f f' : A -> Option R} (h : Le a a') (k : ∀ x, Le (f x) (f' x)) : Le (Option.bind a f) (Option.bind a' f') := fun r e => by
 obtain ⟨x, h1, h2⟩ := Option.bind_eq_some_iff.1 e;exact Option.bind_eq_some_iff.2 ⟨x, h x h1, k x r h2⟩
theorem Le.map {A R : Type} {a a' : Option A} {f : A -> R} (h : Le a a') : Le (Option.map f a) (Option.map f a') := fun r e => by
 obtain ⟨x, h1, rfl⟩ := Option.map_eq_some_iff.1 e;exact Option.map_eq_some_iff.2 ⟨x, h x h1, rfl⟩
def Z5X (d : Nat) {L R : Type} (b : L -> Option (Step L R)) (l : L) : Option R := iterM b d l
theorem Le.loop {L R : Type} {b b' : L -> Option (Step L R)} {d : Nat} (h : ∀ l, Le (b l) (b' l)) (l : L) : Le (Z5X d b l) (X0v b' l) := fun r e => by
 refine X19.2 ⟨d, ?_⟩;unfold Z5X at e;revert l
 induction d with
 | zero => intro l e; cases e
 | succ d ih =>
  intro l e;simp only [iterM] at e ⊢;cases hb : b l with
  | none => rw [hb] at e; cases e
  | some q =>
   rw [hb] at e;rw [h l q hb];cases q with
   | next l' => exact ih l' e
   | done r' => exact e
def limF {R : Type} (f : Nat -> Option R) : Option R :=
 match Classical.propDecidable (∃ r k, f k = some r) with
 | .isTrue h => some (Classical.choose h)
 | .isFalse _ => none
theorem X3z {R : Type} {f : Nat -> Option R} {r : R} (h : limF f = some r) : ∃ k, f k = some r := by
 unfold limF at h;split at h
 ·rename_i h' e; cases h; exact Classical.choose_spec h'
 cases h
theorem Z4h {R : Type} {f : Nat -> Option R} {r : R} (h : ∃ k, f k = some r) (u : ∀ k r', f k = some r' -> r' = r) : limF f = some r := by
 cases hx : limF f with
 | some r' => obtain ⟨k, hk⟩ := X3z hx; rw [u k r' hk]
 | none =>
  unfold limF at hx;split at hx
  ·cases hx
  rename_i h' e; exact absurd ⟨r, h⟩ h'
theorem SigOK.limN {C : Cx} {g : FuncId} {args : List Sh} {res : Sh} {f : Nat -> Sh.denL args -> Option res.den} {f' : Sh.denL args -> Option res.den} (h : ∀ k, SigOK C g (.n args res (f k))) (hf : ∀ x r, f' x = some r -> ∃ k, f k x = some r) : SigOK C g (.n args res f') := SigOK.specK h hf
theorem SigOK.limO {C : Cx} {g : FuncId} {pre post : X0r} {args : List Sh} {res : Sh} {f : Nat -> Sh.denL args × denO pre -> Option (res.den × denO post)} {f' : Sh.denL args × denO pre -> Option (res.den × denO post)} (h : ∀ k, SigOK C g (.o ⟨pre, args, post, res, f k⟩)) (hf : ∀ x r, f' x = some r -> ∃ k, f k x = some r) : SigOK C g (.o ⟨pre, args, post, res, f'⟩) :=
 ⟨(h 0).1, fun x r hr => by obtain ⟨k, hk⟩ := hf x r hr; exact (h k).2 x r hk⟩
end Go.Ab
namespace Go.Ab
open Go
theorem Fm.ind {P : Fm -> Prop} (h : ∀ k n t l, (∀ f ∈ l, P f) -> P (.mk k n t l)) : ∀ f, P f := fun f => Fm.rec (motive_1 := P) (motive_2 := fun l => ∀ f ∈ l, P f) (fun k n t l ih => h k n t l ih) (fun f hf => by cases hf) (fun f r hf hr g hg => by
  rcases List.mem_cons.1 hg with rfl | hg
  ·exact hf
  exact hr g hg) f
mutual
def Fm.big : Fm -> Nat
 | .mk _ _ t l => 1 + t.length + Fm.bigL l
def Fm.bigL : List Fm -> Nat
 | [] => 0
 | f :: r => f.big + Fm.bigL r
end
theorem X2r {l : List Fm} {f : Fm} (h : f ∈ l) : f.big <= Fm.bigL l := by
 induction l with
 | nil => cases h
 | cons g r ih => rcases List.mem_cons.1 h with rfl | h <;> simp only [Fm.bigL] <;> first | omega | (have := ih h; omega)
theorem X2s (f : Fm) : 1 <= f.big := by cases f; simp only [Fm.big]; omega
theorem X2h (f : Fm) : Fm.bigL f.l < f.big := by cases f; simp only [Fm.big, Fm.l]; omega
theorem X07 (l : List Fm) : l.length <= Fm.bigL l := by
 induction l with
 | nil => simp [Fm.bigL]
 | cons f r ih => simp only [Fm.bigL, List.length_cons]; have := X2s f; omega
def cmpI (a b : Int) : Int := if a < b then -1 else if b < a then 1 else 0
def cmpS (a b : List UInt8) : Int := if Op.bytesLess a b = true then -1 else if a = b then 0 else 1
mutual
def cmpF : Fm -> Fm -> Int
 | .mk k n t l, g => if ¬ k = g.k then cmpI k g.k else if k = 0 then cmpI n g.n else if k = 1 \/ k = 2 then cmpS t g.t else if k = 3 then cmpL l g.l else 0
def cmpL : List Fm -> List Fm -> Int
 | [], m => if m = [] then 0 else -1
 | f :: r, m => match m with
  | [] => 1
  | g :: m => if ¬ cmpF f g = 0 then cmpF f g else cmpL r m
end
def Up {R : Type} (N : Prop) (o : Option R) (v : R) : Prop := o = some v \/ (o = none /\ N)
theorem Up.mono {R : Type} {N N' : Prop} {o : Option R} {v : R} (h : Up N o v) (k : N -> N') : Up N' o v := h.imp id fun h => ⟨h.1, k h.2⟩
theorem Up.of {R : Type} {N : Prop} {o : Option R} {v : R} (h : o = some v) : Up N o v := .inl h
theorem Up.bind {R S : Type} {N : Prop} {o : Option R} {v : R} {F : R -> Option S} {u : S} (h : Up N o v) (k : Up N (F v) u) : Up N (Option.bind o F) u := by
 rcases h with h | ⟨h, n⟩
 ·rw [h]; exact k
 exact .inr ⟨by rw [h]; rfl, n⟩
theorem X4g {R : Type} {f : Nat -> Option R} {v : R} {b : Nat} (h : ∀ k, Up (k < b) (f k) v) : limF f = some v := by
 refine Z4h ⟨b, ?_⟩ fun k r hr => ?_
 ·rcases h b with h | ⟨_, h⟩
  ·exact h
  omega
 rcases h k with h | ⟨h, _⟩
 ·rw [h] at hr; cases hr; rfl
 rw [h] at hr; cases hr
theorem X6x {L R : Type} {b : L -> Option (Step L R)} {l : L} (h : b l = none) : X0v b l = none := by
 cases hx : X0v b l with
 | none => rfl
 | some r =>
  obtain ⟨d, hd⟩ := X19.1 hx;cases d with
  | zero => cases hd
  | succ d => simp only [iterM, h] at hd; cases hd
theorem X2x {L R A : Type} {N : Prop} {b : L -> Option (Step L R)} {F : R -> Option A} (st : Nat -> L) (res : Nat -> A) (n : Nat)
  (hstep : ∀ i, i < n -> (b (st i) = some (.next (st (i + 1))) /\ res i = res (i + 1)) \/ (∃ r, b (st i) = some (.done r) /\ Up N (F r) (res i)) \/ (b (st i) = none /\ N))
  (hend : ∃ r, b (st n) = some (.done r) /\ Up N (F r) (res n)) : Up N (Option.bind (X0v b (st 0)) F) (res 0) := by
 have key : ∀ j i, i + j = n -> Up N (Option.bind (X0v b (st i)) F) (res i) := by
  intro j
  induction j with
  | zero =>
   intro i hi;obtain rfl : i = n := by omega
   obtain ⟨r, h1, h2⟩ := hend;rw [X0R h1]; exact h2
  | succ j ih =>
   intro i hi;rcases hstep i (by omega) with ⟨h1, h2⟩ | ⟨r, h1, h2⟩ | ⟨h1, h2⟩
   ·rw [X29 h1, h2]; exact ih (i + 1) (by omega)
   ·rw [X0R h1]; exact h2
   rw [X6x h1]; exact .inr ⟨rfl, h2⟩
 exact key n 0 (by omega)
theorem wrapN {i : Nat} (h : i < 4611686018427387904) : IntKind.wrap .i64 ((i : Int) + 1) = ((i + 1 : Nat) : Int) := by
 rw [w64 (by omega) (by omega)]; rfl
theorem X09 {α : Type} {l : List α} {i : Nat} (h : i < l.length) (d : α) : l.getD i d = l[i] := by simp [h]
end Go.Ab
namespace Go.Ab
open Go Go.RowKit Go.Proofs
def knW (W : World) : Kn := fun b o => W.cell? ⟨b, o, none⟩
def ErrW (W : World) : Prop := (∀ g, errG = some g -> ∃ t v, W.cell? ⟨g, 0, none⟩ = some (.iface t v)) /\ TabW CX W
theorem Z5Z (W : World) (he : ErrW W) : KnOK CX (knW W) W := ⟨fun _ _ _ h => h, fun g => by
 show Rel _ _ (if errG = some g then .rptr [.erri false] else .any) _;split
 ·rename_i h;obtain ⟨t, v, hc⟩ := he.1 g h;refine .rptr _ g 0 (fun _ => .iface t v) (fun j x a => ?_) (fun j x a => ?_) (fun j x a => rfl)
  all_goals
   cases j with
   | zero =>
    simp at a;subst a
    first | exact hc | exact .erriSome t v
   | succ j => simp at a
 exact .any _, he.2⟩
def bigE : (e : E) -> e.den -> Nat
 | .str, (l : List UInt8) => l.length
 | .form, (f : Fm) => f.big
 | .pr a b, x => bigE a x.1 + bigE b x.2
 | .slice e, (l : List e.den) => (l.map fun x => max 1 (bigE e x)).sum
 | _, _ => 0
def wfE : (e : E) -> e.den -> Prop
 | .int .i64, (n : Int) => -9223372036854775808 <= n /\ n <= 9223372036854775807
 | .pr a b, x => wfE a x.1 /\ wfE b x.2
 | .slice e, (l : List e.den) => ∀ x ∈ l, wfE e x
 | _, _ => True
def Y1C (P : Program) (t : TypeId) : Bool := match P.underlying t with
 | some (.int .i64) => Nat.beq (P.cellsOf t) 1
 | _ => false
def isStr (P : Program) (t : TypeId) : Bool := match P.underlying t with
 | some .string => Nat.beq (P.cellsOf t) 1
 | _ => false
def isSl (P : Program) (t e : TypeId) : Bool := match P.underlying t with
 | some (.slice e') => Nat.beq e' e && Nat.beq (P.cellsOf t) 1
 | _ => false
def kFs (r : TypeId -> E -> Bool) (P : Program) : List Field -> Nat -> E -> Bool
 | [], _, .un => true
 | [f], o, e => Nat.beq f.offset o && (Nat.beq (P.cellsOf f.type) e.size && r f.type e)
 | f :: fs, o, .pr a b => Nat.beq f.offset o && (Nat.beq (P.cellsOf f.type) a.size && (r f.type a && kFs r P fs (o + a.size) b))
 | _, _, _ => false
def Y3h (P : Program) (t : TypeId) : Bool := match P.underlying t with
 | some (.struct fs) => match fs.toList with
  | [a, b, c, d] => (Nat.beq a.offset 0 && (Nat.beq b.offset 1 && (Nat.beq c.offset 2 && Nat.beq d.offset 3))) && ((Y1C P a.type && Y1C P b.type) && (isStr P c.type && (isSl P d.type t && Nat.beq (P.cellsOf t) 4)))
  | _ => false
 | _ => false
def kOK (P : Program) : Nat -> TypeId -> E -> Bool
 | 0, _, _ => false
 | n + 1, t, e => match e with
  | .int .i64 => Y1C P t
  | .str => isStr P t
  | .bool => match P.underlying t with
   | some .bool => true
   | _ => false
  | .form => Y3h P t
  | .slice e => match P.underlying t with
   | some (.slice t') => kOK P n t' e && (Nat.beq (P.cellsOf t') e.size && Nat.blt 0 e.size)
   | _ => false
  | e => match P.underlying t with
   | some (.struct fs) => Nat.beq (P.cellsOf t) e.size && kFs (kOK P n) P fs.toList 0 e
   | _ => false
structure Bulk {H : Type} (bulk : DataW H -> Nat) (bulkAll : List (DataW H) -> Nat) : Prop where
 hs : ∀ l, bulk (.lit (.string l)) = l.length + 1
 hsl : ∀ l r, bulkAll l <= bulk (.slice l r)
 hag : ∀ l, bulk (.agg l) = bulkAll l + 1
 hp : ∀ d, 1 <= bulk d
 h0 : bulkAll [] = 0
 h1 : ∀ d l, bulkAll (d :: l) = bulk d + bulkAll l
section
variable {H : Type} {enc : TypeId × Value -> H} {W : World} {sp : Nat -> Bool} {f : Nat} {cs : List Value} {d : DataW H} {ps : List MemPlace} {P : Program}
theorem X5W {α β : Type} {g : α -> Option β} : ∀ {l : List α} {r : List β}, l.mapM g = some r -> r.length = l.length /\ ∀ (i : Nat) (x : α), l[i]? = some x -> ∃ y, r[i]? = some y /\ g x = some y
 | [], r, h => by
  simp at h;subst h;exact ⟨rfl, fun i x h => by simp at h⟩
 | a :: l, r, h => by
  simp only [List.mapM_cons, Option.bind_eq_bind, Option.bind_eq_some_iff] at h;obtain ⟨b, h1, r', h2, h3⟩ := h;cases h3;obtain ⟨q1, q2⟩ := X5W h2;refine ⟨by simp [q1], fun i x hx => ?_⟩;cases i with
  | zero => simp at hx; subst hx; exact ⟨b, rfl, h1⟩
  | succ i => simpa using q2 i x (by simpa using hx)
theorem cells?_get {a : Addr} {n : Nat} {cs : List Value} (h : W.cells? 0 a n = some cs) : cs.length = n /\ ∀ i, i < n -> ∃ v, cs[i]? = some v /\ W.cell? (a.add i) = some v := by
 unfold World.cells? at h;rw [if_pos (Nat.zero_le _)] at h;obtain ⟨h1, h2⟩ := X5W h;refine ⟨by simpa using h1, fun i hi => ?_⟩;obtain ⟨v, a1, a2⟩ := h2 i i (by simp [hi]);exact ⟨v, a1, a2⟩
theorem Y9g {a : Addr} {v : Value} (h : W.cell? a = some v) : a = ⟨a.block, a.off, none⟩ := by
 obtain ⟨b, o, s⟩ := a;cases s with
 | none => rfl
 | some k =>
  unfold World.cell? at h;simp at h;split at h <;> cases h
theorem Y6d {bulk : DataW H -> Nat} {bulkAll : List (DataW H) -> Nat} (h1 : ∀ d l, bulkAll (d :: l) = bulk d + bulkAll l) : ∀ (ds : List (DataW H)) (i : Nat) (d : DataW H), ds[i]? = some d -> bulk d <= bulkAll ds
 | [], i, d, h => by simp at h
 | x :: ds, 0, d, h => by simp at h; subst h; rw [h1]; omega
 | x :: ds, i + 1, d, h => by have := Y6d h1 ds i d (by simpa using h); rw [h1]; omega
theorem X8r {bulk : DataW H -> Nat} {bulkAll : List (DataW H) -> Nat} (hp : ∀ d, 1 <= bulk d) (h1 : ∀ d l, bulkAll (d :: l) = bulk d + bulkAll l) : ∀ (ds : List (DataW H)), ds.length <= bulkAll ds
 | [] => Nat.zero_le _
 | x :: ds => by have a := X8r hp h1 ds; have b := hp x; rw [h1, List.length_cons]; omega
theorem Z25 {α : Type} {bulk : DataW H -> Nat} {bulkAll : List (DataW H) -> Nat} (h1 : ∀ d l, bulkAll (d :: l) = bulk d + bulkAll l) (hp : ∀ d, 1 <= bulk d) (g : α -> Nat) : ∀ (l : List α) (ds : List (DataW H)), l.length = ds.length -> (∀ (i : Nat) (x : α) (d : DataW H), l[i]? = some x -> ds[i]? = some d -> g x <= bulk d) -> (l.map fun x => max 1 (g x)).sum <= bulkAll ds
 | [], ds, hl, h => by simp
 | x :: l, [], hl, h => by simp at hl
 | x :: l, d :: ds, hl, h => by
  simp only [List.map_cons, List.sum_cons, h1];have a1 := h 0 x d rfl rfl;have a2 := Z25 h1 hp g l ds (by simpa using hl) (fun i x d a b => h (i + 1) x d (by simpa using a) (by simpa using b));have a3 := hp d;omega
theorem Y90 {α : Type} {Q : Nat -> α -> Prop} : ∀ (n : Nat), (∀ i, i < n -> ∃ x, Q i x) -> ∃ l : List α, l.length = n /\ ∀ (i : Nat) (x : α), l[i]? = some x -> Q i x
 | 0, _ => ⟨[], rfl, fun i x h => by simp at h⟩
 | n + 1, h => by
  obtain ⟨l, h1, h2⟩ := Y90 n (fun i hi => h i (by omega));obtain ⟨x, hx⟩ := h n (by omega);refine ⟨l ++ [x], by simp [h1], fun i y hy => ?_⟩;rcases Nat.lt_or_ge i n with hi | hi
  ·rw [List.getElem?_append_left (by omega)] at hy; exact h2 i y hy
  rw [List.getElem?_append_right (by omega)] at hy;have : i = n := by
   have := (List.getElem?_eq_some_iff.1 hy).1;simp at this; omega
  subst this;simp [h1] at hy;subst hy;exact hx
theorem Z4w {sz : Nat} (hsz : 0 < sz) {rows : List (List AV)} {a : Addr} {len cap : Nat} (hl : rows.length = len) (hle : len <= cap) (h62 : len <= 4611686018427387904) (hr : ∀ (i : Nat) (row : List AV), rows[i]? = some row -> row.length = sz /\ ∃ rowv, W.cells? 0 (a.add (i * sz)) sz = some rowv /\ RelC (knW W) m0 row rowv) :
  Rel (knW W) m0 (.vec sz rows) (.slice (some a) len cap) := by
 cases rows with
 | nil => simp at hl; subst hl; exact .vecNil _ _ _
 | cons r0 rows =>
  obtain ⟨_, rowv0, b0, c0⟩ := hr 0 r0 rfl;obtain ⟨_, hc0⟩ := cells?_get b0;obtain ⟨v0, _, hv0⟩ := hc0 0 hsz;simp [Addr.add] at hv0;have ha := Y9g hv0;generalize a.block = b at ha;generalize a.off = o at ha;subst ha;have hcell : ∀ (i : Nat) (row : List AV) (j : Nat) (x : AV), (r0 :: rows)[i]? = some row -> row[j]? = some x -> ∃ v, W.cell? ⟨b, o + i * sz + j, none⟩ = some v /\ Rel (knW W) m0 x v /\ v.oneCell' = true := by
   intro i row j x hrow hx;obtain ⟨hrl0, rowv, bi, ci⟩ := hr i row hrow;obtain ⟨hrl, hci⟩ := cells?_get bi;have hj : j < sz := by have := (List.getElem?_eq_some_iff.1 hx).1; omega
   obtain ⟨v, hv1, hv2⟩ := hci j hj;rw [X2F, X2F] at hv2;exact ⟨v, hv2, ci.1.2 j x v hx hv1, ci.2 v (List.mem_of_getElem? hv1)⟩
  have := Rel.vec (kn := knW W) (m := m0) sz (r0 :: rows) b o cap (fun i j => (W.cell? ⟨b, o + i * sz + j, none⟩).getD undef) (by omega) (by rw [hl]; omega)
   (fun i row hrow => (hr i row hrow).1)
   (fun i row j x hrow hx => by
    obtain ⟨v, h1, _⟩ := hcell i row j x hrow hx;show W.cell? _ = _;rw [h1]; rfl)
   (fun i row j x hrow hx => by
    obtain ⟨v, h1, h2, _⟩ := hcell i row j x hrow hx;simp only [h1, Option.getD_some]; exact h2)
   (fun i row j x hrow hx => by
    obtain ⟨v, h1, _, h3⟩ := hcell i row j x hrow hx;simp only [h1, Option.getD_some]; exact h3)
  rw [hl] at this;exact this
theorem Y11 {t : TypeId} (hk : Y1C P t = true) (h : DataW.trod enc P W 0 sp true f t cs = some (d, ps)) : ∃ n, cs = [.int .i64 n] /\ d = .lit (.int .i64 n) /\ -9223372036854775808 <= n /\ n <= 9223372036854775807 := by
 cases f with
 | zero => unfold DataW.trod at h; cases h
 | succ f =>
  unfold Y1C at hk;split at hk
  ·rename_i hu;unfold DataW.trod at h;rw [hu] at h;split at h <;> try (simp_all; done)
   rename_i k k' n hcs;cases hcs;split at h
   ·rename_i hw;obtain ⟨rfl, hw⟩ := hw;cases h;simp only [Lit.wf, Bool.and_eq_true, decide_eq_true_eq] at hw;exact ⟨n, rfl, rfl, hw.1, hw.2⟩
   cases h
  cases hk
theorem Y6I {t : TypeId} (hk : isStr P t = true) (h : DataW.trod enc P W 0 sp true f t cs = some (d, ps)) : ∃ s, cs = [.string s] /\ d = .lit (.string s.data.toList) := by
 cases f with
 | zero => unfold DataW.trod at h; cases h
 | succ f =>
  unfold isStr at hk;split at hk
  ·rename_i hu;unfold DataW.trod at h;rw [hu] at h;split at h <;> simp_all
  cases hk
theorem trod_slice {t e : TypeId} (hu : P.underlying t = some (.slice e)) (h : DataW.trod enc P W 0 sp true (f + 1) t cs = some (d, ps)) : (cs = [.slice none 0 0] /\ d = .nil) \/
  ∃ a len cap elems rest, cs = [.slice (some a) len cap] /\ len <= cap /\ cap <= maxLen /\ d = .slice (elems.map (·.1)) rest /\
   (List.range len).mapM (fun i => (W.cells? 0 (a.add (i * P.cellsOf e)) (P.cellsOf e)).bind (DataW.trod enc P W 0 sp true f e)) = some elems := by
 unfold DataW.trod at h;rw [hu] at h;split at h <;> try (simp_all; done)
 rename_i e' a len cap he;cases he;refine .inr ?_;dsimp only at h;split at h
 ·rename_i hc;cases he : (List.range len).mapM (fun i => (W.cells? 0 (a.add (i * P.cellsOf e)) (P.cellsOf e)).bind (DataW.trod enc P W 0 sp true f e)) with
  | none => rw [he] at h; cases h
  | some elems =>
   rw [he] at h;simp only [Option.bind_some] at h;rw [Option.map_eq_some_iff] at h;obtain ⟨rest, _, h2⟩ := h;simp only [Prod.mk.injEq] at h2;exact ⟨a, len, cap, elems, _, rfl, hc.2.1, hc.2.2, h2.1.symm, he⟩
 cases h
variable {bulk : DataW H -> Nat} {bulkAll : List (DataW H) -> Nat}
theorem Y0y (B : Bulk bulk bulkAll) {α : Type} {t e : TypeId} {sz : Nat} (hsz : 0 < sz) (hce : P.cellsOf e = sz) (row : α -> List AV) (hrow : ∀ x, (row x).length = sz) (big : α -> Nat) (wf : α -> Prop) (hu : P.underlying t = some (.slice e))
  (ih : ∀ cs d ps, DataW.trod enc P W 0 sp true f e cs = some (d, ps) -> bulk d <= 4611686018427387904 -> ∃ x : α, RelC (knW W) m0 (row x) cs /\ big x <= bulk d /\ wf x)
  (h : DataW.trod enc P W 0 sp true (f + 1) t cs = some (d, ps)) (hb : bulk d <= 4611686018427387904) : ∃ l : List α, RelC (knW W) m0 [.vec sz (l.map row)] cs /\ (l.map fun x => max 1 (big x)).sum <= bulk d /\ ∀ x ∈ l, wf x := by
 rcases trod_slice hu h with ⟨rfl, rfl⟩ | ⟨a, len, cap, elems, rest, rfl, hle, hmx, rfl, hm⟩
 ·refine ⟨[], ⟨.cons (.vecNone _) (.nil _ _), fun v hv => ?_⟩, by simp, fun x hx => by cases hx⟩;simp at hv; subst hv; rfl
 obtain ⟨m1, m2⟩ := X5W hm;simp only [List.length_range] at m1;have hbs := B.hsl (elems.map (·.1)) rest;have hbl := X8r B.hp B.h1 (elems.map (·.1));rw [List.length_map, m1] at hbl;have each : ∀ i, i < len -> ∃ x : α, ∃ rowv : List Value, ∃ y, elems[i]? = some y /\ W.cells? 0 (a.add (i * sz)) sz = some rowv /\ RelC (knW W) m0 (row x) rowv /\ big x <= bulk y.1 /\ wf x := by
  intro i hi;obtain ⟨y, a1, a2⟩ := m2 i i (by simp [hi]);simp only [hce, Option.bind_eq_some_iff] at a2;obtain ⟨rowv, b1, b2⟩ := a2;have hby := Y6d B.h1 (elems.map (·.1)) i y.1 (by rw [List.getElem?_map, a1]; rfl);obtain ⟨x, c1, c2, c3⟩ := ih rowv y.1 y.2 b2 (by omega);exact ⟨x, rowv, y, a1, b1, c1, c2, c3⟩
 obtain ⟨l, l1, l2⟩ := Y90 len each;refine ⟨l, ⟨.cons ?_ (.nil _ _), fun v hv => by simp at hv; subst hv; rfl⟩, ?_, fun x hx => ?_⟩
 ·refine Z4w hsz (by simpa using l1) hle (by omega) fun i r hr => ?_
  rw [List.getElem?_map, Option.map_eq_some_iff] at hr;obtain ⟨x, hx, rfl⟩ := hr;obtain ⟨rowv, y, _, b1, c1, _⟩ := l2 i x hx;exact ⟨hrow x, rowv, b1, c1⟩
 ·have := Z25 B.h1 B.hp big l (elems.map (·.1)) (by simp [l1, m1]) (fun i x d hx hd => by
   obtain ⟨rowv, y, a1, _, _, c2, _⟩ := l2 i x hx;rw [List.getElem?_map, a1] at hd;simp at hd;subst hd;exact c2)
  omega
 obtain ⟨i, hi⟩ := List.getElem?_of_mem hx;obtain ⟨_, _, _, _, _, _, c3⟩ := l2 i x hi;exact c3
theorem Z1v (l : List Fm) : (l.map fun x => max 1 x.big).sum = Fm.bigL l := by
 induction l with
 | nil => rfl
 | cons f r ih => simp only [List.map_cons, List.sum_cons, Fm.bigL, ih]; have := X2s f; omega
theorem Y9G (B : Bulk bulk bulkAll) {t : TypeId} (hk : Y3h P t = true) : ∀ (f : Nat) (cs : List Value) (d : DataW H) (ps : List MemPlace), DataW.trod enc P W 0 sp true f t cs = some (d, ps) -> bulk d <= 4611686018427387904 ->
  ∃ x : Fm, RelC (knW W) m0 x.row cs /\ x.big <= bulk d := by
 intro f
 induction f using Nat.strongRecOn with
 | _ f ih =>
 intro cs d ps h hbd;cases f with
 | zero => unfold DataW.trod at h; cases h
 | succ f =>
 have hk' := hk;unfold Y3h at hk;split at hk
 ·rename_i fs hu;split at hk
  ·rename_i f0 f1 f2 f3 hfs;simp only [Bool.and_eq_true] at hk;obtain ⟨⟨o0, o1, o2, o3⟩, ⟨k0, k1⟩, k2, k3, hc⟩ := hk;have o0 := Nat.eq_of_beq_eq_true o0;have o1 := Nat.eq_of_beq_eq_true o1;have o2 := Nat.eq_of_beq_eq_true o2;have o3 := Nat.eq_of_beq_eq_true o3;have hc := Nat.eq_of_beq_eq_true hc;have c1 : ∀ {u : TypeId}, Y1C P u = true -> P.cellsOf u = 1 := fun {u} h => by
    unfold Y1C at h;split at h
    ·exact Nat.eq_of_beq_eq_true h
    cases h
   have c2 : ∀ {u : TypeId}, isStr P u = true -> P.cellsOf u = 1 := fun {u} h => by
    unfold isStr at h;split at h
    ·exact Nat.eq_of_beq_eq_true h
    cases h
   obtain ⟨hu3, c3⟩ : P.underlying f3.type = some (.slice t) /\ P.cellsOf f3.type = 1 := by
    unfold isSl at k3;split at k3
    ·rename_i e' he;rw [Bool.and_eq_true] at k3;rw [Nat.eq_of_beq_eq_true k3.1] at he;exact ⟨he, Nat.eq_of_beq_eq_true k3.2⟩
    cases k3
   unfold DataW.trod at h;rw [hu] at h;simp only [hc, hfs] at h;split at h
   ·rename_i hlen;rw [Option.map_eq_some_iff] at h;obtain ⟨r, hr, hd⟩ := h;obtain ⟨q1, q2⟩ := X5W hr;rcases cs with _ | ⟨c0, _ | ⟨cc1, _ | ⟨cc2, _ | ⟨cc3, _ | ⟨c4, cs⟩⟩⟩⟩⟩ <;> simp at hlen
    rcases r with _ | ⟨y0, _ | ⟨y1, _ | ⟨y2, _ | ⟨y3, _ | ⟨y4, r⟩⟩⟩⟩⟩ <;> simp at q1
    obtain ⟨z0, e0, g0⟩ := q2 0 f0 rfl;obtain ⟨z1, e1, g1⟩ := q2 1 f1 rfl;obtain ⟨z2, e2, g2⟩ := q2 2 f2 rfl;obtain ⟨z3, e3, g3⟩ := q2 3 f3 rfl;simp at e0 e1 e2 e3;subst e0; subst e1; subst e2; subst e3;rw [o0, c1 k0] at g0;rw [o1, c1 k1] at g1;rw [o2, c2 k2] at g2;rw [o3, c3] at g3;simp at g0 g1 g2 g3;obtain ⟨d0, p0⟩ := y0;obtain ⟨d1, p1⟩ := y1;obtain ⟨d2, p2⟩ := y2;obtain ⟨d3, p3⟩ := y3;obtain ⟨k, hk0, rfl, -, -⟩ := Y11 k0 g0;obtain ⟨n, hn', rfl, -, -⟩ := Y11 k1 g1;obtain ⟨s, hs, rfl⟩ := Y6I k2 g2;simp only [List.cons.injEq, and_true] at hk0 hn' hs;subst hk0; subst hn'; subst hs;simp only [Prod.mk.injEq] at hd;obtain ⟨rfl, -⟩ := hd;simp only [List.map_cons, List.map_nil, B.hag, B.h1, B.h0, B.hs] at hbd ⊢;cases f with
    | zero => unfold DataW.trod at g3; cases g3
    | succ f =>
    obtain ⟨l, hl, hlb, -⟩ := Y0y B (sz := 4) (by omega) hc Fm.row Fm.row_len Fm.big (fun _ => True) hu3 (fun cs d ps hh hb => by
     obtain ⟨x, h1, h2⟩ := ih f (by omega) cs d ps hh hb;exact ⟨x, h1, h2, trivial⟩) g3 (by omega)
    rw [Z1v] at hlb;have hstr : Rel (knW W) m0 (.str s.data.toList) (.string s) := by
     have := Rel.str (kn := knW W) (m := m0) s.data.toList;simpa using this
    refine ⟨.mk k n s.data.toList l, ⟨?_, ?_⟩, by simp only [Fm.big]; omega⟩
    ·simp only [Fm.row, Fm.rows_map];exact .cons (.int _ _) (.cons (.int _ _) (.cons hstr hl.1))
    intro v hv;simp at hv;rcases hv with rfl | rfl | rfl | rfl
    ·rfl
    ·rfl
    ·rfl
    exact hl.2 _ (by simp)
   cases h
  cases hk
 cases hk
theorem Y5f (B : Bulk bulk bulkAll) {r : TypeId -> E -> Bool} (ih : ∀ (t : TypeId) (e : E) cs d ps, r t e = true -> DataW.trod enc P W 0 sp true f t cs = some (d, ps) -> bulk d <= 4611686018427387904 -> ∃ x : e.den, RelC (knW W) m0 (e.row x) cs /\ bigE e x <= bulk d /\ wfE e x) :
  ∀ (fs : List Field) (o : Nat) (e : E) (cs : List Value) (ys : List (DataW H × List MemPlace)), kFs r P fs o e = true -> cs.length = o + e.size -> fs.mapM (fun g => DataW.trod enc P W 0 sp true f g.type ((cs.drop g.offset).take (P.cellsOf g.type))) = some ys -> bulkAll (ys.map (·.1)) <= 4611686018427387904 ->
   ∃ x : e.den, RelC (knW W) m0 (e.row x) (cs.drop o) /\ bigE e x <= bulkAll (ys.map (·.1)) /\ wfE e x := by
 intro fs
 induction fs with
 | nil =>
  intro o e cs ys hk hl hm hb;cases e <;> simp only [kFs] at hk <;> try (cases hk; done)
  refine ⟨(), ?_, by simp [bigE], trivial⟩;have : cs.drop o = [] := List.drop_eq_nil_iff.2 (by simp only [E.size] at hl; omega);rw [this];exact ⟨.nil _ _, fun v hv => by cases hv⟩
 | cons g fs ihf =>
  intro o e cs ys hk hl hm hb;obtain ⟨m1, m2⟩ := X5W hm;obtain ⟨y0, e0, g0⟩ := m2 0 g rfl;rcases ys with _ | ⟨y, ys⟩
  ·simp at e0
  simp only [List.getElem?_cons_zero, Option.some.injEq] at e0;subst e0;simp only [List.map_cons, B.h1] at hb ⊢;have one : ∀ (a : E), g.offset = o -> P.cellsOf g.type = a.size -> r g.type a = true -> ∃ x : a.den, RelC (knW W) m0 (a.row x) ((cs.drop o).take a.size) /\ bigE a x <= bulk y.1 /\ wfE a x := fun a h1 h2 h3 => by
   rw [h1, h2] at g0;exact ih _ a _ y.1 y.2 h3 g0 (by omega)
  have many : ∀ a b, e = .pr a b -> g.offset = o -> P.cellsOf g.type = a.size -> r g.type a = true -> kFs r P fs (o + a.size) b = true -> ∃ x : e.den, RelC (knW W) m0 (e.row x) (cs.drop o) /\ bigE e x <= bulk y.1 + bulkAll (ys.map (·.1)) /\ wfE e x := by
   rintro a b rfl h1 h2 h3 h4;obtain ⟨x, hx, hxb, hxw⟩ := one a h1 h2 h3;have hm' : fs.mapM (fun g => DataW.trod enc P W 0 sp true f g.type ((cs.drop g.offset).take (P.cellsOf g.type))) = some ys := by
    simp only [List.mapM_cons, Option.bind_eq_bind, Option.bind_eq_some_iff] at hm;obtain ⟨_, _, _, q, q'⟩ := hm;cases q';exact q
   obtain ⟨z, hz, hzb, hzw⟩ := ihf (o + a.size) b cs ys h4 (by simp only [E.size] at hl; omega) hm' (by omega);refine ⟨(x, z), ?_, by simp only [bigE]; omega, ⟨hxw, hzw⟩⟩;have : cs.drop o = (cs.drop o).take a.size ++ cs.drop (o + a.size) := by rw [<- List.drop_drop]; exact (List.take_append_drop _ _).symm
   rw [this];exact hx.append hz
  cases fs with
  | nil =>
   have hk1 : (Nat.beq g.offset o && (Nat.beq (P.cellsOf g.type) e.size && r g.type e)) = true := by cases e <;> exact hk
   simp only [Bool.and_eq_true] at hk1;obtain ⟨h1, h2, h3⟩ := hk1;obtain ⟨x, hx, hxb, hxw⟩ := one e (Nat.eq_of_beq_eq_true h1) (Nat.eq_of_beq_eq_true h2) h3;refine ⟨x, ?_, by omega, hxw⟩
   rwa [List.take_of_length_le (by rw [List.length_drop]; omega)] at hx
  | cons g' fs' =>
   cases e <;> simp only [kFs] at hk <;> try (cases hk; done)
   rename_i a b;simp only [Bool.and_eq_true] at hk;obtain ⟨h1, h2, h3, h4⟩ := hk;exact many a b rfl (Nat.eq_of_beq_eq_true h1) (Nat.eq_of_beq_eq_true h2) h3 h4
theorem Z0g (B : Bulk bulk bulkAll) : ∀ (n : Nat) (f : Nat) (t : TypeId) (e : E) (cs : List Value) (d : DataW H) (ps : List MemPlace), kOK P n t e = true -> DataW.trod enc P W 0 sp true f t cs = some (d, ps) -> bulk d <= 4611686018427387904 ->
  ∃ x : e.den, RelC (knW W) m0 (e.row x) cs /\ bigE e x <= bulk d /\ wfE e x
 | 0, f, t, e, cs, d, ps, hk, h, hb => by cases hk
 | n + 1, f, t, e, cs, d, ps, hk, h, hb => by
  have struct : (match P.underlying t with
   | some (.struct fs) => Nat.beq (P.cellsOf t) e.size && kFs (kOK P n) P fs.toList 0 e
   | _ => false) = true -> ∃ x : e.den, RelC (knW W) m0 (e.row x) cs /\ bigE e x <= bulk d /\ wfE e x := fun hk => by
   split at hk
   ·rename_i fs hu;rw [Bool.and_eq_true] at hk;have hc := Nat.eq_of_beq_eq_true hk.1;cases f with
    | zero => unfold DataW.trod at h; cases h
    | succ f =>
     unfold DataW.trod at h;rw [hu] at h;simp only [hc] at h;split at h
     ·rename_i hlen;rw [Option.map_eq_some_iff] at h;obtain ⟨r, hr, hd⟩ := h;simp only [Prod.mk.injEq] at hd;obtain ⟨rfl, -⟩ := hd;rw [B.hag] at hb ⊢;obtain ⟨x, h1, h2, h3⟩ := Y5f B (f := f) (fun t e cs d ps hk hh hb => Z0g B n f t e cs d ps hk hh hb) fs.toList 0 e cs r hk.2 (by omega) hr (by omega);exact ⟨x, by simpa using h1, by omega, h3⟩
     cases h
   cases hk
  cases e with
  | int k =>
   cases k <;> try exact struct hk
   obtain ⟨m, rfl, rfl, h1, h2⟩ := Y11 hk h;exact ⟨m, ⟨.cons (.int _ _) (.nil _ _), fun v hv => by simp at hv; subst hv; rfl⟩, by simp [bigE], h1, h2⟩
  | str =>
   obtain ⟨s, rfl, rfl⟩ := Y6I hk h;refine ⟨s.data.toList, ⟨.cons ?_ (.nil _ _), fun v hv => by simp at hv; subst hv; rfl⟩, by simp only [bigE, B.hs]; omega, trivial⟩;have := Rel.str (kn := knW W) (m := m0) s.data.toList;simpa using this
  | bool =>
   have hk : (match P.underlying t with
    | some .bool => true
    | _ => false) = true := hk
   split at hk
   ·rename_i hu;cases f with
    | zero => unfold DataW.trod at h; cases h
    | succ f =>
     unfold DataW.trod at h;rw [hu] at h;split at h <;> try (simp_all; done)
     rename_i b _;exact ⟨b, ⟨.cons (.bool _) (.nil _ _), fun v hv => by simp at hv; subst hv; rfl⟩, by simp [bigE], trivial⟩
   cases hk
  | form =>
   obtain ⟨x, h1, h2⟩ := Y9G B hk f cs d ps h hb;exact ⟨x, h1, h2, trivial⟩
  | slice e =>
   have hk : (match P.underlying t with
    | some (.slice t') => kOK P n t' e && (Nat.beq (P.cellsOf t') e.size && Nat.blt 0 e.size)
    | _ => false) = true := hk
   split at hk
   ·rename_i t' hu;simp only [Bool.and_eq_true] at hk;cases f with
    | zero => unfold DataW.trod at h; cases h
    | succ f =>
     obtain ⟨l, h1, h2, h3⟩ := Y0y B (sz := e.size) (by have := hk.2.2; unfold Nat.blt at this; exact Nat.le_of_ble_eq_true this) (Nat.eq_of_beq_eq_true hk.2.1) e.row e.row_len (bigE e) (wfE e) hu (fun cs d ps hh hb => Z0g B n f t' e cs d ps hk.1 hh hb) h hb;exact ⟨l, h1, h2, h3⟩
   cases hk
  | erri => exact struct hk
  | un => exact struct hk
  | pr a b => exact struct hk
theorem X4n {kn : Kn} {m : Mp} : ∀ (e : E) (x : e.den) (vs : List Value), RelC kn m (e.row x) vs -> RelC kn m (e.cells x) vs
 | .int _, _, _, h => h
 | .bool, _, _, h => h
 | .str, _, _, h => h
 | .erri, _, _, h => h
 | .form, .mk k n t l, vs, h => by
  refine ⟨?_, h.2⟩;have h := h.1;simp only [E.row, Fm.row, Fm.rows_map] at h;obtain ⟨v0, u0, rfl, h0, h⟩ := h.uncons;obtain ⟨v1, u1, rfl, h1, h⟩ := h.uncons;obtain ⟨v2, u2, rfl, h2, h⟩ := h.uncons;obtain ⟨v3, u3, rfl, h3, h⟩ := h.uncons;exact .cons h0 (.cons h1 (.cons h2 (.cons (X1R.2 h3) h)))
 | .un, _, _, h => h
 | .pr a b, (x, y), vs, h => by
  obtain ⟨us, ws, rfl, h1, h2⟩ := RelL.append_iff.1 h.1;exact (X4n a x us ⟨h1, fun v hv => h.2 v (by simp [hv])⟩).append (X4n b y ws ⟨h2, fun v hv => h.2 v (by simp [hv])⟩)
 | .slice e, l, vs, h => by
  refine ⟨?_, h.2⟩;have h := h.1;simp only [E.row] at h;obtain ⟨v0, u0, rfl, h0, h⟩ := h.uncons;exact .cons (X1R.2 h0) h
theorem Y6v {row : List AV} {cs : Array Value} (h : RelC (knW W) m0 row (Value.agg cs).cells.toList) : Rel (knW W) m0 (.agg row) (.agg cs) := by
 have hcs : (Value.agg cs).cells.toList = cs.toList := rfl;rw [hcs] at h;exact .agg _ _ (by simpa using h.1.1) (fun i y v q r => h.1.2 i y v q (by simpa using r)) (fun i v r => h.2 v (by simpa using Array.mem_of_getElem? r))
end
end Go.Ab
namespace Go.Ab
open Go Go.ChangeShapes Go.WideShapes Go.ChangeAt Go.RowKit Go.Proofs Go.Proofs.YthbkbjlfghikfaaGreatDoor
def Z1t (P : Program) (n : Nat) (t : TypeId) (e : E) : Bool := kOK P n t e && match e with
 | .int .i64 => true
 | .bool => true
 | .str => true
 | .form => true
 | .slice _ => true
 | .pr _ _ => true
 | _ => false
def Z19 (P : Program) (n : Nat) : List TypeId -> List E -> Bool
 | [], [] => true
 | t :: ts, e :: es => Z1t P n t e && Z19 P n ts es
 | _, _ => false
abbrev shA (es : List E) : List Sh := es.map .d
def bigA : (es : List E) -> Sh.denL (shA es) -> Nat
 | [], _ => 0
 | e :: es, x => bigE e x.1 + bigA es x.2
def wfA : (es : List E) -> Sh.denL (shA es) -> Prop
 | [], _ => True
 | e :: es, x => wfE e x.1 /\ wfA es x.2
section
variable {H : Type} {enc : TypeId × Value -> H} {W : World} {P : Program}
theorem Z16 {t : TypeId} {v c : Value} {base : Nat} (hs : ∀ fs, P.underlying t ≠ some (.struct fs)) (ha : ∀ k a, P.underlying t ≠ some (.array k a)) (hok : Value.okWide P W .any base t v) (h : v.cells.toList = [c]) : v = c := by
 cases v <;> simp [Value.cells] at h <;> try exact h
 rename_i cs;exfalso;unfold Value.okWide at hok;split at hok
 ·rename_i fs e; exact hs fs e
 ·rename_i k a e; exact ha _ _ e
 unfold Cell.okWide at hok;split at hok <;> first | (simp_all; done) | skip
 unfold Cell.ok at hok;split at hok <;> simp_all
theorem Y0H {t : TypeId} {v : Value} {base : Nat} {fs : Array Field} (hu : P.underlying t = some (.struct fs)) (hok : Value.okWide P W .any base t v) : ∃ cs, v = .agg cs := by
 unfold Value.okWide at hok;rw [hu] at hok;obtain ⟨cs, h, _⟩ := hok;exact ⟨cs, h⟩
theorem Z6g {n : Nat} {t : TypeId} {e : E} {x : e.den} {v : Value} {base : Nat} (hk : Z1t P n t e = true) (hok : Value.okWide P W .any base t v) (h : RelC (knW W) m0 (e.row x) v.cells.toList) : Rel (knW W) m0 (e.av x) v := by
 unfold Z1t at hk;rw [Bool.and_eq_true] at hk;obtain ⟨hk, hk2⟩ := hk;cases n with
 | zero => cases hk
 | succ n =>
 have one : ∀ {a : AV}, (∀ fs, P.underlying t ≠ some (.struct fs)) -> (∀ k a, P.underlying t ≠ some (.array k a)) -> RelC (knW W) m0 [a] v.cells.toList -> Rel (knW W) m0 a v := by
  intro a hs ha h;obtain ⟨c, u, hc, h1, h2⟩ := h.1.uncons;have : u = [] := by have q := h2.1; exact List.length_eq_zero_iff.1 q.symm
  subst this;rw [Z16 hs ha hok hc];exact h1
 cases e with
 | int k =>
  cases k <;> try (cases hk2; done)
  have hk : Y1C P t = true := hk;unfold Y1C at hk;split at hk
  ·rename_i hu; exact one (fun fs e => by rw [hu] at e; cases e) (fun _ _ e => by rw [hu] at e; cases e) h
  cases hk
 | bool =>
  have hk : (match P.underlying t with
   | some .bool => true
   | _ => false) = true := hk
  split at hk
  ·rename_i hu; exact one (fun fs e => by rw [hu] at e; cases e) (fun _ _ e => by rw [hu] at e; cases e) h
  cases hk
 | str =>
  have hk : isStr P t = true := hk;unfold isStr at hk;split at hk
  ·rename_i hu; exact one (fun fs e => by rw [hu] at e; cases e) (fun _ _ e => by rw [hu] at e; cases e) h
  cases hk
 | slice e =>
  have hk : (match P.underlying t with
   | some (.slice t') => kOK P n t' e && (Nat.beq (P.cellsOf t') e.size && Nat.blt 0 e.size)
   | _ => false) = true := hk
  split at hk
  ·rename_i hu;exact one (fun fs e => by rw [hu] at e; cases e) (fun _ _ e => by rw [hu] at e; cases e) (X4n (.slice e) x _ h)
  cases hk
 | form =>
  have hk : Y3h P t = true := hk;unfold Y3h at hk;split at hk
  ·rename_i fs hu;obtain ⟨cs, rfl⟩ := Y0H hu hok;exact Y6v (X4n .form x _ h)
  cases hk
 | pr a b =>
  have hk : (match P.underlying t with
   | some (.struct fs) => Nat.beq (P.cellsOf t) (E.pr a b).size && kFs (kOK P n) P fs.toList 0 (.pr a b)
   | _ => false) = true := hk
  split at hk
  ·rename_i fs hu;obtain ⟨cs, rfl⟩ := Y0H hu hok;exact Y6v (X4n (.pr a b) x _ h)
  cases hk
 | erri => cases hk2
 | un => cases hk2
variable {bulk : DataW H -> Nat} {bulkAll : List (DataW H) -> Nat}
theorem Y2V (B : Bulk bulk bulkAll) (n : Nat) : ∀ (ts : List TypeId) (es : List E) (vs : List Value) (ds : List (DataW H)) (ps : List MemPlace) (base : Nat), Z19 P n ts es = true -> DataW.TrodAll enc P W 0 (fun _ => true) true ts vs ds ps -> (∀ (j : Nat) t v, ts[j]? = some t -> vs[j]? = some v -> Value.okWide P W .any base t v) -> bulkAll ds <= 4611686018427387904 ->
  ∃ x : Sh.denL (shA es), RelL (knW W) m0 (patL ρ0 (shA es) x) vs /\ bigA es x <= bulkAll ds /\ wfA es x
 | [], [], vs, ds, ps, base, _, h, _, _ => by
  obtain ⟨rfl, rfl, rfl⟩ := trodAll_nil h;exact ⟨(), .nil _ _, by simp [bigA], trivial⟩
 | [], e :: es, vs, ds, ps, base, hk, _, _, _ => by cases hk
 | t :: ts, [], vs, ds, ps, base, hk, _, _, _ => by cases hk
 | t :: ts, e :: es, vs, ds, ps, base, hk, h, hok, hb => by
  simp only [Z19, Bool.and_eq_true] at hk;obtain ⟨v, vs', d, ds', p, q, rfl, rfl, rfl, h1, h2⟩ := trodAll_cons h;rw [B.h1] at hb ⊢;obtain ⟨f, t1⟩ := id h1;have hk1 : kOK P n t e = true := by have := hk.1; unfold Z1t at this; rw [Bool.and_eq_true] at this; exact this.1
  obtain ⟨x, a1, a2, a3⟩ := Z0g B n f t e _ d p hk1 t1 (by omega);obtain ⟨y, b1, b2, b3⟩ := Y2V B n ts es vs' ds' q base hk.2 h2 (fun j t v q1 q2 => hok (j + 1) t v q1 q2) (by omega);exact ⟨(x, y), .cons (Z6g hk.1 (hok 0 t v rfl rfl) a1) b1, by simp only [bigA]; omega, a3, b3⟩
theorem X15 : ∀ {ts : List TypeId} {vs : List Value} {ds : List (DataW H)} {ps : List MemPlace} {W : World} {b : Nat} {sp : Nat -> Bool} {hd : Bool}, DataW.TrodAll enc P W b sp hd ts vs ds ps -> ds.length = ts.length
 | [], vs, ds, ps, W, b, sp, hd, h => by obtain ⟨_, rfl, _⟩ := trodAll_nil h; rfl
 | t :: ts, vs, ds, ps, W, b, sp, hd, h => by
  obtain ⟨v, vs', d, ds', p, q, rfl, rfl, rfl, h1, h2⟩ := trodAll_cons h;simp [X15 h2]
theorem X6b {W' : World} (hl : laidOutB P = true) : ∀ {ts : List TypeId} {vs : List Value} {ds : List (DataW H)} {ps : List MemPlace}, ts.all (fun t => P.readableRec t && Nat.blt t P.types.size) = true -> DataW.TrodAll enc P W 0 (fun _ => true) true ts vs ds ps -> Below W.heap.size W W' -> (∀ x ∈ ps, x.block < W.heap.size) -> DataW.TrodAll enc P W' 0 (fun b => decide (b < W.heap.size)) true ts vs ds ps
 | [], vs, ds, ps, _, h, _, _ => by obtain ⟨rfl, rfl, rfl⟩ := trodAll_nil h; exact trodAll_mk0
 | t :: ts, vs, ds, ps, hr, h, hb, hp => by
  simp only [List.all_cons, Bool.and_eq_true] at hr;obtain ⟨v, vs', d, ds', p, q, rfl, rfl, rfl, h1, h2⟩ := trodAll_cons h;exact trodAll_cons_mk (Below.trod hl hr.1.1 (Nat.le_of_ble_eq_true hr.1.2) h1 hb (fun x hx => hp x (by simp [hx]))) (X6b hl hr.2 h2 hb (fun x hx => hp x (by simp [hx])))
end
theorem Z1x {H : Type} (d : DataW H) : 1 <= Rows.uptoBulk d := by
 cases d with
 | lit l => cases l <;> simp [Rows.uptoBulk]
 | _ => simp [Rows.uptoBulk]
theorem Z7g {H : Type} : Bulk (Rows.uptoBulk (H := H)) Rows.uptoBulkAll := ⟨fun l => by simp [Rows.uptoBulk], fun l r => by simp [Rows.uptoBulk]; omega, fun l => by simp [Rows.uptoBulk], Z1x, by simp [Rows.uptoBulkAll], fun d l => by simp [Rows.uptoBulkAll]⟩
theorem Y4F {g : FuncId} {fn : Func} {es : List E} {n : Nat} {spec : ChangeSpec} {tb : TypeId} (hv : spec.vars = []) (hfn : ∀ (H : Type) (ds : List (DataW H)), ds.length = fn.params.toList.length -> spec.fn H ds = { results := [.lit (.bool true)], args := ds })
  (hres : fn.resultTypes = #[tb]) (htb : Tryz.prog.underlying tb = some .bool) (hk : Z19 Tryz.prog n fn.params.toList es = true) (hrr : fn.params.toList.all (fun t => Tryz.prog.readableRec t && Nat.blt t Tryz.prog.types.size) = true) (hl : laidOutB Tryz.prog = true) (hbo : X6Z Tryz.prog g = true)
  (hlaw : ∀ x, bigA es x <= 1048576 -> wfA es x -> PCall CX g (patL ρ0 (shA es) x) (· = .ret (.bool true)))
  (H : Type) (enc : TypeId × Value -> H) (W : World) (base : Nat) (args : Array Value) (ds gs : List (DataW H)) (before : List MemPlace)
  (hval : ∀ (j : Nat) t v, fn.params[j]? = some t -> args[j]? = some v -> Value.okWide Tryz.prog W .any base t v)
  (hW : DataW.Whole enc Tryz.prog fn.params.toList spec.vars false W args.toList ds gs before) (hb : Rows.uptoSmall H (ds ++ gs) = true) (hE : ErrW W) :
  Calls Tryz.prog g args W fun e W' => ∃ v, e = .returned v /\ spec.post enc Tryz.prog fn false true false false W args v W' := by
 have hW' := hW;obtain ⟨p, q, hA0, hV, rfl, hfz, hnd⟩ := hW;have hA : DataW.TrodAll enc Tryz.prog W 0 (fun _ => true) true fn.params.toList args.toList ds p := hA0;rw [hv] at hV;obtain ⟨rfl, rfl⟩ := trodVars_none hV;have hbd : Rows.uptoBulkAll ds <= 1048576 := by
  have := of_decide_eq_true hb;simpa using this
 obtain ⟨x, hx, hxb, hxw⟩ := Y2V Z7g n fn.params.toList es args.toList ds p base hk hA (fun j t v a b => hval j t v (by simpa using a) (by simpa using b)) (by omega);have hdo := hlaw x (by omega) hxw (knW W) W args.toList (Z5Z W hE) hx;have hlt : ∀ y ∈ p, y.block < W.heap.size := fun y hy => hW'.lt y (by simp [hy])
 have fin : ∀ e w', (∃ out kn', out = AOut.ret (.bool true) /\ RelOut kn' m0 out e /\ KnOK CX kn' w' /\ Below W.heap.size W w' /\ ∀ b, b < W.heap.size -> kn' b = knW W b) -> ∃ v, e = .returned v /\ spec.post enc Tryz.prog fn false true false false W args v w' := by
  rintro e w' ⟨out, kn', rfl, ho, _, hbel, _⟩;cases e with
  | returned u =>
   simp only [RelOut] at ho;cases ho;have hT := X6b hl hrr hA hbel hlt;refine ⟨_, rfl, _, _, _, [], p, [], hW', ?_, ?_, ?_, hbel.frame _, fun h => by cases h⟩
   ·rw [hres, hfn H _ (by simpa using X15 hA)];exact trodAll_cons_mk (shut_bool htb _) trodAll_mk0
   ·rw [hfn H _ (by simpa using X15 hA), List.append_nil];exact hT
   rw [hv, hfn H _ (by simpa using X15 hA)]; rfl
  | panicked ch => exact ho.elim
  | outgrown => exact ho.elim
 rcases hdo with ⟨_, hc⟩ | ⟨u, w', h1, _⟩
 ·exact hc.mono fin
 have h2 : (callFunc g args.toList.toArray).run Tryz.prog W = _ := X2t hbo _ W;have h1' : (callFunc g args.toList.toArray).run Tryz.prog W = _ := h1;rw [h2] at h1';cases h1'
end Go.Ab
namespace Go.Ab
open Go Go.RowKit Go.Proofs
theorem X4f {P : Program} {w : World} : ∀ (l : List (String × DataW Unit)) (ps : List MemPlace), DataW.LaidVars P w l ps -> ∀ n d, (n, d) ∈ l -> ∃ g t cs fuel p, P.globalNamed n = some g /\ (P.globals[g]?).map (·.type) = some t /\ w.var? P n = some cs /\ DataW.trod (fun _ => ()) P w 0 (fun _ => true) false fuel t cs.toList = some (d, p)
 | [], ps, h, n, d, hm => by cases hm
 | (n', d') :: r, ps, h, n, d, hm => by
  obtain ⟨g, t, cs, fuel, p, q, h1, h2, h3, h4, h5, h6⟩ := h;rcases List.mem_cons.1 hm with e | hm
  ·cases e;exact ⟨g, t, cs, fuel, p, h1, h2, h3, h4⟩
  exact X4f r q h5 n d hm
def Z6k (q : String × IntKind × List Int) : Bool := match Tryz.prog.globalNamed q.1 with
 | some g => (match (Tryz.prog.globals[g]?).map (·.type) with
  | some t => (match Tryz.prog.underlying t with
   | some (.array n e) => (match Tryz.prog.underlying e with
    | some (.int k) => (decide (k = q.2.1) && (Nat.beq (Tryz.prog.cellsOf e) 1 && Nat.beq (Tryz.prog.cellsOf t) n))
    | _ => false)
   | _ => false)
  | none => false)
 | none => false
theorem Z2v : tabL.all Z6k = true := by kernel_rfl
theorem Z4D {l : List (String × DataW Unit)} {W : World} (hL : laidMet Tryz.prog l W) (hm : ∀ q ∈ tabL, (q.1, Lib.tabData q.2.1 q.2.2) ∈ l) : TabW CX W := by
 intro g a hg;have hg : tabG g = some a := hg;unfold tabG at hg;obtain ⟨q, hq, rfl⟩ := Option.map_eq_some_iff.1 hg;have hmem := List.mem_of_find?_eq_some hq;have hname : Tryz.prog.globalNamed q.1 = some g := by
  have := List.find?_some hq;simpa using this
 obtain ⟨ps, hv, _⟩ := hL;obtain ⟨g', t, cs, fuel, p, h1, h2, h3, h4⟩ := X4f l ps hv _ _ (hm q hmem);rw [hname] at h1;cases h1;have hty := List.all_eq_true.1 Z2v q hmem;unfold Z6k at hty;rw [hname] at hty;simp only [h2] at hty;split at hty
 ·rename_i n e hu;split at hty
  ·rename_i k hk;simp only [Bool.and_eq_true, decide_eq_true_eq] at hty;obtain ⟨hk', hc1, hc2⟩ := hty;subst hk';have hcs := Lib.cells_of_tab hu hk (Nat.eq_of_beq_eq_true hc1) (Nat.eq_of_beq_eq_true hc2) h4;unfold World.var? at h3;rw [hname] at h3;simp only [Option.bind_some] at h3;split at h3
   ·rename_i c T z hw;cases h3;refine ⟨T, z, ?_⟩;rw [hw, <- hcs]
   cases h3
  cases hty
 cases hty
def Z5P (P : Program) : Bool := match P.globalNamed "strconv.ErrRange" with
 | some g => (match (P.globals[g]?).map (·.type) with
  | some t => (match P.underlying t with
   | some (.interface _) => true
   | _ => false)
  | none => false)
 | none => false
theorem Z1G : Z5P Tryz.prog = true := by kernel_rfl
theorem Z36 {l : List (String × DataW Unit)} {W : World} (hL : laidMet Tryz.prog l W) {nm : String} {x : DataW Unit} (hm : ("strconv.ErrRange", .iface nm x) ∈ l) (hT : ∀ q ∈ tabL, (q.1, Lib.tabData q.2.1 q.2.2) ∈ l) : ErrW W := by
 refine ⟨?_, Z4D hL hT⟩;intro g hg;obtain ⟨ps, hv, _⟩ := hL;obtain ⟨g', t, cs, fuel, p, h1, h2, h3, h4⟩ := X4f l ps hv _ _ hm;have hg' : Tryz.prog.globalNamed "strconv.ErrRange" = some g := hg;rw [hg'] at h1;cases h1;have hty := Z1G;unfold Z5P at hty;rw [hg'] at hty;simp only [h2] at hty;cases fuel with
 | zero => cases h4
 | succ fuel =>
  cases hu : Tryz.prog.underlying t with
  | none => rw [hu] at hty; cases hty
  | some td =>
   rw [hu] at hty;cases td with
   | interface ms =>
    unfold World.var? at h3;rw [hg'] at h3;simp only [Option.bind_some] at h3;unfold DataW.trod at h4;rw [hu] at h4
    match hcs : cs.toList, h4 with
    | [.iface u v], _ =>
     refine ⟨u, v, ?_⟩;cases hh : W.heap[g]? with
     | none => rw [hh] at h3; cases h3
     | some ob =>
      rw [hh] at h3;cases ob with
      | cells c a b =>
       cases h3;have hc : cs[0]? = some (Value.iface u v) := by
        have := congrArg (·[0]?) hcs;simpa using this
       simp [World.cell?, hh, hc]
      | _ => cases h3
    | [.nilIface], h4 => cases h4
   | _ => cases hty
end Go.Ab
namespace Go.Ab
open Go Go.RowKit Go.Proofs
@[go_sem] theorem Z21 (l : List UInt8) : X11 (.string ⟨l.toArray⟩) = .str l := by simp [X11]
theorem X9A (s p : List UInt8) : PCall CX 136 [.str s, .str p] (· = .ret (.bool (decide (p.length <= s.length /\ s.take p.length = p)))) := by
 refine X1f 0 18 [.tmp 4] Tryz.func136 rfl (by decide) rfl rfl rfl ?_;refine X0d {} rfl rfl fun K KP hK hP => ?_
 simp only [go_sem, ↓reduceIte];apply hK; clear hK hP
 by_cases c1 : p.length <= s.length
 ·
  refine X0d {} rfl rfl fun K KP hK hP => ?_
  simp only [go_sem, ↓reduceIte, c1];apply hK; clear hK hP;refine X0X ?_
  simp only [go_sem, ↓reduceIte, c1, X0g] <;> (
   simp [c1])
 
 refine X0d {} rfl rfl fun K KP hK hP => ?_
 simp only [go_sem, ↓reduceIte, c1];apply hK; clear hK hP;refine X0X ?_
 simp only [go_sem, ↓reduceIte, c1, X0g] <;> (
  simp [c1])
theorem X6H (s p : List UInt8) : PCall CX 144 [.str s, .str p] (· = .ret (.str (if p.length <= s.length /\ s.take p.length = p then s.drop p.length else s))) := by
 refine X1f 0 13 [.tmp 4] Tryz.func144 rfl (by decide) rfl rfl rfl ?_;refine X0d {} rfl rfl fun K KP hK hP => ?_
 simp only [go_sem, ↓reduceIte];apply hK; clear hK hP;refine X1l ?_;refine X0d {} rfl rfl fun K KP hK hP => ?_
 simp only [go_sem, ↓reduceIte];refine CallP.ret (X9A s p) (by simp only [go_sem]) ?_
 try simp only [go_sem, ↓reduceIte]
 apply hK; clear hK hP;refine X2E (p.length <= s.length /\ s.take p.length = p) (by simp only [go_sem, ↓reduceIte]) (fun h1 => ?_) (fun h1 => ?_)
 ·
  refine X0d {} rfl rfl fun K KP hK hP => ?_
  simp only [go_sem, ↓reduceIte, h1.1];apply hK; clear hK hP;refine X0X ?_;refine X0g.2 ?_
  simp only [go_sem, ↓reduceIte, X0g] <;> (
   rw [if_pos h1]; try (rw [List.take_of_length_le (by simp)]))
 
 refine X1z ?_;refine X0h.2 ?_;refine X0d {} rfl rfl fun K KP hK hP => ?_
 simp only [go_sem, ↓reduceIte];apply hK; clear hK hP;refine X0X ?_
 simp only [go_sem, ↓reduceIte, X0g] <;> (
  rw [if_neg h1])
theorem X4r (s p : List UInt8) : PCall CX 129 [.str s, .str p] (· = .ret (.str (if p.length <= s.length /\ s.take p.length = p then s.drop p.length else s))) := by
 refine X1f 0 8 [.tmp 4] Tryz.func129 rfl (by decide) rfl rfl rfl ?_;refine X0d {} rfl rfl fun K KP hK hP => ?_
 simp only [go_sem, ↓reduceIte];apply hK; clear hK hP;refine X0d {} rfl rfl fun K KP hK hP => ?_
 simp only [go_sem, ↓reduceIte];refine CallP.ret (X6H s p) (by simp only [go_sem]) ?_
 try simp only [go_sem, ↓reduceIte]
 apply hK; clear hK hP;refine X0X ?_;simp only [go_sem, ↓reduceIte, X0g]
def setA (l : List UInt8) : List AV := (List.range 256).map fun c => .bool (decide (UInt8.ofNat c ∈ l))
@[go_sem] theorem X1e (l : List UInt8) : (setA l).length = 256 := by simp [setA]
theorem Z2i : setA [] = List.replicate 256 (.bool false) := by kernel_rfl
theorem Z0p (l : List UInt8) (c : UInt8) : ((setA l).drop c.toNat).head? = some (.bool (decide (c ∈ l))) := by
 have hc : c.toNat < 256 := c.toNat_lt;rw [List.head?_drop];simp [setA, hc]
theorem Y1T (l : List UInt8) (k : Nat) (h : k < 256) : (setA l)[k]? = some (.bool (decide (UInt8.ofNat k ∈ l))) := by simp [setA, h]
theorem Z2j (l : List UInt8) (c : UInt8) : (setA l).take c.toNat ++ .bool true :: (setA l).drop (c.toNat + 1) = setA (l ++ [c]) := by
 have hc : c.toNat < 256 := c.toNat_lt;apply List.ext_getElem?;intro k;rcases Nat.lt_or_ge k 256 with hk | hk
 ·rw [Y1T _ _ hk];rcases Nat.lt_trichotomy k c.toNat with h | h | h
  ·rw [List.getElem?_append_left (by simp [X1e]; omega), List.getElem?_take, if_pos h, Y1T _ _ hk];have : UInt8.ofNat k ≠ c := fun e => by
    have := congrArg UInt8.toNat e;simp at this; omega
   simp [this]
  ·subst h;rw [List.getElem?_append_right (by simp [X1e] <;> omega), show c.toNat - ((setA l).take c.toNat).length = 0 by simp [X1e] <;> omega];simp
  rw [List.getElem?_append_right (by simp [X1e]; omega)];have e : k - ((setA l).take c.toNat).length = (k - c.toNat - 1) + 1 := by simp [X1e]; omega
  rw [e, List.getElem?_cons_succ, List.getElem?_drop, show c.toNat + 1 + (k - c.toNat - 1) = k by omega, Y1T _ _ hk];have : UInt8.ofNat k ≠ c := fun e => by
   have := congrArg UInt8.toNat e;simp at this; omega
  simp [this]
 rw [List.getElem?_eq_none (by simp [X1e]; omega), List.getElem?_eq_none (by simp [X1e]; omega)]
theorem Z6m (c : UInt8) : c.toNat < 256 := c.toNat_lt
theorem Z26 (c : UInt8) : (c.toNat : Int) < 256 := by have := c.toNat_lt; omega
theorem X5R (σ : Sto) (nx p nm : Nat) (l : List UInt8) (c : UInt8) (hs : sget σ p nm = some (.cells 131 (setA l))) : ACall CX 139 [.ref p nm 0, .int .u8 c.toNat] σ nx (Gets (.bool (decide (c ∈ l))) σ nx) := by
 refine Y1n 10 [.tmp 4] Tryz.func139 rfl (by decide) rfl rfl rfl ?_;have hc := Z26 c;have hc' := Z6m c;refine X0d {} rfl rfl fun K KP hK hP => ?_
 simp only [go_sem, ↓reduceIte];apply hK; clear hK hP;refine X0d {} rfl rfl fun K KP hK hP => ?_
 simp only [go_sem, ↓reduceIte, hc, hc', hs, Nat.mul_one, Z0p];apply hK; clear hK hP;refine X0X ?_;simp only [go_sem, ↓reduceIte, X0g]
def X00 (p : UInt8 -> Bool) (s : List UInt8) : Nat -> List UInt8
 | 0 => []
 | i + 1 => if p (s.getD i 0) then X00 p s i else s.take (i + 1)
theorem X2U (σ : Sto) (nx p nm : Nat) (l s : List UInt8) (hs : sget σ p nm = some (.cells 131 (setA l))) (hl : s.length <= 4611686018427387904) : ACall CX 113 [.str s, .ref p nm 0] σ nx (Gets (.str (X00 (fun c => decide (c ∈ l)) s s.length)) σ nx) := by
 refine Y1n 22 [.tmp 4] Tryz.func113 rfl (by decide) rfl rfl rfl ?_;refine X0d {} rfl rfl fun K KP hK hP => ?_
 simp only [go_sem, ↓reduceIte];apply hK; clear hK hP;refine X1l ?_;refine X2H ?_;refine X7z (fun dd st => ∃ (i : Nat), (i <= s.length) /\ (X00 (fun c => decide (c ∈ l)) s i = X00 (fun c => decide (c ∈ l)) s s.length) /\ i = dd /\ σ = st.σ /\ nx = st.nx /\ st.env 0 = .str (s.take i) /\ st.env 1 = .ref p nm 0) (fun dd st hJ => ?_) ?_
 ·
  obtain ⟨env0, σ0, nx0⟩ := st;obtain ⟨i, hp0_0, hp0_1, hd0, hs0, hn0, e0_0, e0_1⟩ := hJ;dsimp only at hs0 hn0 e0_0 e0_1;subst hd0; subst hs0; subst hn0;have hlen : (s.take i).length = i := by simp; omega
  refine X1l ?_;refine X0d {} rfl rfl fun K KP hK hP => ?_
  simp only [go_sem, ↓reduceIte, e0_0, e0_1, hlen];apply hK; clear hK hP;refine X2E (0 < i) (by simp only [go_sem, ↓reduceIte, e0_0, e0_1, hlen]) (fun h1 => ?_) (fun h1 => ?_)
  ·
   have hx : s[i - 1]? = some (s.getD (i - 1) 0) := by simp [show i - 1 < s.length by omega]
   have hx1 : (s.take i)[i - 1]? = some (s.getD (i - 1) 0) := by rw [List.getElem?_take, if_pos (by omega)]; exact hx
   have hw : IntKind.wrap .i64 ((i : Int) - 1) = ((i - 1 : Nat) : Int) := by rw [wrap64 (by omega) (by omega)]; omega
   have hm : i - 1 <= i := by omega
   have ht : (s.take i).take (i - 1) = s.take (i - 1) := by rw [List.take_take]; congr 1; omega
   refine X1z ?_;refine X0h.2 ?_;refine X2H ?_;refine X1l ?_;refine X0d { ac := [14] } rfl rfl fun K KP hK hP => ?_
   simp only [go_sem, ↓reduceIte, e0_0, e0_1, hlen, hx1, hw, hm, ht];refine CallP.acall (X5R σ nx p nm l _ hs) ?_
   try simp only [go_sem, ↓reduceIte, e0_0, e0_1, hlen, hx1, hw, hm, ht]
   apply hK; clear hK hP;refine X2E (¬ (s.getD (i - 1) 0) ∈ l) (by simp only [go_sem, ↓reduceIte, e0_0, e0_1, hlen, hx1, hw, hm, ht]) (fun h2 => ?_) (fun h2 => ?_)
   ·
    refine X6r ?_;refine X04.2 ?_;refine X8k rfl ?_;refine X04.2 ?_;refine X1W ?_;refine X0h.2 ?_;refine X0d {} rfl rfl fun K KP hK hP => ?_
    simp only [go_sem, ↓reduceIte, e0_0, e0_1, hlen, hx1, hw, hm, ht];apply hK; clear hK hP;refine X0X ?_
    simp only [go_sem, ↓reduceIte, e0_0, e0_1, hlen, hx1, hw, hm, ht, X0g] <;> (
     rw [<- hp0_1];cases i with
     | zero => simp [X00]
     | succ j => first | (exfalso; omega) | (simp only [X00]; rw [if_neg (by simpa using h2)]))
   
   refine X1z ?_;refine X0h.2 ?_;refine Y1t {} rfl rfl fun K KP hK hP => ?_
   simp only [go_sem, ↓reduceIte, e0_0, e0_1, hlen, hx1, hw, hm, ht];apply hK; clear hK hP;refine X2f.2 ?_;refine X0h.2 ?_;refine ⟨_, ?_, (i - 1), ?_, ?_, rfl, rfl, rfl, ?_, ?_⟩
   ·omega
   ·first | omega | trivial | assumption
   ·rw [<- hp0_1];cases i with
    | zero => rfl
    | succ j => simp only [Nat.add_sub_cancel, X00]; rw [if_pos (by simpa using h2)]
   ·simp only [go_sem, ↓reduceIte, e0_0, e0_1, hlen, hx1, hw, hm, ht] <;> try rfl
   simp only [go_sem, ↓reduceIte, e0_0, e0_1, hlen, hx1, hw, hm, ht] <;> try rfl
  
  refine X6r ?_;refine X04.2 ?_;refine X04.2 ?_;refine X1W ?_;refine X0h.2 ?_;refine X0d {} rfl rfl fun K KP hK hP => ?_
  simp only [go_sem, ↓reduceIte, e0_0, e0_1, hlen];apply hK; clear hK hP;refine X0X ?_
  simp only [go_sem, ↓reduceIte, e0_0, e0_1, hlen, X0g] <;> (
   rw [<- hp0_1];cases i with
   | zero => simp [X00]
   | succ j => first | (exfalso; omega) | (simp only [X00]; rw [if_neg (by simpa using h2)]))
 
 refine ⟨_, s.length, ?_, ?_, rfl, ?_, rfl, ?_, ?_⟩
 ·first | omega | trivial | assumption
 ·first | omega | trivial | assumption
 ·first | rfl | (simp only [go_sem, ↓reduceIte])
 ·simp only [go_sem, ↓reduceIte] <;> try rfl
 simp only [go_sem, ↓reduceIte] <;> try rfl
theorem X6a (σ : Sto) (nx p nm : Nat) (l s : List UInt8) (hs : sget σ p nm = some (.cells 131 (setA l))) : ACall CX 112 [.str s, .ref p nm 0] σ nx (Gets (.str (s.dropWhile fun c => decide (c ∈ l))) σ nx) := by
 refine Y1n 16 [.tmp 4] Tryz.func112 rfl (by decide) rfl rfl rfl ?_;refine X0d {} rfl rfl fun K KP hK hP => ?_
 simp only [go_sem, ↓reduceIte];apply hK; clear hK hP;refine X1l ?_;refine X2H ?_;refine X7z (fun dd st => ∃ (r : List UInt8), (r.dropWhile (fun c => decide (c ∈ l)) = s.dropWhile fun c => decide (c ∈ l)) /\ r.length = dd /\ σ = st.σ /\ nx = st.nx /\ st.env 0 = .str r /\ st.env 1 = .ref p nm 0) (fun dd st hJ => ?_) ?_
 ·
  obtain ⟨env0, σ0, nx0⟩ := st;obtain ⟨r, hp0_0, hd0, hs0, hn0, e0_0, e0_1⟩ := hJ;dsimp only at hs0 hn0 e0_0 e0_1;subst hd0; subst hs0; subst hn0;refine X1l ?_;refine X0d {} rfl rfl fun K KP hK hP => ?_
  simp only [go_sem, ↓reduceIte, e0_0, e0_1];apply hK; clear hK hP;refine X2E (0 < r.length) (by simp only [go_sem, ↓reduceIte, e0_0, e0_1]) (fun h1 => ?_) (fun h1 => ?_)
  ·
   obtain ⟨c, r', rfl⟩ : ∃ c r', r = c :: r' := by cases r with | nil => simp at h1 | cons c r' => exact ⟨c, r', rfl⟩
   have h11 : (1 : Int) <= ((r'.length + 1 : Nat) : Int) := by omega
   refine X1z ?_;refine X0h.2 ?_;refine X2H ?_;refine X1l ?_;refine X0d { ac := [11] } rfl rfl fun K KP hK hP => ?_
   simp only [go_sem, ↓reduceIte, e0_0, e0_1, h11];refine CallP.acall (X5R σ nx p nm l _ hs) ?_
   try simp only [go_sem, ↓reduceIte, e0_0, e0_1, h11]
   apply hK; clear hK hP;refine X2E (¬ c ∈ l) (by simp only [go_sem, ↓reduceIte, e0_0, e0_1, h11]) (fun h2 => ?_) (fun h2 => ?_)
   ·
    refine X6r ?_;refine X04.2 ?_;refine X8k rfl ?_;refine X04.2 ?_;refine X1W ?_;refine X0h.2 ?_;refine X0d {} rfl rfl fun K KP hK hP => ?_
    simp only [go_sem, ↓reduceIte, e0_0, e0_1, h11];apply hK; clear hK hP;refine X0X ?_
    simp only [go_sem, ↓reduceIte, e0_0, e0_1, h11, X0g] <;> (
     rw [<- hp0_0]
     first | (cases r with | nil => rfl | cons => simp at h1) | (rw [List.dropWhile_cons, if_neg (by simpa using h2)]))
   
   refine X1z ?_;refine X0h.2 ?_;refine Y1t {} rfl rfl fun K KP hK hP => ?_
   simp only [go_sem, ↓reduceIte, e0_0, e0_1, h11];apply hK; clear hK hP;refine X2f.2 ?_;refine X0h.2 ?_;refine ⟨_, ?_, r', ?_, rfl, rfl, rfl, ?_, ?_⟩
   ·simp
   ·rw [<- hp0_0, List.dropWhile_cons, if_pos (by simpa using h2)]
   ·simp only [go_sem, ↓reduceIte, e0_0, e0_1, h11] <;> try rfl
   simp only [go_sem, ↓reduceIte, e0_0, e0_1, h11] <;> try rfl
  
  refine X6r ?_;refine X04.2 ?_;refine X04.2 ?_;refine X1W ?_;refine X0h.2 ?_;refine X0d {} rfl rfl fun K KP hK hP => ?_
  simp only [go_sem, ↓reduceIte, e0_0, e0_1];apply hK; clear hK hP;refine X0X ?_
  simp only [go_sem, ↓reduceIte, e0_0, e0_1, X0g] <;> (
   rw [<- hp0_0]
   first | (cases r with | nil => rfl | cons => simp at h1) | (rw [List.dropWhile_cons, if_neg (by simpa using h2)]))
 
 refine ⟨_, s, ?_, rfl, ?_, rfl, ?_, ?_⟩
 ·first | omega | trivial | assumption
 ·first | rfl | (simp only [go_sem, ↓reduceIte])
 ·simp only [go_sem, ↓reduceIte] <;> try rfl
 simp only [go_sem, ↓reduceIte] <;> try rfl
theorem Y0o (l : List UInt8) : X5m Tryz.prog 131 (setA l) = some (.agg (setA l)) := by
 have h := X1e l;simp only [X5m, Z1r, Z4C, h, Nat.le_refl, if_true];rw [List.take_of_length_le (by omega)]
theorem X4i (s : List UInt8) (hs : ∀ c ∈ s, c < 128) (hl : s.length <= 4611686018427387904) : PCall CX 111 [.str s] (· = .ret (.tup [.agg (setA s), .bool true])) := by
 have hd : ∀ l, (setA l).drop 256 = [] := fun l => List.drop_of_length_le (by simp [X1e])
 refine X1f 0 21 [.cell 2 131, .tmp 3] Tryz.func111 rfl (by decide) rfl rfl rfl ?_;refine X0d {} rfl (by simp only [X0A, go_sem]; rfl) fun K KP hK hP => ?_
 simp only [go_sem, ↓reduceIte];apply hK; clear hK hP;refine X1l ?_;refine X0d {} rfl rfl fun K KP hK hP => ?_
 simp only [go_sem, ↓reduceIte];apply hK; clear hK hP;refine X2H ?_;refine X7z (fun dd st => ∃ (i : Nat), (i <= s.length) /\ s.length - i = dd /\ [(0, .cells 131 (setA (s.take i)))] = st.σ /\ st.env 0 = .str s /\ st.env 2 = .ref 0 0 0 /\ st.env 4 = .int .i64 (i : Nat)) (fun dd st hJ => ?_) ?_
 ·
  obtain ⟨env0, σ0, nx0⟩ := st;obtain ⟨i, hp0_0, hd0, hs0, e0_0, e0_2, e0_4⟩ := hJ;dsimp only at hs0  e0_0 e0_2 e0_4;subst hd0; subst hs0;refine X93 1 rfl ?_;refine X1l ?_;refine X0d {} rfl rfl fun K KP hK hP => ?_
  simp only [go_sem, ↓reduceIte, e0_0, e0_2, e0_4];apply hK; clear hK hP;refine X2E (i < s.length) (by simp only [go_sem, ↓reduceIte, e0_0, e0_2, e0_4]) (fun h2 => ?_) (fun h2 => ?_)
  ·
   have hx : s[i]? = some s[i] := List.getElem?_eq_getElem h2;have hlt := hs _ (List.getElem_mem h2);have hln : ¬ (128 : Int) <= (s[i].toNat : Int) := by have : s[i].toNat < 128 := hlt; omega
   have hc := Z26 s[i];have hc' := Z6m s[i];have hw : IntKind.wrap .i64 ((i : Int) + 1) = ((i + 1 : Nat) : Int) := by rw [wrap64 (by omega) (by omega)]; omega
   have ht : setA (s.take i ++ [s[i]]) = setA (s.take (i + 1)) := by rw [List.take_succ_eq_append_getElem h2]
   refine X1z ?_;refine X0h.2 ?_;refine X1l ?_;refine X2H ?_;refine X0d {} rfl rfl fun K KP hK hP => ?_
   simp only [go_sem, ↓reduceIte, e0_0, e0_2, e0_4, hx, hln, hc, hc', hw];apply hK; clear hK hP;refine X1l ?_;refine X0d {} rfl rfl fun K KP hK hP => ?_
   simp only [go_sem, ↓reduceIte, e0_0, e0_2, e0_4, hx, hln, hc, hc', hw];apply hK; clear hK hP;refine X2E (False) (by simp only [go_sem, ↓reduceIte, e0_0, e0_2, e0_4, hx, hln, hc, hc', hw]) (fun h5 => ?_) (fun h5 => ?_)
   ·
    exact h5.elim
   
   refine X1z ?_;refine X0h.2 ?_;refine Y1t {} rfl rfl fun K KP hK hP => ?_
   simp only [go_sem, ↓reduceIte, e0_0, e0_2, e0_4, hx, hln, hc, hc', hw, Nat.mul_one, Z2j, ht, Nat.succ_le_of_lt hc'];apply hK; clear hK hP;refine X2f.2 ?_;refine X0h.2 ?_;refine Y1t {} rfl rfl fun K KP hK hP => ?_
   simp only [go_sem, ↓reduceIte, e0_0, e0_2, e0_4, hx, hln, hc, hc', hw];apply hK; clear hK hP;refine X5K ?_;refine X0h.2 ?_;refine ⟨_, ?_, i + 1, ?_, rfl, rfl, ?_, ?_, ?_⟩
   ·omega
   ·first | omega | trivial | assumption
   ·simp only [go_sem, ↓reduceIte, e0_0, e0_2, e0_4, hx, hln, hc, hc', hw] <;> try rfl
   ·simp only [go_sem, ↓reduceIte, e0_0, e0_2, e0_4, hx, hln, hc, hc', hw] <;> try rfl
   simp only [go_sem, ↓reduceIte, e0_0, e0_2, e0_4, hx, hln, hc, hc', hw] <;> try rfl
  
  refine X6r ?_;refine X04.2 ?_;refine X5K ?_;refine X04.2 ?_;refine X1W ?_;refine X0h.2 ?_;refine X0d {} rfl rfl fun K KP hK hP => ?_
  simp only [go_sem, ↓reduceIte, e0_0, e0_2, e0_4, Y0o, hd];apply hK; clear hK hP;refine X0X ?_
  simp only [go_sem, ↓reduceIte, e0_0, e0_2, e0_4, X0g, Y0o] <;> (
   have hi : i = s.length := by omega
   subst hi;simp only [List.take_length];refine ⟨?_, trivial⟩;refine (X7X _).2 fun x hx => ?_
   obtain ⟨c, _, rfl⟩ := List.mem_map.1 hx
   trivial)
 
 refine ⟨_, 0, ?_, rfl, ?_, ?_, ?_, ?_⟩
 ·first | omega | trivial | assumption
 ·simp only [List.take_zero, Z2i]
 ·simp only [go_sem, ↓reduceIte] <;> try rfl
 ·simp only [go_sem, ↓reduceIte] <;> try rfl
 simp only [go_sem, ↓reduceIte] <;> try rfl
def digitsL : List UInt8 := [48, 49, 50, 51, 52, 53, 54, 55, 56, 57]
def Z0D (s : List UInt8) : List UInt8 := (X00 (fun c => decide (c ∈ digitsL)) s s.length).dropWhile fun c => decide (c ∈ digitsL)
theorem Z0F (s : List UInt8) (hl : s.length <= 4611686018427387904) : PCall CX 75 [.str s, .str digitsL] (· = .ret (.str (Z0D s))) := by
 have hdl : ((digitsL.length : Nat) : Int) = 10 := rfl;have hne : digitsL ≠ [] := by decide
 refine X1f 0 43 [.tmp 4] Tryz.func75 rfl (by decide) rfl rfl rfl ?_;refine X0d {} rfl rfl fun K KP hK hP => ?_
 simp only [go_sem, ↓reduceIte];apply hK; clear hK hP;refine X1l ?_
 by_cases c1 : s = []
 ·
  refine X0d {} rfl rfl fun K KP hK hP => ?_
  simp only [go_sem, ↓reduceIte, c1, hne];apply hK; clear hK hP;refine X2E (True) (by simp only [go_sem, ↓reduceIte, c1]) (fun h1 => ?_) (fun h1 => ?_)
  ·
   refine X0d {} rfl rfl fun K KP hK hP => ?_
   simp only [go_sem, ↓reduceIte, c1];apply hK; clear hK hP;refine X0X ?_;refine X0g.2 ?_
   simp only [go_sem, ↓reduceIte, c1, X0g] <;> (
    simp [Z0D, X00, c1])
  
  exact absurd trivial h1
 
 refine X0d {} rfl rfl fun K KP hK hP => ?_
 simp only [go_sem, ↓reduceIte, c1, hne];apply hK; clear hK hP;refine X2E (False) (by simp only [go_sem, ↓reduceIte, c1]) (fun h1 => ?_) (fun h1 => ?_)
 ·
  exact h1.elim
  
 refine X1z ?_;refine X0h.2 ?_;refine X1l ?_;refine X0d {} rfl rfl fun K KP hK hP => ?_
 simp only [go_sem, ↓reduceIte, c1, hdl];apply hK; clear hK hP;refine X2E (False) (by simp only [go_sem, ↓reduceIte, c1]) (fun h3 => ?_) (fun h3 => ?_)
 ·
  exact h3.elim
   
 refine X1z ?_;refine X0h.2 ?_;refine X1l ?_;refine X0d {} rfl (by simp only [X0A, go_sem]; rfl) fun K KP hK hP => ?_
 simp only [go_sem, ↓reduceIte, c1];refine CallP.ret (X4i digitsL (by decide) (by decide)) (by simp only [go_sem]) ?_
 try simp only [go_sem, ↓reduceIte, c1]
 apply hK; clear hK hP;refine X0d {} rfl rfl fun K KP hK hP => ?_
 simp only [go_sem, ↓reduceIte, c1];apply hK; clear hK hP;refine X2E (True) (by simp only [go_sem, ↓reduceIte, c1]) (fun h6 => ?_) (fun h6 => ?_)
 ·
  refine X0d { ac := [36, 37] } rfl rfl fun K KP hK hP => ?_
  simp only [go_sem, ↓reduceIte, c1];refine CallP.acall (X2U _ _ 0 0 digitsL s rfl hl) ?_
  try simp only [go_sem, ↓reduceIte, c1]
  refine CallP.acall (X6a _ _ 0 0 digitsL _ rfl) ?_
  try simp only [go_sem, ↓reduceIte, c1]
  apply hK; clear hK hP;refine X0X ?_;refine X0g.2 ?_
  simp only [go_sem, ↓reduceIte, c1, X0g] <;> (
   rfl)
    
 exact absurd trivial h6
theorem dropWhile_nil (p : UInt8 -> Bool) : ∀ l : List UInt8, l.dropWhile p = [] ↔ ∀ c ∈ l, p c = true
 | [] => by simp
 | c :: l => by
  rw [List.dropWhile_cons];split
  ·rename_i h; rw [dropWhile_nil p l]; simp [h]
  rename_i h; simp [h]
theorem X6K (p : UInt8 -> Bool) (s : List UInt8) : ∀ i, i <= s.length -> ((X00 p s i).dropWhile p = [] ↔ ∀ c ∈ s.take i, p c = true)
 | 0, _ => by simp [X00]
 | i + 1, h => by
  have hx : s.getD i 0 = s[i] := by simp [show i < s.length by omega]
  simp only [X00, hx];rw [List.take_succ_eq_append_getElem (by omega)];split
  ·rename_i hp;rw [X6K p s i (by omega)];constructor
   ·intro h1 c hc;rcases List.mem_append.1 hc with hc | hc
    ·exact h1 c hc
    simp at hc; subst hc; exact hp
   intro h1 c hc; exact h1 c (List.mem_append.2 (.inl hc))
  rename_i hp;constructor
  ·intro h1;exact (dropWhile_nil p _).1 h1
  intro h1;exact absurd (h1 s[i] (List.mem_append.2 (.inr (by simp)))) hp
def X25 (c : UInt8) : Bool := decide (c ∈ digitsL)
theorem Z0E (s : List UInt8) : Z0D s = [] ↔ s.all X25 = true := by
 unfold Z0D;rw [X6K _ _ _ (Nat.le_refl _), List.take_length, List.all_eq_true];rfl
def X0a (s : List UInt8) : List UInt8 := if s.head? = some 45 then s.tail else s
def X0q (s : List UInt8) : Bool := decide (X0a s ≠ []) && (X0a s).all X25
theorem X8w (s : List UInt8) [Decidable ([45].length <= s.length /\ s.take [45].length = [45])] : (if [45].length <= s.length /\ s.take [45].length = [45] then s.drop [45].length else s) = X0a s := by
 unfold X0a;cases s with
 | nil => simp
 | cons c r => by_cases h : c = 45 <;> simp [h]
theorem X37 (s : List UInt8) : (X0a s).length <= s.length := by
 unfold X0a;split
 ·simp
 exact Nat.le_refl _
theorem Y3m (s : List UInt8) (hl : s.length <= 4611686018427387904) : PCall CX 94 [.str s] (· = .ret (.bool (X0q s))) := by
 have hcl := X37 s;refine X1f 0 12 [.tmp 2] Tryz.func94 rfl (by decide) rfl rfl rfl ?_;refine X0d {} rfl rfl fun K KP hK hP => ?_
 simp only [go_sem, ↓reduceIte];apply hK; clear hK hP;refine X0d {} rfl rfl fun K KP hK hP => ?_
 simp only [go_sem, ↓reduceIte];refine CallP.ret ((X4r s [45]).mono fun o h => h.trans (congrArg (fun x => AOut.ret (.str x)) (X8w s))) (by simp only [go_sem]) ?_
 try simp only [go_sem, ↓reduceIte]
 apply hK; clear hK hP
 by_cases c2 : X0a s = []
 ·
  refine X0d {} rfl rfl fun K KP hK hP => ?_
  simp only [go_sem, ↓reduceIte, c2];apply hK; clear hK hP;refine X0X ?_
  simp only [go_sem, ↓reduceIte, c2, X0g] <;> (
   simp [X0q, c2])
 
 refine X0d {} rfl rfl fun K KP hK hP => ?_
 simp only [go_sem, ↓reduceIte, c2];refine CallP.ret (Z0F (X0a s) (by omega)) (by simp only [go_sem]) ?_
 try simp only [go_sem, ↓reduceIte, c2]
 apply hK; clear hK hP;refine X0X ?_
 simp only [go_sem, ↓reduceIte, c2, X0g] <;> (
  have hb : decide (Z0D (X0a s) = []) = (X0a s).all X25 := by rw [Bool.eq_iff_iff, decide_eq_true_iff]; exact Z0E _
  rw [hb];simp [X0q, c2])
theorem X7i (s : List UInt8) (c : UInt8) : PCall CX 138 [.str s, .int .u8 c.toNat] (· = .ret (.int .i64 (Lib.indexByte s c))) := by
 intro kn w vs hk hr;obtain ⟨v, vs', rfl, h1, hr'⟩ := hr.uncons;obtain ⟨u, vs'', rfl, h2, hr''⟩ := hr'.uncons;have : vs'' = [] := List.eq_nil_of_length_eq_zero hr''.1.symm;subst this;cases h1;cases h2;refine .inr ⟨.int .i64 (Lib.indexByte s c), w, ?_, .ret (.int .i64 (Lib.indexByte s c)), kn, rfl, .int _ _, hk, Below.refl _ _, fun _ _ => rfl⟩;refine (run_callFunc_extern (P := CX.P) (e := Extern.BytealgIndexByte.indexByte) (fn := Tryz.f138) Tryz.func138 (by decide) rfl (by kernel_rfl) (by kernel_rfl) _ w).trans ?_;have h := Lib.run_indexByteString (P := CX.P) ⟨s.toArray⟩ c.toNat w;rw [show (#[Value.string ⟨s.toArray⟩, .int .u8 (c.toNat : Int)] : Array Value) = [Value.string ⟨s.toArray⟩, .int .u8 (c.toNat : Int)].toArray from rfl] at h;rw [h];simp [Result.andThen]
theorem X3N (s : List UInt8) (c : UInt8) : PCall CX 107 [.str s, .int .u8 c.toNat] (· = .ret (.int .i64 (Lib.indexByte s c))) := by
 refine X1f 0 8 [.tmp 4] Tryz.func107 rfl (by decide) rfl rfl rfl ?_;refine X0d {} rfl rfl fun K KP hK hP => ?_
 simp only [go_sem, ↓reduceIte];apply hK; clear hK hP;refine X0d {} rfl rfl fun K KP hK hP => ?_
 simp only [go_sem, ↓reduceIte];refine CallP.ret (X7i s c) (by simp only [go_sem]) ?_
 try simp only [go_sem, ↓reduceIte]
 apply hK; clear hK hP;refine X0X ?_;simp only [go_sem, ↓reduceIte, X0g]
theorem X44 (s : List UInt8) (c : UInt8) : PCall CX 73 [.str s, .int .u8 c.toNat] (· = .ret (.int .i64 (Lib.indexByte s c))) := by
 refine X1f 0 8 [.tmp 4] Tryz.func73 rfl (by decide) rfl rfl rfl ?_;refine X0d {} rfl rfl fun K KP hK hP => ?_
 simp only [go_sem, ↓reduceIte];apply hK; clear hK hP;refine X0d {} rfl rfl fun K KP hK hP => ?_
 simp only [go_sem, ↓reduceIte];refine CallP.ret (X3N s c) (by simp only [go_sem]) ?_
 try simp only [go_sem, ↓reduceIte]
 apply hK; clear hK hP;refine X0X ?_;simp only [go_sem, ↓reduceIte, X0g]
def X0P (c : UInt8) : Bool := decide (c.toNat < 33) || decide (126 < c.toNat) || decide (c ∈ ([40, 41, 34, 59] : List UInt8))
theorem X9B (c : UInt8) : (0 <= Lib.indexByte [40, 41, 34, 59] c) ↔ c ∈ ([40, 41, 34, 59] : List UInt8) := by
 revert c;have : ∀ n : Fin 256, (0 <= Lib.indexByte [40, 41, 34, 59] (UInt8.ofFin n)) ↔ (UInt8.ofFin n) ∈ ([40, 41, 34, 59] : List UInt8) := by decide +kernel
 exact fun c => this c.toFin
theorem Y3s (c : UInt8) : PCall CX 95 [.int .u8 c.toNat] (· = .ret (.bool (X0P c))) := by
 refine X1f 0 14 [.tmp 2] Tryz.func95 rfl (by decide) rfl rfl rfl ?_;refine X0d {} rfl rfl fun K KP hK hP => ?_
 simp only [go_sem, ↓reduceIte];apply hK; clear hK hP
 by_cases c1_0 : ((c.toNat : Nat) : Int) < 33
 ·
  refine X0d {} rfl rfl fun K KP hK hP => ?_
  simp only [go_sem, ↓reduceIte, c1_0];apply hK; clear hK hP;refine X0X ?_
  simp only [go_sem, ↓reduceIte, c1_0, X0g] <;> (
   have : c.toNat < 33 := by omega
   simp [X0P, this])
 
 by_cases c1_1 : 126 < ((c.toNat : Nat) : Int)
 ·
  refine X0d {} rfl rfl fun K KP hK hP => ?_
  simp only [go_sem, ↓reduceIte, c1_0, c1_1];apply hK; clear hK hP;refine X0X ?_
  simp only [go_sem, ↓reduceIte, c1_0, c1_1, X0g] <;> (
   have : 126 < c.toNat := by omega
   simp [X0P, this])
  
 refine X0d {} rfl rfl fun K KP hK hP => ?_
 simp only [go_sem, ↓reduceIte, c1_0, c1_1];refine CallP.ret (X44 _ c) (by simp only [go_sem]) ?_
 try simp only [go_sem, ↓reduceIte, c1_0, c1_1]
 apply hK; clear hK hP;refine X0X ?_
 simp only [go_sem, ↓reduceIte, c1_0, c1_1, X0g] <;> (
  have h1 : ¬ c.toNat < 33 := by omega
  have h2 : ¬ 126 < c.toNat := by omega
  have h3 : decide (0 <= Lib.indexByte [40, 41, 34, 59] c) = decide (c ∈ ([40, 41, 34, 59] : List UInt8)) := by rw [Bool.eq_iff_iff, decide_eq_true_iff, decide_eq_true_iff]; exact X9B c
  rw [h3];simp [X0P, h1, h2])
end Go.Ab
namespace Go.Ab
open Go Go.RowKit Go.Proofs
theorem uPB : Tryz.prog.underlying 45 = some (.pointer 48) := by kernel_rfl
theorem uUP : Tryz.prog.underlying 104 = some .unsafePointer := by kernel_rfl
theorem iB : ∃ j, Tryz.prog.info? 48 = some j /\ j.size = 2 := by
 have h : (Tryz.prog.info? 48).map (·.size) = some 2 := by kernel_rfl
 exact Option.map_eq_some_iff.1 h
set_option maxHeartbeats 1000000 in
set_option maxRecDepth 100000 in
theorem X40 (b : Nat) (w : World) (h0 : w.cell? ⟨b, 0, none⟩ = some (.pointer (some ⟨b, 0, none⟩))) :
  Calls Tryz.prog 51 #[.pointer (some ⟨b, 0, none⟩)] w fun e w' => e = .returned (.tuple #[]) /\ w' = w := by
 obtain ⟨j, hj, _⟩ := iB
 go_enter Tryz.func51, Tryz.ntmps51
 go_wp2
 rw [Lib.run_neq_ptr_same w _ uPB hj]
 go_wp2
 go_end0
 exact ⟨rfl, rfl⟩
set_option maxHeartbeats 1000000 in
set_option maxRecDepth 100000 in
theorem X8v (b : Nat) (w : World) (h0 : w.cell? ⟨b, 0, none⟩ = some (.pointer none)) (hsh : w.shape? b = some (48, 2)) (hfz : w.frozen? ⟨b, 0, none⟩ = false) :
  Calls Tryz.prog 51 #[.pointer (some ⟨b, 0, none⟩)] w fun e w' => e = .returned (.tuple #[]) /\ w' = w.setCell ⟨b, 0, none⟩ (.pointer (some ⟨b, 0, none⟩)) := by
 obtain ⟨j, hj, hjs⟩ := iB
 go_enter Tryz.func51, Tryz.ntmps51
 go_wp2
 rw [Lib.run_to_unsafe w ⟨b, 0, none⟩ uPB uUP hj (by rw [hjs]; decide) hsh (Nat.zero_lt_succ 1)];simp only [Result.andThen];rw [Oper.upon_value]
 go_wp2
 rw [run_callFunc_extern Tryz.func78 (by kernel_rfl) (by kernel_rfl) (by kernel_rfl) (e := Extern.AbiNoEscape.same) (by kernel_rfl)];rw [Lib.run_noEscape];simp only [Result.andThen];rw [Oper.upon_value]
 go_wp2
 rw [Lib.run_from_unsafe w ⟨b, 0, none⟩ uUP uPB hj hsh (by kernel_rfl)];simp only [Result.andThen];rw [Oper.upon_value]
 go_wp2
 go_end0
 exact ⟨rfl, rfl⟩
theorem Inv.nxup {C : Cx} {B : Base} {kn : Kn} {m : Mp} {σ : Sto} {nx nx' : Nat} {w : World} (h : Inv C B kn m σ nx w) (hn : nx <= nx') : Inv C B kn m σ nx' w :=
 ⟨h.knok, h.size, h.os, h.tape, h.output, h.old, h.obj, h.own, h.dist, fun n q => h.dom n (Nat.le_trans hn q), fun p nm ob e => Nat.lt_of_lt_of_le (h.lt p nm ob e) hn, h.uniq, h.stk1, h.glob, h.tab⟩
abbrev Z1w : List Sh := [.mref 0 0, .gs 1 (.int .u8)]
abbrev bldO (k : Bool) : X0r := [(k, .cells 48 Z1w), (k, .tg (.int .u8) 5)]
def X5a : Sig := .o ⟨bldO false, [.ref 0 0], bldO true, .tup [], fun x => some ((), ((true, (), ()), x.2.2.1, ()))⟩
theorem X4X : SigOK CX 51 X5a := by
 refine ⟨by kernel_rfl, fun x r hr B kn m w vs hI hlay hargs => ?_⟩;cases hr;obtain ⟨loc, hm⟩ := hlay 0 (by decide);obtain ⟨xa, ⟨⟨b0, u1, u2⟩, l, u3⟩⟩ := x;have hp : (osto 0 (bldO false) ((b0, u1, u2), l, u3))[0]? = some (0, .cells 48 [.mref 0 0 0 b0, .gs 1 1 (.int .u8) l.length]) := rfl;have hob := hI.obj _ _ _ hp;simp only [ObjRel, hm] at hob;obtain ⟨hnl, h0, arr, hw, hrl, hone⟩ := hob;obtain ⟨v0, vs0, ha0, hr0, hrl⟩ := hrl.uncons;obtain ⟨v1, vs1, rfl, hr1, hrl⟩ := hrl.uncons;have : vs1 = [] := List.eq_nil_of_length_eq_zero hrl.1.symm;subst this;have harr : arr = #[v0, v1] := by rw [<- Array.toArray_toList (xs := arr), ha0]
 subst harr;obtain ⟨a, as1, rfl, hra, hargs⟩ := RelL.uncons hargs;have : as1 = [] := List.eq_nil_of_length_eq_zero hargs.1.symm;subst this;have hra : Rel kn m (.ref 0 0 0) a := hra;cases hra with
 | ref _ _ _ loc' hm' =>
  rw [hm] at hm'; cases hm';rw [h0];refine .inl ⟨by kernel_rfl, ?_⟩
  have fin : ∀ w', w'.heap.size = w.heap.size -> w'.os = w.os -> w'.tape = w.tape -> w'.output = w.output -> (∀ b, b ≠ loc.blk -> w'.heap[b]? = w.heap[b]?) -> w'.heap[loc.blk]? = some (.cells #[.pointer (some ⟨loc.blk, 0, none⟩), v1] 48 (0, 0)) ->
    ∃ kn' m', KnLe kn kn' /\ Inv CX B kn' m' (osto 2 (bldO true) ((true, (), ()), l, ())) (2 + 2) w' /\ (∀ i, i < 2 -> m' i = m i) /\ (∀ j, j < 2 -> ∃ loc, m' (nameOf 2 j (bldO true)) = some loc) /\ RelOut kn' m' (.ret (.tup [])) (.returned (.tuple #[])) := fun w' q1 q2 q3 q4 q5 q6 => by
   obtain ⟨k1, k2⟩ := hI.write (ob' := .cells 48 [.mref 0 0 0 true, .gs 1 1 (.int .u8) l.length]) hp trivial hm hnl q1 q2 q3 q4 q5 (by
    simp only [ObjRel, hm];refine ⟨hnl, h0, _, q6, .cons ?_ (.cons hr1 (.nil _ _)), fun v hv => ?_⟩
    ·have := Rel.mrefSome (kn := kn) 0 0 0 loc hm;rw [h0] at this;exact this
    simp at hv;rcases hv with rfl | rfl
    ·rfl
    exact hone _ (by rw [ha0]; simp))
   refine ⟨kn, m, KnLe.refl _, k1.nxup (by show 0 + 2 <= 4; omega), fun _ _ => rfl, fun j hj => ?_, .tup [] #[] rfl (fun i x v e => by simp at e)⟩;have hj2 : nameOf 2 j (bldO true) = j := by
    match j, hj with
    | 0, _ => rfl
    | 1, _ => rfl
   rw [hj2];exact hlay j hj
  have hr0 : Rel kn m (.mref 0 0 0 b0) v0 := hr0;cases hr0 with
  | mrefSome _ _ _ loc' hm' =>
   rw [hm] at hm'; cases hm';rw [h0] at hw;refine (X40 loc.blk w (by rw [Lib.cell_of_heap hw]; rfl)).mono fun e w' ⟨he, hw'⟩ => ?_
   subst he; rw [hw'];exact fin w rfl rfl rfl rfl (fun _ _ => rfl) hw
  | mrefNil =>
   refine (X8v loc.blk w (by rw [Lib.cell_of_heap hw]; rfl) (by simp [World.shape?, hw]) (Lib.frozen_of_heap hw 0)).mono fun e w' ⟨he, hw'⟩ => ?_
   subst he; rw [hw'];exact fin _ (by simp [World.setCell]) rfl rfl rfl (fun b hb => Below.heap_setCell _ _ _ _ hb) (by simp [World.setCell, Array.getElem?_modify, hw])
theorem Y7v {P : Program} {e : TypeId} (hc : P.cellsOf e = 1) (count o n : Nat) (hn : o + n <= count) : liesAt P P.depth e count o e n = true := by
 have hd : P.depth = (2 * (P.types.size + Made.depth) + 1) + 1 := rfl;rw [hd];simp only [liesAt, Bool.or_eq_true];left;rw [hd];simp [rowAt, hc, hn, sameLayout, Nat.mod_one]
theorem X2e {P : Program} (w : World) (pt it ty e : TypeId) (hp : P.underlying pt = some (.pointer e)) (hc : P.cellsOf e = 1) (g o cells : Nat) (hsh : w.shape? g = some (e, cells)) (l : List UInt8) (h0 : l ≠ []) (hn : o + l.length <= cells) (h63 : l.length <= 9223372036854775807)
  (hcell : ∀ j x, l[j]? = some x -> w.cell? ((⟨g, o, none⟩ : Addr).add j) = some (.int .u8 x.toNat)) :
  (Builtin.unsafeString_ #[pt, it] ty #[.pointer (some ⟨g, o, none⟩), .int .i64 l.length]).run P w = .ok (.string ⟨l.toArray⟩) (w.freeze ⟨g, o, none⟩ l.length) := by
 have hl : l.length ≠ 0 := by simpa using h0
 have hlb := Lib.run_loadBytes (P := P) w l ⟨g, o, none⟩ .empty hcell;have hlies := Y7v (P := P) hc (cells / P.cellsOf e) o l.length (by rw [hc]; simpa using hn);have h63' : ¬ (9223372036854775807 : Int) < (l.length : Int) := by omega
 have hdef : Builtin.unsafeString_ #[pt, it] ty #[.pointer (some ⟨g, o, none⟩), .int .i64 l.length] =
   (do
    let n <- asInt (.int .i64 l.length)
    if n < 0 then runtimePanic (.error "unsafe.String: len out of range")
    if n > IntKind.i64.max then unsupported (.unsafePointer "String: a length above the largest int")
    if n = 0 then pure (.string .empty)
    else if <- variablesAt ⟨g, o, none⟩ (<- elemOf pt) n.toNat then do
     let s <- loadBytes ⟨g, o, none⟩ .empty n.toNat
     freeze ⟨g, o, none⟩ n.toNat
     pure (.string s)
    else unsupported (.unsafePointer "String: not so many bytes at ptr")) := rfl
 rw [hdef];have hmax : IntKind.i64.max = 9223372036854775807 := rfl;have hneg : ¬ (l.length : Int) < 0 := by omega
 simp [asInt, asIntOf, hmax, h63', hneg, hl, variablesAt, hsh, elemOf, run_underlying hp, hlies, hlb]
theorem uPU : Tryz.prog.underlying 81 = some (.pointer 5) := by kernel_rfl
theorem cU8 : Tryz.prog.cellsOf 5 = 1 := by kernel_rfl
abbrev Same (w w' : World) (g : Nat) : Prop := w.heap.size <= w'.heap.size /\ w'.os = w.os /\ w'.tape = w.tape /\ w'.output = w.output /\ ∀ b, b < w.heap.size -> b ≠ g -> w'.heap[b]? = w.heap[b]?
theorem X53 (w : World) (g : Nat) : Same w w.drew g := ⟨Nat.le_refl _, rfl, rfl, rfl, fun _ _ _ => rfl⟩
theorem X85 (w : World) (g o n : Nat) : Same w (w.drew.freeze ⟨g, o, none⟩ n) g := by
 obtain ⟨k1, k2, k3, k4, _⟩ := Lib.below_freeze (Below.drew (Below.refl g w)) (p := ⟨g, o, none⟩) (Nat.le_refl g) n;refine ⟨k4, k1, k2, k3, fun b hb hne => ?_⟩;unfold World.freeze;split
 ·rfl
 show (Array.modify _ _ _)[b]? = _;rw [Array.getElem?_modify, if_neg (fun e => hne e.symm)];rfl
theorem Y0E (w : World) (g : Nat) (ob : Obj) : Same w (w.drew.alloc ob) g := ⟨by simp, rfl, rfl, rfl, fun b hb _ => Below.heap_alloc _ _ _ hb⟩
theorem X5X : Tryz.prog.follows .mixedOrders = true := by kernel_rfl
set_option maxHeartbeats 2000000 in
set_option maxRecDepth 100000 in
theorem Y7V (b g o cap : Nat) (cur : Array Value) (w : World) (l : List UInt8) (p : Value) (h0 : l ≠ []) (hbk : w.heap[b]? = some (.cells #[p, .slice (some ⟨g, o, none⟩) l.length cap] 48 (0, 0)))
  (hg : w.heap[g]? = some (.cells cur 5 (0, 0))) (hnc : l.length <= cap) (hcs : o + cap <= cur.size) (hcm : cap <= maxLen) (hcell : ∀ j x, l[j]? = some x -> w.cell? ((⟨g, o, none⟩ : Addr).add j) = some (.int .u8 x.toNat)) :
  Calls Tryz.prog 26 #[.pointer (some ⟨b, 0, none⟩)] w fun e w' => e = .returned (.string ⟨l.toArray⟩) /\ Same w w' g := by
 have hl0 : l.length ≠ 0 := by simpa using h0
 have mixed := X5X;have c1 : w.drew.cell? ⟨b, 1, none⟩ = some (.slice (some ⟨g, o, none⟩) l.length cap) := by
  have : w.drew.heap[b]? = some (.cells #[p, .slice (some ⟨g, o, none⟩) l.length cap] 48 (0, 0)) := hbk;rw [Lib.cell_of_heap this]; rfl
 have c0 : w.cell? ⟨b, 1, none⟩ = some (.slice (some ⟨g, o, none⟩) l.length cap) := c1
 have hSD : (Builtin.unsafeSliceData_ #[46] 81 #[.slice (some ⟨g, o, none⟩) l.length cap]).run Tryz.prog w.drew = .ok (.pointer (some ⟨g, o, none⟩)) w.drew :=
  Lib.run_unsafeSliceData_row _ _ _ _ _ _ (by omega)
 have hUS : (Builtin.unsafeString_ #[81, 3] 9 #[.pointer (some ⟨g, o, none⟩), .int .i64 l.length]).run Tryz.prog w.drew = .ok (.string ⟨l.toArray⟩) (w.drew.freeze ⟨g, o, none⟩ l.length) := by
  refine X2e w.drew 81 3 9 5 uPU cU8 g o cur.size (by have hg' : w.drew.heap[g]? = some (.cells cur 5 (0, 0)) := hg; simp [World.shape?, hg']) l h0 (by omega) (by unfold maxLen at hcm; omega) hcell
 have hfin := X85 w g o l.length
 go_enter Tryz.func26, Tryz.ntmps26
 go_wp2
 go_region_o
 all_goals (go_wp2; go_ret; exact ⟨rfl, hfin⟩)
set_option maxHeartbeats 2000000 in
set_option maxRecDepth 100000 in
theorem Y7U (b g : Nat) (w : World) (p : Value) (hbk : w.heap[b]? = some (.cells #[p, .slice none 0 0] 48 (0, 0))) :
  Calls Tryz.prog 26 #[.pointer (some ⟨b, 0, none⟩)] w fun e w' => e = .returned (.string ⟨#[]⟩) /\ Same w w' g := by
 have mixed := X5X;have c1 : w.drew.cell? ⟨b, 1, none⟩ = some (.slice none 0 0) := by
  have : w.drew.heap[b]? = some (.cells #[p, .slice none 0 0] 48 (0, 0)) := hbk;rw [Lib.cell_of_heap this]; rfl
 have c0 : w.cell? ⟨b, 1, none⟩ = some (.slice none 0 0) := c1;have hSD : (Builtin.unsafeSliceData_ #[46] 81 #[.slice none 0 0]).run Tryz.prog w.drew = .ok (.pointer none) w.drew := rfl;have hUS : (Builtin.unsafeString_ #[81, 3] 9 #[.pointer none, .int .i64 0]).run Tryz.prog w.drew = .ok (.string ⟨#[]⟩) w.drew := Lib.run_unsafeString_none w.drew _ _ _ none;have hfin := X53 w g
 go_enter Tryz.func26, Tryz.ntmps26
 go_wp2
 go_region_o
 all_goals (go_wp2; go_ret; exact ⟨rfl, hfin⟩)
set_option maxHeartbeats 2000000 in
set_option maxRecDepth 100000 in
theorem Y5B (b g g' o cap : Nat) (w : World) (p : Value) (hc : cap ≠ 0) (hbk : w.heap[b]? = some (.cells #[p, .slice (some ⟨g', o, none⟩) 0 cap] 48 (0, 0))) :
  Calls Tryz.prog 26 #[.pointer (some ⟨b, 0, none⟩)] w fun e w' => e = .returned (.string ⟨#[]⟩) /\ Same w w' g := by
 have mixed := X5X;have c1 : w.drew.cell? ⟨b, 1, none⟩ = some (.slice (some ⟨g', o, none⟩) 0 cap) := by
  have : w.drew.heap[b]? = some (.cells #[p, .slice (some ⟨g', o, none⟩) 0 cap] 48 (0, 0)) := hbk;rw [Lib.cell_of_heap this]; rfl
 have c0 : w.cell? ⟨b, 1, none⟩ = some (.slice (some ⟨g', o, none⟩) 0 cap) := c1
 have hSD : (Builtin.unsafeSliceData_ #[46] 81 #[.slice (some ⟨g', o, none⟩) 0 cap]).run Tryz.prog w.drew = .ok (.pointer (some ⟨g', o, none⟩)) w.drew :=
  Lib.run_unsafeSliceData_row _ _ _ _ _ _ hc
 have hUS : (Builtin.unsafeString_ #[81, 3] 9 #[.pointer (some ⟨g', o, none⟩), .int .i64 0]).run Tryz.prog w.drew = .ok (.string ⟨#[]⟩) w.drew := Lib.run_unsafeString_none w.drew _ _ _ _;have hfin := X53 w g
 go_enter Tryz.func26, Tryz.ntmps26
 go_wp2
 go_region_o
 all_goals (go_wp2; go_ret; exact ⟨rfl, hfin⟩)
set_option maxHeartbeats 2000000 in
set_option maxRecDepth 100000 in
theorem Y1Z (b g g' o : Nat) (cur : Array Value) (w : World) (p : Value) (hbk : w.heap[b]? = some (.cells #[p, .slice (some ⟨g', o, none⟩) 0 0] 48 (0, 0))) (hg : w.heap[g']? = some (.cells cur 5 (0, 0))) :
  Calls Tryz.prog 26 #[.pointer (some ⟨b, 0, none⟩)] w fun e w' => e = .returned (.string ⟨#[]⟩) /\ Same w w' g := by
 have mixed := X5X;have hlt : b < w.heap.size := by
  rcases Nat.lt_or_ge b w.heap.size with h' | h'
  ·exact h'
  simp [Array.getElem?_eq_none h'] at hbk
 have c1 : w.drew.cell? ⟨b, 1, none⟩ = some (.slice (some ⟨g', o, none⟩) 0 0) := by
  have : w.drew.heap[b]? = some (.cells #[p, .slice (some ⟨g', o, none⟩) 0 0] 48 (0, 0)) := hbk;rw [Lib.cell_of_heap this]; rfl
 have hSD : (Builtin.unsafeSliceData_ #[46] 81 #[.slice (some ⟨g', o, none⟩) 0 0]).run Tryz.prog w.drew = .ok (.pointer (some ⟨w.drew.heap.size, 0, none⟩)) (w.drew.alloc (.view ⟨g', o, none⟩ 5)) :=
  Lib.run_unsafeSliceData_zero w.drew _ _ 5 uPU ⟨g', o, none⟩ 0 (5, cur.size) (by have hg' : w.drew.heap[g']? = some (.cells cur 5 (0, 0)) := hg; simp [World.shape?, hg'])
 have c2 : (w.drew.alloc (.view ⟨g', o, none⟩ 5)).cell? ⟨b, 1, none⟩ = some (.slice (some ⟨g', o, none⟩) 0 0) := by
  have : (w.drew.alloc (.view ⟨g', o, none⟩ 5)).heap[b]? = _ := (Lib.alloc_old w.drew _ b hlt).trans hbk;rw [Lib.cell_of_heap this]; rfl
 have c3 : (w.alloc (.view ⟨g', o, none⟩ 5)).drew.cell? ⟨b, 1, none⟩ = some (.slice (some ⟨g', o, none⟩) 0 0) := c2;have c0 : w.cell? ⟨b, 1, none⟩ = some (.slice (some ⟨g', o, none⟩) 0 0) := c1;have hUS : ∀ (W : World) (q : Option Addr), (Builtin.unsafeString_ #[81, 3] 9 #[.pointer q, .int .i64 0]).run Tryz.prog W = .ok (.string ⟨#[]⟩) W := fun W q => Lib.run_unsafeString_none W _ _ _ q
 have hfin := Y0E w g (.view ⟨g', o, none⟩ 5)
 go_enter Tryz.func26, Tryz.ntmps26
 go_wp2
 go_region_o
 all_goals (go_wp2; go_ret; exact ⟨rfl, hfin⟩)
end Go.Ab
namespace Go.Ab
open Go Go.RowKit Go.Proofs
theorem Inv.forget {C : Cx} {B : Base} {kn : Kn} {m : Mp} {σ : Sto} {nx nx' : Nat} {w w' : World} {g : Nat} (h : Inv C B kn m σ nx w) (hs : Same w w' g) (hn : nx <= nx') (hg : (B.w.heap.size <= g \/ B.own g) /\ ∀ o, kn g o = none) : Inv C B kn m [] nx' w' := by
 obtain ⟨h1, h2, h3, h4, h5⟩ := hs;refine ⟨fun b o v e => ?_, Nat.le_trans h.size h1, h2.trans h.os, h3.trans h.tape, h4.trans h.output, fun b hb hob => ?_, fun p nm ob e => by simp at e, fun p nm ob loc e => by simp at e, fun p nm ob loc p' nm' ob' loc' e => by simp at e, fun n q => h.dom n (Nat.le_trans hn q), fun p nm ob e => by simp at e, fun p p' nm ob ob' e => by simp at e, fun p p' nm nm' ob ob' e => by simp at e, h.glob, h.tab⟩
 ·have hlt := h.kn_lt e;have hne : b ≠ g := fun q => by rw [q, hg.2 o] at e; cases e
  have := h.knok b o v e;unfold World.cell? at this ⊢;rw [h5 b hlt hne]; exact this
 have hlt := Nat.lt_of_lt_of_le hb h.size;have hne : b ≠ g := fun q => by
  subst q;rcases hg.1 with q | q
  ·omega
  exact hob q
 exact ⟨(h5 b hlt hne).trans (h.old b hb hob).1, (h.old b hb hob).2⟩
theorem addr_add (g o j : Nat) : (⟨g, o, none⟩ : Addr).add j = ⟨g, o + j, none⟩ := by
 unfold Addr.add
 by_cases h : j = 0
 ·subst h; simp
 simp [h]
def bytesOf (l : List Int) : Option (List UInt8) := if (l.all fun n => decide (0 <= n /\ n < 256)) = true then some (l.map fun n => UInt8.ofNat n.toNat) else none
def X7w : Sig := .o ⟨bldO false, [.ref 0 0], [], .d .str, fun x => (bytesOf x.2.2.1).map fun s => (s, ())⟩
theorem X6E (l : List Int) {j : Nat} {n : Int} (h : l[j]? = some n) : (List.map (E.row (.int .u8)) l)[j]? = some [.int .u8 n] :=
 show (List.map (fun n : Int => [AV.int .u8 n]) l)[j]? = _ from by rw [List.getElem?_map, h]; rfl
theorem X6F (l : List Int) : (List.map (E.row (.int .u8)) l).length = l.length := List.length_map ..
theorem Y5A (b0 : Bool) (l : List Int) (r : List UInt8) (hr : bytesOf l = some r) (B : Base) (kn : Kn) (m : Mp) (w : World) (vs : List Value) (hI : Inv CX B kn m (osto 0 (bldO false) ((b0, (), ()), l, ())) 2 w)
  (hlay : ∀ i, i < 2 -> ∃ loc, m i = some loc) (hargs : RelL kn m [.ref 0 0 0] vs) : Does CX.P 26 vs.toArray w fun e w' => ∃ kn' m', KnLe kn kn' /\ Inv CX B kn' m' [] 2 w' /\ (∀ i, i < 2 -> m' i = m i) /\ RelOut kn' m' (.ret (.str r)) e := by
 obtain ⟨loc, hm⟩ := hlay 0 (by decide);obtain ⟨loc1, hm1⟩ := hlay 1 (by decide);have hp : (osto 0 (bldO false) ((b0, (), ()), l, ()))[0]? = some (0, .cells 48 [.mref 0 0 0 b0, .gs 1 1 (.int .u8) l.length]) := rfl;have hp1 : (osto 0 (bldO false) ((b0, (), ()), l, ()))[1]? = some (1, .tg (.int .u8) 5 l) := rfl;have hob := hI.obj _ _ _ hp;have hob1 := hI.obj _ _ _ hp1;simp only [ObjRel, hm] at hob;obtain ⟨hnl, h0, arr, hw, hrl, hone⟩ := hob;obtain ⟨v0, vs0, ha0, hr0, hrl⟩ := hrl.uncons;obtain ⟨v1, vs1, rfl, hr1, hrl⟩ := hrl.uncons;have : vs1 = [] := List.eq_nil_of_length_eq_zero hrl.1.symm;subst this;have harr : arr = #[v0, v1] := by rw [<- Array.toArray_toList (xs := arr), ha0]
 subst harr;obtain ⟨a, as1, rfl, hra, hargs⟩ := RelL.uncons hargs;have : as1 = [] := List.eq_nil_of_length_eq_zero hargs.1.symm;subst this;have hra : Rel kn m (.ref 0 0 0) a := hra;obtain ⟨q1, q2, q3⟩ := hI.own 0 0 _ loc hp trivial hm hnl;unfold bytesOf at hr;split at hr
 ·rename_i hall;cases hr;cases hra with
  | ref _ _ _ loc' hm' =>
   rw [hm] at hm'; cases hm';rw [h0];refine .inl ⟨by kernel_rfl, ?_⟩
   have fin : ∀ (g : Nat) (w' : World), Same w w' g -> ((B.w.heap.size <= g \/ B.own g) /\ ∀ o, kn g o = none) ->
     ∃ kn' m', KnLe kn kn' /\ Inv CX B kn' m' [] 2 w' /\ (∀ i, i < 2 -> m' i = m i) /\ RelOut kn' m' (.ret (.str (l.map fun n => UInt8.ofNat n.toNat))) (.returned (.string ⟨(l.map fun n => UInt8.ofNat n.toNat).toArray⟩)) := fun g w' hs hg =>
    ⟨kn, m, KnLe.refl _, hI.forget hs (Nat.le_refl _) hg, fun _ _ => rfl, .str _⟩
   have hgv : GvRel kn m w 1 1 5 (l.map (E.row (.int .u8))) := hob1;obtain ⟨locx, hx, hlen, hgv⟩ := hgv;rw [hm1] at hx; cases hx;have hr1 : Rel kn m (.gs 1 1 (.int .u8) l.length) v1 := hr1;cases hr1 with
   | gs _ _ _ _ _ locy hy hly hsl =>
    rw [hm1] at hy; cases hy;have hsl : Rel kn m (.sref 1 1 1 0 l.length) v1 := hsl;generalize hn : l.length = n at hsl;cases hsl with
    | srefNil _ _ _ locz hz hznil =>
     have hl : l = [] := List.eq_nil_of_length_eq_zero hn;subst hl;exact (Y7U loc.blk loc.blk w v0 hw).mono fun e w' ⟨he, hs⟩ => (by subst he; exact fin loc.blk w' hs ⟨q2, q3 rfl⟩)
    | sref _ _ _ _ _ locz hz hznil hze hzl hzm =>
     rw [hm1] at hz; cases hz;rcases hgv with ⟨hnil, _⟩ | ⟨_, hesz, arr1, hw1, hsz, hcap, hmax, hone1, hrow, hrel⟩
     ·rw [hnil] at hznil; cases hznil
     obtain ⟨p1, p2, p3⟩ := hI.own 1 1 _ loc1 hp1 trivial hm1 hznil;have hze : loc1.esz = 1 := hze;simp only [Nat.zero_mul, Nat.add_zero, Nat.sub_zero] at hw ⊢
     by_cases hl0 : l = []
     ·subst hl0;have hn0 : n = 0 := hn.symm;subst hn0
      by_cases hc0 : loc1.cap = 0
      ·rw [hc0] at hw;exact (Y1Z loc.blk loc1.blk loc1.blk loc1.off arr1 w v0 hw hw1).mono fun e w' ⟨he, hs⟩ => (by subst he; exact fin loc1.blk w' hs ⟨p2, p3 rfl⟩)
      exact (Y5B loc.blk loc1.blk loc1.blk loc1.off loc1.cap w v0 hc0 hw).mono fun e w' ⟨he, hs⟩ => (by subst he; exact fin loc1.blk w' hs ⟨p2, p3 rfl⟩)
     have hll : (l.map fun n => UInt8.ofNat n.toNat).length = n := by rw [List.length_map]; exact hn
     subst hn;rw [<- hll] at hw;have hcap' : l.length <= loc1.cap := (X6F l) ▸ hcap;refine (Y7V loc.blk loc1.blk loc1.off loc1.cap arr1 w (l.map fun n => UInt8.ofNat n.toNat) v0 (by simpa using hl0) hw hw1 (by simpa using hcap') (by omega) hmax (fun j x hx => ?_)).mono fun e w' ⟨he, hs⟩ => (by subst he; exact fin loc1.blk w' hs ⟨p2, p3 rfl⟩)
     rw [List.getElem?_map] at hx;cases hlj : l[j]? with
     | none => rw [hlj] at hx; cases hx
     | some n =>
      rw [hlj] at hx;simp only [Option.map_some, Option.some.injEq] at hx;have hj := (List.getElem?_eq_some_iff.1 hlj).1;have hnb : 0 <= n /\ n < 256 := by
       have := List.all_eq_true.1 hall n (List.mem_of_getElem? hlj);simpa using this
      have hin : loc1.off + j < arr1.size := by omega
      have hrv := hrel j [.int .u8 n] 0 (.int .u8 n) arr1[loc1.off + j] (X6E l hlj) rfl (by
       rw [Nat.mul_one, Nat.add_zero];exact Array.getElem?_eq_getElem hin)
      rw [addr_add];rw [Lib.cell_of_heap hw1, Array.getElem?_eq_getElem hin];generalize arr1[loc1.off + j] = u at hrv;cases hrv;rw [<- hx];have : ((UInt8.ofNat n.toNat).toNat : Int) = n := by
       have e : n.toNat < 2 ^ 8 := by omega
       rw [UInt8.toNat_ofNat_of_lt' e]; omega
      rw [this]
 cases hr
theorem X5e : SigOK CX 26 X7w := by
 refine ⟨by kernel_rfl, fun x r hr B kn m w vs hI hlay hargs => ?_⟩;have hr : (bytesOf x.2.2.1).map (fun s => (s, ())) = some r := hr;obtain ⟨s, hs, rfl⟩ := Option.map_eq_some_iff.1 hr;exact (Y5A x.2.1.1 x.2.2.1 s hs B kn m w vs hI hlay hargs).mono fun e w' ⟨kn', m', h1, h2, h3, h4⟩ => ⟨kn', m', h1, h2, h3, fun j hj => absurd hj (by show ¬ j < 0; omega), h4⟩
end Go.Ab
namespace Go.Ab
open Go Go.RowKit Go.Proofs
set_option maxHeartbeats 1000000 in
set_option maxRecDepth 100000 in
theorem X7f (b : Nat) (w : World) (h0 : w.cell? ⟨b, 0, none⟩ = some (.pointer none)) (hsh : w.shape? b = some (50, 3)) (hfz : w.frozen? ⟨b, 0, none⟩ = false) :
  Calls Tryz.prog 51 #[.pointer (some ⟨b, 0, none⟩)] w fun e w' => e = .returned (.tuple #[]) /\ w' = w.setCell ⟨b, 0, none⟩ (.pointer (some ⟨b, 0, none⟩)) := by
 obtain ⟨j, hj, hjs⟩ := iB
 go_enter Tryz.func51, Tryz.ntmps51
 go_wp2
 rw [Lib.run_to_unsafe w ⟨b, 0, none⟩ uPB uUP hj (by rw [hjs]; decide) hsh (Nat.zero_lt_succ 2)];simp only [Result.andThen];rw [Oper.upon_value]
 go_wp2
 rw [run_callFunc_extern Tryz.func78 (by kernel_rfl) (by kernel_rfl) (by kernel_rfl) (e := Extern.AbiNoEscape.same) (by kernel_rfl)];rw [Lib.run_noEscape];simp only [Result.andThen];rw [Oper.upon_value]
 go_wp2
 rw [Lib.run_from_unsafe w ⟨b, 0, none⟩ uUP uPB hj hsh (by kernel_rfl)];simp only [Result.andThen];rw [Oper.upon_value]
 go_wp2
 go_end0
 exact ⟨rfl, rfl⟩
abbrev Y9s : List Sh := [.mref 0 0, .gs 1 (.int .u8), .d (.int .i64)]
abbrev X9z (k : Bool) : X0r := [(k, .cells 50 Y9s), (k, .tg (.int .u8) 5)]
def X3Z : Sig := .o ⟨X9z false, [.ref 0 0], X9z true, .tup [], fun x => some ((), ((true, (), x.2.1.2.2.1, ()), x.2.2.1, ()))⟩
theorem X30 : SigOK CX 51 X3Z := by
 refine ⟨by kernel_rfl, fun x r hr B kn m w vs hI hlay hargs => ?_⟩;cases hr;obtain ⟨loc, hm⟩ := hlay 0 (by decide);obtain ⟨xa, ⟨⟨b0, u1, n0, u2⟩, l, u3⟩⟩ := x;have hp : (osto 0 (X9z false) ((b0, u1, n0, u2), l, u3))[0]? = some (0, .cells 50 [.mref 0 0 0 b0, .gs 1 1 (.int .u8) l.length, .int .i64 n0]) := rfl;have hob := hI.obj _ _ _ hp;simp only [ObjRel, hm] at hob;obtain ⟨hnl, h0, arr, hw, hrl, hone⟩ := hob;obtain ⟨v0, vs0, ha0, hr0, hrl⟩ := hrl.uncons;obtain ⟨v1, vs1, rfl, hr1, hrl⟩ := hrl.uncons;obtain ⟨v2, vs2, rfl, hr2, hrl⟩ := hrl.uncons;have : vs2 = [] := List.eq_nil_of_length_eq_zero hrl.1.symm;subst this;have harr : arr = #[v0, v1, v2] := by rw [<- Array.toArray_toList (xs := arr), ha0]
 subst harr;obtain ⟨a, as1, rfl, hra, hargs⟩ := RelL.uncons hargs;have : as1 = [] := List.eq_nil_of_length_eq_zero hargs.1.symm;subst this;have hra : Rel kn m (.ref 0 0 0) a := hra;cases hra with
 | ref _ _ _ loc' hm' =>
  rw [hm] at hm'; cases hm';rw [h0];refine .inl ⟨by kernel_rfl, ?_⟩
  have fin : ∀ w', w'.heap.size = w.heap.size -> w'.os = w.os -> w'.tape = w.tape -> w'.output = w.output -> (∀ b, b ≠ loc.blk -> w'.heap[b]? = w.heap[b]?) -> w'.heap[loc.blk]? = some (.cells #[.pointer (some ⟨loc.blk, 0, none⟩), v1, v2] 50 (0, 0)) ->
    ∃ kn' m', KnLe kn kn' /\ Inv CX B kn' m' (osto 2 (X9z true) ((true, (), n0, ()), l, ())) (2 + 2) w' /\ (∀ i, i < 2 -> m' i = m i) /\ (∀ j, j < 2 -> ∃ loc, m' (nameOf 2 j (X9z true)) = some loc) /\ RelOut kn' m' (.ret (.tup [])) (.returned (.tuple #[])) := fun w' q1 q2 q3 q4 q5 q6 => by
   obtain ⟨k1, k2⟩ := hI.write (ob' := .cells 50 [.mref 0 0 0 true, .gs 1 1 (.int .u8) l.length, .int .i64 n0]) hp trivial hm hnl q1 q2 q3 q4 q5 (by
    simp only [ObjRel, hm];refine ⟨hnl, h0, _, q6, .cons ?_ (.cons hr1 (.cons hr2 (.nil _ _))), fun v hv => ?_⟩
    ·have := Rel.mrefSome (kn := kn) 0 0 0 loc hm;rw [h0] at this;exact this
    simp at hv;rcases hv with rfl | rfl | rfl
    ·rfl
    ·exact hone _ (by rw [ha0]; simp)
    exact hone _ (by rw [ha0]; simp))
   refine ⟨kn, m, KnLe.refl _, k1.nxup (by show 0 + 2 <= 4; omega), fun _ _ => rfl, fun j hj => ?_, .tup [] #[] rfl (fun i x v e => by simp at e)⟩;have hj2 : nameOf 2 j (X9z true) = j := by
    match j, hj with
    | 0, _ => rfl
    | 1, _ => rfl
   rw [hj2];exact hlay j hj
  have hr0 : Rel kn m (.mref 0 0 0 b0) v0 := hr0;cases hr0 with
  | mrefSome _ _ _ loc' hm' =>
   rw [hm] at hm'; cases hm';rw [h0] at hw;refine (X40 loc.blk w (by rw [Lib.cell_of_heap hw]; rfl)).mono fun e w' ⟨he, hw'⟩ => ?_
   subst he; rw [hw'];exact fin w rfl rfl rfl rfl (fun _ _ => rfl) hw
  | mrefNil =>
   refine (X7f loc.blk w (by rw [Lib.cell_of_heap hw]; rfl) (by simp [World.shape?, hw]) (Lib.frozen_of_heap hw 0)).mono fun e w' ⟨he, hw'⟩ => ?_
   subst he; rw [hw'];exact fin _ (by simp [World.setCell]) rfl rfl rfl (fun b hb => Below.heap_setCell _ _ _ _ hb) (by simp [World.setCell, Array.getElem?_modify, hw])
set_option maxHeartbeats 2000000 in
set_option maxRecDepth 100000 in
theorem Y5C (b g o cap : Nat) (cur : Array Value) (w : World) (l : List UInt8) (p z : Value) (h0 : l ≠ []) (hbk : w.heap[b]? = some (.cells #[p, .slice (some ⟨g, o, none⟩) l.length cap, z] 50 (0, 0)))
  (hg : w.heap[g]? = some (.cells cur 5 (0, 0))) (hnc : l.length <= cap) (hcs : o + cap <= cur.size) (hcm : cap <= maxLen) (hcell : ∀ j x, l[j]? = some x -> w.cell? ((⟨g, o, none⟩ : Addr).add j) = some (.int .u8 x.toNat)) :
  Calls Tryz.prog 26 #[.pointer (some ⟨b, 0, none⟩)] w fun e w' => e = .returned (.string ⟨l.toArray⟩) /\ Same w w' g := by
 have hl0 : l.length ≠ 0 := by simpa using h0
 have mixed := X5X;have c1 : w.drew.cell? ⟨b, 1, none⟩ = some (.slice (some ⟨g, o, none⟩) l.length cap) := by
  have : w.drew.heap[b]? = some (.cells #[p, .slice (some ⟨g, o, none⟩) l.length cap, z] 50 (0, 0)) := hbk;rw [Lib.cell_of_heap this]; rfl
 have c0 : w.cell? ⟨b, 1, none⟩ = some (.slice (some ⟨g, o, none⟩) l.length cap) := c1
 have hSD : (Builtin.unsafeSliceData_ #[46] 81 #[.slice (some ⟨g, o, none⟩) l.length cap]).run Tryz.prog w.drew = .ok (.pointer (some ⟨g, o, none⟩)) w.drew :=
  Lib.run_unsafeSliceData_row _ _ _ _ _ _ (by omega)
 have hUS : (Builtin.unsafeString_ #[81, 3] 9 #[.pointer (some ⟨g, o, none⟩), .int .i64 l.length]).run Tryz.prog w.drew = .ok (.string ⟨l.toArray⟩) (w.drew.freeze ⟨g, o, none⟩ l.length) := by
  refine X2e w.drew 81 3 9 5 uPU cU8 g o cur.size (by have hg' : w.drew.heap[g]? = some (.cells cur 5 (0, 0)) := hg; simp [World.shape?, hg']) l h0 (by omega) (by unfold maxLen at hcm; omega) hcell
 have hfin := X85 w g o l.length
 go_enter Tryz.func26, Tryz.ntmps26
 go_wp2
 go_region_o
 all_goals (go_wp2; go_ret; exact ⟨rfl, hfin⟩)
set_option maxHeartbeats 2000000 in
set_option maxRecDepth 100000 in
theorem Y5z (b g : Nat) (w : World) (p z : Value) (hbk : w.heap[b]? = some (.cells #[p, .slice none 0 0, z] 50 (0, 0))) :
  Calls Tryz.prog 26 #[.pointer (some ⟨b, 0, none⟩)] w fun e w' => e = .returned (.string ⟨#[]⟩) /\ Same w w' g := by
 have mixed := X5X;have c1 : w.drew.cell? ⟨b, 1, none⟩ = some (.slice none 0 0) := by
  have : w.drew.heap[b]? = some (.cells #[p, .slice none 0 0, z] 50 (0, 0)) := hbk;rw [Lib.cell_of_heap this]; rfl
 have c0 : w.cell? ⟨b, 1, none⟩ = some (.slice none 0 0) := c1;have hSD : (Builtin.unsafeSliceData_ #[46] 81 #[.slice none 0 0]).run Tryz.prog w.drew = .ok (.pointer none) w.drew := rfl;have hUS : (Builtin.unsafeString_ #[81, 3] 9 #[.pointer none, .int .i64 0]).run Tryz.prog w.drew = .ok (.string ⟨#[]⟩) w.drew := Lib.run_unsafeString_none w.drew _ _ _ none;have hfin := X53 w g
 go_enter Tryz.func26, Tryz.ntmps26
 go_wp2
 go_region_o
 all_goals (go_wp2; go_ret; exact ⟨rfl, hfin⟩)
set_option maxHeartbeats 2000000 in
set_option maxRecDepth 100000 in
theorem Y3W (b g g' o cap : Nat) (w : World) (p z : Value) (hc : cap ≠ 0) (hbk : w.heap[b]? = some (.cells #[p, .slice (some ⟨g', o, none⟩) 0 cap, z] 50 (0, 0))) :
  Calls Tryz.prog 26 #[.pointer (some ⟨b, 0, none⟩)] w fun e w' => e = .returned (.string ⟨#[]⟩) /\ Same w w' g := by
 have mixed := X5X;have c1 : w.drew.cell? ⟨b, 1, none⟩ = some (.slice (some ⟨g', o, none⟩) 0 cap) := by
  have : w.drew.heap[b]? = some (.cells #[p, .slice (some ⟨g', o, none⟩) 0 cap, z] 50 (0, 0)) := hbk;rw [Lib.cell_of_heap this]; rfl
 have c0 : w.cell? ⟨b, 1, none⟩ = some (.slice (some ⟨g', o, none⟩) 0 cap) := c1
 have hSD : (Builtin.unsafeSliceData_ #[46] 81 #[.slice (some ⟨g', o, none⟩) 0 cap]).run Tryz.prog w.drew = .ok (.pointer (some ⟨g', o, none⟩)) w.drew :=
  Lib.run_unsafeSliceData_row _ _ _ _ _ _ hc
 have hUS : (Builtin.unsafeString_ #[81, 3] 9 #[.pointer (some ⟨g', o, none⟩), .int .i64 0]).run Tryz.prog w.drew = .ok (.string ⟨#[]⟩) w.drew := Lib.run_unsafeString_none w.drew _ _ _ _;have hfin := X53 w g
 go_enter Tryz.func26, Tryz.ntmps26
 go_wp2
 go_region_o
 all_goals (go_wp2; go_ret; exact ⟨rfl, hfin⟩)
set_option maxHeartbeats 2000000 in
set_option maxRecDepth 100000 in
theorem X9H (b g g' o : Nat) (cur : Array Value) (w : World) (p z : Value) (hbk : w.heap[b]? = some (.cells #[p, .slice (some ⟨g', o, none⟩) 0 0, z] 50 (0, 0))) (hg : w.heap[g']? = some (.cells cur 5 (0, 0))) :
  Calls Tryz.prog 26 #[.pointer (some ⟨b, 0, none⟩)] w fun e w' => e = .returned (.string ⟨#[]⟩) /\ Same w w' g := by
 have mixed := X5X;have hlt : b < w.heap.size := by
  rcases Nat.lt_or_ge b w.heap.size with h' | h'
  ·exact h'
  simp [Array.getElem?_eq_none h'] at hbk
 have c1 : w.drew.cell? ⟨b, 1, none⟩ = some (.slice (some ⟨g', o, none⟩) 0 0) := by
  have : w.drew.heap[b]? = some (.cells #[p, .slice (some ⟨g', o, none⟩) 0 0, z] 50 (0, 0)) := hbk;rw [Lib.cell_of_heap this]; rfl
 have hSD : (Builtin.unsafeSliceData_ #[46] 81 #[.slice (some ⟨g', o, none⟩) 0 0]).run Tryz.prog w.drew = .ok (.pointer (some ⟨w.drew.heap.size, 0, none⟩)) (w.drew.alloc (.view ⟨g', o, none⟩ 5)) :=
  Lib.run_unsafeSliceData_zero w.drew _ _ 5 uPU ⟨g', o, none⟩ 0 (5, cur.size) (by have hg' : w.drew.heap[g']? = some (.cells cur 5 (0, 0)) := hg; simp [World.shape?, hg'])
 have c2 : (w.drew.alloc (.view ⟨g', o, none⟩ 5)).cell? ⟨b, 1, none⟩ = some (.slice (some ⟨g', o, none⟩) 0 0) := by
  have : (w.drew.alloc (.view ⟨g', o, none⟩ 5)).heap[b]? = _ := (Lib.alloc_old w.drew _ b hlt).trans hbk;rw [Lib.cell_of_heap this]; rfl
 have c3 : (w.alloc (.view ⟨g', o, none⟩ 5)).drew.cell? ⟨b, 1, none⟩ = some (.slice (some ⟨g', o, none⟩) 0 0) := c2;have c0 : w.cell? ⟨b, 1, none⟩ = some (.slice (some ⟨g', o, none⟩) 0 0) := c1;have hUS : ∀ (W : World) (q : Option Addr), (Builtin.unsafeString_ #[81, 3] 9 #[.pointer q, .int .i64 0]).run Tryz.prog W = .ok (.string ⟨#[]⟩) W := fun W q => Lib.run_unsafeString_none W _ _ _ q
 have hfin := Y0E w g (.view ⟨g', o, none⟩ 5)
 go_enter Tryz.func26, Tryz.ntmps26
 go_wp2
 go_region_o
 all_goals (go_wp2; go_ret; exact ⟨rfl, hfin⟩)
def Y2D : Sig := .o ⟨X9z false, [.ref 0 0], [], .d .str, fun x => (bytesOf x.2.2.1).map fun s => (s, ())⟩
theorem Y3V (b0 : Bool) (n0 : Int) (l : List Int) (r : List UInt8) (hr : bytesOf l = some r) (B : Base) (kn : Kn) (m : Mp) (w : World) (vs : List Value) (hI : Inv CX B kn m (osto 0 (X9z false) ((b0, (), n0, ()), l, ())) 2 w)
  (hlay : ∀ i, i < 2 -> ∃ loc, m i = some loc) (hargs : RelL kn m [.ref 0 0 0] vs) : Does CX.P 26 vs.toArray w fun e w' => ∃ kn' m', KnLe kn kn' /\ Inv CX B kn' m' [] 2 w' /\ (∀ i, i < 2 -> m' i = m i) /\ RelOut kn' m' (.ret (.str r)) e := by
 obtain ⟨loc, hm⟩ := hlay 0 (by decide);obtain ⟨loc1, hm1⟩ := hlay 1 (by decide);have hp : (osto 0 (X9z false) ((b0, (), n0, ()), l, ()))[0]? = some (0, .cells 50 [.mref 0 0 0 b0, .gs 1 1 (.int .u8) l.length, .int .i64 n0]) := rfl;have hp1 : (osto 0 (X9z false) ((b0, (), n0, ()), l, ()))[1]? = some (1, .tg (.int .u8) 5 l) := rfl;have hob := hI.obj _ _ _ hp;have hob1 := hI.obj _ _ _ hp1;simp only [ObjRel, hm] at hob;obtain ⟨hnl, h0, arr, hw, hrl, hone⟩ := hob;obtain ⟨v0, vs0, ha0, hr0, hrl⟩ := hrl.uncons;obtain ⟨v1, vs1, rfl, hr1, hrl⟩ := hrl.uncons;obtain ⟨v2, vs2, rfl, hr2, hrl⟩ := hrl.uncons;have : vs2 = [] := List.eq_nil_of_length_eq_zero hrl.1.symm;subst this;have harr : arr = #[v0, v1, v2] := by rw [<- Array.toArray_toList (xs := arr), ha0]
 subst harr;obtain ⟨a, as1, rfl, hra, hargs⟩ := RelL.uncons hargs;have : as1 = [] := List.eq_nil_of_length_eq_zero hargs.1.symm;subst this;have hra : Rel kn m (.ref 0 0 0) a := hra;obtain ⟨q1, q2, q3⟩ := hI.own 0 0 _ loc hp trivial hm hnl;unfold bytesOf at hr;split at hr
 ·rename_i hall;cases hr;cases hra with
  | ref _ _ _ loc' hm' =>
   rw [hm] at hm'; cases hm';rw [h0];refine .inl ⟨by kernel_rfl, ?_⟩
   have fin : ∀ (g : Nat) (w' : World), Same w w' g -> ((B.w.heap.size <= g \/ B.own g) /\ ∀ o, kn g o = none) ->
     ∃ kn' m', KnLe kn kn' /\ Inv CX B kn' m' [] 2 w' /\ (∀ i, i < 2 -> m' i = m i) /\ RelOut kn' m' (.ret (.str (l.map fun n => UInt8.ofNat n.toNat))) (.returned (.string ⟨(l.map fun n => UInt8.ofNat n.toNat).toArray⟩)) := fun g w' hs hg =>
    ⟨kn, m, KnLe.refl _, hI.forget hs (Nat.le_refl _) hg, fun _ _ => rfl, .str _⟩
   have hgv : GvRel kn m w 1 1 5 (l.map (E.row (.int .u8))) := hob1;obtain ⟨locx, hx, hlen, hgv⟩ := hgv;rw [hm1] at hx; cases hx;have hr1 : Rel kn m (.gs 1 1 (.int .u8) l.length) v1 := hr1;cases hr1 with
   | gs _ _ _ _ _ locy hy hly hsl =>
    rw [hm1] at hy; cases hy;have hsl : Rel kn m (.sref 1 1 1 0 l.length) v1 := hsl;generalize hn : l.length = n at hsl;cases hsl with
    | srefNil _ _ _ locz hz hznil =>
     have hl : l = [] := List.eq_nil_of_length_eq_zero hn;subst hl;exact (Y5z loc.blk loc.blk w v0 v2 hw).mono fun e w' ⟨he, hs⟩ => (by subst he; exact fin loc.blk w' hs ⟨q2, q3 rfl⟩)
    | sref _ _ _ _ _ locz hz hznil hze hzl hzm =>
     rw [hm1] at hz; cases hz;rcases hgv with ⟨hnil, _⟩ | ⟨_, hesz, arr1, hw1, hsz, hcap, hmax, hone1, hrow, hrel⟩
     ·rw [hnil] at hznil; cases hznil
     obtain ⟨p1, p2, p3⟩ := hI.own 1 1 _ loc1 hp1 trivial hm1 hznil;have hze : loc1.esz = 1 := hze;simp only [Nat.zero_mul, Nat.add_zero, Nat.sub_zero] at hw ⊢
     by_cases hl0 : l = []
     ·subst hl0;have hn0 : n = 0 := hn.symm;subst hn0
      by_cases hc0 : loc1.cap = 0
      ·rw [hc0] at hw;exact (X9H loc.blk loc1.blk loc1.blk loc1.off arr1 w v0 v2 hw hw1).mono fun e w' ⟨he, hs⟩ => (by subst he; exact fin loc1.blk w' hs ⟨p2, p3 rfl⟩)
      exact (Y3W loc.blk loc1.blk loc1.blk loc1.off loc1.cap w v0 v2 hc0 hw).mono fun e w' ⟨he, hs⟩ => (by subst he; exact fin loc1.blk w' hs ⟨p2, p3 rfl⟩)
     have hll : (l.map fun n => UInt8.ofNat n.toNat).length = n := by rw [List.length_map]; exact hn
     subst hn;rw [<- hll] at hw;have hcap' : l.length <= loc1.cap := (X6F l) ▸ hcap;refine (Y5C loc.blk loc1.blk loc1.off loc1.cap arr1 w (l.map fun n => UInt8.ofNat n.toNat) v0 v2 (by simpa using hl0) hw hw1 (by simpa using hcap') (by omega) hmax (fun j x hx => ?_)).mono fun e w' ⟨he, hs⟩ => (by subst he; exact fin loc1.blk w' hs ⟨p2, p3 rfl⟩)
     rw [List.getElem?_map] at hx;cases hlj : l[j]? with
     | none => rw [hlj] at hx; cases hx
     | some n =>
      rw [hlj] at hx;simp only [Option.map_some, Option.some.injEq] at hx;have hj := (List.getElem?_eq_some_iff.1 hlj).1;have hnb : 0 <= n /\ n < 256 := by
       have := List.all_eq_true.1 hall n (List.mem_of_getElem? hlj);simpa using this
      have hin : loc1.off + j < arr1.size := by omega
      have hrv := hrel j [.int .u8 n] 0 (.int .u8 n) arr1[loc1.off + j] (X6E l hlj) rfl (by
       rw [Nat.mul_one, Nat.add_zero];exact Array.getElem?_eq_getElem hin)
      rw [addr_add];rw [Lib.cell_of_heap hw1, Array.getElem?_eq_getElem hin];generalize arr1[loc1.off + j] = u at hrv;cases hrv;rw [<- hx];have : ((UInt8.ofNat n.toNat).toNat : Int) = n := by
       have e : n.toNat < 2 ^ 8 := by omega
       rw [UInt8.toNat_ofNat_of_lt' e]; omega
      rw [this]
 cases hr
theorem Y2E : SigOK CX 26 Y2D := by
 refine ⟨by kernel_rfl, fun x r hr B kn m w vs hI hlay hargs => ?_⟩;have hr : (bytesOf x.2.2.1).map (fun s => (s, ())) = some r := hr;obtain ⟨s, hs, rfl⟩ := Option.map_eq_some_iff.1 hr;exact (Y3V x.2.1.1 x.2.1.2.2.1 x.2.2.1 s hs B kn m w vs hI hlay hargs).mono fun e w' ⟨kn', m', h1, h2, h3, h4⟩ => ⟨kn', m', h1, h2, h3, fun j hj => absurd hj (by show ¬ j < 0; omega), h4⟩
end Go.Ab
