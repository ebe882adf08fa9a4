/-
  FORMS without the program: their order, their size, loops.
-/
import Derived.Test.YthbkbjlfghikfaaGreatDoorZ7
import Derived.Test.YthbkbjlfghikfaaGreatDoorZ10
import Derived.Test.YthbkbjlfghikfaaGreatDoorZ8
set_option linter.unusedVariables false
set_option linter.unusedSimpArgs false
namespace Go.Ab
open Go Go.RowKit
def linOK (ops : Array Oper) (π : List Nat) : Bool :=
 decide (π.length = ops.size) && ((List.range ops.size).all (fun i => π.contains i) && (List.range π.length).all fun q => match π[q]? with
  | some j => match ops[j]? with
   | some oj => (!(π.take q).contains j && (oj.after.all fun e => !Region.binds .any e || (π.take q).contains e.on)) && (!isAlloc oj.op || cntA ops (π.take q) == rk ops.toList j)
   | none => false
  | none => true)
structure Lin (ops : Array Oper) (π : List Nat) : Prop where
 len : π.length = ops.size
 all : ∀ i, i < ops.size → i ∈ π
 get : ∀ q j, π[q]? = some j → ∃ oj, ops[j]? = some oj ∧ j ∉ π.take q ∧ (∀ e ∈ oj.after, Region.binds .any e = true → e.on ∈ π.take q) ∧ (isAlloc oj.op = true → cntA ops (π.take q) = rk ops.toList j)
theorem linOK_spec {ops : Array Oper} {π : List Nat} (h : linOK ops π = true) : Lin ops π := by
 unfold linOK at h
 simp only [Bool.and_eq_true, decide_eq_true_eq] at h
 obtain ⟨h2, h3, h4⟩ := h
 refine ⟨h2, fun i hi => ?_, fun q j hq => ?_⟩
 ·have := List.all_eq_true.1 h3 i (List.mem_range.2 hi)
  simpa using this
 ·have hql : q < π.length := (List.getElem?_eq_some_iff.1 hq).1
  have := List.all_eq_true.1 h4 q (List.mem_range.2 hql)
  rw [hq] at this
  simp only at this
  split at this
  ·rename_i oj hoj
   simp only [Bool.and_eq_true] at this
   obtain ⟨⟨a, b⟩, c⟩ := this
   refine ⟨oj, hoj, by simpa using a, fun e he hb => ?_, fun ha => ?_⟩
   ·have := Array.all_eq_true_iff_forall_mem.1 b e he
    simpa [hb] using this
   ·simpa [ha] using c
  ·cases this
def stepB (P : Program) (H : Hints) (ops : Array Oper) (ms : List Nat) (k : Nat) (r : List Nat) : Bool := match ops[k]? with
 | some ok => r.all fun j => (decide (k < j) && (ms.getD j 0).testBit k) || match ops[j]? with
  | some oj => swapOK P H false ops ok oj
  | none => false
 | none => false
def stepsB (P : Program) (H : Hints) (ops : Array Oper) (ms : List Nat) : List Nat → List Nat → Bool
 | [], _ => true
 | k :: r, t => stepB P H ops ms k (r ++ t) && stepsB P H ops ms r t
def pairOK (P : Program) (H : Hints) (ops : Array Oper) (ms : List Nat) (pre : List Nat) (i j : Nat) (post : List Nat) : Bool :=
 (waitsOK ops ms && (linOK ops (pre ++ i :: j :: post) && linOK ops (pre ++ j :: i :: post))) && ((stepsB P H ops ms pre (i :: j :: post) && (stepsB P H ops ms (j :: post) [] && stepsB P H ops ms (i :: post) [])) && post.all fun l => decide (i < l) && (ms.getD l 0).testBit i)
section
variable {C : Cx} {H : Hints} {ops : Array Oper} {p₀ n₀ : Nat} {ms : List Nat} {K : St → Prop} {KP : AV → Sto → Nat → Prop}
theorem Lin.closed {pre r : List Nat} (hL : Lin ops (pre ++ r)) : Closed ops (setL ops.size pre) := by
 intro j o ho hl e he hb
 have hj := (Array.getElem?_eq_some_iff.1 ho).1
 rw [setL_getD, if_pos hj] at hl
 have hjp : j ∈ pre := by simpa using hl
 obtain ⟨q, hq, hqj⟩ := List.mem_iff_getElem.1 hjp
 have hqπ : (pre ++ r)[q]? = some j := by rw [List.getElem?_append_left hq, List.getElem?_eq_getElem hq, hqj]
 obtain ⟨oj, hoj, _, hej, _⟩ := hL.get _ _ hqπ
 rw [ho] at hoj; cases hoj
 have hm := hej e he hb
 have hm' : e.on ∈ pre := by
  rw [List.take_append_of_le_length (Nat.le_of_lt hq)] at hm
  exact List.mem_of_mem_take hm
 have hin : e.on < ops.size := by
  obtain ⟨q', hq', hqe⟩ := List.mem_iff_getElem.1 hm'
  have hqπ' : (pre ++ r)[q']? = some e.on := by rw [List.getElem?_append_left hq', List.getElem?_eq_getElem hq', hqe]
  obtain ⟨oe, hoe, _⟩ := hL.get _ _ hqπ'
  exact (Array.getElem?_eq_some_iff.1 hoe).1
 rw [setL_getD, if_pos hin]; simp [hm']
theorem Lin.head {pre r : List Nat} {k : Nat} (hL : Lin ops (pre ++ k :: r)) : ∃ ok, ops[k]? = some ok ∧ k < ops.size ∧ k ∉ pre ∧ k ∈ Region.ready .any ops (setL ops.size pre) ∧ (isAlloc ok.op = true → cntA ops pre = rk ops.toList k) := by
 have hk : (pre ++ k :: r)[pre.length]? = some k := by simp
 obtain ⟨ok, hok, hnk, hek, hal⟩ := hL.get _ _ hk
 have hlt := (Array.getElem?_eq_some_iff.1 hok).1
 have htk : (pre ++ k :: r).take pre.length = pre := by simp
 rw [htk] at hnk hek hal
 refine ⟨ok, hok, hlt, hnk, mem_ready.2 ⟨by rw [setL_getD, if_pos hlt]; simp [hnk], _, hok, fun e he hb => ?_⟩, hal⟩
 have hm' := hek e he hb
 have hin : e.on < ops.size := by
  obtain ⟨q', hq', hqe⟩ := List.mem_iff_getElem.1 hm'
  have hqπ' : (pre ++ k :: r)[q']? = some e.on := by rw [List.getElem?_append_left hq', List.getElem?_eq_getElem hq', hqe]
  obtain ⟨oe, hoe, _⟩ := hL.get _ _ hqπ'
  exact (Array.getElem?_eq_some_iff.1 hoe).1
 rw [setL_getD, if_pos hin]; simp [hm']
theorem Lin.rest {pre r : List Nat} (hL : Lin ops (pre ++ r)) {j : Nat} (hj : j ∈ Region.ready .any ops (setL ops.size pre)) : j ∈ r := by
 obtain ⟨hun, oj, hoj, _⟩ := mem_ready.1 hj
 have hlt := (Array.getElem?_eq_some_iff.1 hoj).1
 rw [setL_getD, if_pos hlt] at hun
 have := hL.all j hlt
 rcases List.mem_append.1 this with h | h
 ·simp [h] at hun
 ·exact h
theorem aAny_step (hw : waitsOK ops ms = true) {pre r : List Nat} {k : Nat} {s : St} (hL : Lin ops (pre ++ k :: r)) (hst : stepB C.P H ops ms k r = true)
  (h : aopAt C H (fun _ => false) ops p₀ n₀ k (aAny C H (fun _ => false) ops p₀ n₀ K KP r.length (setL ops.size (pre ++ [k]))) KP s) : aAny C H (fun _ => false) ops p₀ n₀ K KP (r.length + 1) (setL ops.size pre) s := by
 obtain ⟨ok, hok, hlt, hnk, hrd, _⟩ := hL.head
 have rest : ∀ j, j < ops.size → j ∉ pre → j ≠ k → j ∈ r := by
  intro j hj hjp hjk
  have := hL.all j hj
  rcases List.mem_append.1 this with h | h
  ·exact absurd h hjp
  ·rcases List.mem_cons.1 h with h | h
   ·exact absurd h hjk
   ·exact h
 refine aAny_first hok _ _ s (fun l' j oj hc' hsub hoj hjk hun hj => ?_) (fun L hL' hLu => ?_) hL.closed hrd ?_
 ·have hjs := (Array.getElem?_eq_some_iff.1 hoj).1
  obtain ⟨hjun, oj', hoj', hall⟩ := mem_ready.1 hj
  rw [hoj] at hoj'; cases hoj'
  have hjp : j ∉ pre := fun hm => by
   have := hsub j (by rw [setL_getD, if_pos hjs]; simp [hm])
   rw [this] at hjun; cases hjun
  have hjr := rest j hjs hjp hjk
  unfold stepB at hst
  rw [hok] at hst
  have hst := List.all_eq_true.1 hst j hjr
  simp only [Bool.or_eq_true, Bool.and_eq_true, decide_eq_true_eq, hoj] at hst
  rcases hst with ⟨hkj, hbit⟩ | hsw
  ·have := waits_spec hw hc' j oj hoj hall k hkj hbit
   rw [Array.getD_eq_getD_getElem?] at this hun
   cases hq : l'[k]? with
   | none => rw [hq] at hun; cases hun
   | some q => rw [hq] at this hun; simp at this hun; rw [this] at hun; cases hun
  ·exact hsw
 ·have := sub_bound L (k :: r) hL' (fun x hx => by
   have := hLu x hx
   rw [setL_getD] at this
   split at this
   ·rename_i hxl
    by_cases hxk : x = k
    ·simp [hxk]
    ·have hxp : x ∉ pre := by simpa using this
     simp [rest x hxl hxp hxk]
   ·cases this)
  simpa using this
 ·rw [setL_set]; exact h
theorem aAny_pre (hw : waitsOK ops ms = true) : ∀ (p pre t : List Nat) (s : St), Lin ops (pre ++ (p ++ t)) → stepsB C.P H ops ms p t = true →
  aseq C H (fun _ => false) ops p₀ n₀ (fun s => aAny C H (fun _ => false) ops p₀ n₀ K KP t.length (setL ops.size (pre ++ p)) s) KP p s → aAny C H (fun _ => false) ops p₀ n₀ K KP (p.length + t.length) (setL ops.size pre) s
 | [], pre, t, s, hL, hst, h => by simpa [aseq] using h
 | k :: p, pre, t, s, hL, hst, h => by
  simp only [stepsB, Bool.and_eq_true] at hst
  simp only [aseq] at h
  have hlen : (k :: p).length + t.length = (p ++ t).length + 1 := by simp; omega
  rw [hlen]
  refine aAny_step hw hL hst.1 (aopAt_mono (fun s' h' => ?_) h)
  have := aAny_pre hw p (pre ++ [k]) t s' (by simpa using hL) hst.2 (by simpa using h')
  simpa using this
theorem aAny_steps (hw : waitsOK ops ms = true) (p pre : List Nat) (s : St) (hL : Lin ops (pre ++ p)) (hst : stepsB C.P H ops ms p [] = true)
  (h : aseq C H (fun _ => false) ops p₀ n₀ K KP p s) : aAny C H (fun _ => false) ops p₀ n₀ K KP p.length (setL ops.size pre) s := by
 have := aAny_pre (K := K) (KP := KP) (p₀ := p₀) (n₀ := n₀) hw p pre [] s (by simpa using hL) hst ?_
 ·simpa using this
 ·have hnone : Region.ready .any ops (setL ops.size (pre ++ p)) = [] := by
   cases hr : Region.ready .any ops (setL ops.size (pre ++ p)) with
   | nil => rfl
   | cons j rest =>
    have := Lin.rest (ops := ops) (pre := pre ++ p) (r := []) (by simpa using hL) (j := j) (by rw [hr]; simp)
    simp at this
  have mono : ∀ (q : List Nat) (s : St), aseq C H (fun _ => false) ops p₀ n₀ K KP q s → aseq C H (fun _ => false) ops p₀ n₀ (fun s => aAny C H (fun _ => false) ops p₀ n₀ K KP 0 (setL ops.size (pre ++ p)) s) KP q s := by
   intro q
   induction q with
   | nil => intro s h; exact ⟨hnone, h⟩
   | cons k q ih => intro s h; simp only [aseq] at h ⊢; exact aopAt_mono ih h
  exact mono p s h
theorem aAny_two {pre post : List Nat} {i j : Nat} {s : St} (hB : pairOK C.P H ops ms pre i j post = true) (h1 : aseq C H (fun _ => false) ops p₀ n₀ K KP (i :: j :: post) s) (h2 : aseq C H (fun _ => false) ops p₀ n₀ K KP (j :: i :: post) s) :
  aAny C H (fun _ => false) ops p₀ n₀ K KP (i :: j :: post).length (setL ops.size pre) s := by
 unfold pairOK at hB
 simp only [Bool.and_eq_true] at hB
 obtain ⟨⟨hw, hL1, hL2⟩, ⟨hs0, hs1, hs2⟩, hp⟩ := hB
 have hL1 := linOK_spec hL1
 have hL2 := linOK_spec hL2
 obtain ⟨oi, hoi, hil, hni, hri, _⟩ := hL1.head
 refine ⟨fun e => by rw [e] at hri; (cases hri), fun q hq => ?_⟩
 have hqr := hL1.rest hq
 rcases List.mem_cons.1 hqr with rfl | hqr
 ·rw [setL_set]
  simp only [aseq] at h1
  refine aopAt_mono (fun s' h' => ?_) h1
  exact aAny_steps hw (j :: post) (pre ++ [q]) s' (by simpa using hL1) hs1 (by simpa [aseq] using h')
 ·rcases List.mem_cons.1 hqr with rfl | hqr
  ·rw [setL_set]
   simp only [aseq] at h2
   refine aopAt_mono (fun s' h' => ?_) h2
   exact aAny_steps hw (i :: post) (pre ++ [q]) s' (by simpa using hL2) hs2 (by simpa [aseq] using h')
  ·exfalso
   have := List.all_eq_true.1 hp q hqr
   simp only [Bool.and_eq_true, decide_eq_true_eq] at this
   obtain ⟨_, oq, hoq, hall⟩ := mem_ready.1 hq
   have h3 := waits_spec hw hL1.closed q oq hoq hall i this.1 this.2
   rw [setL_getD, if_pos hil] at h3
   exact hni (by simpa using h3)
def aregE (C : Cx) (H : Hints) (ops : Array Oper) (E : Nat → Nat × Nat → St → Prop) (KP : AV → Sto → Nat → Prop) : List Oper → Nat → Nat × Nat → St → Prop
 | [], k, al, s => E k al s
 | o :: rest, k, al, s => ∃ t, wantedA ops s.env o = some t ∧
   (t = true → aop C H false al o (fun v σ nx => aregE C H ops E KP rest (k + 1) (if isAlloc o.op = true then (al.1 + 1, al.2 + 1) else al) ⟨updo s.env o.dst v, σ, nx⟩) KP s) ∧
   (t = false → aregE C H ops E KP rest (k + 1) (if isAlloc o.op = true then (al.1 + 1, al.2 + 1) else al) ⟨updo s.env o.dst .undef, s.σ, s.nx⟩)
theorem aseq_of_aregE {E : Nat → Nat × Nat → St → Prop} : ∀ (r pre t : List Nat) (s : St), Lin ops (pre ++ (r ++ t)) →
  aregE C H ops E KP (r.filterMap (ops[·]?)) pre.length (p₀ + cntA ops pre, n₀ + cntA ops pre) s → aseq C H (fun _ => false) ops p₀ n₀ (E (pre ++ r).length (p₀ + cntA ops (pre ++ r), n₀ + cntA ops (pre ++ r))) KP r s
 | [], pre, t, s, hL, h => by simpa [aseq, aregE] using h
 | k :: r, pre, t, s, hL, h => by
  obtain ⟨ok, hok, hlt, hnk, _, hal⟩ := Lin.head (r := r ++ t) hL
  have hcnt := cntA_snoc ops pre k ok hok
  have hnext : (if isAlloc ok.op = true then (p₀ + cntA ops pre + 1, n₀ + cntA ops pre + 1) else (p₀ + cntA ops pre, n₀ + cntA ops pre)) = (p₀ + cntA ops (pre ++ [k]), n₀ + cntA ops (pre ++ [k])) := by
   rw [hcnt]; split <;> simp [Nat.add_assoc]
  simp only [List.filterMap_cons, hok, aregE, hnext] at h
  simp only [aseq, aopAt, hok]
  obtain ⟨t', a, b, c⟩ := h
  have hlen : pre.length + 1 = (pre ++ [k]).length := by simp
  rw [hlen] at b c
  have go : ∀ st, aregE C H ops E KP (r.filterMap (ops[·]?)) (pre ++ [k]).length (p₀ + cntA ops (pre ++ [k]), n₀ + cntA ops (pre ++ [k])) st → aseq C H (fun _ => false) ops p₀ n₀ (E (pre ++ k :: r).length (p₀ + cntA ops (pre ++ k :: r), n₀ + cntA ops (pre ++ k :: r))) KP r st := fun st hh => by
   have := aseq_of_aregE r (pre ++ [k]) t st (by simpa using hL) hh
   simpa using this
  refine ⟨t', a, fun ht => ?_, fun ht => go _ (c ht)⟩
  have hb := aop_mono (b ht) (fun v σ nx hh => go _ hh) (fun _ _ _ hh => hh)
  by_cases ha : isAlloc ok.op = true
  ·rw [← hal ha]; exact hb
  ·exact aop_al (by simpa using ha) hb
end
section
variable {C : Cx} {n : Nat} {ds : List Deferred} {Q : AExit → St → Prop} {s : St} {id : Nat} {ops : Array Oper} {objs : Sto}
theorem aw_pair {H : Hints} {ms pre post : List Nat} {i j : Nat} (hm : C.P.follows .mixedOrders = true) (hB : pairOK C.P H ops ms pre i j post = true) (hd : dstOK n ops = true) (ho : allocObjs C.P ops.toList s.nx = some objs)
  (h : aregE C H ops (fun k al st => aregE C H ops (fun _ _ => Q .normal) (fun v σ nx => ∀ env, Q (.pan v) ⟨env, σ, nx⟩) ((i :: j :: post).filterMap (ops[·]?)) k al st ∧ aregE C H ops (fun _ _ => Q .normal) (fun v σ nx => ∀ env, Q (.pan v) ⟨env, σ, nx⟩) ((j :: i :: post).filterMap (ops[·]?)) k al st)
   (fun v σ nx => ∀ env, Q (.pan v) ⟨env, σ, nx⟩) (pre.filterMap (ops[·]?)) 0 (s.σ.length, s.nx) ⟨s.env, s.σ ++ objs, s.nx + objs.length⟩) : aw C n ds (.region id ops true) Q s := by
 have hB' := hB
 unfold pairOK at hB'
 simp only [Bool.and_eq_true] at hB'
 obtain ⟨⟨hw, hL1, hL2⟩, ⟨hs0, hs1, hs2⟩, hp⟩ := hB'
 have hL1 := linOK_spec hL1
 have hL2 := linOK_spec hL2
 intro B kn m act w h1 h2 h3
 obtain ⟨hI', hk'⟩ := h3.ahead ho
 refine wp_region_any hm ?_
 have hq := aseq_of_aregE (p₀ := s.σ.length) (n₀ := s.nx) pre [] (i :: j :: post) ⟨s.env, s.σ ++ objs, s.nx + objs.length⟩ (by simpa using hL1) h
 have mono : ∀ (q : List Nat) (s1 : St) {K K' : St → Prop} {KP : AV → Sto → Nat → Prop}, (∀ s, K s → K' s) → aseq C H (fun _ => false) ops s.σ.length s.nx K KP q s1 → aseq C H (fun _ => false) ops s.σ.length s.nx K' KP q s1 := by
  intro q
  induction q with
  | nil => intro s1 K K' KP hk h; exact hk _ h
  | cons k q ih => intro s1 K K' KP hk h; simp only [aseq] at h ⊢; exact aopAt_mono (fun s h => ih s hk h) h
 have ha := aAny_pre (p₀ := s.σ.length) (n₀ := s.nx) (K := Q .normal) hw pre [] (i :: j :: post) _ (by simpa using hL1) hs0 (mono pre _ (fun st hst => by
  obtain ⟨a1, a2⟩ := hst
  have b1 := aseq_of_aregE (i :: j :: post) ([] ++ pre) [] st (by simpa using hL1) a1
  have b2 := aseq_of_aregE (j :: i :: post) ([] ++ pre) [] st (by simpa using hL2) a2
  exact aAny_two (by simpa using hB) b1 b2) hq)
 have hlen : pre.length + (i :: j :: post).length = ops.size := by have := hL1.len; simpa using this
 rw [hlen] at ha
 rw [setL_nil]
 refine aAny_sound (KP := fun v σ nx => ∀ env, Q (.pan v) ⟨env, σ, nx⟩) (K := Q .normal) (B := B) (n := n) (ds := ds) (kn₀ := kn) (m₀ := m) (σ₀ := s.σ) (nx₀ := s.nx) h3.lt (dstOK_sound hd) (fun s' kn' m' act' w' hK hR => ⟨.normal, s', kn', m', trivial, hR, hK⟩)
  (fun v u env' kn' m' σ' nx' act' w' hKP hv hR => ⟨.pan v, ⟨env', σ', nx'⟩, kn', m', ⟨u, rfl, hv⟩, hR, hKP env'⟩) ops.size (setL ops.size []) ⟨s.env, s.σ ++ objs, s.nx + objs.length⟩ kn m act _ ⟨⟨h1, h2, hI'.drew, KnLe.refl _, hk'⟩, ?_⟩ ha
 intro j o T hj hT _
 obtain ⟨z, hz, hg⟩ := allocObjs_get ho (j := j) (by simpa using hj) hT
 refine ⟨h3.dom _ (Nat.le_add_right _ _), ?_, Nat.le_add_right _ _, z, hz, ?_⟩
 ·have := (List.getElem?_eq_some_iff.1 hg).1; simp; omega
 ·rw [List.getElem?_append_right (Nat.le_add_right _ _), Nat.add_sub_cancel_left]; exact hg
end
end Go.Ab

namespace Go.Ab
open Go Go.RowKit
inductive Step (L R : Type) where
 | next (l : L)
 | done (r : R)
def iterM {L R : Type} (b : L → Option (Step L R)) : Nat → L → Option R
 | 0, _ => none
 | d + 1, l => match b l with
  | some (.next l') => iterM b d l'
  | some (.done r) => some r
  | none => none
theorem iterM_one {L R : Type} {b : L → Option (Step L R)} : ∀ (d d' : Nat) (l : L) (r r' : R), iterM b d l = some r → iterM b d' l = some r' → r = r'
 | 0, _, _, _, _, h, _ => by cases h
 | _ + 1, 0, _, _, _, _, h => by cases h
 | d + 1, d' + 1, l, r, r', h, h' => by
  simp only [iterM] at h h'
  split at h
  ·rename_i l' e; rw [e] at h'; exact iterM_one d d' l' r r' h h'
  ·rename_i q e; rw [e] at h'; cases h; cases h'; rfl
  ·cases h
noncomputable def loopM {L R : Type} (b : L → Option (Step L R)) (l : L) : Option R :=
 match Classical.propDecidable (∃ r d, iterM b d l = some r) with
 | .isTrue h => some (Classical.choose h)
 | .isFalse _ => none
theorem loopM_iff {L R : Type} {b : L → Option (Step L R)} {l : L} {r : R} : loopM b l = some r ↔ ∃ d, iterM b d l = some r := by
 unfold loopM
 split
 ·rename_i h e
  constructor
  ·intro h'; cases h'; exact Classical.choose_spec h
  ·rintro ⟨d, hd⟩
   obtain ⟨d', hd'⟩ := Classical.choose_spec h
   rw [iterM_one d' d l _ _ hd' hd]
 ·rename_i h e
  constructor
  ·intro h'; cases h'
  ·rintro ⟨d, hd⟩; exact absurd ⟨r, d, hd⟩ h
theorem loopM_next {L R : Type} {b : L → Option (Step L R)} {l l' : L} (h : b l = some (.next l')) : loopM b l = loopM b l' := by
 cases hx : loopM b l' with
 | some r =>
  obtain ⟨d, hd⟩ := loopM_iff.1 hx
  exact loopM_iff.2 ⟨d + 1, by simp only [iterM, h]; exact hd⟩
 | none =>
  cases hy : loopM b l with
  | none => rfl
  | some r =>
   obtain ⟨d, hd⟩ := loopM_iff.1 hy
   cases d with
   | zero => cases hd
   | succ d =>
    simp only [iterM, h] at hd
    rw [loopM_iff.2 ⟨d, hd⟩] at hx; cases hx
theorem loopM_done {L R : Type} {b : L → Option (Step L R)} {l : L} {r : R} (h : b l = some (.done r)) : loopM b l = some r := loopM_iff.2 ⟨1, by simp only [iterM, h]⟩
structure RH where
 H : Hints := {}
 tl : List Nat := []
 π : List Nat := []
 pair : Option (List Nat × Nat × Nat × List Nat) := none
inductive An where
 | leaf
 | seq (a b : An)
 | join (full : Bool) (sh : SS) (a b : An)
 | cond (a b : An)
 | block (a : An)
 | loop (sh : SS) (a : An)
 | frz (js : List Nat) (a : An)
 | frzt (ts : List Nat) (a : An)
 | joinX (keep : List Nat) (a b : An)
 | unroll (n : Nat) (a : An)
def msOf (ops : Array Oper) : List Nat := ops.toList.foldl (fun ms o => ms ++ [o.after.foldl (fun m e => if Region.binds .any e = true then m ||| (1 <<< e.on) ||| ms.getD e.on 0 else m) 0]) []
def onlyAt : Nat → Sto → Sto
 | _, [] => []
 | 0, e :: l => e :: l.map fun q => (q.1, .none)
 | p + 1, q :: l => (q.1, .none) :: onlyAt p l
def frzObj (σp : Sto) : AObj → AObj
 | .cells T cs => .cells T (cs.map (frzF σp 6))
 | o => o
def frzSto (σp : Sto) (p : Nat) : Nat → Sto → Sto
 | _, [] => []
 | j, (nm, o) :: l => (nm, if j = p then .none else frzObj σp o) :: frzSto σp p (j + 1) l
def frz1 (p : Nat) (s : XS) : XS := ⟨s.env.map (frzF (onlyAt p s.σ) 6), frzSto (onlyAt p s.σ) p 0 s.σ, s.nx⟩
def handAt (σ : Sto) (p : Nat) : Bool := match σ[p]? with
 | some (_, o) => isHand o
 | none => false
def frzAll : List Nat → XS → XS
 | [], s => s
 | p :: l, s => frzAll l (match handAt s.σ p with
  | true => s
  | false => frz1 p s)
def gsPos : AV → List Nat
 | .gs p _ _ _ => [p]
 | .ref p _ _ => [p]
 | _ => []
def jsOf (env : List AV) : An → List Nat
 | .frz js _ => js
 | .frzt ts _ => ts.flatMap fun t => gsPos (env.getD t .undef)
 | _ => []
noncomputable def mgC {R : Type} (a b : Option R) : Option R := match Classical.propDecidable (a = b) with
 | .isTrue _ => a
 | .isFalse _ => none
def MgOK {R : Type} (mg : Option R → Option R → Option R) : Prop := ∀ a b r, mg a b = some r → a = some r ∧ b = some r
theorem mgC_ok {R : Type} : MgOK (mgC (R := R)) := fun a b r h => by
 unfold mgC at h
 split at h
 ·rename_i e _; exact ⟨h, e ▸ h⟩
 ·cases h
def mgX {R : Type} (mg : Option R → Option R → Option R) (a b : Option (Step XS R)) : Option (Step XS R) := match a with
 | some (.next s) => match b with
  | some (.next s') => match eqXS s s' with
   | true => some (.next s)
   | false => none
  | _ => none
 | some (.done r) => match b with
  | some (.done r') => (mg (some r) (some r')).map .done
  | _ => none
 | none => none
theorem mgX_ok {R : Type} {mg : Option R → Option R → Option R} (h : MgOK mg) : MgOK (mgX mg) := fun a b q hq => by
 unfold mgX at hq
 split at hq
 ·split at hq
  ·split at hq
   ·rename_i e; cases hq; exact ⟨rfl, by rw [eqXS_sound _ _ e]⟩
   ·cases hq
  ·cases hq
 ·split at hq
  ·obtain ⟨r, hr, rfl⟩ := Option.map_eq_some_iff.1 hq
   obtain ⟨h1, h2⟩ := h _ _ _ hr
   cases h1; cases h2; exact ⟨rfl, rfl⟩
  ·cases hq
 ·cases hq
def yregE (C : Cx) (sigs : FuncId → List Sig) (H : Hints) (ops : Array Oper) {R : Type} (KP : AV → Sto → Nat → Option R) (E : Nat → Nat × Nat → YS → Option R) : List Oper → Nat → Nat × Nat → YS → Option R
 | [], k, al, s => E k al s
 | o :: rest, k, al, s => ystep C sigs H false ops KP o al s fun s' => yregE C sigs H ops KP E rest (k + 1) (if isAlloc o.op = true then (al.1 + 1, al.2 + 1) else al) s'
def yseqK {R : Type} (nxt : XS → Option R) (K : AExit → XS → Option R) : AExit → XS → Option R
 | .normal, s => nxt s
 | e, s => K e s
def joinK {L : Type} (ab : XS → Option L) : AExit → XS → Option L
 | .normal, s => ab s
 | _, _ => none
def joinF {L R : Type} (ab : XS → Option L) (K : AExit → XS → Option R) : AExit → XS → Option (Step L R)
 | .normal, s => (ab s).map .next
 | e, s => (K e s).map .done
def joinXK {R : Type} (keep : List Nat) (K : AExit → XS → Option R) : AExit → XS → Option (Step XS R)
 | .normal, s => fcXS ⟨clrE keep 0 s.env, s.σ, s.nx⟩ fun s' => some (.next s')
 | e, s => (K e s).map .done
def blockK {R : Type} (id : Nat) (K : AExit → XS → Option R) : AExit → XS → Option R
 | .exit i, s => if i = id then K .normal s else K (.exit i) s
 | e, s => K e s
def unrollM {R : Type} (b : XS → (AExit → XS → Option R) → Option R) : Nat → XS → (AExit → XS → Option R) → Option R
 | 0, _, _ => none
 | d + 1, s, K => b s (yseqK (fun s' => unrollM b d s' K) K)
noncomputable def ycode (C : Cx) (sigs : FuncId → List Sig) (hint : Nat → RH) (k n : Nat) : Code → An → {R : Type} → (Option R → Option R → Option R) → XS → (AExit → XS → Option R) → Option R
 | .skip, _, _, _, s, K => K .normal s
 | .label _, _, _, _, s, K => K .normal s
 | .exit id, _, _, _, s, K => K (.exit id) s
 | .ret, an, _, _, s, K => K .ret (frzAll (jsOf s.env an) s)
 | .seq x y, an, _, mg, s, K => match an with
  | .join full sh a b => if keepB k 0 sh.objs = true then (match full with
   | false => (ycode C sigs hint k n x a mgC s (joinK (absS sh))).bind fun l => ycode C sigs hint k n y b mg (patS k n sh l) K
   | true => (ycode C sigs hint k n x a mgC s (joinF (absS sh) K)).bind fun q => match q with
    | .next l => ycode C sigs hint k n y b mg (patS k n sh l) K
    | .done r => some r) else none
  | .joinX keep a b => (ycode C sigs hint k n x a (mgX mg) s (joinXK keep K)).bind fun q => match q with
   | .next s' => ycode C sigs hint k n y b mg s' K
   | .done r => some r
  | .seq a b => ycode C sigs hint k n x a mg s (yseqK (fun s' => ycode C sigs hint k n y b mg s' K) K)
  | .frz js a => ycode C sigs hint k n x .leaf mg (frzAll js s) (yseqK (fun s' => ycode C sigs hint k n y a mg s' K) K)
  | .frzt ts a => ycode C sigs hint k n x .leaf mg (frzAll (jsOf s.env (.frzt ts a)) s) (yseqK (fun s' => ycode C sigs hint k n y a mg s' K) K)
  | _ => ycode C sigs hint k n x .leaf mg s (yseqK (fun s' => ycode C sigs hint k n y .leaf mg s' K) K)
 | .cond o x y, an, _, mg, s, K => match opv C (xenv s.env) o with
  | .bool c => match an with
   | .cond a b => cond c (ycode C sigs hint k n x a mg s K) (ycode C sigs hint k n y b mg s K)
   | _ => cond c (ycode C sigs hint k n x .leaf mg s K) (ycode C sigs hint k n y .leaf mg s K)
  | _ => none
 | .block id c, an, _, mg, s, K => match an with
  | .block a => ycode C sigs hint k n c a mg s (blockK id K)
  | _ => ycode C sigs hint k n c .leaf mg s (blockK id K)
 | .loop c, an, _, mg, s, K => match an with
  | .loop sh a => if keepB k 0 sh.objs = true then (absS sh s).bind fun l0 => loopM (fun l => ycode C sigs hint k n c a mgC (patS k n sh l) (joinF (absS sh) K)) l0 else none
  | .unroll d a => unrollM (fun s K => ycode C sigs hint k n c a mg s K) d s K
  | _ => none
 | .region id ops draws, an, _, mg, s0, K =>
  let s := frzAll (jsOf s0.env an) s0
  if dstOK n ops = true then (match allocObjs C.P ops.toList s.nx with
   | none => none
   | some objs => match draws with
    | false => yreg C sigs (hint id).H (fun _ => true) ops (fun x => K .normal x) (fun v σ nx => K (.pan v) ⟨[], σ, nx⟩) ops.toList 0 (s.σ.length, s.nx) ⟨s.env, [], s.σ ++ objs, s.nx + objs.length⟩
    | true => match (hint id).pair with
     | some (pre, i, j, post) => if (C.P.follows .mixedOrders && pairOK C.P (hint id).H ops (msOf ops) pre i j post) = true then
       yregE C sigs (hint id).H ops (fun v σ nx => K (.pan v) ⟨[], σ, nx⟩)
        (fun q al st => mg (yregE C sigs (hint id).H ops (fun v σ nx => K (.pan v) ⟨[], σ, nx⟩) (fun _ _ st => K .normal ⟨clrTags st.tags st.env, st.σ, st.nx⟩) ((i :: j :: post).filterMap (ops[·]?)) q al st)
         (yregE C sigs (hint id).H ops (fun v σ nx => K (.pan v) ⟨[], σ, nx⟩) (fun _ _ st => K .normal ⟨clrTags st.tags st.env, st.σ, st.nx⟩) ((j :: i :: post).filterMap (ops[·]?)) q al st))
        (pre.filterMap (ops[·]?)) 0 (s.σ.length, s.nx) ⟨s.env, [], s.σ ++ objs, s.nx + objs.length⟩ else none
     | none => match (hint id).π with
      | [] => if (C.P.follows .mixedOrders && drawOK C.P (hint id).H (fun i => (hint id).tl.contains i) ops (msOf ops)) = true then
        yreg C sigs (hint id).H (fun i => (hint id).tl.contains i) ops (fun x => K .normal x) (fun v σ nx => K (.pan v) ⟨[], σ, nx⟩) ops.toList 0 (s.σ.length, s.nx) ⟨s.env, [], s.σ ++ objs, s.nx + objs.length⟩ else none
      | π => if (C.P.follows .mixedOrders && permOK C.P (hint id).H (hint id).tl ops (msOf ops) π) = true then
        yreg C sigs (hint id).H (fun i => (hint id).tl.contains i) ops (fun x => K .normal x) (fun v σ nx => K (.pan v) ⟨[], σ, nx⟩) (π.filterMap (ops[·]?)) 0 (s.σ.length, s.nx) ⟨s.env, [], s.σ ++ objs, s.nx + objs.length⟩ else none) else none
 | _, _, _, _, _, _ => none
end Go.Ab

namespace Go.Ab
open Go Go.RowKit
structure Sim (C : Cx) (B : Base) (n : Nat) (ds : List Deferred) (k : Nat) (kn₀ : Kn) (m₀ : Mp) (s : XS) (kn : Kn) (m : Mp) (act : Act) (w : World) : Prop where
 env : RelEnv kn m (xenv s.env) n act
 defs : act.defers = ds
 inv : Inv C B kn m s.σ s.nx w
 le : KnLe kn₀ kn
 nx : k ≤ s.nx
 base : ∀ i, i < k → m i = m₀ i
 lay : ∀ i, i < k → ∃ loc, m i = some loc
structure SimP (C : Cx) (B : Base) (ds : List Deferred) (k : Nat) (kn₀ : Kn) (m₀ : Mp) (σ : Sto) (nx : Nat) (kn : Kn) (m : Mp) (act : Act) (w : World) : Prop where
 defs : act.defers = ds
 inv : Inv C B kn m σ nx w
 le : KnLe kn₀ kn
 nx : k ≤ nx
 base : ∀ i, i < k → m i = m₀ i
def Good (C : Cx) (B : Base) (n : Nat) (ds : List Deferred) (k : Nat) (kn₀ : Kn) (m₀ : Mp) (post : Exit → Act → World → Prop) : AExit → XS → Prop
 | .pan v, s => ∀ kn m act w, SimP C B ds k kn₀ m₀ s.σ s.nx kn m act w → ∀ u, Rel kn m v u → post (.panic [{ v := u, recovered := false }]) act w
 | e, s => ∀ kn m act w, Sim C B n ds k kn₀ m₀ s kn m act w → ∀ ce, RelExit kn m e ce → post ce act w
section
variable {C : Cx} {B : Base} {n : Nat} {ds : List Deferred} {k : Nat} {kn₀ : Kn} {m₀ : Mp}
theorem onlyAt_get : ∀ (p : Nat) (σ : Sto) (q nm : Nat) (o : AObj), (onlyAt p σ)[q]? = some (nm, o) → (q = p ∧ σ[q]? = some (nm, o)) ∨ o = .none
 | _, [], q, nm, o, h => by simp [onlyAt] at h
 | 0, e :: l, q, nm, o, h => by
  cases q with
  | zero => simp only [onlyAt, List.getElem?_cons_zero] at h; exact .inl ⟨rfl, h⟩
  | succ q =>
   simp only [onlyAt, List.getElem?_cons_succ, List.getElem?_map] at h
   cases hx : l[q]? with
   | none => simp [hx] at h
   | some y => simp [hx] at h; exact .inr h.2.symm
 | p + 1, e :: l, q, nm, o, h => by
  cases q with
  | zero => simp only [onlyAt, List.getElem?_cons_zero, Option.some.injEq, Prod.mk.injEq] at h; exact .inr h.2.symm
  | succ q =>
   simp only [onlyAt, List.getElem?_cons_succ] at h
   rcases onlyAt_get p l q nm o h with ⟨h1, h⟩ | h
   ·exact .inl ⟨by omega, by simpa using h⟩
   ·exact .inr h
theorem frzSto_get (σp : Sto) (p : Nat) : ∀ (σ : Sto) (j q nm : Nat) (o : AObj), (frzSto σp p j σ)[q]? = some (nm, o) → ∃ o', σ[q]? = some (nm, o') ∧ ((j + q = p ∧ o = .none) ∨ (j + q ≠ p ∧ o = frzObj σp o'))
 | [], j, q, nm, o, h => by simp [frzSto] at h
 | (nm0, o0) :: l, j, q, nm, o, h => by
  cases q with
  | zero =>
   simp only [frzSto, List.getElem?_cons_zero, Option.some.injEq, Prod.mk.injEq] at h
   obtain ⟨rfl, rfl⟩ := h
   refine ⟨o0, rfl, ?_⟩
   by_cases hj : j = p
   ·exact .inl ⟨hj, if_pos hj⟩
   ·exact .inr ⟨hj, if_neg hj⟩
  | succ q =>
   simp only [frzSto, List.getElem?_cons_succ] at h
   obtain ⟨o', h1, h2⟩ := frzSto_get σp p l (j + 1) q nm o h
   exact ⟨o', by simpa using h1, by rwa [show j + (q + 1) = j + 1 + q by omega]⟩
theorem frz1_sound {s : XS} {kn : Kn} {m : Mp} {act : Act} {w : World} (p : Nat) (h : Sim C B n ds k kn₀ m₀ s kn m act w) (hnh : handAt s.σ p = false) : ∃ kn', Sim C B n ds k kn₀ m₀ (frz1 p s) kn' m act w := by
 have hI := h.inv
 obtain ⟨kn', hcase⟩ : ∃ kn' : Kn, (kn' = kn ∧ ∀ (nm : Nat) (ob : AObj) (loc : Loc), s.σ[p]? = some (nm, ob) → live ob → m nm = some loc → loc.nil = false → False) ∨
   ∃ nm ob loc, s.σ[p]? = some (nm, ob) ∧ live ob ∧ m nm = some loc ∧ loc.nil = false ∧ kn' = fun b o => if b = loc.blk then w.cell? ⟨b, o, none⟩ else kn b o := by
  by_cases hx : ∃ nm ob loc, s.σ[p]? = some (nm, ob) ∧ live ob ∧ m nm = some loc ∧ loc.nil = false
  ·obtain ⟨nm, ob, loc, h1, h2, h3, h4⟩ := hx
   exact ⟨_, .inr ⟨nm, ob, loc, h1, h2, h3, h4, rfl⟩⟩
  ·exact ⟨kn, .inl ⟨rfl, fun nm ob loc h1 h2 h3 h4 => hx ⟨nm, ob, loc, h1, h2, h3, h4⟩⟩⟩
 have hle : KnLe kn kn' := by
  rcases hcase with ⟨e, _⟩ | ⟨nm, ob, loc, hp, hl, hm, hn, e⟩
  ·rw [e]; exact KnLe.refl _
  ·intro b o v hv
   rw [e]
   simp only
   split
   ·rename_i hb
    subst hb
    exact hI.knok _ _ _ hv
   ·exact hv
 have hold : ∀ b, b < B.w.heap.size → ¬ B.own b → kn' b = kn b := fun b hb hob => by
  rcases hcase with ⟨e, _⟩ | ⟨nm, ob, loc, hp, hl, hm, hn, e⟩
  ·rw [e]
  ·rw [e]
   funext o
   simp only
   rw [if_neg]
   intro hbb
   subst hbb
   rcases (hI.own p nm ob loc hp hl hm hn).2.1 with h1 | h1
   ·omega
   ·exact hob h1
 have hfrz : ∀ (x : AV) (v : Value), Rel kn m x v → Rel kn' m (frzF (onlyAt p s.σ) 6 x) v := frz_gen (P := C.P) (w := w) hle (fun q nm ob e l => by
   rcases onlyAt_get p s.σ q nm ob e with ⟨_, e⟩ | e
   ·exact hI.obj _ _ _ e
   ·rw [e] at l; cases l) (fun q nm ob loc e l hm hn o => by
   rcases onlyAt_get p s.σ q nm ob e with ⟨hq, e⟩ | e
   ·rw [hq] at e
    rcases hcase with ⟨hk, hno⟩ | ⟨nm', ob', loc', hp, hl, hm', hn', hk⟩
    ·exact (hno nm ob loc e l hm hn).elim
    ·rw [e] at hp; cases hp
     rw [hm] at hm'; cases hm'
     rw [hk]; simp
   ·rw [e] at l; cases l) 6
 have hother : ∀ (q nm : Nat) (ob : AObj) (loc : Loc), q ≠ p → s.σ[q]? = some (nm, ob) → live ob → m nm = some loc → loc.nil = false → kn' loc.blk = kn loc.blk := fun q nm ob loc hq e l hm hn => by
  rcases hcase with ⟨hk, hno⟩ | ⟨nm', ob', loc', hp, hl, hm', hn', hk⟩
  ·rw [hk]
  ·rw [hk]
   funext o
   simp only
   rw [if_neg (hI.dist q nm ob loc p nm' ob' loc' e hp l hl hm hm' hn hn' hq)]
 have hget : ∀ (q nm : Nat) (o : AObj), (frz1 p s).σ[q]? = some (nm, o) → ∃ o', s.σ[q]? = some (nm, o') ∧ ((q = p ∧ o = .none) ∨ (q ≠ p ∧ o = frzObj (onlyAt p s.σ) o')) := fun q nm o e => by
  have := frzSto_get (onlyAt p s.σ) p s.σ 0 q nm o e
  simpa only [Nat.zero_add] using this
 have hlive : ∀ o', live (frzObj (onlyAt p s.σ) o') → live o' := fun o' => by cases o' <;> exact id
 have hhand : ∀ o', isHand (frzObj (onlyAt p s.σ) o') = false → isHand o' = false := fun o' => by cases o' <;> exact id
 have hstk : ∀ o', isStk (frzObj (onlyAt p s.σ) o') = true → isStk o' = true := fun o' => by cases o' <;> exact id
 refine ⟨kn', ⟨⟨h.env.size, fun t => ?_⟩, h.defs, ⟨fun b o v e => ?_, hI.size, hI.os, hI.tape, hI.output, fun b hb hob => ⟨(hI.old b hb hob).1, (hold b hb hob).trans (hI.old b hb hob).2⟩, fun q nm o e => ?_, fun q nm o loc e l hm hn => ?_,
  fun q nm o loc q' nm' o' loc' e e' l l' hm hm' hn hn' hne => ?_, hI.dom, fun q nm o e => ?_, fun q q' nm o o' e e' => ?_, fun q q' nm nm' o o' e e' s1 s2 => ?_, fun g => (hI.glob g).mono hle (MpLe.refl m), hI.tab⟩, h.le.trans hle, h.nx, h.base, h.lay⟩⟩
 ·show Rel kn' m ((s.env.map (frzF (onlyAt p s.σ) 6)).getD t .undef) _
  have h1 := h.env.tmp t
  simp only [xenv, List.getD_eq_getElem?_getD, List.getElem?_map] at h1 ⊢
  cases hx : s.env[t]? with
  | none =>
   rw [hx] at h1
   simp only [Option.map_none, Option.getD_none] at h1 ⊢
   exact h1.mono hle (MpLe.refl m)
  | some a =>
   rw [hx] at h1
   simp only [Option.map_some, Option.getD_some] at h1 ⊢
   exact hfrz a _ h1
 ·rcases hcase with ⟨hk, hno⟩ | ⟨nm', ob', loc', hp, hl, hm', hn', hk⟩
  ·rw [hk] at e; exact hI.knok b o v e
  ·rw [hk] at e
   simp only at e
   split at e
   ·exact e
   ·exact hI.knok b o v e
 ·obtain ⟨o', e', h2⟩ := hget q nm o e
  rcases h2 with ⟨_, rfl⟩ | ⟨hne, rfl⟩
  ·trivial
  ·have h0 := hI.obj q nm o' e'
   cases o' with
   | cells T cs =>
    simp only [frzObj, ObjRel] at h0 ⊢
    cases hm : m nm with
    | none =>
     rw [hm] at h0
     simp only at h0 ⊢
     have : cs.map (frzF (onlyAt p s.σ) 6) = cs := by
      have hz := h0
      unfold zeroCells at hz
      cases hi : (C.P.info? T).bind (·.zero) with
      | none => rw [hi] at hz; simp at hz
      | some v =>
       rw [hi] at hz
       simp only [Option.bind_some, Option.ite_none_right_eq_some, Option.some.injEq] at hz
       rw [← hz.2, List.map_map]
       apply List.map_congr_left
       intro a _
       show frzF (onlyAt p s.σ) 6 (ofVal a) = ofVal a
       unfold ofVal
       split <;> first | rfl | (split <;> rfl)
     rw [this]; exact h0
    | some loc =>
     rw [hm] at h0
     simp only at h0 ⊢
     obtain ⟨a0, a1, arr, a2, a3⟩ := h0
     refine ⟨a0, a1, arr, a2, ⟨by simpa using a3.1.1, fun i x v ex ev => ?_⟩, a3.2⟩
     rw [List.getElem?_map] at ex
     cases hx : cs[i]? with
     | none => simp [hx] at ex
     | some y =>
      simp only [hx, Option.map_some, Option.some.injEq] at ex
      subst ex
      exact hfrz y v (a3.1.2 i y v hx ev)
   | none => trivial
   | gvec a b c => exact h0.mono hle (fun _ _ _ _ => rfl) (fun b hb => by rcases hb with ⟨h, _⟩ | ⟨h, _⟩ <;> cases h)
   | tg a b c => exact h0.mono hle (fun _ _ _ _ => rfl) (fun b hb => by rcases hb with ⟨h, _⟩ | ⟨h, _⟩ <;> cases h)
   | siter a b => exact h0.mono hle (fun _ _ _ _ => rfl) (fun b hb => by rcases hb with ⟨h, _⟩ | ⟨h, _⟩ <;> cases h)
   | hand e ps pe r ys =>
    refine h0.mono hle (fun _ _ _ _ => rfl) (fun b hb => ?_)
    rcases hb with ⟨h, _⟩ | ⟨_, loc, hm, hn, rfl⟩
    ·cases h
    ·exact ⟨rfl, hother q nm _ loc hne e' trivial hm hn⟩
   | stk e ety l k =>
    refine h0.mono hle (fun _ _ _ _ => rfl) (fun b hb => ?_)
    rcases hb with ⟨_, o1, v1, hk1⟩ | ⟨h, _⟩
    ·refine ⟨rfl, ?_⟩
     rcases hcase with ⟨hk, hno⟩ | ⟨nm', ob', loc', hp, hl, hm', hn', hk⟩
     ·rw [hk]
     ·rw [hk]
      funext o
      simp only
      rw [if_neg]
      rintro rfl
      cases hx : isHand ob' with
      | false => rw [(hI.own p nm' ob' loc' hp hl hm' hn').2.2 hx o1] at hk1; cases hk1
      | true => unfold handAt at hnh; rw [hp] at hnh; exact absurd (hx.symm.trans hnh) (fun h => by cases h)
    ·cases h
 ·obtain ⟨o', e', h2⟩ := hget q nm o e
  rcases h2 with ⟨_, rfl⟩ | ⟨hne, rfl⟩
  ·cases l
  ·obtain ⟨h3, h4, h5⟩ := hI.own q nm o' loc e' (hlive _ l) hm hn
   exact ⟨h3, h4, fun hx o => by rw [hother q nm o' loc hne e' (hlive _ l) hm hn]; exact h5 (hhand _ hx) o⟩
 ·obtain ⟨o1, e1, h2⟩ := hget q nm o e
  obtain ⟨o2, e2, h3⟩ := hget q' nm' o' e'
  rcases h2 with ⟨_, rfl⟩ | ⟨hne1, rfl⟩
  ·cases l
  ·rcases h3 with ⟨_, rfl⟩ | ⟨hne2, rfl⟩
   ·cases l'
   ·exact hI.dist q nm o1 loc q' nm' o2 loc' e1 e2 (hlive _ l) (hlive _ l') hm hm' hn hn' hne
 ·obtain ⟨o', e', _⟩ := hget q nm o e; exact hI.lt _ _ _ e'
 ·obtain ⟨o1, e1, _⟩ := hget q nm o e
  obtain ⟨o2, e2, _⟩ := hget q' nm o' e'
  exact hI.uniq _ _ _ _ _ e1 e2
 ·have st : ∀ (q nm : Nat) (o : AObj), (frz1 p s).σ[q]? = some (nm, o) → isStk o = true → ∃ o', s.σ[q]? = some (nm, o') ∧ isStk o' = true := fun q nm o e s1 => by
   obtain ⟨o', e', h2⟩ := hget q nm o e
   rcases h2 with ⟨_, rfl⟩ | ⟨_, rfl⟩
   ·cases s1
   ·exact ⟨o', e', hstk _ s1⟩
  obtain ⟨o1, e1, t1⟩ := st q nm o e s1
  obtain ⟨o2, e2, t2⟩ := st q' nm' o' e' s2
  exact hI.stk1 _ _ _ _ _ _ e1 e2 t1 t2
theorem frzAll_sound {m : Mp} {act : Act} {w : World} : ∀ (js : List Nat) (s : XS) (kn : Kn), Sim C B n ds k kn₀ m₀ s kn m act w → ∃ kn', Sim C B n ds k kn₀ m₀ (frzAll js s) kn' m act w
 | [], s, kn, h => ⟨kn, h⟩
 | p :: l, s, kn, h => by
  cases hx : handAt s.σ p with
  | true =>
   have : frzAll (p :: l) s = frzAll l s := by simp only [frzAll, hx]
   rw [this]
   exact frzAll_sound l _ kn h
  | false =>
   have : frzAll (p :: l) s = frzAll l (frz1 p s) := by simp only [frzAll, hx]
   rw [this]
   obtain ⟨kn', h'⟩ := frz1_sound p h hx
   exact frzAll_sound l _ kn' h'
theorem clr_sim {keep : List Nat} {s : XS} {kn : Kn} {m : Mp} {act : Act} {w : World} (h : Sim C B n ds k kn₀ m₀ s kn m act w) : Sim C B n ds k kn₀ m₀ ⟨clrE keep 0 s.env, s.σ, s.nx⟩ kn m act w :=
 ⟨⟨h.env.size, fun t => by
   have := h.env.tmp t
   show Rel kn m ((clrE keep 0 s.env).getD t .undef) _
   rcases clrE_get keep s.env 0 t with e | e
   ·rw [e]; exact this
   ·rw [e]; exact .any _⟩, h.defs, h.inv, h.le, h.nx, h.base, h.lay⟩
theorem norm_sim {ss : SS} {x : XS} {d : ss.den} {kn : Kn} {m : Mp} {act : Act} {w : World} (h : absS ss x = some d) (hkeep : keepB k 0 ss.objs = true) (hS : Sim C B n ds k kn₀ m₀ x kn m act w) : ∃ m', Sim C B n ds k kn₀ m₀ (patS k n ss d) kn m' act w := by
 obtain ⟨m', h1, h2, h3, _⟩ := norm_sound (n := n) h hkeep hS.inv hS.env hS.lay
 exact ⟨m', h2, hS.defs, h1, hS.le, Nat.le_add_right _ _, fun i hi => (h3 i hi).trans (hS.base i hi), fun i hi => by rw [h3 i hi]; exact hS.lay i hi⟩
theorem yreg_sound {sigs : FuncId → List Sig} (hs : ∀ g, ∀ sg ∈ sigs g, SigOK C g sg) {H : Hints} {tt : Nat → Bool} {ops : Array Oper} {R : Type} {K : XS → Option R} {KP : AV → Sto → Nat → Option R} {r : R} {Kp : St → Prop} {KPp : AV → Sto → Nat → Prop}
  (hK : ∀ x, K x = some r → ∀ aenv', Weak x.env aenv' → Kp ⟨aenv', x.σ, x.nx⟩) (hP : ∀ v σ nx, KP v σ nx = some r → KPp v σ nx) :
  ∀ (l : List Oper) (q : Nat) (al : Nat × Nat) (s : YS) (aenv : Nat → AV), Ref ops s aenv → yreg C sigs H tt ops K KP l q al s = some r → areg C H tt ops Kp KPp l q al ⟨aenv, s.σ, s.nx⟩
 | [], q, al, s, aenv, hR, h => hK _ h aenv hR.weak
 | o :: rest, q, al, s, aenv, hR, h => by
  exact ystep_sound (N := fun aenv σ nx => areg C H tt ops Kp KPp rest (q + 1) (if isAlloc o.op = true then (al.1 + 1, al.2 + 1) else al) ⟨aenv, σ, nx⟩) hs hR h
   (fun s' aenv' h' hR' => yreg_sound hs hK hP rest (q + 1) _ s' aenv' hR' h') hP
theorem yregE_sound {sigs : FuncId → List Sig} (hs : ∀ g, ∀ sg ∈ sigs g, SigOK C g sg) {H : Hints} {ops : Array Oper} {R : Type} {KP : AV → Sto → Nat → Option R} {E : Nat → Nat × Nat → YS → Option R} {r : R} {KPp : AV → Sto → Nat → Prop} {Ep : Nat → Nat × Nat → St → Prop}
  (hE : ∀ q al st aenv, E q al st = some r → Ref ops st aenv → Ep q al ⟨aenv, st.σ, st.nx⟩) (hP : ∀ v σ nx, KP v σ nx = some r → KPp v σ nx) :
  ∀ (l : List Oper) (q : Nat) (al : Nat × Nat) (s : YS) (aenv : Nat → AV), Ref ops s aenv → yregE C sigs H ops KP E l q al s = some r → aregE C H ops Ep KPp l q al ⟨aenv, s.σ, s.nx⟩
 | [], q, al, s, aenv, hR, h => hE _ _ _ _ h hR
 | o :: rest, q, al, s, aenv, hR, h => by
  exact ystep_sound (N := fun aenv σ nx => aregE C H ops Ep KPp rest (q + 1) (if isAlloc o.op = true then (al.1 + 1, al.2 + 1) else al) ⟨aenv, σ, nx⟩) hs hR h
   (fun s' aenv' h' hR' => yregE_sound hs hE hP rest (q + 1) _ s' aenv' hR' h') hP
end
end Go.Ab

namespace Go.Ab
open Go Go.RowKit
section
variable {C : Cx} {B : Base} {n : Nat} {ds : List Deferred} {k : Nat} {kn₀ : Kn} {m₀ : Mp}
theorem sim_of_rs {s : XS} {s' : XS} {kn kn' : Kn} {m m' : Mp} {act act' : Act} {w w' : World} {aenv : Nat → AV} (hS : Sim C B n ds k kn₀ m₀ s kn m act w) (hR : RS C B n ds kn m s.σ s.nx kn' m' ⟨aenv, s'.σ, s'.nx⟩ act' w') (hw : Weak s'.env aenv) : Sim C B n ds k kn₀ m₀ s' kn' m' act' w' :=
 ⟨⟨hR.env.size, fun t => by
   have := hR.env.tmp t
   rcases hw t with e | e
   ·rw [← e]; exact this
   ·rw [e]; exact .any _⟩, hR.defs, hR.inv, hS.le.trans hR.knle, Nat.le_trans hS.nx hR.keep.le, fun i hi => (hR.keep.ag i (Nat.lt_of_lt_of_le hi hS.nx)).trans (hS.base i hi),
   fun i hi => by rw [hR.keep.ag i (Nat.lt_of_lt_of_le hi hS.nx)]; exact hS.lay i hi⟩
def RegPost {R : Type} (K : AExit → XS → Option R) (r : R) : AExit → St → Prop
 | .normal, s => ∃ x : XS, K .normal x = some r ∧ Weak x.env s.env ∧ x.σ = s.σ ∧ x.nx = s.nx
 | .pan v, s => K (.pan v) ⟨[], s.σ, s.nx⟩ = some r
 | _, _ => False
theorem reg_done {R : Type} {K : AExit → XS → Option R} {r : R} {post : Exit → Act → World → Prop} (hK : ∀ e s', K e s' = some r → Good C B n ds k kn₀ m₀ post e s') {c : Code} {s : XS} {kn : Kn} {m : Mp} {act : Act} {w : World} (hS : Sim C B n ds k kn₀ m₀ s kn m act w)
  (h : aw C n ds c (RegPost K r) s.st) : c.wp C.P post act w := by
 refine wp_mono (h B kn m act w hS.env hS.defs hS.inv) ?_
 rintro e act' w' ⟨ae, s', kn', m', hx, hR, hq⟩
 cases ae with
 | normal =>
  obtain ⟨x, h1, h2, h3, h4⟩ := hq
  refine hK _ _ h1 kn' m' act' w' ?_ e hx
  refine sim_of_rs (aenv := s'.env) hS ?_ h2
  rw [h3, h4]; exact hR
 | pan v =>
  cases e with
  | panic ch =>
   obtain ⟨u, rfl, hu⟩ := hx
   exact hK _ _ hq kn' m' act' w' ⟨hR.defs, hR.inv, hS.le.trans hR.knle, Nat.le_trans hS.nx hR.keep.le, fun i hi => (hR.keep.ag i (Nat.lt_of_lt_of_le hi hS.nx)).trans (hS.base i hi)⟩ u hu
  | _ => exact hx.elim
 | _ => exact hq.elim
theorem ref_start (ops : Array Oper) (env : List AV) (σ : Sto) (nx : Nat) : Ref ops ⟨env, [], σ, nx⟩ (xenv env) := ⟨fun _ _ => rfl, (fun t g e h => by cases h), (fun t q h => by cases h)⟩
theorem good_then {post : Exit → Act → World → Prop} {nxt : Act → World → Prop} {e : AExit} {s : XS} (h : Good C B n ds k kn₀ m₀ post e s) (hn : e ≠ .normal) : Good C B n ds k kn₀ m₀ (Exit.then nxt post) e s := by
 cases e with
 | normal => exact absurd rfl hn
 | pan v => exact fun kn m act w hS u hu => h kn m act w hS u hu
 | exit i => intro kn m act w hS ce hx; cases ce <;> first | exact h kn m act w hS _ hx | exact hx.elim
 | goto i => intro kn m act w hS ce hx; cases ce <;> first | exact h kn m act w hS _ hx | exact hx.elim
 | ret => intro kn m act w hS ce hx; cases ce <;> first | exact h kn m act w hS _ hx | exact hx.elim
theorem good_normal {post : Exit → Act → World → Prop} {s : XS} (h : ∀ kn m act w, Sim C B n ds k kn₀ m₀ s kn m act w → post .normal act w) : Good C B n ds k kn₀ m₀ post .normal s := fun kn m act w hS ce hx => by
 cases ce <;> first | exact h kn m act w hS | exact hx.elim
theorem yregion_sound {sigs : FuncId → List Sig} (hs : ∀ g, ∀ sg ∈ sigs g, SigOK C g sg) {hint : Nat → RH} {id : Nat} {ops : Array Oper} {draws : Bool} {R : Type} {mg : Option R → Option R → Option R} (hmg : MgOK mg) {s : XS} {K : AExit → XS → Option R} {r : R} {post : Exit → Act → World → Prop}
  (h : (if dstOK n ops = true then (match allocObjs C.P ops.toList s.nx with
   | none => none
   | some objs => match draws with
    | false => yreg C sigs (hint id).H (fun _ => true) ops (fun x => K .normal x) (fun v σ nx => K (.pan v) ⟨[], σ, nx⟩) ops.toList 0 (s.σ.length, s.nx) ⟨s.env, [], s.σ ++ objs, s.nx + objs.length⟩
    | true => match (hint id).pair with
     | some (pre, i, j, post) => if (C.P.follows .mixedOrders && pairOK C.P (hint id).H ops (msOf ops) pre i j post) = true then
       yregE C sigs (hint id).H ops (fun v σ nx => K (.pan v) ⟨[], σ, nx⟩)
        (fun q al st => mg (yregE C sigs (hint id).H ops (fun v σ nx => K (.pan v) ⟨[], σ, nx⟩) (fun _ _ st => K .normal ⟨clrTags st.tags st.env, st.σ, st.nx⟩) ((i :: j :: post).filterMap (ops[·]?)) q al st)
         (yregE C sigs (hint id).H ops (fun v σ nx => K (.pan v) ⟨[], σ, nx⟩) (fun _ _ st => K .normal ⟨clrTags st.tags st.env, st.σ, st.nx⟩) ((j :: i :: post).filterMap (ops[·]?)) q al st))
        (pre.filterMap (ops[·]?)) 0 (s.σ.length, s.nx) ⟨s.env, [], s.σ ++ objs, s.nx + objs.length⟩ else none
     | none => match (hint id).π with
      | [] => if (C.P.follows .mixedOrders && drawOK C.P (hint id).H (fun i => (hint id).tl.contains i) ops (msOf ops)) = true then
        yreg C sigs (hint id).H (fun i => (hint id).tl.contains i) ops (fun x => K .normal x) (fun v σ nx => K (.pan v) ⟨[], σ, nx⟩) ops.toList 0 (s.σ.length, s.nx) ⟨s.env, [], s.σ ++ objs, s.nx + objs.length⟩ else none
      | π => if (C.P.follows .mixedOrders && permOK C.P (hint id).H (hint id).tl ops (msOf ops) π) = true then
        yreg C sigs (hint id).H (fun i => (hint id).tl.contains i) ops (fun x => K .normal x) (fun v σ nx => K (.pan v) ⟨[], σ, nx⟩) (π.filterMap (ops[·]?)) 0 (s.σ.length, s.nx) ⟨s.env, [], s.σ ++ objs, s.nx + objs.length⟩ else none) else none) = some r)
  (hK : ∀ e s', K e s' = some r → Good C B n ds k kn₀ m₀ post e s') {kn : Kn} {m : Mp} {act : Act} {w : World} (hS : Sim C B n ds k kn₀ m₀ s kn m act w) : (Code.region id ops draws).wp C.P post act w := by
 refine reg_done hK hS ?_
 split at h
 ·rename_i hd
  split at h
  ·cases h
  ·rename_i objs ho
   have key : ∀ (tt : Nat → Bool) (l : List Oper), yreg C sigs (hint id).H tt ops (fun x => K .normal x) (fun v σ nx => K (.pan v) ⟨[], σ, nx⟩) l 0 (s.σ.length, s.nx) ⟨s.env, [], s.σ ++ objs, s.nx + objs.length⟩ = some r →
     areg C (hint id).H tt ops (RegPost K r .normal) (fun v σ nx => ∀ env, RegPost K r (.pan v) ⟨env, σ, nx⟩) l 0 (s.st.σ.length, s.st.nx) ⟨s.st.env, s.st.σ ++ objs, s.st.nx + objs.length⟩ := fun tt l hh =>
    yreg_sound hs (fun x hx aenv' hw => ⟨x, hx, hw, rfl, rfl⟩) (fun v σ nx hx env => hx) l 0 _ _ _ (ref_start ops _ _ _) hh
   cases draws with
   | false => exact aw_region hd ho (key _ _ h)
   | true =>
    simp only at h
    split at h
    ·rename_i pre i j post' hpr
     split at h
     ·rename_i hB
      rw [Bool.and_eq_true] at hB
      have fin : ∀ (l : List Oper) (q : Nat) (al : Nat × Nat) (st : YS) (aenv : Nat → AV), Ref ops st aenv → yregE C sigs (hint id).H ops (fun v σ nx => K (.pan v) ⟨[], σ, nx⟩) (fun _ _ st => K .normal ⟨clrTags st.tags st.env, st.σ, st.nx⟩) l q al st = some r →
        aregE C (hint id).H ops (fun _ _ => RegPost K r .normal) (fun v σ nx => ∀ env, RegPost K r (.pan v) ⟨env, σ, nx⟩) l q al ⟨aenv, st.σ, st.nx⟩ := fun l q al st aenv hR hh =>
       yregE_sound hs (fun q al st aenv hx hR => ⟨_, hx, hR.weak, rfl, rfl⟩) (fun v σ nx hx env => hx) l q al st aenv hR hh
      refine aw_pair hB.1 hB.2 hd ho ?_
      exact yregE_sound hs (fun q al st aenv hx hR => ⟨fin _ q al st aenv hR (hmg _ _ _ hx).1, fin _ q al st aenv hR (hmg _ _ _ hx).2⟩) (fun v σ nx hx env => hx) _ 0 _ _ _ (ref_start ops _ _ _) h
     ·cases h
    ·split at h
     ·split at h
      ·rename_i hB
       rw [Bool.and_eq_true] at hB
       exact aw_draw hB.1 hB.2 hd ho (key _ _ h)
      ·cases h
     ·rename_i π hπ
      split at h
      ·rename_i hB
       rw [Bool.and_eq_true] at hB
       exact aw_pdraw hB.1 hB.2 hd ho rfl (key _ _ h)
      ·cases h
 ·cases h
theorem ycode_sound {sigs : FuncId → List Sig} (hs : ∀ g, ∀ sg ∈ sigs g, SigOK C g sg) {hint : Nat → RH} : ∀ (c : Code) (an : An) {R : Type} (mg : Option R → Option R → Option R) (hmg : MgOK mg) (s : XS) (K : AExit → XS → Option R) (r : R), ycode C sigs hint k n c an mg s K = some r →
  ∀ (post : Exit → Act → World → Prop), (∀ e s', K e s' = some r → Good C B n ds k kn₀ m₀ post e s') → ∀ kn m act w, Sim C B n ds k kn₀ m₀ s kn m act w → c.wp C.P post act w := by
 intro c
 induction c with
 | skip => intro an R mg hmg s K r h post hK kn m act w hS; exact wp_skip (hK _ _ h kn m act w hS _ trivial)
 | label l => intro an R mg hmg s K r h post hK kn m act w hS; exact wp_label (hK _ _ h kn m act w hS _ trivial)
 | exit id => intro an R mg hmg s K r h post hK kn m act w hS; exact wp_exit (hK _ _ h kn m act w hS _ rfl)
 | ret =>
  intro an R mg hmg s K r h post hK kn m act w hS
  obtain ⟨kn', hS'⟩ := frzAll_sound (jsOf s.env an) s kn hS
  exact wp_ret (hK _ _ h kn' m act w hS' _ trivial)
 | seq x y ihx ihy =>
  intro an R mg hmg s K r h post hK kn m act w hS
  have plain : ∀ a b (s : XS) kn, Sim C B n ds k kn₀ m₀ s kn m act w → ycode C sigs hint k n x a mg s (yseqK (fun s' => ycode C sigs hint k n y b mg s' K) K) = some r → (Code.seq x y).wp C.P post act w := fun a b s kn hS h => by
   refine wp_seq (ihx a mg hmg s _ r h _ (fun e s' he => ?_) kn m act w hS)
   cases e with
   | normal => exact good_normal fun kn m act w hS' => ihy b mg hmg s' K r he post hK kn m act w hS'
   | _ => exact good_then (hK _ _ he) (by simp)
  unfold ycode at h
  split at h
  ·rename_i full sh a b
   split at h
   ·rename_i hkp
    cases full with
    | false =>
     simp only at h
     obtain ⟨l, h1, h2⟩ := Option.bind_eq_some_iff.1 h
     refine wp_seq (ihx a mgC mgC_ok s _ l h1 _ (fun e s' he => ?_) kn m act w hS)
     cases e with
     | normal =>
      refine good_normal fun kn m act w hS' => ?_
      obtain ⟨m', hS2⟩ := norm_sim he hkp hS'
      exact ihy b mg hmg _ K r h2 post hK kn m' act w hS2
     | _ => cases he
    | true =>
     simp only at h
     obtain ⟨q, h1, h2⟩ := Option.bind_eq_some_iff.1 h
     refine wp_seq (ihx a mgC mgC_ok s _ q h1 _ (fun e s' he => ?_) kn m act w hS)
     cases e with
     | normal =>
      obtain ⟨l, hl, rfl⟩ := Option.map_eq_some_iff.1 he
      refine good_normal fun kn m act w hS' => ?_
      obtain ⟨m', hS2⟩ := norm_sim hl hkp hS'
      exact ihy b mg hmg _ K r h2 post hK kn m' act w hS2
     | _ =>
      obtain ⟨r', hr', rfl⟩ := Option.map_eq_some_iff.1 he
      cases h2
      exact good_then (hK _ _ hr') (by simp)
   ·cases h
  ·rename_i keep a b
   obtain ⟨q, h1, h2⟩ := Option.bind_eq_some_iff.1 h
   refine wp_seq (ihx a (mgX mg) (mgX_ok hmg) s _ q h1 _ (fun e s' he => ?_) kn m act w hS)
   cases e with
   | normal =>
    have he : fcXS ⟨clrE keep 0 s'.env, s'.σ, s'.nx⟩ (fun s' => some (Step.next s')) = some q := he
    rw [fcXS_eq] at he
    cases he
    exact good_normal fun kn m act w hS' => ihy b mg hmg _ K r h2 post hK kn m act w (clr_sim hS')
   | _ =>
    obtain ⟨r', hr', rfl⟩ := Option.map_eq_some_iff.1 he
    cases h2
    exact good_then (hK _ _ hr') (by simp)
  ·exact plain _ _ s kn hS h
  ·rename_i js a
   obtain ⟨kn', hS'⟩ := frzAll_sound js s kn hS
   exact plain _ _ _ kn' hS' h
  ·rename_i ts a
   obtain ⟨kn', hS'⟩ := frzAll_sound (jsOf s.env (.frzt ts a)) s kn hS
   exact plain _ _ _ kn' hS' h
  ·exact plain _ _ s kn hS h
 | cond o x y ihx ihy =>
  intro an R mg hmg s K r h post hK kn m act w hS
  unfold ycode at h
  split at h
  ·rename_i b hb
   have hr := rel_opv hS.inv hS.env o
   rw [hb] at hr
   generalize hv : act.eval o = v at hr
   cases hr
   refine wp_cond hv ?_
   have key : ∀ a a', cond b (ycode C sigs hint k n x a mg s K) (ycode C sigs hint k n y a' mg s K) = some r → (if b = true then x else y).wp C.P post act w := fun a a' h => by
    cases b with
    | true => exact ihx a mg hmg s K r h post hK kn m act w hS
    | false => exact ihy a' mg hmg s K r h post hK kn m act w hS
   split at h
   ·have := key _ _ h; cases b <;> exact this
   ·have := key _ _ h; cases b <;> exact this
  ·cases h
 | block id c ih =>
  intro an R mg hmg s K r h post hK kn m act w hS
  have key : ∀ a, ycode C sigs hint k n c a mg s (blockK id K) = some r → (Code.block id c).wp C.P post act w := fun a h => by
   refine wp_block (ih a mg hmg s _ r h _ (fun e s' he => ?_) kn m act w hS)
   cases e with
   | exit i =>
    have he : (if i = id then K .normal s' else K (.exit i) s') = some r := he
    intro kn m act w hS' ce hx
    cases ce <;> first | exact hx.elim | skip
    have hx : i = _ := hx
    subst hx
    simp only [Exit.inBlock]
    split at he
    ·rename_i e; rw [if_pos e]; exact hK _ _ he kn m act w hS' _ trivial
    ·rename_i e; rw [if_neg e]; exact hK _ _ he kn m act w hS' _ rfl
   | normal => intro kn m act w hS' ce hx; cases ce <;> first | exact hK _ _ he kn m act w hS' _ hx | exact hx.elim
   | goto l => intro kn m act w hS' ce hx; cases ce <;> first | exact hK _ _ he kn m act w hS' _ hx | exact hx.elim
   | ret => intro kn m act w hS' ce hx; cases ce <;> first | exact hK _ _ he kn m act w hS' _ hx | exact hx.elim
   | pan v => intro kn m act w hS' u hu; exact hK _ _ he kn m act w hS' u hu
  unfold ycode at h
  split at h
  ·exact key _ h
  ·exact key _ h
 | loop c ih =>
  intro an R mg hmg s K r h post hK kn m act w hS
  unfold ycode at h
  split at h
  ·rename_i sh a
   split at h
   ·rename_i hkp
    obtain ⟨l0, hl0, h⟩ := Option.bind_eq_some_iff.1 h
    obtain ⟨d, hd⟩ := loopM_iff.1 h
    refine wp_loop_rel (fun d act w => ∃ s kn m l, Sim C B n ds k kn₀ m₀ s kn m act w ∧ absS sh s = some l ∧ iterM (fun l => ycode C sigs hint k n c a mgC (patS k n sh l) (joinF (absS sh) K)) d l = some r) ?_ (d := d) ⟨s, kn, m, l0, hS, hl0, hd⟩
    rintro d act w ⟨s, kn, m, l, hS, hl, hit⟩
    cases d with
    | zero => cases hit
    | succ d =>
     obtain ⟨m', hS'⟩ := norm_sim hl hkp hS
     simp only [iterM] at hit
     split at hit
     ·rename_i l' hb
      refine ih a mgC mgC_ok _ _ _ hb _ (fun e s' he => ?_) kn m' act w hS'
      cases e with
      | normal =>
       obtain ⟨l2, hl2, e2⟩ := Option.map_eq_some_iff.1 he
       cases e2
       exact good_normal fun kn m act w hS2 => ⟨d, Nat.lt_succ_self d, s', kn, m, _, hS2, hl2, hit⟩
      | _ => obtain ⟨r', _, e2⟩ := Option.map_eq_some_iff.1 he; cases e2
     ·rename_i r' hb
      cases hit
      refine ih a mgC mgC_ok _ _ _ hb _ (fun e s' he => ?_) kn m' act w hS'
      cases e with
      | normal => obtain ⟨l2, hl2, e2⟩ := Option.map_eq_some_iff.1 he; cases e2
      | _ =>
       obtain ⟨r', hr', e2⟩ := Option.map_eq_some_iff.1 he
       cases e2
       exact good_then (hK _ _ hr') (by simp)
     ·cases hit
   ·cases h
  ·rename_i d a
   refine wp_loop_rel (fun d act w => ∃ s kn m, Sim C B n ds k kn₀ m₀ s kn m act w ∧ unrollM (fun s K => ycode C sigs hint k n c a mg s K) d s K = some r) ?_ (d := d) ⟨s, kn, m, hS, h⟩
   rintro d act w ⟨s, kn, m, hS, hit⟩
   cases d with
   | zero => cases hit
   | succ d =>
    refine ih a mg hmg s _ r hit _ (fun e s' he => ?_) kn m act w hS
    cases e with
    | normal => exact good_normal fun kn m act w hS2 => ⟨d, Nat.lt_succ_self d, s', kn, m, hS2, he⟩
    | _ => exact good_then (hK _ _ he) (by simp)
  ·cases h
 | region id ops draws =>
  intro an R mg hmg s K r h post hK kn m act w hS
  unfold ycode at h
  obtain ⟨kn', hS'⟩ := frzAll_sound (jsOf s.env an) s kn hS
  exact yregion_sound hs hmg h hK hS'
 | _ => intro an R mg hmg s K r h; simp [ycode] at h
end
end Go.Ab

namespace Go.Ab
open Go Go.RowKit
def sigTab : List (Nat × Sig) → FuncId → List Sig
 | [], _ => []
 | (g', s) :: l, g => match Nat.beq g' g with
  | true => s :: sigTab l g
  | false => sigTab l g
def TabOK (C : Cx) : List (Nat × Sig) → Prop
 | [] => True
 | (g, s) :: l => SigOK C g s ∧ TabOK C l
theorem sigTab_ok {C : Cx} : ∀ {l : List (Nat × Sig)}, TabOK C l → ∀ g, ∀ s ∈ sigTab l g, SigOK C g s
 | [], _, g, s, h => by cases h
 | (g', s') :: l, ht, g, s, h => by
  simp only [sigTab] at h
  split at h
  ·rename_i e
   have := Nat.eq_of_beq_eq_true e
   subst this
   rcases List.mem_cons.1 h with rfl | h
   ·exact ht.1
   ·exact sigTab_ok ht.2 _ s h
  ·exact sigTab_ok ht.2 g s h
def resY {α : Type} (σ : Sto) (res : Sh) (v : AV) (f : res.den → α) : Option α :=
 match rfB (frzF σ 6 v) with
 | true => match absV [] [] res (frzF σ 6 v) with
  | some (x, _) => some (f x)
  | none => none
 | false => none
def finN (C : Cx) (fn : Func) (res : Sh) : AExit → XS → Option res.den
 | .normal, s => (resA C.P fn.results.toList s.st).bind fun v => resY s.σ res v id
 | .ret, s => (resA C.P fn.results.toList s.st).bind fun v => resY s.σ res v id
 | _, _ => none
noncomputable def yfunM (C : Cx) (sigs : FuncId → List Sig) (hint : Nat → RH) (g : FuncId) {R : Type} (mg : Option R → Option R → Option R) (fin : Func → AExit → XS → Option R) (args : List Sh) (an : An) (x : Sh.denL args) : Option R :=
 match C.P.funcs[g]? with
 | none => none
 | some fn => match fn.body with
  | none => none
  | some c => if ((fn.name == "runtime.NumGoroutine") = false ∧ args.length ≤ fn.ntmps) then ycode C sigs hint 0 fn.ntmps c an mg ⟨patL ρ0 args x ++ List.replicate (fn.ntmps - args.length) .undef, [], 0⟩ (fin fn) else none
noncomputable abbrev yfun (C : Cx) (sigs : FuncId → List Sig) (hint : Nat → RH) (g : FuncId) {R : Type} (fin : Func → AExit → XS → Option R) (args : List Sh) (an : An) (x : Sh.denL args) : Option R := yfunM C sigs hint g mgC fin args an x
theorem patL_len (ρ : Pl) : ∀ (l : List Sh) (x : Sh.denL l), (patL ρ l x).length = l.length
 | [], _ => rfl
 | s :: l, x => by show (patL ρ l x.2).length + 1 = _; rw [patL_len ρ l x.2]; rfl
theorem xenv_args (args : List AV) (k : Nat) : xenv (args ++ List.replicate k .undef) = argEnv args := by
 funext t
 simp only [xenv, argEnv, List.getD_eq_getElem?_getD, List.getElem?_append]
 split
 ·rfl
 ·rename_i h
  rw [List.getElem?_eq_none (Nat.le_of_not_lt h), List.getElem?_replicate]
  split <;> rfl
theorem resY_sound {α : Type} {σ : Sto} {res : Sh} {v : AV} {f : res.den → α} {a : α} (h : resY σ res v f = some a) : ∃ x, a = f x ∧ RF (frzF σ 6 v) ∧ ∀ kn u, Rel kn m0 (frzF σ 6 v) u → Rel kn m0 (patV ρ0 res x) u := by
 unfold resY at h
 split at h
 ·rename_i hr
  split at h
  ·rename_i x β hx
   cases h
   refine ⟨x, rfl, rfB_sound _ hr, fun kn u hu => ?_⟩
   obtain ⟨h1, h2⟩ := absV_ok (kn := kn) (m := m0) res [] β _ x hx
   obtain ⟨h3, h4⟩ := h2 u hu
   have hv := h3 ⟨fun j b e => by simp [bget] at e, fun j p nm e => by simp [bget] at e, fun j j' p nm nm' e => by simp [bget] at e⟩
   exact h4 m0 ρ0 (fun j b e => by have := hv.dom j b e; simp at this)
  ·cases h
 ·cases h
theorem yfun_sound {C : Cx} {sigs : FuncId → List Sig} (hs : ∀ g, ∀ sg ∈ sigs g, SigOK C g sg) {hint : Nat → RH} {g : FuncId} {R : Type} {mg : Option R → Option R → Option R} (hmg : MgOK mg) {fin : Func → AExit → XS → Option R} {args : List Sh} {an : An} {x : Sh.denL args} {r : R} {Q : AOut → Prop}
  (h : yfunM C sigs hint g mg fin args an x = some r)
  (hfin : ∀ (fn : Func) (s : XS), (∀ e, (e = .normal ∨ e = .ret) → fin fn e s = some r → ∃ v, resA C.P fn.results.toList s.st = some v ∧ RF (frzF s.σ 6 v) ∧ ∃ x, Q (.ret x) ∧ ∀ kn u, Rel kn m0 (frzF s.σ 6 v) u → Rel kn m0 x u) ∧
   (∀ v, fin fn (.pan v) s = some r → RF (frzF s.σ 6 v) ∧ ∃ x, Q (.pan x) ∧ ∀ kn u, Rel kn m0 (frzF s.σ 6 v) u → Rel kn m0 x u) ∧ (∀ i, fin fn (.exit i) s ≠ some r) ∧ ∀ i, fin fn (.goto i) s ≠ some r) : PCall C g (patL ρ0 args x) Q := by
 unfold yfunM at h
 split at h
 ·cases h
 ·rename_i fn hf
  split at h
  ·cases h
  ·rename_i c hb
   split at h
   ·rename_i hc
    obtain ⟨hname, hn⟩ := hc
    refine fun kn w vs hk hr => .inl ⟨bodyOK_mk hf hb hname, ?_⟩
    let B : Base := ⟨w, kn, fun _ => False⟩
    have hI : Inv C B kn m0 [] 0 w := ⟨hk.ok, Nat.le_refl _, rfl, rfl, rfl, fun _ _ _ => ⟨rfl, rfl⟩, fun p nm ob e => by simp at e, fun p nm ob loc e => by simp at e, fun p nm ob loc p' nm' ob' loc' e => by simp at e, fun _ _ => rfl, fun p nm ob e => by simp at e, fun p p' nm ob ob' e => by simp at e, fun p p' nm nm' ob ob' e => by simp at e, hk.glob, hk.tab.base _ (fun _ _ _ h => h)⟩
    have hn' : (patL ρ0 args x).length ≤ fn.ntmps := by rw [patL_len]; exact hn
    have hS : Sim C B fn.ntmps [] 0 kn m0 ⟨patL ρ0 args x ++ List.replicate (fn.ntmps - args.length) .undef, [], 0⟩ kn m0 { tmps := vs.toArray ++ Array.replicate (fn.ntmps - vs.toArray.size) undef, defers := [] } w :=
     ⟨by rw [xenv_args]; exact argEnv_rel hr hn', rfl, hI, KnLe.refl _, Nat.le_refl _, fun i hi => absurd hi (by omega), fun i hi => absurd hi (by omega)⟩
    refine calls_of_wp hf hb (ycode_sound hs c an mg hmg _ _ r h _ (fun e s he => ?_) kn m0 _ w hS)
    obtain ⟨f1, f2, f3, f4⟩ := hfin fn s
    have after : ∀ kn' m' act' w', Inv C B kn' m' s.σ s.nx w' → (∀ (x : AV) (v : Value), Rel kn' m' x v → RF (frzF s.σ 6 x) → Rel (knAll kn' w.heap.size w') m0 (frzF s.σ 6 x) v) ∧ Below w.heap.size w w' ∧ KnOK C (knAll kn' w.heap.size w') w' ∧ ∀ b, b < w.heap.size → knAll kn' w.heap.size w' b = kn b := fun kn' m' (act' : Act) w' hI' => by
     refine ⟨fun x v hr hf => (frz_sound hI' (fun _ h => h) 6 x v hr).rf hf m0, ⟨hI'.os, hI'.tape, hI'.output, hI'.size, fun k hk => (hI'.old k hk (fun h => h)).1⟩, ⟨fun b o v e => ?_, fun g => ((hI'.glob g).mono (knAll_le hI' _) (MpLe.refl _)).rf (C.rf g) m0, hI'.tabW⟩, fun b hb => ?_⟩
     ·unfold knAll at e
      split at e
      ·exact hI'.knok b o v e
      ·exact e
     ·funext o
      unfold knAll
      rw [if_pos hb]
      rw [(hI'.old b hb (fun h => h)).2]
    cases e with
    | normal =>
     obtain ⟨v, q1, q2, y, q3, q4⟩ := f1 _ (.inl rfl) he
     intro kn' m' act' w' hS' ce hx
     cases ce <;> first | exact hx.elim | skip
     obtain ⟨a1, a2, a3, a4⟩ := after kn' m' act' w' hS'.inv
     obtain ⟨u, p1, p2⟩ := results_sound (s := s.st) hS'.inv hS'.env q1
     exact ⟨hS'.defs, u, p1, .ret y, knAll kn' w.heap.size w', q3, q4 _ _ (a1 v u p2 q2), a3, a2, a4⟩
    | ret =>
     obtain ⟨v, q1, q2, y, q3, q4⟩ := f1 _ (.inr rfl) he
     intro kn' m' act' w' hS' ce hx
     cases ce <;> first | exact hx.elim | skip
     obtain ⟨a1, a2, a3, a4⟩ := after kn' m' act' w' hS'.inv
     obtain ⟨u, p1, p2⟩ := results_sound (s := s.st) hS'.inv hS'.env q1
     exact ⟨hS'.defs, u, p1, .ret y, knAll kn' w.heap.size w', q3, q4 _ _ (a1 v u p2 q2), a3, a2, a4⟩
    | exit i => exact absurd he (f3 i)
    | goto i => exact absurd he (f4 i)
    | pan v =>
     obtain ⟨q1, y, q2, q3⟩ := f2 v he
     intro kn' m' act' w' hS' u hu
     obtain ⟨a1, a2, a3, a4⟩ := after kn' m' act' w' hS'.inv
     exact ⟨hS'.defs, .pan y, knAll kn' w.heap.size w', q2, ⟨u, rfl, q3 _ _ (a1 v u hu q1)⟩, a3, a2, a4⟩
   ·cases h
theorem sigN_of {C : Cx} {l : List (Nat × Sig)} (ht : TabOK C l) {hint : Nat → RH} {g : FuncId} {args : List Sh} {res : Sh} {an : An} {f : Sh.denL args → Option res.den}
  (h : ∀ x, yfun C (sigTab l) hint g (fun fn => finN C fn res) args an x = f x) : SigOK C g (.n args res f) := fun x r hr =>
 yfun_sound (sigTab_ok ht) mgC_ok ((h x).trans hr) fun fn s => ⟨fun e he hf => by
  have hf' : (resA C.P fn.results.toList s.st).bind (fun v => resY s.σ res v id) = some r := by rcases he with rfl | rfl <;> exact hf
  obtain ⟨v, h1, h2⟩ := Option.bind_eq_some_iff.1 hf'
  obtain ⟨y, rfl, h3, h4⟩ := resY_sound h2
  exact ⟨v, h1, h3, _, rfl, h4⟩, (fun v hv => by cases hv), (fun i hi => by cases hi), (fun i hi => by cases hi)⟩
theorem SigOK.spec {C : Cx} {g : FuncId} {args : List Sh} {res : Sh} {f f' : Sh.denL args → Option res.den} (h : SigOK C g (.n args res f)) (hf : ∀ x r, f' x = some r → f x = some r) : SigOK C g (.n args res f') := fun x r hr => h x r (hf x r hr)
theorem SigOK.specK {C : Cx} {g : FuncId} {args : List Sh} {res : Sh} {f : Nat → Sh.denL args → Option res.den} {f' : Sh.denL args → Option res.den} (h : ∀ k, SigOK C g (.n args res (f k))) (hf : ∀ x r, f' x = some r → ∃ k, f k x = some r) : SigOK C g (.n args res f') := fun x r hr => by
 obtain ⟨k, hk⟩ := hf x r hr; exact h k x r hk
end Go.Ab

namespace Go.Ab
open Go Go.RowKit
def pairD {res : Sh} {post : Slots} (d : SS.den ⟨[(0, res)], post⟩) : res.den × denO post := (d.1.1, d.2)
def finV (C : Cx) (fn : Func) (res : Sh) (post : Slots) (s : XS) : Option (res.den × denO post) :=
 (resA C.P fn.results.toList s.st).bind fun v => match absS ⟨[(0, res)], post⟩ ⟨[v], s.σ, s.nx⟩ with
  | some d => some (pairD d)
  | none => none
def finO (C : Cx) (fn : Func) (res : Sh) (post : Slots) : AExit → XS → Option (res.den × denO post)
 | .normal, s => finV C fn res post s
 | .ret, s => finV C fn res post s
 | _, _ => none
noncomputable def yfunO (C : Cx) (sigs : FuncId → List Sig) (hint : Nat → RH) (g : FuncId) (pre : Slots) (args : List Sh) (post : Slots) (res : Sh) (an : An) (x : Sh.denL args × denO pre) : Option (res.den × denO post) :=
 match C.P.funcs[g]? with
 | none => none
 | some fn => match fn.body with
  | none => none
  | some c => if ((fn.name == "runtime.NumGoroutine") = false ∧ args.length ≤ fn.ntmps) then
    ycode C sigs hint pre.length fn.ntmps c an mgC ⟨patL (plO 0 pre x.2) args x.1 ++ List.replicate (fn.ntmps - args.length) .undef, osto 0 pre x.2, 0 + pre.length⟩ (finO C fn res post) else none
theorem finV_sound {C : Cx} {B : Base} {n : Nat} {k : Nat} {kn₀ kn : Kn} {m₀ m : Mp} {fn : Func} {res : Sh} {post : Slots} {s : XS} {r : res.den × denO post} {act : Act} {w : World} (hkeep : keepB k 0 post = true) (h : finV C fn res post s = some r)
  (hS : Sim C B n [] k kn₀ m₀ s kn m act w) : ∃ u, (results fn act.tmps).run C.P w = .ok u w ∧ ∃ m', Inv C B kn m' (osto k post r.2) (k + post.length) w ∧ (∀ i, i < k → m' i = m₀ i) ∧ (∀ j, j < post.length → ∃ loc, m' (nameOf k j post) = some loc) ∧ Rel kn m' (patV (plO k post r.2) res r.1) u := by
 obtain ⟨v, h1, h2⟩ := Option.bind_eq_some_iff.1 h
 split at h2
 ·rename_i d hd
  cases h2
  obtain ⟨u, p1, p2⟩ := results_sound (s := s.st) hS.inv hS.env h1
  have hE : RelEnv kn m (xenv [v]) 1 { tmps := #[u], defers := [] } := ⟨rfl, fun t => by
   cases t with
   | zero => exact p2
   | succ t => exact .base _⟩
  obtain ⟨m', q1, q2, q3, q4⟩ := norm_sound (n := 1) hd hkeep hS.inv hE hS.lay
  exact ⟨u, p1, m', q1, fun i hi => (q3 i hi).trans (hS.base i hi), q4, q2.tmp 0⟩
 ·cases h2
theorem sigO_of {C : Cx} {l : List (Nat × Sig)} (ht : TabOK C l) {hint : Nat → RH} {g : FuncId} {pre post : Slots} {args : List Sh} {res : Sh} {an : An} {f : Sh.denL args × denO pre → Option (res.den × denO post)} (hok : (OSig.mk pre args post res f).ok = true)
  (h : ∀ x, yfunO C (sigTab l) hint g pre args post res an x = f x) : SigOK C g (.o ⟨pre, args, post, res, f⟩) := by
 refine ⟨hok, fun x r hr B kn m w vs hI hlay hargs => ?_⟩
 simp only [OSig.ok, Bool.and_eq_true] at hok
 obtain ⟨hnew, hkeep, hslots, hres⟩ := hok
 have h := (h x).trans hr
 unfold yfunO at h
 split at h
 ·cases h
 ·rename_i fn hf
  split at h
  ·cases h
  ·rename_i c hb
   split at h
   ·rename_i hc
    obtain ⟨hname, hn⟩ := hc
    refine .inl ⟨bodyOK_mk hf hb hname, ?_⟩
    have hn' : (patL (plO 0 pre x.2) args x.1).length ≤ fn.ntmps := by rw [patL_len]; exact hn
    have hS : Sim C B fn.ntmps [] pre.length kn m ⟨patL (plO 0 pre x.2) args x.1 ++ List.replicate (fn.ntmps - args.length) .undef, osto 0 pre x.2, 0 + pre.length⟩ kn m { tmps := vs.toArray ++ Array.replicate (fn.ntmps - vs.toArray.size) undef, defers := [] } w :=
     ⟨by rw [xenv_args]; exact argEnv_rel hargs hn', rfl, hI, KnLe.refl _, by show pre.length ≤ 0 + pre.length; omega, fun i hi => rfl, hlay⟩
    refine calls_of_wp hf hb (ycode_sound (sigTab_ok ht) c an mgC mgC_ok _ _ r h _ (fun e s he => ?_) kn m _ w hS)
    cases e with
    | normal =>
     intro kn' m' act' w' hS' ce hx
     cases ce <;> first | exact hx.elim | skip
     obtain ⟨u, p1, m'', q1, q2, q3, q4⟩ := finV_sound hkeep he hS'
     exact ⟨hS'.defs, u, p1, kn', m'', hS'.le, q1, q2, q3, q4⟩
    | ret =>
     intro kn' m' act' w' hS' ce hx
     cases ce <;> first | exact hx.elim | skip
     obtain ⟨u, p1, m'', q1, q2, q3, q4⟩ := finV_sound hkeep he hS'
     exact ⟨hS'.defs, u, p1, kn', m'', hS'.le, q1, q2, q3, q4⟩
    | exit i => cases he
    | goto i => cases he
    | pan v => cases he
   ·cases h
end Go.Ab

set_option maxRecDepth 100000
namespace Go.Ab
open Go Go.RowKit Go.Proofs
noncomputable def errG : Option Nat := Tryz.prog.globalNamed "strconv.ErrRange"
theorem errG_rf (g : Nat) : RF (if errG = some g then .rptr [.erri false] else .any) := by
 split
 ·exact ⟨trivial, trivial⟩
 ·trivial
def powT : List Int := (List.range 20).map fun i => ((10 ^ i : Nat) : Int)
def tabL : List (String × IntKind × List Int) := [("internal/strconv.uint64pow10", .u64, powT)]
noncomputable def tabG (g : Nat) : Option (Array Value) := (tabL.find? fun q => decide (Tryz.prog.globalNamed q.1 = some g)).map fun q => (q.2.2.map fun z => Value.int q.2.1 z).toArray
noncomputable def CX : Cx := ⟨Tryz.prog, fun g => if errG = some g then .rptr [.erri false] else .any, errG_rf, tabG⟩
@[go_sem] theorem CX_P : CX.P = Tryz.prog := rfl
def Fm.eta (f : Fm) : Fm := .mk f.k f.n f.t f.l
theorem Fm.eta_eq (f : Fm) : f.eta = f := by cases f; rfl
theorem w64 {n : Int} (h1 : -9223372036854775808 ≤ n) (h2 : n ≤ 9223372036854775807) : IntKind.wrap .i64 n = n := by rw [IntKind.wrap_i64]; omega
def ixOK (i : Int) (n : Nat) : Bool := decide (0 ≤ i ∧ i < (n : Int))
def slOK (lo hi : Int) (n : Nat) : Bool := decide (0 ≤ lo ∧ lo ≤ hi ∧ hi ≤ (n : Int))
def hiOK (hi : Int) (n : Nat) : Bool := decide (0 ≤ hi ∧ hi ≤ (n : Int))
theorem ixOK_iff {i : Int} {n : Nat} : ixOK i n = true ↔ 0 ≤ i ∧ i < (n : Int) := by unfold ixOK; exact decide_eq_true_iff
theorem slOK_iff {lo hi : Int} {n : Nat} : slOK lo hi n = true ↔ 0 ≤ lo ∧ lo ≤ hi ∧ hi ≤ (n : Int) := by unfold slOK; exact decide_eq_true_iff
theorem hiOK_iff {hi : Int} {n : Nat} : hiOK hi n = true ↔ 0 ≤ hi ∧ hi ≤ (n : Int) := by unfold hiOK; exact decide_eq_true_iff
def Le {R : Type} (p q : Option R) : Prop := ∀ r, p = some r → q = some r
theorem Le.refl {R : Type} (p : Option R) : Le p p := fun _ h => h
theorem Le.cond {R : Type} {c : Bool} {a b a' b' : Option R} (h : Le a a') (k : Le b b') : Le (cond c a b) (cond c a' b') := by cases c; exact k; exact h
theorem Le.bind {A R : Type} {a a' : Option A} {f f' : A → Option R} (h : Le a a') (k : ∀ x, Le (f x) (f' x)) : Le (Option.bind a f) (Option.bind a' f') := fun r e => by
 obtain ⟨x, h1, h2⟩ := Option.bind_eq_some_iff.1 e
 exact Option.bind_eq_some_iff.2 ⟨x, h x h1, k x r h2⟩
theorem Le.map {A R : Type} {a a' : Option A} {f : A → R} (h : Le a a') : Le (Option.map f a) (Option.map f a') := fun r e => by
 obtain ⟨x, h1, rfl⟩ := Option.map_eq_some_iff.1 e
 exact Option.map_eq_some_iff.2 ⟨x, h x h1, rfl⟩
def iterE (d : Nat) {L R : Type} (b : L → Option (Step L R)) (l : L) : Option R := iterM b d l
theorem Le.loop {L R : Type} {b b' : L → Option (Step L R)} {d : Nat} (h : ∀ l, Le (b l) (b' l)) (l : L) : Le (iterE d b l) (loopM b' l) := fun r e => by
 refine loopM_iff.2 ⟨d, ?_⟩
 unfold iterE at e
 revert l
 induction d with
 | zero => intro l e; cases e
 | succ d ih =>
  intro l e
  simp only [iterM] at e ⊢
  cases hb : b l with
  | none => rw [hb] at e; cases e
  | some q =>
   rw [hb] at e
   rw [h l q hb]
   cases q with
   | next l' => exact ih l' e
   | done r' => exact e
noncomputable def limF {R : Type} (f : Nat → Option R) : Option R :=
 match Classical.propDecidable (∃ r k, f k = some r) with
 | .isTrue h => some (Classical.choose h)
 | .isFalse _ => none
theorem limF_ex {R : Type} {f : Nat → Option R} {r : R} (h : limF f = some r) : ∃ k, f k = some r := by
 unfold limF at h
 split at h
 ·rename_i h' e; cases h; exact Classical.choose_spec h'
 ·cases h
theorem limF_eq {R : Type} {f : Nat → Option R} {r : R} (h : ∃ k, f k = some r) (u : ∀ k r', f k = some r' → r' = r) : limF f = some r := by
 cases hx : limF f with
 | some r' => obtain ⟨k, hk⟩ := limF_ex hx; rw [u k r' hk]
 | none =>
  unfold limF at hx
  split at hx
  ·cases hx
  ·rename_i h' e; exact absurd ⟨r, h⟩ h'
theorem SigOK.limN {C : Cx} {g : FuncId} {args : List Sh} {res : Sh} {f : Nat → Sh.denL args → Option res.den} {f' : Sh.denL args → Option res.den} (h : ∀ k, SigOK C g (.n args res (f k))) (hf : ∀ x r, f' x = some r → ∃ k, f k x = some r) : SigOK C g (.n args res f') := SigOK.specK h hf
theorem SigOK.limO {C : Cx} {g : FuncId} {pre post : Slots} {args : List Sh} {res : Sh} {f : Nat → Sh.denL args × denO pre → Option (res.den × denO post)} {f' : Sh.denL args × denO pre → Option (res.den × denO post)} (h : ∀ k, SigOK C g (.o ⟨pre, args, post, res, f k⟩)) (hf : ∀ x r, f' x = some r → ∃ k, f k x = some r) : SigOK C g (.o ⟨pre, args, post, res, f'⟩) :=
 ⟨(h 0).1, fun x r hr => by obtain ⟨k, hk⟩ := hf x r hr; exact (h k).2 x r hk⟩
end Go.Ab

namespace Go.Ab
open Go
theorem Fm.ind {P : Fm → Prop} (h : ∀ k n t l, (∀ f ∈ l, P f) → P (.mk k n t l)) : ∀ f, P f := fun f => Fm.rec (motive_1 := P) (motive_2 := fun l => ∀ f ∈ l, P f) (fun k n t l ih => h k n t l ih) (fun f hf => by cases hf) (fun f r hf hr g hg => by
  rcases List.mem_cons.1 hg with rfl | hg
  ·exact hf
  ·exact hr g hg) f
mutual
def Fm.big : Fm → Nat
 | .mk _ _ t l => 1 + t.length + Fm.bigL l
def Fm.bigL : List Fm → Nat
 | [] => 0
 | f :: r => f.big + Fm.bigL r
end
theorem big_mem {l : List Fm} {f : Fm} (h : f ∈ l) : f.big ≤ Fm.bigL l := by
 induction l with
 | nil => cases h
 | cons g r ih => rcases List.mem_cons.1 h with rfl | h <;> simp only [Fm.bigL] <;> first | omega | (have := ih h; omega)
theorem big_pos (f : Fm) : 1 ≤ f.big := by cases f; simp only [Fm.big]; omega
theorem big_kids (f : Fm) : Fm.bigL f.l < f.big := by cases f; simp only [Fm.big, Fm.l]; omega
theorem length_le_big (l : List Fm) : l.length ≤ Fm.bigL l := by
 induction l with
 | nil => simp [Fm.bigL]
 | cons f r ih => simp only [Fm.bigL, List.length_cons]; have := big_pos f; omega
def cmpI (a b : Int) : Int := if a < b then -1 else if b < a then 1 else 0
def cmpS (a b : List UInt8) : Int := if Op.bytesLess a b = true then -1 else if a = b then 0 else 1
mutual
def cmpF : Fm → Fm → Int
 | .mk k n t l, g => if ¬ k = g.k then cmpI k g.k else if k = 0 then cmpI n g.n else if k = 1 ∨ k = 2 then cmpS t g.t else if k = 3 then cmpL l g.l else 0
def cmpL : List Fm → List Fm → Int
 | [], m => if m = [] then 0 else -1
 | f :: r, m => match m with
  | [] => 1
  | g :: m => if ¬ cmpF f g = 0 then cmpF f g else cmpL r m
end
theorem cmpL_drop {l m : List Fm} {i : Nat} (h : i < l.length) (h' : i < m.length) : cmpL (l.drop i) (m.drop i) = if ¬ cmpF l[i] m[i] = 0 then cmpF l[i] m[i] else cmpL (l.drop (i + 1)) (m.drop (i + 1)) := by
 rw [List.drop_eq_getElem_cons h, List.drop_eq_getElem_cons h']; simp only [cmpL]
theorem bytesLess_irrefl : ∀ a : List UInt8, Op.bytesLess a a = false
 | [] => rfl
 | a :: x => by simp [Op.bytesLess, bytesLess_irrefl x]
theorem cmpF_mk (k k' : Int) (n n' : Int) (t t' : List UInt8) (l l' : List Fm) : cmpF (.mk k n t l) (.mk k' n' t' l') = if k = k' then (if k = 0 then cmpI n n' else if k = 1 ∨ k = 2 then cmpS t t' else if k = 3 then cmpL l l' else 0) else cmpI k k' := by
 by_cases h : k = k'
 ·subst h; simp [cmpF, Fm.k, Fm.n, Fm.t, Fm.l]
 ·simp [cmpF, Fm.k, h]
theorem cmpI_self (a : Int) : cmpI a a = 0 := by unfold cmpI; simp
theorem cmpL_self_of : ∀ l : List Fm, (∀ f ∈ l, cmpF f f = 0) → cmpL l l = 0
 | [], _ => by simp [cmpL]
 | f :: r, h => by simp only [cmpL, h f (by simp)]; simpa using cmpL_self_of r (fun f hf => h f (by simp [hf]))
theorem cmpS_self (a : List UInt8) : cmpS a a = 0 := by simp [cmpS, bytesLess_irrefl]
theorem cmpF_self : ∀ f : Fm, cmpF f f = 0 := Fm.ind fun k n t l ih => by
 rw [cmpF_mk, if_pos rfl]
 split
 ·exact cmpI_self _
 ·split
  ·exact cmpS_self _
  ·split
   ·exact cmpL_self_of l ih
   ·rfl
def Up {R : Type} (N : Prop) (o : Option R) (v : R) : Prop := o = some v ∨ (o = none ∧ N)
theorem Up.mono {R : Type} {N N' : Prop} {o : Option R} {v : R} (h : Up N o v) (k : N → N') : Up N' o v := h.imp id fun h => ⟨h.1, k h.2⟩
theorem Up.of {R : Type} {N : Prop} {o : Option R} {v : R} (h : o = some v) : Up N o v := .inl h
theorem Up.bind {R S : Type} {N : Prop} {o : Option R} {v : R} {F : R → Option S} {u : S} (h : Up N o v) (k : Up N (F v) u) : Up N (Option.bind o F) u := by
 rcases h with h | ⟨h, n⟩
 ·rw [h]; exact k
 ·exact .inr ⟨by rw [h]; rfl, n⟩
theorem limF_up {R : Type} {f : Nat → Option R} {v : R} {b : Nat} (h : ∀ k, Up (k < b) (f k) v) : limF f = some v := by
 refine limF_eq ⟨b, ?_⟩ fun k r hr => ?_
 ·rcases h b with h | ⟨_, h⟩
  ·exact h
  ·omega
 ·rcases h k with h | ⟨h, _⟩
  ·rw [h] at hr; cases hr; rfl
  ·rw [h] at hr; cases hr
theorem loopM_none {L R : Type} {b : L → Option (Step L R)} {l : L} (h : b l = none) : loopM b l = none := by
 cases hx : loopM b l with
 | none => rfl
 | some r =>
  obtain ⟨d, hd⟩ := loopM_iff.1 hx
  cases d with
  | zero => cases hd
  | succ d => simp only [iterM, h] at hd; cases hd
theorem loop_ix {L R A : Type} {N : Prop} {b : L → Option (Step L R)} {F : R → Option A} (st : Nat → L) (res : Nat → A) (n : Nat)
  (hstep : ∀ i, i < n → (b (st i) = some (.next (st (i + 1))) ∧ res i = res (i + 1)) ∨ (∃ r, b (st i) = some (.done r) ∧ Up N (F r) (res i)) ∨ (b (st i) = none ∧ N))
  (hend : ∃ r, b (st n) = some (.done r) ∧ Up N (F r) (res n)) : Up N (Option.bind (loopM b (st 0)) F) (res 0) := by
 have key : ∀ j i, i + j = n → Up N (Option.bind (loopM b (st i)) F) (res i) := by
  intro j
  induction j with
  | zero =>
   intro i hi
   obtain rfl : i = n := by omega
   obtain ⟨r, h1, h2⟩ := hend
   rw [loopM_done h1]; exact h2
  | succ j ih =>
   intro i hi
   rcases hstep i (by omega) with ⟨h1, h2⟩ | ⟨r, h1, h2⟩ | ⟨h1, h2⟩
   ·rw [loopM_next h1, h2]; exact ih (i + 1) (by omega)
   ·rw [loopM_done h1]; exact h2
   ·rw [loopM_none h1]; exact .inr ⟨rfl, h2⟩
 exact key n 0 (by omega)
theorem wrapN {i : Nat} (h : i < 4611686018427387904) : IntKind.wrap .i64 ((i : Int) + 1) = ((i + 1 : Nat) : Int) := by
 rw [w64 (by omega) (by omega)]; rfl
theorem getD_in {α : Type} {l : List α} {i : Nat} (h : i < l.length) (d : α) : l.getD i d = l[i] := by simp [h]
end Go.Ab
