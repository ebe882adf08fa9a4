/-
  REGIONS THAT DRAW THEIR ORDER, by an order of one's own choice.
-/
import Derived.Test.YtmompmackgknbaaDoorAb18
set_option linter.unusedVariables false
set_option linter.unusedSimpArgs false
namespace Go.Ab
open Go Go.RowKit

def setL (n : Nat) (l : List Nat) : Array Bool := Array.ofFn (n := n) fun i => decide (i.val ∈ l)
theorem setL_getD (n : Nat) (l : List Nat) (j : Nat) (d : Bool) : (setL n l).getD j d = if j < n then decide (j ∈ l) else d := by
  rw [Array.getD_eq_getD_getElem?]
  unfold setL
  by_cases h : j < n <;> simp [h]
theorem setL_set (n : Nat) (l : List Nat) (k : Nat) : (setL n l).setIfInBounds k true = setL n (l ++ [k]) := by
  apply Array.ext
  · simp [setL]
  · intro i h1 h2
    have e1 : ((setL n l).setIfInBounds k true)[i] = ((setL n l).setIfInBounds k true).getD i false := by simp [Array.getD_eq_getD_getElem?, Array.getElem?_eq_getElem h1]
    have e2 : (setL n (l ++ [k]))[i] = (setL n (l ++ [k])).getD i false := by simp [Array.getD_eq_getD_getElem?, Array.getElem?_eq_getElem h2]
    have hin : i < n := by simpa [setL] using h2
    rw [e1, e2, setL_getD, if_pos hin]
    by_cases hk : k = i
    · subst hk
      have : k < (setL n l).size := by simpa [setL] using hin
      simp [Array.getD_eq_getD_getElem?, this]
    · rw [getD_set_ne false hk, setL_getD, if_pos hin]
      have : (i ∈ l) = (i ∈ l ++ [k]) := by apply propext; simp; exact fun e => absurd e.symm hk
      simp only [this]
theorem setL_nil (n : Nat) : Array.replicate n false = setL n [] := by
  apply Array.ext <;> simp [setL]

def cntA (ops : Array Oper) (l : List Nat) : Nat := (l.filter fun i => match ops[i]? with | some o => isAlloc o.op | none => false).length
/-- What an order of one's own owes. -/
def permOK (P : Program) (H : Hints) (tl : List Nat) (ops : Array Oper) (ms : List Nat) (π : List Nat) : Bool :=
  waitsOK ops ms && (decide (π.length = ops.size) && ((List.range ops.size).all (fun i => π.contains i) && (List.range π.length).all fun q => match π[q]? with
    | some j => match ops[j]? with
      | some oj => (!(π.take q).contains j && (oj.after.all fun e => !Region.binds .any e || (π.take q).contains e.on)) && ((!isAlloc oj.op || cntA ops (π.take q) == rk ops.toList j) &&
          (List.range q).all fun p => match π[p]? with
            | some i => (decide (i < j) && (ms.getD j 0).testBit i) || match ops[i]? with
              | some oi => swapOK P H (tl.contains p) ops oi oj
              | none => true
            | none => true)
      | none => false
    | none => true))

theorem sub_bound : ∀ (L A : List Nat), L.Nodup → (∀ x ∈ L, x ∈ A) → L.length ≤ A.length
  | [], A, _, _ => Nat.zero_le _
  | x :: L, A, hn, h => by
    have hx := h x (by simp)
    have := sub_bound L (A.erase x) (List.nodup_cons.1 hn).2 (fun y hy => by
      have hne : y ≠ x := fun e => (List.nodup_cons.1 hn).1 (e ▸ hy)
      exact (List.mem_erase_of_ne hne).2 (h y (by simp [hy])))
    rw [List.length_erase_of_mem hx] at this
    have : 0 < A.length := List.length_pos_of_mem hx
    simp only [List.length_cons]; omega

section
variable {C : Cx} {H : Hints} {ops : Array Oper} {p₀ n₀ : Nat}

structure PermOK (P : Program) (H : Hints) (tl : List Nat) (ops : Array Oper) (ms : List Nat) (π : List Nat) : Prop where
  waits : waitsOK ops ms = true
  len : π.length = ops.size
  all : ∀ i, i < ops.size → i ∈ π
  get : ∀ q j, π[q]? = some j → ∃ oj, ops[j]? = some oj ∧ j ∉ π.take q ∧ (∀ e ∈ oj.after, Region.binds .any e = true → e.on ∈ π.take q) ∧ (isAlloc oj.op = true → cntA ops (π.take q) = rk ops.toList j) ∧
    ∀ p i oi, p < q → π[p]? = some i → ops[i]? = some oi → (i < j ∧ (ms.getD j 0).testBit i = true) ∨ swapOK P H (tl.contains p) ops oi oj = true
theorem permOK_spec {P : Program} {H : Hints} {tl : List Nat} {ops : Array Oper} {ms π : List Nat} (h : permOK P H tl ops ms π = true) : PermOK P H tl ops ms π := by
  unfold permOK at h
  simp only [Bool.and_eq_true, decide_eq_true_eq] at h
  obtain ⟨h1, h2, h3, h4⟩ := h
  refine ⟨h1, h2, fun i hi => ?_, fun q j hq => ?_⟩
  · have := List.all_eq_true.1 h3 i (List.mem_range.2 hi)
    simpa using this
  · have hql : q < π.length := (List.getElem?_eq_some_iff.1 hq).1
    have := List.all_eq_true.1 h4 q (List.mem_range.2 hql)
    rw [hq] at this
    simp only at this
    split at this
    · rename_i oj hoj
      simp only [Bool.and_eq_true] at this
      obtain ⟨⟨a, b⟩, c, d⟩ := this
      refine ⟨oj, hoj, by simpa using a, fun e he hb => ?_, fun ha => ?_, fun p i oi hp hpi hoi => ?_⟩
      · have := Array.all_eq_true_iff_forall_mem.1 b e he
        simpa [hb] using this
      · simpa [ha] using c
      · have := List.all_eq_true.1 d p (List.mem_range.2 hp)
        rw [hpi] at this
        simp only [hoi, Bool.or_eq_true, Bool.and_eq_true, decide_eq_true_eq] at this
        exact this
    · cases this

theorem aAny_perm {K : St → Prop} {KP : AV → Sto → Nat → Prop} {tl ms π : List Nat} (hB : PermOK C.P H tl ops ms π) : ∀ (r pre : List Nat) (s : St), π = pre ++ r → aseq C H (fun i => tl.contains (π.idxOf i)) ops p₀ n₀ K KP r s → aAny C H (fun i => tl.contains (π.idxOf i)) ops p₀ n₀ K KP r.length (setL ops.size pre) s := by
  intro r
  induction r with
  | nil =>
    intro pre s hp h
    refine ⟨?_, h⟩
    cases hr : Region.ready .any ops (setL ops.size pre) with
    | nil => rfl
    | cons j rest =>
      have hj : j ∈ Region.ready .any ops (setL ops.size pre) := by rw [hr]; simp
      obtain ⟨hun, oj, hoj, _⟩ := mem_ready.1 hj
      have hlt := (Array.getElem?_eq_some_iff.1 hoj).1
      rw [setL_getD, if_pos hlt] at hun
      have := hB.all j hlt
      rw [hp, List.append_nil] at this
      simp [this] at hun
  | cons k r ih =>
    intro pre s hp h
    have hk : π[pre.length]? = some k := by rw [hp]; simp
    obtain ⟨ok, hok, hnk, hek, _, _⟩ := hB.get _ _ hk
    have hlt := (Array.getElem?_eq_some_iff.1 hok).1
    have htk : π.take pre.length = pre := by rw [hp]; simp
    rw [htk] at hnk hek
    simp only [aseq] at h
    have hcl : Closed ops (setL ops.size pre) := by
      intro j o ho hl e he hb
      have hj := (Array.getElem?_eq_some_iff.1 ho).1
      rw [setL_getD, if_pos hj] at hl
      have hjp : j ∈ pre := by simpa using hl
      obtain ⟨q, hq, hqj⟩ := List.mem_iff_getElem.1 hjp
      have hqπ : π[q]? = some j := by rw [hp, List.getElem?_append_left hq, List.getElem?_eq_getElem hq, hqj]
      obtain ⟨oj, hoj, _, hej, _, _⟩ := hB.get _ _ hqπ
      rw [ho] at hoj; cases hoj
      have hm := hej e he hb
      have hm' : e.on ∈ pre := by
        rw [hp, List.take_append_of_le_length (Nat.le_of_lt hq)] at hm
        exact List.mem_of_mem_take hm
      have hin : e.on < ops.size := by
        obtain ⟨q', hq', hqe⟩ := List.mem_iff_getElem.1 hm'
        have hqπ' : π[q']? = some e.on := by rw [hp, List.getElem?_append_left hq', List.getElem?_eq_getElem hq', hqe]
        obtain ⟨oe, hoe, _⟩ := hB.get _ _ hqπ'
        exact (Array.getElem?_eq_some_iff.1 hoe).1
      rw [setL_getD, if_pos hin]; simp [hm']
    have hrd : k ∈ Region.ready .any ops (setL ops.size pre) := by
      refine mem_ready.2 ⟨by rw [setL_getD, if_pos hlt]; simp [hnk], _, hok, fun e he hb => ?_⟩
      have hm' := hek e he hb
      have hin : e.on < ops.size := by
        obtain ⟨q', hq', hqe⟩ := List.mem_iff_getElem.1 hm'
        have hqπ' : π[q']? = some e.on := by rw [hp, List.getElem?_append_left hq', List.getElem?_eq_getElem hq', hqe]
        obtain ⟨oe, hoe, _⟩ := hB.get _ _ hqπ'
        exact (Array.getElem?_eq_some_iff.1 hoe).1
      rw [setL_getD, if_pos hin]; simp [hm']
    have hidx : π.idxOf k = pre.length := by
      rw [hp, List.idxOf_append, if_neg hnk]; simp
    have rest : ∀ j, j < ops.size → j ∉ pre → j ≠ k → j ∈ r := by
      intro j hj hjp hjk
      have := hB.all j hj
      rw [hp] at this
      rcases List.mem_append.1 this with h | h
      · exact absurd h hjp
      · rcases List.mem_cons.1 h with h | h
        · exact absurd h hjk
        · exact h
    refine aAny_first hok _ _ s (fun l' j oj hc' hsub hoj hjk hun hj => ?_) (fun L hL hLu => ?_) hcl hrd ?_
    · have hjs := (Array.getElem?_eq_some_iff.1 hoj).1
      obtain ⟨hjun, oj', hoj', hall⟩ := mem_ready.1 hj
      rw [hoj] at hoj'; cases hoj'
      have hjp : j ∉ pre := fun hm => by
        have := hsub j (by rw [setL_getD, if_pos hjs]; simp [hm])
        rw [this] at hjun; cases hjun
      have hjr := rest j hjs hjp hjk
      obtain ⟨q, hq, hqj⟩ := List.mem_iff_getElem.1 hjr
      have hqπ : π[pre.length + (q + 1)]? = some j := by
        rw [hp, List.getElem?_append_right (by omega)]
        simp [hq, hqj]
      obtain ⟨oj', hoj', _, _, _, hpair⟩ := hB.get _ _ hqπ
      rw [hoj] at hoj'; cases hoj'
      rcases hpair pre.length k ok (by omega) hk hok with ⟨hkj, hbit⟩ | hsw
      · have := waits_spec hB.waits hc' j oj hoj hall k hkj hbit
        rw [Array.getD_eq_getD_getElem?] at this hun
        cases hq : l'[k]? with
        | none => rw [hq] at hun; cases hun
        | some q => rw [hq] at this hun; simp at this hun; rw [this] at hun; cases hun
      · simp only [hidx]; exact hsw
    · have := sub_bound L (k :: r) hL (fun x hx => by
        have := hLu x hx
        rw [setL_getD] at this
        split at this
        · rename_i hxl
          by_cases hxk : x = k
          · simp [hxk]
          · have hxp : x ∉ pre := by simpa using this
            simp [rest x hxl hxp hxk]
        · cases this)
      simpa using this
    · rw [setL_set]
      exact aopAt_mono (fun s' h' => ih (pre ++ [k]) s' (by rw [hp]; simp) h') h

theorem fop_al {al al' : Nat × Nat} {op : Op} {env : Nat → AV} {σ : Sto} (h : isAlloc op = false) : fop C al op env σ = fop C al' op env σ := by
  cases op <;> first | rfl | (simp [isAlloc] at h)
theorem aop_al {tot : Bool} {al al' : Nat × Nat} {o : Oper} {K KP : AV → Sto → Nat → Prop} {s : St} (h : isAlloc o.op = false) (hh : aop C H tot al o K KP s) : aop C H tot al' o K KP s := by
  unfold aop at hh ⊢
  split
  · rename_i e; rw [e] at hh; obtain ⟨v, a, b⟩ := hh; exact ⟨v, by rw [fop_al h]; exact a, b⟩
  · rename_i e; rw [e] at hh; exact hh
  · rename_i e; rw [e] at hh; exact hh
  · rename_i e; rw [e] at hh; exact hh
  · rename_i e; rw [e] at hh; exact hh
theorem cntA_snoc (ops : Array Oper) (l : List Nat) (k : Nat) (o : Oper) (h : ops[k]? = some o) : cntA ops (l ++ [k]) = cntA ops l + (if isAlloc o.op = true then 1 else 0) := by
  unfold cntA
  rw [List.filter_append, List.length_append]
  congr 1
  rw [List.filter_cons, h]
  simp only
  split <;> simp
theorem aseq_of_pareg {K : St → Prop} {KP : AV → Sto → Nat → Prop} {tl ms π : List Nat} (hB : PermOK C.P H tl ops ms π) : ∀ (r pre : List Nat) (s : St), π = pre ++ r →
    areg C H (fun i => tl.contains i) ops K KP (r.filterMap (ops[·]?)) pre.length (p₀ + cntA ops pre, n₀ + cntA ops pre) s → aseq C H (fun i => tl.contains (π.idxOf i)) ops p₀ n₀ K KP r s
  | [], pre, s, hp, h => h
  | k :: r, pre, s, hp, h => by
    have hk : π[pre.length]? = some k := by rw [hp]; simp
    obtain ⟨ok, hok, hnk, _, hal, _⟩ := hB.get _ _ hk
    have htk : π.take pre.length = pre := by rw [hp]; simp
    rw [htk] at hnk hal
    have hidx : π.idxOf k = pre.length := by
      rw [hp, List.idxOf_append, if_neg hnk]; simp
    have hcnt := cntA_snoc ops pre k ok hok
    have hnext : (if isAlloc ok.op = true then (p₀ + cntA ops pre + 1, n₀ + cntA ops pre + 1) else (p₀ + cntA ops pre, n₀ + cntA ops pre)) = (p₀ + cntA ops (pre ++ [k]), n₀ + cntA ops (pre ++ [k])) := by
      rw [hcnt]; split <;> simp [Nat.add_assoc]
    simp only [List.filterMap_cons, hok, areg, hnext] at h
    simp only [aseq, aopAt, hok, hidx]
    obtain ⟨t, a, b, c⟩ := h
    have hlen : pre.length + 1 = (pre ++ [k]).length := by simp
    rw [hlen] at b c
    refine ⟨t, a, fun ht => ?_, fun ht => aseq_of_pareg hB r (pre ++ [k]) _ (by rw [hp]; simp) (c ht)⟩
    have hb := aop_mono (b ht) (fun v σ nx hh => aseq_of_pareg hB r (pre ++ [k]) _ (by rw [hp]; simp) hh) (fun _ _ _ hh => hh)
    by_cases ha : isAlloc ok.op = true
    · rw [← hal ha]; exact hb
    · exact aop_al (by simpa using ha) hb
end

section
variable {C : Cx} {n : Nat} {ds : List Deferred} {Q : AExit → St → Prop} {s : St} {id : Nat} {ops : Array Oper} {y : Code} {objs : Sto}
/-- **A region that draws its order**: an order of one's own suffices. -/
theorem aw_pdraw {H : Hints} {tl ms π : List Nat} {l : List Oper} (hm : C.P.follows .mixedOrders = true) (hB : permOK C.P H tl ops ms π = true) (hd : dstOK n ops = true) (ho : allocObjs C.P ops.toList s.nx = some objs) (hl : π.filterMap (ops[·]?) = l)
    (h : areg C H (fun i => tl.contains i) ops (Q .normal) (fun v σ nx => ∀ env, Q (.pan v) ⟨env, σ, nx⟩) l 0 (s.σ.length, s.nx) ⟨s.env, s.σ ++ objs, s.nx + objs.length⟩) : aw C n ds (.region id ops true) Q s := by
  subst hl
  have hP := permOK_spec hB
  intro B kn m act w h1 h2 h3
  obtain ⟨hI', hk'⟩ := h3.ahead ho
  refine wp_region_any hm ?_
  have hs := aseq_of_pareg (p₀ := s.σ.length) (n₀ := s.nx) hP π [] ⟨s.env, s.σ ++ objs, s.nx + objs.length⟩ rfl h
  have ha := aAny_perm hP π [] _ rfl hs
  rw [hP.len] at ha
  rw [setL_nil]
  refine aAny_sound (KP := fun v σ nx => ∀ env, Q (.pan v) ⟨env, σ, nx⟩) (K := Q .normal) (B := B) (n := n) (ds := ds) (kn₀ := kn) (m₀ := m) (σ₀ := s.σ) (nx₀ := s.nx) h3.lt (dstOK_sound hd) (fun s' kn' m' act' w' hK hR => ⟨.normal, s', kn', m', trivial, hR, hK⟩)
    (fun v u env' kn' m' σ' nx' act' w' hKP hv hR => ⟨.pan v, ⟨env', σ', nx'⟩, kn', m', ⟨u, rfl, hv⟩, hR, hKP env'⟩) ops.size (setL ops.size []) ⟨s.env, s.σ ++ objs, s.nx + objs.length⟩ kn m act _ ⟨⟨h1, h2, hI'.drew, KnLe.refl _, hk'⟩, ?_⟩ ha
  intro j o T hj hT _
  obtain ⟨z, hz, hg⟩ := allocObjs_get ho (j := j) (by simpa using hj) hT
  refine ⟨h3.dom _ (Nat.le_add_right _ _), ?_, Nat.le_add_right _ _, z, hz, ?_⟩
  · have := (List.getElem?_eq_some_iff.1 hg).1; simp; omega
  · rw [List.getElem?_append_right (Nat.le_add_right _ _), Nat.add_sub_cancel_left]; exact hg
theorem aw_spdraw (H : Hints) (tl ms π : List Nat) (hm : C.P.follows .mixedOrders = true) (hB : permOK C.P H tl ops ms π = true) (hd : dstOK n ops = true) (ho : allocObjs C.P ops.toList s.nx = some objs) {l : List Oper} (hl : π.filterMap (ops[·]?) = l)
    (h : ∀ (K : St → Prop) (KP : AV → Sto → Nat → Prop), (∀ s, aw C n ds y Q s → K s) → (∀ v σ nx, (∀ env, Q (.pan v) ⟨env, σ, nx⟩) → KP v σ nx) →
      areg C H (fun i => tl.contains i) ops K KP l 0 (s.σ.length, s.nx) ⟨s.env, s.σ ++ objs, s.nx + objs.length⟩) : aw C n ds (.seq (.region id ops true) y) Q s :=
  aw_seq (aw_pdraw hm hB hd ho hl (h _ _ (fun _ h => h) (fun _ _ _ h env => h env)))
theorem aw_lpdraw (H : Hints) (tl ms π : List Nat) (hm : C.P.follows .mixedOrders = true) (hB : permOK C.P H tl ops ms π = true) (hd : dstOK n ops = true) (ho : allocObjs C.P ops.toList s.nx = some objs) {l : List Oper} (hl : π.filterMap (ops[·]?) = l)
    (h : ∀ (K : St → Prop) (KP : AV → Sto → Nat → Prop), (∀ s, Q .normal s → K s) → (∀ v σ nx, (∀ env, Q (.pan v) ⟨env, σ, nx⟩) → KP v σ nx) →
      areg C H (fun i => tl.contains i) ops K KP l 0 (s.σ.length, s.nx) ⟨s.env, s.σ ++ objs, s.nx + objs.length⟩) : aw C n ds (.region id ops true) Q s :=
  aw_pdraw hm hB hd ho hl (h _ _ (fun _ h => h) (fun _ _ _ h env => h env))
end

/-! ### What is owed behind deferred calls -/
@[go_sem] theorem CPost_nil_ret (C : Cx) (R : Option AV → Sto → Nat → Prop) (env : Nat → AV) (σ : Sto) (nx : Nat) : CPost C [] R .ret ⟨env, σ, nx⟩ ↔ R none σ nx := ⟨fun h => h.2, fun h => ⟨⟨.tup [], rfl⟩, h⟩⟩
@[go_sem] theorem CPost_nil_normal (C : Cx) (R : Option AV → Sto → Nat → Prop) (env : Nat → AV) (σ : Sto) (nx : Nat) : CPost C [] R .normal ⟨env, σ, nx⟩ ↔ R none σ nx := ⟨fun h => h.2, fun h => ⟨⟨.tup [], rfl⟩, h⟩⟩
@[go_sem] theorem DPost_ret (C : Cx) (rs : List ResultVar) (Q : AOut → Sto → Nat → Prop) (dl : List (FuncId × List AV)) (s : St) : DPost C rs Q .ret dl s ↔ LeavesA C rs Q dl none s := Iff.rfl
@[go_sem] theorem DPost_normal (C : Cx) (rs : List ResultVar) (Q : AOut → Sto → Nat → Prop) (dl : List (FuncId × List AV)) (s : St) : DPost C rs Q .normal dl s ↔ LeavesA C rs Q dl none s := Iff.rfl
@[go_sem] theorem DPost_pan (C : Cx) (rs : List ResultVar) (Q : AOut → Sto → Nat → Prop) (dl : List (FuncId × List AV)) (s : St) (v : AV) : DPost C rs Q (.pan v) dl s ↔ LeavesA C rs Q dl (some v) s := Iff.rfl
/-- One deferred call of one outcome, and the results. -/
theorem leaves_one {C : Cx} {rs : List ResultVar} {Q : AOut → Sto → Nat → Prop} {g : FuncId} {as : List AV} {u : Option AV} {env : Nat → AV} {σ σ1 : Sto} {nx : Nat} (h : DCall C g as σ nx u (fun u' σ' _ => u' = none ∧ σ' = σ1)) (hk : ∀ nx1, afin σ1 nx1 Q (resA C.P rs ⟨env, σ1, nx1⟩)) : LeavesA C rs Q [(g, as)] u ⟨env, σ, nx⟩ := by
  refine ⟨_, h, ?_⟩
  rintro u' σ' nx' ⟨rfl, rfl⟩
  exact (afin_iff _ _ _ _).1 (hk nx')

/-! ### What is nil of an interface, a function, a pointer, a map -/
def isIfcT (P : Program) (t : TypeId) : Bool := match P.underlying t with | some (.interface _) => true | _ => false
def isFncT (P : Program) (t : TypeId) : Bool := match P.underlying t with | some (.func _ _ _) => true | _ => false
@[go_sem high] theorem nilTest_iface {P : Program} {t : TypeId} (h : isIfcT P t = true) (a : TypeId) (v : AV) : nilTest P t (.iface a v) = some false := by
  unfold isIfcT at h
  unfold nilTest
  split at h
  · rename_i m e; rw [e]; rfl
  · cases h
@[go_sem high] theorem nilTest_nilIface {P : Program} {t : TypeId} (h : isIfcT P t = true) : nilTest P t (.base .nilIface) = some true := by
  unfold isIfcT at h
  unfold nilTest
  split at h
  · rename_i m e; rw [e]; rfl
  · cases h
@[go_sem high] theorem nilTest_fn {P : Program} {t : TypeId} (h : isFncT P t = true) (f : Fn) (a c : List AV) : nilTest P t (.fn f a c) = some false := by
  unfold isFncT at h
  unfold nilTest
  split at h
  · rename_i m e; rw [e]; rfl
  · cases h
@[go_sem high] theorem nilTest_nilFunc {P : Program} {t : TypeId} (h : isFncT P t = true) : nilTest P t (.base .nilFunc) = some true := by
  unfold isFncT at h
  unfold nilTest
  split at h
  · rename_i m e; rw [e]; rfl
  · cases h

/-! ### Places behind a store that is not told -/
@[go_sem] theorem sto_assoc (a b c : Sto) : a ++ b ++ c = a ++ (b ++ c) := List.append_assoc a b c
theorem sget_appk (σ l : Sto) (k n : Nat) : sget (σ ++ l) (σ.length + k) n = sget l k n := by unfold sget; rw [List.getElem?_append_right (by omega), Nat.add_sub_cancel_left]
@[go_sem] theorem sget_app0 (σ l : Sto) (n : Nat) : sget (σ ++ l) (σ.length) n = sget l 0 n := sget_appk σ l 0 n
@[go_sem] theorem sget_app1 (σ l : Sto) (n : Nat) : sget (σ ++ l) (σ.length + 1) n = sget l 1 n := sget_appk σ l 1 n
@[go_sem] theorem sget_app2 (σ l : Sto) (n : Nat) : sget (σ ++ l) (σ.length + 1 + 1) n = sget l 2 n := sget_appk σ l 2 n
@[go_sem] theorem sget_app3 (σ l : Sto) (n : Nat) : sget (σ ++ l) (σ.length + 1 + 1 + 1) n = sget l 3 n := sget_appk σ l 3 n
@[go_sem] theorem sget_app4 (σ l : Sto) (n : Nat) : sget (σ ++ l) (σ.length + 1 + 1 + 1 + 1) n = sget l 4 n := sget_appk σ l 4 n
@[go_sem] theorem set_app1 (σ l : Sto) (x : Nat × AObj) : (σ ++ l).set (σ.length + 1) x = σ ++ l.set 1 x := by rw [List.set_append_right _ _ (by omega)]; congr 2; omega
@[go_sem] theorem set_app2 (σ l : Sto) (x : Nat × AObj) : (σ ++ l).set (σ.length + 1 + 1) x = σ ++ l.set 2 x := by rw [List.set_append_right _ _ (by omega)]; congr 2; omega
@[go_sem] theorem set_app3 (σ l : Sto) (x : Nat × AObj) : (σ ++ l).set (σ.length + 1 + 1 + 1) x = σ ++ l.set 3 x := by rw [List.set_append_right _ _ (by omega)]; congr 2; omega
@[go_sem] theorem set_app4 (σ l : Sto) (x : Nat × AObj) : (σ ++ l).set (σ.length + 1 + 1 + 1 + 1) x = σ ++ l.set 4 x := by rw [List.set_append_right _ _ (by omega)]; congr 2; omega
end Go.Ab
