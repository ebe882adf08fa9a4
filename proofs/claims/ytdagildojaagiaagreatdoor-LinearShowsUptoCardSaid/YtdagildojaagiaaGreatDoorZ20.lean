/-
  LinearShows: the card. For every argument of bulk at most 1048576, as the card says.
-/
import Derived.Test.YtdagildojaagiaaGreatDoorZ19
import Derived.Test.YtdagildojaagiaaGreatDoorZ12
set_option linter.unusedVariables false
set_option linter.unusedSimpArgs false
set_option maxRecDepth 100000
namespace Go.Ab
open Go Go.RowKit Go.Proofs
structure Light (rows : List (Int × List (Int × Fm))) : Prop where
 len : rows.length ≤ 14
 each : ∀ s ∈ rows, s.2.length ≤ 8
theorem light_val {rows : List (Int × List (Int × Fm))} (hr : rows.length ≤ 1000000000) : ∃ b, G_light34 rows = some b ∧ (b = true → Light rows) := by
 unfold G_light34
 by_cases h14 : (rows.length : Int) > 14
 ·exact ⟨false, cond_of (decide_eq_true h14) rfl, fun h => by cases h⟩
 ·rw [decide_eq_false h14, cond_false]
  refine bind_wp (fun d => ∃ i : Nat, d = ((rows, (i : Int), ()), ()) ∧ i ≤ rows.length ∧ ∀ j (h : j < rows.length), j < i → rows[j].2.length ≤ 8) (fun d => rows.length - d.1.2.1.toNat) ?_ ⟨0, rfl, Nat.zero_le _, fun j h a => by omega⟩
  rintro d ⟨i, rfl, hi, hg⟩
  simp only [Int.toNat_natCast]
  by_cases hi' : i < rows.length
  ·have e1 : decide ((i : Int) < (rows.length : Int)) = true := by apply decide_eq_true; omega
   have x1 : ixOK (i : Int) rows.length = true := ixOK_iff.2 (by omega)
   have g1 : rows.getD i ((0 : Int), ([] : List (Int × Fm))) = rows[i] := getD_in hi' _
   simp only [e1, x1, g1, cond_true, Int.toNat_natCast, wrapN (show i < 4611686018427387904 by omega)]
   by_cases h8 : (rows[i].2.length : Int) > 8
   ·simp only [h8, decide_true, cond_true]
    exact .inr ⟨_, rfl, _, rfl, fun h => by cases h⟩
   ·simp only [h8, decide_false, cond_false]
    refine .inl ⟨_, rfl, ⟨i + 1, rfl, by omega, fun j h a => ?_⟩, ?_⟩
    ·by_cases hj : j = i
     ·subst hj; omega
     ·exact hg j h (by omega)
    ·simp only [Int.toNat_natCast]; omega
  ·have e1 : decide ((i : Int) < (rows.length : Int)) = false := by apply decide_eq_false; omega
   refine .inr ⟨_, by simp only [e1, cond_false]; rfl, true, rfl, fun _ => ⟨by omega, fun s hs => ?_⟩⟩
   obtain ⟨j, hj, rfl⟩ := List.getElem_of_mem hs
   exact hg j hj (by omega)
theorem mine34_val {s : Int × List (Int × Fm)} (h : s.2.length ≤ 1000000) : G_mine34 s = some s := by
 obtain ⟨k, l⟩ := s
 simp only at h
 unfold G_mine34
 refine bind_loop (fun d => ∃ i : Nat, d = (((k, l, ()), (), (), (i : Int), ()), ((0, (), ()), (k, (), ()), l.take i, ())) ∧ i ≤ l.length) (fun d => l.length - d.1.2.2.2.1.toNat) ?_ ⟨0, rfl, Nat.zero_le _⟩
 rintro d ⟨i, rfl, hi⟩
 simp only [Int.toNat_natCast]
 by_cases hi' : i < l.length
 ·have e1 : decide ((i : Int) < (l.length : Int)) = true := by apply decide_eq_true; omega
  have x1 : ixOK (i : Int) l.length = true := ixOK_iff.2 (by omega)
  have g1 : l.getD i ((0 : Int), (Fm.mk 0 0 [] [])) = l[i] := getD_in hi' _
  have f3 : ∀ {α : Type} (x : α) (j : Decidable (((l.take i).length + ([x] : List α).length) * 64 ≤ 140737488355328)), @decide _ j = true := fun x j => by
   apply decide_eq_true; simp only [List.length_take, List.length_cons, List.length_nil]; omega
  simp only [e1, x1, g1, f3, cond_true, Fm.eta_eq, Int.toNat_natCast, wrapN (show i < 4611686018427387904 by omega)]
  refine .inl ⟨_, rfl, ⟨i + 1, by rw [List.take_succ_eq_append_getElem hi'], by omega⟩, ?_⟩
  simp only [Int.toNat_natCast]; omega
 ·have e1 : decide ((i : Int) < (l.length : Int)) = false := by apply decide_eq_false; omega
  refine .inr ⟨_, by simp only [e1, cond_false]; rfl, ?_⟩
  simp only [List.take_of_length_le (show l.length ≤ i by omega)]
theorem lawRows_val {rows : List (Int × List (Int × Fm))} (hr : rows.length ≤ 1000000) (h : ∀ s ∈ rows, s.2.length ≤ 1000000) : G_lawRows rows = some rows := by
 unfold G_lawRows
 refine bind_loop (fun d => ∃ i : Nat, d = ((rows, (), (i : Int), ()), (rows.take i, ())) ∧ i ≤ rows.length) (fun d => rows.length - d.1.2.2.1.toNat) ?_ ⟨0, rfl, Nat.zero_le _⟩
 rintro d ⟨i, rfl, hi⟩
 simp only [Int.toNat_natCast]
 by_cases hi' : i < rows.length
 ·have e1 : decide ((i : Int) < (rows.length : Int)) = true := by apply decide_eq_true; omega
  have x1 : ixOK (i : Int) rows.length = true := ixOK_iff.2 (by omega)
  have g1 : rows.getD i ((0 : Int), ([] : List (Int × Fm))) = rows[i] := getD_in hi' _
  have f3 : ∀ {α : Type} (x : α) (j : Decidable (((rows.take i).length + ([x] : List α).length) * 32 ≤ 140737488355328)), @decide _ j = true := fun x j => by
   apply decide_eq_true; simp only [List.length_take, List.length_cons, List.length_nil]; omega
  simp only [e1, x1, g1, f3, cond_true, mine34_val (h _ (List.getElem_mem hi')), Option.bind_some, Int.toNat_natCast, wrapN (show i < 4611686018427387904 by omega)]
  refine .inl ⟨_, rfl, ⟨i + 1, by rw [List.take_succ_eq_append_getElem hi'], by omega⟩, ?_⟩
  simp only [Int.toNat_natCast]; omega
 ·have e1 : decide ((i : Int) < (rows.length : Int)) = false := by apply decide_eq_false; omega
  refine .inr ⟨_, by simp only [e1, cond_false]; rfl, ?_⟩
  simp only [List.take_of_length_le (show rows.length ≤ i by omega)]
theorem lof3 : L_lof (Fm.mk 0 3 [] []) = some (.ret (3, [])) := limF_up (b := 1) fun k => by
 cases k with
 | zero => exact .inr ⟨rfl, by omega⟩
 | succ k => exact .of rfl
theorem sane34_val : G_sane34 = some true := by
 unfold G_sane34
 refine bind_eq (v := Fm.mk 0 3 [] []) rfl ?_
 refine bind_eq (v := ((3, []), 0, ())) ?_ rfl
 rw [Fm.eta_eq]
 unfold G_lOf
 refine bind_eq (v := true) (by rw [Fm.eta_eq, rvalid_val (by decide)]; rfl) (cond_not rfl ?_)
 refine bind_eq (v := (OutD.ret (), ((3, [], ()), ()))) ?_ rfl
 unfold G_of1
 exact bind_eq (v := Out.ret ((3 : Int), ([] : List (Int × Fm)))) lof3 rfl
theorem valid_fields {f : Fm} (h : validF f = true) : fieldsF f = true := by
 have := (validS_iff f 20000 100 (by omega) (by omega)).1
 have h' : (validS f 20000 100).1 = true := h
 rw [this, Bool.and_eq_true] at h'
 exact h'.1
theorem nodup_len {α : Type} : ∀ (r l : List α), r.Pairwise (· ≠ ·) → (∀ x ∈ r, x ∈ l) → r.length ≤ l.length
 | [], l, _, _ => Nat.zero_le _
 | a :: t, l, h, hs => by
  obtain ⟨l1, l2, rfl⟩ := List.append_of_mem (hs a (by simp))
  cases h with
  | cons h1 h2 =>
   have := nodup_len t (l1 ++ l2) h2 fun x hx => by
    have hm := hs x (by simp [hx])
    rcases List.mem_append.1 hm with hm | hm
    ·exact List.mem_append_left _ hm
    ·rcases List.mem_cons.1 hm with rfl | hm
     ·exact absurd rfl (h1 x hx)
     ·exact List.mem_append_right _ hm
   simp only [List.length_append, List.length_cons] at this ⊢
   omega
theorem sub_len {l r : List Fm} (h : SortOf l r) : r.length ≤ l.length := nodup_len r l (h.ord.imp fun {a b} hab e => by
 subst e; have h : cmpF a a < 0 := hab; rw [cmpF_self] at h; exact absurd h (by decide)) h.sub
theorem names_light {rows : List (Int × List (Int × Fm))} (h : Light rows) : (namesL rows).length ≤ 112 := by
 have key : ∀ l : List (Int × List (Int × Fm)), (∀ s ∈ l, s.2.length ≤ 8) → (namesL l).length ≤ 8 * l.length := by
  intro l
  induction l with
  | nil => intro _; simp [namesL]
  | cons a l ih =>
   intro hh
   have e : namesL (a :: l) = a.2.map (·.2) ++ namesL l := rfl
   have h1 := hh a (by simp)
   have h2 := ih fun s hs => hh s (by simp [hs])
   rw [e, List.length_append, List.length_map, List.length_cons]; omega
 have := key rows h.each
 have := h.len
 omega
theorem law_val {rows : List (Int × List (Int × Fm))} {fs : List Int} {f : Fm} (hr : rows.length ≤ 1048576) (hs : ∀ s ∈ rows, i64 s.1 ∧ ∀ p ∈ s.2, i64 p.1 ∧ p.2.big ≤ 1048576) (hfs : fs.length ≤ 1048576) (hf : I64s fs) (hb : f.big ≤ 1048576) : G_law rows fs f = some true := by
 unfold G_law
 obtain ⟨b, h1, h2⟩ := light_val (show rows.length ≤ 1000000000 by omega)
 cases b with
 | false =>
  refine bind_eq h1 (bind_eq (v := 0) rfl (cond_of rfl ?_))
  exact bind_eq sane34_val rfl
 | true =>
  have hL := h2 rfl
  have hll := hL.len
  refine bind_eq h1 (bind_eq (v := (f.size : Int)) (cond_of rfl (by rw [Fm.eta_eq]; exact refSize_val (by omega))) ?_)
  by_cases h300 : (f.size : Int) > 300
  ·refine cond_of (by rw [decide_eq_true h300]; rfl) ?_
   exact bind_eq sane34_val rfl
  ·refine cond_not (by rw [decide_eq_false h300]; rfl) ?_
   have e1 : ∀ s ∈ rows, s.2.length ≤ 1000000 := fun s hm => by have := hL.each s hm; omega
   have lr := lawRows_val (show rows.length ≤ 1000000 by omega) e1
   have hsm : ∀ s ∈ rows, Small s := fun s hm => ⟨fun p hp => by have := ((hs s hm).2 p hp).2; omega, by have := e1 s hm; omega⟩
   have hR : Rws rows := ⟨by omega, fun s hm => ⟨(hs s hm).1, fun p hp => ((hs s hm).2 p hp).1, fun p hp => by have := ((hs s hm).2 p hp).2; omega, by have := e1 s hm; omega⟩, e1⟩
   have nb : ∀ g ∈ namesL rows, g.big ≤ 1048576 := names_big fun s hm p hp => ((hs s hm).2 p hp).2
   have n112 := names_light hL
   obtain ⟨r, s1, s2⟩ := sorted_val (l := namesL rows) (by omega) fun g hg => by have := nb g hg; omega
   obtain ⟨r', s3, s4⟩ := refSort_val (l := namesL rows) (by omega) fun g hg => by have := nb g hg; omega
   have n1 := lnames_val (rows := rows) (by omega) (by omega) e1 s1
   have n2 := refNames_val (rows := rows) (by omega) (by omega) e1 s3
   have al := s2.alike s4
   have elen := eqAllF_len al
   have a1 := asked_val (by omega) hsm n1
   have a2 := refCheck_val (by omega) hsm n2
   rw [← elen] at a2
   have rb : ∀ g ∈ r, g.big ≤ 1048576 := fun g hg => nb g (s2.sub g hg)
   have rlen : r.length ≤ 1000000 := by
    have := sub_len s2
    omega
   have q1 : G_isFactorsE rows fs = some (if askI rows r.length = 0 then (conB rows fs, 0, ()) else (false, askI rows r.length, ())) := by
    unfold G_isFactorsE
    refine bind_eq a1 ?_
    by_cases h0 : askI rows r.length = 0
    ·rw [if_pos h0]
     exact cond_not (by rw [h0]; rfl) (bind_eq (isFactors_val hR hf (by omega)) rfl)
    ·rw [if_neg h0]
     exact cond_of (by simp [h0]) rfl
   have q2 : G_refIsFactors rows fs = some (if askI rows r.length = 0 then (conB rows fs, 0, ()) else (false, askI rows r.length, ())) := by
    unfold G_refIsFactors
    refine bind_eq a2 ?_
    by_cases h0 : askI rows r.length = 0
    ·rw [if_pos h0]
     exact cond_not (by rw [h0]; rfl) (bind_eq (refConflict_val hR hf) rfl)
    ·rw [if_neg h0]
     exact cond_of (by simp [h0]) rfl
   have q3 : G_lNames rows = some r := by
    unfold G_lNames
    exact bind_eq n1 (bind_eq (copies_val (fun g hg => copyU_val g (by have := rb g hg; omega)) (by omega)) rfl)
   have q4 : G_refNames2 rows = some r' := by
    unfold G_refNames2
    exact bind_eq n2 rfl
   have q5 : G_refEqualAll r r' = some true := refEqualAll_val (by have := bigL_mem_le rb; have : r.length * 1048576 ≤ 1000000 * 1048576 := Nat.mul_le_mul_right _ rlen; omega) al
   obtain ⟨v, q6, q7⟩ : ∃ v : Bool × Int × Unit, G_isTree rows f = some v ∧ G_refIsTree rows f = some v := by
    by_cases h0 : askI rows r.length = 0
    ·by_cases hv : validF f = true
     ·obtain ⟨b, w1, w2⟩ := shows_val f (valid_fields hv) (by omega) rows 0 hR (by omega) (by omega) (by omega)
      refine ⟨(b, 0, ()), ?_, ?_⟩
      ·unfold G_isTree
       refine bind_eq a1 (cond_not (by rw [h0]; rfl) (bind_eq (v := true) (by rw [Fm.eta_eq, rvalid_val (by omega), hv]) (cond_not rfl ?_)))
       rw [Fm.eta_eq]
       exact bind_eq w1 rfl
      ·unfold G_refIsTree
       refine bind_eq a2 (cond_not (by rw [h0]; rfl) (bind_eq (v := true) (by rw [Fm.eta_eq, refValid_val (by omega), hv]) (cond_not rfl ?_)))
       rw [Fm.eta_eq]
       exact bind_eq (limF_up w2) rfl
     ·have hv' : validF f = false := by simpa using hv
      refine ⟨(false, 1, ()), ?_, ?_⟩
      ·unfold G_isTree
       exact bind_eq a1 (cond_not (by rw [h0]; rfl) (bind_eq (v := false) (by rw [Fm.eta_eq, rvalid_val (by omega), hv']) (cond_of rfl rfl)))
      ·unfold G_refIsTree
       exact bind_eq a2 (cond_not (by rw [h0]; rfl) (bind_eq (v := false) (by rw [Fm.eta_eq, refValid_val (by omega), hv']) (cond_of rfl rfl)))
    ·refine ⟨(false, askI rows r.length, ()), ?_, ?_⟩
     ·unfold G_isTree
      exact bind_eq a1 (cond_of (by simp [h0]) rfl)
     ·unfold G_refIsTree
      exact bind_eq a2 (cond_of (by simp [h0]) rfl)
   refine bind_eq lr (bind_eq q1 (bind_eq q2 (bind_eq lr (bind_eq q3 (bind_eq q4 (bind_eq q5 (cond_not rfl (bind_eq lr ?_))))))))
   rw [Fm.eta_eq]
   refine bind_eq q6 (bind_eq q7 ?_)
   generalize (if askI rows r.length = 0 then (conB rows fs, 0, ()) else (false, askI rows r.length, ())) = u
   simp [sane34_val]
theorem mem_sumB {α : Type} (g : α → Nat) : ∀ (l : List α), ∀ x ∈ l, g x ≤ (l.map fun x => max 1 (g x)).sum
 | a :: l, x, h => by
  simp only [List.map_cons, List.sum_cons]
  rcases List.mem_cons.1 h with rfl | h
  ·omega
  ·have := mem_sumB g l x h; omega
theorem shows_call {rows : List (Int × List (Int × Fm))} {fs : List Int} {f : Fm} (hr : rows.length ≤ 1048576) (hs : ∀ s ∈ rows, i64 s.1 ∧ ∀ p ∈ s.2, i64 p.1 ∧ p.2.big ≤ 1048576) (hfs : fs.length ≤ 1048576) (hf : I64s fs) (hb : f.big ≤ 1048576) : PCall CX 3 [.tvec (.pr (.int .i64) (.slice (.pr (.int .i64) .form))) rows, .tvec (.int .i64) fs, .agg (E.cells .form f)] (· = .ret (.bool true)) :=
 S_law_ok (rows, fs, f, ()) true (law_val hr hs hfs hf hb)
end Go.Ab

set_option maxRecDepth 100000
namespace Go.Proofs.YtdagildojaagiaaGreatDoor.linearShows
open Go Go.ChangeShapes Go.WideShapes Go.ChangeAt Go.RowKit Go.Ab
theorem own : ownKnob Tryz.prog.godebug = none := by kernel_rfl
def flat {H : Type} : Nat → DataW H → List Value
 | 0, _ => []
 | n + 1, d => match d with
  | .lit (.int k x) => [.int k x]
  | .agg l => l.flatMap (flat n)
  | _ => []
noncomputable def lay (W : World) (name : String) (d : DataW Unit) : World :=
 match Tryz.prog.globalNamed name with
 | some g => match d with
  | .iface _ (.ptr (.agg [.lit (.string bs)])) => { W with heap := (W.heap.push (.cells #[.string ⟨bs.toArray⟩] 298 (0, 0))).modify g fun
   | .cells _ t fz => .cells #[.iface 296 (.pointer (some ⟨W.heap.size, 0, none⟩))] t fz
   | o => o }
  | d => { W with heap := W.heap.modify g fun
   | .cells _ t fz => .cells (flat 4 d).toArray t fz
   | o => o }
 | none => W
noncomputable def laidWorld (os : Os) : World :=
 lay (lay (World.holding Tryz.prog os ⟨#[], #[], []⟩) "unicode/utf8.acceptRanges" Rows.laid_unicode_utf8_acceptRanges) "unicode/utf8.first" Rows.laid_unicode_utf8_first
theorem laid_met (os : Os) : laidMet Tryz.prog Rows.linearShowsUptoRow.laid ((laidWorld os).forCall (fun _ _ => 0) ⟨#[], #[(.slice none 0 0), (.slice none 0 0), (.agg #[.int .i64 0, .int .i64 0, .string ⟨#[]⟩, .slice none 0 0])], []⟩).memory :=
 laidMet_of_run' 8 (by kernel_rfl) (by kernel_rfl)
theorem reads (os : Os) {H : Type} (enc : TypeId × Value → H) : ∃ places, DataW.whole enc Tryz.prog ((laidWorld os).forCall (fun _ _ => 0) ⟨#[], #[(.slice none 0 0), (.slice none 0 0), (.agg #[.int .i64 0, .int .i64 0, .string ⟨#[]⟩, .slice none 0 0])], []⟩).memory Tryz.f3.params.toList Rows.linearShowsSpec.vars false (#[(.slice none 0 0), (.slice none 0 0), (.agg #[.int .i64 0, .int .i64 0, .string ⟨#[]⟩, .slice none 0 0])] : Array Value).toList 8 = some ([.nil, .nil, (.agg [.lit (.int .i64 0), .lit (.int .i64 0), .lit (.string []), .nil])], [], places) :=
 ⟨[], by kernel_rfl⟩
theorem spec_fn (H : Type) (ds : List (DataW H)) (h : ds.length = Tryz.f3.params.toList.length) : Rows.linearShowsSpec.fn H ds = { results := [.lit (.bool true)], args := ds } := by
 rw [Tryz.params3] at h
 rcases ds with _ | ⟨d0, _ | ⟨d1, _ | ⟨d2, _ | ⟨e, ds⟩⟩⟩⟩
 all_goals first | (simp at h; done) | rfl
theorem contract (H : Type) (enc : TypeId × Value → H) (W : World) (base : Nat) (args : Array Value) (ds gs : List (DataW H)) (before : List MemPlace)
  (hval : ∀ (j : Nat) t v, Tryz.f3.params[j]? = some t → args[j]? = some v → Value.okWide Tryz.prog W .any base t v)
  (hW : DataW.Whole enc Tryz.prog Tryz.f3.params.toList Rows.linearShowsSpec.vars false W args.toList ds gs before) (hb : Rows.uptoSmall H (ds ++ gs) = true) :
  Calls Tryz.prog 3 args W fun e W' => ∃ v, e = .returned v ∧ Rows.linearShowsSpec.post enc Tryz.prog Tryz.f3 false true false false W args v W' :=
 contract_of (es := [(.slice (.pr (.int .i64) (.slice (.pr (.int .i64) .form)))), (.slice (.int .i64)), .form]) (n := 12) (tb := 4) rfl spec_fn (by kernel_rfl) (by kernel_rfl) (by kernel_rfl) (by kernel_rfl) (by kernel_rfl) (by kernel_rfl) (fun x hb hw => by
   obtain ⟨(rows : List (Int × List (Int × Fm))), (fs : List Int), (f : Fm), u⟩ := x
   have h2 : (rows.map fun s => max 1 (0 + (s.2.map fun p => max 1 (0 + p.2.big)).sum)).sum + ((fs.map fun n => max 1 0).sum + (f.big + 0)) ≤ 1048576 := hb
   have w2 : (∀ s ∈ rows, i64 s.1 ∧ ∀ p ∈ s.2, i64 p.1 ∧ True) ∧ (∀ n ∈ fs, i64 n) ∧ True ∧ True := hw
   have h3 : rows.length ≤ (rows.map fun s => max 1 (0 + (s.2.map fun p => max 1 (0 + p.2.big)).sum)).sum := len_sum _ rows
   have h4 : fs.length ≤ (fs.map fun n => max 1 0).sum := len_sum (fun _ => 0) fs
   refine shows_call (rows := rows) (fs := fs) (f := f) (by omega) (fun s hs => ⟨(w2.1 s hs).1, fun p hp => ⟨((w2.1 s hs).2 p hp).1, ?_⟩⟩) (by omega) w2.2.1 (by omega)
   have a1 := mem_sumB (fun s : Int × List (Int × Fm) => 0 + (s.2.map fun p => max 1 (0 + p.2.big)).sum) rows s hs
   have a2 := mem_sumB (fun p : Int × Fm => 0 + p.2.big) s.2 p hp
   omega) H enc W base args ds gs before hval hW hb
theorem lifted (os : Os) (started : os.Started) (H : Type) (enc : TypeId × Value → H) (F : Stop.Interp) :
  ReturnsInHanded {} Tryz.checked os 3 .any ((Rows.OpenSpec.upto Rows.linearShowsSpec).preRow enc Tryz.prog Tryz.f3 Rows.linearShowsUptoRow.domain false Rows.linearShowsUptoRow.laid) (((Rows.OpenSpec.upto Rows.linearShowsSpec).at F).post enc Tryz.prog Tryz.f3 false true false false) := by
 obtain ⟨places, hx⟩ := reads os enc
 refine returnsInHanded_of_row (C := Tryz.checked) (s := Rows.OpenSpec.upto Rows.linearShowsSpec) own started (by kernel_rfl) Tryz.func3
  (witness_row_at (enc := enc) (C := Tryz.checked) false (laidWorld os) #[(.slice none 0 0), (.slice none 0 0), (.agg #[.int .i64 0, .int .i64 0, .string ⟨#[]⟩, .slice none 0 0])] rfl (by kernel_rfl) (by kernel_rfl) (by kernel_rfl)
   (OpenSpec.preRow_of_cond 8 hx (by kernel_rfl) (fun k hk => by cases hk; kernel_rfl) (by kernel_rfl) (laid_met os))) ?_
 intro W base args ds gs before hval hW g1 g2 g3 hL g4 g5
 exact contract H enc W base args ds gs before hval hW (g2 _ rfl)
theorem band {a b : Bool} (h : a = true) (h' : b = true) : (a && b) = true := by rw [h, h']; rfl
theorem fact1 : (Rows.linearShowsUptoRow.inPlace == Tryz.pinned.checked.prog.inPlace 3) = true := by kernel_rfl
theorem fact2 : (Rows.linearShowsUptoRow.unfollowed == Tryz.pinned.checked.prog.unfollowed 3) = true := by kernel_rfl
theorem fact3 : (Rows.linearShowsUptoRow.recurses == Tryz.pinned.checked.prog.recurses 3) = true := by kernel_rfl
theorem fact4 : (Rows.linearShowsUptoRow.named == Tryz.pinned.checked.prog.varsNamed 3) = true := by kernel_rfl
theorem fact5 : Tryz.pinned.checked.prog.mayEnter = true := by kernel_rfl
theorem fact6 : Tryz.pinned.checked.prog.stopsHeard = true := by kernel_rfl
theorem closed : joinedFacts Tryz.pinned.checked.prog 3 Tryz.f3 (Rows.OpenSpec.upto Rows.linearShowsSpec).bare Rows.linearShowsUptoRow = true := by
 unfold joinedFacts
 repeat' with_reducible refine band ?_ ?_
 all_goals first | with_reducible exact fact1 | with_reducible exact fact2 | with_reducible exact fact3 | with_reducible exact fact4 | with_reducible exact fact5 | with_reducible exact fact6 | kernel_rfl
theorem said : Rows.LinearShowsUptoSaid :=
 OpenClaim.holds_of_cond 3 Tryz.f3 rfl rfl rfl rfl rfl rfl rfl ⟨rfl, rfl, rfl, rfl, rfl⟩ rfl rfl rfl rfl rfl (by as_aux_lemma => kernel_rfl) Tryz.func3 closed
  (of_decide_eq_true (by kernel_rfl)) (by unfold Func.isWrapper; first | (rw [if_pos (by decide +kernel)]; kernel_rfl) | (rw [if_neg (by decide +kernel)]; exact ⟨rfl, rfl⟩))
  (fun os started H enc _ F => by rw [OpenClaim.pre_eq_preRow]; exact lifted os started H enc F)
theorem plain (f : FuncId) (fn : Func) (hf : Tryz.pinned.checked.prog.funcNamed "plinth/plinthlaw34.LinearShows" = some f) (hfn : Tryz.pinned.checked.prog.funcs[f]? = some fn) :
  true = Tryz.pinned.checked.prog.looks [] ∧ ∀ (j : Nat) t, fn.params[j]? = some t → Tryz.pinned.checked.prog.wantsStandIn t = false := by
 obtain rfl : f = 3 := Option.some.inj ((show Tryz.prog.funcNamed "plinth/plinthlaw34.LinearShows" = some 3 by kernel_rfl).symm.trans hf) |>.symm
 obtain rfl : fn = Tryz.f3 := (Option.some.inj (Tryz.func3.symm.trans hfn)).symm
 refine ⟨by kernel_rfl, fun j t ht => ?_⟩
 rw [Tryz.params3] at ht
 have hm := Array.mem_of_getElem? ht
 simp only [List.mem_toArray, List.mem_cons, List.mem_nil_iff, or_false] at hm
 have w0 : Tryz.prog.wantsStandIn 22 = false := by kernel_rfl
 have w1 : Tryz.prog.wantsStandIn 23 = false := by kernel_rfl
 have w2 : Tryz.prog.wantsStandIn 26 = false := by kernel_rfl
 rcases hm with h | h | h <;> rw [h] <;> first | exact w0 | exact w1 | exact w2
theorem proved : Rows.LinearShowsUptoCardSaid :=
 Claim7.holds_tied_plain_at .later _ _ _ _ _ said (fun _ h => by cases h) (by kernel_rfl) (fun _ h => by cases h) linearShowsUpto_row_tie rfl ⟨rfl, rfl⟩ (by kernel_rfl) rfl plain (by kernel_rfl)
#print axioms proved
end Go.Proofs.YtdagildojaagiaaGreatDoor.linearShows
