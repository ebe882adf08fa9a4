/-
  LinearSums: for every term, literal, two sums and factor of together at most 1048576 parts (words, texts and places counted), the sum of the term, the rows of the literal, the sums added, made tight and written as terms are what the reference tells. Condition: the arguments' bulk, as the card says.
-/
import Derived.Test.YtmompmackgknbaaDoorB4
import Derived.Test.YtmompmackgknbaaDoorTie
import Derived.WalkKit
import Derived.ProofKit
import Derived.OpenShut
import Derived.Deep.DeepHandedRow
import Derived.Test.YtmompmackgknbaaDoorF27
set_option linter.unusedVariables false
set_option linter.unusedSimpArgs false
set_option maxRecDepth 100000
namespace Go.Proofs.YtmompmackgknbaaDoor.linearSums
open Go Go.ChangeShapes Go.WideShapes Go.ChangeAt Go.RowKit Go.Ab

theorem own : ownKnob Tryd.prog.godebug = none := by kernel_rfl
def flat {H : Type} : Nat → DataW H → List Value
  | 0, _ => []
  | n + 1, d => match d with
    | .lit (.int k x) => [.int k x]
    | .agg l => l.flatMap (flat n)
    | _ => []
noncomputable def lay (W : World) (name : String) (d : DataW Unit) : World :=
  match Tryd.prog.globalNamed name with
  | some g => { W with heap := W.heap.modify g fun
      | .cells _ t fz => .cells (flat 4 d).toArray t fz
      | o => o }
  | none => W
noncomputable def laidWorld (os : Os) : World :=
  lay (lay (World.holding Tryd.prog os ⟨#[], #[], []⟩) "unicode/utf8.acceptRanges" Rows.laid_unicode_utf8_acceptRanges) "unicode/utf8.first" Rows.laid_unicode_utf8_first
noncomputable def zeroSum : Value := .agg #[.int .i64 0, .slice none 0 0]
noncomputable def zeroForm : Value := .agg #[.int .i64 0, .int .i64 0, .string ⟨#[]⟩, .slice none 0 0]
theorem laid_met (os : Os) : laidMet Tryd.prog Rows.linearSumsUptoRow.laid ((laidWorld os).forCall (fun _ _ => 0) ⟨#[], #[zeroForm, zeroForm, zeroSum, zeroSum, .int .i64 0], []⟩).memory :=
  laidMet_of_run' 8 (by kernel_rfl) (by kernel_rfl)
theorem reads (os : Os) {H : Type} (enc : TypeId × Value → H) : ∃ places, DataW.whole enc Tryd.prog ((laidWorld os).forCall (fun _ _ => 0) ⟨#[], #[zeroForm, zeroForm, zeroSum, zeroSum, .int .i64 0], []⟩).memory Tryd.f4.params.toList Rows.linearSumsSpec.vars false #[zeroForm, zeroForm, zeroSum, zeroSum, .int .i64 0].toList 8 = some ([.agg [.lit (.int .i64 0), .lit (.int .i64 0), .lit (.string []), .nil], .agg [.lit (.int .i64 0), .lit (.int .i64 0), .lit (.string []), .nil], .agg [.lit (.int .i64 0), .nil], .agg [.lit (.int .i64 0), .nil], .lit (.int .i64 0)], [], places) :=
  ⟨[], by kernel_rfl⟩
theorem bulk_pos {H : Type} (d : DataW H) : 1 ≤ Rows.uptoBulk d := by
  cases d with
  | lit l => cases l <;> simp [Rows.uptoBulk]
  | _ => simp [Rows.uptoBulk]

def Law : Prop := ∀ (t lit : Fm) (a b : Sm) (f : Int), t.big ≤ 1048576 → lit.big ≤ 1048576 → (∀ p ∈ a.l, p.t.big ≤ 1048576) → (∀ p ∈ b.l, p.t.big ≤ 1048576) → a.l.length ≤ 1048576 → b.l.length ≤ 1048576 → -9223372036854775808 ≤ f → f ≤ 9223372036854775807 → PCall CX 4 [t.av, lit.av, a.av, b.av, .int .i64 f] (· = .ret (.bool true))
/-- What the law's contract gives. -/
theorem contract (hcall : Law) (H : Type) (enc : TypeId × Value → H) (W : World) (base : Nat) (args : Array Value) (ds gs : List (DataW H)) (before : List MemPlace)
    (hval : ∀ (j : Nat) t v, Tryd.f4.params[j]? = some t → args[j]? = some v → Value.okWide Tryd.prog W .any base t v)
    (hW : DataW.Whole enc Tryd.prog Tryd.f4.params.toList Rows.linearSumsSpec.vars false W args.toList ds gs before) (hb : Rows.uptoSmall H (ds ++ gs) = true) :
    Calls Tryd.prog 4 args W fun e W' => ∃ v, e = .returned v ∧ Rows.linearSumsSpec.post enc Tryd.prog Tryd.f4 false true false false W args v W' := by
  have hW' := hW
  obtain ⟨p, q, hA0, hV, rfl, hfz, hnd⟩ := hW
  have hA : DataW.TrodAll enc Tryd.prog W 0 (fun _ => true) true Tryd.f4.params.toList args.toList ds p := hA0
  rw [Tryd.params4] at hA hval
  obtain ⟨v0, vs0, d0, ds0, p0, q0, hargs, rfl, rfl, h0, r0⟩ := trodAll_cons hA
  obtain ⟨v1, vs1, d1, ds1, p1, q1, hargs1, rfl, rfl, h1, r1⟩ := trodAll_cons r0
  obtain ⟨v2, vs2, d2, ds2, p2, q2, hargs2, rfl, rfl, h2, r2⟩ := trodAll_cons r1
  obtain ⟨v3, vs3, d3, ds3, p3, q3, hargs3, rfl, rfl, h3, r3⟩ := trodAll_cons r2
  obtain ⟨v4, vs4, d4, ds4, p4, q4, hargs4, rfl, rfl, h4, r4⟩ := trodAll_cons r3
  obtain ⟨rfl, rfl, rfl⟩ := trodAll_nil r4
  subst hargs4; subst hargs3; subst hargs2; subst hargs1
  obtain rfl : args = #[v0, v1, v2, v3, v4] := by cases args; simp_all
  obtain ⟨rfl, rfl⟩ := trodVars_none hV
  have agg : ∀ {t : TypeId} {v : Value} {L : List (TypeId × Nat)}, (∃ fs, Tryd.prog.underlying t = some (.struct fs) ∧ (fs.toList.map fun f => (f.type, f.offset)) = L) → Value.okWide Tryd.prog W .any base t v → ∃ cs, v = .agg cs := by
    rintro t v L ⟨fs, hu, _⟩ hok
    unfold Value.okWide at hok
    rw [hu] at hok
    obtain ⟨cs, h1, _⟩ := hok
    exact ⟨cs, h1⟩
  obtain ⟨c0, rfl⟩ := agg form_struct (hval 0 24 v0 rfl rfl)
  obtain ⟨c1, rfl⟩ := agg form_struct (hval 1 24 v1 rfl rfl)
  obtain ⟨c2, rfl⟩ := agg sum_struct (hval 2 39 v2 rfl rfl)
  obtain ⟨c3, rfl⟩ := agg sum_struct (hval 3 39 v3 rfl rfl)
  have B : Bulk (Rows.uptoBulk (H := H)) Rows.uptoBulkAll := ⟨fun l => by simp [Rows.uptoBulk], by simp [Rows.uptoBulk], fun n => by simp [Rows.uptoBulk], fun l r => by simp [Rows.uptoBulk]; omega, fun l => by simp [Rows.uptoBulk], bulk_pos, by simp [Rows.uptoBulkAll], fun d l => by simp [Rows.uptoBulkAll]⟩
  have hbd : Rows.uptoBulk d0 + (Rows.uptoBulk d1 + (Rows.uptoBulk d2 + (Rows.uptoBulk d3 + Rows.uptoBulk d4))) ≤ 1048576 := by
    have := of_decide_eq_true hb
    simpa [Rows.uptoBulkAll] using this
  obtain ⟨fu0, t0⟩ := id h0
  obtain ⟨fu1, t1⟩ := id h1
  obtain ⟨fu2, t2⟩ := id h2
  obtain ⟨fu3, t3⟩ := id h3
  obtain ⟨fu4, t4⟩ := id h4
  obtain ⟨x0, hx0, hb0⟩ := form_read' B t0 (by omega)
  obtain ⟨x1, hx1, hb1⟩ := form_read' B t1 (by omega)
  obtain ⟨x2, hx2, hb2, hl2⟩ := sum_read B t2 (by omega)
  obtain ⟨x3, hx3, hb3, hl3⟩ := sum_read B t3 (by omega)
  obtain ⟨n, hn, -, hn1, hn2⟩ := trod_int_wf t4
  obtain rfl : v4 = .int .i64 n := by
    have hok := hval 4 3 v4 rfl rfl
    cases v4 <;> simp [Value.cells] at hn
    · simp [hn]
    · rename_i cs
      unfold Value.okWide at hok
      rw [und_int] at hok
      simp [Cell.okWide, Cell.ok, und_int] at hok
  have hdo := hcall x0 x1 x2 x3 n (by omega) (by omega) (fun p hp => by have := hb2 p hp; omega) (fun p hp => by have := hb3 p hp; omega) (by omega) (by omega) hn1 hn2 (knW W) W [.agg c0, .agg c1, .agg c2, .agg c3, .int .i64 n] (knOK_W W) (.cons (rel_agg hx0) (.cons (rel_agg hx1) (.cons (rel_agg hx2) (.cons (rel_agg hx3) (.cons (.int _ _) (.nil _ _))))))
  have hbo : bodyOK Tryd.prog 4 = true := by kernel_rfl
  have hlt0 : ∀ y ∈ p0, y.block < W.heap.size := fun y hy => hW'.lt y (by simp [hy])
  have hlt1 : ∀ y ∈ p1, y.block < W.heap.size := fun y hy => hW'.lt y (by simp [hy])
  have hlt2 : ∀ y ∈ p2, y.block < W.heap.size := fun y hy => hW'.lt y (by simp [hy])
  have hlt3 : ∀ y ∈ p3, y.block < W.heap.size := fun y hy => hW'.lt y (by simp [hy])
  have hlt4 : ∀ y ∈ p4, y.block < W.heap.size := fun y hy => hW'.lt y (by simp [hy])
  have fin : ∀ e w', (∃ out kn', out = AOut.ret (.bool true) ∧ RelOut kn' m0 out e ∧ KnOK CX kn' w' ∧ Below W.heap.size W w' ∧ ∀ b, b < W.heap.size → kn' b = knW W b) → ∃ v, e = .returned v ∧ Rows.linearSumsSpec.post enc Tryd.prog Tryd.f4 false true false false W #[.agg c0, .agg c1, .agg c2, .agg c3, .int .i64 n] v w' := by
    rintro e w' ⟨out, kn', rfl, ho, _, hbel, _⟩
    cases e with
    | returned u =>
      simp only [RelOut] at ho
      cases ho
      have hT0 : DataW.Trod enc Tryd.prog w' 0 (fun b => decide (b < W.heap.size)) true 24 (.agg c0) d0 p0 := Below.trod (by kernel_rfl) (by kernel_rfl) (by decide +kernel) h0 hbel hlt0
      have hT1 : DataW.Trod enc Tryd.prog w' 0 (fun b => decide (b < W.heap.size)) true 24 (.agg c1) d1 p1 := Below.trod (by kernel_rfl) (by kernel_rfl) (by decide +kernel) h1 hbel hlt1
      have hT2 : DataW.Trod enc Tryd.prog w' 0 (fun b => decide (b < W.heap.size)) true 39 (.agg c2) d2 p2 := Below.trod (by kernel_rfl) (by kernel_rfl) (by decide +kernel) h2 hbel hlt2
      have hT3 : DataW.Trod enc Tryd.prog w' 0 (fun b => decide (b < W.heap.size)) true 39 (.agg c3) d3 p3 := Below.trod (by kernel_rfl) (by kernel_rfl) (by decide +kernel) h3 hbel hlt3
      have hT4 : DataW.Trod enc Tryd.prog w' 0 (fun b => decide (b < W.heap.size)) true 3 (.int .i64 n) d4 p4 := Below.trod (by kernel_rfl) (by kernel_rfl) (by decide +kernel) h4 hbel hlt4
      refine ⟨_, rfl, _, _, _, [], p0 ++ (p1 ++ (p2 ++ (p3 ++ (p4 ++ [])))), [], hW', ?_, ?_, rfl, hbel.frame _, fun h => by cases h⟩
      · exact trodAll_cons_mk (shut_bool Tryd.underlying4 _) trodAll_mk0
      · exact trodAll_cons_mk hT0 (trodAll_cons_mk hT1 (trodAll_cons_mk hT2 (trodAll_cons_mk hT3 (trodAll_cons_mk hT4 trodAll_mk0))))
    | panicked ch => exact ho.elim
    | outgrown => exact ho.elim
  rcases hdo with ⟨_, hc⟩ | ⟨u, w', h1, _⟩
  · exact hc.mono fin
  · have h2 : (callFunc 4 [Value.agg c0, .agg c1, .agg c2, .agg c3, .int .i64 n].toArray).run Tryd.prog W = _ := calls_of_bodyOK hbo _ W
    have h1' : (callFunc 4 [Value.agg c0, .agg c1, .agg c2, .agg c3, .int .i64 n].toArray).run Tryd.prog W = _ := h1
    rw [h2] at h1'
    cases h1'

theorem lifted (hcall : Law) (os : Os) (started : os.Started) (H : Type) (enc : TypeId × Value → H) (F : Stop.Interp) :
    ReturnsInHanded {} Tryd.checked os 4 .any ((Rows.OpenSpec.upto Rows.linearSumsSpec).preRow enc Tryd.prog Tryd.f4 Rows.linearSumsUptoRow.domain false Rows.linearSumsUptoRow.laid) (((Rows.OpenSpec.upto Rows.linearSumsSpec).at F).post enc Tryd.prog Tryd.f4 false true false false) := by
  obtain ⟨places, hx⟩ := reads os enc
  refine returnsInHanded_of_row (C := Tryd.checked) (s := Rows.OpenSpec.upto Rows.linearSumsSpec) own started (by kernel_rfl) Tryd.func4
    (witness_row_at (enc := enc) (C := Tryd.checked) false (laidWorld os) #[zeroForm, zeroForm, zeroSum, zeroSum, .int .i64 0] rfl (by kernel_rfl) (by kernel_rfl) (by kernel_rfl)
      (OpenSpec.preRow_of_cond 8 hx (by kernel_rfl) (fun k hk => by cases hk; kernel_rfl) (by kernel_rfl) (laid_met os))) ?_
  intro W base args ds gs before hval hW g1 g2 g3 hL g4 g5
  exact contract hcall H enc W base args ds gs before hval hW (g2 _ rfl)

theorem said (hcall : Law) : Rows.LinearSumsUptoSaid :=
  OpenClaim.holds_of_cond 4 Tryd.f4 rfl rfl rfl rfl rfl rfl rfl ⟨rfl, rfl, rfl, rfl, rfl⟩ rfl rfl rfl rfl rfl (by kernel_rfl) Tryd.func4 (by kernel_rfl)
    (of_decide_eq_true (by kernel_rfl)) (by unfold Func.isWrapper; first | (rw [if_pos (by decide +kernel)]; kernel_rfl) | (rw [if_neg (by decide +kernel)]; exact ⟨rfl, rfl⟩))
    (fun os started H enc _ F => by rw [OpenClaim.pre_eq_preRow]; exact lifted hcall os started H enc F)
theorem plain (f : FuncId) (fn : Func) (hf : Tryd.pinned.checked.prog.funcNamed "plinth/plinthlaw34.LinearSums" = some f) (hfn : Tryd.pinned.checked.prog.funcs[f]? = some fn) :
    true = Tryd.pinned.checked.prog.looks [] ∧ ∀ (j : Nat) t, fn.params[j]? = some t → Tryd.pinned.checked.prog.wantsStandIn t = false := by
  obtain rfl : f = 4 := Option.some.inj ((show Tryd.prog.funcNamed "plinth/plinthlaw34.LinearSums" = some 4 by kernel_rfl).symm.trans hf) |>.symm
  obtain rfl : fn = Tryd.f4 := (Option.some.inj (Tryd.func4.symm.trans hfn)).symm
  refine ⟨by kernel_rfl, fun j t ht => ?_⟩
  rw [Tryd.params4] at ht
  have hm := Array.mem_of_getElem? ht
  simp only [List.mem_toArray, List.mem_cons, List.mem_nil_iff, or_false] at hm
  have w1 : Tryd.prog.wantsStandIn 24 = false := by kernel_rfl
  have w2 : Tryd.prog.wantsStandIn 39 = false := by kernel_rfl
  have w3 : Tryd.prog.wantsStandIn 3 = false := by kernel_rfl
  rcases hm with h | h | h | h | h <;> rw [h]
  · exact w1
  · exact w1
  · exact w2
  · exact w2
  · exact w3
theorem card_of (hcall : Law) : Rows.LinearSumsUptoCardSaid :=
  Claim7.holds_tied_plain_at .later _ _ _ _ _ (said hcall) (fun _ h => by cases h) (by kernel_rfl) (fun _ h => by cases h) linearSumsUpto_row_tie rfl ⟨rfl, rfl⟩ (by kernel_rfl) rfl plain (by kernel_rfl)
theorem proved : Rows.LinearSumsUptoCardSaid := card_of linSums_call
#print axioms proved
end Go.Proofs.YtmompmackgknbaaDoor.linearSums
