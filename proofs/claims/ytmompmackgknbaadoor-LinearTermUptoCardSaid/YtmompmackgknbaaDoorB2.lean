/-
  THE CARD of a law of one form out of its contract: the tables laid for the witness, the reading, the post.
-/
import Derived.Test.YtmompmackgknbaaDoorB1
import Derived.Test.YtmompmackgknbaaDoorTie
import Derived.WalkKit
import Derived.ProofKit
import Derived.OpenShut
import Derived.Deep.DeepHandedRow
set_option linter.unusedVariables false
set_option linter.unusedSimpArgs false
set_option maxRecDepth 100000
namespace Go.Proofs.YtmompmackgknbaaDoor.linearTerm
open Go Go.ChangeShapes Go.WideShapes Go.ChangeAt Go.RowKit Go.Ab

theorem own : ownKnob Tryd.prog.godebug = none := by kernel_rfl
def flat {H : Type} : Nat → DataW H → List Value
  | 0, _ => []
  | n + 1, d => match d with
    | .lit (.int k x) => [.int k x]
    | .agg l => l.flatMap (flat n)
    | _ => []
noncomputable def lay (W : World) (name : String) (d : DataW Unit) : World :=
  match Tryd.prog.globalNamed name with
  | some g => { W with heap := W.heap.modify g fun
      | .cells _ t fz => .cells (flat 4 d).toArray t fz
      | o => o }
  | none => W
noncomputable def laidWorld (os : Os) : World :=
  lay (lay (World.holding Tryd.prog os ⟨#[], #[], []⟩) "unicode/utf8.acceptRanges" Rows.laid_unicode_utf8_acceptRanges) "unicode/utf8.first" Rows.laid_unicode_utf8_first
noncomputable def zeroForm : Value := .agg #[.int .i64 0, .int .i64 0, .string ⟨#[]⟩, .slice none 0 0]
theorem laid_met (os : Os) : laidMet Tryd.prog Rows.linearTermUptoRow.laid ((laidWorld os).forCall (fun _ _ => 0) ⟨#[], #[zeroForm], []⟩).memory :=
  laidMet_of_run' 8 (by kernel_rfl) (by kernel_rfl)
theorem reads (os : Os) {H : Type} (enc : TypeId × Value → H) : ∃ places, DataW.whole enc Tryd.prog ((laidWorld os).forCall (fun _ _ => 0) ⟨#[], #[zeroForm], []⟩).memory Tryd.f3.params.toList Rows.linearTermSpec.vars false #[zeroForm].toList 8 = some ([.agg [.lit (.int .i64 0), .lit (.int .i64 0), .lit (.string []), .nil]], [], places) :=
  ⟨[], by kernel_rfl⟩
theorem bulk_pos {H : Type} (d : DataW H) : 1 ≤ Rows.uptoBulk d := by
  cases d with
  | lit l => cases l <;> simp [Rows.uptoBulk]
  | _ => simp [Rows.uptoBulk]

/-- What the law's contract gives. -/
theorem contract (hcall : ∀ x : Fm, x.big ≤ 1048576 → PCall CX 3 [x.av] (· = .ret (.bool true))) (H : Type) (enc : TypeId × Value → H) (W : World) (base : Nat) (args : Array Value) (ds gs : List (DataW H)) (before : List MemPlace)
    (hval : ∀ (j : Nat) t v, Tryd.f3.params[j]? = some t → args[j]? = some v → Value.okWide Tryd.prog W .any base t v)
    (hW : DataW.Whole enc Tryd.prog Tryd.f3.params.toList Rows.linearTermSpec.vars false W args.toList ds gs before) (hb : Rows.uptoSmall H (ds ++ gs) = true) :
    Calls Tryd.prog 3 args W fun e W' => ∃ v, e = .returned v ∧ Rows.linearTermSpec.post enc Tryd.prog Tryd.f3 false true false false W args v W' := by
  have hW' := hW
  obtain ⟨p, q, hA0, hV, rfl, hfz, hnd⟩ := hW
  have hA : DataW.TrodAll enc Tryd.prog W 0 (fun _ => true) true Tryd.f3.params.toList args.toList ds p := hA0
  rw [Tryd.params3] at hA hval
  obtain ⟨v0, vs0, d0, ds0, p0, q0, hargs, rfl, rfl, h0, r0⟩ := trodAll_cons hA
  obtain ⟨rfl, rfl, rfl⟩ := trodAll_nil r0
  obtain rfl : args = #[v0] := by cases args; simp_all
  obtain ⟨rfl, rfl⟩ := trodVars_none hV
  have hok := hval 0 24 v0 rfl rfl
  obtain ⟨fs, hu, _⟩ := form_struct
  have hagg : ∃ cs, v0 = .agg cs := by
    unfold Value.okWide at hok
    rw [hu] at hok
    obtain ⟨cs, h1, _⟩ := hok
    exact ⟨cs, h1⟩
  obtain ⟨cs, rfl⟩ := hagg
  have h0' := h0
  obtain ⟨fuel, htr⟩ := h0
  have hbd : Rows.uptoBulk d0 ≤ 1048576 := by
    have := of_decide_eq_true hb
    simpa [Rows.uptoBulkAll] using this
  obtain ⟨x, hx1, hx2⟩ := form_read (bulk := Rows.uptoBulk) (bulkAll := Rows.uptoBulkAll) (fun l => by simp [Rows.uptoBulk]) (by simp [Rows.uptoBulk]) (fun n => by simp [Rows.uptoBulk]) (fun l r => by simp [Rows.uptoBulk]; omega) (fun l => by simp [Rows.uptoBulk]) bulk_pos (by simp [Rows.uptoBulkAll]) (fun d l => by simp [Rows.uptoBulkAll]) fuel _ d0 p0 htr (by omega)
  have hrel : Rel (knW W) m0 x.av (.agg cs) := by
    have hcs : (Value.agg cs).cells.toList = cs.toList := rfl
    rw [hcs] at hx1
    exact .agg _ _ (by simpa using hx1.1.1) (fun i y v q r => hx1.1.2 i y v q (by simpa using r)) (fun i v r => hx1.2 v (by simpa using Array.mem_of_getElem? r))
  have hdo := hcall x (by omega) (knW W) W [.agg cs] (knOK_W W) (.cons hrel (.nil _ _))
  have hbo : bodyOK Tryd.prog 3 = true := by kernel_rfl
  have hlt : ∀ y ∈ p0, y.block < W.heap.size := fun y hy => hW'.lt y (by simp [hy])
  have fin : ∀ e w', (∃ out kn', out = AOut.ret (.bool true) ∧ RelOut kn' m0 out e ∧ KnOK CX kn' w' ∧ Below W.heap.size W w' ∧ ∀ b, b < W.heap.size → kn' b = knW W b) → ∃ v, e = .returned v ∧ Rows.linearTermSpec.post enc Tryd.prog Tryd.f3 false true false false W #[.agg cs] v w' := by
    rintro e w' ⟨out, kn', rfl, ho, _, hbel, _⟩
    cases e with
    | returned u =>
      simp only [RelOut] at ho
      cases ho
      have hT : DataW.Trod enc Tryd.prog w' 0 (fun b => decide (b < W.heap.size)) true 24 (.agg cs) d0 p0 := Below.trod (by kernel_rfl) (by kernel_rfl) (by decide +kernel) h0' hbel hlt
      refine ⟨_, rfl, _, _, _, [], p0 ++ [], [], hW', ?_, ?_, rfl, hbel.frame _, fun h => by cases h⟩
      · exact trodAll_cons_mk (shut_bool Tryd.underlying4 _) trodAll_mk0
      · exact trodAll_cons_mk hT trodAll_mk0
    | panicked ch => exact ho.elim
    | outgrown => exact ho.elim
  rcases hdo with ⟨_, hc⟩ | ⟨u, w', h1, _⟩
  · exact hc.mono fin
  · have h2 : (callFunc 3 [Value.agg cs].toArray).run Tryd.prog W = _ := calls_of_bodyOK hbo _ W
    have h1' : (callFunc 3 [Value.agg cs].toArray).run Tryd.prog W = _ := h1
    rw [h2] at h1'
    cases h1'

theorem lifted (hcall : ∀ x : Fm, x.big ≤ 1048576 → PCall CX 3 [x.av] (· = .ret (.bool true))) (os : Os) (started : os.Started) (H : Type) (enc : TypeId × Value → H) (F : Stop.Interp) :
    ReturnsInHanded {} Tryd.checked os 3 .any ((Rows.OpenSpec.upto Rows.linearTermSpec).preRow enc Tryd.prog Tryd.f3 Rows.linearTermUptoRow.domain false Rows.linearTermUptoRow.laid) (((Rows.OpenSpec.upto Rows.linearTermSpec).at F).post enc Tryd.prog Tryd.f3 false true false false) := by
  obtain ⟨places, hx⟩ := reads os enc
  refine returnsInHanded_of_row (C := Tryd.checked) (s := Rows.OpenSpec.upto Rows.linearTermSpec) own started (by kernel_rfl) Tryd.func3
    (witness_row_at (enc := enc) (C := Tryd.checked) false (laidWorld os) #[zeroForm] rfl (by kernel_rfl) (by kernel_rfl) (by kernel_rfl)
      (OpenSpec.preRow_of_cond 8 hx (by kernel_rfl) (fun k hk => by cases hk; kernel_rfl) (by kernel_rfl) (laid_met os))) ?_
  intro W base args ds gs before hval hW g1 g2 g3 hL g4 g5
  exact contract hcall H enc W base args ds gs before hval hW (g2 _ rfl)

theorem said (hcall : ∀ x : Fm, x.big ≤ 1048576 → PCall CX 3 [x.av] (· = .ret (.bool true))) : Rows.LinearTermUptoSaid :=
  OpenClaim.holds_of_cond 3 Tryd.f3 rfl rfl rfl rfl rfl rfl rfl ⟨rfl, rfl, rfl, rfl, rfl⟩ rfl rfl rfl rfl rfl (by kernel_rfl) Tryd.func3 (by kernel_rfl)
    (of_decide_eq_true (by kernel_rfl)) (by unfold Func.isWrapper; first | (rw [if_pos (by decide +kernel)]; kernel_rfl) | (rw [if_neg (by decide +kernel)]; exact ⟨rfl, rfl⟩))
    (fun os started H enc _ F => by rw [OpenClaim.pre_eq_preRow]; exact lifted hcall os started H enc F)
theorem plain (f : FuncId) (fn : Func) (hf : Tryd.pinned.checked.prog.funcNamed "plinth/plinthlaw34.LinearTerm" = some f) (hfn : Tryd.pinned.checked.prog.funcs[f]? = some fn) :
    true = Tryd.pinned.checked.prog.looks [] ∧ ∀ (j : Nat) t, fn.params[j]? = some t → Tryd.pinned.checked.prog.wantsStandIn t = false := by
  obtain rfl : f = 3 := Option.some.inj ((show Tryd.prog.funcNamed "plinth/plinthlaw34.LinearTerm" = some 3 by kernel_rfl).symm.trans hf) |>.symm
  obtain rfl : fn = Tryd.f3 := (Option.some.inj (Tryd.func3.symm.trans hfn)).symm
  refine ⟨by kernel_rfl, fun j t ht => ?_⟩
  rw [Tryd.params3] at ht
  obtain rfl : t = 24 := by simpa using Array.mem_of_getElem? ht
  exact (show Tryd.prog.wantsStandIn 24 = false by kernel_rfl)
theorem card_of (hcall : ∀ x : Fm, x.big ≤ 1048576 → PCall CX 3 [x.av] (· = .ret (.bool true))) : Rows.LinearTermUptoCardSaid :=
  Claim7.holds_tied_plain_at .later _ _ _ _ _ (said hcall) (fun _ h => by cases h) (by kernel_rfl) (fun _ h => by cases h) linearTermUpto_row_tie rfl ⟨rfl, rfl⟩ (by kernel_rfl) rfl plain (by kernel_rfl)
end Go.Proofs.YtmompmackgknbaaDoor.linearTerm
