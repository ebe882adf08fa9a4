/-
  LayoutTwice: the card. For every argument of bulk at most 1048576, as the card says.
-/
import Derived.Test.YthbkbjlfghikfaaGreatDoorZ12
import Derived.Test.YthbkbjlfghikfaaGreatDoorZ19
set_option linter.unusedVariables false
set_option linter.unusedSimpArgs false
set_option maxRecDepth 100000
namespace Go.Proofs.YthbkbjlfghikfaaGreatDoor.layoutTwice
open Go Go.ChangeShapes Go.WideShapes Go.ChangeAt Go.RowKit Go.Ab
theorem own : ownKnob Tryz.prog.godebug = none := by kernel_rfl
def flat {H : Type} : Nat → DataW H → List Value
 | 0, _ => []
 | n + 1, d => match d with
  | .lit (.int k x) => [.int k x]
  | .agg l => l.flatMap (flat n)
  | _ => []
noncomputable def lay (W : World) (name : String) (d : DataW Unit) : World :=
 match Tryz.prog.globalNamed name with
 | some g => match d with
  | .iface _ (.ptr (.agg [.lit (.string bs)])) => { W with heap := (W.heap.push (.cells #[.string ⟨bs.toArray⟩] 241 (0, 0))).modify g fun
   | .cells _ t fz => .cells #[.iface 239 (.pointer (some ⟨W.heap.size, 0, none⟩))] t fz
   | o => o }
  | d => { W with heap := W.heap.modify g fun
   | .cells _ t fz => .cells (flat 4 d).toArray t fz
   | o => o }
 | none => W
noncomputable def laidWorld (os : Os) : World :=
 lay (lay (lay (lay (lay (lay (lay (World.holding Tryz.prog os ⟨#[], #[], []⟩) "math/bits.deBruijn32tab" Rows.laid_math_bits_deBruijn32tab) "math/bits.deBruijn64tab" Rows.laid_math_bits_deBruijn64tab) "internal/strconv.uint64pow10" Rows.laid_internal_strconv_uint64pow10) "unicode/utf8.acceptRanges" Rows.laid_unicode_utf8_acceptRanges) "strconv.ErrRange" Rows.laid_strconv_ErrRange) "strconv.ErrSyntax" Rows.laid_strconv_ErrSyntax) "unicode/utf8.first" Rows.laid_unicode_utf8_first
theorem laid_met (os : Os) : laidMet Tryz.prog Rows.layoutTwiceUptoRow.laid ((laidWorld os).forCall (fun _ _ => 0) ⟨#[], #[(.string ⟨#[]⟩), (.int .i64 0)], []⟩).memory :=
 laidMet_of_run' 8 (by kernel_rfl) (by kernel_rfl)
theorem reads (os : Os) {H : Type} (enc : TypeId × Value → H) : ∃ places, DataW.whole enc Tryz.prog ((laidWorld os).forCall (fun _ _ => 0) ⟨#[], #[(.string ⟨#[]⟩), (.int .i64 0)], []⟩).memory Tryz.f7.params.toList Rows.layoutTwiceSpec.vars false (#[(.string ⟨#[]⟩), (.int .i64 0)] : Array Value).toList 8 = some ([(.lit (.string [])), (.lit (.int .i64 0))], [], places) :=
 ⟨[], by kernel_rfl⟩
theorem spec_fn (H : Type) (ds : List (DataW H)) (h : ds.length = Tryz.f7.params.toList.length) : Rows.layoutTwiceSpec.fn H ds = { results := [.lit (.bool true)], args := ds } := by
 rw [Tryz.params7] at h
 rcases ds with _ | ⟨d0, _ | ⟨d1, _ | ⟨e, ds⟩⟩⟩
 all_goals first | (simp at h; done) | rfl
theorem contract (H : Type) (enc : TypeId × Value → H) (W : World) (base : Nat) (args : Array Value) (ds gs : List (DataW H)) (before : List MemPlace)
  (hval : ∀ (j : Nat) t v, Tryz.f7.params[j]? = some t → args[j]? = some v → Value.okWide Tryz.prog W .any base t v)
  (hW : DataW.Whole enc Tryz.prog Tryz.f7.params.toList Rows.layoutTwiceSpec.vars false W args.toList ds gs before) (hb : Rows.uptoSmall H (ds ++ gs) = true) (hE : ErrW W) :
  Calls Tryz.prog 7 args W fun e W' => ∃ v, e = .returned v ∧ Rows.layoutTwiceSpec.post enc Tryz.prog Tryz.f7 false true false false W args v W' :=
 contract_of (es := [.str, (.int .i64)]) (n := 12) (tb := 4) rfl spec_fn (by kernel_rfl) (by kernel_rfl) (by kernel_rfl) (by kernel_rfl) (by kernel_rfl) (by kernel_rfl) (fun x _ _ => by obtain ⟨(s : List UInt8), (n : Int), u⟩ := x; exact twice_call s n) H enc W base args ds gs before hval hW hb hE
theorem lifted (os : Os) (started : os.Started) (H : Type) (enc : TypeId × Value → H) (F : Stop.Interp) :
  ReturnsInHanded {} Tryz.checked os 7 .any ((Rows.OpenSpec.upto Rows.layoutTwiceSpec).preRow enc Tryz.prog Tryz.f7 Rows.layoutTwiceUptoRow.domain false Rows.layoutTwiceUptoRow.laid) (((Rows.OpenSpec.upto Rows.layoutTwiceSpec).at F).post enc Tryz.prog Tryz.f7 false true false false) := by
 obtain ⟨places, hx⟩ := reads os enc
 refine returnsInHanded_of_row (C := Tryz.checked) (s := Rows.OpenSpec.upto Rows.layoutTwiceSpec) own started (by kernel_rfl) Tryz.func7
  (witness_row_at (enc := enc) (C := Tryz.checked) false (laidWorld os) #[(.string ⟨#[]⟩), (.int .i64 0)] rfl (by kernel_rfl) (by kernel_rfl) (by kernel_rfl)
   (OpenSpec.preRow_of_cond 8 hx (by kernel_rfl) (fun k hk => by cases hk; kernel_rfl) (by kernel_rfl) (laid_met os))) ?_
 intro W base args ds gs before hval hW g1 g2 g3 hL g4 g5
 exact contract H enc W base args ds gs before hval hW (g2 _ rfl) (errW_of hL (show ("strconv.ErrRange", Rows.laid_strconv_ErrRange) ∈ Rows.layoutTwiceUptoRow.laid from by simp [Rows.layoutTwiceUptoRow]) (fun q hq => by rcases List.mem_singleton.1 hq with rfl; exact (show ("internal/strconv.uint64pow10", Rows.laid_internal_strconv_uint64pow10) ∈ Rows.layoutTwiceUptoRow.laid from by simp [Rows.layoutTwiceUptoRow])))
theorem band {a b : Bool} (h : a = true) (h' : b = true) : (a && b) = true := by rw [h, h']; rfl
theorem fact1 : (Rows.layoutTwiceUptoRow.inPlace == Tryz.pinned.checked.prog.inPlace 7) = true := by kernel_rfl
theorem fact2 : (Rows.layoutTwiceUptoRow.unfollowed == Tryz.pinned.checked.prog.unfollowed 7) = true := by kernel_rfl
theorem fact3 : (Rows.layoutTwiceUptoRow.recurses == Tryz.pinned.checked.prog.recurses 7) = true := by kernel_rfl
theorem fact4 : (Rows.layoutTwiceUptoRow.named == Tryz.pinned.checked.prog.varsNamed 7) = true := by kernel_rfl
theorem fact5 : Tryz.pinned.checked.prog.mayEnter = true := by kernel_rfl
theorem fact6 : Tryz.pinned.checked.prog.stopsHeard = true := by kernel_rfl
theorem closed : joinedFacts Tryz.pinned.checked.prog 7 Tryz.f7 (Rows.OpenSpec.upto Rows.layoutTwiceSpec).bare Rows.layoutTwiceUptoRow = true := by
 unfold joinedFacts
 repeat' with_reducible refine band ?_ ?_
 all_goals first | with_reducible exact fact1 | with_reducible exact fact2 | with_reducible exact fact3 | with_reducible exact fact4 | with_reducible exact fact5 | with_reducible exact fact6 | kernel_rfl
theorem said : Rows.LayoutTwiceUptoSaid :=
 OpenClaim.holds_of_cond 7 Tryz.f7 rfl rfl rfl rfl rfl rfl rfl ⟨rfl, rfl, rfl, rfl, rfl⟩ rfl rfl rfl rfl rfl (by as_aux_lemma => kernel_rfl) Tryz.func7 closed
  (of_decide_eq_true (by kernel_rfl)) (by unfold Func.isWrapper; first | (rw [if_pos (by decide +kernel)]; kernel_rfl) | (rw [if_neg (by decide +kernel)]; exact ⟨rfl, rfl⟩))
  (fun os started H enc _ F => by rw [OpenClaim.pre_eq_preRow]; exact lifted os started H enc F)
theorem plain (f : FuncId) (fn : Func) (hf : Tryz.pinned.checked.prog.funcNamed "plinth/plinthlaw02.LayoutTwice" = some f) (hfn : Tryz.pinned.checked.prog.funcs[f]? = some fn) :
  true = Tryz.pinned.checked.prog.looks [] ∧ ∀ (j : Nat) t, fn.params[j]? = some t → Tryz.pinned.checked.prog.wantsStandIn t = false := by
 obtain rfl : f = 7 := Option.some.inj ((show Tryz.prog.funcNamed "plinth/plinthlaw02.LayoutTwice" = some 7 by kernel_rfl).symm.trans hf) |>.symm
 obtain rfl : fn = Tryz.f7 := (Option.some.inj (Tryz.func7.symm.trans hfn)).symm
 refine ⟨by kernel_rfl, fun j t ht => ?_⟩
 rw [Tryz.params7] at ht
 have hm := Array.mem_of_getElem? ht
 simp only [List.mem_toArray, List.mem_cons, List.mem_nil_iff, or_false] at hm
 have w0 : Tryz.prog.wantsStandIn 9 = false := by kernel_rfl
 have w1 : Tryz.prog.wantsStandIn 3 = false := by kernel_rfl
 rcases hm with h | h <;> rw [h] <;> first | exact w0 | exact w1
theorem proved : Rows.LayoutTwiceUptoCardSaid :=
 Claim7.holds_tied_plain_at .later _ _ _ _ _ said (fun _ h => by cases h) (by kernel_rfl) (fun _ h => by cases h) layoutTwiceUpto_row_tie rfl ⟨rfl, rfl⟩ (by kernel_rfl) rfl plain (by kernel_rfl)
#print axioms proved
end Go.Proofs.YthbkbjlfghikfaaGreatDoor.layoutTwice
