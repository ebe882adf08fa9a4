/-
  ReaderWhole: the card. For every argument of bulk at most 1048576, as the card says.
-/
import Derived.Test.YtmompmackgknbaaDoorZ15
import Derived.Test.YtmompmackgknbaaDoorZ12
/-
  PARTS OF A FORM, and a form with another part, in plain terms; ReaderWhole's call.
-/
set_option linter.unusedVariables false
set_option linter.unusedSimpArgs false
set_option maxRecDepth 100000
namespace Go.Ab
open Go Go.RowKit Go.Proofs
def kidsF (f : Fm) : List Fm := if f.k = 3 then f.l else []
def dF : Fm := .mk 0 0 [] []
def atP : List Int → Fm → Option Fm
  | [], f => some f
  | i :: p, f => if i < 0 ∨ i ≥ ((kidsF f).length : Int) then none else atP p ((kidsF f).getD i.toNat dF)
def atR (p : List Int) (f : Fm) : Fm × Int × Unit := match atP p f with
  | some g => (g, 0, ())
  | none => (dF, 3, ())
def stepI (f : Fm) (path : List Int) : Nat → Fm
  | 0 => f
  | i + 1 => (kidsF (stepI f path i)).getD (path.getD i 0).toNat dF
theorem rat_val {f : Fm} {path : List Int} (hp : path.length < 4611686018427387904) : G_rat f path = some (atR path f) := by
  have key : Up False (G_rat f path) (atR path f) := by
    unfold G_rat
    refine loop_ix (fun i => (((), (), path, (path.length : Int), (i : Int), ()), (((stepI f path i).k, (stepI f path i).n, (stepI f path i).t, (stepI f path i).l, ()), (0, 0, [], (), ()), ()))) (fun i => atR (path.drop i) (stepI f path i)) path.length (fun i hi => ?_) ?_
    · have e1 : decide ((i : Int) < (path.length : Int)) = true := by simp [hi]
      have e2 : ixOK (i : Int) path.length = true := ixOK_iff.2 (by omega)
      have e3 : stepI f path (i + 1) = (kidsF (stepI f path i)).getD path[i].toNat dF := by simp only [stepI, getD_in hi]
      have e4 : atR (path.drop i) (stepI f path i) = if path[i] < 0 ∨ path[i] ≥ ((kidsF (stepI f path i)).length : Int) then (dF, 3, ()) else atR (path.drop (i + 1)) ((kidsF (stepI f path i)).getD path[i].toNat dF) := by
        unfold atR
        rw [List.drop_eq_getElem_cons hi]
        simp only [atP]
        by_cases c : path[i] < 0 ∨ path[i] ≥ ((kidsF (stepI f path i)).length : Int)
        · rw [if_pos c, if_pos c]
        · rw [if_neg c, if_neg c]
      have e5 : G_kids (Fm.mk (stepI f path i).k (stepI f path i).n (stepI f path i).t (stepI f path i).l) = some (kidsF (stepI f path i)) := by
        rw [kids_val]; rfl
      simp only [e1, e2, e3, e4, e5, cond_true, Option.bind_some, Int.toNat_natCast, getD_in hi, wrapN (show i < 4611686018427387904 by omega)]
      generalize path[i] = j
      generalize kidsF (stepI f path i) = l
      by_cases c1 : j < 0
      · refine .inr (.inl ⟨_, by simp [c1]; rfl, .of ?_⟩)
        simp [c1, dF]
      · by_cases c2 : j ≥ (l.length : Int)
        · refine .inr (.inl ⟨_, by simp [c1, c2]; rfl, .of ?_⟩)
          simp [c2, dF]
        · have e6 : ixOK j l.length = true := ixOK_iff.2 (by omega)
          refine .inl ⟨?_, ?_⟩
          · simp only [c1, c2, e6, decide_false, cond_false, cond_true]
            rfl
          · simp [c1, c2]
    · refine ⟨_, by simp only [Int.lt_irrefl, decide_false, cond_false]; rfl, .of ?_⟩
      simp only [List.drop_length]
      show some (Fm.eta (stepI f path path.length), 0, ()) = _
      rw [Fm.eta_eq]
      rfl
  rcases key with h | ⟨_, h⟩
  · exact h
  · cases h
def putS : List Int → Fm → Fm → Fm
  | [], f, g => g
  | i :: p, f, g => .mk f.k f.n f.t (f.l.set i.toNat (putS p (f.l.getD i.toNat dF) g))
theorem atP_cons {i : Int} {p : List Int} {f h : Fm} (ha : atP (i :: p) f = some h) : f.k = 3 ∧ 0 ≤ i ∧ i < (f.l.length : Int) ∧ atP p (f.l.getD i.toNat dF) = some h := by
  simp only [atP] at ha
  split at ha
  · cases ha
  · rename_i hc
    have hk : f.k = 3 := Classical.byContradiction fun hk => by
      unfold kidsF at hc
      rw [if_neg hk] at hc
      simp at hc
      omega
    unfold kidsF at hc ha
    rw [if_pos hk] at hc ha
    exact ⟨hk, by omega, by omega, ha⟩
theorem kid_big {f : Fm} {i : Nat} (hi : i < f.l.length) : (f.l.getD i dF).big < f.big := by
  rw [getD_in hi]
  have h1 := big_mem (List.getElem_mem hi)
  have h2 := big_kids f
  omega
theorem rput_up : ∀ (path : List Int) (k : Nat) (f g h : Fm), atP path f = some h → path.length ≤ 4611686018427387000 → f.big ≤ 2000000000000 → Up (k < path.length + 1) (G_rput k f path g) (putS path f g)
  | [], k, f, g, h, _, hk, _ => by
    cases k with
    | zero => exact .inr ⟨by unfold G_rput; rfl, by omega⟩
    | succ k => exact .of (by unfold G_rput; simp [putS, Fm.eta_eq])
  | i :: p, k, f, g, h, ha, hk, hb => by
    cases k with
    | zero => exact .inr ⟨by unfold G_rput; rfl, by omega⟩
    | succ k =>
      obtain ⟨h1, h2, h3, h4⟩ := atP_cons ha
      have hl := length_le_big f.l
      have hkb := big_kids f
      simp only [List.length_cons] at hk
      have ei : i.toNat < f.l.length := by omega
      have ih := rput_up p k (f.l.getD i.toNat dF) g h h4 (by omega) (by have := kid_big ei; omega)
      have e0 : decide (((i :: p).length : Int) = 0) = false := by simp only [List.length_cons]; apply decide_eq_false; omega
      have e1 : ixOK 0 (i :: p).length = true := ixOK_iff.2 (by simp only [List.length_cons]; omega)
      have e2 : ixOK i f.l.length = true := ixOK_iff.2 (by omega)
      have e3 : decide (i.toNat < f.l.length) = true := by simp [ei]
      have e4 : slOK 1 ((i :: p).length : Int) (i :: p).length = true := by simp [slOK]; omega
      have e5 : cloneF 56 f.l = some ((), (f.l, ())) := by
        unfold cloneF
        rw [show decide (f.l.length * 56 ≤ 140737488355328) = true from by simp; omega]
        rfl
      have e6 : List.take (((i :: p).length : Int).toNat - (1 : Int).toNat) (List.drop (1 : Int).toNat (i :: p)) = p := by
        simp only [List.length_cons, Int.toNat_one, Int.toNat_natCast, List.drop_succ_cons, List.drop_zero]
        apply List.take_of_length_le
        omega
      have e7 : (i :: p).getD (0 : Int).toNat (0 : Int) = i := rfl
      unfold G_rput
      simp only [e0, e1, e5, e6, e7, e2, e3, e4, cond_false, cond_true, Option.bind_some, Fm.eta_eq]
      rcases ih with ih | ⟨ih, hn⟩
      · have ih' : G_rput k (f.l.getD i.toNat (Fm.mk 0 0 [] [])) p g = some (putS p (f.l.getD i.toNat dF) g) := ih
        exact .of (by simp only [ih', Option.bind_some, putS])
      · have ih' : G_rput k (f.l.getD i.toNat (Fm.mk 0 0 [] [])) p g = none := ih
        exact .inr ⟨by simp only [ih', Option.bind_none], by simp only [List.length_cons]; omega⟩
theorem lput_val {path : List Int} {f g h : Fm} (ha : atP path f = some h) (hp : path.length ≤ 4611686018427387000) (hb : f.big ≤ 2000000000000) : L_rput f path g = some (putS path f g) :=
  limF_up (b := path.length + 1) fun k => rput_up path k f g h ha hp hb
theorem putS_self : ∀ (path : List Int) (f g : Fm), atP path f = some g → putS path f g = f
  | [], f, g, h => by cases h; rfl
  | i :: p, f, g, h => by
    obtain ⟨h1, h2, h3, h4⟩ := atP_cons h
    simp only [putS]
    rw [putS_self p _ g h4]
    have ei : i.toNat < f.l.length := by omega
    rw [getD_in ei, List.set_getElem_self]
    exact Fm.eta_eq f
theorem sizeL_mem {l : List Fm} {f : Fm} (h : f ∈ l) : f.size ≤ Fm.sizeL l := by
  induction l with
  | nil => cases h
  | cons g r ih => rcases List.mem_cons.1 h with rfl | h <;> simp only [Fm.sizeL] <;> first | omega | (have := ih h; omega)
theorem depthL_mem {l : List Fm} {f : Fm} (h : f ∈ l) : f.depth ≤ Fm.depthL l := by
  induction l with
  | nil => cases h
  | cons g r ih => rcases List.mem_cons.1 h with rfl | h <;> simp only [Fm.depthL] <;> first | omega | (have := ih h; omega)
theorem at_le : ∀ (path : List Int) (f g : Fm), atP path f = some g → g.size ≤ f.size ∧ g.depth ≤ f.depth ∧ g.big ≤ f.big
  | [], f, g, h => by cases h; exact ⟨Nat.le_refl _, Nat.le_refl _, Nat.le_refl _⟩
  | i :: p, f, g, h => by
    obtain ⟨h1, h2, h3, h4⟩ := atP_cons h
    obtain ⟨a, b, c⟩ := at_le p _ g h4
    have ei : i.toNat < f.l.length := by omega
    have hm : f.l.getD i.toNat dF ∈ f.l := by rw [getD_in ei]; exact List.getElem_mem ei
    have q1 := sizeL_mem hm
    have q2 := depthL_mem hm
    have q3 := kid_big ei
    rw [Fm.size_eq f, Fm.depth_eq f, if_pos h1]
    omega
theorem rPut_val {path : List Int} {f g : Fm} (hb : f.big ≤ 2000000000000) (hp : path.length ≤ 4611686018427387000) (hv : (putS path f g).big ≤ 4611686018427387000) : G_rPut f path g = some (match atP path f with
    | some _ => if validF (putS path f g) = true then (putS path f g, 0, ()) else (dF, 2, ())
    | none => (dF, 3, ())) := by
  unfold G_rPut
  simp only [Fm.eta_eq, rat_val (show path.length < 4611686018427387904 by omega), Option.bind_some]
  unfold atR
  cases ha : atP path f with
  | none => simp [dF]
  | some h =>
    simp only [lput_val ha hp hb, Option.bind_some, rvalid_val hv, decide_true, Bool.not_true, cond_false]
    cases validF (putS path f g) <;> simp [dF]
theorem lawWhole_val {f : Fm} {path : List Int} (hb : f.big ≤ 1048576) (hp : path.length ≤ 1048576) : G_lawWhole f path = some true := by
  unfold G_lawWhole
  simp only [Fm.eta_eq, rat_val (show path.length < 4611686018427387904 by omega), Option.bind_some, sane01_val]
  unfold atR
  cases ha : atP path f with
  | none => simp
  | some g =>
    obtain ⟨h1, h2, h3⟩ := at_le path f g ha
    have hs := putS_self path f g ha
    simp only [size_val (show f.big ≤ 4611686018427387000 by omega), size_val (show g.big ≤ 4611686018427387000 by omega), depth_val (show f.big ≤ 4611686018427387000 by omega), depth_val (show g.big ≤ 4611686018427387000 by omega), rPut_val (show f.big ≤ 2000000000000 by omega) (show path.length ≤ 4611686018427387000 by omega) (show (putS path f g).big ≤ 4611686018427387000 by rw [hs]; omega), ha, hs, rvalid_val (show f.big ≤ 4611686018427387000 by omega), Option.bind_some, decide_true, Bool.not_true, cond_false]
    have e1 : decide ((g.size : Int) > (f.size : Int)) = false := by simp; omega
    have e2 : decide ((g.depth : Int) > (f.depth : Int)) = false := by simp; omega
    simp only [e1, e2, Bool.not_false, cond_true, cond_false, Option.bind_some]
    cases hv : validF f with
    | false => simp
    | true => simp [requal_val (show f.big ≤ 4611686018427387000 by omega), cmpF_self]
theorem whole_call' {f : Fm} {path : List Int} (hb : f.big ≤ 1048576) (hp : path.length ≤ 1048576) : PCall CX 6 [.agg (E.cells .form f), .tvec (.int .i64) path] (· = .ret (.bool true)) :=
  S_lawWhole_ok (f, path, ()) true (lawWhole_val hb hp)
end Go.Ab

set_option linter.unusedVariables false
set_option linter.unusedSimpArgs false
set_option maxRecDepth 100000
namespace Go.Proofs.YtmompmackgknbaaDoor.readerWhole
open Go Go.ChangeShapes Go.WideShapes Go.ChangeAt Go.RowKit Go.Ab

theorem own : ownKnob Tryd.prog.godebug = none := by kernel_rfl
def flat {H : Type} : Nat → DataW H → List Value
  | 0, _ => []
  | n + 1, d => match d with
    | .lit (.int k x) => [.int k x]
    | .agg l => l.flatMap (flat n)
    | _ => []
noncomputable def lay (W : World) (name : String) (d : DataW Unit) : World :=
  match Tryd.prog.globalNamed name with
  | some g => match d with
    | .iface _ (.ptr (.agg [.lit (.string bs)])) => { W with heap := (W.heap.push (.cells #[.string ⟨bs.toArray⟩] 173 (0, 0))).modify g fun
      | .cells _ t fz => .cells #[.iface 171 (.pointer (some ⟨W.heap.size, 0, none⟩))] t fz
      | o => o }
    | d => { W with heap := W.heap.modify g fun
      | .cells _ t fz => .cells (flat 4 d).toArray t fz
      | o => o }
  | none => W
noncomputable def laidWorld (os : Os) : World :=
  lay (lay (lay (lay (lay (lay (lay (World.holding Tryd.prog os ⟨#[], #[], []⟩) "math/bits.deBruijn32tab" Rows.laid_math_bits_deBruijn32tab) "math/bits.deBruijn64tab" Rows.laid_math_bits_deBruijn64tab) "internal/strconv.uint64pow10" Rows.laid_internal_strconv_uint64pow10) "unicode/utf8.acceptRanges" Rows.laid_unicode_utf8_acceptRanges) "strconv.ErrRange" Rows.laid_strconv_ErrRange) "strconv.ErrSyntax" Rows.laid_strconv_ErrSyntax) "unicode/utf8.first" Rows.laid_unicode_utf8_first
theorem laid_met (os : Os) : laidMet Tryd.prog Rows.readerWholeUptoRow.laid ((laidWorld os).forCall (fun _ _ => 0) ⟨#[], #[(.agg #[.int .i64 0, .int .i64 0, .string ⟨#[]⟩, .slice none 0 0]), (.slice none 0 0)], []⟩).memory :=
  laidMet_of_run' 8 (by kernel_rfl) (by kernel_rfl)
theorem reads (os : Os) {H : Type} (enc : TypeId × Value → H) : ∃ places, DataW.whole enc Tryd.prog ((laidWorld os).forCall (fun _ _ => 0) ⟨#[], #[(.agg #[.int .i64 0, .int .i64 0, .string ⟨#[]⟩, .slice none 0 0]), (.slice none 0 0)], []⟩).memory Tryd.f6.params.toList Rows.readerWholeSpec.vars false (#[(.agg #[.int .i64 0, .int .i64 0, .string ⟨#[]⟩, .slice none 0 0]), (.slice none 0 0)] : Array Value).toList 8 = some ([(.agg [.lit (.int .i64 0), .lit (.int .i64 0), .lit (.string []), .nil]), .nil], [], places) :=
  ⟨[], by kernel_rfl⟩
theorem spec_fn (H : Type) (ds : List (DataW H)) (h : ds.length = Tryd.f6.params.toList.length) : Rows.readerWholeSpec.fn H ds = { results := [.lit (.bool true)], args := ds } := by
  rw [Tryd.params6] at h
  rcases ds with _ | ⟨d0, _ | ⟨d1, _ | ⟨e, ds⟩⟩⟩
  all_goals first | (simp at h; done) | rfl
theorem contract (H : Type) (enc : TypeId × Value → H) (W : World) (base : Nat) (args : Array Value) (ds gs : List (DataW H)) (before : List MemPlace)
    (hval : ∀ (j : Nat) t v, Tryd.f6.params[j]? = some t → args[j]? = some v → Value.okWide Tryd.prog W .any base t v)
    (hW : DataW.Whole enc Tryd.prog Tryd.f6.params.toList Rows.readerWholeSpec.vars false W args.toList ds gs before) (hb : Rows.uptoSmall H (ds ++ gs) = true) :
    Calls Tryd.prog 6 args W fun e W' => ∃ v, e = .returned v ∧ Rows.readerWholeSpec.post enc Tryd.prog Tryd.f6 false true false false W args v W' :=
  contract_of (es := [.form, (.slice (.int .i64))]) (n := 12) (tb := 4) rfl spec_fn (by kernel_rfl) (by kernel_rfl) (by kernel_rfl) (by kernel_rfl) (by kernel_rfl) (by kernel_rfl) (fun x hb _ => by
      obtain ⟨(f : Fm), (p : List Int), u⟩ := x
      have h1 : p.length ≤ (p.map fun n => max 1 (bigE (.int .i64) n)).sum := len_sum _ p
      have h2 : f.big + ((p.map fun n => max 1 (bigE (.int .i64) n)).sum + 0) ≤ 1048576 := hb
      exact whole_call' (f := f) (path := p) (by omega) (by omega)) H enc W base args ds gs before hval hW hb

theorem lifted (os : Os) (started : os.Started) (H : Type) (enc : TypeId × Value → H) (F : Stop.Interp) :
    ReturnsInHanded {} Tryd.checked os 6 .any ((Rows.OpenSpec.upto Rows.readerWholeSpec).preRow enc Tryd.prog Tryd.f6 Rows.readerWholeUptoRow.domain false Rows.readerWholeUptoRow.laid) (((Rows.OpenSpec.upto Rows.readerWholeSpec).at F).post enc Tryd.prog Tryd.f6 false true false false) := by
  obtain ⟨places, hx⟩ := reads os enc
  refine returnsInHanded_of_row (C := Tryd.checked) (s := Rows.OpenSpec.upto Rows.readerWholeSpec) own started (by kernel_rfl) Tryd.func6
    (witness_row_at (enc := enc) (C := Tryd.checked) false (laidWorld os) #[(.agg #[.int .i64 0, .int .i64 0, .string ⟨#[]⟩, .slice none 0 0]), (.slice none 0 0)] rfl (by kernel_rfl) (by kernel_rfl) (by kernel_rfl)
      (OpenSpec.preRow_of_cond 8 hx (by kernel_rfl) (fun k hk => by cases hk; kernel_rfl) (by kernel_rfl) (laid_met os))) ?_
  intro W base args ds gs before hval hW g1 g2 g3 hL g4 g5
  exact contract H enc W base args ds gs before hval hW (g2 _ rfl)

theorem said : Rows.ReaderWholeUptoSaid :=
  OpenClaim.holds_of_cond 6 Tryd.f6 rfl rfl rfl rfl rfl rfl rfl ⟨rfl, rfl, rfl, rfl, rfl⟩ rfl rfl rfl rfl rfl (by kernel_rfl) Tryd.func6 (by kernel_rfl)
    (of_decide_eq_true (by kernel_rfl)) (by unfold Func.isWrapper; first | (rw [if_pos (by decide +kernel)]; kernel_rfl) | (rw [if_neg (by decide +kernel)]; exact ⟨rfl, rfl⟩))
    (fun os started H enc _ F => by rw [OpenClaim.pre_eq_preRow]; exact lifted os started H enc F)
theorem plain (f : FuncId) (fn : Func) (hf : Tryd.pinned.checked.prog.funcNamed "plinth/plinthlaw01.ReaderWhole" = some f) (hfn : Tryd.pinned.checked.prog.funcs[f]? = some fn) :
    true = Tryd.pinned.checked.prog.looks [] ∧ ∀ (j : Nat) t, fn.params[j]? = some t → Tryd.pinned.checked.prog.wantsStandIn t = false := by
  obtain rfl : f = 6 := Option.some.inj ((show Tryd.prog.funcNamed "plinth/plinthlaw01.ReaderWhole" = some 6 by kernel_rfl).symm.trans hf) |>.symm
  obtain rfl : fn = Tryd.f6 := (Option.some.inj (Tryd.func6.symm.trans hfn)).symm
  refine ⟨by kernel_rfl, fun j t ht => ?_⟩
  rw [Tryd.params6] at ht
  have hm := Array.mem_of_getElem? ht
  simp only [List.mem_toArray, List.mem_cons, List.mem_nil_iff, or_false] at hm
  have w0 : Tryd.prog.wantsStandIn 24 = false := by kernel_rfl
  have w1 : Tryd.prog.wantsStandIn 59 = false := by kernel_rfl
  rcases hm with h | h <;> rw [h] <;> first | exact w0 | exact w1
theorem proved : Rows.ReaderWholeUptoCardSaid :=
  Claim7.holds_tied_plain_at .later _ _ _ _ _ said (fun _ h => by cases h) (by kernel_rfl) (fun _ h => by cases h) readerWholeUpto_row_tie rfl ⟨rfl, rfl⟩ (by kernel_rfl) rfl plain (by kernel_rfl)
#print axioms proved
end Go.Proofs.YtmompmackgknbaaDoor.readerWhole
