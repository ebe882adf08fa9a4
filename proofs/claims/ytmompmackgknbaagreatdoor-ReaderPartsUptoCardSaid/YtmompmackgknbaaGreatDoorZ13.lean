/-
  LINEAR: products of words, and numbers within bounds.
-/
import Derived.Test.YtmompmackgknbaaGreatDoorZ11
import Derived.Lib.Builder
import Derived.Lib.UnsafeStr
import Derived.WalkKit
import Derived.Laws.Externs
import Derived.Shelf.RegionOpenPlain
import Derived.Laws.Bits64b
/-
  strings.Builder: copyCheck and String, walked over the heap; then over objects.
-/
set_option linter.unusedVariables false
set_option linter.unusedSimpArgs false
namespace Go.Ab
open Go Go.RowKit Go.Proofs

theorem uPB : Tryz.prog.underlying 121 = some (.pointer 124) := by kernel_rfl
theorem uUP : Tryz.prog.underlying 204 = some .unsafePointer := by kernel_rfl
theorem iB : ∃ j, Tryz.prog.info? 124 = some j ∧ j.size = 2 := by
  have h : (Tryz.prog.info? 124).map (·.size) = some 2 := by kernel_rfl
  exact Option.map_eq_some_iff.1 h
set_option maxHeartbeats 1000000 in
set_option maxRecDepth 100000 in
theorem copyCheck_used (b : Nat) (w : World) (h0 : w.cell? ⟨b, 0, none⟩ = some (.pointer (some ⟨b, 0, none⟩))) :
    Calls Tryz.prog 141 #[.pointer (some ⟨b, 0, none⟩)] w fun e w' => e = .returned (.tuple #[]) ∧ w' = w := by
  obtain ⟨j, hj, _⟩ := iB
  go_enter Tryz.func141, Tryz.ntmps141
  go_wp2
  rw [Lib.run_neq_ptr_same w _ uPB hj]
  go_wp2
  go_end0
  exact ⟨rfl, rfl⟩
set_option maxHeartbeats 1000000 in
set_option maxRecDepth 100000 in
theorem copyCheck_fresh (b : Nat) (w : World) (h0 : w.cell? ⟨b, 0, none⟩ = some (.pointer none)) (hsh : w.shape? b = some (124, 2)) (hfz : w.frozen? ⟨b, 0, none⟩ = false) :
    Calls Tryz.prog 141 #[.pointer (some ⟨b, 0, none⟩)] w fun e w' => e = .returned (.tuple #[]) ∧ w' = w.setCell ⟨b, 0, none⟩ (.pointer (some ⟨b, 0, none⟩)) := by
  obtain ⟨j, hj, hjs⟩ := iB
  go_enter Tryz.func141, Tryz.ntmps141
  go_wp2
  rw [Lib.run_to_unsafe w ⟨b, 0, none⟩ uPB uUP hj (by rw [hjs]; decide) hsh (Nat.zero_lt_succ 1)]
  simp only [Result.andThen]
  rw [Oper.upon_value]
  go_wp2
  rw [run_callFunc_extern Tryz.func172 (by kernel_rfl) (by kernel_rfl) (by kernel_rfl) (e := Extern.AbiNoEscape.same) (by kernel_rfl)]
  rw [Lib.run_noEscape]
  simp only [Result.andThen]
  rw [Oper.upon_value]
  go_wp2
  rw [Lib.run_from_unsafe w ⟨b, 0, none⟩ uUP uPB hj hsh (by kernel_rfl)]
  simp only [Result.andThen]
  rw [Oper.upon_value]
  go_wp2
  go_end0
  exact ⟨rfl, rfl⟩

/-! ### over objects -/
theorem Inv.nxup {C : Cx} {B : Base} {kn : Kn} {m : Mp} {σ : Sto} {nx nx' : Nat} {w : World} (h : Inv C B kn m σ nx w) (hn : nx ≤ nx') : Inv C B kn m σ nx' w :=
  ⟨h.knok, h.size, h.os, h.tape, h.output, h.old, h.obj, h.own, h.dist, fun n q => h.dom n (Nat.le_trans hn q), fun p nm ob e => Nat.lt_of_lt_of_le (h.lt p nm ob e) hn, h.uniq, h.glob⟩
abbrev bldCells : List Sh := [.mref 0 0, .gs 1 (.int .u8)]
abbrev bldO (k : Bool) : Slots := [(k, .cells 124 bldCells), (k, .tg (.int .u8) 5)]
def S_copyCheck : Sig := .o ⟨bldO false, [.ref 0 0], bldO true, .tup [], fun x => some ((), ((true, (), ()), x.2.2.1, ()))⟩
theorem S_copyCheck_ok : SigOK CX 141 S_copyCheck := by
  refine ⟨by kernel_rfl, fun x r hr B kn m w vs hI hlay hargs => ?_⟩
  cases hr
  obtain ⟨loc, hm⟩ := hlay 0 (by decide)
  obtain ⟨xa, ⟨⟨b0, u1, u2⟩, l, u3⟩⟩ := x
  have hp : (osto 0 (bldO false) ((b0, u1, u2), l, u3))[0]? = some (0, .cells 124 [.mref 0 0 0 b0, .gs 1 1 (.int .u8) l.length]) := rfl
  have hob := hI.obj _ _ _ hp
  simp only [ObjRel, hm] at hob
  obtain ⟨hnl, h0, arr, hw, hrl, hone⟩ := hob
  obtain ⟨v0, vs0, ha0, hr0, hrl⟩ := hrl.uncons
  obtain ⟨v1, vs1, rfl, hr1, hrl⟩ := hrl.uncons
  have : vs1 = [] := List.eq_nil_of_length_eq_zero hrl.1.symm
  subst this
  have harr : arr = #[v0, v1] := by rw [← Array.toArray_toList (xs := arr), ha0]
  subst harr
  obtain ⟨a, as1, rfl, hra, hargs⟩ := RelL.uncons hargs
  have : as1 = [] := List.eq_nil_of_length_eq_zero hargs.1.symm
  subst this
  have hra : Rel kn m (.ref 0 0 0) a := hra
  cases hra with
  | ref _ _ _ loc' hm' =>
    rw [hm] at hm'; cases hm'
    rw [h0]
    refine .inl ⟨by kernel_rfl, ?_⟩
    have fin : ∀ w', w'.heap.size = w.heap.size → w'.os = w.os → w'.tape = w.tape → w'.output = w.output → (∀ b, b ≠ loc.blk → w'.heap[b]? = w.heap[b]?) → w'.heap[loc.blk]? = some (.cells #[.pointer (some ⟨loc.blk, 0, none⟩), v1] 124 (0, 0)) →
        ∃ kn' m', KnLe kn kn' ∧ Inv CX B kn' m' (osto 2 (bldO true) ((true, (), ()), l, ())) (2 + 2) w' ∧ (∀ i, i < 2 → m' i = m i) ∧ (∀ j, j < 2 → ∃ loc, m' (nameOf 2 j (bldO true)) = some loc) ∧ RelOut kn' m' (.ret (.tup [])) (.returned (.tuple #[])) := fun w' q1 q2 q3 q4 q5 q6 => by
      obtain ⟨k1, k2⟩ := hI.write (ob' := .cells 124 [.mref 0 0 0 true, .gs 1 1 (.int .u8) l.length]) hp trivial hm hnl q1 q2 q3 q4 q5 (by
        simp only [ObjRel, hm]
        refine ⟨hnl, h0, _, q6, .cons ?_ (.cons hr1 (.nil _ _)), fun v hv => ?_⟩
        · have := Rel.mrefSome (kn := kn) 0 0 0 loc hm
          rw [h0] at this
          exact this
        · simp at hv
          rcases hv with rfl | rfl
          · rfl
          · exact hone _ (by rw [ha0]; simp))
      refine ⟨kn, m, KnLe.refl _, k1.nxup (by show 0 + 2 ≤ 4; omega), fun _ _ => rfl, fun j hj => ?_, .tup [] #[] rfl (fun i x v e => by simp at e)⟩
      have hj2 : nameOf 2 j (bldO true) = j := by
        match j, hj with
        | 0, _ => rfl
        | 1, _ => rfl
      rw [hj2]
      exact hlay j hj
    have hr0 : Rel kn m (.mref 0 0 0 b0) v0 := hr0
    cases hr0 with
    | mrefSome _ _ _ loc' hm' =>
      rw [hm] at hm'; cases hm'
      rw [h0] at hw
      refine (copyCheck_used loc.blk w (by rw [Lib.cell_of_heap hw]; rfl)).mono fun e w' ⟨he, hw'⟩ => ?_
      subst he; rw [hw']
      exact fin w rfl rfl rfl rfl (fun _ _ => rfl) hw
    | mrefNil =>
      refine (copyCheck_fresh loc.blk w (by rw [Lib.cell_of_heap hw]; rfl) (by simp [World.shape?, hw]) (Lib.frozen_of_heap hw 0)).mono fun e w' ⟨he, hw'⟩ => ?_
      subst he; rw [hw']
      exact fin _ (by simp [World.setCell]) rfl rfl rfl (fun b hb => Below.heap_setCell _ _ _ _ hb) (by simp [World.setCell, Array.getElem?_modify, hw])


/-! ### String -/
theorem liesAt_off {P : Program} {e : TypeId} (hc : P.cellsOf e = 1) (count o n : Nat) (hn : o + n ≤ count) : liesAt P P.depth e count o e n = true := by
  have hd : P.depth = (2 * (P.types.size + Made.depth) + 1) + 1 := rfl
  rw [hd]
  simp only [liesAt, Bool.or_eq_true]
  left
  rw [hd]
  simp [rowAt, hc, hn, sameLayout, Nat.mod_one]
theorem run_unsafeString_off {P : Program} (w : World) (pt it ty e : TypeId) (hp : P.underlying pt = some (.pointer e)) (hc : P.cellsOf e = 1) (g o cells : Nat) (hsh : w.shape? g = some (e, cells)) (l : List UInt8) (h0 : l ≠ []) (hn : o + l.length ≤ cells) (h63 : l.length ≤ 9223372036854775807)
    (hcell : ∀ j x, l[j]? = some x → w.cell? ((⟨g, o, none⟩ : Addr).add j) = some (.int .u8 x.toNat)) :
    (Builtin.unsafeString_ #[pt, it] ty #[.pointer (some ⟨g, o, none⟩), .int .i64 l.length]).run P w = .ok (.string ⟨l.toArray⟩) (w.freeze ⟨g, o, none⟩ l.length) := by
  have hl : l.length ≠ 0 := by simpa using h0
  have hlb := Lib.run_loadBytes (P := P) w l ⟨g, o, none⟩ .empty hcell
  have hlies := liesAt_off (P := P) hc (cells / P.cellsOf e) o l.length (by rw [hc]; simpa using hn)
  have h63' : ¬ (9223372036854775807 : Int) < (l.length : Int) := by omega
  have hdef : Builtin.unsafeString_ #[pt, it] ty #[.pointer (some ⟨g, o, none⟩), .int .i64 l.length] =
      (do
        let n ← asInt (.int .i64 l.length)
        if n < 0 then runtimePanic (.error "unsafe.String: len out of range")
        if n > IntKind.i64.max then unsupported (.unsafePointer "String: a length above the largest int")
        if n = 0 then pure (.string .empty)
        else if ← variablesAt ⟨g, o, none⟩ (← elemOf pt) n.toNat then do
          let s ← loadBytes ⟨g, o, none⟩ .empty n.toNat
          freeze ⟨g, o, none⟩ n.toNat
          pure (.string s)
        else unsupported (.unsafePointer "String: not so many bytes at ptr")) := rfl
  rw [hdef]
  have hmax : IntKind.i64.max = 9223372036854775807 := rfl
  have hneg : ¬ (l.length : Int) < 0 := by omega
  simp [asInt, asIntOf, hmax, h63', hneg, hl, variablesAt, hsh, elemOf, run_underlying hp, hlies, hlb]
theorem uPU : Tryz.prog.underlying 168 = some (.pointer 5) := by kernel_rfl
theorem cU8 : Tryz.prog.cellsOf 5 = 1 := by kernel_rfl
abbrev Same (w w' : World) (g : Nat) : Prop := w.heap.size ≤ w'.heap.size ∧ w'.os = w.os ∧ w'.tape = w.tape ∧ w'.output = w.output ∧ ∀ b, b < w.heap.size → b ≠ g → w'.heap[b]? = w.heap[b]?
theorem same_drew (w : World) (g : Nat) : Same w w.drew g := ⟨Nat.le_refl _, rfl, rfl, rfl, fun _ _ _ => rfl⟩
theorem same_freeze (w : World) (g o n : Nat) : Same w (w.drew.freeze ⟨g, o, none⟩ n) g := by
  obtain ⟨k1, k2, k3, k4, _⟩ := Lib.below_freeze (Below.drew (Below.refl g w)) (p := ⟨g, o, none⟩) (Nat.le_refl g) n
  refine ⟨k4, k1, k2, k3, fun b hb hne => ?_⟩
  unfold World.freeze
  split
  · rfl
  · show (Array.modify _ _ _)[b]? = _
    rw [Array.getElem?_modify, if_neg (fun e => hne e.symm)]
    rfl
theorem same_alloc (w : World) (g : Nat) (ob : Obj) : Same w (w.drew.alloc ob) g := ⟨by simp, rfl, rfl, rfl, fun b hb _ => Below.heap_alloc _ _ _ hb⟩
theorem same_alloc' (w : World) (g : Nat) (ob : Obj) : Same w (w.alloc ob).drew g := ⟨by simp [World.drew], rfl, rfl, rfl, fun b hb _ => Below.heap_alloc _ _ _ hb⟩
theorem mixedO : Tryz.prog.follows .mixedOrders = true := by kernel_rfl
set_option maxHeartbeats 2000000 in
set_option maxRecDepth 100000 in
theorem string_row (b g o cap : Nat) (cur : Array Value) (w : World) (l : List UInt8) (p : Value) (h0 : l ≠ []) (hbk : w.heap[b]? = some (.cells #[p, .slice (some ⟨g, o, none⟩) l.length cap] 124 (0, 0)))
    (hg : w.heap[g]? = some (.cells cur 5 (0, 0))) (hnc : l.length ≤ cap) (hcs : o + cap ≤ cur.size) (hcm : cap ≤ maxLen) (hcell : ∀ j x, l[j]? = some x → w.cell? ((⟨g, o, none⟩ : Addr).add j) = some (.int .u8 x.toNat)) :
    Calls Tryz.prog 90 #[.pointer (some ⟨b, 0, none⟩)] w fun e w' => e = .returned (.string ⟨l.toArray⟩) ∧ Same w w' g := by
  have hl0 : l.length ≠ 0 := by simpa using h0
  have mixed := mixedO
  have c1 : w.drew.cell? ⟨b, 1, none⟩ = some (.slice (some ⟨g, o, none⟩) l.length cap) := by
    have : w.drew.heap[b]? = some (.cells #[p, .slice (some ⟨g, o, none⟩) l.length cap] 124 (0, 0)) := hbk
    rw [Lib.cell_of_heap this]; rfl
  have c0 : w.cell? ⟨b, 1, none⟩ = some (.slice (some ⟨g, o, none⟩) l.length cap) := c1
  have hSD : (Builtin.unsafeSliceData_ #[122] 168 #[.slice (some ⟨g, o, none⟩) l.length cap]).run Tryz.prog w.drew = .ok (.pointer (some ⟨g, o, none⟩)) w.drew :=
    Lib.run_unsafeSliceData_row _ _ _ _ _ _ (by omega)
  have hUS : (Builtin.unsafeString_ #[168, 3] 9 #[.pointer (some ⟨g, o, none⟩), .int .i64 l.length]).run Tryz.prog w.drew = .ok (.string ⟨l.toArray⟩) (w.drew.freeze ⟨g, o, none⟩ l.length) := by
    refine run_unsafeString_off w.drew 168 3 9 5 uPU cU8 g o cur.size (by have hg' : w.drew.heap[g]? = some (.cells cur 5 (0, 0)) := hg; simp [World.shape?, hg']) l h0 (by omega) (by unfold maxLen at hcm; omega) hcell
  have hfin := same_freeze w g o l.length
  go_enter Tryz.func90, Tryz.ntmps90
  go_wp2
  go_region_o
  all_goals (go_wp2; go_ret; exact ⟨rfl, hfin⟩)
set_option maxHeartbeats 2000000 in
set_option maxRecDepth 100000 in
theorem string_nil (b g : Nat) (w : World) (p : Value) (hbk : w.heap[b]? = some (.cells #[p, .slice none 0 0] 124 (0, 0))) :
    Calls Tryz.prog 90 #[.pointer (some ⟨b, 0, none⟩)] w fun e w' => e = .returned (.string ⟨#[]⟩) ∧ Same w w' g := by
  have mixed := mixedO
  have c1 : w.drew.cell? ⟨b, 1, none⟩ = some (.slice none 0 0) := by
    have : w.drew.heap[b]? = some (.cells #[p, .slice none 0 0] 124 (0, 0)) := hbk
    rw [Lib.cell_of_heap this]; rfl
  have c0 : w.cell? ⟨b, 1, none⟩ = some (.slice none 0 0) := c1
  have hSD : (Builtin.unsafeSliceData_ #[122] 168 #[.slice none 0 0]).run Tryz.prog w.drew = .ok (.pointer none) w.drew := rfl
  have hUS : (Builtin.unsafeString_ #[168, 3] 9 #[.pointer none, .int .i64 0]).run Tryz.prog w.drew = .ok (.string ⟨#[]⟩) w.drew := Lib.run_unsafeString_none w.drew _ _ _ none
  have hfin := same_drew w g
  go_enter Tryz.func90, Tryz.ntmps90
  go_wp2
  go_region_o
  all_goals (go_wp2; go_ret; exact ⟨rfl, hfin⟩)
set_option maxHeartbeats 2000000 in
set_option maxRecDepth 100000 in
theorem string_room (b g g' o cap : Nat) (w : World) (p : Value) (hc : cap ≠ 0) (hbk : w.heap[b]? = some (.cells #[p, .slice (some ⟨g', o, none⟩) 0 cap] 124 (0, 0))) :
    Calls Tryz.prog 90 #[.pointer (some ⟨b, 0, none⟩)] w fun e w' => e = .returned (.string ⟨#[]⟩) ∧ Same w w' g := by
  have mixed := mixedO
  have c1 : w.drew.cell? ⟨b, 1, none⟩ = some (.slice (some ⟨g', o, none⟩) 0 cap) := by
    have : w.drew.heap[b]? = some (.cells #[p, .slice (some ⟨g', o, none⟩) 0 cap] 124 (0, 0)) := hbk
    rw [Lib.cell_of_heap this]; rfl
  have c0 : w.cell? ⟨b, 1, none⟩ = some (.slice (some ⟨g', o, none⟩) 0 cap) := c1
  have hSD : (Builtin.unsafeSliceData_ #[122] 168 #[.slice (some ⟨g', o, none⟩) 0 cap]).run Tryz.prog w.drew = .ok (.pointer (some ⟨g', o, none⟩)) w.drew :=
    Lib.run_unsafeSliceData_row _ _ _ _ _ _ hc
  have hUS : (Builtin.unsafeString_ #[168, 3] 9 #[.pointer (some ⟨g', o, none⟩), .int .i64 0]).run Tryz.prog w.drew = .ok (.string ⟨#[]⟩) w.drew := Lib.run_unsafeString_none w.drew _ _ _ _
  have hfin := same_drew w g
  go_enter Tryz.func90, Tryz.ntmps90
  go_wp2
  go_region_o
  all_goals (go_wp2; go_ret; exact ⟨rfl, hfin⟩)
set_option maxHeartbeats 2000000 in
set_option maxRecDepth 100000 in
theorem string_noroom (b g g' o : Nat) (cur : Array Value) (w : World) (p : Value) (hbk : w.heap[b]? = some (.cells #[p, .slice (some ⟨g', o, none⟩) 0 0] 124 (0, 0))) (hg : w.heap[g']? = some (.cells cur 5 (0, 0))) :
    Calls Tryz.prog 90 #[.pointer (some ⟨b, 0, none⟩)] w fun e w' => e = .returned (.string ⟨#[]⟩) ∧ Same w w' g := by
  have mixed := mixedO
  have hlt : b < w.heap.size := by
    rcases Nat.lt_or_ge b w.heap.size with h' | h'
    · exact h'
    · simp [Array.getElem?_eq_none h'] at hbk
  have c1 : w.drew.cell? ⟨b, 1, none⟩ = some (.slice (some ⟨g', o, none⟩) 0 0) := by
    have : w.drew.heap[b]? = some (.cells #[p, .slice (some ⟨g', o, none⟩) 0 0] 124 (0, 0)) := hbk
    rw [Lib.cell_of_heap this]; rfl
  have hSD : (Builtin.unsafeSliceData_ #[122] 168 #[.slice (some ⟨g', o, none⟩) 0 0]).run Tryz.prog w.drew = .ok (.pointer (some ⟨w.drew.heap.size, 0, none⟩)) (w.drew.alloc (.view ⟨g', o, none⟩ 5)) :=
    Lib.run_unsafeSliceData_zero w.drew _ _ 5 uPU ⟨g', o, none⟩ 0 (5, cur.size) (by have hg' : w.drew.heap[g']? = some (.cells cur 5 (0, 0)) := hg; simp [World.shape?, hg'])
  have c2 : (w.drew.alloc (.view ⟨g', o, none⟩ 5)).cell? ⟨b, 1, none⟩ = some (.slice (some ⟨g', o, none⟩) 0 0) := by
    have : (w.drew.alloc (.view ⟨g', o, none⟩ 5)).heap[b]? = _ := (Lib.alloc_old w.drew _ b hlt).trans hbk
    rw [Lib.cell_of_heap this]; rfl
  have c3 : (w.alloc (.view ⟨g', o, none⟩ 5)).drew.cell? ⟨b, 1, none⟩ = some (.slice (some ⟨g', o, none⟩) 0 0) := c2
  have c0 : w.cell? ⟨b, 1, none⟩ = some (.slice (some ⟨g', o, none⟩) 0 0) := c1
  have hUS : ∀ (W : World) (q : Option Addr), (Builtin.unsafeString_ #[168, 3] 9 #[.pointer q, .int .i64 0]).run Tryz.prog W = .ok (.string ⟨#[]⟩) W := fun W q => Lib.run_unsafeString_none W _ _ _ q
  have hfin := same_alloc w g (.view ⟨g', o, none⟩ 5)
  go_enter Tryz.func90, Tryz.ntmps90
  go_wp2
  go_region_o
  all_goals (go_wp2; go_ret; exact ⟨rfl, hfin⟩)
end Go.Ab

/-
  strings.Builder's String, over objects.
-/
set_option linter.unusedVariables false
set_option linter.unusedSimpArgs false
namespace Go.Ab
open Go Go.RowKit Go.Proofs

/-! ### String, over objects -/
theorem Inv.forget {C : Cx} {B : Base} {kn : Kn} {m : Mp} {σ : Sto} {nx nx' : Nat} {w w' : World} {g : Nat} (h : Inv C B kn m σ nx w) (hs : Same w w' g) (hn : nx ≤ nx') (hg : (B.w.heap.size ≤ g ∨ B.own g) ∧ ∀ o, kn g o = none) : Inv C B kn m [] nx' w' := by
  obtain ⟨h1, h2, h3, h4, h5⟩ := hs
  refine ⟨fun b o v e => ?_, Nat.le_trans h.size h1, h2.trans h.os, h3.trans h.tape, h4.trans h.output, fun b hb hob => ?_, fun p nm ob e => by simp at e, fun p nm ob loc e => by simp at e, fun p nm ob loc p' nm' ob' loc' e => by simp at e, fun n q => h.dom n (Nat.le_trans hn q), fun p nm ob e => by simp at e, fun p p' nm ob ob' e => by simp at e, h.glob⟩
  · have hlt := h.kn_lt e
    have hne : b ≠ g := fun q => by rw [q, hg.2 o] at e; cases e
    have := h.knok b o v e
    unfold World.cell? at this ⊢
    rw [h5 b hlt hne]; exact this
  · have hlt := Nat.lt_of_lt_of_le hb h.size
    have hne : b ≠ g := fun q => by
      subst q
      rcases hg.1 with q | q
      · omega
      · exact hob q
    exact ⟨(h5 b hlt hne).trans (h.old b hb hob).1, (h.old b hb hob).2⟩
theorem addr_add (g o j : Nat) : (⟨g, o, none⟩ : Addr).add j = ⟨g, o + j, none⟩ := by
  unfold Addr.add
  by_cases h : j = 0
  · subst h; simp
  · simp [h]
def bytesOf (l : List Int) : Option (List UInt8) := if (l.all fun n => decide (0 ≤ n ∧ n < 256)) = true then some (l.map fun n => UInt8.ofNat n.toNat) else none
def S_string : Sig := .o ⟨bldO false, [.ref 0 0], [], .d .str, fun x => (bytesOf x.2.2.1).map fun s => (s, ())⟩
theorem rowsU8_get (l : List Int) {j : Nat} {n : Int} (h : l[j]? = some n) : (List.map (E.row (.int .u8)) l)[j]? = some [.int .u8 n] :=
  show (List.map (fun n : Int => [AV.int .u8 n]) l)[j]? = _ from by rw [List.getElem?_map, h]; rfl
theorem rowsU8_len (l : List Int) : (List.map (E.row (.int .u8)) l).length = l.length := List.length_map ..
theorem string_over (b0 : Bool) (l : List Int) (r : List UInt8) (hr : bytesOf l = some r) (B : Base) (kn : Kn) (m : Mp) (w : World) (vs : List Value) (hI : Inv CX B kn m (osto 0 (bldO false) ((b0, (), ()), l, ())) 2 w)
    (hlay : ∀ i, i < 2 → ∃ loc, m i = some loc) (hargs : RelL kn m [.ref 0 0 0] vs) : Does CX.P 90 vs.toArray w fun e w' => ∃ kn' m', KnLe kn kn' ∧ Inv CX B kn' m' [] 2 w' ∧ (∀ i, i < 2 → m' i = m i) ∧ RelOut kn' m' (.ret (.str r)) e := by
  obtain ⟨loc, hm⟩ := hlay 0 (by decide)
  obtain ⟨loc1, hm1⟩ := hlay 1 (by decide)
  have hp : (osto 0 (bldO false) ((b0, (), ()), l, ()))[0]? = some (0, .cells 124 [.mref 0 0 0 b0, .gs 1 1 (.int .u8) l.length]) := rfl
  have hp1 : (osto 0 (bldO false) ((b0, (), ()), l, ()))[1]? = some (1, .tg (.int .u8) 5 l) := rfl
  have hob := hI.obj _ _ _ hp
  have hob1 := hI.obj _ _ _ hp1
  simp only [ObjRel, hm] at hob
  obtain ⟨hnl, h0, arr, hw, hrl, hone⟩ := hob
  obtain ⟨v0, vs0, ha0, hr0, hrl⟩ := hrl.uncons
  obtain ⟨v1, vs1, rfl, hr1, hrl⟩ := hrl.uncons
  have : vs1 = [] := List.eq_nil_of_length_eq_zero hrl.1.symm
  subst this
  have harr : arr = #[v0, v1] := by rw [← Array.toArray_toList (xs := arr), ha0]
  subst harr
  obtain ⟨a, as1, rfl, hra, hargs⟩ := RelL.uncons hargs
  have : as1 = [] := List.eq_nil_of_length_eq_zero hargs.1.symm
  subst this
  have hra : Rel kn m (.ref 0 0 0) a := hra
  obtain ⟨q1, q2, q3⟩ := hI.own 0 0 _ loc hp trivial hm hnl
  unfold bytesOf at hr
  split at hr
  · rename_i hall
    cases hr
    cases hra with
    | ref _ _ _ loc' hm' =>
      rw [hm] at hm'; cases hm'
      rw [h0]
      refine .inl ⟨by kernel_rfl, ?_⟩
      have fin : ∀ (g : Nat) (w' : World), Same w w' g → ((B.w.heap.size ≤ g ∨ B.own g) ∧ ∀ o, kn g o = none) →
          ∃ kn' m', KnLe kn kn' ∧ Inv CX B kn' m' [] 2 w' ∧ (∀ i, i < 2 → m' i = m i) ∧ RelOut kn' m' (.ret (.str (l.map fun n => UInt8.ofNat n.toNat))) (.returned (.string ⟨(l.map fun n => UInt8.ofNat n.toNat).toArray⟩)) := fun g w' hs hg =>
        ⟨kn, m, KnLe.refl _, hI.forget hs (Nat.le_refl _) hg, fun _ _ => rfl, .str _⟩
      have hgv : GvRel kn m w 1 1 5 (l.map (E.row (.int .u8))) := hob1
      obtain ⟨locx, hx, hlen, hgv⟩ := hgv
      rw [hm1] at hx; cases hx
      have hr1 : Rel kn m (.gs 1 1 (.int .u8) l.length) v1 := hr1
      cases hr1 with
      | gs _ _ _ _ _ locy hy hly hsl =>
        rw [hm1] at hy; cases hy
        have hsl : Rel kn m (.sref 1 1 1 0 l.length) v1 := hsl
        generalize hn : l.length = n at hsl
        cases hsl with
        | srefNil _ _ _ locz hz hznil =>
          have hl : l = [] := List.eq_nil_of_length_eq_zero hn
          subst hl
          exact (string_nil loc.blk loc.blk w v0 hw).mono fun e w' ⟨he, hs⟩ => (by subst he; exact fin loc.blk w' hs ⟨q2, q3⟩)
        | sref _ _ _ _ _ locz hz hznil hze hzl hzm =>
          rw [hm1] at hz; cases hz
          rcases hgv with ⟨hnil, _⟩ | ⟨_, hesz, arr1, hw1, hsz, hcap, hmax, hone1, hrow, hrel⟩
          · rw [hnil] at hznil; cases hznil
          obtain ⟨p1, p2, p3⟩ := hI.own 1 1 _ loc1 hp1 trivial hm1 hznil
          have hze : loc1.esz = 1 := hze
          simp only [Nat.zero_mul, Nat.add_zero, Nat.sub_zero] at hw ⊢
          by_cases hl0 : l = []
          · subst hl0
            have hn0 : n = 0 := hn.symm
            subst hn0
            by_cases hc0 : loc1.cap = 0
            · rw [hc0] at hw
              exact (string_noroom loc.blk loc1.blk loc1.blk loc1.off arr1 w v0 hw hw1).mono fun e w' ⟨he, hs⟩ => (by subst he; exact fin loc1.blk w' hs ⟨p2, p3⟩)
            · exact (string_room loc.blk loc1.blk loc1.blk loc1.off loc1.cap w v0 hc0 hw).mono fun e w' ⟨he, hs⟩ => (by subst he; exact fin loc1.blk w' hs ⟨p2, p3⟩)
          · have hll : (l.map fun n => UInt8.ofNat n.toNat).length = n := by rw [List.length_map]; exact hn
            subst hn
            rw [← hll] at hw
            have hcap' : l.length ≤ loc1.cap := (rowsU8_len l) ▸ hcap
            refine (string_row loc.blk loc1.blk loc1.off loc1.cap arr1 w (l.map fun n => UInt8.ofNat n.toNat) v0 (by simpa using hl0) hw hw1 (by simpa using hcap') (by omega) hmax (fun j x hx => ?_)).mono fun e w' ⟨he, hs⟩ => (by subst he; exact fin loc1.blk w' hs ⟨p2, p3⟩)
            rw [List.getElem?_map] at hx
            cases hlj : l[j]? with
            | none => rw [hlj] at hx; cases hx
            | some n =>
              rw [hlj] at hx
              simp only [Option.map_some, Option.some.injEq] at hx
              have hj := (List.getElem?_eq_some_iff.1 hlj).1
              have hnb : 0 ≤ n ∧ n < 256 := by
                have := List.all_eq_true.1 hall n (List.mem_of_getElem? hlj)
                simpa using this
              have hin : loc1.off + j < arr1.size := by omega
              have hrv := hrel j [.int .u8 n] 0 (.int .u8 n) arr1[loc1.off + j] (rowsU8_get l hlj) rfl (by
                rw [Nat.mul_one, Nat.add_zero]
                exact Array.getElem?_eq_getElem hin)
              rw [addr_add]
              rw [Lib.cell_of_heap hw1, Array.getElem?_eq_getElem hin]
              generalize arr1[loc1.off + j] = u at hrv
              cases hrv
              rw [← hx]
              have : ((UInt8.ofNat n.toNat).toNat : Int) = n := by
                have e : n.toNat < 2 ^ 8 := by omega
                rw [UInt8.toNat_ofNat_of_lt' e]; omega
              rw [this]
  · cases hr
theorem S_string_ok : SigOK CX 90 S_string := by
  refine ⟨by kernel_rfl, fun x r hr B kn m w vs hI hlay hargs => ?_⟩
  have hr : (bytesOf x.2.2.1).map (fun s => (s, ())) = some r := hr
  obtain ⟨s, hs, rfl⟩ := Option.map_eq_some_iff.1 hr
  exact (string_over x.2.1.1 x.2.2.1 s hs B kn m w vs hI hlay hargs).mono fun e w' ⟨kn', m', h1, h2, h3, h4⟩ => ⟨kn', m', h1, h2, h3, fun j hj => absurd hj (by show ¬ j < 0; omega), h4⟩
end Go.Ab

/-
  TEXTS: which characters a text may have.
-/
set_option linter.unusedVariables false
set_option linter.unusedSimpArgs false
set_option maxRecDepth 100000
namespace Go.Ab
open Go Go.RowKit Go.Proofs

def badR (c : Int) : Bool := !decide (c = 10) && (decide (c < 32) || decide (126 < c))
theorem badR_call (c : Int) : PCall CX 170 [.int .i32 c] (· = .ret (.bool (badR c))) := by
  refine pcall_mk 0 13 [.tmp 2] Tryz.func170 rfl (by decide) rfl rfl rfl ?_
  refine aw_sreg {} rfl rfl fun K KP hK hP => ?_
  simp only [go_sem, ↓reduceIte]
  apply hK; clear hK hP
  by_cases c1_0 : c = 10
  ·
    refine aw_sreg {} rfl rfl fun K KP hK hP => ?_
    simp only [go_sem, ↓reduceIte, c1_0]
    apply hK; clear hK hP
    refine aw_ret ?_
    simp only [go_sem, ↓reduceIte, c1_0, athen_ret] <;> (
      simp [badR])
  ·
    by_cases c1_1 : c < 32
    ·
      refine aw_sreg {} rfl rfl fun K KP hK hP => ?_
      simp only [go_sem, ↓reduceIte, c1_0, c1_1]
      apply hK; clear hK hP
      refine aw_ret ?_
      simp only [go_sem, ↓reduceIte, c1_0, c1_1, athen_ret] <;> (
        simp [badR, c1_0, c1_1])
    ·
      refine aw_sreg {} rfl rfl fun K KP hK hP => ?_
      simp only [go_sem, ↓reduceIte, c1_0, c1_1]
      apply hK; clear hK hP
      refine aw_ret ?_
      simp only [go_sem, ↓reduceIte, c1_0, c1_1, athen_ret] <;> (
        simp [badR, c1_0, c1_1])
def idxR (p : Int → Bool) (s : List UInt8) : Nat → Nat → Int
  | 0, _ => -1
  | f + 1, pos => if pos < s.length then (if p (Utf8.decode ⟨s.toArray⟩ pos).1 = true then pos else idxR p s f (pos + (Utf8.decode ⟨s.toArray⟩ pos).2)) else -1
theorem decode_wide (b : ByteArray) (i : Nat) : 1 ≤ (Utf8.decode b i).2 := by
  unfold Utf8.decode
  simp only
  repeat' split
  all_goals simp
theorem indexFunc_call (p : Int → Bool) (g : FuncId) (hg : ∀ c, PCall CX g [.int .i32 c] (· = .ret (.bool (p c)))) (s : List UInt8) : PCall CX 222 [.str s, .fn (.func g) [] [], .bool true] (· = .ret (.int .i64 (idxR p s (s.length + 1) 0))) := by
  refine pcall_mk 0 21 [.tmp 6] Tryz.func222 rfl (by decide) rfl rfl rfl ?_
  refine aw_sreg {} rfl rfl fun K KP hK hP => ?_
  simp only [go_sem, ↓reduceIte]
  apply hK; clear hK hP
  refine aw_seq ?_
  refine aw_sreg {} rfl rfl fun K KP hK hP => ?_
  simp only [go_sem, ↓reduceIte]
  apply hK; clear hK hP
  refine aw_block ?_
  refine aw_loop' (fun dd st => ∃ (pos f : Nat), (s.length < pos + f) ∧ (idxR p s f pos = idxR p s (s.length + 1) 0) ∧ f = dd ∧ [(0, .siter s pos)] = st.σ ∧ st.env 0 = .str s ∧ st.env 1 = .fn (.func g) [] [] ∧ st.env 2 = .bool true ∧ st.env 10 = .ref 0 0 0) (fun dd st hJ => ?_) ?_
  ·
    obtain ⟨env0, σ0, nx0⟩ := st
    obtain ⟨pos, f, hp0_0, hp0_1, hd0, hs0, e0_0, e0_1, e0_2, e0_10⟩ := hJ
    dsimp only at hs0  e0_0 e0_1 e0_2 e0_10
    subst hd0; subst hs0
    refine aw_forget' 1 rfl ?_
    by_cases c2 : pos < s.length
    ·
      refine aw_sreg {} rfl rfl fun K KP hK hP => ?_
      simp only [go_sem, ↓reduceIte, e0_0, e0_1, e0_2, e0_10, c2]
      apply hK; clear hK hP
      refine aw_seq ?_
      refine aw_if (True) (by simp only [go_sem, ↓reduceIte, e0_0, e0_1, e0_2, e0_10, c2]) (fun h2 => ?_) (fun h2 => ?_)
      ·
        refine aw_skip ?_
        refine athen_normal.2 ?_
        refine aw_block ?_
        refine aw_sreg {} rfl rfl fun K KP hK hP => ?_
        simp only [go_sem, ↓reduceIte, e0_0, e0_1, e0_2, e0_10, c2]
        apply hK; clear hK hP
        refine aw_sreg {} rfl rfl fun K KP hK hP => ?_
        simp only [go_sem, ↓reduceIte, e0_0, e0_1, e0_2, e0_10, c2]
        refine CallP.ret (hg _) (by simp only [go_sem]) ?_
        try simp only [go_sem, ↓reduceIte, e0_0, e0_1, e0_2, e0_10, c2]
        apply hK; clear hK hP
        refine aw_if (p (Utf8.decode ⟨s.toArray⟩ pos).1 = true) (by simp only [go_sem, ↓reduceIte, e0_0, e0_1, e0_2, e0_10, c2]) (fun h4 => ?_) (fun h4 => ?_)
        ·
          refine aw_sreg {} rfl rfl fun K KP hK hP => ?_
          simp only [go_sem, ↓reduceIte, e0_0, e0_1, e0_2, e0_10, c2]
          apply hK; clear hK hP
          refine aw_ret ?_
          refine ablock_ret.2 ?_
          refine afor_one ?_
          refine athen_ret.2 ?_
          refine ablock_ret.2 ?_
          refine athen_ret.2 ?_
          simp only [go_sem, ↓reduceIte, e0_0, e0_1, e0_2, e0_10, c2, athen_ret] <;> (
            rw [← hp0_1]
            cases f with
            | zero => omega
            | succ f => simp only [idxR, c2, if_true, h4])
        ·
          refine aw_skip ?_
          refine ablock_normal.2 ?_
          refine afor_one ?_
          refine athen_normal.2 ?_
          refine ⟨_, ?_, (pos + (Utf8.decode ⟨s.toArray⟩ pos).2), (f - 1), ?_, ?_, rfl, rfl, ?_, ?_, ?_, ?_⟩
          · have := decode_wide ⟨s.toArray⟩ pos
            omega
          · have := decode_wide ⟨s.toArray⟩ pos
            omega
          · rw [← hp0_1]
            cases f with
            | zero => omega
            | succ f => simp only [idxR, c2, if_true, h4, Nat.add_sub_cancel, if_false]; rfl
          · simp only [go_sem, ↓reduceIte, e0_0, e0_1, e0_2, e0_10, c2] <;> try rfl
          · simp only [go_sem, ↓reduceIte, e0_0, e0_1, e0_2, e0_10, c2] <;> try rfl
          · simp only [go_sem, ↓reduceIte, e0_0, e0_1, e0_2, e0_10, c2] <;> try rfl
          · simp only [go_sem, ↓reduceIte, e0_0, e0_1, e0_2, e0_10, c2] <;> try rfl
      ·
        exact absurd trivial h2
    ·
      refine aw_sreg {} rfl rfl fun K KP hK hP => ?_
      simp only [go_sem, ↓reduceIte, e0_0, e0_1, e0_2, e0_10, c2]
      apply hK; clear hK hP
      refine aw_seq ?_
      refine aw_if (False) (by simp only [go_sem, ↓reduceIte, e0_0, e0_1, e0_2, e0_10, c2]) (fun h2 => ?_) (fun h2 => ?_)
      ·
        exact h2.elim
      ·
        refine aw_exit ?_
        refine athen_exit.2 ?_
        refine afor_one ?_
        refine athen_exit.2 ?_
        refine ablock_here ?_
        refine athen_normal.2 ?_
        refine aw_sreg {} rfl rfl fun K KP hK hP => ?_
        simp only [go_sem, ↓reduceIte, e0_0, e0_1, e0_2, e0_10, c2]
        apply hK; clear hK hP
        refine aw_ret ?_
        simp only [go_sem, ↓reduceIte, e0_0, e0_1, e0_2, e0_10, c2, athen_ret] <;> (
          rw [← hp0_1]
          cases f with
          | zero => rfl
          | succ f => simp only [idxR, c2, if_false])
  ·
    refine ⟨_, 0, s.length + 1, ?_, ?_, rfl, ?_, ?_, ?_, ?_, ?_⟩
    · first | omega | trivial | assumption
    · first | omega | trivial | assumption
    · first | rfl | (simp only [go_sem, ↓reduceIte])
    · simp only [go_sem, ↓reduceIte] <;> try rfl
    · simp only [go_sem, ↓reduceIte] <;> try rfl
    · simp only [go_sem, ↓reduceIte] <;> try rfl
    · simp only [go_sem, ↓reduceIte] <;> try rfl
theorem indexFunc2_call (p : Int → Bool) (g : FuncId) (hg : ∀ c, PCall CX g [.int .i32 c] (· = .ret (.bool (p c)))) (s : List UInt8) : PCall CX 190 [.str s, .fn (.func g) [] []] (· = .ret (.int .i64 (idxR p s (s.length + 1) 0))) := by
  refine pcall_mk 0 8 [.tmp 4] Tryz.func190 rfl (by decide) rfl rfl rfl ?_
  refine aw_sreg {} rfl rfl fun K KP hK hP => ?_
  simp only [go_sem, ↓reduceIte]
  apply hK; clear hK hP
  refine aw_sreg {} rfl rfl fun K KP hK hP => ?_
  simp only [go_sem, ↓reduceIte]
  refine CallP.ret (indexFunc_call p g hg s) (by simp only [go_sem]) ?_
  try simp only [go_sem, ↓reduceIte]
  apply hK; clear hK hP
  refine aw_ret ?_
  simp only [go_sem, ↓reduceIte, athen_ret]
theorem containsFunc_call (p : Int → Bool) (g : FuncId) (hg : ∀ c, PCall CX g [.int .i32 c] (· = .ret (.bool (p c)))) (s : List UInt8) : PCall CX 171 [.str s, .fn (.func g) [] []] (· = .ret (.bool (decide (0 ≤ idxR p s (s.length + 1) 0)))) := by
  refine pcall_mk 0 9 [.tmp 4] Tryz.func171 rfl (by decide) rfl rfl rfl ?_
  refine aw_sreg {} rfl rfl fun K KP hK hP => ?_
  simp only [go_sem, ↓reduceIte]
  apply hK; clear hK hP
  refine aw_sreg {} rfl rfl fun K KP hK hP => ?_
  simp only [go_sem, ↓reduceIte]
  refine CallP.ret (indexFunc2_call p g hg s) (by simp only [go_sem]) ?_
  try simp only [go_sem, ↓reduceIte]
  apply hK; clear hK hP
  refine aw_ret ?_
  simp only [go_sem, ↓reduceIte, athen_ret]

def badT (t : List UInt8) : Bool := decide (0 ≤ idxR badR t (t.length + 1) 0)
noncomputable def S_containsBad : Sig := .n [.d .str, .c (.fn (.func 170) [] [])] (.d .bool) (fun x => some (badT x.1))
theorem S_containsBad_ok : SigOK CX 171 S_containsBad := fun x r h => by cases h; exact containsFunc_call badR _ badR_call x.1
end Go.Ab

set_option linter.unusedVariables false
set_option linter.unusedSimpArgs false
set_option maxRecDepth 100000
namespace Go.Ab
open Go Go.RowKit Go.Proofs

theorem wrapU {z : Nat} (h : z < 18446744073709551616) : IntKind.wrap .u64 (z : Int) = z := by
  simp [IntKind.wrap, IntKind.bits, IntKind.signed]; omega
theorem and32 (n : Nat) (h : n < 18446744073709551616) : Go.bits .and .u64 (n : Int) 4294967295 = ((n % 4294967296 : Nat) : Int) := by
  have := bits_and_u64_nat n 4294967295 h (by decide)
  rw [show ((4294967295 : Nat) : Int) = 4294967295 from rfl] at this
  rw [this]
  congr 1
  exact Nat.and_two_pow_sub_one_eq_mod n 32
theorem shr32 (n : Nat) : (n : Int) / 2 ^ 32 = ((n / 4294967296 : Nat) : Int) := by
  have : (2 : Int) ^ 32 = ((4294967296 : Nat) : Int) := by decide
  rw [this]; rfl
theorem cast64 : ((64 : Nat) : Int) = 64 := rfl
theorem mulU {x y : Nat} (h : x * y < 18446744073709551616) : IntKind.wrap .u64 ((x : Int) * (y : Int)) = ((x * y : Nat) : Int) := by
  rw [← Int.natCast_mul]; exact wrapU h
theorem addU {x y : Nat} (h : x + y < 18446744073709551616) : IntKind.wrap .u64 ((x : Int) + (y : Int)) = ((x + y : Nat) : Int) := by
  rw [← Int.natCast_add]; exact wrapU h
theorem mulLo (x y : Nat) : IntKind.wrap .u64 ((x : Int) * (y : Int)) = ((x * y % 18446744073709551616 : Nat) : Int) := by
  rw [← Int.natCast_mul]
  simp [IntKind.wrap, IntKind.bits, IntKind.signed]
theorem low_mul {x y : Nat} (hx : x < 4294967296) (hy : y < 4294967296) : x * y ≤ 18446744065119617025 :=
  Nat.mul_le_mul (show x ≤ 4294967295 by omega) (show y ≤ 4294967295 by omega)
theorem hi_eq (a b : Nat) : a / 4294967296 * (b / 4294967296) + (a / 4294967296 * (b % 4294967296) + a % 4294967296 * (b % 4294967296) / 4294967296) / 4294967296 +
    ((a / 4294967296 * (b % 4294967296) + a % 4294967296 * (b % 4294967296) / 4294967296) % 4294967296 + a % 4294967296 * (b / 4294967296)) / 4294967296 = a * b / 18446744073709551616 := by
  have e : a * b = a / 4294967296 * (b / 4294967296) * 18446744073709551616 + (a / 4294967296 * (b % 4294967296) + a % 4294967296 * (b / 4294967296)) * 4294967296 + a % 4294967296 * (b % 4294967296) := by
    conv => lhs; rw [← Nat.div_add_mod a 4294967296, ← Nat.div_add_mod b 4294967296]
    generalize a / 4294967296 = p
    generalize a % 4294967296 = q
    generalize b / 4294967296 = r
    generalize b % 4294967296 = s
    have h1 : 4294967296 * p * (4294967296 * r) = p * r * 18446744073709551616 := by rw [Nat.mul_mul_mul_comm]; omega
    have h2 : 4294967296 * p * s = p * s * 4294967296 := by rw [Nat.mul_assoc]; omega
    have h3 : q * (4294967296 * r) = q * r * 4294967296 := by rw [Nat.mul_left_comm]; omega
    rw [Nat.add_mul, Nat.mul_add, Nat.mul_add, h1, h2, h3]
    omega
  rw [e]
  generalize a / 4294967296 * (b / 4294967296) = p
  generalize a / 4294967296 * (b % 4294967296) = q
  generalize a % 4294967296 * (b / 4294967296) = r
  generalize a % 4294967296 * (b % 4294967296) = s
  omega
theorem mul64_call (a b : Nat) (ha : a < 18446744073709551616) (hb : b < 18446744073709551616) : PCall CX 177 [.int .u64 a, .int .u64 b] (· = .ret (.tup [.int .u64 ((a * b / 18446744073709551616 : Nat) : Int), .int .u64 ((a * b % 18446744073709551616 : Nat) : Int)])) := by
  have ha0 := and32 a ha
  have hb0 := and32 b hb
  have hsa := shr32 a
  have hsb := shr32 b
  have q0 : a % 4294967296 < 4294967296 := Nat.mod_lt _ (by decide)
  have q1 : b % 4294967296 < 4294967296 := Nat.mod_lt _ (by decide)
  have q2 : a / 4294967296 < 4294967296 := by omega
  have q3 : b / 4294967296 < 4294967296 := by omega
  have m00 := low_mul q0 q1
  have m10 := low_mul q2 q1
  have m01 := low_mul q0 q3
  have m11 := low_mul q2 q3
  have w00 : IntKind.wrap .u64 (((a % 4294967296 : Nat) : Int) * ((b % 4294967296 : Nat) : Int)) = _ := mulU (by omega)
  have w10 : IntKind.wrap .u64 (((a / 4294967296 : Nat) : Int) * ((b % 4294967296 : Nat) : Int)) = _ := mulU (by omega)
  have w01 : IntKind.wrap .u64 (((a % 4294967296 : Nat) : Int) * ((b / 4294967296 : Nat) : Int)) = _ := mulU (by omega)
  have w11 : IntKind.wrap .u64 (((a / 4294967296 : Nat) : Int) * ((b / 4294967296 : Nat) : Int)) = _ := mulU (by omega)
  have s0 := shr32 (a % 4294967296 * (b % 4294967296))
  have t0 : IntKind.wrap .u64 (((a / 4294967296 * (b % 4294967296) : Nat) : Int) + ((a % 4294967296 * (b % 4294967296) / 4294967296 : Nat) : Int)) = _ := addU (by omega)
  have t1 := and32 (a / 4294967296 * (b % 4294967296) + a % 4294967296 * (b % 4294967296) / 4294967296) (by omega)
  have t2 := shr32 (a / 4294967296 * (b % 4294967296) + a % 4294967296 * (b % 4294967296) / 4294967296)
  have u0 : IntKind.wrap .u64 ((((a / 4294967296 * (b % 4294967296) + a % 4294967296 * (b % 4294967296) / 4294967296) % 4294967296 : Nat) : Int) + ((a % 4294967296 * (b / 4294967296) : Nat) : Int)) = _ := addU (by omega)
  have u1 := shr32 ((a / 4294967296 * (b % 4294967296) + a % 4294967296 * (b % 4294967296) / 4294967296) % 4294967296 + a % 4294967296 * (b / 4294967296))
  have v0 : IntKind.wrap .u64 (((a / 4294967296 * (b / 4294967296) : Nat) : Int) + (((a / 4294967296 * (b % 4294967296) + a % 4294967296 * (b % 4294967296) / 4294967296) / 4294967296 : Nat) : Int)) = _ := addU (by omega)
  have v1 : IntKind.wrap .u64 (((a / 4294967296 * (b / 4294967296) + (a / 4294967296 * (b % 4294967296) + a % 4294967296 * (b % 4294967296) / 4294967296) / 4294967296 : Nat) : Int) + ((((a / 4294967296 * (b % 4294967296) + a % 4294967296 * (b % 4294967296) / 4294967296) % 4294967296 + a % 4294967296 * (b / 4294967296)) / 4294967296 : Nat) : Int)) = _ := addU (by omega)
  have lo := mulLo a b
  have hi := hi_eq a b
  refine pcall_mk 0 51 [.tmp 4, .tmp 5] Tryz.func177 rfl (by decide) rfl rfl rfl ?_
  refine aw_sreg {} rfl rfl fun K KP hK hP => ?_
  simp only [go_sem, ↓reduceIte, ha0, hb0, hsa, hsb, w00, w10, w01, w11, s0, t0, t1, t2, u0, u1, v0, v1, lo, cast64]
  apply hK; clear hK hP
  refine aw_sreg {} rfl rfl fun K KP hK hP => ?_
  simp only [go_sem, ↓reduceIte, ha0, hb0, hsa, hsb, w00, w10, w01, w11, s0, t0, t1, t2, u0, u1, v0, v1, lo, cast64]
  apply hK; clear hK hP
  refine aw_sreg {} rfl rfl fun K KP hK hP => ?_
  simp only [go_sem, ↓reduceIte, ha0, hb0, hsa, hsb, w00, w10, w01, w11, s0, t0, t1, t2, u0, u1, v0, v1, lo, cast64]
  apply hK; clear hK hP
  refine aw_sreg {} rfl rfl fun K KP hK hP => ?_
  simp only [go_sem, ↓reduceIte, ha0, hb0, hsa, hsb, w00, w10, w01, w11, s0, t0, t1, t2, u0, u1, v0, v1, lo, cast64]
  apply hK; clear hK hP
  refine aw_sreg {} rfl rfl fun K KP hK hP => ?_
  simp only [go_sem, ↓reduceIte, ha0, hb0, hsa, hsb, w00, w10, w01, w11, s0, t0, t1, t2, u0, u1, v0, v1, lo, cast64]
  apply hK; clear hK hP
  refine aw_sreg {} rfl rfl fun K KP hK hP => ?_
  simp only [go_sem, ↓reduceIte, ha0, hb0, hsa, hsb, w00, w10, w01, w11, s0, t0, t1, t2, u0, u1, v0, v1, lo, cast64]
  apply hK; clear hK hP
  refine aw_sreg {} rfl rfl fun K KP hK hP => ?_
  simp only [go_sem, ↓reduceIte, ha0, hb0, hsa, hsb, w00, w10, w01, w11, s0, t0, t1, t2, u0, u1, v0, v1, lo, cast64]
  apply hK; clear hK hP
  refine aw_sreg {} rfl rfl fun K KP hK hP => ?_
  simp only [go_sem, ↓reduceIte, ha0, hb0, hsa, hsb, w00, w10, w01, w11, s0, t0, t1, t2, u0, u1, v0, v1, lo, cast64]
  apply hK; clear hK hP
  refine aw_sreg {} rfl rfl fun K KP hK hP => ?_
  simp only [go_sem, ↓reduceIte, ha0, hb0, hsa, hsb, w00, w10, w01, w11, s0, t0, t1, t2, u0, u1, v0, v1, lo, cast64]
  apply hK; clear hK hP
  refine aw_sreg {} rfl rfl fun K KP hK hP => ?_
  simp only [go_sem, ↓reduceIte, ha0, hb0, hsa, hsb, w00, w10, w01, w11, s0, t0, t1, t2, u0, u1, v0, v1, lo, cast64]
  apply hK; clear hK hP
  refine aw_sreg {} rfl rfl fun K KP hK hP => ?_
  simp only [go_sem, ↓reduceIte, ha0, hb0, hsa, hsb, w00, w10, w01, w11, s0, t0, t1, t2, u0, u1, v0, v1, lo, cast64]
  apply hK; clear hK hP
  refine aw_sreg {} rfl rfl fun K KP hK hP => ?_
  simp only [go_sem, ↓reduceIte, ha0, hb0, hsa, hsb, w00, w10, w01, w11, s0, t0, t1, t2, u0, u1, v0, v1, lo, cast64]
  apply hK; clear hK hP
  refine aw_ret ?_
  simp only [go_sem, ↓reduceIte, ha0, hb0, hsa, hsb, w00, w10, w01, w11, s0, t0, t1, t2, u0, u1, v0, v1, lo, cast64, athen_ret, hi]

/-! ### Numbers within bounds -/
def maxI : Int := 1152921504606846976
def within (n : Int) : Bool := decide (-1152921504606846976 ≤ n) && decide (n ≤ 1152921504606846976)
theorem within_call (n : Int) : PCall CX 113 [.int .i64 n] (· = .ret (.bool (within n))) := by
  refine pcall_mk 0 9 [.tmp 2] Tryz.func113 rfl (by decide) rfl rfl rfl ?_
  refine aw_sreg {} rfl rfl fun K KP hK hP => ?_
  simp only [go_sem, ↓reduceIte]
  apply hK; clear hK hP
  by_cases c1 : -1152921504606846976 ≤ n
  ·
    refine aw_sreg {} rfl rfl fun K KP hK hP => ?_
    simp only [go_sem, ↓reduceIte, c1]
    apply hK; clear hK hP
    refine aw_ret ?_
    simp only [go_sem, ↓reduceIte, c1, athen_ret, within]
  ·
    refine aw_sreg {} rfl rfl fun K KP hK hP => ?_
    simp only [go_sem, ↓reduceIte, c1]
    apply hK; clear hK hP
    refine aw_ret ?_
    simp only [go_sem, ↓reduceIte, c1, athen_ret, within]
/-- What is thrown where a number is beyond its bound. -/
def beyondA : AV := .iface 118 (.agg [])
def outI : Option Int → AOut
  | some n => .ret (.int .i64 n)
  | none => .pan beyondA
def wholeS (n : Int) : Option Int := if n < -1152921504606846976 ∨ 1152921504606846976 < n then none else some n
theorem whole_call (n : Int) : PCall CX 149 [.int .i64 n] (· = outI (wholeS n)) := by
  refine pcall_mk 0 12 [.tmp 2] Tryz.func149 rfl (by decide) rfl rfl rfl ?_
  refine aw_sreg {} rfl rfl fun K KP hK hP => ?_
  simp only [go_sem, ↓reduceIte]
  apply hK; clear hK hP
  refine aw_seq ?_
  by_cases c1_0 : n < -1152921504606846976
  ·
    refine aw_sreg {} rfl rfl fun K KP hK hP => ?_
    simp only [go_sem, ↓reduceIte, c1_0]
    apply hK; clear hK hP
    refine aw_if (True) (by simp only [go_sem, ↓reduceIte, c1_0]) (fun h1 => ?_) (fun h1 => ?_)
    ·
      refine aw_lreg {} rfl rfl fun K KP hK hP => ?_
      simp only [go_sem, ↓reduceIte, c1_0]
      refine ⟨_, _, rfl, hP _ _ _ fun env => ?_⟩
      simp [wholeS, outI, beyondA, go_sem, *]
    ·
      exact absurd trivial h1
  ·
    by_cases c1_1 : 1152921504606846976 < n
    ·
      refine aw_sreg {} rfl rfl fun K KP hK hP => ?_
      simp only [go_sem, ↓reduceIte, c1_0, c1_1]
      apply hK; clear hK hP
      refine aw_if (True) (by simp only [go_sem, ↓reduceIte, c1_0, c1_1]) (fun h1 => ?_) (fun h1 => ?_)
      ·
        refine aw_lreg {} rfl rfl fun K KP hK hP => ?_
        simp only [go_sem, ↓reduceIte, c1_0, c1_1]
        refine ⟨_, _, rfl, hP _ _ _ fun env => ?_⟩
        simp [wholeS, outI, beyondA, go_sem, *]
      ·
        exact absurd trivial h1
    ·
      refine aw_sreg {} rfl rfl fun K KP hK hP => ?_
      simp only [go_sem, ↓reduceIte, c1_0, c1_1]
      apply hK; clear hK hP
      refine aw_if (False) (by simp only [go_sem, ↓reduceIte, c1_0, c1_1]) (fun h1 => ?_) (fun h1 => ?_)
      ·
        exact h1.elim
      ·
        refine aw_skip ?_
        refine athen_normal.2 ?_
        refine aw_sreg {} rfl rfl fun K KP hK hP => ?_
        simp only [go_sem, ↓reduceIte, c1_0, c1_1]
        apply hK; clear hK hP
        refine aw_ret ?_
        simp only [go_sem, ↓reduceIte, c1_0, c1_1, athen_ret] <;> (
          simp [wholeS, outI, c1_0, c1_1])
def timesS (a b : Int) : Option Int := if 1152921504606846976 < a.natAbs * b.natAbs then none else some (a * b)
theorem abs_conv {a : Int} (h : -9223372036854775808 ≤ a) (h' : a ≤ 9223372036854775807) : IntKind.wrap .u64 (if IntKind.wrap .i64 (0 - a) > a then IntKind.wrap .i64 (0 - a) else a) = ((a.natAbs : Nat) : Int) := by
  by_cases hm : a = -9223372036854775808
  · subst hm; decide
  · rw [wrap64 (by omega) (by omega)]
    have : (if 0 - a > a then 0 - a else a) = ((a.natAbs : Nat) : Int) := by split <;> omega
    rw [this]
    exact wrapU (by omega)
theorem times_call (a b : Int) (ha : -9223372036854775808 ≤ a) (ha' : a ≤ 9223372036854775807) (hb : -9223372036854775808 ≤ b) (hb' : b ≤ 9223372036854775807) : PCall CX 150 [.int .i64 a, .int .i64 b] (· = outI (timesS a b)) := by
  have ea := abs_conv ha ha'
  have eb := abs_conv hb hb'
  refine pcall_mk 0 32 [.tmp 4] Tryz.func150 rfl (by decide) rfl rfl rfl ?_
  refine aw_sreg {} rfl rfl fun K KP hK hP => ?_
  simp only [go_sem, ↓reduceIte, ea, eb]
  apply hK; clear hK hP
  refine aw_sreg {} rfl rfl fun K KP hK hP => ?_
  simp only [go_sem, ↓reduceIte, ea, eb]
  refine CallP.ret (mul64_call _ _ (by omega) (by omega)) (by simp only [go_sem]) ?_
  try simp only [go_sem, ↓reduceIte, ea, eb]
  apply hK; clear hK hP
  refine aw_seq ?_
  by_cases c2_0 : 0 < ((a.natAbs * b.natAbs / 18446744073709551616 : Nat) : Int)
  ·
    refine aw_sreg {} rfl rfl fun K KP hK hP => ?_
    simp only [go_sem, ↓reduceIte, ea, eb, c2_0]
    apply hK; clear hK hP
    refine aw_if (True) (by simp only [go_sem, ↓reduceIte, ea, eb, c2_0]) (fun h2 => ?_) (fun h2 => ?_)
    ·
      refine aw_lreg {} rfl rfl fun K KP hK hP => ?_
      simp only [go_sem, ↓reduceIte, ea, eb, c2_0]
      refine ⟨_, _, rfl, hP _ _ _ fun env => ?_⟩
      have hbig : 1152921504606846976 < a.natAbs * b.natAbs := by generalize a.natAbs * b.natAbs = p at *; omega
      simp [timesS, outI, beyondA, go_sem, hbig]
    ·
      exact absurd trivial h2
  ·
    by_cases c2_1 : 1152921504606846976 < ((a.natAbs * b.natAbs % 18446744073709551616 : Nat) : Int)
    ·
      refine aw_sreg {} rfl rfl fun K KP hK hP => ?_
      simp only [go_sem, ↓reduceIte, ea, eb, c2_0, c2_1]
      apply hK; clear hK hP
      refine aw_if (True) (by simp only [go_sem, ↓reduceIte, ea, eb, c2_0, c2_1]) (fun h2 => ?_) (fun h2 => ?_)
      ·
        refine aw_lreg {} rfl rfl fun K KP hK hP => ?_
        simp only [go_sem, ↓reduceIte, ea, eb, c2_0, c2_1]
        refine ⟨_, _, rfl, hP _ _ _ fun env => ?_⟩
        have hbig : 1152921504606846976 < a.natAbs * b.natAbs := by generalize a.natAbs * b.natAbs = p at *; omega
        simp [timesS, outI, beyondA, go_sem, hbig]
      ·
        exact absurd trivial h2
    ·
      refine aw_sreg {} rfl rfl fun K KP hK hP => ?_
      simp only [go_sem, ↓reduceIte, ea, eb, c2_0, c2_1]
      apply hK; clear hK hP
      refine aw_if (False) (by simp only [go_sem, ↓reduceIte, ea, eb, c2_0, c2_1]) (fun h2 => ?_) (fun h2 => ?_)
      ·
        exact h2.elim
      ·
        have hbig : ¬ 1152921504606846976 < a.natAbs * b.natAbs := by generalize a.natAbs * b.natAbs = p at *; omega
        have hab : (a * b).natAbs ≤ 1152921504606846976 := by rw [Int.natAbs_mul]; omega
        have hw : IntKind.wrap .i64 (a * b) = a * b := wrap64 (by omega) (by omega)
        refine aw_skip ?_
        refine athen_normal.2 ?_
        refine aw_sreg {} rfl rfl fun K KP hK hP => ?_
        simp only [go_sem, ↓reduceIte, ea, eb, c2_0, c2_1, hw]
        apply hK; clear hK hP
        refine aw_ret ?_
        simp only [go_sem, ↓reduceIte, ea, eb, c2_0, c2_1, hw, athen_ret] <;> (
          simp [timesS, outI, hbig])
end Go.Ab
