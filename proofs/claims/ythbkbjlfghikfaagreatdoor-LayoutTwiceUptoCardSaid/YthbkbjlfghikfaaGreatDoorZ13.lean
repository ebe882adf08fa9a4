/-
  strings.Replacer's Replace, walked over the heap, around a contract of what it builds.
-/
import Derived.Test.YthbkbjlfghikfaaGreatDoorZ12
import Derived.Tactics2
import Derived.Defers
import Derived.Laws.Pointers
import Derived.Laws.LoneSync
import Derived.RegionTactic
import Derived.RegionCalls
import Derived.ChangeAlike
import Derived.Lib.SlBuf
import Derived.Lib.SlBytesRow
import Derived.Shelf.Strings.Count
import Derived.Shelf.RegionOpenPlain
import Derived.Lib.Walk
import Derived.Deep.LoopGhost
import Derived.Deep.Draws
import Derived.Laws.Externs
import Derived.BigCall
import Derived.BigGuard
import Derived.Deep.Cut
import Derived.Deep.CutRange
import Derived.Laws.Cover3
import Derived.Deep.OwnRows
set_option linter.unusedVariables false
set_option linter.unusedSimpArgs false
namespace Go.Ab
open Go Go.RowKit Go.Proofs
theorem Inv.forget {C : Cx} {B : Base} {kn : Kn} {m : Mp} {σ : Sto} {nx nx' : Nat} {w w' : World} {g : Nat} (h : Inv C B kn m σ nx w) (hs : Same w w' g) (hn : nx ≤ nx') (hg : (B.w.heap.size ≤ g ∨ B.own g) ∧ ∀ o, kn g o = none) : Inv C B kn m [] nx' w' := by
 obtain ⟨h1, h2, h3, h4, h5⟩ := hs
 refine ⟨fun b o v e => ?_, Nat.le_trans h.size h1, h2.trans h.os, h3.trans h.tape, h4.trans h.output, fun b hb hob => ?_, fun p nm ob e => by simp at e, fun p nm ob loc e => by simp at e, fun p nm ob loc p' nm' ob' loc' e => by simp at e, fun n q => h.dom n (Nat.le_trans hn q), fun p nm ob e => by simp at e, fun p p' nm ob ob' e => by simp at e, fun p p' nm nm' ob ob' e => by simp at e, h.glob, h.tab⟩
 ·have hlt := h.kn_lt e
  have hne : b ≠ g := fun q => by rw [q, hg.2 o] at e; cases e
  have := h.knok b o v e
  unfold World.cell? at this ⊢
  rw [h5 b hlt hne]; exact this
 ·have hlt := Nat.lt_of_lt_of_le hb h.size
  have hne : b ≠ g := fun q => by
   subst q
   rcases hg.1 with q | q
   ·omega
   ·exact hob q
  exact ⟨(h5 b hlt hne).trans (h.old b hb hob).1, (h.old b hb hob).2⟩
theorem addr_add (g o j : Nat) : (⟨g, o, none⟩ : Addr).add j = ⟨g, o + j, none⟩ := by
 unfold Addr.add
 by_cases h : j = 0
 ·subst h; simp
 ·simp [h]
def bytesOf (l : List Int) : Option (List UInt8) := if (l.all fun n => decide (0 ≤ n ∧ n < 256)) = true then some (l.map fun n => UInt8.ofNat n.toNat) else none
def S_string : Sig := .o ⟨bldO false, [.ref 0 0], [], .d .str, fun x => (bytesOf x.2.2.1).map fun s => (s, ())⟩
theorem rowsU8_get (l : List Int) {j : Nat} {n : Int} (h : l[j]? = some n) : (List.map (E.row (.int .u8)) l)[j]? = some [.int .u8 n] :=
 show (List.map (fun n : Int => [AV.int .u8 n]) l)[j]? = _ from by rw [List.getElem?_map, h]; rfl
theorem rowsU8_len (l : List Int) : (List.map (E.row (.int .u8)) l).length = l.length := List.length_map ..
theorem string_over (b0 : Bool) (l : List Int) (r : List UInt8) (hr : bytesOf l = some r) (B : Base) (kn : Kn) (m : Mp) (w : World) (vs : List Value) (hI : Inv CX B kn m (osto 0 (bldO false) ((b0, (), ()), l, ())) 2 w)
  (hlay : ∀ i, i < 2 → ∃ loc, m i = some loc) (hargs : RelL kn m [.ref 0 0 0] vs) : Does CX.P 26 vs.toArray w fun e w' => ∃ kn' m', KnLe kn kn' ∧ Inv CX B kn' m' [] 2 w' ∧ (∀ i, i < 2 → m' i = m i) ∧ RelOut kn' m' (.ret (.str r)) e := by
 obtain ⟨loc, hm⟩ := hlay 0 (by decide)
 obtain ⟨loc1, hm1⟩ := hlay 1 (by decide)
 have hp : (osto 0 (bldO false) ((b0, (), ()), l, ()))[0]? = some (0, .cells 48 [.mref 0 0 0 b0, .gs 1 1 (.int .u8) l.length]) := rfl
 have hp1 : (osto 0 (bldO false) ((b0, (), ()), l, ()))[1]? = some (1, .tg (.int .u8) 5 l) := rfl
 have hob := hI.obj _ _ _ hp
 have hob1 := hI.obj _ _ _ hp1
 simp only [ObjRel, hm] at hob
 obtain ⟨hnl, h0, arr, hw, hrl, hone⟩ := hob
 obtain ⟨v0, vs0, ha0, hr0, hrl⟩ := hrl.uncons
 obtain ⟨v1, vs1, rfl, hr1, hrl⟩ := hrl.uncons
 have : vs1 = [] := List.eq_nil_of_length_eq_zero hrl.1.symm
 subst this
 have harr : arr = #[v0, v1] := by rw [← Array.toArray_toList (xs := arr), ha0]
 subst harr
 obtain ⟨a, as1, rfl, hra, hargs⟩ := RelL.uncons hargs
 have : as1 = [] := List.eq_nil_of_length_eq_zero hargs.1.symm
 subst this
 have hra : Rel kn m (.ref 0 0 0) a := hra
 obtain ⟨q1, q2, q3⟩ := hI.own 0 0 _ loc hp trivial hm hnl
 unfold bytesOf at hr
 split at hr
 ·rename_i hall
  cases hr
  cases hra with
  | ref _ _ _ loc' hm' =>
   rw [hm] at hm'; cases hm'
   rw [h0]
   refine .inl ⟨by kernel_rfl, ?_⟩
   have fin : ∀ (g : Nat) (w' : World), Same w w' g → ((B.w.heap.size ≤ g ∨ B.own g) ∧ ∀ o, kn g o = none) →
     ∃ kn' m', KnLe kn kn' ∧ Inv CX B kn' m' [] 2 w' ∧ (∀ i, i < 2 → m' i = m i) ∧ RelOut kn' m' (.ret (.str (l.map fun n => UInt8.ofNat n.toNat))) (.returned (.string ⟨(l.map fun n => UInt8.ofNat n.toNat).toArray⟩)) := fun g w' hs hg =>
    ⟨kn, m, KnLe.refl _, hI.forget hs (Nat.le_refl _) hg, fun _ _ => rfl, .str _⟩
   have hgv : GvRel kn m w 1 1 5 (l.map (E.row (.int .u8))) := hob1
   obtain ⟨locx, hx, hlen, hgv⟩ := hgv
   rw [hm1] at hx; cases hx
   have hr1 : Rel kn m (.gs 1 1 (.int .u8) l.length) v1 := hr1
   cases hr1 with
   | gs _ _ _ _ _ locy hy hly hsl =>
    rw [hm1] at hy; cases hy
    have hsl : Rel kn m (.sref 1 1 1 0 l.length) v1 := hsl
    generalize hn : l.length = n at hsl
    cases hsl with
    | srefNil _ _ _ locz hz hznil =>
     have hl : l = [] := List.eq_nil_of_length_eq_zero hn
     subst hl
     exact (string_nil loc.blk loc.blk w v0 hw).mono fun e w' ⟨he, hs⟩ => (by subst he; exact fin loc.blk w' hs ⟨q2, q3 rfl⟩)
    | sref _ _ _ _ _ locz hz hznil hze hzl hzm =>
     rw [hm1] at hz; cases hz
     rcases hgv with ⟨hnil, _⟩ | ⟨_, hesz, arr1, hw1, hsz, hcap, hmax, hone1, hrow, hrel⟩
     ·rw [hnil] at hznil; cases hznil
     obtain ⟨p1, p2, p3⟩ := hI.own 1 1 _ loc1 hp1 trivial hm1 hznil
     have hze : loc1.esz = 1 := hze
     simp only [Nat.zero_mul, Nat.add_zero, Nat.sub_zero] at hw ⊢
     by_cases hl0 : l = []
     ·subst hl0
      have hn0 : n = 0 := hn.symm
      subst hn0
      by_cases hc0 : loc1.cap = 0
      ·rw [hc0] at hw
       exact (string_noroom loc.blk loc1.blk loc1.blk loc1.off arr1 w v0 hw hw1).mono fun e w' ⟨he, hs⟩ => (by subst he; exact fin loc1.blk w' hs ⟨p2, p3 rfl⟩)
      ·exact (string_room loc.blk loc1.blk loc1.blk loc1.off loc1.cap w v0 hc0 hw).mono fun e w' ⟨he, hs⟩ => (by subst he; exact fin loc1.blk w' hs ⟨p2, p3 rfl⟩)
     ·have hll : (l.map fun n => UInt8.ofNat n.toNat).length = n := by rw [List.length_map]; exact hn
      subst hn
      rw [← hll] at hw
      have hcap' : l.length ≤ loc1.cap := (rowsU8_len l) ▸ hcap
      refine (string_row loc.blk loc1.blk loc1.off loc1.cap arr1 w (l.map fun n => UInt8.ofNat n.toNat) v0 (by simpa using hl0) hw hw1 (by simpa using hcap') (by omega) hmax (fun j x hx => ?_)).mono fun e w' ⟨he, hs⟩ => (by subst he; exact fin loc1.blk w' hs ⟨p2, p3 rfl⟩)
      rw [List.getElem?_map] at hx
      cases hlj : l[j]? with
      | none => rw [hlj] at hx; cases hx
      | some n =>
       rw [hlj] at hx
       simp only [Option.map_some, Option.some.injEq] at hx
       have hj := (List.getElem?_eq_some_iff.1 hlj).1
       have hnb : 0 ≤ n ∧ n < 256 := by
        have := List.all_eq_true.1 hall n (List.mem_of_getElem? hlj)
        simpa using this
       have hin : loc1.off + j < arr1.size := by omega
       have hrv := hrel j [.int .u8 n] 0 (.int .u8 n) arr1[loc1.off + j] (rowsU8_get l hlj) rfl (by
        rw [Nat.mul_one, Nat.add_zero]
        exact Array.getElem?_eq_getElem hin)
       rw [addr_add]
       rw [Lib.cell_of_heap hw1, Array.getElem?_eq_getElem hin]
       generalize arr1[loc1.off + j] = u at hrv
       cases hrv
       rw [← hx]
       have : ((UInt8.ofNat n.toNat).toNat : Int) = n := by
        have e : n.toNat < 2 ^ 8 := by omega
        rw [UInt8.toNat_ofNat_of_lt' e]; omega
       rw [this]
 ·cases hr
theorem S_string_ok : SigOK CX 26 S_string := by
 refine ⟨by kernel_rfl, fun x r hr B kn m w vs hI hlay hargs => ?_⟩
 have hr : (bytesOf x.2.2.1).map (fun s => (s, ())) = some r := hr
 obtain ⟨s, hs, rfl⟩ := Option.map_eq_some_iff.1 hr
 exact (string_over x.2.1.1 x.2.2.1 s hs B kn m w vs hI hlay hargs).mono fun e w' ⟨kn', m', h1, h2, h3, h4⟩ => ⟨kn', m', h1, h2, h3, fun j hj => absurd hj (by show ¬ j < 0; omega), h4⟩
end Go.Ab

namespace Go.Ab
open Go Go.RowKit Go.Proofs
set_option maxHeartbeats 1000000 in
set_option maxRecDepth 100000 in
theorem copyCheck_freshP (b : Nat) (w : World) (h0 : w.cell? ⟨b, 0, none⟩ = some (.pointer none)) (hsh : w.shape? b = some (50, 3)) (hfz : w.frozen? ⟨b, 0, none⟩ = false) :
  Calls Tryz.prog 51 #[.pointer (some ⟨b, 0, none⟩)] w fun e w' => e = .returned (.tuple #[]) ∧ w' = w.setCell ⟨b, 0, none⟩ (.pointer (some ⟨b, 0, none⟩)) := by
 obtain ⟨j, hj, hjs⟩ := iB
 go_enter Tryz.func51, Tryz.ntmps51
 go_wp2
 rw [Lib.run_to_unsafe w ⟨b, 0, none⟩ uPB uUP hj (by rw [hjs]; decide) hsh (Nat.zero_lt_succ 2)]
 simp only [Result.andThen]
 rw [Oper.upon_value]
 go_wp2
 rw [run_callFunc_extern Tryz.func78 (by kernel_rfl) (by kernel_rfl) (by kernel_rfl) (e := Extern.AbiNoEscape.same) (by kernel_rfl)]
 rw [Lib.run_noEscape]
 simp only [Result.andThen]
 rw [Oper.upon_value]
 go_wp2
 rw [Lib.run_from_unsafe w ⟨b, 0, none⟩ uUP uPB hj hsh (by kernel_rfl)]
 simp only [Result.andThen]
 rw [Oper.upon_value]
 go_wp2
 go_end0
 exact ⟨rfl, rfl⟩
abbrev bldCellsP : List Sh := [.mref 0 0, .gs 1 (.int .u8), .d (.int .i64)]
abbrev bldOP (k : Bool) : Slots := [(k, .cells 50 bldCellsP), (k, .tg (.int .u8) 5)]
def S_copyCheckP : Sig := .o ⟨bldOP false, [.ref 0 0], bldOP true, .tup [], fun x => some ((), ((true, (), x.2.1.2.2.1, ()), x.2.2.1, ()))⟩
theorem S_copyCheckP_ok : SigOK CX 51 S_copyCheckP := by
 refine ⟨by kernel_rfl, fun x r hr B kn m w vs hI hlay hargs => ?_⟩
 cases hr
 obtain ⟨loc, hm⟩ := hlay 0 (by decide)
 obtain ⟨xa, ⟨⟨b0, u1, n0, u2⟩, l, u3⟩⟩ := x
 have hp : (osto 0 (bldOP false) ((b0, u1, n0, u2), l, u3))[0]? = some (0, .cells 50 [.mref 0 0 0 b0, .gs 1 1 (.int .u8) l.length, .int .i64 n0]) := rfl
 have hob := hI.obj _ _ _ hp
 simp only [ObjRel, hm] at hob
 obtain ⟨hnl, h0, arr, hw, hrl, hone⟩ := hob
 obtain ⟨v0, vs0, ha0, hr0, hrl⟩ := hrl.uncons
 obtain ⟨v1, vs1, rfl, hr1, hrl⟩ := hrl.uncons
 obtain ⟨v2, vs2, rfl, hr2, hrl⟩ := hrl.uncons
 have : vs2 = [] := List.eq_nil_of_length_eq_zero hrl.1.symm
 subst this
 have harr : arr = #[v0, v1, v2] := by rw [← Array.toArray_toList (xs := arr), ha0]
 subst harr
 obtain ⟨a, as1, rfl, hra, hargs⟩ := RelL.uncons hargs
 have : as1 = [] := List.eq_nil_of_length_eq_zero hargs.1.symm
 subst this
 have hra : Rel kn m (.ref 0 0 0) a := hra
 cases hra with
 | ref _ _ _ loc' hm' =>
  rw [hm] at hm'; cases hm'
  rw [h0]
  refine .inl ⟨by kernel_rfl, ?_⟩
  have fin : ∀ w', w'.heap.size = w.heap.size → w'.os = w.os → w'.tape = w.tape → w'.output = w.output → (∀ b, b ≠ loc.blk → w'.heap[b]? = w.heap[b]?) → w'.heap[loc.blk]? = some (.cells #[.pointer (some ⟨loc.blk, 0, none⟩), v1, v2] 50 (0, 0)) →
    ∃ kn' m', KnLe kn kn' ∧ Inv CX B kn' m' (osto 2 (bldOP true) ((true, (), n0, ()), l, ())) (2 + 2) w' ∧ (∀ i, i < 2 → m' i = m i) ∧ (∀ j, j < 2 → ∃ loc, m' (nameOf 2 j (bldOP true)) = some loc) ∧ RelOut kn' m' (.ret (.tup [])) (.returned (.tuple #[])) := fun w' q1 q2 q3 q4 q5 q6 => by
   obtain ⟨k1, k2⟩ := hI.write (ob' := .cells 50 [.mref 0 0 0 true, .gs 1 1 (.int .u8) l.length, .int .i64 n0]) hp trivial hm hnl q1 q2 q3 q4 q5 (by
    simp only [ObjRel, hm]
    refine ⟨hnl, h0, _, q6, .cons ?_ (.cons hr1 (.cons hr2 (.nil _ _))), fun v hv => ?_⟩
    ·have := Rel.mrefSome (kn := kn) 0 0 0 loc hm
     rw [h0] at this
     exact this
    ·simp at hv
     rcases hv with rfl | rfl | rfl
     ·rfl
     ·exact hone _ (by rw [ha0]; simp)
     ·exact hone _ (by rw [ha0]; simp))
   refine ⟨kn, m, KnLe.refl _, k1.nxup (by show 0 + 2 ≤ 4; omega), fun _ _ => rfl, fun j hj => ?_, .tup [] #[] rfl (fun i x v e => by simp at e)⟩
   have hj2 : nameOf 2 j (bldOP true) = j := by
    match j, hj with
    | 0, _ => rfl
    | 1, _ => rfl
   rw [hj2]
   exact hlay j hj
  have hr0 : Rel kn m (.mref 0 0 0 b0) v0 := hr0
  cases hr0 with
  | mrefSome _ _ _ loc' hm' =>
   rw [hm] at hm'; cases hm'
   rw [h0] at hw
   refine (copyCheck_used loc.blk w (by rw [Lib.cell_of_heap hw]; rfl)).mono fun e w' ⟨he, hw'⟩ => ?_
   subst he; rw [hw']
   exact fin w rfl rfl rfl rfl (fun _ _ => rfl) hw
  | mrefNil =>
   refine (copyCheck_freshP loc.blk w (by rw [Lib.cell_of_heap hw]; rfl) (by simp [World.shape?, hw]) (Lib.frozen_of_heap hw 0)).mono fun e w' ⟨he, hw'⟩ => ?_
   subst he; rw [hw']
   exact fin _ (by simp [World.setCell]) rfl rfl rfl (fun b hb => Below.heap_setCell _ _ _ _ hb) (by simp [World.setCell, Array.getElem?_modify, hw])
set_option maxHeartbeats 2000000 in
set_option maxRecDepth 100000 in
theorem string_rowP (b g o cap : Nat) (cur : Array Value) (w : World) (l : List UInt8) (p z : Value) (h0 : l ≠ []) (hbk : w.heap[b]? = some (.cells #[p, .slice (some ⟨g, o, none⟩) l.length cap, z] 50 (0, 0)))
  (hg : w.heap[g]? = some (.cells cur 5 (0, 0))) (hnc : l.length ≤ cap) (hcs : o + cap ≤ cur.size) (hcm : cap ≤ maxLen) (hcell : ∀ j x, l[j]? = some x → w.cell? ((⟨g, o, none⟩ : Addr).add j) = some (.int .u8 x.toNat)) :
  Calls Tryz.prog 26 #[.pointer (some ⟨b, 0, none⟩)] w fun e w' => e = .returned (.string ⟨l.toArray⟩) ∧ Same w w' g := by
 have hl0 : l.length ≠ 0 := by simpa using h0
 have mixed := mixedO
 have c1 : w.drew.cell? ⟨b, 1, none⟩ = some (.slice (some ⟨g, o, none⟩) l.length cap) := by
  have : w.drew.heap[b]? = some (.cells #[p, .slice (some ⟨g, o, none⟩) l.length cap, z] 50 (0, 0)) := hbk
  rw [Lib.cell_of_heap this]; rfl
 have c0 : w.cell? ⟨b, 1, none⟩ = some (.slice (some ⟨g, o, none⟩) l.length cap) := c1
 have hSD : (Builtin.unsafeSliceData_ #[46] 81 #[.slice (some ⟨g, o, none⟩) l.length cap]).run Tryz.prog w.drew = .ok (.pointer (some ⟨g, o, none⟩)) w.drew :=
  Lib.run_unsafeSliceData_row _ _ _ _ _ _ (by omega)
 have hUS : (Builtin.unsafeString_ #[81, 3] 9 #[.pointer (some ⟨g, o, none⟩), .int .i64 l.length]).run Tryz.prog w.drew = .ok (.string ⟨l.toArray⟩) (w.drew.freeze ⟨g, o, none⟩ l.length) := by
  refine run_unsafeString_off w.drew 81 3 9 5 uPU cU8 g o cur.size (by have hg' : w.drew.heap[g]? = some (.cells cur 5 (0, 0)) := hg; simp [World.shape?, hg']) l h0 (by omega) (by unfold maxLen at hcm; omega) hcell
 have hfin := same_freeze w g o l.length
 go_enter Tryz.func26, Tryz.ntmps26
 go_wp2
 go_region_o
 all_goals (go_wp2; go_ret; exact ⟨rfl, hfin⟩)
set_option maxHeartbeats 2000000 in
set_option maxRecDepth 100000 in
theorem string_nilP (b g : Nat) (w : World) (p z : Value) (hbk : w.heap[b]? = some (.cells #[p, .slice none 0 0, z] 50 (0, 0))) :
  Calls Tryz.prog 26 #[.pointer (some ⟨b, 0, none⟩)] w fun e w' => e = .returned (.string ⟨#[]⟩) ∧ Same w w' g := by
 have mixed := mixedO
 have c1 : w.drew.cell? ⟨b, 1, none⟩ = some (.slice none 0 0) := by
  have : w.drew.heap[b]? = some (.cells #[p, .slice none 0 0, z] 50 (0, 0)) := hbk
  rw [Lib.cell_of_heap this]; rfl
 have c0 : w.cell? ⟨b, 1, none⟩ = some (.slice none 0 0) := c1
 have hSD : (Builtin.unsafeSliceData_ #[46] 81 #[.slice none 0 0]).run Tryz.prog w.drew = .ok (.pointer none) w.drew := rfl
 have hUS : (Builtin.unsafeString_ #[81, 3] 9 #[.pointer none, .int .i64 0]).run Tryz.prog w.drew = .ok (.string ⟨#[]⟩) w.drew := Lib.run_unsafeString_none w.drew _ _ _ none
 have hfin := same_drew w g
 go_enter Tryz.func26, Tryz.ntmps26
 go_wp2
 go_region_o
 all_goals (go_wp2; go_ret; exact ⟨rfl, hfin⟩)
set_option maxHeartbeats 2000000 in
set_option maxRecDepth 100000 in
theorem string_roomP (b g g' o cap : Nat) (w : World) (p z : Value) (hc : cap ≠ 0) (hbk : w.heap[b]? = some (.cells #[p, .slice (some ⟨g', o, none⟩) 0 cap, z] 50 (0, 0))) :
  Calls Tryz.prog 26 #[.pointer (some ⟨b, 0, none⟩)] w fun e w' => e = .returned (.string ⟨#[]⟩) ∧ Same w w' g := by
 have mixed := mixedO
 have c1 : w.drew.cell? ⟨b, 1, none⟩ = some (.slice (some ⟨g', o, none⟩) 0 cap) := by
  have : w.drew.heap[b]? = some (.cells #[p, .slice (some ⟨g', o, none⟩) 0 cap, z] 50 (0, 0)) := hbk
  rw [Lib.cell_of_heap this]; rfl
 have c0 : w.cell? ⟨b, 1, none⟩ = some (.slice (some ⟨g', o, none⟩) 0 cap) := c1
 have hSD : (Builtin.unsafeSliceData_ #[46] 81 #[.slice (some ⟨g', o, none⟩) 0 cap]).run Tryz.prog w.drew = .ok (.pointer (some ⟨g', o, none⟩)) w.drew :=
  Lib.run_unsafeSliceData_row _ _ _ _ _ _ hc
 have hUS : (Builtin.unsafeString_ #[81, 3] 9 #[.pointer (some ⟨g', o, none⟩), .int .i64 0]).run Tryz.prog w.drew = .ok (.string ⟨#[]⟩) w.drew := Lib.run_unsafeString_none w.drew _ _ _ _
 have hfin := same_drew w g
 go_enter Tryz.func26, Tryz.ntmps26
 go_wp2
 go_region_o
 all_goals (go_wp2; go_ret; exact ⟨rfl, hfin⟩)
set_option maxHeartbeats 2000000 in
set_option maxRecDepth 100000 in
theorem string_noroomP (b g g' o : Nat) (cur : Array Value) (w : World) (p z : Value) (hbk : w.heap[b]? = some (.cells #[p, .slice (some ⟨g', o, none⟩) 0 0, z] 50 (0, 0))) (hg : w.heap[g']? = some (.cells cur 5 (0, 0))) :
  Calls Tryz.prog 26 #[.pointer (some ⟨b, 0, none⟩)] w fun e w' => e = .returned (.string ⟨#[]⟩) ∧ Same w w' g := by
 have mixed := mixedO
 have hlt : b < w.heap.size := by
  rcases Nat.lt_or_ge b w.heap.size with h' | h'
  ·exact h'
  ·simp [Array.getElem?_eq_none h'] at hbk
 have c1 : w.drew.cell? ⟨b, 1, none⟩ = some (.slice (some ⟨g', o, none⟩) 0 0) := by
  have : w.drew.heap[b]? = some (.cells #[p, .slice (some ⟨g', o, none⟩) 0 0, z] 50 (0, 0)) := hbk
  rw [Lib.cell_of_heap this]; rfl
 have hSD : (Builtin.unsafeSliceData_ #[46] 81 #[.slice (some ⟨g', o, none⟩) 0 0]).run Tryz.prog w.drew = .ok (.pointer (some ⟨w.drew.heap.size, 0, none⟩)) (w.drew.alloc (.view ⟨g', o, none⟩ 5)) :=
  Lib.run_unsafeSliceData_zero w.drew _ _ 5 uPU ⟨g', o, none⟩ 0 (5, cur.size) (by have hg' : w.drew.heap[g']? = some (.cells cur 5 (0, 0)) := hg; simp [World.shape?, hg'])
 have c2 : (w.drew.alloc (.view ⟨g', o, none⟩ 5)).cell? ⟨b, 1, none⟩ = some (.slice (some ⟨g', o, none⟩) 0 0) := by
  have : (w.drew.alloc (.view ⟨g', o, none⟩ 5)).heap[b]? = _ := (Lib.alloc_old w.drew _ b hlt).trans hbk
  rw [Lib.cell_of_heap this]; rfl
 have c3 : (w.alloc (.view ⟨g', o, none⟩ 5)).drew.cell? ⟨b, 1, none⟩ = some (.slice (some ⟨g', o, none⟩) 0 0) := c2
 have c0 : w.cell? ⟨b, 1, none⟩ = some (.slice (some ⟨g', o, none⟩) 0 0) := c1
 have hUS : ∀ (W : World) (q : Option Addr), (Builtin.unsafeString_ #[81, 3] 9 #[.pointer q, .int .i64 0]).run Tryz.prog W = .ok (.string ⟨#[]⟩) W := fun W q => Lib.run_unsafeString_none W _ _ _ q
 have hfin := same_alloc w g (.view ⟨g', o, none⟩ 5)
 go_enter Tryz.func26, Tryz.ntmps26
 go_wp2
 go_region_o
 all_goals (go_wp2; go_ret; exact ⟨rfl, hfin⟩)
def S_stringP : Sig := .o ⟨bldOP false, [.ref 0 0], [], .d .str, fun x => (bytesOf x.2.2.1).map fun s => (s, ())⟩
theorem string_overP (b0 : Bool) (n0 : Int) (l : List Int) (r : List UInt8) (hr : bytesOf l = some r) (B : Base) (kn : Kn) (m : Mp) (w : World) (vs : List Value) (hI : Inv CX B kn m (osto 0 (bldOP false) ((b0, (), n0, ()), l, ())) 2 w)
  (hlay : ∀ i, i < 2 → ∃ loc, m i = some loc) (hargs : RelL kn m [.ref 0 0 0] vs) : Does CX.P 26 vs.toArray w fun e w' => ∃ kn' m', KnLe kn kn' ∧ Inv CX B kn' m' [] 2 w' ∧ (∀ i, i < 2 → m' i = m i) ∧ RelOut kn' m' (.ret (.str r)) e := by
 obtain ⟨loc, hm⟩ := hlay 0 (by decide)
 obtain ⟨loc1, hm1⟩ := hlay 1 (by decide)
 have hp : (osto 0 (bldOP false) ((b0, (), n0, ()), l, ()))[0]? = some (0, .cells 50 [.mref 0 0 0 b0, .gs 1 1 (.int .u8) l.length, .int .i64 n0]) := rfl
 have hp1 : (osto 0 (bldOP false) ((b0, (), n0, ()), l, ()))[1]? = some (1, .tg (.int .u8) 5 l) := rfl
 have hob := hI.obj _ _ _ hp
 have hob1 := hI.obj _ _ _ hp1
 simp only [ObjRel, hm] at hob
 obtain ⟨hnl, h0, arr, hw, hrl, hone⟩ := hob
 obtain ⟨v0, vs0, ha0, hr0, hrl⟩ := hrl.uncons
 obtain ⟨v1, vs1, rfl, hr1, hrl⟩ := hrl.uncons
 obtain ⟨v2, vs2, rfl, hr2, hrl⟩ := hrl.uncons
 have : vs2 = [] := List.eq_nil_of_length_eq_zero hrl.1.symm
 subst this
 have harr : arr = #[v0, v1, v2] := by rw [← Array.toArray_toList (xs := arr), ha0]
 subst harr
 obtain ⟨a, as1, rfl, hra, hargs⟩ := RelL.uncons hargs
 have : as1 = [] := List.eq_nil_of_length_eq_zero hargs.1.symm
 subst this
 have hra : Rel kn m (.ref 0 0 0) a := hra
 obtain ⟨q1, q2, q3⟩ := hI.own 0 0 _ loc hp trivial hm hnl
 unfold bytesOf at hr
 split at hr
 ·rename_i hall
  cases hr
  cases hra with
  | ref _ _ _ loc' hm' =>
   rw [hm] at hm'; cases hm'
   rw [h0]
   refine .inl ⟨by kernel_rfl, ?_⟩
   have fin : ∀ (g : Nat) (w' : World), Same w w' g → ((B.w.heap.size ≤ g ∨ B.own g) ∧ ∀ o, kn g o = none) →
     ∃ kn' m', KnLe kn kn' ∧ Inv CX B kn' m' [] 2 w' ∧ (∀ i, i < 2 → m' i = m i) ∧ RelOut kn' m' (.ret (.str (l.map fun n => UInt8.ofNat n.toNat))) (.returned (.string ⟨(l.map fun n => UInt8.ofNat n.toNat).toArray⟩)) := fun g w' hs hg =>
    ⟨kn, m, KnLe.refl _, hI.forget hs (Nat.le_refl _) hg, fun _ _ => rfl, .str _⟩
   have hgv : GvRel kn m w 1 1 5 (l.map (E.row (.int .u8))) := hob1
   obtain ⟨locx, hx, hlen, hgv⟩ := hgv
   rw [hm1] at hx; cases hx
   have hr1 : Rel kn m (.gs 1 1 (.int .u8) l.length) v1 := hr1
   cases hr1 with
   | gs _ _ _ _ _ locy hy hly hsl =>
    rw [hm1] at hy; cases hy
    have hsl : Rel kn m (.sref 1 1 1 0 l.length) v1 := hsl
    generalize hn : l.length = n at hsl
    cases hsl with
    | srefNil _ _ _ locz hz hznil =>
     have hl : l = [] := List.eq_nil_of_length_eq_zero hn
     subst hl
     exact (string_nilP loc.blk loc.blk w v0 v2 hw).mono fun e w' ⟨he, hs⟩ => (by subst he; exact fin loc.blk w' hs ⟨q2, q3 rfl⟩)
    | sref _ _ _ _ _ locz hz hznil hze hzl hzm =>
     rw [hm1] at hz; cases hz
     rcases hgv with ⟨hnil, _⟩ | ⟨_, hesz, arr1, hw1, hsz, hcap, hmax, hone1, hrow, hrel⟩
     ·rw [hnil] at hznil; cases hznil
     obtain ⟨p1, p2, p3⟩ := hI.own 1 1 _ loc1 hp1 trivial hm1 hznil
     have hze : loc1.esz = 1 := hze
     simp only [Nat.zero_mul, Nat.add_zero, Nat.sub_zero] at hw ⊢
     by_cases hl0 : l = []
     ·subst hl0
      have hn0 : n = 0 := hn.symm
      subst hn0
      by_cases hc0 : loc1.cap = 0
      ·rw [hc0] at hw
       exact (string_noroomP loc.blk loc1.blk loc1.blk loc1.off arr1 w v0 v2 hw hw1).mono fun e w' ⟨he, hs⟩ => (by subst he; exact fin loc1.blk w' hs ⟨p2, p3 rfl⟩)
      ·exact (string_roomP loc.blk loc1.blk loc1.blk loc1.off loc1.cap w v0 v2 hc0 hw).mono fun e w' ⟨he, hs⟩ => (by subst he; exact fin loc1.blk w' hs ⟨p2, p3 rfl⟩)
     ·have hll : (l.map fun n => UInt8.ofNat n.toNat).length = n := by rw [List.length_map]; exact hn
      subst hn
      rw [← hll] at hw
      have hcap' : l.length ≤ loc1.cap := (rowsU8_len l) ▸ hcap
      refine (string_rowP loc.blk loc1.blk loc1.off loc1.cap arr1 w (l.map fun n => UInt8.ofNat n.toNat) v0 v2 (by simpa using hl0) hw hw1 (by simpa using hcap') (by omega) hmax (fun j x hx => ?_)).mono fun e w' ⟨he, hs⟩ => (by subst he; exact fin loc1.blk w' hs ⟨p2, p3 rfl⟩)
      rw [List.getElem?_map] at hx
      cases hlj : l[j]? with
      | none => rw [hlj] at hx; cases hx
      | some n =>
       rw [hlj] at hx
       simp only [Option.map_some, Option.some.injEq] at hx
       have hj := (List.getElem?_eq_some_iff.1 hlj).1
       have hnb : 0 ≤ n ∧ n < 256 := by
        have := List.all_eq_true.1 hall n (List.mem_of_getElem? hlj)
        simpa using this
       have hin : loc1.off + j < arr1.size := by omega
       have hrv := hrel j [.int .u8 n] 0 (.int .u8 n) arr1[loc1.off + j] (rowsU8_get l hlj) rfl (by
        rw [Nat.mul_one, Nat.add_zero]
        exact Array.getElem?_eq_getElem hin)
       rw [addr_add]
       rw [Lib.cell_of_heap hw1, Array.getElem?_eq_getElem hin]
       generalize arr1[loc1.off + j] = u at hrv
       cases hrv
       rw [← hx]
       have : ((UInt8.ofNat n.toNat).toNat : Int) = n := by
        have e : n.toNat < 2 ^ 8 := by omega
        rw [UInt8.toNat_ofNat_of_lt' e]; omega
       rw [this]
 ·cases hr
theorem S_stringP_ok : SigOK CX 26 S_stringP := by
 refine ⟨by kernel_rfl, fun x r hr B kn m w vs hI hlay hargs => ?_⟩
 have hr : (bytesOf x.2.2.1).map (fun s => (s, ())) = some r := hr
 obtain ⟨s, hs, rfl⟩ := Option.map_eq_some_iff.1 hr
 exact (string_overP x.2.1.1 x.2.1.2.2.1 x.2.2.1 s hs B kn m w vs hI hlay hargs).mono fun e w' ⟨kn', m', h1, h2, h3, h4⟩ => ⟨kn', m', h1, h2, h3, fun j hj => absurd hj (by show ¬ j < 0; omega), h4⟩
end Go.Ab

set_option maxRecDepth 100000
namespace Go.Ab
open Go Go.RowKit Go.Proofs
def blkL : List UInt8 := [32, 9]
def trimBS (s : List UInt8) : List UInt8 := (trimRi (fun c => decide (c ∈ blkL)) s s.length).dropWhile fun c => decide (c ∈ blkL)
theorem trimB_call (s : List UInt8) (hl : s.length ≤ 4611686018427387904) : PCall CX 75 [.str s, .str blkL] (· = .ret (.str (trimBS s))) := by
 have hdl : ((blkL.length : Nat) : Int) = 2 := rfl
 have hne : blkL ≠ [] := by decide
 refine pcall_mk 0 43 [.tmp 4] Tryz.func75 rfl (by decide) rfl rfl rfl ?_
 refine aw_sreg {} rfl rfl fun K KP hK hP => ?_
 simp only [go_sem, ↓reduceIte]
 apply hK; clear hK hP
 refine aw_seq ?_
 by_cases c1 : s = []
 ·
  refine aw_sreg {} rfl rfl fun K KP hK hP => ?_
  simp only [go_sem, ↓reduceIte, c1, hne]
  apply hK; clear hK hP
  refine aw_if (True) (by simp only [go_sem, ↓reduceIte, c1]) (fun h1 => ?_) (fun h1 => ?_)
  ·
   refine aw_sreg {} rfl rfl fun K KP hK hP => ?_
   simp only [go_sem, ↓reduceIte, c1]
   apply hK; clear hK hP
   refine aw_ret ?_
   refine athen_ret.2 ?_
   simp only [go_sem, ↓reduceIte, c1, athen_ret] <;> (
    simp [trimBS, trimRi, c1])
  ·
   exact absurd trivial h1
 ·
  refine aw_sreg {} rfl rfl fun K KP hK hP => ?_
  simp only [go_sem, ↓reduceIte, c1, hne]
  apply hK; clear hK hP
  refine aw_if (False) (by simp only [go_sem, ↓reduceIte, c1]) (fun h1 => ?_) (fun h1 => ?_)
  ·
   exact h1.elim
  ·
   refine aw_skip ?_
   refine athen_normal.2 ?_
   refine aw_seq ?_
   refine aw_sreg {} rfl rfl fun K KP hK hP => ?_
   simp only [go_sem, ↓reduceIte, c1, hdl]
   apply hK; clear hK hP
   refine aw_if (False) (by simp only [go_sem, ↓reduceIte, c1]) (fun h3 => ?_) (fun h3 => ?_)
   ·
    exact h3.elim
   ·
    refine aw_skip ?_
    refine athen_normal.2 ?_
    refine aw_seq ?_
    refine aw_sreg {} rfl (by simp only [allocObjs, go_sem]; rfl) fun K KP hK hP => ?_
    simp only [go_sem, ↓reduceIte, c1]
    refine CallP.ret (makeSet_call blkL (by decide) (by decide)) (by simp only [go_sem]) ?_
    try simp only [go_sem, ↓reduceIte, c1]
    apply hK; clear hK hP
    refine aw_sreg {} rfl rfl fun K KP hK hP => ?_
    simp only [go_sem, ↓reduceIte, c1]
    apply hK; clear hK hP
    refine aw_if (True) (by simp only [go_sem, ↓reduceIte, c1]) (fun h6 => ?_) (fun h6 => ?_)
    ·
     refine aw_sreg { ac := [36, 37] } rfl rfl fun K KP hK hP => ?_
     simp only [go_sem, ↓reduceIte, c1]
     refine CallP.acall (trimRight_call _ _ 0 0 blkL s rfl hl) ?_
     try simp only [go_sem, ↓reduceIte, c1]
     refine CallP.acall (trimLeft_call _ _ 0 0 blkL _ rfl) ?_
     try simp only [go_sem, ↓reduceIte, c1]
     apply hK; clear hK hP
     refine aw_ret ?_
     refine athen_ret.2 ?_
     simp only [go_sem, ↓reduceIte, c1, athen_ret] <;> (
      rfl)
    ·
     exact absurd trivial h6
theorem trimRightB_call (s : List UInt8) (hl : s.length ≤ 4611686018427387904) : PCall CX 77 [.str s, .str blkL] (· = .ret (.str (trimRi (fun c => decide (c ∈ blkL)) s s.length))) := by
 have hdl : ((blkL.length : Nat) : Int) = 2 := rfl
 have hne : blkL ≠ [] := by decide
 refine pcall_mk 0 37 [.tmp 4] Tryz.func77 rfl (by decide) rfl rfl rfl ?_
 refine aw_sreg {} rfl rfl fun K KP hK hP => ?_
 simp only [go_sem, ↓reduceIte]
 apply hK; clear hK hP
 refine aw_seq ?_
 by_cases c1 : s = []
 ·
  refine aw_sreg {} rfl rfl fun K KP hK hP => ?_
  simp only [go_sem, ↓reduceIte, c1, hne]
  apply hK; clear hK hP
  refine aw_if (True) (by simp only [go_sem, ↓reduceIte, c1]) (fun h1 => ?_) (fun h1 => ?_)
  ·
   refine aw_sreg {} rfl rfl fun K KP hK hP => ?_
   simp only [go_sem, ↓reduceIte, c1]
   apply hK; clear hK hP
   refine aw_ret ?_
   refine athen_ret.2 ?_
   simp only [go_sem, ↓reduceIte, c1, athen_ret] <;> (
    simp [trimRi, c1])
  ·
   exact absurd trivial h1
 ·
  refine aw_sreg {} rfl rfl fun K KP hK hP => ?_
  simp only [go_sem, ↓reduceIte, c1, hne]
  apply hK; clear hK hP
  refine aw_if (False) (by simp only [go_sem, ↓reduceIte, c1]) (fun h1 => ?_) (fun h1 => ?_)
  ·
   exact h1.elim
  ·
   refine aw_skip ?_
   refine athen_normal.2 ?_
   refine aw_seq ?_
   refine aw_sreg {} rfl rfl fun K KP hK hP => ?_
   simp only [go_sem, ↓reduceIte, c1, hdl]
   apply hK; clear hK hP
   refine aw_if (False) (by simp only [go_sem, ↓reduceIte, c1]) (fun h3 => ?_) (fun h3 => ?_)
   ·
    exact h3.elim
   ·
    refine aw_skip ?_
    refine athen_normal.2 ?_
    refine aw_seq ?_
    refine aw_sreg {} rfl (by simp only [allocObjs, go_sem]; rfl) fun K KP hK hP => ?_
    simp only [go_sem, ↓reduceIte, c1]
    refine CallP.ret (makeSet_call blkL (by decide) (by decide)) (by simp only [go_sem]) ?_
    try simp only [go_sem, ↓reduceIte, c1]
    apply hK; clear hK hP
    refine aw_sreg {} rfl rfl fun K KP hK hP => ?_
    simp only [go_sem, ↓reduceIte, c1]
    apply hK; clear hK hP
    refine aw_if (True) (by simp only [go_sem, ↓reduceIte, c1]) (fun h6 => ?_) (fun h6 => ?_)
    ·
     refine aw_sreg { ac := [33] } rfl rfl fun K KP hK hP => ?_
     simp only [go_sem, ↓reduceIte, c1]
     refine CallP.acall (trimRight_call _ _ 0 0 blkL s rfl hl) ?_
     try simp only [go_sem, ↓reduceIte, c1]
     apply hK; clear hK hP
     refine aw_ret ?_
     refine athen_ret.2 ?_
     simp only [go_sem, ↓reduceIte, c1, athen_ret] <;> (
      rfl)
    ·
     exact absurd trivial h6
end Go.Ab

set_option maxRecDepth 100000
namespace Go.Ab
open Go Go.RowKit Go.Proofs
noncomputable def numericF (s : List UInt8) : Option Bool := if s.length ≤ 4611686018427387904 then some (numericS s) else none
noncomputable def S_numeric : Sig := .n [.d .str] (.d .bool) (fun x => numericF x.1)
theorem S_numeric_ok : SigOK CX 94 S_numeric := fun x r h => by
 have h : numericF x.1 = some r := h
 unfold numericF at h
 split at h
 ·rename_i hl; cases h; exact numeric_call x.1 hl
 ·cases h
noncomputable def outsideF (c : Int) : Option Bool := if 0 ≤ c ∧ c < 256 then some (outsideS (UInt8.ofNat c.toNat)) else none
noncomputable def S_outside : Sig := .n [.d (.int .u8)] (.d .bool) (fun x => outsideF x.1)
theorem u8_of {c : Int} (h : 0 ≤ c ∧ c < 256) : ((UInt8.ofNat c.toNat).toNat : Int) = c := by
 have e : c.toNat < 2 ^ 8 := by omega
 rw [UInt8.toNat_ofNat_of_lt' e]; omega
theorem outsideF_ok (c : Int) (r : Bool) (h : outsideF c = some r) : PCall CX 95 [.int .u8 c] (fun o => o = .ret (.bool r)) := by
 unfold outsideF at h
 split at h
 ·rename_i hl
  cases h
  have := outside_call (UInt8.ofNat c.toNat)
  rw [u8_of hl] at this
  exact this
 ·cases h
theorem S_outside_ok : SigOK CX 95 S_outside := fun x r h => outsideF_ok x.1 r h
noncomputable def indexByteF (s : List UInt8) (c : Int) : Option Int := if 0 ≤ c ∧ c < 256 then some (Lib.indexByte s (UInt8.ofNat c.toNat)) else none
noncomputable def S_indexByte : Sig := .n [.d .str, .d (.int .u8)] (.d (.int .i64)) (fun x => indexByteF x.1 x.2.1)
theorem indexByteF_ok (s : List UInt8) (c : Int) (r : Int) (h : indexByteF s c = some r) : PCall CX 73 [.str s, .int .u8 c] (fun o => o = .ret (.int .i64 r)) := by
 unfold indexByteF at h
 split at h
 ·rename_i hl
  cases h
  have := indexByte_call s (UInt8.ofNat c.toNat)
  rw [u8_of hl] at this
  exact this
 ·cases h
theorem S_indexByte_ok : SigOK CX 73 S_indexByte := fun x r h => indexByteF_ok x.1 x.2.1 r h
def trimPrefixF (s p : List UInt8) : List UInt8 := if p.length ≤ s.length ∧ s.take p.length = p then s.drop p.length else s
noncomputable def S_trimPrefix : Sig := .n [.d .str, .d .str] (.d .str) (fun x => some (trimPrefixF x.1 x.2.1))
theorem S_trimPrefix_ok : SigOK CX 129 S_trimPrefix := fun x r h => by cases h; exact trimPrefix_call x.1 x.2.1
end Go.Ab

set_option maxRecDepth 100000
namespace Go.Ab
open Go Go.RowKit Go.Proofs
noncomputable def G_kids (x0 : Fm) : Option (List Fm) := (
 cond (decide (x0.k = 3)) (some x0.l) (some ([] : List Fm)))
def A_kids : An := .leaf
def H_kids : Nat → RH := fun _ => {}
noncomputable def S_kids : Sig := .n [(.d .form)] (.d (.slice .form)) (fun x => G_kids x.1)
theorem S_kids_ok : SigOK CX 101 S_kids := sigN_of (l := []) trivial (hint := H_kids) (an := A_kids) (fun x => by kernel_rfl)
noncomputable def G_head (x0 : Fm) : Option (List UInt8) := (
 Option.bind (α := List Fm) (G_kids (Fm.eta x0)) fun r1 => (
 cond ((ixOK 0 r1.length) || !(decide ((r1.length : Int) > 0))) (cond (cond (decide ((r1.length : Int) > 0)) (decide ((r1.getD (0 : Int).toNat (Fm.mk 0 0 [] [])).k = 1)) false) (cond (ixOK 0 r1.length) (some ((r1.getD (0 : Int).toNat (Fm.mk 0 0 [] [])).t)) none) (some ([]))) none))
def A_head : An := .leaf
def H_head : Nat → RH := fun _ => {}
noncomputable def S_head : Sig := .n [(.d .form)] (.d .str) (fun x => G_head x.1)
theorem S_head_ok : SigOK CX 66 S_head := sigN_of (l := [(101, S_kids)]) ⟨S_kids_ok, trivial⟩ (hint := H_head) (an := A_head) (fun x => by kernel_rfl)
noncomputable def G_isNaNi (x0 : Int) : Option (Bool) := (
 some (!decide (x0 = x0)))
def A_isNaNi : An := .leaf
def H_isNaNi : Nat → RH := fun _ => {}
noncomputable def S_isNaNi : Sig := .n [(.d (.int .i64))] (.d .bool) (fun x => G_isNaNi x.1)
theorem S_isNaNi_ok : SigOK CX 126 S_isNaNi := sigN_of (l := []) trivial (hint := H_isNaNi) (an := A_isNaNi) (fun x => by kernel_rfl)
noncomputable def G_isNaNs (x0 : List UInt8) : Option (Bool) := (
 some (!decide (x0 = x0)))
def A_isNaNs : An := .leaf
def H_isNaNs : Nat → RH := fun _ => {}
noncomputable def S_isNaNs : Sig := .n [(.d .str)] (.d .bool) (fun x => G_isNaNs x.1)
theorem S_isNaNs_ok : SigOK CX 127 S_isNaNs := sigN_of (l := []) trivial (hint := H_isNaNs) (an := A_isNaNs) (fun x => by kernel_rfl)
noncomputable def G_cmpi (x0 : Int) (x1 : Int) : Option (Int) := (
 Option.bind (α := Bool) (G_isNaNi x0) fun r1 => (
 Option.bind (α := Bool) (G_isNaNi x1) fun r2 => (
 cond r1 (cond r2 (some 0) (some (-1))) (cond r2 (some 1) (cond (decide (x0 < x1)) (some (-1)) (cond (decide (x0 > x1)) (some 1) (some 0)))))))
def A_cmpi : An := .leaf
def H_cmpi : Nat → RH := fun _ => {}
noncomputable def S_cmpi : Sig := .n [(.d (.int .i64)), (.d (.int .i64))] (.d (.int .i64)) (fun x => G_cmpi x.1 x.2.1)
theorem S_cmpi_ok : SigOK CX 89 S_cmpi := sigN_of (l := [(126, S_isNaNi)]) ⟨S_isNaNi_ok, trivial⟩ (hint := H_cmpi) (an := A_cmpi) (fun x => by kernel_rfl)
noncomputable def G_cmps (x0 : List UInt8) (x1 : List UInt8) : Option (Int) := (
 Option.bind (α := Bool) (G_isNaNs x0) fun r1 => (
 Option.bind (α := Bool) (G_isNaNs x1) fun r2 => (
 cond r1 (cond r2 (some 0) (some (-1))) (cond r2 (some 1) (cond (Op.bytesLess x0 x1) (some (-1)) (cond (!(Op.bytesLess x0 x1 || decide (x0 = x1))) (some 1) (some 0)))))))
def A_cmps : An := .leaf
def H_cmps : Nat → RH := fun _ => {}
noncomputable def S_cmps : Sig := .n [(.d .str), (.d .str)] (.d (.int .i64)) (fun x => G_cmps x.1 x.2.1)
theorem S_cmps_ok : SigOK CX 90 S_cmps := sigN_of (l := [(127, S_isNaNs)]) ⟨S_isNaNs_ok, trivial⟩ (hint := H_cmps) (an := A_cmps) (fun x => by kernel_rfl)
mutual
noncomputable def G_compare (k : Nat) (x0 : Fm) (x1 : Fm) : Option (Int) := match k with
| 0 => none
| k + 1 => (
 cond (!decide (x0.k = x1.k)) (Option.bind (α := Int) (G_cmpi x0.k x1.k) fun r1 => (
 some r1)) (cond (decide (x0.k = 0)) (Option.bind (α := Int) (G_cmpi x0.n x1.n) fun r2 => (
 some r2)) (Option.bind (α := ((Int × Int × (List UInt8) × (List Fm) × Unit) × (Int × Int × (List UInt8) × (List Fm) × Unit) × Int × Bool × Unit) × (Unit))
 (cond (decide (x0.k = 1)) (some (((x0.k, x0.n, x0.t, x0.l, ()), (x1.k, x1.n, x1.t, x1.l, ()), x0.k, decide (x0.k = 1), ()), ())) (some (((x0.k, x0.n, x0.t, x0.l, ()), (x1.k, x1.n, x1.t, x1.l, ()), x0.k, decide (x0.k = 2), ()), ()))) fun d3 => (
 let v16_4 := d3.1.2.2.1
 let v24_5 := d3.1.2.2.2.1
 cond v24_5 (Option.bind (α := Int) (G_cmps d3.1.1.2.2.1 d3.1.2.1.2.2.1) fun r6 => (
 some r6)) (cond (decide (v16_4 = 3)) (Option.bind (α := Int) (G_compareFunc k d3.1.1.2.2.2.1 d3.1.2.1.2.2.2.1 ()) fun r7 => (
 some r7)) (some 0))))))
noncomputable def G_compareFunc (k : Nat) (x0 : List Fm) (x1 : List Fm) (x2 : Unit) : Option (Int) := match k with
| 0 => none
| k + 1 => (
 Option.bind (α := Step (((List Fm) × (List Fm) × Unit) × (Unit)) (Int))
 (loopM (L := ((List Fm) × (List Fm) × Unit × (List Fm) × Int × Int × Unit) × (Unit)) (R := Step (((List Fm) × (List Fm) × Unit) × (Unit)) (Int)) (fun d1 => (
 let v0_2 := d1.1.1
 let v1_3 := d1.1.2.1
 let v11_4 := d1.1.2.2.2.1
 let v12_5 := d1.1.2.2.2.2.1
 let v13_6 := d1.1.2.2.2.2.2.1
 cond (decide (v13_6 < v12_5)) (cond (ixOK v13_6 v11_4.length) (cond (decide (v13_6 ≥ (v1_3.length : Int))) (some (Step.done (Step.done 1))) (cond (ixOK v13_6 v1_3.length) (Option.bind (α := Int) (G_compare k (Fm.eta (v11_4.getD v13_6.toNat (Fm.mk 0 0 [] []))) (Fm.eta (v1_3.getD v13_6.toNat (Fm.mk 0 0 [] [])))) fun r7 => (
 cond (!decide (r7 = 0)) (some (Step.done (Step.done r7))) (some (Step.next ((v0_2, v1_3, (), v11_4, v12_5, IntKind.wrap .i64 (v13_6 + 1), ()), ()))))) none)) none) (some (Step.done (Step.next ((v0_2, v1_3, ()), ())))))) ((x0, x1, (), x0, (x0.length : Int), 0, ()), ())) fun qd8 => match qd8 with
 | .next d8 => (
 let v0_9 := d8.1.1
 let v1_10 := d8.1.2.1
 cond (decide ((v0_9.length : Int) < (v1_10.length : Int))) (some (-1)) (some 0))
 | .done r => some r)
end
def A_compare : An := .seq (.leaf) (.seq (.leaf) (.seq (.seq (.leaf) (.block (.seq (.leaf) (.cond (.leaf) (.join false { env := [(2, (.rptr [(.d (.int .i64)), (.d (.int .i64)), (.d .str), (.d (.slice .form))])), (3, (.rptr [(.d (.int .i64)), (.d (.int .i64)), (.d .str), (.d (.slice .form))])), (16, (.d (.int .i64))), (24, (.d .bool))], objs := [] } (.leaf) (.leaf)))))) (.leaf)))
def H_compare : Nat → RH := fun _ => {}
noncomputable def S_compare (k : Nat) : Sig := .n [(.d .form), (.d .form)] (.d (.int .i64)) (fun x => G_compare k x.1 x.2.1)
def A_compareFunc : An := .seq (.leaf) (.join true { env := [(0, (.d (.slice .form))), (1, (.d (.slice .form)))], objs := [] } (.seq (.leaf) (.block (.loop { env := [(0, (.d (.slice .form))), (1, (.d (.slice .form))), (2, (.c (.fn (.func 62) [] []))), (11, (.d (.slice .form))), (12, (.d (.int .i64))), (13, (.d (.int .i64)))], objs := [] } (.leaf)))) (.leaf))
def H_compareFunc : Nat → RH := fun _ => {}
noncomputable def S_compareFunc (k : Nat) : Sig := .n [(.d (.slice .form)), (.d (.slice .form)), (.c (.fn (.func 62) [] []))] (.d (.int .i64)) (fun x => G_compareFunc k x.1 x.2.1 x.2.2.1)
theorem S_compare_compareFunc_rec : ∀ k, SigOK CX 62 (S_compare k) ∧ SigOK CX 91 (S_compareFunc k)
| 0 => ⟨(fun x r h => by cases h), (fun x r h => by cases h)⟩
| k + 1 => by
 have ih := S_compare_compareFunc_rec k
 obtain ⟨ih0, ih1⟩ := ih
 exact ⟨sigN_of (l := [(89, S_cmpi), (90, S_cmps), (91, (S_compareFunc k))]) ⟨S_cmpi_ok, S_cmps_ok, ih1, trivial⟩ (hint := H_compare) (an := A_compare) (fun x => by kernel_rfl),
  sigN_of (l := [(62, (S_compare k))]) ⟨ih0, trivial⟩ (hint := H_compareFunc) (an := A_compareFunc) (fun x => by kernel_rfl)⟩
theorem S_compare_ok : ∀ k, SigOK CX 62 (S_compare k) := fun k => (S_compare_compareFunc_rec k).1
noncomputable def L_compare (x0 : Fm) (x1 : Fm) : Option (Int) := limF fun k => G_compare k x0 x1
noncomputable def S_compare_l : Sig := .n [(.d .form), (.d .form)] (.d (.int .i64)) (fun x => L_compare x.1 x.2.1)
theorem S_compare_l_ok : SigOK CX 62 S_compare_l := SigOK.limN S_compare_ok fun x r h => limF_ex h
end Go.Ab

set_option maxRecDepth 100000
namespace Go.Ab
open Go Go.RowKit Go.Proofs
noncomputable def G_bldLen (o0 : Bool × Unit × Unit) (o1 : List Int) : Option ((Int) × ((Bool × Unit × Unit) × (List Int) × Unit)) := (
 some ((o1.length : Int), ((o0.1, (), ()), o1, ())))
def A_bldLen : An := .leaf
def H_bldLen : Nat → RH := fun _ => {}
noncomputable def S_bldLen : Sig := .o { pre := [(false, .cells 48 [(.mref 0 0), (.gs 1 (.int .u8))]), (false, .tg (.int .u8) 5)], args := [(.ref 0 0)], post := [(true, .cells 48 [(.mref 0 0), (.gs 1 (.int .u8))]), (true, .tg (.int .u8) 5)], res := (.d (.int .i64)), f := fun x => G_bldLen x.2.1 x.2.2.1 }
theorem S_bldLen_ok : SigOK CX 105 S_bldLen := sigO_of (l := []) trivial (hint := H_bldLen) (an := A_bldLen) (by kernel_rfl) (fun x => by kernel_rfl)
noncomputable def G_bldByte (x1 : Int) (o0 : Bool × Unit × Unit) (o1 : List Int) : Option ((Bool) × ((Bool × Unit × Unit) × (List Int) × Unit)) := (
 Option.bind (α := (Unit) × ((Bool × Unit × Unit) × (List Int) × Unit)) (some ((), ((true, (), ()), o1, ()))) fun r1 => (
 cond (decide ((r1.2.2.1.length + ([x1]).length) * 1 ≤ 140737488355328)) (some (true, ((r1.2.1.1, (), ()), r1.2.2.1 ++ ([x1]), ()))) none))
def A_bldByte : An := .leaf
def H_bldByte : Nat → RH := fun r => match r with
 | 1 => { H := { ac := [6] } }
 | 2 => { H := { ty := [(14, (.int .u8))] } }
 | _ => {}
noncomputable def S_bldByte : Sig := .o { pre := [(false, .cells 48 [(.mref 0 0), (.gs 1 (.int .u8))]), (false, .tg (.int .u8) 5)], args := [(.ref 0 0), (.d (.int .u8))], post := [(true, .cells 48 [(.mref 0 0), (.gs 1 (.int .u8))]), (false, .tg (.int .u8) 5)], res := (.d .erri), f := fun x => G_bldByte x.1.2.1 x.2.1 x.2.2.1 }
theorem S_bldByte_ok : SigOK CX 30 S_bldByte := sigO_of (l := [(51, S_copyCheck)]) ⟨S_copyCheck_ok, trivial⟩ (hint := H_bldByte) (an := A_bldByte) (by kernel_rfl) (fun x => by kernel_rfl)
noncomputable def G_skip (o0 : (List UInt8) × Int × Unit) : Option ((Unit) × (((List UInt8) × Int × Unit) × Unit)) := (
 loopM (L := (Unit × Unit) × (((List UInt8) × Int × Unit) × Unit)) (R := (Unit) × (((List UInt8) × Int × Unit) × Unit)) (fun d1 => (
 let c2 := d1.2.1.1
 let c3 := d1.2.1.2.1
 cond (decide (c3 < (c2.length : Int))) (cond (ixOK c3 c2.length) (cond (cond (cond (decide (byteAt c2 c3 = 32)) true (decide (byteAt c2 c3 = 9))) true (decide (byteAt c2 c3 = 10))) (some (Step.next (((), ()), ((c2, IntKind.wrap .i64 (c3 + 1), ()), ())))) (cond (decide (byteAt c2 c3 = 59)) (cond (slOK c3 (c2.length : Int) c2.length) (Option.bind (α := Int) (indexByteF ((c2.drop c3.toNat).take ((c2.length : Int).toNat - c3.toNat)) (10)) fun r4 => (
 Option.bind (α := (Unit × Int × Unit) × (((List UInt8) × Int × Unit) × Unit))
 (cond (decide (r4 < 0)) (some (((), IntKind.wrap .i64 ((c2.length : Int) - c3), ()), ((c2, c3, ()), ()))) (some (((), r4, ()), ((c2, c3, ()), ())))) fun d5 => (
 let c6 := d5.2.1.1
 let c7 := d5.2.1.2.1
 let v3_8 := d5.1.2.1
 some (Step.next (((), ()), ((c6, IntKind.wrap .i64 (c7 + v3_8), ()), ())))))) none) (some (Step.done ((), ((c2, c3, ()), ())))))) none) (some (Step.done ((), ((c2, c3, ()), ())))))) (((), ()), ((o0.1, o0.2.1, ()), ())))
def A_skip : An := .block (.loop { env := [(0, (.ref 0 0))], objs := [(true, .cells 110 [(.d .str), (.d (.int .i64))])] } (.seq (.leaf) (.block (.seq (.leaf) (.block (.seq (.leaf) (.cond (.leaf) (.seq (.leaf) (.cond (.seq (.leaf) (.join false { env := [(0, (.ref 0 0)), (3, (.d (.int .i64)))], objs := [(true, .cells 110 [(.d .str), (.d (.int .i64))])] } (.leaf) (.leaf))) (.leaf))))))))))
def H_skip : Nat → RH := fun _ => {}
noncomputable def S_skip : Sig := .o { pre := [(false, .cells 110 [(.d .str), (.d (.int .i64))])], args := [(.ref 0 0)], post := [(true, .cells 110 [(.d .str), (.d (.int .i64))])], res := (.tup []), f := fun x => G_skip x.2.1 }
theorem S_skip_ok : SigOK CX 123 S_skip := sigO_of (l := [(73, S_indexByte)]) ⟨S_indexByte_ok, trivial⟩ (hint := H_skip) (an := A_skip) (by kernel_rfl) (fun x => by kernel_rfl)
noncomputable def G_text (o0 : (List UInt8) × Int × Unit) : Option (((List UInt8) × Int × Unit) × (((List UInt8) × Int × Unit) × Unit)) := (
 Option.bind (α := Step ((Unit) × (((List UInt8) × Int × Unit) × Unit)) (((List UInt8) × Int × Unit) × (((List UInt8) × Int × Unit) × Unit)))
 (loopM (L := (Unit × Unit × Unit) × (((List UInt8) × Int × Unit) × (Bool × Unit × Unit) × (List Int) × Unit)) (R := Step ((Unit) × (((List UInt8) × Int × Unit) × Unit)) (((List UInt8) × Int × Unit) × (((List UInt8) × Int × Unit) × Unit))) (fun d1 => (
 let c2 := d1.2.1.1
 let c3 := d1.2.1.2.1
 let l4 := d1.2.2.2.1
 cond (decide (c3 < (c2.length : Int))) (cond (ixOK c3 c2.length) (Option.bind (α := Step ((Unit × Unit × Int × Unit) × (((List UInt8) × Int × Unit) × (Bool × Unit × Unit) × (List Int) × Unit)) (Step ((Unit × Unit × Unit) × (((List UInt8) × Int × Unit) × (Bool × Unit × Unit) × (List Int) × Unit)) (Step ((Unit) × (((List UInt8) × Int × Unit) × Unit)) (((List UInt8) × Int × Unit) × (((List UInt8) × Int × Unit) × Unit)))))
 (cond (decide (byteAt c2 c3 = 34)) (Option.bind (α := (Int) × ((Bool × Unit × Unit) × (List Int) × Unit)) (G_bldLen (d1.2.2.1.1, (), ()) l4) fun r5 => (
 cond (decide (r5.1 > 2000)) (some (Step.done (Step.done (Step.done (([], 4, ()), ((c2, IntKind.wrap .i64 (c3 + 1), ()), ())))))) (Option.bind (α := (List UInt8) × (Unit)) (Option.map (fun s => (s, ())) (bytesOf (r5.2.2.1))) fun r6 => (
 some (Step.done (Step.done (Step.done ((r6.1, 0, ()), ((c2, IntKind.wrap .i64 (c3 + 1), ()), ()))))))))) (cond (decide (byteAt c2 c3 = 92)) (cond (decide (IntKind.wrap .i64 (c3 + 1) = (c2.length : Int))) (some (Step.done (Step.done (Step.done (([], 12, ()), ((c2, IntKind.wrap .i64 (c3 + 1), ()), ())))))) (cond (ixOK (IntKind.wrap .i64 (c3 + 1)) c2.length) (cond (decide (byteAt c2 (IntKind.wrap .i64 (c3 + 1)) = 110)) (some (Step.next (((), (), 10, ()), ((c2, IntKind.wrap .i64 (c3 + 1), ()), (d1.2.2.1.1, (), ()), l4, ())))) (cond (cond (!decide (byteAt c2 (IntKind.wrap .i64 (c3 + 1)) = 34)) (!decide (byteAt c2 (IntKind.wrap .i64 (c3 + 1)) = 92)) false) (some (Step.done (Step.done (Step.done (([], 4, ()), ((c2, IntKind.wrap .i64 (c3 + 1), ()), ())))))) (some (Step.next (((), (), byteAt c2 (IntKind.wrap .i64 (c3 + 1)), ()), ((c2, IntKind.wrap .i64 (c3 + 1), ()), (d1.2.2.1.1, (), ()), l4, ())))))) none)) (cond (cond (decide (byteAt c2 c3 < 32)) true (decide (byteAt c2 c3 > 126))) (some (Step.done (Step.done (Step.done (([], 4, ()), ((c2, c3, ()), ())))))) (some (Step.next (((), (), byteAt c2 c3, ()), ((c2, c3, ()), (d1.2.2.1.1, (), ()), l4, ()))))))) fun qd7 => match qd7 with
 | .next d7 => (
 let c8 := d7.2.1.1
 let c9 := d7.2.1.2.1
 let l10 := d7.2.2.2.1
 let v5_11 := d7.1.2.2.1
 Option.bind (α := (Bool) × ((Bool × Unit × Unit) × (List Int) × Unit)) (G_bldByte v5_11 (d7.2.2.1.1, (), ()) l10) fun r12 => (
 some (Step.next (((), (), ()), ((c8, IntKind.wrap .i64 (c9 + 1), ()), (r12.2.1.1, (), ()), r12.2.2.1, ())))))
 | .done r => some r) none) (some (Step.done (Step.next ((), ((c2, c3, ()), ()))))))) (((), (), ()), ((o0.1, IntKind.wrap .i64 (o0.2.1 + 1), ()), (false, (), ()), ([] : List Int), ()))) fun qd13 => match qd13 with
 | .next d13 => (
 let c14 := d13.2.1.1
 let c15 := d13.2.1.2.1
 some (([], 12, ()), ((c14, c15, ()), ())))
 | .done r => some r)
def A_text : An := .seq (.leaf) (.seq (.leaf) (.join true { env := [], objs := [(true, .cells 110 [(.d .str), (.d (.int .i64))])] } (.seq (.leaf) (.block (.loop { env := [(0, (.ref 0 0)), (4, (.ref 1 0))], objs := [(true, .cells 110 [(.d .str), (.d (.int .i64))]), (false, .cells 48 [(.mref 1 0), (.gs 2 (.int .u8))]), (false, .tg (.int .u8) 5)] } (.seq (.leaf) (.seq (.block (.seq (.leaf) (.join true { env := [(0, (.ref 0 0)), (4, (.ref 1 0)), (5, (.d (.int .u8)))], objs := [(true, .cells 110 [(.d .str), (.d (.int .i64))]), (false, .cells 48 [(.mref 1 0), (.gs 2 (.int .u8))]), (false, .tg (.int .u8) 5)] } (.leaf) (.leaf)))) (.leaf)))))) (.leaf)))
def H_text : Nat → RH := fun r => match r with
 | 8 => { H := { ac := [49] } }
 | 10 => { H := { ac := [51] } }
 | 22 => { H := { ac := [97] } }
 | _ => {}
noncomputable def S_text : Sig := .o { pre := [(false, .cells 110 [(.d .str), (.d (.int .i64))])], args := [(.ref 0 0)], post := [(true, .cells 110 [(.d .str), (.d (.int .i64))])], res := (.tup [(.d .str), (.d (.int .i64))]), f := fun x => G_text x.2.1 }
theorem S_text_ok : SigOK CX 124 S_text := sigO_of (l := [(105, S_bldLen), (26, S_string), (30, S_bldByte)]) ⟨S_bldLen_ok, S_string_ok, S_bldByte_ok, trivial⟩ (hint := H_text) (an := A_text) (by kernel_rfl) (fun x => by kernel_rfl)
noncomputable def G_touches (x0 : Int) : Option (Bool) := (
 Option.bind (α := Bool) (cond (!(decide (x0 = 34))) (outsideF (x0)) (some false)) fun r1 => (
 some (cond (decide (x0 = 34)) true (!r1))))
def A_touches : An := .leaf
def H_touches : Nat → RH := fun _ => {}
noncomputable def S_touches : Sig := .n [(.d (.int .u8))] (.d .bool) (fun x => G_touches x.1)
theorem S_touches_ok : SigOK CX 87 S_touches := sigN_of (l := [(95, S_outside)]) ⟨S_outside_ok, trivial⟩ (hint := H_touches) (an := A_touches) (fun x => by kernel_rfl)
end Go.Ab

set_option maxRecDepth 100000
namespace Go.Ab
open Go Go.RowKit Go.Proofs
noncomputable def G_newRep (x0 : List (List UInt8)) : Option ((Unit) × ((Int × Int × Int × Unit × Unit × Unit) × (List (List UInt8)) × Unit)) := (
 cond (decide (Int.tmod (x0.length : Int) 2 = 1)) (none) (cond (decide (x0.length * 16 ≤ 140737488355328)) (some ((), ((0, 0, 0, (), (), ()), x0, ()))) none))
def A_newRep : An := .leaf
def H_newRep : Nat → RH := fun r => match r with
 | 3 => { H := { mb := [11], ty := [(9, .str)] } }
 | _ => {}
noncomputable def S_newRep : Sig := .o { pre := [], args := [(.d (.slice .str))], post := [(false, .cells 160 [(.d (.int .u32)), (.d (.int .i32)), (.d (.int .u32)), (.c (.base .nilIface)), (.gs 1 .str)]), (false, .tg .str 9)], res := (.ref 0 0), f := fun x => G_newRep x.1.1 }
theorem S_newRep_ok : SigOK CX 99 S_newRep := sigO_of (l := []) trivial (hint := H_newRep) (an := A_newRep) (by kernel_rfl) (fun x => by kernel_rfl)
end Go.Ab

set_option maxRecDepth 100000
namespace Go.Ab
open Go Go.RowKit Go.Proofs
abbrev repCells (r : Sh) : List Sh := [.d (.int .u32), .d (.int .i32), .d (.int .u32), r, .gs 1 .str]
abbrev repO (k : Bool) : Slots := [(k, .cells 160 (repCells (.c (.base .nilIface)))), (k, .tg .str 9)]
def tabSh (i : Nat) : Sh := cond (Nat.beq i 10 || (Nat.beq i 34 || Nat.beq i 92)) (.d (.slice (.int .u8))) (cond (Nat.beq i 256) (.gs 3 .str) (.c (.base (.slice none 0 0))))
def bsrCells : List Sh := (List.range 257).map tabSh
abbrev bldPost : Slots := [(true, .cells 160 (repCells (.c (.base .nilIface)))), (true, .tg .str 9), (false, .cells 197 bsrCells), (false, .tg .str 9)]
def A_build : An := .seq .leaf (.seq .leaf (.seq .leaf (.seq .leaf (.seq (.seq .leaf (.block (.unroll 4 .leaf))) (.seq .leaf (.seq .leaf (.seq (.seq .leaf (.block (.unroll 4 .leaf))) .leaf)))))))
def H_build : Nat → RH := fun r => match r with
 | 26 => { H := { ty := [(94, .str)] } }
 | 33 => { H := { ty := [(124, .str)] } }
 | _ => {}
noncomputable def F_build (x : Sh.denL [.ref 0 0] × denO (repO false)) : Option (Sh.den (.iface 198 (.ref 2 0)) × denO bldPost) :=
 yfunO CX (sigTab []) H_build 149 (repO false) [.ref 0 0] bldPost (.iface 198 (.ref 2 0)) A_build x
noncomputable def S_build : Sig := .o ⟨repO false, [.ref 0 0], bldPost, .iface 198 (.ref 2 0), F_build⟩
def old6 : List (List UInt8) := [[92], [92, 92], [34], [92, 34], [10], [92, 110]]
abbrev x6 (a b c : Int) : denO (repO false) := ((a, b, c, (), (), ()), old6, ())
theorem S_build_ok : SigOK CX 149 S_build := sigO_of (l := []) trivial (hint := H_build) (an := A_build) (by kernel_rfl) (fun x => rfl)
abbrev oncePost : Slots := [(true, .cells 160 [.d (.int .u32), .d (.int .i32), .d (.int .u32), .iface 198 (.ref 2 0), .c (.base (.slice none 0 0))]), (true, .tg .str 9), (false, .cells 197 bsrCells), (false, .tg .str 9)]
def H_once : Nat → RH := fun r => match r with
 | 0 => { H := { ac := [4] } }
 | _ => {}
noncomputable def F_once (x : Sh.denL [.ref 0 0] × denO (repO false)) : Option (Sh.den (.tup []) × denO oncePost) :=
 yfunO CX (sigTab [(149, S_build)]) H_once 133 (repO false) [.ref 0 0] oncePost (.tup []) .leaf x
noncomputable def S_once : Sig := .o ⟨repO false, [.ref 0 0], oncePost, .tup [], F_once⟩
theorem S_once_ok : SigOK CX 133 S_once := sigO_of (l := [(149, S_build)]) ⟨S_build_ok, trivial⟩ (hint := H_once) (an := .leaf) (by kernel_rfl) (fun x => rfl)
def repB (i : Nat) : Option (List UInt8) := cond (Nat.beq i 10) (some [92, 110]) (cond (Nat.beq i 34) (some [92, 34]) (cond (Nat.beq i 92) (some [92, 92]) none))
def tabAV (i : Nat) : AV := match repB i with
 | some l => .tvec (.int .u8) (l.map fun b => (b.toNat : Int))
 | none => .base (.slice none 0 0)
def tabCs : List AV := (List.range 256).map tabAV ++ [.gs 3 5 .str 3]
def onceSto (a b c : Int) : Sto := [(0, .cells 160 [.int .u32 a, .int .i32 b, .int .u32 c, .iface 198 (.ref 2 4 0), .base (.slice none 0 0)]), (1, .tg .str 9 old6), (4, .cells 197 tabCs), (5, .tg .str 9 [[10], [34], [92]])]
theorem F_once_is (a b c : Int) : (F_once (((), ()), x6 a b c)).map (fun r => osto 2 oncePost r.2) = some (onceSto a b c) := by kernel_rfl
end Go.Ab

set_option maxRecDepth 100000
namespace Go.Ab
open Go Go.RowKit Go.Proofs
theorem sDisable (w : World) : (callFunc 187 #[]).run Tryz.prog w = .ok (.value (.tuple #[])) w := run_call_mark0 Tryz.func187 (by kernel_rfl) (by kernel_rfl) (by kernel_rfl) .disable (by kernel_rfl) w
theorem sEnable (w : World) : (callFunc 189 #[]).run Tryz.prog w = .ok (.value (.tuple #[])) w := run_call_mark0 Tryz.func189 (by kernel_rfl) (by kernel_rfl) (by kernel_rfl) .enable (by kernel_rfl) w
theorem sAcquire (a : Addr) (w : World) : (callFunc 190 #[.pointer (some a)]).run Tryz.prog w = .ok (.value (.tuple #[])) w := run_call_marked Tryz.func190 (by kernel_rfl) (by kernel_rfl) (by kernel_rfl) .acquire (by kernel_rfl) a w
theorem sRelease (a : Addr) (w : World) : (callFunc 192 #[.pointer (some a)]).run Tryz.prog w = .ok (.value (.tuple #[])) w := run_call_marked Tryz.func192 (by kernel_rfl) (by kernel_rfl) (by kernel_rfl) .releaseMerge (by kernel_rfl) a w
theorem uPMu : Tryz.prog.underlying 229 = some (.pointer 152) := by kernel_rfl
theorem store_deferred (a : Addr) (x : Value) (u : FrameMode) (w : World) (hc : w.cell? a = some x) (hz : w.frozen? a = false) :
  CallsD Tryz.prog 162 #[.pointer (some a), .bool true] u w fun e u' w' => u' = u ∧ (e = .returned (.tuple #[]) ∧ w' = w.drew.setCell a (.int .u32 1)) := by
 have hc' : w.drew.cell? a = some x := by go_simp
 have hz' : w.drew.frozen? a = false := by go_simp
 have hst := run_call_store (P := Tryz.prog) Tryz.func178 (by kernel_rfl) (by kernel_rfl) (by kernel_rfl) (by kernel_rfl) (k := .u32) (y := 1) hc' hz'
 go_enter_d Tryz.func162, Tryz.ntmps162
 go_wp2
 go_region_calls
 all_goals (go_end0; exact ⟨rfl, rfl⟩)
theorem unlock_deferred (a : Addr) (u : FrameMode) (w : World) (hc : w.cell? a = some (.int .i32 1)) (hz : w.frozen? a = false) :
  CallsD Tryz.prog 161 #[.pointer (some a)] u w fun e u' w' => u' = u ∧ (e = .returned (.tuple #[]) ∧ w' = w.setCell a (.int .i32 0)) := by
 have hd := sDisable
 have he := sEnable
 have hr := sRelease
 have hadd := run_call_add (P := Tryz.prog) Tryz.func193 (by kernel_rfl) (by kernel_rfl) (by kernel_rfl) .i32 (by kernel_rfl) (y := -1) (s := 0) hc hz (by simp [go_sem]; rfl)
 have hcv := run_convert_to_unsafe (P := Tryz.prog) (src := 229) (dst := 104) uPMu uUP (by kernel_rfl) hc
 go_enter_d Tryz.func161, Tryz.ntmps161
 go_wp2
 go_end0
 go_wp2
 go_end0
 exact ⟨rfl, rfl⟩
theorem lock_free (a : Addr) (w : World) (hc : w.cell? a = some (.int .i32 0)) (hz : w.frozen? a = false) :
  Calls Tryz.prog 160 #[.pointer (some a)] w fun e w' => e = .returned (.tuple #[]) ∧ w' = w.setCell a (.int .i32 1) := by
 have hd := sDisable
 have he := sEnable
 have ha := sAcquire
 have hcas := run_call_cas_hit (P := Tryz.prog) Tryz.func188 (by kernel_rfl) (by kernel_rfl) (by kernel_rfl) .i32 (by kernel_rfl) (y := 1) hc hz
 have hc' : (w.setCell a (.int .i32 1)).cell? a = some (.int .i32 1) := World.cell?_setCell_same w a _ hc
 have hcv := run_convert_to_unsafe (P := Tryz.prog) (src := 229) (dst := 104) uPMu uUP (by kernel_rfl) hc'
 go_enter Tryz.func160, Tryz.ntmps160
 go_wp2
 first | go_end0 | (simp only [Exit.inBlock, Exit.then]; refine bodyPost_ret (results_none rfl _ _ _) rfl ?_) | refine bodyPost_ret (results_none rfl _ _ _) rfl ?_
 go_wp2
 go_end0
 exact ⟨rfl, rfl⟩
end Go.Ab

set_option maxRecDepth 100000
namespace Go.Ab
open Go Go.RowKit Go.Proofs
set_option maxHeartbeats 1600000 in
theorem slow_once (b : Nat) (w : World) (Q : World → Prop) (h0 : w.cell? ⟨b, 0, none⟩ = some (.int .u32 0)) (h1 : w.cell? ⟨b, 1, none⟩ = some (.int .i32 0)) (f1 : w.frozen? ⟨b, 1, none⟩ = false)
  (hb : Calls Tryz.prog 133 #[.pointer (some ⟨b, 0, none⟩)] (w.setCell ⟨b, 1, none⟩ (.int .i32 1)) fun e w' => e = .returned (.tuple #[]) ∧ Q w')
  (hQ : ∀ w', Q w' → w'.cell? ⟨b, 0, none⟩ = some (.int .u32 0) ∧ w'.cell? ⟨b, 1, none⟩ = some (.int .i32 1) ∧ w'.frozen? ⟨b, 0, none⟩ = false ∧ w'.frozen? ⟨b, 1, none⟩ = false) :
  Calls Tryz.prog 148 #[.pointer (some ⟨b, 0, none⟩), .func (.func 133) #[.pointer (some ⟨b, 0, none⟩)] #[]] w fun e w' => e = .returned (.tuple #[]) ∧
   ∃ w1, Q w1 ∧ w' = (w1.drew.setCell ⟨b, 0, none⟩ (.int .u32 1)).setCell ⟨b, 1, none⟩ (.int .i32 0) := by
 have hl := run_call_load (P := Tryz.prog) Tryz.func159 (by kernel_rfl) (by kernel_rfl) (by kernel_rfl) .u32 (by kernel_rfl) (w := w.setCell ⟨b, 1, none⟩ (.int .i32 1)) (a := ⟨b, 0, none⟩) (x := 0) ((World.cell?_setCell_other _ ⟨b, 1, none⟩ ⟨b, 0, none⟩ _ (by simp)).trans h0)
 have hnot : ∀ (x : Bool) (w : World), (Op.unary .not (.bool x)).run Tryz.prog w = .ok (.bool (!x)) w := fun _ _ => rfl
 go_enter_defers Tryz.func148, Tryz.ntmps148
 go_wp2_with (first | (go_at_call 160; refine (lock_free ⟨b, 1, none⟩ _ (by go_simp) (by go_simp)).mono ?_; rintro e w' ⟨rfl, rfl⟩) | (go_at_call 133; refine hb.mono ?_; rintro e w1 ⟨rfl, hq⟩) | (go_at_call 147; go_in))
 obtain ⟨q0, q1, z0, z1⟩ := hQ _ hq
 refine leaves_cons (f := 162) (args := #[.pointer (some ⟨b, 0, none⟩), .bool true]) (by simp) (by simp [go_sem]) ?_
 refine (store_deferred ⟨b, 0, none⟩ (.int .u32 0) .returning _ q0 z0).mono ?_
 rintro e u' w'' ⟨rfl, rfl, rfl⟩
 refine leaves_cons (f := 161) (args := #[.pointer (some ⟨b, 1, none⟩)]) (by simp [settle]) (by simp [go_sem]) ?_
 refine (unlock_deferred ⟨b, 1, none⟩ _ _ ?_ (by simp [z1])).mono ?_
 ·refine (World.cell?_setCell_other _ ⟨b, 0, none⟩ ⟨b, 1, none⟩ _ (by simp)).trans ?_
  rw [World.cell?_drew]
  exact q1
 rintro e u' w'' ⟨rfl, rfl, rfl⟩
 simp [Leaves, settle, results, Tryz.results148]
 exact ⟨_, hq, rfl⟩
end Go.Ab

set_option maxRecDepth 100000
namespace Go.Ab
open Go Go.RowKit Go.Proofs Go.Shelf
def escS (s : List UInt8) : List UInt8 := s.flatMap fun c => (repB c.toNat).getD [c]
def cntS (s : List UInt8) : Nat := (s.filter fun c => (repB c.toNat).isSome).length
theorem repB_len (c : Nat) (l : List UInt8) (h : repB c = some l) : l.length = 2 := by
 unfold repB at h
 cases h1 : Nat.beq c 10 <;> rw [h1] at h
 ·cases h2 : Nat.beq c 34 <;> rw [h2] at h
  ·cases h3 : Nat.beq c 92 <;> rw [h3] at h
   ·cases h
   ·cases h; rfl
  ·cases h; rfl
 ·cases h; rfl
theorem escS_len (s : List UInt8) : (escS s).length = s.length + cntS s := by
 induction s with
 | nil => rfl
 | cons c s ih =>
  have e1 : escS (c :: s) = (repB c.toNat).getD [c] ++ escS s := by simp [escS]
  have e2 : cntS (c :: s) = cntS s + if (repB c.toNat).isSome then 1 else 0 := by
   unfold cntS
   rw [List.filter_cons]
   split <;> simp
  rw [e1, List.length_append, ih, e2]
  cases hr : repB c.toNat with
  | none => simp; omega
  | some l => simp [repB_len _ _ hr]; omega
theorem escS_none (s : List UInt8) (h : cntS s = 0) : escS s = s := by
 induction s with
 | nil => rfl
 | cons c s ih =>
  unfold cntS at h
  rw [List.filter_cons] at h
  cases hr : repB c.toNat with
  | none =>
   rw [hr] at h
   simp only [Option.isSome_none, Bool.false_eq_true, if_false] at h
   have e1 : escS (c :: s) = (repB c.toNat).getD [c] ++ escS s := by simp [escS]
   rw [e1, hr, ih h]
   rfl
  | some l => rw [hr] at h; simp at h
theorem escS_append (a b : List UInt8) : escS (a ++ b) = escS a ++ escS b := by simp [escS]
theorem cntS_append (a b : List UInt8) : cntS (a ++ b) = cntS a + cntS b := by simp [cntS]
theorem hit_three (c : UInt8) : (if (repB c.toNat).isSome then 1 else 0) = (if c = 10 then 1 else 0) + (if c = 34 then 1 else 0) + if c = 92 then 1 else 0 := by
 by_cases h1 : c = 10
 ·subst h1; rfl
 by_cases h2 : c = 34
 ·subst h2; rfl
 by_cases h3 : c = 92
 ·subst h3; rfl
 have key : ∀ d : UInt8, c ≠ d → Nat.beq c.toNat d.toNat = false := fun d h => by
  cases hb : Nat.beq c.toNat d.toNat with
  | false => rfl
  | true => exact absurd (UInt8.toNat_inj.1 (Nat.eq_of_beq_eq_true hb)) h
 have k1 : Nat.beq c.toNat 10 = false := key 10 h1
 have k2 : Nat.beq c.toNat 34 = false := key 34 h2
 have k3 : Nat.beq c.toNat 92 = false := key 92 h3
 simp [repB, k1, k2, k3, h1, h2, h3]
theorem cntS_three (s : List UInt8) : Lib.countByte s 10 + Lib.countByte s 34 + Lib.countByte s 92 = cntS s := by
 induction s with
 | nil => rfl
 | cons c s ih =>
  have e2 : cntS (c :: s) = cntS s + if (repB c.toNat).isSome then 1 else 0 := by
   unfold cntS
   rw [List.filter_cons]
   split <;> simp
  rw [e2, ← ih, hit_three]
  simp only [Lib.countByte, List.count_cons, beq_iff_eq]
  omega
structure TabAt (w : World) (b : Nat) : Prop where
 no : ∀ c, c < 256 → repB c = none → w.cell? ⟨b, c, none⟩ = some (.slice none 0 0)
 yes : ∀ c l, repB c = some l → ∃ g o cap, w.cell? ⟨b, c, none⟩ = some (.slice (some ⟨g, o, none⟩) 2 cap) ∧ ∀ j x, l[j]? = some x → w.cell? ((⟨g, o, none⟩ : Addr).add j) = some (.int .u8 (x.toNat : Int))
 list : ∃ bt ot cap, w.cell? ⟨b, 256, none⟩ = some (.slice (some ⟨bt, ot, none⟩) 3 cap) ∧ w.cell? ⟨bt, ot, none⟩ = some (.string ⟨#[10]⟩) ∧ w.cell? ⟨bt, ot + 1, none⟩ = some (.string ⟨#[34]⟩) ∧ w.cell? ⟨bt, ot + 2, none⟩ = some (.string ⟨#[92]⟩)
def countRen : Go.Shelf.Ren := ⟨fun | 138 => 232 | 195 => 233 | 218 => 234 | 143 => 52 | 219 => 79 | 217 => 107 | 225 => 117 | 224 => 118 | 267 => 119 | 266 => 138 | 314 => 142 | n => n, fun | 9 => 9 | 3 => 3 | 4 => 4 | 5 => 5 | 0 => 0 | 46 => 125 | 146 => 162 | 51 => 148 | n => n, fun | 1 => 0 | n => n⟩
theorem countLays : Lays.n138 Tryz.prog countRen := by
 constructor
 all_goals first | kernel_rfl | (intro w; kernel_rfl) | skip
 all_goals constructor
 all_goals first | kernel_rfl | (intro w; kernel_rfl) | skip
 all_goals constructor
 all_goals first | kernel_rfl | (intro w; kernel_rfl)
theorem count_call (s : ByteArray) (c : UInt8) (w : World) : Calls Tryz.prog 232 #[.string s, .string ⟨#[c]⟩] w fun e w' => e = .returned (.int .i64 (Lib.countByte s.data.toList c)) ∧ w' = w := Any.strings_Count_one countLays s c w
end Go.Ab

set_option maxRecDepth 100000
namespace Go.Ab
open Go Go.RowKit Go.Proofs Go.Shelf Go.Lib
def tri3 : List UInt8 := [10, 34, 92]
def upTo (l : List UInt8) (k : Nat) : Nat := ((tri3.take k).map fun c => Lib.countByte l c).sum
theorem upTo_three (l : List UInt8) : upTo l 3 = cntS l := by rw [← cntS_three]; simp [upTo, tri3]; omega
structure Still (w wx : World) : Prop where
 heap : wx.heap = w.heap
 os : wx.os = w.os
 tape : wx.tape = w.tape
 output : wx.output = w.output
theorem Still.refl (w : World) : Still w w := ⟨rfl, rfl, rfl, rfl⟩
theorem Still.drew {w wx : World} (h : Still w wx) : Still w wx.drew := ⟨h.heap, h.os, h.tape, h.output⟩
theorem Still.below {w wx : World} (h : Still w wx) : Below w.heap.size w wx := ⟨h.os, h.tape, h.output, by rw [h.heap]; exact Nat.le_refl _, fun k _ => by rw [h.heap]⟩
theorem Still.cell {w wx : World} (h : Still w wx) {a : Addr} {v : Value} (hc : w.cell? a = some v) : wx.cell? a = some v := by
 unfold World.cell? at hc ⊢
 rw [h.heap]; exact hc
theorem upTo_le (l : List UInt8) (k : Nat) (hk : k ≤ 3) : upTo l k ≤ cntS l := by
 rw [← cntS_three]
 match k, hk with
 | 0, _ => simp [upTo, tri3]
 | 1, _ => simp [upTo, tri3]; omega
 | 2, _ => simp [upTo, tri3]
 | 3, _ => simp [upTo, tri3]; omega
theorem upTo_succ (l : List UInt8) (k : Nat) (x : UInt8) (h : tri3[k]? = some x) : upTo l (k + 1) = upTo l k + Lib.countByte l x := by
 unfold upTo
 rw [List.take_add_one, h]
 simp
theorem cntS_take (l : List UInt8) (i : Nat) (x : UInt8) (h : l[i]? = some x) : cntS (l.take (i + 1)) = cntS (l.take i) + if (repB x.toNat).isSome then 1 else 0 := by
 rw [List.take_add_one, h, cntS_append]
 congr 1
 unfold cntS
 simp only [Option.toList_some, List.filter_cons, List.filter_nil]
 split <;> simp
theorem cntS_le (l : List UInt8) : cntS l ≤ l.length := List.length_filter_le _ _
theorem buf_put {w0 wx : World} {h N : Nat} {acc : List UInt8} (x : UInt8) (hh : w0.heap.size ≤ h) (hb : Lib.Buf w0 wx h N acc) (hlt : acc.length < N) : Lib.Buf w0 (wx.setCell ⟨h, acc.length, none⟩ (.int .u8 (x.toNat : Int))) h N (acc ++ [x]) := by
 obtain ⟨b1, b2, b3, b4, b5⟩ := hb
 obtain ⟨v, hv⟩ := Option.isSome_iff_exists.1 (b2 acc.length hlt)
 have hsame : (wx.setCell ⟨h, acc.length, none⟩ (.int .u8 (x.toNat : Int))).cell? ⟨h, acc.length, none⟩ = some (.int .u8 (x.toNat : Int)) := World.cell?_setCell_same _ _ _ hv
 have hother : ∀ j, j ≠ acc.length → (wx.setCell ⟨h, acc.length, none⟩ (.int .u8 (x.toNat : Int))).cell? ⟨h, j, none⟩ = wx.cell? ⟨h, j, none⟩ := fun j hj => World.cell?_setCell_other _ _ _ _ (fun e => hj (Eq.symm (congrArg Addr.off e)))
 refine ⟨Below.setCell b1 (p := ⟨h, acc.length, none⟩) (Nat.le_refl _) _, fun j hj => ?_, fun j hj => ?_, fun j y hy => ?_, by simp; omega⟩
 ·by_cases hja : j = acc.length
  ·rw [hja, hsame]; rfl
  ·rw [hother j hja]; exact b2 j hj
 ·have := b3 j hj
  simpa using this
 ·by_cases hja : j = acc.length
  ·subst hja
   rw [List.getElem?_append_right (Nat.le_refl _)] at hy
   simp at hy
   rw [hsame, hy]
  ·rw [hother j hja]
   have hjl : j < acc.length := by
    have := (List.getElem?_eq_some_iff.1 hy).1
    simp at this; omega
   rw [List.getElem?_append_left hjl] at hy
   exact b4 j y hy
theorem escS_take (l : List UInt8) (k : Nat) (x : UInt8) (h : l[k]? = some x) : escS (l.take (k + 1)) = escS (l.take k) ++ (repB x.toNat).getD [x] := by
 rw [List.take_add_one, h, escS_append]
 simp [escS]
theorem cntS_take_le (l : List UInt8) (k : Nat) : cntS (l.take k) ≤ cntS l := by
 have := cntS_append (l.take k) (l.drop k)
 rw [List.take_append_drop] at this
 omega
theorem uBy : Tryz.prog.underlying 46 = some (.slice 5) := by kernel_rfl
theorem uBe : Tryz.prog.underlying 5 = some (.int .u8) := by kernel_rfl
theorem uBs : Tryz.prog.underlying 9 = some .string := by kernel_rfl
theorem iBy : (Tryz.prog.info? 5).map (fun i => (i.zero, i.size, i.bytes)) = some (some (.int .u8 0), 1, 1) := by kernel_rfl
theorem sBy : (Tryz.prog.info? 5).map (·.size) = some 1 := by kernel_rfl
theorem zBy : ∀ w, (Go.sizeOf 5).run Tryz.prog w = .ok 1 w := fun w => by kernel_rfl
set_option maxHeartbeats 8000000 in
theorem bsr_replace (s : ByteArray) (b : Nat) (w : World) (hs : s.size ≤ 1000000) (hT : TabAt w b) (hmix : True) :
  Calls Tryz.prog 230 #[.pointer (some ⟨b, 0, none⟩), .string s] w fun e w' => e = .returned (.string ⟨(escS s.data.toList).toArray⟩) ∧ Below w.heap.size w w' := by
 obtain ⟨l, hl⟩ : ∃ l, s.data.toList = l := ⟨_, rfl⟩
 have hsz : s.size = l.length := by rw [← hl]; exact Lib.size_eq s
 have HT : Aside (TabAt w b) := hT
 obtain ⟨bt, ot, capT, h256, hx0, hx1, hx2⟩ := hT.list
 clear hT
 have mixed := mixedO
 have hcnt := cntS_le l
 go_enter Tryz.func230, Tryz.ntmps230
 go_upto_if 26 with fail
 go_cut [5, 6] from 7 (fun s5 s6 wx => Still w wx ∧ s5 = .int .i64 ((l.length + cntS l : Nat) : Int) ∧ s6 = .bool (decide (0 < cntS l)))
 case first =>
  by_cases hbr0 : (24 : Int) ≤ (l.length : Int)
  ·have hbr := decide_eq_true hbr0
   rw [hbr]
   clear hbr0 hbr
   go_wp2_with fail
   go_loopg [5, 6, 32] 3 (fun g s5 s6 s32 wx => Still w wx ∧ ∃ k : Nat, k ≤ 3 ∧ g = 3 - k ∧ s32 = .int .i64 k ∧ s5 = .int .i64 ((l.length + upTo l k : Nat) : Int) ∧ s6 = .bool (decide (0 < upTo l k)))
   case atStart => exact ⟨Still.refl w, 0, Nat.zero_le _, rfl, rfl, by simp [upTo, tri3], by simp [upTo, tri3]⟩
   case round =>
    obtain ⟨hst, k, hk, rfl, rfl, rfl, rfl⟩ := hrel
    by_cases hk3 : k < 3
    ·obtain ⟨x, hx3, hxc⟩ : ∃ x : UInt8, tri3[k]? = some x ∧ w.cell? ⟨bt, ot + k, none⟩ = some (.string ⟨#[x]⟩) := by
      match k, hk3 with
      | 0, _ => exact ⟨10, rfl, hx0⟩
      | 1, _ => exact ⟨34, rfl, hx1⟩
      | 2, _ => exact ⟨92, rfl, hx2⟩
     obtain ⟨r, hr⟩ : ∃ r, repB x.toNat = some r := by
      match k, hk3 with
      | 0, _ => cases hx3; exact ⟨_, rfl⟩
      | 1, _ => cases hx3; exact ⟨_, rfl⟩
      | 2, _ => cases hx3; exact ⟨_, rfl⟩
     obtain ⟨gx, ox, cx, hcx, _⟩ := HT.out.yes _ _ hr
     have hxc := hst.cell hxc
     have hcx := hst.drew.cell hcx
     have hup := upTo_succ l k x hx3
     have hkz : (k : Int) < 3 := by omega
     have hx00 : ∀ h, (⟨#[x]⟩ : ByteArray)[0]'h = x := fun _ => rfl
     have hxz : (x.toNat : Int) < 256 := by have := x.toNat_lt; omega
     have hup3 : upTo l (k + 1) ≤ l.length := Nat.le_trans (upTo_le l (k + 1) (by omega)) hcnt
     have Hst : Aside (Still w wr) := hst
     clear hst
     generalize hn : Lib.countByte l x = n at hup
     by_cases hn0 : n = 0
     ·go_wp2_with (go_at_call 232; refine (count_call s x wr).mono ?_; rintro e w' ⟨rfl, rfl⟩; rw [hl, hn])
      go_roundg (3 - (k + 1))
      case measure => omega
      case rel => exact ⟨Hst.out, k + 1, by omega, rfl, by simp, by rw [hup, hn0]; simp, by rw [hup, hn0]; rfl⟩
     ·go_wp2_with (go_at_call 232; refine (count_call s x wr).mono ?_; rintro e w' ⟨rfl, rfl⟩; rw [hl, hn])
      go_region_o
      go_wp2
      go_roundg (3 - (k + 1))
      case measure => omega
      case rel => exact ⟨Hst.out.drew, k + 1, by omega, rfl, by simp, by rw [hup]; simp; omega, by rw [hup]; simp; first | done | omega⟩
    ·obtain rfl : k = 3 := by omega
     go_wp2
     go_meet
     exact ⟨hst, by rw [← upTo_three] <;> first | done | simp, by rw [← upTo_three]⟩
  ·have hbr := decide_eq_false hbr0
   rw [hbr]
   clear hbr0 hbr
   go_wp2_with fail
   go_loopg [5, 6, 10] l.length (fun g s5 s6 s10 wx => Still w wx ∧ ∃ k : Nat, k ≤ l.length ∧ g = l.length - k ∧ s10 = .int .i64 k ∧ s5 = .int .i64 ((l.length + cntS (l.take k) : Nat) : Int) ∧ s6 = .bool (decide (0 < cntS (l.take k))))
   case atStart => exact ⟨Still.refl w, 0, Nat.zero_le _, rfl, rfl, by simp [cntS], by simp [cntS]⟩
   case round =>
    obtain ⟨hst, k, hk, rfl, rfl, rfl, rfl⟩ := hrel
    by_cases hkn : k < l.length
    ·obtain ⟨x, hx⟩ : ∃ x : UInt8, s[k]'(by omega) = x := ⟨_, rfl⟩
     have hxl : l[k]? = some x := by have := Lib.data_getElem? s k (by omega); rw [hx, hl] at this; exact this
     have hup := cntS_take l k x hxl
     have hkz : (k : Int) < (l.length : Int) := by omega
     have hxz : (x.toNat : Int) < 256 := by have := x.toNat_lt; omega
     have hup3 : cntS (l.take (k + 1)) ≤ l.length := Nat.le_trans (cntS_le _) (by rw [List.length_take]; omega)
     have Hst : Aside (Still w wr) := hst
     have Hxl : Aside (l[k]? = some x) := hxl
     clear hxl
     cases hr : repB x.toNat with
     | none =>
      have hcx := hst.cell (HT.out.no x.toNat (by omega) hr)
      clear hst
      rw [hr] at hup
      go_wp2_with fail
      go_roundg (l.length - (k + 1))
      case measure => omega
      case rel => exact ⟨Hst.out, k + 1, by omega, rfl, by simp, by rw [hup]; simp, by rw [hup]; simp⟩
     | some r =>
      obtain ⟨gx, ox, cx, hcx, _⟩ := HT.out.yes _ _ hr
      have hcx := hst.cell hcx
      clear hst
      rw [hr] at hup
      go_wp2_with fail
      go_roundg (l.length - (k + 1))
      case measure => omega
      case rel => exact ⟨Hst.out, k + 1, by omega, rfl, by simp, by rw [hup]; simp <;> omega, by rw [hup]; simp⟩
    ·obtain rfl : k = l.length := by omega
     go_wp2
     go_meet
     exact ⟨hst, by first | rfl | simp, by first | rfl | simp⟩
 case rest =>
  obtain ⟨hst, rfl, rfl⟩ := hcut
  have hnot : ∀ (x : Bool) (w : World), (Op.unary .not (.bool x)).run Tryz.prog w = .ok (.bool (!x)) w := fun _ _ => rfl
  have hsl : s = ⟨l.toArray⟩ := by rw [← hl] <;> first | done | simp
  by_cases hz : cntS l = 0
  ·go_wp2_with fail
   go_ret
   refine ⟨?_, hst.below⟩
   rw [hl, escS_none l hz]
   exact congrArg (fun x => Ending.returned (Value.string x)) hsl
  ·obtain ⟨N, hN⟩ : ∃ N, l.length + cntS l = N := ⟨_, rfl⟩
   rw [hN]
   have hpos : decide (0 < cntS l) = true := decide_eq_true (by omega)
   rw [hpos]
   have hmk := run_make_row' (P := Tryz.prog) 46 5 (.int .u8 0) 1 uBy iBy rfl .i64 .i64 N (by omega) (by omega) wc
   have HB0 : Aside (Lib.Buf wc (wc.alloc (.cells (madeCells #[.int .u8 0] N) 5)) wc.heap.size N []) := Lib.Buf.start wc (madeCells #[.int .u8 0] N) 5 N 0 (by rw [size_madeCells]; exact Nat.le_refl _)
   have Hst : Aside (Still w wc) := hst
   have Hsl : Aside (s = ⟨l.toArray⟩) := hsl
   clear hst hsl h256 hx0 hx1 hx2
   go_wp2_with fail
   clear hmk
   go_loopg [13, 14] l.length (fun g s13 s14 wx => ∃ k : Nat, k ≤ l.length ∧ g = l.length - k ∧ s14 = .int .i64 k ∧ s13 = .int .i64 ((escS (l.take k)).length : Int) ∧ Aside (Lib.Buf wc wx wc.heap.size N (escS (l.take k))))
   case atStart => exact ⟨0, Nat.zero_le _, rfl, rfl, rfl, HB0⟩
   case round =>
    obtain ⟨k, hk, rfl, rfl, rfl, HB⟩ := hrel
    clear HB0
    by_cases hkn : k < l.length
    ·obtain ⟨x, hx⟩ : ∃ x : UInt8, s[k]'(by omega) = x := ⟨_, rfl⟩
     have hxl : l[k]? = some x := by have := Lib.data_getElem? s k (by omega); rw [hx, hl] at this; exact this
     have hes := escS_take l k x hxl
     have hln := escS_len (l.take (k + 1))
     have hcl := cntS_take_le l (k + 1)
     rw [List.length_take, Nat.min_eq_left (by omega)] at hln
     have hkz : (k : Int) < (l.length : Int) := by omega
     have hxz : (x.toNat : Int) < 256 := by have := x.toNat_lt; omega
     generalize hacc : escS (l.take k) = acc at hes HB ⊢
     have Hes : Aside (escS (l.take (k + 1)) = acc ++ (repB x.toNat).getD [x]) := hes
     rw [hes] at hln
     clear hes hxl hacc
     cases hr : repB x.toNat with
     | none =>
      rw [hr] at hln
      have hln : acc.length + 1 = k + 1 + cntS (l.take (k + 1)) := by simpa using hln
      have hlt : acc.length < N := by omega
      have hltz : (acc.length : Int) < (N : Int) := by omega
      have hcx := HB.out.below.cell (p := ⟨b, x.toNat, none⟩) (World.block_lt_of_cell? wc _ (Hst.out.cell (HT.out.no x.toNat (by omega) hr)))
      rw [Hst.out.cell (HT.out.no x.toNat (by omega) hr)] at hcx
      obtain ⟨v0, hv0⟩ := Option.isSome_iff_exists.1 (HB.out.there acc.length hlt)
      have hf0 := HB.out.free acc.length hlt
      have HB' : Aside (Lib.Buf wc (wr.setCell ⟨wc.heap.size, acc.length, none⟩ (.int .u8 (x.toNat : Int))) wc.heap.size N (acc ++ [x])) := buf_put x (Nat.le_refl _) HB.out hlt
      go_wp2_with fail
      go_roundg (l.length - (k + 1))
      case measure => omega
      case rel =>
       have e := Hes.out
       rw [hr] at e
       refine ⟨k + 1, by omega, rfl, by simp, by rw [e]; simp, by rw [e]; exact HB'⟩
     | some r =>
      obtain ⟨gx, ox, cx, hcx0, hrow⟩ := HT.out.yes _ _ hr
      have hr2 := repB_len _ _ hr
      rw [hr] at hln
      have hln : acc.length + 2 = k + 1 + cntS (l.take (k + 1)) := by simpa [hr2] using hln
      have hcx := HB.out.below.cell (p := ⟨b, x.toNat, none⟩) (World.block_lt_of_cell? wc _ (Hst.out.cell hcx0))
      rw [Hst.out.cell hcx0] at hcx
      have hcxd : wr.drew.cell? ⟨b, x.toNat, none⟩ = some (.slice (some ⟨gx, ox, none⟩) 2 cx) := hcx
      have hslc : ∀ W, (Instr.slice 46 (.slice (some ⟨wc.heap.size, 0, none⟩) N N) (some (.int .i64 (acc.length : Int))) none none).run Tryz.prog W = .ok (Lib.tailV wc.heap.size N acc.length) W := fun W => Lib.run_slice_tailV W 46 5 uBy zBy _ N acc.length (by omega)
      have hBd : Lib.Buf wc wr.drew wc.heap.size N acc := ⟨HB.out.below.drew, HB.out.there, HB.out.free, HB.out.holds, HB.out.fits⟩
      obtain ⟨wr', hcp, hB2⟩ := Lib.copy_part (P := Tryz.prog) wc wr.drew wc.heap.size N acc r (.slice (some ⟨gx, ox, none⟩) 2 cx) 46 3 5 uBy sBy (Nat.le_refl _) hBd ⟨some ⟨gx, ox, none⟩, cx, by rw [hr2], (fun e => by cases e), (fun a e i y hy => by cases e; exact Hst.out.cell (hrow i y hy))⟩ (by omega)
      rw [hr2] at hcp
      have HB' : Aside (Lib.Buf wc wr' wc.heap.size N (acc ++ r)) := hB2
      clear hB2 hBd hrow
      go_wp2_with fail
      go_region_o
      go_wp2_with fail
      go_roundg (l.length - (k + 1))
      case measure => omega
      case rel =>
       have e := Hes.out
       rw [hr] at e
       refine ⟨k + 1, by omega, rfl, by simp, by rw [e]; simp [hr2], by rw [e]; exact HB'⟩
    ·obtain rfl : k = l.length := by omega
     rw [List.take_length] at HB ⊢
     have hle := escS_len l
     have hNN : (escS l).length = N := by omega
     have hconv : (convert 46 9 (.slice (some ⟨wc.heap.size, 0, none⟩) N N)).run Tryz.prog wr = .ok (.string ⟨(escS l).toArray⟩) wr := by
      have := Lib.run_convert_whole (P := Tryz.prog) wr 46 5 9 uBy uBe uBs wc.heap.size 0 ⟨(escS l).toArray⟩ (fun i hi => by
       rw [Nat.zero_add]
       refine HB.out.holds i _ ?_
       have hi' : i < (escS l).length := by simpa [ByteArray.size] using hi
       rw [List.getElem?_eq_getElem hi']
       rfl) N
      rw [show (ByteArray.mk (escS l).toArray).size = N by simp [ByteArray.size]; exact hNN] at this
      exact this
     have HBb : Aside (Below wc.heap.size wc wr) := HB.out.below
     have Hhe : Aside (wc.heap.size = w.heap.size) := by show wc.heap.size = w.heap.size; rw [Hst.out.heap]
     clear HB
     go_wp2_with fail
     go_ret
     refine ⟨by rw [hl]; rfl, ?_⟩
     have h1 := HBb.out
     rw [Hhe.out] at h1
     exact Hst.out.below.trans h1
end Go.Ab

set_option maxRecDepth 100000
namespace Go.Ab
open Go Go.RowKit Go.Proofs Go.Shelf Go.Lib
abbrev aft (b : Nat) (w : World) : World := (w.drew.setCell ⟨b, 0, none⟩ (.int .u32 1)).setCell ⟨b, 1, none⟩ (.int .i32 0)
set_option maxHeartbeats 1600000 in
theorem do_once (b : Nat) (w : World) (Q : World → Prop) (h0 : w.cell? ⟨b, 0, none⟩ = some (.int .u32 0)) (h1 : w.cell? ⟨b, 1, none⟩ = some (.int .i32 0)) (f1 : w.frozen? ⟨b, 1, none⟩ = false)
  (hb : Calls Tryz.prog 133 #[.pointer (some ⟨b, 0, none⟩)] (w.setCell ⟨b, 1, none⟩ (.int .i32 1)) fun e w' => e = .returned (.tuple #[]) ∧ Q w')
  (hQ : ∀ w', Q w' → w'.cell? ⟨b, 0, none⟩ = some (.int .u32 0) ∧ w'.cell? ⟨b, 1, none⟩ = some (.int .i32 1) ∧ w'.frozen? ⟨b, 0, none⟩ = false ∧ w'.frozen? ⟨b, 1, none⟩ = false) :
  Calls Tryz.prog 132 #[.pointer (some ⟨b, 0, none⟩), .func (.func 133) #[.pointer (some ⟨b, 0, none⟩)] #[]] w fun e w' => e = .returned (.tuple #[]) ∧ ∃ w1, Q w1 ∧ w' = aft b w1 := by
 have hl := run_call_load (P := Tryz.prog) Tryz.func159 (by kernel_rfl) (by kernel_rfl) (by kernel_rfl) .u32 (by kernel_rfl) h0
 have hnot : ∀ (x : Bool) (w : World), (Op.unary .not (.bool x)).run Tryz.prog w = .ok (.bool (!x)) w := fun _ _ => rfl
 go_enter Tryz.func132, Tryz.ntmps132
 go_wp2_with (first | (go_at_call 148; refine (slow_once b w Q h0 h1 f1 hb hQ).mono ?_; rintro e w' ⟨rfl, w1, hq, rfl⟩) | (go_at_call 147; go_in))
 go_end0
 exact ⟨rfl, w1, hq, rfl⟩
set_option maxHeartbeats 1600000 in
theorem replace_walk (b : Nat) (s : ByteArray) (w : World) (Q : World → Prop) (hs : s.size ≤ 1000000) (h0 : w.cell? ⟨b, 0, none⟩ = some (.int .u32 0)) (h1 : w.cell? ⟨b, 1, none⟩ = some (.int .i32 0)) (f1 : w.frozen? ⟨b, 1, none⟩ = false)
  (hb : Calls Tryz.prog 133 #[.pointer (some ⟨b, 0, none⟩)] (w.setCell ⟨b, 1, none⟩ (.int .i32 1)) fun e w' => e = .returned (.tuple #[]) ∧ Q w')
  (hQ : ∀ w', Q w' → w'.cell? ⟨b, 0, none⟩ = some (.int .u32 0) ∧ w'.cell? ⟨b, 1, none⟩ = some (.int .i32 1) ∧ w'.frozen? ⟨b, 0, none⟩ = false ∧ w'.frozen? ⟨b, 1, none⟩ = false)
  (hR : ∀ w', Q w' → ∃ b2, (aft b w').cell? ⟨b, 3, none⟩ = some (.iface 198 (.pointer (some ⟨b2, 0, none⟩))) ∧ TabAt (aft b w') b2) :
  Calls Tryz.prog 100 #[.pointer (some ⟨b, 0, none⟩), .string s] w fun e w' => e = .returned (.string ⟨(escS s.data.toList).toArray⟩) ∧ ∃ w1, Q w1 ∧ Below (aft b w1).heap.size (aft b w1) w' := by
 have hmf : ∀ (fn : Fn) (first cap : Array Value) (w : World), (Instr.makeFunc fn first cap).run Tryz.prog w = .ok (.func fn first cap) w := fun _ _ _ _ => rfl
 go_enter Tryz.func100, Tryz.ntmps100
 go_upto_region 2 with (go_at_call 132; refine (do_once b w Q h0 h1 f1 hb hQ).mono ?_; rintro e w' ⟨rfl, w1, hq, rfl⟩)
 obtain ⟨b2, hc3, hT⟩ := hR w1 hq
 have hm : ∀ W : World, (method 373 198 (.pointer (some ⟨b2, 0, none⟩)) "Replace").run Tryz.prog W = .ok (230, .pointer (some ⟨b2, 0, none⟩)) W := fun _ => by kernel_rfl
 go_wp2_with (go_at_call 230; refine (bsr_replace s b2 _ hs hT trivial).mono ?_; rintro e w' ⟨rfl, hbl⟩)
 go_ret
 exact ⟨rfl, w1, hq, hbl⟩
end Go.Ab
