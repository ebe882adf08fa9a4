/-
  THE ORDER OF FORMS: what the reference's comparison comes to; and the statement, in plain terms.
-/
import Derived.Test.YthbkbjlfghikfaaGreatDoorZ13
import Derived.Test.YthbkbjlfghikfaaGreatDoorZ11
import Derived.Shelf.Strconv.AtoiAll
import Derived.Shelf.Strconv.Itoa3
import Derived.Lib.AppendIntMem
import Derived.Laws.Bits64b
set_option linter.unusedVariables false
set_option linter.unusedSimpArgs false
set_option maxRecDepth 100000
namespace Go.Ab
open Go Go.RowKit Go.Proofs
theorem tabCs_at (c : Nat) (h : c < 256) : tabCs[c]? = some (tabAV c) := by
 unfold tabCs
 rw [List.getElem?_append_left (by simp; exact h), List.getElem?_map, List.getElem?_range h]
 rfl
theorem tabCs_last : tabCs[256]? = some (.gs 3 5 .str 3) := by
 unfold tabCs
 rw [List.getElem?_append_right (by simp)]
 simp
theorem repB_lt (c : Nat) (l : List UInt8) (h : repB c = some l) : c < 256 := by
 unfold repB at h
 cases h1 : Nat.beq c 10 <;> rw [h1] at h
 ·cases h2 : Nat.beq c 34 <;> rw [h2] at h
  ·cases h3 : Nat.beq c 92 <;> rw [h3] at h
   ·cases h
   ·have := Nat.eq_of_beq_eq_true h3; omega
  ·have := Nat.eq_of_beq_eq_true h2; omega
 ·have := Nat.eq_of_beq_eq_true h1; omega
theorem relL_at {kn : Kn} {m : Mp} {cs : List AV} {arr : Array Value} (h : RelL kn m cs arr.toList) {i : Nat} {x : AV} (hx : cs[i]? = some x) : ∃ v, arr[i]? = some v ∧ Rel kn m x v := by
 have hi := (List.getElem?_eq_some_iff.1 hx).1
 have hi' : i < arr.size := by have := h.1; simp at this; omega
 exact ⟨arr[i], Array.getElem?_eq_getElem hi', h.2 i x _ hx (by simp [hi'])⟩
theorem tabAt_of {kn : Kn} {m : Mp} {w : World} (hk : ∀ b o v, kn b o = some v → w.cell? ⟨b, o, none⟩ = some v) {b : Nat} {arr : Array Value} {T : TypeId} (hw : w.heap[b]? = some (.cells arr T (0, 0))) (hr : RelL kn m tabCs arr.toList)
  {P : Program} {B : Base} {ty : TypeId} (h5 : ObjRel P B kn m w 5 (.tg .str ty [[10], [34], [92]])) : TabAt w b := by
 refine ⟨fun c hc hn => ?_, fun c l hl => ?_, ?_⟩
 ·obtain ⟨v, hv, hrel⟩ := relL_at hr (tabCs_at c hc)
  unfold tabAV at hrel
  rw [hn] at hrel
  have hrel : Rel kn m (.base (.slice none 0 0)) v := hrel
  cases hrel
  rw [Lib.cell_of_heap hw, hv]
 ·obtain ⟨v, hv, hrel⟩ := relL_at hr (tabCs_at c (repB_lt c l hl))
  unfold tabAV at hrel
  rw [hl] at hrel
  have hrel : Rel kn m (.tvec (.int .u8) (intsOf l)) v := hrel
  have hrel := rel_tvec.1 hrel
  have h2 := repB_len c l hl
  have hrows : (List.map (E.row (.int .u8)) (intsOf l)).length = 2 := by rw [rowsU8_len]; unfold intsOf; rw [List.length_map]; exact h2
  have hget : ∀ (j : Nat) (x : UInt8), l[j]? = some x → (List.map (E.row (.int .u8)) (intsOf l))[j]? = some [.int .u8 (x.toNat : Int)] := fun j x hx => by
   refine rowsU8_get (intsOf l) ?_
   unfold intsOf
   rw [List.getElem?_map, hx]
   rfl
  generalize List.map (E.row (.int .u8)) (intsOf l) = rows at hrel hrows hget
  have hrel : Rel kn m (.vec 1 rows) v := hrel
  cases hrel with
  | vecNil => simp at hrows
  | vecNone => simp at hrows
  | vec _ _ g o cap vals hc hm hrow hkk h h1 =>
   refine ⟨g, o, cap, by rw [Lib.cell_of_heap hw, hv, hrows], fun j x hx => ?_⟩
   have hj := hget j x hx
   have h3 := hkk j _ 0 _ hj rfl
   have h4 := h j _ 0 _ hj rfl
   generalize vals j 0 = u at h3 h4
   cases h4
   rw [addr_add]
   have := hk _ _ _ h3
   simpa using this
 ·obtain ⟨v, hv, hrel⟩ := relL_at hr tabCs_last
  obtain ⟨loc, hm, hlen, hgv⟩ := (show GvRel kn m w 5 1 ty (List.map (E.row .str) [[10], [34], [92]]) from h5)
  cases hrel with
  | gs _ _ _ _ _ locy hy hly hsl =>
   have hsl : Rel kn m (.sref 3 5 1 0 3) v := hsl
   generalize hn : (3 : Nat) = n at hsl
   cases hsl with
   | srefNil => cases hn
   | sref _ _ _ _ _ locz hz hznil hze hzl hzm =>
    subst hn
    rw [hm] at hz; cases hz
    rcases hgv with ⟨hnil, _⟩ | ⟨_, hesz, arr1, hw1, hsz, hcap, hmax, hone1, hrow, hrel1⟩
    ·rw [hnil] at hznil; cases hznil
    have hcell : ∀ (j : Nat) (x : List UInt8), [[10], [34], [92]][j]? = some x → w.cell? ⟨loc.blk, loc.off + j, none⟩ = some (.string ⟨x.toArray⟩) := fun j x hx => by
     have hj : (List.map (E.row .str) [[10], [34], [92]])[j]? = some [.str x] := by
      rw [List.getElem?_map]
      have hx' : ([[10], [34], [92]] : List (E.den .str))[j]? = some x := hx
      rw [hx']
      rfl
     have hjl : j < 3 := (List.getElem?_eq_some_iff.1 hx).1
     have hin : loc.off + j < arr1.size := by simp at hcap hsz; omega
     have hrv := hrel1 j [.str x] 0 (.str x) arr1[loc.off + j] hj rfl (by rw [Nat.mul_one, Nat.add_zero]; exact Array.getElem?_eq_getElem hin)
     rw [Lib.cell_of_heap hw1, Array.getElem?_eq_getElem hin]
     generalize arr1[loc.off + j] = u at hrv
     cases hrv
     rfl
    refine ⟨loc.blk, loc.off, loc.cap, ?_, hcell 0 [10] rfl, hcell 1 [34] rfl, hcell 2 [92] rfl⟩
    rw [Lib.cell_of_heap hw, hv]
    simp
end Go.Ab

set_option maxRecDepth 100000
namespace Go.Ab
open Go Go.RowKit Go.Proofs
theorem Inv.put {C : Cx} {B : Base} {kn : Kn} {m : Mp} {σ : Sto} {nx : Nat} {w : World} (hI : Inv C B kn m σ nx w) {p nm : Nat} {T : TypeId} {cs : List AV} {loc : Loc} (hp : σ[p]? = some (nm, .cells T cs)) (hm : m nm = some loc) (i : Nat) {x : AV} {v : Value} (hv : Rel kn m x v) (h1 : v.oneCell' = true) :
  Inv C B kn m (σ.set p (nm, .cells T (cs.set i x))) nx (w.setCell ⟨loc.blk, i, none⟩ v) := by
 have hob := hI.obj p nm _ hp
 simp only [ObjRel, hm] at hob
 obtain ⟨hnl, h0, arr, hw, hrl, hone⟩ := hob
 refine (hI.write (w' := w.setCell ⟨loc.blk, i, none⟩ v) (ob' := .cells T (cs.set i x)) hp trivial hm hnl (by simp [World.setCell]) rfl rfl rfl (fun b hb => Below.heap_setCell _ _ _ _ hb) ?_).1
 simp only [ObjRel, hm]
 refine ⟨hnl, h0, arr.setIfInBounds i v, by simp [World.setCell, Array.getElem?_modify, hw], ⟨by simp [hrl.1], fun j y u hy hu => ?_⟩, fun u hu => ?_⟩
 ·rw [Array.toList_setIfInBounds, List.getElem?_set] at hu
  rw [List.getElem?_set] at hy
  split at hy
  ·rename_i hij
   rw [if_pos hij] at hu
   split at hy
   ·split at hu
    ·cases hy; cases hu; exact hv
    ·cases hu
   ·cases hy
  ·rename_i hij
   rw [if_neg hij] at hu
   exact hrl.2 j y u hy hu
 ·rw [Array.toList_setIfInBounds] at hu
  rcases List.mem_or_eq_of_mem_set hu with h | rfl
  ·exact hone u h
  ·exact h1
theorem Inv.forgetAll {C : Cx} {B : Base} {kn : Kn} {m : Mp} {σ : Sto} {nx : Nat} {w w' : World} {g : Nat} (k : Nat) (h : Inv C B kn m σ nx w) (hs : Same w w' g) (hg : (B.w.heap.size ≤ g ∨ B.own g) ∧ ∀ o, kn g o = none) : Inv C B kn (fun n => if n < k then m n else none) [] k w' := by
 obtain ⟨h1, h2, h3, h4, h5⟩ := hs
 refine ⟨fun b o v e => ?_, Nat.le_trans h.size h1, h2.trans h.os, h3.trans h.tape, h4.trans h.output, fun b hb hob => ?_, fun p nm ob e => by simp at e, fun p nm ob loc e => by simp at e, fun p nm ob loc p' nm' ob' loc' e => by simp at e, fun n q => if_neg (by omega), fun p nm ob e => by simp at e, fun p p' nm ob ob' e => by simp at e, fun p p' nm nm' ob ob' e => by simp at e, fun g => (h.glob g).rf (C.rf g) _, h.tab⟩
 ·have hlt := h.kn_lt e
  have hne : b ≠ g := fun q => by rw [q, hg.2 o] at e; cases e
  have := h.knok b o v e
  unfold World.cell? at this ⊢
  rw [h5 b hlt hne]; exact this
 ·have hlt := Nat.lt_of_lt_of_le hb h.size
  have hne : b ≠ g := fun q => by
   subst q
   rcases hg.1 with q | q
   ·omega
   ·exact hob q
  exact ⟨(h5 b hlt hne).trans (h.old b hb hob).1, (h.old b hb hob).2⟩
theorem does_calls {P : Program} {g : FuncId} {vs : Array Value} {w : World} {post : Ending → World → Prop} (hb : bodyOK P g = true) (h : Does P g vs w post) : Calls P g vs w post := by
 rcases h with ⟨_, h⟩ | ⟨u, w', h1, _⟩
 ·exact h
 ·rw [calls_of_bodyOK hb vs w] at h1; cases h1
theorem cells_obj {C : Cx} {B : Base} {kn : Kn} {m : Mp} {σ : Sto} {nx : Nat} {w : World} (hI : Inv C B kn m σ nx w) {p nm : Nat} {T : TypeId} {cs : List AV} {loc : Loc} (hp : σ[p]? = some (nm, .cells T cs)) (hm : m nm = some loc) :
  loc.nil = false ∧ loc.off = 0 ∧ ∃ arr, w.heap[loc.blk]? = some (.cells arr T (0, 0)) ∧ RelL kn m cs arr.toList := by
 have hob := hI.obj p nm _ hp
 simp only [ObjRel, hm] at hob
 obtain ⟨hnl, h0, arr, hw, hrl, hone⟩ := hob
 exact ⟨hnl, h0, arr, hw, hrl⟩
theorem cells_at {C : Cx} {B : Base} {kn : Kn} {m : Mp} {σ : Sto} {nx : Nat} {w : World} (hI : Inv C B kn m σ nx w) {p nm : Nat} {T : TypeId} {cs : List AV} {loc : Loc} (hp : σ[p]? = some (nm, .cells T cs)) (hm : m nm = some loc) {i : Nat} {x : AV} (hx : cs[i]? = some x) :
  ∃ v, w.cell? ⟨loc.blk, i, none⟩ = some v ∧ Rel kn m x v ∧ w.frozen? ⟨loc.blk, i, none⟩ = false := by
 obtain ⟨_, _, arr, hw, hrl⟩ := cells_obj hI hp hm
 obtain ⟨v, hv, hr⟩ := relL_at hrl hx
 exact ⟨v, by rw [Lib.cell_of_heap hw, hv], hr, Lib.frozen_of_heap hw i⟩
def replF (o0 : Int × Int × Int × Unit × Unit × Unit) (o1 : List (List UInt8)) (s : List UInt8) : Option (List UInt8 × Unit) := if o0.1 = 0 ∧ o0.2.1 = 0 ∧ o1 = old6 ∧ s.length ≤ 1000000 then some (escS s, ()) else none
def S_replace : Sig := .o ⟨repO false, [.ref 0 0, .d .str], [], .d .str, fun x => replF x.2.1 x.2.2.1 x.1.2.1⟩
attribute [local irreducible] F_once F_build
theorem once_ok : OOK CX 133 ⟨repO false, [.ref 0 0], oncePost, .tup [], F_once⟩ := S_once_ok
theorem replace_over (c : Int) (s : List UInt8) (hs : s.length ≤ 1000000) (B : Base) (kn : Kn) (m : Mp) (w : World) (vs : List Value) (hI : Inv CX B kn m (osto 0 (repO false) (x6 0 0 c)) 2 w)
  (hlay : ∀ i, i < 2 → ∃ loc, m i = some loc) (hargs : RelL kn m [.ref 0 0 0, .str s] vs) : Does CX.P 100 vs.toArray w fun e w' => ∃ kn' m', KnLe kn kn' ∧ Inv CX B kn' m' [] 2 w' ∧ (∀ i, i < 2 → m' i = m i) ∧ RelOut kn' m' (.ret (.str (escS s))) e := by
 obtain ⟨loc, hm⟩ := hlay 0 (by decide)
 have hp : (osto 0 (repO false) (x6 0 0 c))[0]? = some (0, .cells 160 [.int .u32 0, .int .i32 0, .int .u32 c, .base .nilIface, .gs 1 1 .str 6]) := rfl
 obtain ⟨hnl, h0, _⟩ := cells_obj hI hp hm
 obtain ⟨v0, c0, r0, f0⟩ := cells_at hI hp hm (i := 0) rfl
 obtain ⟨v1, c1, r1, f1⟩ := cells_at hI hp hm (i := 1) rfl
 cases r0
 cases r1
 obtain ⟨va, vs1, rfl, hra, hargs⟩ := RelL.uncons hargs
 obtain ⟨vb, vs2, rfl, hrb, hargs⟩ := RelL.uncons hargs
 have : vs2 = [] := List.eq_nil_of_length_eq_zero hargs.1.symm
 subst this
 cases hrb
 have hra' := hra
 cases hra with
 | ref _ _ _ loc' hm' =>
  rw [hm] at hm'; cases hm'
  rw [h0] at hra' ⊢
  have hI1 : Inv CX B kn m (osto 0 (repO false) (x6 0 1 c)) 2 (w.setCell ⟨loc.blk, 1, none⟩ (.int .i32 1)) := hI.put hp hm 1 (x := .int .i32 1) (.int .i32 1) rfl
  obtain ⟨r', hF, hsto⟩ : ∃ r', F_once (((), ()), x6 0 1 c) = some r' ∧ osto 2 oncePost r'.2 = onceSto 0 1 c := by
   have := F_once_is 0 1 c
   obtain ⟨r', h1, h2⟩ := Option.map_eq_some_iff.1 this
   exact ⟨r', h1, h2⟩
  have hD := once_ok.2 (((), ()), x6 0 1 c) r' hF B kn m _ [.pointer (some ⟨loc.blk, 0, none⟩)] hI1 hlay (.cons hra' (.nil _ _))
  let Q : World → Prop := fun w' => ∃ kn' m', KnLe kn kn' ∧ Inv CX B kn' m' (onceSto 0 1 c) 6 w' ∧ (∀ i, i < 2 → m' i = m i) ∧ ∃ loc4, m' 4 = some loc4
  have hb : Calls Tryz.prog 133 #[.pointer (some ⟨loc.blk, 0, none⟩)] (w.setCell ⟨loc.blk, 1, none⟩ (.int .i32 1)) fun e w' => e = .returned (.tuple #[]) ∧ Q w' := by
   refine (does_calls (by kernel_rfl) hD).mono fun e w' ⟨kn', m', k1, k2, k3, k4, k5⟩ => ?_
   have k2 : Inv CX B kn' m' (osto 2 oncePost r'.2) 6 w' := k2
   rw [hsto] at k2
   obtain ⟨loc4, h4⟩ := k4 2 (by show 2 < 4; omega)
   refine ⟨?_, kn', m', k1, k2, k3, loc4, h4⟩
   have k5 : RelOut kn' m' (.ret (.tup [])) e := k5
   cases e with
   | returned u =>
    cases k5 with
    | tup _ vs hl _ =>
     have : vs = #[] := Array.eq_empty_of_size_eq_zero (by simpa using hl.symm)
     rw [this]
   | _ => exact k5.elim
  have hq0 : (onceSto 0 1 c)[0]? = some (0, .cells 160 [.int .u32 0, .int .i32 1, .int .u32 c, .iface 198 (.ref 2 4 0), .base (.slice none 0 0)]) := rfl
  have hQ : ∀ w', Q w' → w'.cell? ⟨loc.blk, 0, none⟩ = some (.int .u32 0) ∧ w'.cell? ⟨loc.blk, 1, none⟩ = some (.int .i32 1) ∧ w'.frozen? ⟨loc.blk, 0, none⟩ = false ∧ w'.frozen? ⟨loc.blk, 1, none⟩ = false := by
   rintro w' ⟨kn', m', k1, k2, km, _⟩
   have k3 := (km 0 (by omega)).trans hm
   obtain ⟨y0, d0, s0, g0⟩ := cells_at k2 hq0 k3 (i := 0) rfl
   obtain ⟨y1, d1, s1, g1⟩ := cells_at k2 hq0 k3 (i := 1) rfl
   cases s0
   cases s1
   exact ⟨d0, d1, g0, g1⟩
  have hR : ∀ w', Q w' → ∃ b2, (aft loc.blk w').cell? ⟨loc.blk, 3, none⟩ = some (.iface 198 (.pointer (some ⟨b2, 0, none⟩))) ∧ TabAt (aft loc.blk w') b2 := by
   rintro w' ⟨kn', m', k1, k2, km, loc4, k4⟩
   have k3 := (km 0 (by omega)).trans hm
   have j1 := k2.drew.put hq0 k3 0 (x := .int .u32 1) (.int .u32 1) rfl
   have hq1 : ((onceSto 0 1 c).set 0 (0, .cells 160 ([AV.int .u32 0, .int .i32 1, .int .u32 c, .iface 198 (.ref 2 4 0), .base (.slice none 0 0)].set 0 (.int .u32 1))))[0]? = some (0, .cells 160 ([AV.int .u32 0, .int .i32 1, .int .u32 c, .iface 198 (.ref 2 4 0), .base (.slice none 0 0)].set 0 (.int .u32 1))) := rfl
   have j2 := j1.put hq1 k3 1 (x := .int .i32 0) (.int .i32 0) rfl
   have j2 : Inv CX B kn' m' [(0, .cells 160 [.int .u32 1, .int .i32 0, .int .u32 c, .iface 198 (.ref 2 4 0), .base (.slice none 0 0)]), (1, .tg .str 9 old6), (4, .cells 197 tabCs), (5, .tg .str 9 [[10], [34], [92]])] 6 (aft loc.blk w') := j2
   obtain ⟨y3, d3, s3, g3⟩ := cells_at (p := 0) (nm := 0) j2 rfl k3 (i := 3) rfl
   obtain ⟨_, o4, arr4, hw4, hr4⟩ := cells_obj (p := 2) (nm := 4) j2 rfl k4
   have h5 := j2.obj 3 5 _ rfl
   cases s3 with
   | iface _ _ v hv =>
    cases hv with
    | ref _ _ _ locx hmx =>
     rw [k4] at hmx; cases hmx
     rw [o4] at d3
     exact ⟨loc4.blk, d3, tabAt_of j2.knok hw4 hr4 h5⟩
  refine .inl ⟨by kernel_rfl, ?_⟩
  refine (replace_walk loc.blk ⟨s.toArray⟩ w Q (by simpa [ByteArray.size] using hs) c0 c1 f1 hb hQ hR).mono ?_
  rintro e w' ⟨rfl, w2, ⟨kn', m', k1, k2, km, _⟩, hbl⟩
  have k3 := (km 0 (by omega)).trans hm
  obtain ⟨q1, q2, q3⟩ := k2.own 0 0 _ loc hq0 trivial k3 hnl
  obtain ⟨e1, e2, e3, e4, e5⟩ := hbl
  have hsz : (aft loc.blk w2).heap.size = w2.heap.size := by simp [aft, World.setCell]
  refine ⟨kn', _, k1, k2.forgetAll 2 (g := loc.blk) ⟨by rw [← hsz]; exact e4, e1, e2, e3, fun b hb hne => ?_⟩ ⟨q2, q3 rfl⟩, fun i hi => ?_, ?_⟩
  ·rw [e5 b (by rw [hsz]; exact hb)]
   show ((w2.drew.setCell ⟨loc.blk, 0, none⟩ (.int .u32 1)).setCell ⟨loc.blk, 1, none⟩ (.int .i32 0)).heap[b]? = _
   rw [Below.heap_setCell _ _ _ _ hne, Below.heap_setCell _ _ _ _ hne]
   rfl
  ·exact (if_pos hi).trans (km i hi)
  ·have : (ByteArray.mk s.toArray).data.toList = s := by simp
   rw [this]
   exact .str _
theorem S_replace_ok : SigOK CX 100 S_replace := by
 refine ⟨by kernel_rfl, fun x r hr B kn m w vs hI hlay hargs => ?_⟩
 have gen : ∀ (a b c : Int) (old : List (List UInt8)) (s : List UInt8) (r : List UInt8 × Unit), replF (a, b, c, (), (), ()) old s = some r → Inv CX B kn m (osto 0 (repO false) ((a, b, c, (), (), ()), old, ())) 2 w → RelL kn m [.ref 0 0 0, .str s] vs →
   Does CX.P 100 vs.toArray w fun e w' => ∃ kn' m', KnLe kn kn' ∧ Inv CX B kn' m' [] 2 w' ∧ (∀ i, i < 2 → m' i = m i) ∧ RelOut kn' m' (.ret (.str r.1)) e := fun a b c old s r hr hI hargs => by
  unfold replF at hr
  by_cases hc : a = 0 ∧ b = 0 ∧ old = old6 ∧ s.length ≤ 1000000
  ·rw [if_pos hc] at hr
   obtain ⟨ha, hb, ho, hs⟩ := hc
   subst ha hb ho
   cases hr
   exact replace_over c s hs B kn m w vs hI hlay hargs
  ·rw [if_neg hc] at hr; cases hr
 exact (gen x.2.1.1 x.2.1.2.1 x.2.1.2.2.1 x.2.2.1 x.1.2.1 r hr hI hargs).mono fun e w' ⟨kn', m', h1, h2, h3, h4⟩ => ⟨kn', m', h1, h2, h3, fun j hj => absurd hj (by show ¬ j < 0; omega), h4⟩
end Go.Ab

set_option maxRecDepth 100000
namespace Go.Ab
open Go Go.RowKit Go.Proofs Go.Shelf
def atoiRen : Go.Shelf.Ren := ⟨fun | 172 => 143 | 244 => 153 | 245 => 154 | 247 => 166 | 279 => 167 | 280 => 168 | 281 => 169 | 282 => 170 | 287 => 182 | 316 => 183 | 171 => 98 | 205 => 184 | 321 => 196 | 322 => 197 | 243 => 131 | 246 => 146 | 283 => 155 | 284 => 156 | 285 => 157 | 286 => 158 | 129 => 172 | 317 => 171 | 318 => 173 | 319 => 174 | 320 => 175 | 337 => 185 | 338 => 186 | n => n, fun | 9 => 9 | 3 => 3 | 75 => 60 | 76 => 62 | 4 => 4 | 5 => 5 | 167 => 199 | 37 => 46 | 0 => 0 | 85 => 200 | 2 => 2 | 168 => 202 | 53 => 164 | 175 => 223 | 46 => 125 | 210 => 226 | 127 => 81 | 145 => 241 | 143 => 239 | 21 => 21 | 171 => 180 | 173 => 183 | 212 => 206 | 51 => 148 | 20 => 20 | 213 => 207 | 232 => 242 | 233 => 243 | 80 => 52 | n => n, fun | 15 => 4 | 16 => 5 | 17 => 3 | 18 => 6 | 19 => 7 | n => n⟩
theorem atoiLays : LaysC.n172 Tryz.prog atoiRen := by
 constructor
 all_goals first | kernel_rfl | skip
 all_goals constructor
 all_goals first | kernel_rfl | skip
 all_goals first | constructor | (intro w; kernel_rfl)
 all_goals first | kernel_rfl | (intro w; kernel_rfl)
theorem pcall_of_calls {C : Cx} {g : FuncId} {args : List AV} {Q : AOut → Prop} (hb : bodyOK C.P g = true)
  (h : ∀ (kn : Kn) (w : World) (vs : List Value), KnOK C kn w → RelL kn m0 args vs → Calls C.P g vs.toArray w fun e w' => (∃ out, Q out ∧ RelOut kn m0 out e) ∧ Below w.heap.size w w') : PCall C g args Q := by
 intro kn w vs hk hr
 refine .inl ⟨hb, (h kn w vs hk hr).mono ?_⟩
 rintro e w' ⟨⟨out, hQ, ho⟩, hbl⟩
 refine ⟨out, kn, hQ, ho, ⟨fun b o v hv => ?_, hk.glob, fun g a e => ?_⟩, hbl, fun b _ => rfl⟩
 ·have h1 := hk.ok b o v hv
  have h2 : b < w.heap.size := World.block_lt_of_cell? w ⟨b, o, none⟩ h1
  rw [hbl.cell (p := ⟨b, o, none⟩) h2]; exact h1
 ·obtain ⟨T, z, hw⟩ := hk.tab g a e
  obtain ⟨_, _, _, _, h5⟩ := hbl
  exact ⟨T, z, (h5 g (Array.getElem?_eq_some_iff.1 hw).1).trans hw⟩
noncomputable def atoiF (s : List UInt8) : Option (Int × Bool × Unit) := if s.length ≤ 281474976710656 then (match Lib.atoiAll s with
 | .ok v => some (v, true, ())
 | .range => some (Lib.atoiSat s, false, ())
 | _ => none) else none
noncomputable def S_atoiAll : Sig := .n [.d .str] (.tup [.d (.int .i64), .d .erri]) (fun x => atoiF x.1)
theorem err_is : ∃ g, errG = some g ∧ atoiRen.g 16 = g := ⟨atoiRen.g 16, by unfold errG; kernel_rfl, rfl⟩
theorem S_atoiAll_ok' (he : ∃ g, errG = some g ∧ atoiRen.g 16 = g) : SigOK CX 143 S_atoiAll := fun x r h => by
 have h : atoiF x.1 = some r := h
 unfold atoiF at h
 split at h
 ·rename_i hl
  refine pcall_of_calls (C := CX) (by kernel_rfl) fun kn w vs hk hr => ?_
  obtain ⟨v, vs1, rfl, hv, hvs⟩ := RelL.uncons hr
  have : vs1 = [] := List.eq_nil_of_length_eq_zero hvs.1.symm
  subst this
  have hv : Rel kn m0 (.str x.1) v := hv
  cases hv
  generalize hx : Lib.atoiAll x.1 = z at h
  cases z with
  | ok n =>
   cases h
   refine (Any.strconv_Atoi_ok atoiLays ⟨x.1.toArray⟩ (Nat.le_trans (show List.length x.1 ≤ 281474976710656 from hl) (by decide)) n hx w).mono ?_
   rintro e w' ⟨rfl, hw⟩
   refine ⟨⟨_, rfl, ?_⟩, ?_⟩
   ·exact .tup _ _ rfl (fun j a b h1 h2 => by
     match j with
     | 0 => cases h1; cases h2; exact .int _ _
     | 1 => cases h1; cases h2; exact .erriNil
     | j + 2 => cases h1)
   ·rcases hw with rfl | ⟨t, rfl⟩
    ·exact Below.refl _ _
    ·exact Lib.bytesWorld_below _ _ _
  | range =>
   cases h
   obtain ⟨g, hg, hgr⟩ := he
   have hgl := hk.glob g
   have hgl : Rel kn m0 (if errG = some g then .rptr [.erri false] else .any) (.pointer (some ⟨g, 0, none⟩)) := hgl
   rw [if_pos hg] at hgl
   cases hgl with
   | rptr _ _ _ vals hkk hrr h1 =>
    have q1 := hkk 0 _ rfl
    have q2 := hrr 0 _ rfl
    generalize vals 0 = ev at q1 q2
    cases q2 with
    | erriSome te pe =>
     refine (Any.strconv_Atoi_range atoiLays ⟨x.1.toArray⟩ (show List.length x.1 ≤ 281474976710656 from hl) hx (.iface te pe) w (by rw [hgr]; exact hk.ok _ _ _ q1) (.inr ⟨te, pe, rfl⟩)).mono ?_
     rintro e w' ⟨N, rfl, _, _, hbl⟩
     refine ⟨⟨_, rfl, ?_⟩, hbl⟩
     exact .tup _ _ rfl (fun j a b h1 h2 => by
      match j with
      | 0 => cases h1; cases h2; exact .int _ _
      | 1 => cases h1; cases h2; exact .erriSome _ _
      | j + 2 => cases h1)
  | _ => cases h
 ·cases h
theorem S_atoiAll_ok : SigOK CX 143 S_atoiAll := S_atoiAll_ok' err_is
end Go.Ab

set_option maxRecDepth 100000
namespace Go.Ab
open Go Go.RowKit Go.Proofs Go.Shelf
def itoaRen : Go.Shelf.Ren := ⟨fun | 171 => 98 | 243 => 131 | 246 => 146 | 283 => 155 | 284 => 156 | 285 => 157 | 286 => 158 | 129 => 172 | 317 => 171 | 318 => 173 | 319 => 174 | 320 => 175 | 337 => 185 | 338 => 186 | n => n, fun | 3 => 3 | 9 => 9 | 2 => 2 | 4 => 4 | 171 => 180 | 0 => 0 | 53 => 164 | 37 => 46 | 5 => 5 | 173 => 183 | 212 => 206 | 51 => 148 | 20 => 20 | 213 => 207 | 46 => 125 | 232 => 242 | 233 => 243 | n => n, fun | 17 => 3 | 18 => 6 | 19 => 7 | n => n⟩
theorem itoaLays : LaysM.n171 Tryz.prog itoaRen := by
 constructor
 all_goals first | kernel_rfl | (intro w; kernel_rfl) | skip
 all_goals constructor
 all_goals first | kernel_rfl | (intro w; kernel_rfl) | skip
 all_goals constructor
 all_goals first | kernel_rfl | (intro w; kernel_rfl)
theorem powT_eq : powT = Lib.pow10Tab := rfl
theorem powT_at : ∃ g, Tryz.prog.globalNamed "internal/strconv.uint64pow10" = some g ∧ tabG g = some (powT.map fun z => Value.int .u64 z).toArray := by
 have h : (match Tryz.prog.globalNamed "internal/strconv.uint64pow10" with
  | some g => tabG g
  | none => none) = some (powT.map fun z => Value.int .u64 z).toArray := by kernel_rfl
 split at h
 ·rename_i g hg; exact ⟨g, hg, h⟩
 ·cases h
theorem tabIs_of {kn : Kn} {w : World} (hk : KnOK CX kn w) : Lib.TabIs Tryz.prog w "internal/strconv.uint64pow10" .u64 Lib.pow10Tab := by
 obtain ⟨g, hg, ht⟩ := powT_at
 obtain ⟨T, z, hw⟩ := hk.tab g _ ht
 unfold Lib.TabIs World.var?
 rw [hg]
 simp only [Option.bind_some, hw]
 rw [← powT_eq]
def itoaF (n : Int) : Option (List UInt8) := if -9223372036854775808 ≤ n ∧ n ≤ 9223372036854775807 then some (Lib.itoa n) else none
def S_itoa : Sig := .n [.d (.int .i64)] (.d .str) (fun x => itoaF x.1)
theorem S_itoa_ok : SigOK CX 98 S_itoa := fun x r h => by
 have h : itoaF x.1 = some r := h
 unfold itoaF at h
 by_cases hc : -9223372036854775808 ≤ (show Int from x.1) ∧ (show Int from x.1) ≤ 9223372036854775807
 ·rw [if_pos hc] at h
  cases h
  refine pcall_of_calls (C := CX) (by kernel_rfl) fun kn w vs hk hr => ?_
  obtain ⟨v, vs1, rfl, hv, hvs⟩ := RelL.uncons hr
  have : vs1 = [] := List.eq_nil_of_length_eq_zero hvs.1.symm
  subst this
  have hv : Rel kn m0 (.int .i64 x.1) v := hv
  cases hv
  refine (Any.strconv_Itoa itoaLays x.1 hc.1 hc.2 w (tabIs_of hk)).mono ?_
  rintro e w' ⟨rfl, k, os, rfl⟩
  exact ⟨⟨_, rfl, .str _⟩, Go.Lib.below_grow _ w (Nat.le_refl _) k os⟩
 ·rw [if_neg hc] at h; cases h
end Go.Ab

set_option maxRecDepth 100000
namespace Go.Ab
open Go Go.RowKit Go.Proofs
def badR (c : Int) : Bool := !decide (c = 10) && (decide (c < 32) || decide (126 < c))
theorem badR_call (c : Int) : PCall CX 96 [.int .i32 c] (· = .ret (.bool (badR c))) := by
 refine pcall_mk 0 13 [.tmp 2] Tryz.func96 rfl (by decide) rfl rfl rfl ?_
 refine aw_sreg {} rfl rfl fun K KP hK hP => ?_
 simp only [go_sem, ↓reduceIte]
 apply hK; clear hK hP
 by_cases c1_0 : c = 10
 ·
  refine aw_sreg {} rfl rfl fun K KP hK hP => ?_
  simp only [go_sem, ↓reduceIte, c1_0]
  apply hK; clear hK hP
  refine aw_ret ?_
  simp only [go_sem, ↓reduceIte, c1_0, athen_ret] <;> (
   simp [badR])
 ·
  by_cases c1_1 : c < 32
  ·
   refine aw_sreg {} rfl rfl fun K KP hK hP => ?_
   simp only [go_sem, ↓reduceIte, c1_0, c1_1]
   apply hK; clear hK hP
   refine aw_ret ?_
   simp only [go_sem, ↓reduceIte, c1_0, c1_1, athen_ret] <;> (
    simp [badR, c1_0, c1_1])
  ·
   refine aw_sreg {} rfl rfl fun K KP hK hP => ?_
   simp only [go_sem, ↓reduceIte, c1_0, c1_1]
   apply hK; clear hK hP
   refine aw_ret ?_
   simp only [go_sem, ↓reduceIte, c1_0, c1_1, athen_ret] <;> (
    simp [badR, c1_0, c1_1])
def idxR (p : Int → Bool) (s : List UInt8) : Nat → Nat → Int
 | 0, _ => -1
 | f + 1, pos => if pos < s.length then (if p (Utf8.decode ⟨s.toArray⟩ pos).1 = true then pos else idxR p s f (pos + (Utf8.decode ⟨s.toArray⟩ pos).2)) else -1
theorem decode_wide (b : ByteArray) (i : Nat) : 1 ≤ (Utf8.decode b i).2 := by
 unfold Utf8.decode
 simp only
 repeat' split
 all_goals simp
theorem indexFunc_call (p : Int → Bool) (g : FuncId) (hg : ∀ c, PCall CX g [.int .i32 c] (· = .ret (.bool (p c)))) (s : List UInt8) : PCall CX 145 [.str s, .fn (.func g) [] [], .bool true] (· = .ret (.int .i64 (idxR p s (s.length + 1) 0))) := by
 refine pcall_mk 0 21 [.tmp 6] Tryz.func145 rfl (by decide) rfl rfl rfl ?_
 refine aw_sreg {} rfl rfl fun K KP hK hP => ?_
 simp only [go_sem, ↓reduceIte]
 apply hK; clear hK hP
 refine aw_seq ?_
 refine aw_sreg {} rfl rfl fun K KP hK hP => ?_
 simp only [go_sem, ↓reduceIte]
 apply hK; clear hK hP
 refine aw_block ?_
 refine aw_loop' (fun dd st => ∃ (pos f : Nat), (s.length < pos + f) ∧ (idxR p s f pos = idxR p s (s.length + 1) 0) ∧ f = dd ∧ [(0, .siter s pos)] = st.σ ∧ st.env 0 = .str s ∧ st.env 1 = .fn (.func g) [] [] ∧ st.env 2 = .bool true ∧ st.env 10 = .ref 0 0 0) (fun dd st hJ => ?_) ?_
 ·
  obtain ⟨env0, σ0, nx0⟩ := st
  obtain ⟨pos, f, hp0_0, hp0_1, hd0, hs0, e0_0, e0_1, e0_2, e0_10⟩ := hJ
  dsimp only at hs0  e0_0 e0_1 e0_2 e0_10
  subst hd0; subst hs0
  refine aw_forget' 1 rfl ?_
  by_cases c2 : pos < s.length
  ·
   refine aw_sreg {} rfl rfl fun K KP hK hP => ?_
   simp only [go_sem, ↓reduceIte, e0_0, e0_1, e0_2, e0_10, c2]
   apply hK; clear hK hP
   refine aw_seq ?_
   refine aw_if (True) (by simp only [go_sem, ↓reduceIte, e0_0, e0_1, e0_2, e0_10, c2]) (fun h2 => ?_) (fun h2 => ?_)
   ·
    refine aw_skip ?_
    refine athen_normal.2 ?_
    refine aw_block ?_
    refine aw_sreg {} rfl rfl fun K KP hK hP => ?_
    simp only [go_sem, ↓reduceIte, e0_0, e0_1, e0_2, e0_10, c2]
    apply hK; clear hK hP
    refine aw_sreg {} rfl rfl fun K KP hK hP => ?_
    simp only [go_sem, ↓reduceIte, e0_0, e0_1, e0_2, e0_10, c2]
    refine CallP.ret (hg _) (by simp only [go_sem]) ?_
    try simp only [go_sem, ↓reduceIte, e0_0, e0_1, e0_2, e0_10, c2]
    apply hK; clear hK hP
    refine aw_if (p (Utf8.decode ⟨s.toArray⟩ pos).1 = true) (by simp only [go_sem, ↓reduceIte, e0_0, e0_1, e0_2, e0_10, c2]) (fun h4 => ?_) (fun h4 => ?_)
    ·
     refine aw_sreg {} rfl rfl fun K KP hK hP => ?_
     simp only [go_sem, ↓reduceIte, e0_0, e0_1, e0_2, e0_10, c2]
     apply hK; clear hK hP
     refine aw_ret ?_
     refine ablock_ret.2 ?_
     refine afor_one ?_
     refine athen_ret.2 ?_
     refine ablock_ret.2 ?_
     refine athen_ret.2 ?_
     simp only [go_sem, ↓reduceIte, e0_0, e0_1, e0_2, e0_10, c2, athen_ret] <;> (
      rw [← hp0_1]
      cases f with
      | zero => omega
      | succ f => simp only [idxR, c2, if_true, h4])
    ·
     refine aw_skip ?_
     refine ablock_normal.2 ?_
     refine afor_one ?_
     refine athen_normal.2 ?_
     refine ⟨_, ?_, (pos + (Utf8.decode ⟨s.toArray⟩ pos).2), (f - 1), ?_, ?_, rfl, rfl, ?_, ?_, ?_, ?_⟩
     ·have := decode_wide ⟨s.toArray⟩ pos
      omega
     ·have := decode_wide ⟨s.toArray⟩ pos
      omega
     ·rw [← hp0_1]
      cases f with
      | zero => omega
      | succ f => simp only [idxR, c2, if_true, h4, Nat.add_sub_cancel, if_false]; rfl
     ·simp only [go_sem, ↓reduceIte, e0_0, e0_1, e0_2, e0_10, c2] <;> try rfl
     ·simp only [go_sem, ↓reduceIte, e0_0, e0_1, e0_2, e0_10, c2] <;> try rfl
     ·simp only [go_sem, ↓reduceIte, e0_0, e0_1, e0_2, e0_10, c2] <;> try rfl
     ·simp only [go_sem, ↓reduceIte, e0_0, e0_1, e0_2, e0_10, c2] <;> try rfl
   ·
    exact absurd trivial h2
  ·
   refine aw_sreg {} rfl rfl fun K KP hK hP => ?_
   simp only [go_sem, ↓reduceIte, e0_0, e0_1, e0_2, e0_10, c2]
   apply hK; clear hK hP
   refine aw_seq ?_
   refine aw_if (False) (by simp only [go_sem, ↓reduceIte, e0_0, e0_1, e0_2, e0_10, c2]) (fun h2 => ?_) (fun h2 => ?_)
   ·
    exact h2.elim
   ·
    refine aw_exit ?_
    refine athen_exit.2 ?_
    refine afor_one ?_
    refine athen_exit.2 ?_
    refine ablock_here ?_
    refine athen_normal.2 ?_
    refine aw_sreg {} rfl rfl fun K KP hK hP => ?_
    simp only [go_sem, ↓reduceIte, e0_0, e0_1, e0_2, e0_10, c2]
    apply hK; clear hK hP
    refine aw_ret ?_
    simp only [go_sem, ↓reduceIte, e0_0, e0_1, e0_2, e0_10, c2, athen_ret] <;> (
     rw [← hp0_1]
     cases f with
     | zero => rfl
     | succ f => simp only [idxR, c2, if_false])
 ·
  refine ⟨_, 0, s.length + 1, ?_, ?_, rfl, ?_, ?_, ?_, ?_, ?_⟩
  ·first | omega | trivial | assumption
  ·first | omega | trivial | assumption
  ·first | rfl | (simp only [go_sem, ↓reduceIte])
  ·simp only [go_sem, ↓reduceIte] <;> try rfl
  ·simp only [go_sem, ↓reduceIte] <;> try rfl
  ·simp only [go_sem, ↓reduceIte] <;> try rfl
  ·simp only [go_sem, ↓reduceIte] <;> try rfl
theorem indexFunc2_call (p : Int → Bool) (g : FuncId) (hg : ∀ c, PCall CX g [.int .i32 c] (· = .ret (.bool (p c)))) (s : List UInt8) : PCall CX 130 [.str s, .fn (.func g) [] []] (· = .ret (.int .i64 (idxR p s (s.length + 1) 0))) := by
 refine pcall_mk 0 8 [.tmp 4] Tryz.func130 rfl (by decide) rfl rfl rfl ?_
 refine aw_sreg {} rfl rfl fun K KP hK hP => ?_
 simp only [go_sem, ↓reduceIte]
 apply hK; clear hK hP
 refine aw_sreg {} rfl rfl fun K KP hK hP => ?_
 simp only [go_sem, ↓reduceIte]
 refine CallP.ret (indexFunc_call p g hg s) (by simp only [go_sem]) ?_
 try simp only [go_sem, ↓reduceIte]
 apply hK; clear hK hP
 refine aw_ret ?_
 simp only [go_sem, ↓reduceIte, athen_ret]
theorem containsFunc_call (p : Int → Bool) (g : FuncId) (hg : ∀ c, PCall CX g [.int .i32 c] (· = .ret (.bool (p c)))) (s : List UInt8) : PCall CX 97 [.str s, .fn (.func g) [] []] (· = .ret (.bool (decide (0 ≤ idxR p s (s.length + 1) 0)))) := by
 refine pcall_mk 0 9 [.tmp 4] Tryz.func97 rfl (by decide) rfl rfl rfl ?_
 refine aw_sreg {} rfl rfl fun K KP hK hP => ?_
 simp only [go_sem, ↓reduceIte]
 apply hK; clear hK hP
 refine aw_sreg {} rfl rfl fun K KP hK hP => ?_
 simp only [go_sem, ↓reduceIte]
 refine CallP.ret (indexFunc2_call p g hg s) (by simp only [go_sem]) ?_
 try simp only [go_sem, ↓reduceIte]
 apply hK; clear hK hP
 refine aw_ret ?_
 simp only [go_sem, ↓reduceIte, athen_ret]
def badT (t : List UInt8) : Bool := decide (0 ≤ idxR badR t (t.length + 1) 0)
noncomputable def S_containsBad : Sig := .n [.d .str, .c (.fn (.func 96) [] [])] (.d .bool) (fun x => some (badT x.1))
theorem S_containsBad_ok : SigOK CX 97 S_containsBad := fun x r h => by cases h; exact containsFunc_call badR _ badR_call x.1
end Go.Ab

set_option maxRecDepth 100000
namespace Go.Ab
open Go Go.RowKit Go.Proofs
noncomputable def G_leaf (x0 : Fm) : Option (Bool) := (
 Option.bind (α := Step ((Unit) × (Unit)) (Bool))
 (cond (decide (x0.k = 0)) (some (Step.done (cond (cond (cond (decide (x0.t = [])) (decide ((x0.l.length : Int) = 0)) false) (decide (x0.n ≥ (-1152921504606846976))) false) (decide (x0.n ≤ 1152921504606846976)) false))) (cond (decide (x0.k = 1)) (Option.bind (α := Bool) (cond (cond (!decide (x0.t = [])) (decide ((x0.t.length : Int) ≤ 30)) false) (numericF (x0.t)) (some false)) fun r1 => (
 Option.bind (α := ((Int × Int × (List UInt8) × (List Fm) × Unit) × Bool × Unit) × (Unit))
 (loopM (L := ((Int × Int × (List UInt8) × (List Fm) × Unit) × Bool × Int × Unit) × (Unit)) (R := ((Int × Int × (List UInt8) × (List Fm) × Unit) × Bool × Unit) × (Unit)) (fun d2 => (
 let v3_3 := d2.1.2.1
 let v4_4 := d2.1.2.2.1
 cond (cond (decide (v4_4 < (d2.1.1.2.2.1.length : Int))) v3_3 false) (cond (ixOK v4_4 d2.1.1.2.2.1.length) (Option.bind (α := Bool) (outsideF (byteAt d2.1.1.2.2.1 v4_4)) fun r5 => (
 some (Step.next (((d2.1.1.1, d2.1.1.2.1, d2.1.1.2.2.1, d2.1.1.2.2.2.1, ()), !r5, IntKind.wrap .i64 (v4_4 + 1), ()), ())))) none) (some (Step.done (((d2.1.1.1, d2.1.1.2.1, d2.1.1.2.2.1, d2.1.1.2.2.2.1, ()), v3_3, ()), ()))))) (((x0.k, x0.n, x0.t, x0.l, ()), cond (cond (!decide (x0.t = [])) (decide ((x0.t.length : Int) ≤ 30)) false) (!r1) false, 0, ()), ())) fun d6 => (
 let v3_7 := d6.1.2.1
 some (Step.done (cond (cond v3_7 (decide (d6.1.1.2.1 = 0)) false) (decide ((d6.1.1.2.2.2.1.length : Int) = 0)) false))))) (cond (decide (x0.k = 2)) (Option.bind (α := Bool) (cond (decide ((x0.t.length : Int) ≤ 2000)) (some (badT (x0.t))) (some false)) fun r8 => (
 some (Step.done (cond (cond (cond (decide ((x0.t.length : Int) ≤ 2000)) (!r8) false) (decide (x0.n = 0)) false) (decide ((x0.l.length : Int) = 0)) false)))) (cond (decide (x0.k = 3)) (some (Step.done (cond (decide (x0.t = [])) (decide (x0.n = 0)) false))) (some (Step.next ((), ()))))))) fun qd9 => match qd9 with
 | .next d9 => (
 some false)
 | .done r => some r)
def A_leaf : An := .seq (.leaf) (.join true { env := [], objs := [] } (.seq (.leaf) (.block (.seq (.leaf) (.cond (.leaf) (.seq (.leaf) (.cond (.seq (.leaf) (.join false { env := [(1, (.rptr [(.d (.int .i64)), (.d (.int .i64)), (.d .str), (.d (.slice .form))])), (3, (.d .bool))], objs := [] } (.seq (.leaf) (.block (.loop { env := [(1, (.rptr [(.d (.int .i64)), (.d (.int .i64)), (.d .str), (.d (.slice .form))])), (3, (.d .bool)), (4, (.d (.int .i64)))], objs := [] } (.leaf)))) (.leaf))) (.leaf))))))) (.leaf))
def H_leaf : Nat → RH := fun _ => {}
noncomputable def S_leaf : Sig := .n [(.d .form)] (.d .bool) (fun x => G_leaf x.1)
theorem S_leaf_ok : SigOK CX 64 S_leaf := sigN_of (l := [(94, S_numeric), (95, S_outside), (97, S_containsBad)]) ⟨S_numeric_ok, S_outside_ok, S_containsBad_ok, trivial⟩ (hint := H_leaf) (an := A_leaf) (fun x => by kernel_rfl)
noncomputable def G_valid (k : Nat) (x0 : Fm) (x2 : Int) (o0 : Int × Unit) : Option ((Bool) × ((Int × Unit) × Unit)) := match k with
| 0 => none
| k + 1 => (
 Option.bind (α := Bool) (cond (!(cond (decide (IntKind.wrap .i64 (o0.1 - 1) < 0)) true (decide (x2 = 0)))) (G_leaf (Fm.eta x0)) (some false)) fun r1 => (
 cond (cond (cond (decide (IntKind.wrap .i64 (o0.1 - 1) < 0)) true (decide (x2 = 0))) true (!r1)) (some (false, ((IntKind.wrap .i64 (o0.1 - 1), ()), ()))) (Option.bind (α := Step ((Unit) × ((Int × Unit) × Unit)) ((Bool) × ((Int × Unit) × Unit)))
 (loopM (L := (Unit × Int × (List Fm) × Int × Int × Unit) × ((Int × Unit) × Unit)) (R := Step ((Unit) × ((Int × Unit) × Unit)) ((Bool) × ((Int × Unit) × Unit))) (fun d2 => (
 let c3 := d2.2.1.1
 let v2_4 := d2.1.2.1
 let v28_5 := d2.1.2.2.1
 let v29_6 := d2.1.2.2.2.1
 let v30_7 := d2.1.2.2.2.2.1
 cond (decide (v30_7 < v29_6)) (cond (ixOK v30_7 v28_5.length) (Option.bind (α := (Bool) × ((Int × Unit) × Unit)) (G_valid k (Fm.eta (v28_5.getD v30_7.toNat (Fm.mk 0 0 [] []))) (IntKind.wrap .i64 (v2_4 - 1)) (c3, ())) fun r8 => (
 cond (!r8.1) (some (Step.done (Step.done (false, ((r8.2.1.1, ()), ()))))) (some (Step.next (((), v2_4, v28_5, v29_6, IntKind.wrap .i64 (v30_7 + 1), ()), ((r8.2.1.1, ()), ())))))) none) (some (Step.done (Step.next ((), ((c3, ()), ()))))))) (((), x2, x0.l, (x0.l.length : Int), 0, ()), ((IntKind.wrap .i64 (o0.1 - 1), ()), ()))) fun qd9 => match qd9 with
 | .next d9 => (
 let c10 := d9.2.1.1
 some (true, ((c10, ()), ())))
 | .done r => some r)))
def A_valid : An := .seq (.leaf) (.seq (.leaf) (.seq (.leaf) (.join true { env := [], objs := [(true, .cells 3 [(.d (.int .i64))])] } (.seq (.leaf) (.block (.loop { env := [(1, (.ref 0 0)), (2, (.d (.int .i64))), (28, (.d (.slice .form))), (29, (.d (.int .i64))), (30, (.d (.int .i64)))], objs := [(true, .cells 3 [(.d (.int .i64))])] } (.leaf)))) (.leaf))))
def H_valid : Nat → RH := fun r => match r with
 | 7 => { H := { ac := [38] } }
 | _ => {}
noncomputable def S_valid (k : Nat) : Sig := .o { pre := [(false, .cells 3 [(.d (.int .i64))])], args := [(.d .form), (.ref 0 0), (.d (.int .i64))], post := [(true, .cells 3 [(.d (.int .i64))])], res := (.d .bool), f := fun x => G_valid k x.1.1 x.1.2.2.1 x.2.1 }
theorem S_valid_ok : ∀ k, SigOK CX 40 (S_valid k)
| 0 => ⟨by kernel_rfl, fun x r h => by cases h⟩
| k + 1 => by
 have ih := S_valid_ok k
 exact sigO_of (l := [(64, S_leaf), (40, (S_valid k))]) ⟨S_leaf_ok, ih, trivial⟩ (hint := H_valid) (an := A_valid) (by kernel_rfl) (fun x => by kernel_rfl)
noncomputable def L_valid (x0 : Fm) (x2 : Int) (o0 : Int × Unit) : Option ((Bool) × ((Int × Unit) × Unit)) := limF fun k => G_valid k x0 x2 o0
noncomputable def S_valid_l : Sig := .o { pre := [(false, .cells 3 [(.d (.int .i64))])], args := [(.d .form), (.ref 0 0), (.d (.int .i64))], post := [(true, .cells 3 [(.d (.int .i64))])], res := (.d .bool), f := fun x => L_valid x.1.1 x.1.2.2.1 x.2.1 }
theorem S_valid_l_ok : SigOK CX 40 S_valid_l := SigOK.limO S_valid_ok fun x r h => limF_ex h
noncomputable def G_rvalid (x0 : Fm) : Option (Bool) := (
 Option.bind (α := (Bool) × ((Int × Unit) × Unit)) (L_valid (Fm.eta x0) 100 (20000, ())) fun r1 => (
 some r1.1))
def A_rvalid : An := .leaf
def H_rvalid : Nat → RH := fun r => match r with
 | 2 => { H := { ac := [5] } }
 | _ => {}
noncomputable def S_rvalid : Sig := .n [(.d .form)] (.d .bool) (fun x => G_rvalid x.1)
theorem S_rvalid_ok : SigOK CX 24 S_rvalid := sigN_of (l := [(40, S_valid_l)]) ⟨S_valid_l_ok, trivial⟩ (hint := H_rvalid) (an := A_rvalid) (fun x => by kernel_rfl)
end Go.Ab

set_option maxRecDepth 100000
namespace Go.Ab
open Go Go.RowKit Go.Proofs
noncomputable def G_bldStr (x1 : List UInt8) (o0 : Bool × Unit × Unit) (o1 : List Int) : Option ((Int × Bool × Unit) × ((Bool × Unit × Unit) × (List Int) × Unit)) := (
 Option.bind (α := (Unit) × ((Bool × Unit × Unit) × (List Int) × Unit)) (some ((), ((true, (), ()), o1, ()))) fun r1 => (
 cond (decide ((r1.2.2.1.length + (x1.map fun b => (b.toNat : Int)).length) * 1 ≤ 140737488355328)) (some (((x1.length : Int), true, ()), ((r1.2.1.1, (), ()), r1.2.2.1 ++ (x1.map fun b => (b.toNat : Int)), ()))) none))
def A_bldStr : An := .leaf
def H_bldStr : Nat → RH := fun r => match r with
 | 1 => { H := { ac := [7] } }
 | 2 => { H := { ty := [(14, (.int .u8))] } }
 | _ => {}
noncomputable def S_bldStr : Sig := .o { pre := [(false, .cells 48 [(.mref 0 0), (.gs 1 (.int .u8))]), (false, .tg (.int .u8) 5)], args := [(.ref 0 0), (.d .str)], post := [(true, .cells 48 [(.mref 0 0), (.gs 1 (.int .u8))]), (false, .tg (.int .u8) 5)], res := (.tup [(.d (.int .i64)), (.d .erri)]), f := fun x => G_bldStr x.1.2.1 x.2.1 x.2.2.1 }
theorem S_bldStr_ok : SigOK CX 31 S_bldStr := sigO_of (l := [(51, S_copyCheck)]) ⟨S_copyCheck_ok, trivial⟩ (hint := H_bldStr) (an := A_bldStr) (by kernel_rfl) (fun x => by kernel_rfl)
noncomputable def G_write (k : Nat) (x1 : Fm) (o0 : Bool × Unit × Unit) (o1 : List Int) : Option ((Unit) × ((Bool × Unit × Unit) × (List Int) × Unit)) := match k with
| 0 => none
| k + 1 => (
 cond (decide (x1.k = 0)) (Option.bind (α := List UInt8) (itoaF (x1.n)) fun r1 => (
 Option.bind (α := (Int × Bool × Unit) × ((Bool × Unit × Unit) × (List Int) × Unit)) (G_bldStr r1 (o0.1, (), ()) o1) fun r2 => (
 some ((), ((r2.2.1.1, (), ()), r2.2.2.1, ()))))) (cond (decide (x1.k = 1)) (Option.bind (α := (Int × Bool × Unit) × ((Bool × Unit × Unit) × (List Int) × Unit)) (G_bldStr x1.t (o0.1, (), ()) o1) fun r3 => (
 some ((), ((r3.2.1.1, (), ()), r3.2.2.1, ())))) (cond (decide (x1.k = 2)) (Option.bind (α := (Bool) × ((Bool × Unit × Unit) × (List Int) × Unit)) (G_bldByte 34 (o0.1, (), ()) o1) fun r4 => (
 Option.bind (α := (Unit) × ((Int × Int × Int × Unit × Unit × Unit) × (List (List UInt8)) × Unit)) (G_newRep ([[92], [92, 92], [34], [92, 34], [10], [92, 110]])) fun r5 => (
 Option.bind (α := (List UInt8) × (Unit)) (replF ((r5.2.1.1, r5.2.1.2.1, r5.2.1.2.2.1, (), (), ())) (r5.2.2.1) (x1.t)) fun r6 => (
 Option.bind (α := (Int × Bool × Unit) × ((Bool × Unit × Unit) × (List Int) × Unit)) (G_bldStr r6.1 (r4.2.1.1, (), ()) r4.2.2.1) fun r7 => (
 Option.bind (α := (Bool) × ((Bool × Unit × Unit) × (List Int) × Unit)) (G_bldByte 34 (r7.2.1.1, (), ()) r7.2.2.1) fun r8 => (
 some ((), ((r8.2.1.1, (), ()), r8.2.2.1, ())))))))) (Option.bind (α := (Bool) × ((Bool × Unit × Unit) × (List Int) × Unit)) (G_bldByte 40 (o0.1, (), ()) o1) fun r9 => (
 Option.bind (α := (Unit × Unit) × ((Bool × Unit × Unit) × (List Int) × Unit))
 (loopM (L := (Unit × (List Fm) × Int × Int × Unit) × ((Bool × Unit × Unit) × (List Int) × Unit)) (R := (Unit × Unit) × ((Bool × Unit × Unit) × (List Int) × Unit)) (fun d10 => (
 let l11 := d10.2.2.1
 let v11_12 := d10.1.2.1
 let v12_13 := d10.1.2.2.1
 let v13_14 := d10.1.2.2.2.1
 cond (decide (v13_14 < v12_13)) (cond (ixOK v13_14 v11_12.length) (Option.bind (α := (Unit × Unit × (List Fm) × Int × Int × Unit) × ((Bool × Unit × Unit) × (Int × Int × (List UInt8) × (List Fm) × Unit) × (List Int) × Unit))
 (cond (decide (v13_14 > 0)) (Option.bind (α := (Bool) × ((Bool × Unit × Unit) × (List Int) × Unit)) (G_bldByte 32 (d10.2.1.1, (), ()) l11) fun r15 => (
 some (((), (), v11_12, v12_13, v13_14, ()), ((r15.2.1.1, (), ()), ((v11_12.getD v13_14.toNat (Fm.mk 0 0 [] [])).k, (v11_12.getD v13_14.toNat (Fm.mk 0 0 [] [])).n, (v11_12.getD v13_14.toNat (Fm.mk 0 0 [] [])).t, (v11_12.getD v13_14.toNat (Fm.mk 0 0 [] [])).l, ()), r15.2.2.1, ())))) (some (((), (), v11_12, v12_13, v13_14, ()), ((d10.2.1.1, (), ()), ((v11_12.getD v13_14.toNat (Fm.mk 0 0 [] [])).k, (v11_12.getD v13_14.toNat (Fm.mk 0 0 [] [])).n, (v11_12.getD v13_14.toNat (Fm.mk 0 0 [] [])).t, (v11_12.getD v13_14.toNat (Fm.mk 0 0 [] [])).l, ()), l11, ())))) fun d16 => (
 let c17 := d16.2.2.1.1
 let c18 := d16.2.2.1.2.1
 let c19 := d16.2.2.1.2.2.1
 let c20 := d16.2.2.1.2.2.2.1
 let l21 := d16.2.2.2.1
 let v11_22 := d16.1.2.2.1
 let v12_23 := d16.1.2.2.2.1
 let v13_24 := d16.1.2.2.2.2.1
 Option.bind (α := (Unit) × ((Bool × Unit × Unit) × (List Int) × Unit)) (G_write k (Fm.mk c17 c18 c19 c20) (d16.2.1.1, (), ()) l21) fun r25 => (
 some (Step.next (((), v11_22, v12_23, IntKind.wrap .i64 (v13_24 + 1), ()), ((r25.2.1.1, (), ()), r25.2.2.1, ())))))) none) (some (Step.done (((), ()), ((d10.2.1.1, (), ()), l11, ())))))) (((), x1.l, (x1.l.length : Int), 0, ()), ((r9.2.1.1, (), ()), r9.2.2.1, ()))) fun d26 => (
 let l27 := d26.2.2.1
 Option.bind (α := (Bool) × ((Bool × Unit × Unit) × (List Int) × Unit)) (G_bldByte 41 (d26.2.1.1, (), ()) l27) fun r28 => (
 some ((), ((r28.2.1.1, (), ()), r28.2.2.1, ())))))))))
def A_write : An := .seq (.leaf) (.seq (.leaf) (.block (.seq (.leaf) (.cond (.leaf) (.seq (.leaf) (.cond (.leaf) (.seq (.leaf) (.cond (.leaf) (.seq (.leaf) (.join false { env := [(0, (.ref 0 0))], objs := [(true, .cells 48 [(.mref 0 0), (.gs 1 (.int .u8))]), (false, .tg (.int .u8) 5)] } (.seq (.leaf) (.block (.loop { env := [(0, (.ref 0 0)), (11, (.d (.slice .form))), (12, (.d (.int .i64))), (13, (.d (.int .i64)))], objs := [(true, .cells 48 [(.mref 0 0), (.gs 1 (.int .u8))]), (false, .tg (.int .u8) 5)] } (.seq (.leaf) (.seq (.leaf) (.seq (.block (.seq (.leaf) (.join false { env := [(0, (.ref 0 0)), (5, (.ref 1 0)), (11, (.d (.slice .form))), (12, (.d (.int .i64))), (13, (.d (.int .i64)))], objs := [(true, .cells 48 [(.mref 0 0), (.gs 2 (.int .u8))]), (false, .cells 24 [(.d (.int .i64)), (.d (.int .i64)), (.d .str), (.d (.slice .form))]), (false, .tg (.int .u8) 5)] } (.leaf) (.leaf)))) (.leaf))))))) (.leaf)))))))))))
def H_write : Nat → RH := fun r => match r with
 | 2 => { H := { ac := [9] } }
 | 7 => { H := { ac := [21] } }
 | 8 => { H := { ac := [24] } }
 | 10 => { H := { ac := [27] } }
 | 12 => { H := { ac := [34] } }
 | 14 => { H := { ac := [40] } }
 | 16 => { H := { ac := [44] } }
 | 17 => { H := { ac := [47, 50, 51], pl := [49] } }
 | 18 => { H := { ac := [53] } }
 | _ => {}
noncomputable def S_write (k : Nat) : Sig := .o { pre := [(false, .cells 48 [(.mref 0 0), (.gs 1 (.int .u8))]), (false, .tg (.int .u8) 5)], args := [(.ref 0 0), (.d .form)], post := [(true, .cells 48 [(.mref 0 0), (.gs 1 (.int .u8))]), (false, .tg (.int .u8) 5)], res := (.tup []), f := fun x => G_write k x.1.2.1 x.2.1 x.2.2.1 }
theorem S_write_ok : ∀ k, SigOK CX 65 (S_write k)
| 0 => ⟨by kernel_rfl, fun x r h => by cases h⟩
| k + 1 => by
 have ih := S_write_ok k
 exact sigO_of (l := [(98, S_itoa), (31, S_bldStr), (30, S_bldByte), (99, S_newRep), (100, S_replace), (65, (S_write k))]) ⟨S_itoa_ok, S_bldStr_ok, S_bldByte_ok, S_newRep_ok, S_replace_ok, ih, trivial⟩ (hint := H_write) (an := A_write) (by kernel_rfl) (fun x => by kernel_rfl)
noncomputable def L_write (x1 : Fm) (o0 : Bool × Unit × Unit) (o1 : List Int) : Option ((Unit) × ((Bool × Unit × Unit) × (List Int) × Unit)) := limF fun k => G_write k x1 o0 o1
noncomputable def S_write_l : Sig := .o { pre := [(false, .cells 48 [(.mref 0 0), (.gs 1 (.int .u8))]), (false, .tg (.int .u8) 5)], args := [(.ref 0 0), (.d .form)], post := [(true, .cells 48 [(.mref 0 0), (.gs 1 (.int .u8))]), (false, .tg (.int .u8) 5)], res := (.tup []), f := fun x => L_write x.1.2.1 x.2.1 x.2.2.1 }
theorem S_write_l_ok : SigOK CX 65 S_write_l := SigOK.limO S_write_ok fun x r h => limF_ex h
noncomputable def G_rWrite (x0 : Fm) : Option (List UInt8) := (
 Option.bind (α := Bool) (G_rvalid (Fm.eta x0)) fun r1 => (
 cond (!r1) (some ([])) (Option.bind (α := (Unit) × ((Bool × Unit × Unit) × (List Int) × Unit)) (L_write (Fm.eta x0) (false, (), ()) ([] : List Int)) fun r2 => (
 Option.bind (α := (List UInt8) × (Unit)) (Option.map (fun s => (s, ())) (bytesOf (r2.2.2.1))) fun r3 => (
 some r3.1)))))
def A_rWrite : An := .leaf
def H_rWrite : Nat → RH := fun r => match r with
 | 4 => { H := { ac := [8] } }
 | 5 => { H := { ac := [9] } }
 | _ => {}
noncomputable def S_rWrite : Sig := .n [(.d .form)] (.d .str) (fun x => G_rWrite x.1)
theorem S_rWrite_ok : SigOK CX 41 S_rWrite := sigN_of (l := [(24, S_rvalid), (65, S_write_l), (26, S_string)]) ⟨S_rvalid_ok, S_write_l_ok, S_string_ok, trivial⟩ (hint := H_rWrite) (an := A_rWrite) (fun x => by kernel_rfl)
end Go.Ab

namespace Go.Ab
open Go
def blankB (c : UInt8) : Bool := decide (c = 32) || (decide (c = 9) || decide (c = 10))
def skipS : Bool → List UInt8 → List UInt8
 | _, [] => []
 | true, c :: r => if c = 10 then skipS false r else skipS true r
 | false, c :: r => if blankB c = true then skipS false r else if c = 59 then skipS true r else c :: r
def textS : List UInt8 → List UInt8 → Int ⊕ (List UInt8 × List UInt8)
 | [], _ => .inl 12
 | [c], b => if c = 34 then (if b.length > 2000 then .inl 4 else .inr (b, [])) else if c = 92 then .inl 12 else if c < 32 ∨ c > 126 then .inl 4 else .inl 12
 | c :: d :: r, b =>
  if c = 34 then (if b.length > 2000 then .inl 4 else .inr (b, d :: r))
  else if c = 92 then (if d = 110 then textS r (b ++ [10]) else if d = 34 ∨ d = 92 then textS r (b ++ [d]) else .inl 4)
  else if c < 32 ∨ c > 126 then .inl 4 else textS (d :: r) (b ++ [c])
theorem textS_len : ∀ (r b x y : List UInt8), textS r b = .inr (x, y) → y.length ≤ r.length
 | [], b, x, y, h => by simp [textS] at h
 | [c], b, x, y, h => by
  simp only [textS] at h
  split at h
  ·split at h
   ·cases h
   ·cases h; simp
  ·split at h
   ·cases h
   ·split at h <;> cases h
 | c :: d :: r, b, x, y, h => by
  simp only [textS] at h
  split at h
  ·split at h
   ·cases h
   ·cases h; simp
  ·split at h
   ·split at h
    ·have := textS_len r _ x y h; simp only [List.length_cons]; omega
    ·split at h
     ·have := textS_len r _ x y h; simp only [List.length_cons]; omega
     ·cases h
   ·split at h
    ·cases h
    ·have := textS_len (d :: r) _ x y h; simp only [List.length_cons] at *; omega
def lstF (l : List Fm) : Fm := .mk 3 0 [] l
def txtF (b : List UInt8) : Fm := .mk 2 0 b []
section
variable (vis : UInt8 → Bool) (tok : List UInt8 → Int ⊕ Fm)
def touchS : List UInt8 → Bool
 | [] => false
 | c :: _ => decide (c = 34) || vis c
def parseS : Nat → List UInt8 → List Fm → List (List Fm) → Int ⊕ List Fm
 | 0, _, _, _ => .inl 0
 | n + 1, r, top, st => match skipS false r with
  | [] => (match st with
   | [] => .inr top
   | _ :: _ => .inl 12)
  | c :: r' =>
   if c = 40 then parseS n r' [] (top :: st)
   else if c = 41 then (match st with
    | [] => .inl 4
    | t :: st' => parseS n r' (t ++ [lstF top]) st')
   else if c = 34 then (match textS r' [] with
    | .inl e => .inl e
    | .inr (b, q) => if touchS vis q = true then .inl 4 else parseS n q (top ++ [txtF b]) st)
   else if vis c = true then (match tok ((c :: r').takeWhile vis) with
    | .inl e => .inl e
    | .inr f => if touchS vis ((c :: r').dropWhile vis) = true then .inl 4 else parseS n ((c :: r').dropWhile vis) (top ++ [f]) st)
   else .inl 4
def refS : Nat → List UInt8 → Bool → List Fm → List (List Fm) → Int ⊕ List Fm
 | 0, _, _, _, _ => .inl 0
 | n + 1, [], near, top, st => (match st with
   | [] => .inr top
   | _ :: _ => .inl 12)
 | n + 1, c :: r', near, top, st =>
  if blankB c = true then refS n r' false top st
  else if c = 59 then refS n ((c :: r').dropWhile (fun x => !decide (x = 10))) false top st
  else if c = 40 then refS n r' false [] (top :: st)
  else if c = 41 then (match st with
   | [] => .inl 4
   | t :: st' => refS n r' false (t ++ [lstF top]) st')
  else if near = true then .inl 4
  else if c = 34 then (match textS r' [] with
   | .inl e => .inl e
   | .inr (b, q) => refS n q true (top ++ [txtF b]) st)
  else if vis c = true then (match tok ((c :: r').takeWhile vis) with
   | .inl e => .inl e
   | .inr f => refS n ((c :: r').dropWhile vis) true (top ++ [f]) st)
  else .inl 4
theorem refS_cons (n : Nat) (c : UInt8) (r' : List UInt8) (near : Bool) (top : List Fm) (st : List (List Fm)) : refS vis tok (n + 1) (c :: r') near top st =
  (if blankB c = true then refS vis tok n r' false top st
  else if c = 59 then refS vis tok n ((c :: r').dropWhile (fun x => !decide (x = 10))) false top st
  else if c = 40 then refS vis tok n r' false [] (top :: st)
  else if c = 41 then (match st with
   | [] => .inl 4
   | t :: st' => refS vis tok n r' false (t ++ [lstF top]) st')
  else if near = true then .inl 4
  else if c = 34 then (match textS r' [] with
   | .inl e => .inl e
   | .inr (b, q) => refS vis tok n q true (top ++ [txtF b]) st)
  else if vis c = true then (match tok ((c :: r').takeWhile vis) with
   | .inl e => .inl e
   | .inr f => refS vis tok n ((c :: r').dropWhile vis) true (top ++ [f]) st)
  else .inl 4) := rfl
theorem parseS_succ (n : Nat) (r : List UInt8) (top : List Fm) (st : List (List Fm)) : parseS vis tok (n + 1) r top st =
  (match skipS false r with
  | [] => (match st with
   | [] => .inr top
   | _ :: _ => .inl 12)
  | c :: r' =>
   if c = 40 then parseS vis tok n r' [] (top :: st)
   else if c = 41 then (match st with
    | [] => .inl 4
    | t :: st' => parseS vis tok n r' (t ++ [lstF top]) st')
   else if c = 34 then (match textS r' [] with
    | .inl e => .inl e
    | .inr (b, q) => if touchS vis q = true then .inl 4 else parseS vis tok n q (top ++ [txtF b]) st)
   else if vis c = true then (match tok ((c :: r').takeWhile vis) with
    | .inl e => .inl e
    | .inr f => if touchS vis ((c :: r').dropWhile vis) = true then .inl 4 else parseS vis tok n ((c :: r').dropWhile vis) (top ++ [f]) st)
   else .inl 4) := rfl
theorem skip_line : ∀ r : List UInt8, skipS true r = skipS false (r.dropWhile (fun x => !decide (x = 10)))
 | [] => rfl
 | c :: r => by
  by_cases h : c = 10
  ·subst h
   rw [List.dropWhile_cons_of_neg (by simp)]
   simp [skipS, blankB]
  ·rw [List.dropWhile_cons_of_pos (by simp [h])]
   simp only [skipS, h, if_false]
   exact skip_line r
theorem drop_len (p : UInt8 → Bool) : ∀ r : List UInt8, (r.dropWhile p).length ≤ r.length
 | [] => Nat.le_refl _
 | c :: r => by
  by_cases h : p c = true
  ·rw [List.dropWhile_cons_of_pos h]; have := drop_len p r; simp only [List.length_cons]; omega
  ·rw [List.dropWhile_cons_of_neg h]; exact Nat.le_refl _
theorem parse_skip {n : Nat} {r q : List UInt8} (h : skipS false r = skipS false q) (top : List Fm) (st : List (List Fm)) : parseS vis tok n r top st = parseS vis tok n q top st := by
 cases n with
 | zero => rfl
 | succ n => simp only [parseS, h]
theorem read_same (hv : ∀ c, vis c = true → blankB c = false ∧ c ≠ 59 ∧ c ≠ 40 ∧ c ≠ 41 ∧ c ≠ 34) : ∀ (N : Nat) (r : List UInt8), r.length ≤ N → ∀ (n m : Nat) (near : Bool) (top : List Fm) (st : List (List Fm)), r.length < n → r.length < m →
  refS vis tok n r near top st = if (near && touchS vis r) = true then .inl 4 else parseS vis tok m r top st
 | N, [], hN, n + 1, m + 1, near, top, st, hn, hm => by simp [refS, parseS, touchS, skipS]
 | N, [], hN, 0, m, near, top, st, hn, hm => by simp at hn
 | N, [], hN, n + 1, 0, near, top, st, hn, hm => by simp at hm
 | 0, c :: r', hN, n, m, near, top, st, hn, hm => by simp at hN
 | N + 1, c :: r', hN, 0, m, near, top, st, hn, hm => by simp at hn
 | N + 1, c :: r', hN, n + 1, 0, near, top, st, hn, hm => by simp at hm
 | N + 1, c :: r', hN, n + 1, m + 1, near, top, st, hn, hm => by
  simp only [List.length_cons] at hN hn hm
  have ih := read_same hv N
  by_cases hb : blankB c = true
  ·have ht : touchS vis (c :: r') = false := by
    have h1 : vis c = false := by
     cases hc : vis c with
     | false => rfl
     | true => have := (hv c hc).1; rw [hb] at this; cases this
    have h2 : ¬ c = 34 := fun e => by subst e; simp [blankB] at hb
    simp [touchS, h1, h2]
   rw [refS_cons, if_pos hb, ht, Bool.and_false, if_neg (by simp), ih r' (by omega) n (m + 1) false top st (by omega) (by omega), Bool.false_and, if_neg (by simp)]
   exact parse_skip vis tok (by simp [skipS, hb]) top st
  ·by_cases hs : c = 59
   ·have ht : touchS vis (c :: r') = false := by
     have h1 : vis c = false := by
      cases hc : vis c with
      | false => rfl
      | true => exact absurd hs (hv c hc).2.1
     subst hs; simp [touchS, h1]
    have hl : ((c :: r').dropWhile (fun x => !decide (x = 10))).length ≤ r'.length := by
     rw [List.dropWhile_cons_of_pos (by subst hs; decide)]; exact drop_len _ _
    rw [refS_cons, if_neg hb, if_pos hs, ht, Bool.and_false, if_neg (by simp), ih _ (by omega) n (m + 1) false top st (by omega) (by omega), Bool.false_and, if_neg (by simp)]
    refine parse_skip vis tok ?_ top st
    rw [← skip_line]
    have : skipS false (c :: r') = skipS true r' := by subst hs; simp [skipS, blankB]
    rw [this]
    subst hs
    simp [skipS, blankB]
   ·have hsk : skipS false (c :: r') = c :: r' := by simp [skipS, hb, hs]
    have hp : ∀ top st, parseS vis tok (m + 1) (c :: r') top st = if c = 40 then parseS vis tok m r' [] (top :: st)
      else if c = 41 then (match st with
       | [] => .inl 4
       | t :: st' => parseS vis tok m r' (t ++ [lstF top]) st')
      else if c = 34 then (match textS r' [] with
       | .inl e => .inl e
       | .inr (b, q) => if touchS vis q = true then .inl 4 else parseS vis tok m q (top ++ [txtF b]) st)
      else if vis c = true then (match tok ((c :: r').takeWhile vis) with
       | .inl e => .inl e
       | .inr f => if touchS vis ((c :: r').dropWhile vis) = true then .inl 4 else parseS vis tok m ((c :: r').dropWhile vis) (top ++ [f]) st)
      else .inl 4 := fun top st => by rw [parseS_succ, hsk]
    have novis : ∀ x : UInt8, c = x → (∀ c, vis c = true → c ≠ x) → vis c = false := fun x e h => by
     cases hc : vis c with
     | false => rfl
     | true => exact absurd e (h c hc)
    rw [refS_cons, if_neg hb, if_neg hs, hp]
    by_cases h40 : c = 40
    ·have ht : touchS vis (c :: r') = false := by
      have := novis 40 h40 (fun c hc => (hv c hc).2.2.1)
      subst h40; simp [touchS, this]
     rw [if_pos h40, if_pos h40, ht, Bool.and_false, if_neg (by simp), ih r' (by omega) n m false _ _ (by omega) (by omega), Bool.false_and, if_neg (by simp)]
    ·rw [if_neg h40, if_neg h40]
     by_cases h41 : c = 41
     ·have ht : touchS vis (c :: r') = false := by
       have := novis 41 h41 (fun c hc => (hv c hc).2.2.2.1)
       subst h41; simp [touchS, this]
      rw [if_pos h41, if_pos h41, ht, Bool.and_false, if_neg (by simp)]
      cases st with
      | nil => rfl
      | cons t st' =>
       simp only
       rw [ih r' (by omega) n m false _ _ (by omega) (by omega), Bool.false_and, if_neg (by simp)]
     ·rw [if_neg h41, if_neg h41]
      cases near with
      | true =>
       rw [if_pos rfl, Bool.true_and]
       by_cases h34 : c = 34
       ·rw [if_pos (by simp [touchS, h34])]
       ·by_cases hvc : vis c = true
        ·rw [if_pos (by simp [touchS, hvc])]
        ·rw [if_neg (by simp [touchS, h34, hvc]), if_neg h34, if_neg hvc]
      | false =>
       rw [Bool.false_and, if_neg (show ¬ (false = true) by decide), if_neg (show ¬ (false = true) by decide)]
       by_cases h34 : c = 34
       ·rw [if_pos h34, if_pos h34]
        cases hx : textS r' [] with
        | inl e => rfl
        | inr p =>
         obtain ⟨b, q⟩ := p
         have hl := textS_len r' [] b q hx
         simp only
         rw [ih q (by omega) n m true _ _ (by omega) (by omega), Bool.true_and]
       ·rw [if_neg h34, if_neg h34]
        by_cases hvc : vis c = true
        ·rw [if_pos hvc, if_pos hvc]
         have hl : ((c :: r').dropWhile vis).length ≤ r'.length := by rw [List.dropWhile_cons_of_pos hvc]; exact drop_len _ _
         cases hx : tok ((c :: r').takeWhile vis) with
         | inl e => rfl
         | inr f =>
          simp only
          rw [ih _ (by omega) n m true _ _ (by omega) (by omega), Bool.true_and]
        ·rw [if_neg hvc, if_neg hvc]
end
end Go.Ab

set_option maxRecDepth 100000
namespace Go.Ab
open Go Go.RowKit Go.Proofs
theorem ywp {L R : Type} {b : L → Option (Step L R)} {l0 : L} (I : L → Prop) (μ : L → Nat) (Q : R → Prop)
  (h : ∀ l, I l → (∃ l', b l = some (.next l') ∧ I l' ∧ μ l' < μ l) ∨ ∃ r, b l = some (.done r) ∧ Q r) (h0 : I l0) : ∃ r, loopM b l0 = some r ∧ Q r := by
 have key : ∀ (n : Nat) (l : L), μ l ≤ n → I l → ∃ r, loopM b l = some r ∧ Q r := by
  intro n
  induction n with
  | zero =>
   intro l hl hi
   rcases h l hi with ⟨l', h1, h2, h3⟩ | ⟨r, h1, h2⟩
   ·omega
   ·exact ⟨r, loopM_done h1, h2⟩
  | succ n ih =>
   intro l hl hi
   rcases h l hi with ⟨l', h1, h2, h3⟩ | ⟨r, h1, h2⟩
   ·rw [loopM_next h1]; exact ih l' (by omega) h2
   ·exact ⟨r, loopM_done h1, h2⟩
 exact key _ l0 (Nat.le_refl _) h0
theorem yloop {L R A : Type} {b : L → Option (Step L R)} {l0 : L} {F : R → Option A} (I : L → Prop) (μ : L → Nat) (Q : A → Prop)
  (h : ∀ l, I l → (∃ l', b l = some (.next l') ∧ I l' ∧ μ l' < μ l) ∨ ∃ r, b l = some (.done r) ∧ ∃ v, F r = some v ∧ Q v) (h0 : I l0) : ∃ v, Option.bind (loopM b l0) F = some v ∧ Q v := by
 obtain ⟨r, h1, v, h2, h3⟩ := ywp I μ (fun r => ∃ v, F r = some v ∧ Q v) h h0
 exact ⟨v, by rw [h1]; exact h2, h3⟩
theorem ybind {A B : Type} {o : Option A} {F : A → Option B} {v : A} {u : Option B} (h : o = some v) (k : F v = u) : Option.bind o F = u := by rw [h]; exact k
theorem ycond {α : Type} {b : Bool} {x y v : α} (h : b = true) (hx : x = v) : cond b x y = v := by subst h; exact hx
theorem ycondn {α : Type} {b : Bool} {x y v : α} (h : b = false) (hy : y = v) : cond b x y = v := by subst h; exact hy
theorem ywrap {i : Nat} (h : i < 4611686018427387904) : IntKind.wrap .i64 ((i : Int) + 1) = ((i + 1 : Nat) : Int) := by
 rw [w64 (by omega) (by omega)]; rfl
theorem ybyte {s : List UInt8} {i : Nat} (h : i < s.length) : byteAt s (i : Int) = ((s[i].toNat : Nat) : Int) := by
 unfold byteAt; simp [h]
theorem ybyte_eq {c : UInt8} {n : Nat} (h : n < 256) : (((c.toNat : Nat) : Int) = (n : Int)) ↔ c = UInt8.ofNat n := by
 constructor
 ·intro e
  apply UInt8.toNat_inj.1
  rw [UInt8.toNat_ofNat_of_lt' h]; omega
 ·intro e; subst e
  rw [UInt8.toNat_ofNat_of_lt' h]
theorem ydrop {s : List UInt8} {i : Nat} (h : i < s.length) : s.drop i = s[i] :: s.drop (i + 1) := List.drop_eq_getElem_cons h
theorem ybyteD (c : UInt8) (n : Nat) (h : n < 256) : decide (((c.toNat : Nat) : Int) = (n : Int)) = decide (c = UInt8.ofNat n) := decide_eq_decide.2 (ybyte_eq h)
theorem blank_cond (c : UInt8) : cond (cond (decide (((c.toNat : Nat) : Int) = 32)) true (decide (((c.toNat : Nat) : Int) = 9))) true (decide (((c.toNat : Nat) : Int) = 10)) = blankB c := by
 have a1 : decide (((c.toNat : Nat) : Int) = 32) = decide (c = 32) := ybyteD c 32 (by decide)
 have a2 : decide (((c.toNat : Nat) : Int) = 9) = decide (c = 9) := ybyteD c 9 (by decide)
 have a3 : decide (((c.toNat : Nat) : Int) = 10) = decide (c = 10) := ybyteD c 10 (by decide)
 rw [a1, a2, a3]
 unfold blankB
 cases decide (c = 32) <;> cases decide (c = 9) <;> rfl
theorem line_drop : ∀ l : List UInt8, (Lib.indexByte l 10 < 0 → l.dropWhile (fun x => !decide (x = 10)) = []) ∧ (0 ≤ Lib.indexByte l 10 → l.dropWhile (fun x => !decide (x = 10)) = l.drop (Lib.indexByte l 10).toNat ∧ Lib.indexByte l 10 < l.length)
 | [] => by simp [Lib.indexByte]
 | c :: l => by
  have ih := line_drop l
  have hge := Lib.indexByte_ge l 10
  by_cases h : c = 10
  ·subst h
   simp [Lib.indexByte]
  ·rw [List.dropWhile_cons_of_pos (by simp [h])]
   have hb : (c == 10) = false := by simpa using h
   simp only [Lib.indexByte, hb, Bool.false_eq_true, if_false]
   by_cases hm : Lib.indexByte l 10 = -1
   ·simp only [hm, beq_self_eq_true, if_true]
    refine ⟨fun _ => ih.1 (by omega), fun h => absurd h (by decide)⟩
   ·have hm' : (Lib.indexByte l 10 == -1) = false := by simpa using hm
    simp only [hm', Bool.false_eq_true, if_false]
    refine ⟨fun h => by omega, fun _ => ?_⟩
    obtain ⟨a, b⟩ := ih.2 (by omega)
    refine ⟨?_, by simp only [List.length_cons]; omega⟩
    rw [a, show (Lib.indexByte l 10 + 1).toNat = (Lib.indexByte l 10).toNat + 1 by omega]
    rfl
theorem skip59 (r : List UInt8) : skipS false (59 :: r) = skipS true (59 :: r) := by simp [skipS, blankB]
theorem skip_val {s : List UInt8} {i0 : Nat} (hs : s.length ≤ 1000000000) (h0 : i0 ≤ s.length) : ∃ j : Nat, G_skip (s, (i0 : Int), ()) = some ((), ((s, (j : Int), ()), ())) ∧ i0 ≤ j ∧ j ≤ s.length ∧ s.drop j = skipS false (s.drop i0) ∧ skipS false (s.drop j) = s.drop j := by
 have key : ∃ r, G_skip (s, (i0 : Int), ()) = some r ∧ ∃ j : Nat, r = ((), ((s, (j : Int), ()), ())) ∧ i0 ≤ j ∧ j ≤ s.length ∧ s.drop j = skipS false (s.drop i0) ∧ skipS false (s.drop j) = s.drop j := by
  unfold G_skip
  refine ywp (fun d => ∃ i : Nat, d = (((), ()), ((s, (i : Int), ()), ())) ∧ i0 ≤ i ∧ i ≤ s.length ∧ skipS false (s.drop i) = skipS false (s.drop i0)) (fun d => s.length - d.2.1.2.1.toNat) _ ?_ ⟨i0, rfl, Nat.le_refl _, h0, rfl⟩
  rintro d ⟨i, rfl, hi0, hi, hk⟩
  simp only [Int.toNat_natCast]
  by_cases hi' : i < s.length
  ·have e1 : decide ((i : Int) < (s.length : Int)) = true := by apply decide_eq_true; omega
   have x1 : ixOK (i : Int) s.length = true := ixOK_iff.2 (by omega)
   have e59 := ybyte_eq (c := s[i]) (n := 59) (by decide)
   have hd := ydrop hi'
   simp only [e1, x1, ybyte hi', cond_true, ywrap (show i < 4611686018427387904 by omega)]
   by_cases hb : blankB s[i] = true
   ·have hb' := (blank_cond s[i]).trans hb
    rw [hb', cond_true]
    refine .inl ⟨_, rfl, ⟨i + 1, rfl, by omega, by omega, ?_⟩, by simp only [Int.toNat_natCast]; omega⟩
    rw [← hk, hd, skipS, if_pos hb]
   ·have hb' := (blank_cond s[i]).trans (by simpa using hb)
    rw [hb', cond_false]
    by_cases h59 : s[i] = 59
    ·have q59 : decide (((s[i].toNat : Nat) : Int) = 59) = true := decide_eq_true (e59.2 h59)
     have sl : slOK (i : Int) (s.length : Int) s.length = true := slOK_iff.2 (by omega)
     have ht : (s.drop i).take (s.length - i) = s.drop i := List.take_of_length_le (by simp)
     have hix : indexByteF (s.drop i) 10 = some (Lib.indexByte (s.drop i) 10) := by
      unfold indexByteF; rw [if_pos (by decide)]; rfl
     have hln := line_drop (s.drop i)
     have hsk : skipS false (s.drop i) = skipS false ((s.drop i).dropWhile (fun x => !decide (x = 10))) := by
      rw [← skip_line, hd, h59]; exact skip59 _
     rw [q59, cond_true, sl, cond_true, ht, hix]
     by_cases hn : Lib.indexByte (s.drop i) 10 < 0
     ·have qn : decide (Lib.indexByte (s.drop i) 10 < 0) = true := decide_eq_true hn
      simp only [Option.bind_some, qn, cond_true, w64 (n := (s.length : Int) - (i : Int)) (by omega) (by omega)]
      have w2 : IntKind.wrap .i64 ((i : Int) + ((s.length : Int) - (i : Int))) = ((s.length : Nat) : Int) := by rw [w64 (by omega) (by omega)]; omega
      rw [w2]
      refine .inl ⟨_, rfl, ⟨s.length, rfl, by omega, Nat.le_refl _, ?_⟩, by simp only [Int.toNat_natCast]; omega⟩
      rw [← hk, hsk, hln.1 hn, List.drop_length]
     ·have qn : decide (Lib.indexByte (s.drop i) 10 < 0) = false := decide_eq_false hn
      obtain ⟨a, b⟩ := hln.2 (by omega)
      rw [List.length_drop] at b
      have hpos : Lib.indexByte (s.drop i) 10 ≠ 0 := by
       rw [hd, Lib.indexByte, h59]
       have := Lib.indexByte_ge (s.drop (i + 1)) 10
       have e : ((59 : UInt8) == 10) = false := rfl
       simp only [e, Bool.false_eq_true, if_false]
       split
       ·decide
       ·rename_i hx; simp at hx; omega
      simp only [Option.bind_some, qn, cond_false]
      have w2 : IntKind.wrap .i64 ((i : Int) + Lib.indexByte (s.drop i) 10) = ((i + (Lib.indexByte (s.drop i) 10).toNat : Nat) : Int) := by rw [w64 (by omega) (by omega)]; omega
      rw [w2]
      refine .inl ⟨_, rfl, ⟨_, rfl, by omega, by omega, ?_⟩, by simp only [Int.toNat_natCast]; omega⟩
      rw [← hk, hsk, a, List.drop_drop]
    ·have q59 : decide (((s[i].toNat : Nat) : Int) = 59) = false := decide_eq_false fun e => h59 (e59.1 e)
     rw [q59, cond_false]
     have hf : skipS false (s.drop i) = s.drop i := by rw [hd, skipS, if_neg hb, if_neg h59]
     exact .inr ⟨_, rfl, i, rfl, hi0, hi, by rw [← hk, hf], hf⟩
  ·have e1 : decide ((i : Int) < (s.length : Int)) = false := by apply decide_eq_false; omega
   have hd : s.drop i = [] := List.drop_of_length_le (by omega)
   refine .inr ⟨_, by simp only [e1, cond_false], i, rfl, hi0, hi, by rw [← hk, hd, skipS], by rw [hd, skipS]⟩
 obtain ⟨r, h1, j, rfl, h2⟩ := key
 exact ⟨j, h1, h2⟩
end Go.Ab

set_option maxRecDepth 100000
namespace Go.Ab
open Go Go.RowKit Go.Proofs
theorem text_nil (b : List UInt8) : textS [] b = .inl 12 := by simp [textS]
theorem text_cons (c : UInt8) (r b : List UInt8) : textS (c :: r) b = if c = 34 then (if b.length > 2000 then .inl 4 else .inr (b, r))
  else if c = 92 then (match r with
   | [] => .inl 12
   | d :: r' => if d = 110 then textS r' (b ++ [10]) else if d = 34 ∨ d = 92 then textS r' (b ++ [d]) else .inl 4)
  else if c < 32 ∨ c > 126 then .inl 4 else textS r (b ++ [c]) := by
 cases r with
 | nil => simp [textS]
 | cons d r' => simp [textS]
theorem bytes_ints (b : List UInt8) : bytesOf (intsOf b) = some b := by
 have h1 : ((intsOf b).all fun n => decide (0 ≤ n ∧ n < 256)) = true := by
  rw [List.all_eq_true]
  intro n hn
  unfold intsOf at hn
  obtain ⟨c, _, rfl⟩ := List.mem_map.1 hn
  apply decide_eq_true
  have := c.toNat_lt
  omega
 unfold bytesOf
 rw [if_pos h1]
 unfold intsOf
 rw [List.map_map]
 congr 1
 refine List.map_id'' (fun c => ?_) b
 simp
theorem ints_app (b : List UInt8) (c : UInt8) : intsOf b ++ [((c.toNat : Nat) : Int)] = intsOf (b ++ [c]) := by
 unfold intsOf; rw [List.map_append]; rfl
theorem ints_len (b : List UInt8) : (intsOf b).length = b.length := by unfold intsOf; exact List.length_map ..
def TextQ (s : List UInt8) (i0 : Nat) (v : ((List UInt8) × Int × Unit) × (((List UInt8) × Int × Unit) × Unit)) : Int ⊕ (List UInt8 × List UInt8) → Prop
 | .inl e => e ≠ 0 ∧ ∃ j : Int, v = (([], e, ()), ((s, j, ()), ()))
 | .inr (b, q) => ∃ j : Nat, v = ((b, 0, ()), ((s, (j : Int), ()), ())) ∧ i0 < j ∧ j ≤ s.length ∧ s.drop j = q
theorem text_val {s : List UInt8} {i0 : Nat} (hs : s.length ≤ 1000000000) (h0 : i0 < s.length) : ∃ v, G_text (s, (i0 : Int), ()) = some v ∧ TextQ s i0 v (textS (s.drop (i0 + 1)) []) := by
 unfold G_text
 simp only [ywrap (show i0 < 4611686018427387904 by omega)]
 refine yloop (fun d => ∃ (i : Nat) (b : List UInt8) (fl : Bool), d = (((), (), ()), ((s, (i : Int), ()), (fl, (), ()), intsOf b, ())) ∧ i0 < i ∧ i ≤ s.length ∧ b.length ≤ i ∧ textS (s.drop i) b = textS (s.drop (i0 + 1)) []) (fun d => s.length - d.2.1.2.1.toNat) _ ?_ ⟨i0 + 1, [], false, rfl, by omega, by omega, by simp, rfl⟩
 rintro d ⟨i, b, fl, rfl, hi0, hi, hbl, hk⟩
 simp only [Int.toNat_natCast]
 rw [← hk]
 by_cases hi' : i < s.length
 ·have e1 : decide ((i : Int) < (s.length : Int)) = true := by apply decide_eq_true; omega
  have x1 : ixOK (i : Int) s.length = true := ixOK_iff.2 (by omega)
  have hd := ydrop hi'
  have q34 : decide (((s[i].toNat : Nat) : Int) = 34) = decide (s[i] = 34) := ybyteD _ 34 (by decide)
  have q92 : decide (((s[i].toNat : Nat) : Int) = 92) = decide (s[i] = 92) := ybyteD _ 92 (by decide)
  have wi := ywrap (show i < 4611686018427387904 by omega)
  have app : ∀ (c : UInt8), decide (((intsOf b).length + ([((c.toNat : Nat) : Int)] : List Int).length) * 1 ≤ 140737488355328) = true := fun c => by
   apply decide_eq_true; rw [ints_len]; simp only [List.length_cons, List.length_nil]; omega
  simp only [e1, x1, ybyte hi', q34, q92, cond_true, wi]
  rw [hd, text_cons]
  by_cases c34 : s[i] = 34
  ·have d34 : decide (s[i] = 34) = true := decide_eq_true c34
   simp only [d34, cond_true, if_pos c34, G_bldLen, Option.bind_some, bytes_ints, Option.map_some, ints_len]
   by_cases hb : b.length > 2000
   ·have db : decide (((b.length : Nat) : Int) > 2000) = true := decide_eq_true (by omega)
    rw [db, cond_true, if_pos hb]
    exact .inr ⟨_, rfl, _, rfl, by decide, _, rfl⟩
   ·have db : decide (((b.length : Nat) : Int) > 2000) = false := decide_eq_false (by omega)
    rw [db, cond_false, if_neg hb]
    exact .inr ⟨_, rfl, _, rfl, i + 1, rfl, by omega, by omega, rfl⟩
  ·have d34 : decide (s[i] = 34) = false := decide_eq_false c34
   rw [if_neg c34]
   simp only [d34, cond_false]
   by_cases c92 : s[i] = 92
   ·have d92 : decide (s[i] = 92) = true := decide_eq_true c92
    simp only [d92, cond_true, if_pos c92]
    by_cases hl : i + 1 = s.length
    ·have dl : decide (((i + 1 : Nat) : Int) = (s.length : Int)) = true := decide_eq_true (by omega)
     have he : s.drop (i + 1) = [] := List.drop_of_length_le (by omega)
     rw [dl, cond_true, he]
     exact .inr ⟨_, rfl, _, rfl, by decide, _, rfl⟩
    ·have hj : i + 1 < s.length := by omega
     have dl : decide (((i + 1 : Nat) : Int) = (s.length : Int)) = false := decide_eq_false (by omega)
     have x2 : ixOK ((i + 1 : Nat) : Int) s.length = true := ixOK_iff.2 (by omega)
     have r34 : decide (((s[i + 1].toNat : Nat) : Int) = 34) = decide (s[i + 1] = 34) := ybyteD _ 34 (by decide)
     have r92 : decide (((s[i + 1].toNat : Nat) : Int) = 92) = decide (s[i + 1] = 92) := ybyteD _ 92 (by decide)
     have r110 : decide (((s[i + 1].toNat : Nat) : Int) = 110) = decide (s[i + 1] = 110) := ybyteD _ 110 (by decide)
     have wi2 := ywrap (show i + 1 < 4611686018427387904 by omega)
     rw [dl, cond_false, x2, cond_true, ybyte hj, r34, r92, r110, ydrop hj]
     by_cases c110 : s[i + 1] = 110
     ·have d110 : decide (s[i + 1] = 110) = true := decide_eq_true c110
      have a10 : decide (((intsOf b).length + ([(10 : Int)] : List Int).length) * 1 ≤ 140737488355328) = true := app 10
      simp only [d110, cond_true, if_pos c110, G_bldByte, Option.bind_some, a10, wi2]
      refine .inl ⟨_, rfl, ⟨i + 1 + 1, b ++ [10], true, by rw [← ints_app]; rfl, by omega, by omega, by simp; omega, ?_⟩, by simp only [Int.toNat_natCast]; omega⟩
      rfl
     ·have d110 : decide (s[i + 1] = 110) = false := decide_eq_false c110
      simp only [d110, cond_false, if_neg c110]
      by_cases c3 : s[i + 1] = 34 ∨ s[i + 1] = 92
      ·have dd : cond (!decide (s[i + 1] = 34)) (!decide (s[i + 1] = 92)) false = false := by
        rcases c3 with h | h <;> simp [h]
       simp only [dd, cond_false, if_pos c3, G_bldByte, Option.bind_some, app, cond_true, wi2]
       refine .inl ⟨_, rfl, ⟨i + 1 + 1, b ++ [s[i + 1]], true, by rw [← ints_app], by omega, by omega, by simp; omega, ?_⟩, by simp only [Int.toNat_natCast]; omega⟩
       rfl
      ·have dd : cond (!decide (s[i + 1] = 34)) (!decide (s[i + 1] = 92)) false = true := by
        simp only [not_or] at c3; simp [c3.1, c3.2]
       simp only [dd, cond_true, if_neg c3]
       exact .inr ⟨_, rfl, _, rfl, by decide, _, rfl⟩
   ·have d92 : decide (s[i] = 92) = false := decide_eq_false c92
    simp only [d92, cond_false, if_neg c92]
    have hlt : (s[i] < 32) = (s[i].toNat < 32) := rfl
    have hgt : (s[i] > 126) = (126 < s[i].toNat) := rfl
    by_cases cr : s[i] < 32 ∨ s[i] > 126
    ·have dd : cond (decide (((s[i].toNat : Nat) : Int) < 32)) true (decide (((s[i].toNat : Nat) : Int) > 126)) = true := by
      rw [hlt, hgt] at cr
      by_cases h : ((s[i].toNat : Nat) : Int) < 32
      ·rw [decide_eq_true h]; rfl
      ·rw [decide_eq_false h]; exact decide_eq_true (by omega)
     simp only [dd, cond_true, if_pos cr]
     exact .inr ⟨_, rfl, _, rfl, by decide, _, rfl⟩
    ·have dd : cond (decide (((s[i].toNat : Nat) : Int) < 32)) true (decide (((s[i].toNat : Nat) : Int) > 126)) = false := by
      rw [hlt, hgt] at cr
      rw [decide_eq_false (show ¬ ((s[i].toNat : Nat) : Int) < 32 by omega)]; exact decide_eq_false (by omega)
     simp only [dd, cond_false, if_neg cr, G_bldByte, Option.bind_some, app, cond_true, wi]
     refine .inl ⟨_, rfl, ⟨i + 1, b ++ [s[i]], true, by rw [← ints_app], by omega, by omega, by simp; omega, ?_⟩, by simp only [Int.toNat_natCast]; omega⟩
     rfl
 ·have e1 : decide ((i : Int) < (s.length : Int)) = false := by apply decide_eq_false; omega
  have hd : s.drop i = [] := List.drop_of_length_le (by omega)
  rw [hd, text_nil]
  exact .inr ⟨_, by simp only [e1, cond_false]; rfl, _, rfl, by decide, _, rfl⟩
end Go.Ab

namespace Go.Ab
open Go
theorem cmpi_val (a b : Int) : G_cmpi a b = some (cmpI a b) := by
 unfold G_cmpi G_isNaNi cmpI
 by_cases h : a < b
 ·simp [h]
 ·by_cases h' : b < a
  ·have : a > b := h'
   simp [h, this]
  ·have : ¬ a > b := h'
   simp [h, this]
theorem cmps_val (a b : List UInt8) : G_cmps a b = some (cmpS a b) := by
 unfold G_cmps G_isNaNs cmpS
 by_cases h : Op.bytesLess a b = true
 ·simp [h]
 ·by_cases h' : a = b
  ·subst h'; simp [bytesLess_irrefl]
  ·simp [h, h']
theorem compare_step (k : Nat) (hF : ∀ l m : List Fm, Fm.bigL l ≤ 4611686018427387000 → Up (k < 1 + 2 * Fm.bigL l) (G_compareFunc k l m ()) (cmpL l m)) (f g : Fm) (hb : f.big ≤ 4611686018427387000) : Up (k + 1 < 2 * f.big) (G_compare (k + 1) f g) (cmpF f g) := by
 obtain ⟨a, n, t, l⟩ := f
 obtain ⟨a', n', t', l'⟩ := g
 have hk := big_kids (.mk a n t l)
 simp only [Fm.l] at hk
 rw [cmpF_mk]
 unfold G_compare
 simp only [Fm.k, Fm.n, Fm.t, Fm.l, cmpi_val, cmps_val, Option.bind_some]
 by_cases h : a = a'
 ·subst h
  simp only [decide_true, Bool.not_true, cond_false, if_true]
  by_cases h0 : a = 0
  ·simp only [h0, decide_true, cond_true, if_true]; exact .of rfl
  ·simp only [h0, decide_false, cond_false, if_false]
   by_cases h1 : a = 1
   ·simp only [h1, decide_true, cond_true, Option.bind_some, true_or, if_true]; exact .of rfl
   ·simp only [h1, decide_false, cond_false, Option.bind_some, false_or]
    by_cases h2 : a = 2
    ·simp only [h2, decide_true, cond_true, if_true]; exact .of rfl
    ·simp only [h2, decide_false, cond_false, if_false]
     by_cases h3 : a = 3
     ·subst h3
      simp only [decide_true, cond_true, if_true]
      refine ((hF l l' (by omega)).mono fun h => by omega).bind (.of rfl)
     ·simp only [h3, decide_false, cond_false, if_false]; exact .of rfl
 ·simp only [h, decide_false, Bool.not_false, cond_true, if_false]; exact .of rfl
theorem compareFunc_step (k : Nat) (hF : ∀ f g : Fm, f.big ≤ 4611686018427387000 → Up (k < 2 * f.big) (G_compare k f g) (cmpF f g)) (l m : List Fm) (hb : Fm.bigL l ≤ 4611686018427387000) : Up (k + 1 < 1 + 2 * Fm.bigL l) (G_compareFunc (k + 1) l m ()) (cmpL l m) := by
 have hl := length_le_big l
 unfold G_compareFunc
 refine loop_ix (fun i => ((l, m, (), l, (l.length : Int), (i : Int), ()), ())) (fun i => cmpL (l.drop i) (m.drop i)) (min l.length m.length) (fun i hi => ?_) ?_
 ·have h1 : i < l.length := by omega
  have h2 : i < m.length := by omega
  have e1 : decide ((i : Int) < (l.length : Int)) = true := by simp [h1]
  have e2 : ixOK (i : Int) l.length = true := ixOK_iff.2 (by omega)
  have e3 : decide ((i : Int) ≥ (m.length : Int)) = false := by simp [h2]
  have e4 : ixOK (i : Int) m.length = true := ixOK_iff.2 (by omega)
  simp only [e1, e2, e3, e4, cond_true, cond_false, Int.toNat_natCast, getD_in h1, getD_in h2, Fm.eta_eq, wrapN (show i < 4611686018427387904 by omega), cmpL_drop h1 h2]
  have hm := big_mem (List.getElem_mem h1)
  rcases hF l[i] m[i] (by omega) with h | ⟨h, hn⟩
  ·rw [h]
   by_cases hc : cmpF l[i] m[i] = 0
   ·refine .inl ⟨by simp [hc], by simp [hc]⟩
   ·refine .inr (.inl ⟨.done (cmpF l[i] m[i]), by simp [hc], .of (by simp [hc])⟩)
  ·rw [h]
   exact .inr (.inr ⟨rfl, by omega⟩)
 ·by_cases hlm : l.length ≤ m.length
  ·rw [Nat.min_eq_left hlm]
   refine ⟨.next ((l, m, ()), ()), by simp, .of ?_⟩
   simp only [List.drop_length, cmpL]
   by_cases hd : m.drop l.length = []
   ·have := List.drop_eq_nil_iff.1 hd
    have e : ¬ ((l.length : Int) < (m.length : Int)) := by omega
    simp [hd, e]
   ·have : ¬ m.length ≤ l.length := fun h => hd (List.drop_eq_nil_iff.2 h)
    have e : (l.length : Int) < (m.length : Int) := by omega
    simp [hd, e]
  ·have h1 : m.length < l.length := by omega
   rw [Nat.min_eq_right (by omega)]
   have e2 : ixOK (m.length : Int) l.length = true := ixOK_iff.2 (by omega)
   have e1 : decide ((m.length : Int) < (l.length : Int)) = true := by simp; omega
   refine ⟨.done 1, by simp [e2, h1], .of ?_⟩
   simp only [List.drop_length]
   rw [List.drop_eq_getElem_cons h1]
   simp [cmpL]
theorem compare_up : ∀ k, (∀ f g : Fm, f.big ≤ 4611686018427387000 → Up (k < 2 * f.big) (G_compare k f g) (cmpF f g)) ∧ (∀ l m : List Fm, Fm.bigL l ≤ 4611686018427387000 → Up (k < 1 + 2 * Fm.bigL l) (G_compareFunc k l m ()) (cmpL l m))
 | 0 => ⟨fun f g hb => .inr ⟨by unfold G_compare; rfl, by have := big_pos f; omega⟩, fun l m hb => .inr ⟨by unfold G_compareFunc; rfl, by omega⟩⟩
 | k + 1 => ⟨compare_step k (compare_up k).2, compareFunc_step k (compare_up k).1⟩
theorem compare_val {f g : Fm} (hb : f.big ≤ 4611686018427387000) : L_compare f g = some (cmpF f g) := limF_up (b := 2 * f.big) fun k => (compare_up k).1 f g hb
end Go.Ab

set_option maxRecDepth 100000
namespace Go.Ab
open Go Go.RowKit Go.Proofs
end Go.Ab
