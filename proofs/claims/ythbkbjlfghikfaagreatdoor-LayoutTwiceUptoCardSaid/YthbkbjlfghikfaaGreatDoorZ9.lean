/-
  CALLS THAT WRITE OBJECTS, told by the objects that they are given alone; and that the rest stays.
-/
import Derived.Test.YthbkbjlfghikfaaGreatDoorZ8
set_option linter.unusedVariables false
set_option linter.unusedSimpArgs false
namespace Go.Ab
open Go Go.RowKit
def sureO {α : Type} : Option α → Option (Bool × α)
 | some v => some (true, v)
 | none => none
theorem sureO_ok {α : Type} {o : Option α} {v : α} (h : sureO o = some (true, v)) : o = some v := by
 cases o with
 | none => cases h
 | some a => simp only [sureO, Option.some.injEq, Prod.mk.injEq, true_and] at h; rw [h]
def idxY (P : Program) (t : TypeId) (a i : AV) : Option (Bool × AV) :=
 match i with
 | .int k n => match elmT P t with
  | some (_, sz, _) => match a with
   | .tvec e l => if e.size = sz then some (decide (0 ≤ n ∧ n < (l.length : Int)), .rptr (e.cells (l.getD n.toNat e.dflt))) else none
   | .gs p nm e len => if e.size = sz then some (decide (0 ≤ n ∧ n < (len : Int)), .eref p nm n.toNat 0) else none
   | .gv p nm e off len => if e.size = sz then some (decide (0 ≤ n ∧ n < (len : Int)), .eref p nm (off + n.toNat) 0) else none
   | a => sureO (idxA P t a (.int k n))
  | none => sureO (idxA P t a (.int k n))
 | _ => none
theorem idxY_ok {P : Program} {t : TypeId} {a i v : AV} (h : idxY P t a i = some (true, v)) : idxA P t a i = some v := by
 unfold idxY at h
 split at h
 ·rename_i k n
  split at h
  ·rename_i q sz r he
   split at h
   ·rename_i e l
    simp only [Option.ite_none_right_eq_some, Option.some.injEq, Prod.mk.injEq, decide_eq_true_eq] at h
    obtain ⟨h1, h2, rfl⟩ := h
    unfold idxA
    simp only [he]
    rw [if_pos ⟨h1, h2.1, h2.2⟩]
   ·rename_i p nm e len
    simp only [Option.ite_none_right_eq_some, Option.some.injEq, Prod.mk.injEq, decide_eq_true_eq] at h
    obtain ⟨h1, h2, rfl⟩ := h
    unfold idxA
    simp only [he]
    rw [if_pos ⟨h1, h2.1, h2.2⟩]
   ·rename_i p nm e off len
    simp only [Option.ite_none_right_eq_some, Option.some.injEq, Prod.mk.injEq, decide_eq_true_eq] at h
    obtain ⟨h1, h2, rfl⟩ := h
    unfold idxA
    simp only [he]
    rw [if_pos ⟨h1, h2.1, h2.2⟩]
   ·exact sureO_ok h
  ·exact sureO_ok h
 ·cases h
def checkO (b : Bool) : Option AV → Option (Bool × AV)
 | some v => some (b, v)
 | none => none
def loadY (P : Program) (T : TypeId) (σ : Sto) (a : AV) : Option (Bool × AV) :=
 match a with
 | .eref p n i off => match sget σ p n with
  | some (.tg e _ l) => checkO (decide (i < l.length)) (loadC P T ((e.cells (l.getD i e.dflt)).drop off))
  | some (.stk e _ l .no) => checkO (decide (i < l.length)) (loadC P T ([AV.tvec e (l.getD i [])].drop off))
  | _ => sureO (readA P T σ (.eref p n i off))
 | a => sureO (readA P T σ a)
theorem loadY_ok {P : Program} {T : TypeId} {σ : Sto} {a v : AV} (h : loadY P T σ a = some (true, v)) : readA P T σ a = some v := by
 unfold loadY at h
 split at h
 ·rename_i p n i off
  split at h
  ·rename_i e ety l hs
   unfold checkO at h
   split at h
   ·rename_i u hu
    simp only [Option.some.injEq, Prod.mk.injEq, decide_eq_true_eq] at h
    obtain ⟨h1, rfl⟩ := h
    simp only [readA, hs]
    rw [if_pos h1]; exact hu
   ·cases h
  ·rename_i e ety l hs
   unfold checkO at h
   split at h
   ·rename_i u hu
    simp only [Option.some.injEq, Prod.mk.injEq, decide_eq_true_eq] at h
    obtain ⟨h1, rfl⟩ := h
    simp only [readA, hs]
    rw [if_pos h1]; exact hu
   ·cases h
  ·exact sureO_ok h
 ·exact sureO_ok h
def byteAt (l : List UInt8) (n : Int) : Int := ((l.getD n.toNat 0).toNat : Int)
def indexY (P : Program) (t : TypeId) (a i : AV) : Option (Bool × AV) :=
 match a, i with
 | .str l, .int _ n => if strT P t = true then some (decide (0 ≤ n ∧ n < (l.length : Int)), .int .u8 (byteAt l n)) else none
 | _, _ => none
theorem indexY_ok {P : Program} {t : TypeId} {a i v : AV} (h : indexY P t a i = some (true, v)) : indexA P t a i = some v := by
 unfold indexY at h
 split at h
 ·rename_i l k n
  simp only [Option.ite_none_right_eq_some, Option.some.injEq, Prod.mk.injEq, decide_eq_true_eq] at h
  obtain ⟨h1, h2, rfl⟩ := h
  unfold indexA
  simp only
  rw [if_pos ⟨h1, h2.1⟩]
  have hlt : n.toNat < l.length := by omega
  simp only [List.getElem?_eq_getElem hlt, byteAt, List.getD_eq_getElem?_getD, Option.getD_some]
 ·cases h
def sliceY (P : Program) (t : TypeId) (a : AV) (lo hi : Option AV) : Option (Bool × AV) :=
 match a with
 | .str s => if strT P t = true then (match bndA s.length lo hi with
  | some (l, h) => some (decide (0 ≤ l ∧ l ≤ h ∧ h ≤ (s.length : Int)), .str ((s.drop l.toNat).take (h.toNat - l.toNat)))
  | none => none) else none
 | .tvec e s => (match elmT P t, bndA s.length lo hi with
  | some (_, sz, _), some (l, h) => if e.size = sz then some (decide (0 ≤ l ∧ l ≤ h ∧ h ≤ (s.length : Int)), .tvec e ((s.drop l.toNat).take (h.toNat - l.toNat))) else none
  | _, _ => none)
 | .gs p nm e len => (match elmT P t, bndA len lo hi with
  | some (_, sz, _), some (l, h) => if e.size = sz then some (decide (0 ≤ l ∧ l ≤ h ∧ h ≤ (len : Int)), .gv p nm e l.toNat (h.toNat - l.toNat)) else none
  | _, _ => none)
 | a => sureO (sliceA P t a lo hi none)
theorem sliceY_ok {P : Program} {t : TypeId} {a v : AV} {lo hi : Option AV} (h : sliceY P t a lo hi = some (true, v)) : sliceA P t a lo hi none = some v := by
 unfold sliceY at h
 split at h
 ·split at h
  ·rename_i hs
   split at h
   ·rename_i l h' hb
    simp only [Option.some.injEq, Prod.mk.injEq, decide_eq_true_eq] at h
    obtain ⟨h1, rfl⟩ := h
    unfold sliceA
    simp only [hb]
    rw [if_pos hs, if_pos h1]
   ·cases h
  ·cases h
 ·split at h
  ·rename_i q sz r l h' he hb
   simp only [Option.ite_none_right_eq_some, Option.some.injEq, Prod.mk.injEq, decide_eq_true_eq] at h
   obtain ⟨h0, h1, rfl⟩ := h
   unfold sliceA
   simp only [he, hb]
   rw [if_pos ⟨h0, h1⟩]
  ·cases h
 ·split at h
  ·rename_i q sz r l h' he hb
   simp only [Option.ite_none_right_eq_some, Option.some.injEq, Prod.mk.injEq, decide_eq_true_eq] at h
   obtain ⟨h0, h1, rfl⟩ := h
   unfold sliceA
   simp only [he, hb]
   rw [if_pos ⟨h0, h1⟩]
  ·cases h
 ·exact sureO_ok h
def binIntY (op : BinOp) (k k' : IntKind) (x y : Int) : Option (Bool × AV) :=
 match op with
 | .shl => some (decide (0 ≤ y ∧ y ≤ (k.bits : Int)), .int k (k.wrap (x * 2 ^ y.toNat)))
 | .shr => some (decide (0 ≤ y ∧ y ≤ (k.bits : Int)), .int k (x / 2 ^ y.toNat))
 | .quo => if k = k' then some (!decide (y = 0), .int k (k.wrap (x.tdiv y))) else none
 | .rem => if k = k' then some (!decide (y = 0), .int k (x.tmod y)) else none
 | op => if k = k' then sureO (abinInt op k x y) else none
def binStrY (op : BinOp) (x y : List UInt8) : Option (Bool × AV) :=
 match op with
 | .add => some (decide (x.length + y.length ≤ 9223372036854775807), .str (x ++ y))
 | op => sureO (abinStr op x y)
def nilY (C : Cx) (op : BinOp) (t : TypeId) (y : Operand) (a b : AV) {α : Type} (l : List α) : Option (Bool × AV) :=
 if isNilConst y = true then (match C.P.underlying t with
  | some d => if (nilT d a && nilT d b) = true then (match nilA b, op with
   | some true, .eql => some (!l.isEmpty, .bool false)
   | some true, .neq => some (!l.isEmpty, .bool true)
   | _, _ => none) else none
  | none => none) else none
def binY (C : Cx) (op : BinOp) (t : TypeId) (x y : Operand) (a b : AV) : Option (Bool × AV) :=
 match a with
 | .int k p => match b with
  | .int k' q => binIntY op k k' p q
  | _ => none
 | .str p => match b with
  | .str q => binStrY op p q
  | _ => none
 | .tvec e l => nilY C op t y (.tvec e l) b l
 | a => sureO (abin C op t x y a b)
theorem nilY_ok {C : Cx} {op : BinOp} {t : TypeId} {x y : Operand} {e : E} {l : List e.den} {b v : AV} (h : nilY C op t y (.tvec e l) b l = some (true, v)) : abin C op t x y (.tvec e l) b = some v := by
 unfold nilY at h
 split at h
 ·rename_i hn
  split at h
  ·rename_i d hd
   split at h
   ·rename_i ht
    rw [Bool.and_eq_true] at ht
    have key : nilTest C.P t (.tvec e l) = (if l.isEmpty = true then none else some false) ∧ nilTest C.P t b = nilA b := by
     unfold nilTest
     simp only [hd]
     rw [if_pos ht.1, if_pos ht.2]
     exact ⟨rfl, rfl⟩
    split at h
    ·rename_i hb
     simp only [Option.some.injEq, Prod.mk.injEq, Bool.not_eq_true'] at h
     obtain ⟨h1, rfl⟩ := h
     unfold abin
     simp only [hn, if_true, key.1, key.2, hb, h1]
     rfl
    ·rename_i hb
     simp only [Option.some.injEq, Prod.mk.injEq, Bool.not_eq_true'] at h
     obtain ⟨h1, rfl⟩ := h
     unfold abin
     simp only [hn, if_true, key.1, key.2, hb, h1]
     rfl
    ·cases h
   ·cases h
  ·cases h
 ·cases h
theorem binY_ok {C : Cx} {op : BinOp} {t : TypeId} {x y : Operand} {a b v : AV} (h : binY C op t x y a b = some (true, v)) : abin C op t x y a b = some v := by
 unfold binY at h
 split at h
 ·rename_i k p
  split at h
  ·rename_i k' q
   unfold binIntY at h
   unfold abin
   split at h
   ·simp only [Option.some.injEq, Prod.mk.injEq, decide_eq_true_eq] at h
    obtain ⟨h1, rfl⟩ := h
    simp only; rw [if_pos h1]
   ·simp only [Option.some.injEq, Prod.mk.injEq, decide_eq_true_eq] at h
    obtain ⟨h1, rfl⟩ := h
    simp only; rw [if_pos h1]
   ·simp only [Option.ite_none_right_eq_some, Option.some.injEq, Prod.mk.injEq, Bool.not_eq_true', decide_eq_false_iff_not] at h
    obtain ⟨h0, h1, rfl⟩ := h
    simp only [abinInt]; rw [if_pos h0, if_neg h1]
   ·simp only [Option.ite_none_right_eq_some, Option.some.injEq, Prod.mk.injEq, Bool.not_eq_true', decide_eq_false_iff_not] at h
    obtain ⟨h0, h1, rfl⟩ := h
    simp only [abinInt]; rw [if_pos h0, if_neg h1]
   ·split at h
    ·rename_i hk
     have := sureO_ok h
     cases op <;> first | (simp only; rw [if_pos hk]; exact this) | (rename_i h1 h2 h3 h4; first | exact absurd rfl h1 | exact absurd rfl h2 | exact absurd rfl h3 | exact absurd rfl h4)
    ·cases h
  ·cases h
 ·rename_i p
  split at h
  ·rename_i q
   unfold binStrY at h
   unfold abin
   split at h
   ·simp only [Option.some.injEq, Prod.mk.injEq, decide_eq_true_eq] at h
    obtain ⟨h1, rfl⟩ := h
    simp only [abinStr]; rw [if_pos h1]
   ·exact sureO_ok h
  ·cases h
 ·exact nilY_ok h
 ·exact sureO_ok h
def convY (P : Program) (s d : TypeId) (a : AV) : Option (Bool × AV) :=
 match a with
 | .str l => if strT P s = true ∧ bytT P d = true then some (decide (l.length ≤ 4611686018427387904), .tvec (.int .u8) (intsOf l)) else sureO (aconv P s d (.str l))
 | a => sureO (aconv P s d a)
theorem strT_byt {P : Program} {d : TypeId} (h : bytT P d = true) : strT P d = false := by
 unfold bytT at h
 unfold strT
 split at h
 ·rename_i e he; rw [he]
 ·cases h
theorem convY_ok {P : Program} {s d : TypeId} {a v : AV} (h : convY P s d a = some (true, v)) : aconv P s d a = some v := by
 unfold convY at h
 split at h
 ·split at h
  ·rename_i hc
   simp only [Option.some.injEq, Prod.mk.injEq, decide_eq_true_eq] at h
   obtain ⟨h1, rfl⟩ := h
   unfold aconv
   simp only
   rw [if_neg (by rw [strT_byt hc.2]; simp), if_pos ⟨hc.1, hc.2, h1⟩]
  ·exact sureO_ok h
 ·exact sureO_ok h
def yfop (C : Cx) (al : Nat × Nat) (op : Op) (env : Nat → AV) (σ : Sto) : Option (Bool × AV) :=
 match op with
 | .load T a => loadY C.P T σ (opv C env a)
 | .binOp op t x y _ => binY C op t x y (opv C env x) (opv C env y)
 | .indexAddr t x i => idxY C.P t (opv C env x) (opv C env i)
 | .index t x i => indexY C.P t (opv C env x) (opv C env i)
 | .slice t x lo hi none => sliceY C.P t (opv C env x) (lo.map (opv C env)) (hi.map (opv C env))
 | .convert s d x => convY C.P s d (opv C env x)
 | op => sureO (fop C al op env σ)
theorem yfop_ok {C : Cx} {al : Nat × Nat} {op : Op} {env : Nat → AV} {σ : Sto} {v : AV} (h : yfop C al op env σ = some (true, v)) : fop C al op env σ = some v := by
 unfold yfop at h
 split at h
 ·exact loadY_ok h
 ·exact binY_ok h
 ·exact idxY_ok h
 ·exact indexY_ok h
 ·exact sliceY_ok h
 ·exact convY_ok h
 ·exact sureO_ok h
abbrev W3 := AV × Sto × Nat
def storeY (P : Program) (T : TypeId) (σ : Sto) (a x : AV) : Option (Bool × Sto) :=
 match a with
 | .eref p nm i off => match sget σ p nm with
  | some (.tg e ety l) => match cellsA x, szT P T with
   | some vs, some n => if vs.length = n then (match spliceA (e.cells (l.getD i e.dflt)) off vs with
    | some row' => match absC absF e row' with
     | some y => some (decide (i < l.length), σ.set p (nm, .tg e ety (l.set i y)))
     | none => none
    | none => none) else none
   | _, _ => none
  | _ => sureO (storeA P T σ (.eref p nm i off) x)
 | a => sureO (storeA P T σ a x)
theorem storeY_ok {P : Program} {T : TypeId} {σ σ' : Sto} {a x : AV} (h : storeY P T σ a x = some (true, σ')) : storeA P T σ a x = some σ' := by
 unfold storeY at h
 split at h
 ·rename_i p nm i off
  split at h
  ·rename_i e ety l hs
   split at h
   ·rename_i vs n hv hn
    split at h
    ·rename_i hl
     split at h
     ·rename_i row' hr
      split at h
      ·rename_i y hy
       simp only [Option.some.injEq, Prod.mk.injEq, decide_eq_true_eq] at h
       obtain ⟨h1, rfl⟩ := h
       unfold storeA
       simp only [hv, hn]
       rw [if_pos hl]
       simp only [hs]
       rw [if_pos h1, hr, Option.bind_some, hy, Option.map_some]
      ·cases h
     ·cases h
    ·cases h
   ·cases h
  ·exact sureO_ok h
 ·exact sureO_ok h
def appC (P : Program) (ety sz : Nat) (e : E) : Bool := Nat.blt 0 sz && (match zeroCells P ety with | some z => Nat.beq z.length sz | none => false) && Nat.beq e.size sz
theorem appC_ok {P : Program} {ety sz : Nat} {e : E} (h : appC P ety sz e = true) : 0 < sz ∧ ((zeroCells P ety).map (·.length)) = some sz ∧ e.size = sz := by
 unfold appC at h
 simp only [Bool.and_eq_true, Nat.blt_eq, Nat.beq_eq] at h
 obtain ⟨⟨h0, hz⟩, hs⟩ := h
 refine ⟨h0, ?_, hs⟩
 split at hz
 ·rename_i z e'; rw [e']; simp only [Nat.beq_eq] at hz; simp [hz]
 ·cases hz
def appendY (P : Program) (t t' : TypeId) (e : E) (σ : Sto) (nx : Nat) (x y : AV) : Option (Bool × W3) :=
 match elmT P t with
 | some (ety, sz, bytes) => match elemsT P t' e σ y with
  | some ys => if appC P ety sz e = true then (match x with
   | .base (.slice none 0 0) => some (decide (ys.length * bytes ≤ 140737488355328), .gs σ.length nx e ys.length, σ ++ [(nx, .tg e ety ys)], nx + 1)
   | .gs p nm e' len => match sget σ p nm with
    | some (.tg e2 ety' l) => if h : e2 = e then (if e' = e ∧ ety' = ety then
      some (decide ((l.length + ys.length) * bytes ≤ 140737488355328), .gs p nx e (l.length + ys.length), σ.set p (nx, .tg e ety (castL h l ++ ys)), nx + 1) else none) else none
    | _ => none
   | _ => none) else none
  | none => none
 | none => none
def bytesPos (P : Program) (t : TypeId) : Bool := match elmT P t with
 | some (_, _, bytes) => Nat.blt 0 bytes
 | none => false
theorem lim_of {n bytes : Nat} (hp : 0 < bytes) (h : n * bytes ≤ 140737488355328) : n * bytes ≤ limB ∧ n ≤ 4611686018427387904 := by
 refine ⟨h, ?_⟩
 have : n * 1 ≤ n * bytes := Nat.mul_le_mul_left _ hp
 omega
theorem appendY_ok {P : Program} {t t' : TypeId} {e : E} {σ : Sto} {nx : Nat} {x y : AV} {r : W3} (hp : bytesPos P t = true) (h : appendY P t t' e σ nx x y = some (true, r)) : appendT P t t' e σ nx x y = some r := by
 unfold appendY at h
 unfold bytesPos at hp
 split at h
 ·rename_i ety sz bytes he
  simp only [he, Nat.blt_eq] at hp
  split at h
  ·rename_i ys hys
   split at h
   ·rename_i hc
    unfold appendT
    simp only [he, hys]
    rw [if_pos (appC_ok hc)]
    split at h
    ·simp only [Option.some.injEq, Prod.mk.injEq, decide_eq_true_eq] at h
     obtain ⟨h1, rfl⟩ := h
     simp only
     rw [if_pos (lim_of hp h1)]
    ·split at h
     ·rename_i p nm e' len e2 ety' l hg
      split at h
      ·rename_i he2
       split at h
       ·rename_i hcc
        simp only [Option.some.injEq, Prod.mk.injEq, decide_eq_true_eq] at h
        obtain ⟨h1, rfl⟩ := h
        simp only [hg]
        rw [dif_pos he2, if_pos ⟨hcc.1, hcc.2, lim_of hp h1⟩]
       ·cases h
      ·cases h
     ·cases h
    ·cases h
   ·cases h
  ·cases h
 ·cases h
def makeY (P : Program) (t : TypeId) (e : E) (σ : Sto) (nx : Nat) (l c : AV) : Option (Bool × W3) :=
 match elmT P t with
 | some (ety, sz, bytes) => match l, c with
  | .int _ n, .int _ k => match zeroCells P ety with
   | some z => match absC absF e z with
    | some z' => if (Nat.blt 0 sz && Nat.beq z.length sz && Nat.beq e.size sz) = true then some (decide (0 ≤ n ∧ n ≤ k ∧ k * (bytes : Int) ≤ 281474976710656), .gs σ.length nx e n.toNat, σ ++ [(nx, .tg e ety (List.replicate n.toNat z'))], nx + 1) else none
    | none => none
   | none => none
  | _, _ => none
 | none => none
theorem makeY_ok {P : Program} {t : TypeId} {e : E} {σ : Sto} {nx : Nat} {l c : AV} {r : W3} (hp : bytesPos P t = true) (h : makeY P t e σ nx l c = some (true, r)) : makeT P t e σ nx l c = some r := by
 unfold makeY at h
 unfold bytesPos at hp
 split at h
 ·rename_i ety sz bytes he
  simp only [he, Nat.blt_eq] at hp
  split at h
  ·rename_i kl n kc k
   split at h
   ·rename_i z hz
    split at h
    ·rename_i z' hz'
     simp only [Option.ite_none_right_eq_some, Bool.and_eq_true, Nat.blt_eq, Nat.beq_eq, Option.some.injEq, Prod.mk.injEq, decide_eq_true_eq] at h
     obtain ⟨⟨⟨h0, h1⟩, h2⟩, ⟨h3, h4, h5⟩, rfl⟩ := h
     unfold makeT
     simp only [he, hz, hz']
     have : k ≤ k * (bytes : Int) := by
      have h1 : (1 : Int) ≤ bytes := by omega
      have := Int.mul_le_mul_of_nonneg_left h1 (show 0 ≤ k by omega)
      omega
     rw [if_pos ⟨h0, h1, h2, h3, h4, h5, by omega⟩]
    ·cases h
   ·cases h
  ·cases h
 ·cases h
def shrinkY (P : Program) (t : TypeId) (σ : Sto) (nx : Nat) (x : AV) (lo hi : Option AV) : Option (Bool × W3) :=
 match x with
 | .gs p nm e len => match lo with
  | none => match elmT P t, bndA len none hi, sget σ p nm with
   | some (_, sz, _), some (_, h), some (.tg e2 ety l) => if e = e2 ∧ e.size = sz then some (decide (0 ≤ h ∧ h ≤ (l.length : Int)), .gs p nx e2 h.toNat, σ.set p (nx, .tg e2 ety (l.take h.toNat)), nx + 1) else none
   | _, _, _ => none
  | some _ => none
 | _ => none
theorem shrinkY_ok {P : Program} {t : TypeId} {σ : Sto} {nx : Nat} {x : AV} {lo hi : Option AV} {r : W3} (h : shrinkY P t σ nx x lo hi = some (true, r)) : shrinkT P t σ nx x lo hi = some r := by
 unfold shrinkY at h
 split at h
 ·rename_i p nm e len
  split at h
  ·split at h
   ·rename_i q sz by_ l' hh e2 ety l he hb hg
    simp only [Option.ite_none_right_eq_some, Option.some.injEq, Prod.mk.injEq, decide_eq_true_eq] at h
    obtain ⟨⟨h1, h2⟩, ⟨h3, h4⟩, rfl⟩ := h
    have hl0 : l' = 0 := by
     unfold bndA at hb
     split at hb <;> simp_all
    subst hl0
    unfold shrinkT
    simp only [he, hb, hg]
    rw [if_pos ⟨h1, h2, trivial, h3, h4⟩]
   ·cases h
  ·cases h
 ·cases h
def clearY (P : Program) (t : TypeId) (σ : Sto) (x : AV) : Option (Bool × Sto) :=
 match x with
 | .gv p nm e off len => match elmT P t, sget σ p nm with
  | some (ety, sz, _), some (.tg e2 ety' l) => (match zeroCells P ety with
   | some z => (match absC absF e2 z with
    | some z' => if e = e2 ∧ (Nat.beq e.size sz && Nat.beq z.length sz) = true then some (decide (off + len ≤ l.length), σ.set p (nm, .tg e2 ety' (l.take off ++ (List.replicate len z' ++ l.drop (off + len))))) else none
    | none => none)
   | none => none)
  | _, _ => none
 | _ => none
theorem clearY_ok {P : Program} {t : TypeId} {σ σ' : Sto} {x : AV} (h : clearY P t σ x = some (true, σ')) : clearT P t σ x = some σ' := by
 unfold clearY at h
 split at h
 ·split at h
  ·rename_i ety sz by_ e2 ety' l he hg
   split at h
   ·rename_i z hz
    split at h
    ·rename_i z' hz'
     simp only [Option.ite_none_right_eq_some, Bool.and_eq_true, Nat.beq_eq, Option.some.injEq, Prod.mk.injEq, decide_eq_true_eq] at h
     obtain ⟨⟨h1, h2, h3⟩, h4, rfl⟩ := h
     unfold clearT
     simp only [he, hg, hz, hz']
     rw [if_pos ⟨h1, h2, h3, h4⟩]
    ·cases h
   ·cases h
  ·cases h
 ·cases h
def stkPushY (P : Program) (t t' : TypeId) (pe : Bool) (σ : Sto) (nx : Nat) (x y : AV) : Option (Bool × W3) :=
 match x with
 | .gs p nm e' len => match sget σ p nm with
  | some (.stk e ety l .no) => match y, elmT P t with
   | .vec 1 rows, some (ety', sz, bytes) => if e' = .slice e ∧ slcT P t' = true ∧ sz = 1 ∧ ety' = ety ∧ ((zeroCells P ety).map (·.length)) = some sz ∧ nilRows rows = true ∧ 0 < bytes then
     some (decide ((l.length + rows.length) * bytes ≤ 140737488355328), .gs p nx (.slice e) (l.length + rows.length), σ.set p (nx, .stk e ety (l ++ List.replicate rows.length []) .no), nx + 1) else none
   | _, _ => none
  | some (.hand e ps false r []) => match σ[ps]?, elmT P t, elemsT P t' e σ y with
   | some (n2, .stk e2 ety2 l2 (.out i2 h2 q2 true)), some (fty, sz, bytes), some ys => if e' = e ∧ e2 = e ∧ h2 = p ∧ q2 = nm ∧ ps ≠ p ∧ 0 < sz ∧ ((zeroCells P fty).map (·.length)) = some sz ∧ e.size = sz ∧ 0 < bytes then
     some (decide (i2 < l2.length) && decide ((r.length + ys.length) * bytes ≤ 140737488355328), .gs p nx e (r.length + ys.length), (σ.set ps (n2, .stk e2 ety2 l2 (.out i2 p nx true))).set p (nx, .hand e ps pe r ys), nx + 1) else none
   | _, _, _ => none
  | _ => none
 | _ => none
theorem stkPushY_ok {P : Program} {t t' : TypeId} {pe : Bool} {σ : Sto} {nx : Nat} {x y : AV} {r : W3} (h : stkPushY P t t' pe σ nx x y = some (true, r)) : stkPush P t t' pe σ nx x y = some r := by
 unfold stkPushY at h
 split at h
 ·split at h
  ·rename_i e ety l hs
   split at h
   ·rename_i rows ety' sz bytes he
    simp only [Option.ite_none_right_eq_some, Option.some.injEq, Prod.mk.injEq, decide_eq_true_eq] at h
    obtain ⟨⟨h1, h2, h3, h4, h5, h6, h7⟩, h8, rfl⟩ := h
    unfold stkPush
    simp only [hs, he]
    exact if_pos ⟨h1, h2, h3, h4, h5, h6, (lim_of h7 h8).1, (lim_of h7 h8).2⟩
   ·cases h
  ·rename_i e ps r0 hs
   split at h
   ·rename_i n2 e2 ety2 l2 i2 h2 q2 fty sz bytes ys hps he hys
    simp only [Option.ite_none_right_eq_some, Option.some.injEq, Prod.mk.injEq, Bool.and_eq_true, decide_eq_true_eq] at h
    obtain ⟨⟨h1, h2, h3, h4, h5, h6, h7, h8, h9⟩, ⟨h10, h11⟩, rfl⟩ := h
    unfold stkPush
    simp only [hs, hps, he, hys]
    exact if_pos ⟨h1, h2, h3, h4, h5, h10, h6, h7, h8, (lim_of h9 h11).1, (lim_of h9 h11).2⟩
   ·cases h
  ·cases h
 ·cases h
def stkPopY (P : Program) (t : TypeId) (σ : Sto) (nx : Nat) (x : AV) (lo hi : Option AV) : Option (Bool × W3) :=
 match x with
 | .gs p nm e len => match lo with
  | none => match elmT P t, bndA len none hi, sget σ p nm with
   | some (_, sz, _), some (_, h), some (.stk e2 ety l .no) => if e = .slice e2 ∧ sz = 1 then some (decide (0 ≤ h ∧ h ≤ (l.length : Int)), .gs p nx (.slice e2) h.toNat, σ.set p (nx, .stk e2 ety (l.take h.toNat) .no), nx + 1) else none
   | _, _, _ => none
  | some _ => none
 | _ => none
theorem stkPopY_ok {P : Program} {t : TypeId} {σ : Sto} {nx : Nat} {x : AV} {lo hi : Option AV} {r : W3} (h : stkPopY P t σ nx x lo hi = some (true, r)) : stkPop P t σ nx x lo hi = some r := by
 unfold stkPopY at h
 split at h
 ·rename_i p nm e len
  split at h
  ·split at h
   ·rename_i q sz by_ l' hh e2 ety l he hb hg
    simp only [Option.ite_none_right_eq_some, Option.some.injEq, Prod.mk.injEq, decide_eq_true_eq] at h
    obtain ⟨⟨h1, h2⟩, ⟨h3, h4⟩, rfl⟩ := h
    have hl0 : l' = 0 := by
     unfold bndA at hb
     split at hb <;> simp_all
    subst hl0
    unfold stkPop
    simp only [he, hb, hg]
    exact if_pos ⟨h1, h2, trivial, h3, h4⟩
   ·cases h
  ·cases h
 ·cases h
def stkRdY (P : Program) (T : TypeId) (σ : Sto) (nx : Nat) (a : AV) : Option (Bool × W3) :=
 match a with
 | .eref p nm i 0 => match sget σ p nm with
  | some (.stk e ety l .no) => if aggT P T = some false ∧ 0 < e.size ∧ noHand σ = true then some (decide (i < l.length), .gs σ.length nx e (l.getD i []).length, σ.set p (nm, .stk e ety l (.out i σ.length nx true)) ++ [(nx, .hand e p false (l.getD i []) [])], nx + 1) else none
  | _ => none
 | _ => none
theorem stkRdY_ok {P : Program} {T : TypeId} {σ : Sto} {nx : Nat} {a : AV} {r : W3} (h : stkRdY P T σ nx a = some (true, r)) : stkRd P T σ nx a = some r := by
 unfold stkRdY at h
 split at h
 ·split at h
  ·rename_i e ety l hs
   simp only [Option.ite_none_right_eq_some, Option.some.injEq, Prod.mk.injEq, decide_eq_true_eq] at h
   obtain ⟨⟨h1, h2, h3⟩, h4, rfl⟩ := h
   unfold stkRd
   simp only [hs]
   exact if_pos ⟨h4, h1, h2, h3⟩
  ·cases h
 ·cases h
def ysop (C : Cx) (e : E) (pe : Bool) (op : Op) (env : Nat → AV) (σ : Sto) (nx : Nat) : Option (Bool × W3) :=
 match op with
 | .buildSlice t len parts => sureO (stkNew C.P t len e σ nx (parts.toList.map fun p => (p.1, opv C env p.2)))
 | .load T a => stkRdY C.P T σ nx (opv C env a)
 | .slice t x lo hi none => stkPopY C.P t σ nx (opv C env x) (lo.map (opv C env)) (hi.map (opv C env))
 | .call c => match c.callee, c.argTypes.toList, c.args.toList.map (opv C env) with
  | .builtin .append, [t, t'], [x, y] => stkPushY C.P t t' pe σ nx x y
  | _, _, _ => none
 | _ => none
theorem ysop_ok {C : Cx} {e : E} {pe : Bool} {op : Op} {env : Nat → AV} {σ : Sto} {nx : Nat} {r : W3} (h : ysop C e pe op env σ nx = some (true, r)) : sop C e pe op env σ nx = some r := by
 unfold ysop at h
 split at h
 ·exact sureO_ok h
 ·exact stkRdY_ok h
 ·exact stkPopY_ok h
 ·split at h
  ·rename_i c t t' x y h1 h2 h3
   simp only [sop, h1, h2, h3]
   exact stkPushY_ok h
  ·cases h
 ·cases h
def storeOY (P : Program) (T : TypeId) (σ : Sto) (a x : AV) : Option (Bool × Sto) :=
 match a, x with
 | .eref p nm i 0, .gs h q e len => match sget σ p nm, sget σ h q with
  | some (.stk e1 ety l (.out i' h' q' true)), some (.hand e2 ps pe r ys) => if he : e2 = e1 then (if q' = q ∧ h' = h ∧ h ≠ p ∧ aggT P T = some false ∧ szT P T = some 1 then
    some (decide (i' = i) && decide (i < l.length), cond pe (σ.set p (nm, .stk e1 ety l (.out i h q false))) ((σ.set p (nm, .stk e1 ety (l.set i (castL he (r ++ ys))) .no)).set h (q, .none))) else none) else none
  | _, _ => none
 | _, _ => none
theorem storeOY_ok {P : Program} {T : TypeId} {σ σ' : Sto} {a x : AV} (h : storeOY P T σ a x = some (true, σ')) : storeO P T σ a x = some σ' := by
 unfold storeOY at h
 split at h
 ·split at h
  ·rename_i e1 ety l i' h' q' e2 ps pe r ys hs1 hs2
   split at h
   ·rename_i he
    simp only [Option.ite_none_right_eq_some, Option.some.injEq, Prod.mk.injEq, Bool.and_eq_true, decide_eq_true_eq] at h
    obtain ⟨⟨h1, h2, h3, h4, h5⟩, ⟨h6, h7⟩, rfl⟩ := h
    unfold storeO
    simp only [hs1, hs2]
    rw [dif_pos he, if_pos ⟨h6, h1, h2, h7, h3, h4, h5⟩]
    cases pe <;> rfl
   ·cases h
  ·cases h
 ·cases h
def storeHY (P : Program) (T : TypeId) (σ : Sto) (a x : AV) : Option (Bool × Sto) :=
 match a with
 | .eref h q i off => match cellsA x with
  | some vs => match szT P T with
   | some n => match sget σ h q with
    | some (.hand e ps true r ys) => if vs.length = n ∧ ps ≠ h then (match spliceA (e.cells (ys.getD (i - r.length) e.dflt)) off vs with
     | some row' => (match absC absF e row' with
      | some y => (match σ[ps]? with
       | some (n2, .stk e2 ety2 l2 (.out i2 h2 q2 b2)) => if he : e = e2 then (if h2 = h ∧ q2 = q then
         some ((decide (r.length ≤ i) && decide (i < r.length + ys.length)) && decide (i2 < l2.length), cond b2 (σ.set h (q, .hand e ps false r (ys.set (i - r.length) y))) ((σ.set ps (n2, .stk e2 ety2 (l2.set i2 (castL he (r ++ ys.set (i - r.length) y))) .no)).set h (q, .none))) else none) else none
       | _ => none)
      | none => none)
     | none => none) else none
    | _ => none
   | none => none
  | none => none
 | _ => none
theorem storeHY_ok {P : Program} {T : TypeId} {σ σ' : Sto} {a x : AV} (h : storeHY P T σ a x = some (true, σ')) : storeH P T σ a x = some σ' := by
 unfold storeHY at h
 split at h
 ·split at h
  ·rename_i vs hvs
   split at h
   ·rename_i n hn
    split at h
    ·rename_i e ps r ys hs
     split at h
     ·rename_i hc
      split at h
      ·rename_i row' hr
       split at h
       ·rename_i y hy
        split at h
        ·rename_i n2 e2 ety2 l2 i2 h2 q2 b2 hps
         split at h
         ·rename_i he
          simp only [Option.ite_none_right_eq_some, Option.some.injEq, Prod.mk.injEq, Bool.and_eq_true, decide_eq_true_eq] at h
          obtain ⟨⟨h1, h2⟩, ⟨⟨h3, h4⟩, h5⟩, rfl⟩ := h
          unfold storeH
          simp only [hvs, hn, hs]
          rw [if_pos ⟨hc.1, h3, h4, hc.2⟩, hr, Option.bind_some, hy]
          simp only [hps]
          rw [dif_pos he, if_pos ⟨h1, h2, h5⟩]
          cases b2 <;> rfl
         ·cases h
        ·cases h
       ·cases h
      ·cases h
     ·cases h
    ·cases h
   ·cases h
  ·cases h
 ·cases h
theorem storeO_none {P : Program} {T : TypeId} {σ σ' : Sto} {a x : AV} (h : storeO P T σ a x = some σ') : storeA P T σ a x = none ∧ True := by
 refine ⟨?_, trivial⟩
 unfold storeO at h
 split at h
 ·split at h
  ·rename_i e1 ety l i' h' q' e2 ps pe r ys hs1 hs2
   unfold storeA
   split
   ·split
    ·simp only [hs1]
    ·rfl
   ·rfl
  ·cases h
 ·cases h
theorem storeH_none {P : Program} {T : TypeId} {σ σ' : Sto} {a x : AV} (h : storeH P T σ a x = some σ') : storeA P T σ a x = none ∧ storeO P T σ a x = none := by
 unfold storeH at h
 split at h
 ·split at h
  ·rename_i e ps r ys hs
   refine ⟨?_, ?_⟩
   ·unfold storeA
    split
    ·split
     ·simp only [hs]
     ·rfl
    ·rfl
   ·unfold storeO
    split
    ·rename_i h1 h2
     cases h1
     split
     ·rename_i hs1 _
      rw [hs] at hs1; cases hs1
     ·rfl
    ·rfl
  ·cases h
 ·cases h
def storeSY (P : Program) (T : TypeId) (σ : Sto) (a x : AV) : Option (Bool × Sto) :=
 match storeOY P T σ a x with
 | some r => some r
 | none => storeHY P T σ a x
theorem storeSY_ok {P : Program} {T : TypeId} {σ σ' : Sto} {a x : AV} (h : storeSY P T σ a x = some (true, σ')) : storeA P T σ a x = none ∧ storeS P T σ a x = some σ' := by
 unfold storeSY at h
 split at h
 ·rename_i r hr
  cases h
  have h1 := storeOY_ok hr
  exact ⟨(storeO_none h1).1, by unfold storeS; rw [h1]⟩
 ·have h1 := storeHY_ok h
  exact ⟨(storeH_none h1).1, by unfold storeS; rw [(storeH_none h1).2]; exact h1⟩
def yeop0 (C : Cx) (ty : Option E) (op : Op) (env : Nat → AV) (σ : Sto) (nx : Nat) : Option (Bool × W3) :=
 match op with
 | .store T a x => match storeY C.P T σ (opv C env a) (opv C env x) with
  | some (b, σ') => some (b, .undef, σ', nx)
  | none => match storeSY C.P T σ (opv C env a) (opv C env x) with
   | some (b, σ') => some (b, .undef, σ', nx)
   | none => none
 | .makeSlice t l c => match ty with
  | some e => if bytesPos C.P t = true then makeY C.P t e σ nx (opv C env l) (opv C env c) else none
  | none => sureO (makeA C.P t σ nx (opv C env l) (opv C env c))
 | .slice t x lo hi none => shrinkY C.P t σ nx (opv C env x) (lo.map (opv C env)) (hi.map (opv C env))
 | .call c => match c.callee, c.argTypes.toList, c.args.toList.map (opv C env) with
  | .builtin .append, [t, t'], [x, y] => match ty with
   | some e => if bytesPos C.P t = true then appendY C.P t t' e σ nx x y else none
   | none => sureO (appendA C.P t t' σ nx x y)
  | .builtin .clear, [t], [x] => match clearY C.P t σ x with
   | some (b, σ') => some (b, .tup [], σ', nx)
   | none => none
  | _, _, _ => none
 | op => sureO (eop0 C ty op env σ nx)
theorem yeop0_ok {C : Cx} {ty : Option E} {op : Op} {env : Nat → AV} {σ : Sto} {nx : Nat} {r : W3} (h : yeop0 C ty op env σ nx = some (true, r)) : eop0 C ty op env σ nx = some r := by
 unfold yeop0 at h
 split at h
 ·split at h
  ·rename_i b σ' hs
   simp only [Option.some.injEq, Prod.mk.injEq] at h
   obtain ⟨rfl, rfl⟩ := h
   simp only [eop0, storeY_ok hs, Option.map_some, orS]
  ·split at h
   ·rename_i b σ' hs
    simp only [Option.some.injEq, Prod.mk.injEq] at h
    obtain ⟨rfl, rfl⟩ := h
    obtain ⟨h1, h2⟩ := storeSY_ok hs
    simp only [eop0, h1, h2, Option.map_none, Option.map_some, orS]
   ·cases h
 ·split at h
  ·split at h
   ·rename_i hp; exact makeY_ok hp h
   ·cases h
  ·exact sureO_ok h
 ·exact shrinkY_ok h
 ·split at h
  ·rename_i c t t' x y h1 h2 h3
   simp only [eop0, h1, h2, h3]
   split at h
   ·split at h
    ·rename_i hp; exact appendY_ok hp h
    ·cases h
   ·exact sureO_ok h
  ·rename_i c t x h1 h2 h3
   simp only [eop0, h1, h2, h3]
   split at h
   ·rename_i b σ' hs
    simp only [Option.some.injEq, Prod.mk.injEq] at h
    obtain ⟨rfl, rfl⟩ := h
    simp only [clearY_ok hs, Option.map_some]
   ·cases h
  ·cases h
 ·exact sureO_ok h
def yeop (C : Cx) (ty : Option E) (op : Op) (env : Nat → AV) (σ : Sto) (nx : Nat) : Option (Bool × W3) :=
 match op with
 | .buildSlice t len parts => match isSE ty with
  | some e => ysop C e.1 e.2 (.buildSlice t len parts) env σ nx
  | none => yeop0 C ty (.buildSlice t len parts) env σ nx
 | .load T a => match isSE ty with
  | some e => ysop C e.1 e.2 (.load T a) env σ nx
  | none => none
 | .slice t x lo hi mx => match isSE ty with
  | some e => ysop C e.1 e.2 (.slice t x lo hi mx) env σ nx
  | none => yeop0 C ty (.slice t x lo hi mx) env σ nx
 | .call c => match isSE ty with
  | some e => ysop C e.1 e.2 (.call c) env σ nx
  | none => yeop0 C ty (.call c) env σ nx
 | op => yeop0 C ty op env σ nx
theorem yeop_ok {C : Cx} {ty : Option E} {op : Op} {env : Nat → AV} {σ : Sto} {nx : Nat} {r : W3} (h : yeop C ty op env σ nx = some (true, r)) : eop C ty op env σ nx = some r := by
 cases op with
 | buildSlice t len parts =>
  simp only [yeop] at h
  simp only [eop]
  cases hs : isSE ty with
  | some e => rw [hs] at h; exact ysop_ok h
  | none => rw [hs] at h; exact yeop0_ok h
 | load T a =>
  simp only [yeop] at h
  simp only [eop]
  cases hs : isSE ty with
  | some e => rw [hs] at h; exact ysop_ok h
  | none => rw [hs] at h; cases h
 | slice t a lo hi mx =>
  simp only [yeop] at h
  simp only [eop]
  cases hs : isSE ty with
  | some e => rw [hs] at h; exact ysop_ok h
  | none => rw [hs] at h; exact yeop0_ok h
 | call c =>
  simp only [yeop] at h
  simp only [eop]
  cases hs : isSE ty with
  | some e => rw [hs] at h; exact ysop_ok h
  | none => rw [hs] at h; exact yeop0_ok h
 | _ => simp only [yeop] at h; simp only [eop]; exact yeop0_ok h
end Go.Ab

namespace Go.Ab
open Go Go.RowKit
def osto (k : Nat) (os : Slots) (x : denO os) : Sto := patOs (plO k os x) (fun j => nameOf k j os) 0 os x
mutual
def shOK : Sh → Bool
 | .d _ => true
 | .c v => eqA v v
 | .ref _ _ => true
 | .gs _ _ => true
 | .mref _ _ => true
 | .gv _ _ => true
 | .agg l => shOKL l
 | .tup l => shOKL l
 | .rptr l => shOKL l
 | .fn _ a b => shOKL a && shOKL b
 | .iface _ s => shOK s
def shOKL : List Sh → Bool
 | [] => true
 | s :: l => shOK s && shOKL l
end
def oshOK : OSh → Bool
 | .cells _ l => shOKL l
 | .tg _ _ => true
 | .stk _ _ => true
def slotsOK : Slots → Bool
 | [] => true
 | (_, o) :: l => oshOK o && slotsOK l
theorem slotsOK_get : ∀ {l : Slots}, slotsOK l = true → ∀ (i : Nat) (kp : Bool) (o : OSh), l[i]? = some (kp, o) → oshOK o = true
 | [], _, i, kp, o, e => by simp at e
 | (kp0, o0) :: l, h, i, kp, o, e => by
  simp only [slotsOK, Bool.and_eq_true] at h
  cases i with
  | zero => simp at e; rw [← e.2]; exact h.1
  | succ i => exact slotsOK_get h.2 i kp o (by simpa using e)
section
variable {kn : Kn} {m m' : Mp} {ρ ρ' : Pl}
mutual
theorem patV_ren (hm : ∀ j loc, m (ρ j).2.1 = some loc → m' (ρ' j).2.1 = some loc) (hl : ∀ j, (ρ' j).2.2 = (ρ j).2.2) : ∀ (s : Sh) (x : s.den) (v : Value), shOK s = true → Rel kn m (patV ρ s x) v → Rel kn m' (patV ρ' s x) v
 | .d e, x, v, h, hr => hr.rf (E.av_rf e x) m'
 | .c a, x, v, h, hr => hr.rf (eqA_sound h).2 m'
 | .ref j off, x, v, h, hr => by
  cases hr with
  | ref _ _ _ loc e => exact .ref _ _ _ loc (hm j loc e)
 | .gs j e, x, v, h, hr => by
  cases hr with
  | gs _ _ _ _ _ loc e1 e2 hr =>
   show Rel kn m' (.gs (ρ' j).1 (ρ' j).2.1 e (ρ' j).2.2) v
   rw [hl j]
   refine .gs _ _ _ _ _ loc (hm j loc e1) e2 ?_
   generalize hlen : (ρ j).2.2 = len at hr ⊢
   cases hr with
   | srefNil _ _ _ loc' h1 h2 => exact .srefNil _ _ _ loc' (hm j loc' h1) h2
   | sref _ _ _ _ _ loc' h1 h2 h3 h4 h5 => exact .sref _ _ _ _ _ loc' (hm j loc' h1) h2 h3 h4 h5
 | .gv j e, (x : Nat × Nat), v, h, hr => by
  have hr : Rel kn m (.gv (ρ j).1 (ρ j).2.1 e x.1 x.2) v := hr
  show Rel kn m' (.gv (ρ' j).1 (ρ' j).2.1 e x.1 x.2) v
  obtain ⟨o, l⟩ := x
  simp only at hr ⊢
  cases hr with
  | gvE => exact .gvE _ _ _ _ _ _
  | gvS _ _ _ _ _ _ hq =>
   refine .gvS _ _ _ _ _ _ ?_
   cases hq with
   | srefNil _ _ _ loc h1 h2 => exact .srefNil _ _ _ loc (hm j loc h1) h2
   | sref _ _ _ _ _ loc h1 h2 h3 h4 h5 => exact .sref _ _ _ _ _ loc (hm j loc h1) h2 h3 h4 h5
 | .mref j off, (b : Bool), v, h, hr => by
  cases hr with
  | mrefSome _ _ _ loc e => exact .mrefSome _ _ _ loc (hm j loc e)
  | mrefNil => exact .mrefNil _ _ _
 | .agg l, x, v, h, hr => by
  obtain ⟨us, q1, q2⟩ := rel_agg_conv (m' := m') (ds := patL ρ' l x) hr
  exact q2 (patL_ren hm hl l x us h q1)
 | .tup l, x, v, h, hr => by
  obtain ⟨us, q1, q2⟩ := rel_tup_conv (m' := m') (ds := patL ρ' l x) hr
  exact q2 (patL_ren hm hl l x us h q1)
 | .rptr l, x, v, h, hr => by
  obtain ⟨us, q1, q2⟩ := rel_rptr_conv (m' := m') (ds := patL ρ' l x) hr
  exact q2 (patL_ren hm hl l x us h q1)
 | .fn f a b, x, v, h, hr => by
  simp only [shOK, Bool.and_eq_true] at h
  obtain ⟨us, ws, q1, q2, q3⟩ := rel_fn_conv (m' := m') (a' := patL ρ' a x.1) (b' := patL ρ' b x.2) hr
  exact q3 (patL_ren hm hl a x.1 us h.1 q1) (patL_ren hm hl b x.2 ws h.2 q2)
 | .iface t s, x, v, h, hr => by
  cases hr with
  | iface _ _ u hu => exact .iface _ _ u (patV_ren hm hl s x u h hu)
theorem patL_ren (hm : ∀ j loc, m (ρ j).2.1 = some loc → m' (ρ' j).2.1 = some loc) (hl : ∀ j, (ρ' j).2.2 = (ρ j).2.2) : ∀ (l : List Sh) (x : Sh.denL l) (us : List Value), shOKL l = true → RelL kn m (patL ρ l x) us → RelL kn m' (patL ρ' l x) us
 | [], x, us, h, hr => ⟨hr.1, fun i x v a => by simp [patL] at a⟩
 | s :: l, x, us, h, hr => by
  simp only [shOKL, Bool.and_eq_true] at h
  obtain ⟨v, vs, rfl, h1, h2⟩ := RelL.uncons hr
  exact .cons (patV_ren hm hl s x.1 v h.1 h1) (patL_ren hm hl l x.2 vs h.2 h2)
end
theorem stkRows_rfl (rv : List Value) : ∀ r ∈ stkRows .no rv, RFL r := fun r hr => by
 simp only [stkRows, List.mem_map] at hr
 obtain ⟨v, _, rfl⟩ := hr
 exact ⟨trivial, trivial⟩
theorem patO_ren {P : Program} {B : Base} {w : World} (hm : ∀ j loc, m (ρ j).2.1 = some loc → m' (ρ' j).2.1 = some loc) (hl : ∀ j, (ρ' j).2.2 = (ρ j).2.2) {o : OSh} {x : o.den} {nm nm' : Nat} (hok : oshOK o = true) (hlaid : ∃ loc, m nm = some loc) (he : m' nm' = m nm)
  (h : ObjRel P B kn m w nm (patO ρ o x)) : ObjRel P B kn m' w nm' (patO ρ' o x) := by
 obtain ⟨loc, hloc⟩ := hlaid
 cases o with
 | cells T l =>
  simp only [patO, ObjRel, he, hloc] at h ⊢
  obtain ⟨h0, h1, arr, h2, h3, h4⟩ := h
  exact ⟨h0, h1, arr, h2, patL_ren hm hl l x _ hok h3, h4⟩
 | tg e ety => exact GvRel.rf h he (rows_rfl _ _)
 | stk e ety =>
  obtain ⟨rv, h1, h2, h3, h4, h5⟩ := h
  exact ⟨rv, h1.rf he (stkRows_rfl rv), h2, h3, h4, trivial⟩
theorem patOs_get (nmf : Nat → Nat) : ∀ (l : Slots) (j : Nat) (x : denO l) (i : Nat), (patOs ρ nmf j l x)[i]? = none ∨ ∃ kp o y, l[i]? = some (kp, o) ∧ ∀ (ρ' : Pl) nmf', (patOs ρ' nmf' j l x)[i]? = some (nmf' (j + i), patO ρ' o y)
 | [], j, x, i => .inl rfl
 | (kp, o) :: l, j, x, 0 => .inr ⟨kp, o, x.1, rfl, fun _ _ => rfl⟩
 | (_, _) :: l, j, x, i + 1 => by
  rcases patOs_get nmf l (j + 1) x.2 i with h | ⟨kp, o, y, h1, h2⟩
  ·exact .inl h
  ·refine .inr ⟨kp, o, y, h1, fun ρ' nmf' => ?_⟩
   have := h2 ρ' nmf'
   rw [show j + 1 + i = j + (i + 1) by omega] at this
   exact this
end
section
variable {C : Cx} {B : Base} {kn : Kn} {m : Mp} {σ : Sto} {nx : Nat} {w : World}
theorem norm_core {os : Slots} {β1 βf : Binds} {o : denO os} (hfl : ∀ (j : Nat) (kp : Bool) (o' : OSh), os[j]? = some (kp, o') → kp = false) (ho : absOs os σ β1 0 os = some (o, βf)) (v1 : VB m os β1) (hI : Inv C B kn m σ nx w) :
  Ext β1 βf ∧ Link m (mNew 0 os βf m) (plO 0 os o) os βf ∧ Inv C B kn (mNew 0 os βf m) (osto 0 os o) (0 + os.length) w ∧ (∀ j, j < os.length → ∃ loc, mNew 0 os βf m j = some loc) ∧
   (∀ j p nm, bget βf j = some (.at p nm) → mNew 0 os βf m j = m nm ∧ j < os.length ∧ ∃ ob loc, σ[p]? = some (nm, ob) ∧ live ob ∧ m nm = some loc ∧ isHand ob = false) ∧
   (∀ j j' p nm nm', bget βf j = some (.at p nm) → bget βf j' = some (.at p nm') → j = j') ∧
   (∀ i nm' ob' loc, (osto 0 os o)[i]? = some (nm', ob') → mNew 0 os βf m nm' = some loc → loc.nil = false → ∃ p nm, bget βf i = some (.at p nm) ∧ m nm = some loc) ∧
   (∀ i nm' ob', (osto 0 os o)[i]? = some (nm', ob') → isStk ob' = true → ∃ p nm ob, bget βf i = some (.at p nm) ∧ σ[p]? = some (nm, ob) ∧ isStk ob = true) := by
 obtain ⟨e2, v2, r2⟩ := absOs_ok (os := os) hI os 0 β1 βf o ho v1
 simp only [SlotOk, Nat.zero_add] at r2
 have hlt : ∀ j b, bget βf j = some b → j < os.length := fun j b e => by
  have := v2.dom j b e
  cases hs : os[j]? with
  | none => rw [hs] at this; cases this
  | some q => exact (List.getElem?_eq_some_iff.1 hs).1
 have hget : ∀ j, j < os.length → ∃ o', os[j]? = some (false, o') := fun j hj => by
  have := hfl j (os[j]'hj).1 (os[j]'hj).2 (List.getElem?_eq_getElem hj)
  exact ⟨(os[j]'hj).2, by rw [List.getElem?_eq_getElem hj, ← this]⟩
 have hnm : ∀ j, nameOf 0 j os = j := fun j => by
  unfold nameOf
  split
  ·rfl
  ·omega
 have hmn : ∀ j, j < os.length → mNew 0 os βf m j = match bget βf j with
   | some (.at _ nm) => m nm
   | some .nil => some nilLoc
   | none => none := fun j hj => by
  obtain ⟨o', e⟩ := hget j hj
  unfold mNew
  rw [if_neg (by omega), Nat.sub_zero, e]
  try rfl
 have hat : ∀ j p nm, bget βf j = some (.at p nm) → mNew 0 os βf m j = m nm := fun j p nm e => by rw [hmn j (hlt j _ e), e]
 have hnil : ∀ j, bget βf j = some .nil → mNew 0 os βf m j = some nilLoc := fun j e => by rw [hmn j (hlt j _ e), e]
 have hlink : Link m (mNew 0 os βf m) (plO 0 os o) os βf := fun j b e => by
  have hj := hlt j b e
  obtain ⟨b', q1, _, _, q4, _, _⟩ := r2 j _ _ (List.getElem?_eq_getElem hj)
  cases b with
  | nil =>
   rw [e] at q1; cases q1
   refine ⟨nilLoc, ?_, rfl, rfl, q4.1 rfl⟩
   show mNew 0 os βf m (nameOf 0 j os) = _
   rw [hnm]; exact hnil j e
  | «at» p nm =>
   refine ⟨?_, fun e' loc hst hm => ?_⟩
   ·show mNew 0 os βf m (nameOf 0 j os) = _
    rw [hnm]; exact hat j p nm e
   ·unfold slotTg at hst
    split at hst
    ·rename_i kp o2 hs
     obtain ⟨b', q1, _, _, q4, _, _⟩ := r2 j _ _ hs
     rw [e] at q1; cases q1
     exact q4.2 e' hst p nm loc rfl hm
    ·cases hst
 have hent : ∀ i nm' ob', (osto 0 os o)[i]? = some (nm', ob') → nm' = i ∧ i < os.length ∧ live ob' ∧ ObjRel C.P B kn (mNew 0 os βf m) w nm' ob' ∧
   ∃ b, bget βf i = some b ∧ (∀ p nm, b = .at p nm → ∃ ob, σ[p]? = some (nm, ob) ∧ live ob ∧ isHand ob = false) ∧ (isStk ob' = true → ∃ p nm ob, b = .at p nm ∧ σ[p]? = some (nm, ob) ∧ isStk ob = true) := fun i nm' ob' e => by
  have hi := (List.getElem?_eq_some_iff.1 e).1
  unfold osto at hi
  rw [patOs_len] at hi
  obtain ⟨b, q1, q2, q3, q4, q4', q5⟩ := r2 i _ _ (List.getElem?_eq_getElem hi)
  obtain ⟨ob2, p1, p2, p3, p4⟩ := q5 _ (plO 0 os o) (fun j => nameOf 0 j os) hlink
  unfold osto at e
  have hsk := patOs_sk (ρ := plO 0 os o) (fun j => nameOf 0 j os) os 0 o i _ _ e (List.getElem?_eq_getElem hi)
  rw [e] at p1; cases p1
  refine ⟨hnm i, hi, p2, ?_, b, q1, q2, fun s => q4' (hsk.symm.trans s)⟩
  have hni : nameOf 0 i os = i := hnm i
  cases b with
  | nil => exact p4 rfl nilLoc (by rw [hni]; exact hnil i q1) rfl rfl
  | «at» p nm => exact p3 p nm rfl (by rw [hni]; exact hat i p nm q1)
 have hgetloc : ∀ i b loc, bget βf i = some b → mNew 0 os βf m i = some loc → loc.nil = false → ∃ p nm, b = .at p nm ∧ m nm = some loc := fun i b loc e hm hn => by
  cases b with
  | nil => rw [hnil i e] at hm; cases hm; cases hn
  | «at» p nm => exact ⟨p, nm, rfl, by rw [← hat i p nm e]; exact hm⟩
 refine ⟨e2, hlink, ⟨hI.knok, hI.size, hI.os, hI.tape, hI.output, hI.old, fun i nm' ob' e => ?_, fun i nm' ob' loc e hl hm hn => ?_, fun i1 n1 ob1 l1 i2 n2 ob2 l2 f1 f2 w1 w2 m1 m2 hn1 hn2 hne => ?_, fun q hq => ?_, fun i nm' ob' e => ?_, fun i1 i2 n1 ob1 ob2 f1 f2 => ?_, fun i1 i2 n1 n2 ob1 ob2 f1 f2 s1 s2 => ?_, fun g => (hI.glob g).rf (C.rf g) _, hI.tab⟩, fun j hj => ?_, fun j p nm e => ?_, v2.one, fun i nm' ob' loc e hm hn => ?_, fun i nm' ob' e s => ?_⟩
 ·obtain ⟨rfl, _, _, q, _⟩ := hent i nm' ob' e; exact q
 ·obtain ⟨rfl, _, _, _, b, q1, q2, _⟩ := hent i nm' ob' e
  obtain ⟨p, nm, rfl, hm'⟩ := hgetloc _ b loc q1 hm hn
  obtain ⟨ob, hp, hlv, hnh⟩ := q2 p nm rfl
  obtain ⟨w1, w2, w3⟩ := hI.own p nm ob loc hp hlv hm' hn
  exact ⟨w1, w2, fun _ => w3 hnh⟩
 ·obtain ⟨rfl, _, _, _, b1, q1, q2, _⟩ := hent i1 n1 ob1 f1
  obtain ⟨rfl, _, _, _, b2, q1', q2', _⟩ := hent i2 n2 ob2 f2
  obtain ⟨p, nm, rfl, hm'⟩ := hgetloc _ b1 l1 q1 m1 hn1
  obtain ⟨p', nm', rfl, hm''⟩ := hgetloc _ b2 l2 q1' m2 hn2
  obtain ⟨ob, hp, hlv, _⟩ := q2 p nm rfl
  obtain ⟨ob', hp', hlv', _⟩ := q2' p' nm' rfl
  refine hI.dist p nm ob l1 p' nm' ob' l2 hp hp' hlv hlv' hm' hm'' hn1 hn2 (fun e => hne ?_)
  subst e
  exact v2.one _ _ p nm nm' q1 q1'
 ·have hq : 0 + os.length ≤ q := hq
  unfold mNew
  rw [if_neg (by omega), List.getElem?_eq_none (by omega)]
 ·obtain ⟨rfl, hi, _⟩ := hent i nm' ob' e
  omega
 ·obtain ⟨h1, _⟩ := hent i1 n1 ob1 f1
  obtain ⟨h2, _⟩ := hent i2 n1 ob2 f2
  omega
 ·obtain ⟨_, _, _, _, b1, q1, _, q3⟩ := hent i1 n1 ob1 f1
  obtain ⟨_, _, _, _, b2, q1', _, q3'⟩ := hent i2 n2 ob2 f2
  obtain ⟨p, nm, ob, rfl, h1, h2⟩ := q3 s1
  obtain ⟨p', nm', ob', rfl, h1', h2'⟩ := q3' s2
  have := hI.stk1 _ _ _ _ _ _ h1 h1' h2 h2'
  subst this
  exact v2.one i1 i2 p nm nm' q1 q1'
 ·obtain ⟨b, q1, q2, _⟩ := r2 j _ _ (List.getElem?_eq_getElem hj)
  cases b with
  | nil => exact ⟨nilLoc, hnil j q1⟩
  | «at» p nm =>
   obtain ⟨loc, hl⟩ := v2.laid j p nm q1
   exact ⟨loc, by rw [hat j p nm q1]; exact hl⟩
 ·have hj := hlt j _ e
  obtain ⟨b, q1, q2, _⟩ := r2 j _ _ (List.getElem?_eq_getElem hj)
  rw [e] at q1; cases q1
  obtain ⟨ob, h1, h2, h2'⟩ := q2 p nm rfl
  obtain ⟨loc, hl⟩ := v2.laid j p nm e
  exact ⟨hat j p nm e, hj, ob, loc, h1, h2, hl, h2'⟩
 ·obtain ⟨rfl, _, _, _, b, q1, q2, _⟩ := hent i nm' ob' e
  obtain ⟨p, nm, rfl, h⟩ := hgetloc _ b loc q1 hm hn
  exact ⟨p, nm, q1, h⟩
 ·obtain ⟨_, _, _, _, b, q1, _, q3⟩ := hent i nm' ob' e
  obtain ⟨p, nm, ob, rfl, h1, h2⟩ := q3 s
  exact ⟨p, nm, ob, q1, h1, h2⟩
end
structure OSig where
 pre : Slots
 args : List Sh
 post : Slots
 res : Sh
 f : Sh.denL args × denO pre → Option (res.den × denO post)
def allNew : Slots → Bool
 | [] => true
 | (kp, _) :: l => !kp && allNew l
theorem allNew_get : ∀ {l : Slots}, allNew l = true → ∀ (j : Nat) (kp : Bool) (o : OSh), l[j]? = some (kp, o) → kp = false
 | [], _, j, kp, o, e => by simp at e
 | (kp0, o0) :: l, h, j, kp, o, e => by
  simp only [allNew, Bool.and_eq_true, Bool.not_eq_true'] at h
  cases j with
  | zero => simp at e; rw [← e.1]; exact h.1
  | succ j => exact allNew_get h.2 j kp o (by simpa using e)
def skOK (pre post : Slots) : Bool := !anySk post || anySk pre
def OSig.ok (s : OSig) : Bool := (allNew s.pre && skOK s.pre s.post) && (keepB s.pre.length 0 s.post && (slotsOK s.post && shOK s.res))
def OOK (C : Cx) (g : FuncId) (s : OSig) : Prop := s.ok = true ∧ ∀ x r, s.f x = some r → ∀ (B : Base) (kn : Kn) (m : Mp) (w : World) (vs : List Value), Inv C B kn m (osto 0 s.pre x.2) (0 + s.pre.length) w → (∀ i, i < s.pre.length → ∃ loc, m i = some loc) → RelL kn m (patL (plO 0 s.pre x.2) s.args x.1) vs →
 Does C.P g vs.toArray w fun e w' => ∃ kn' m', KnLe kn kn' ∧ Inv C B kn' m' (osto s.pre.length s.post r.2) (s.pre.length + s.post.length) w' ∧ (∀ i, i < s.pre.length → m' i = m i) ∧ (∀ j, j < s.post.length → ∃ loc, m' (nameOf s.pre.length j s.post) = some loc) ∧
  RelOut kn' m' (.ret (patV (plO s.pre.length s.post r.2) s.res r.1)) e
inductive OutD (α β : Type) where
 | ret (a : α)
 | pan (b : β)
structure QSig where
 pre : Slots
 args : List Sh
 post : Slots
 res : Sh
 pv : Sh
 f : Sh.denL args × denO pre → Option (OutD res.den pv.den × denO post)
def outD (ρ : Pl) (res pv : Sh) : OutD res.den pv.den → AOut
 | .ret r => .ret (patV ρ res r)
 | .pan b => .pan (patV ρ pv b)
def QSig.ok (s : QSig) : Bool := (allNew s.pre && skOK s.pre s.post) && (keepB s.pre.length 0 s.post && (slotsOK s.post && (shOK s.res && shOK s.pv)))
def QOK (C : Cx) (g : FuncId) (s : QSig) : Prop := s.ok = true ∧ ∀ x r, s.f x = some r → ∀ (B : Base) (kn : Kn) (m : Mp) (w : World) (vs : List Value), Inv C B kn m (osto 0 s.pre x.2) (0 + s.pre.length) w → (∀ i, i < s.pre.length → ∃ loc, m i = some loc) → RelL kn m (patL (plO 0 s.pre x.2) s.args x.1) vs →
 Does C.P g vs.toArray w fun e w' => ∃ kn' m', KnLe kn kn' ∧ Inv C B kn' m' (osto s.pre.length s.post r.2) (s.pre.length + s.post.length) w' ∧ (∀ i, i < s.pre.length → m' i = m i) ∧ (∀ j, j < s.post.length → ∃ loc, m' (nameOf s.pre.length j s.post) = some loc) ∧
  RelOut kn' m' (outD (plO s.pre.length s.post r.2) s.res s.pv r.1) e
def retD {α β γ : Type} : Option (α × γ) → Option (OutD α β × γ)
 | some r => some (.ret r.1, r.2)
 | none => none
def OSig.toQ (s : OSig) : QSig := ⟨s.pre, s.args, s.post, s.res, .d .un, fun x => retD (s.f x)⟩
theorem OOK.toQ {C : Cx} {g : FuncId} {s : OSig} (h : OOK C g s) : QOK C g s.toQ := by
 obtain ⟨hok, h⟩ := h
 refine ⟨?_, fun x r hr => ?_⟩
 ·simp only [OSig.ok, Bool.and_eq_true] at hok
  simp only [QSig.ok, OSig.toQ, Bool.and_eq_true]
  exact ⟨hok.1, hok.2.1, hok.2.2.1, hok.2.2.2, rfl⟩
 ·have hr : retD (s.f x) = some r := hr
  unfold retD at hr
  split at hr
  ·rename_i r' hf
   cases hr
   exact h x r' hf
  ·cases hr
def ofind (β : Binds) (q : Nat) : Nat → Nat → Option Nat
 | _, 0 => none
 | j, n + 1 => match bget β j with
  | some (.at p _) => match Nat.beq p q with
   | true => some j
   | false => ofind β q (j + 1) n
  | _ => ofind β q (j + 1) n
theorem ofind_some {β : Binds} {q : Nat} : ∀ {n j i : Nat}, ofind β q j n = some i → ∃ nm, bget β i = some (.at q nm)
 | 0, j, i, h => by cases h
 | n + 1, j, i, h => by
  simp only [ofind] at h
  split at h
  ·rename_i p nm hb
   split at h
   ·rename_i e
    cases h
    have := Nat.eq_of_beq_eq_true e
    subst this
    exact ⟨nm, hb⟩
   ·exact ofind_some h
  ·exact ofind_some h
theorem ofind_none {β : Binds} {q : Nat} : ∀ {n j : Nat}, ofind β q j n = none → ∀ i nm, j ≤ i → i < j + n → bget β i ≠ some (.at q nm)
 | 0, j, h, i, nm, h1, h2, e => by omega
 | n + 1, j, h, i, nm, h1, h2, e => by
  simp only [ofind] at h
  split at h
  ·rename_i p nm' hb
   split at h
   ·cases h
   ·rename_i hne
    rcases Nat.lt_or_ge j i with hlt | hge
    ·exact ofind_none h i nm hlt (by omega) e
    ·have : i = j := by omega
     subst this
     rw [hb] at e; cases e
     simp at hne
  ·rename_i hb
   rcases Nat.lt_or_ge j i with hlt | hge
   ·exact ofind_none h i nm hlt (by omega) e
   ·have : i = j := by omega
    subst this
    exact hb _ _ e
def keepAt (os : Slots) (j : Nat) : Bool := match os[j]? with
 | some (true, _) => true
 | _ => false
def oPl (L nx : Nat) (β : Binds) (post : Slots) (x : denO post) : Pl := fun j => match keepAt post j with
 | true => match bget β j with
  | some (.at p nm) => (p, nm, lensO post x j)
  | _ => (L + j, nx + j, lensO post x j)
 | false => (L + j, nx + j, lensO post x j)
def inPl (β : Binds) (post : Slots) (j : Nat) : Bool := match keepAt post j with
 | true => match bget β j with
  | some (.at _ _) => true
  | _ => false
 | false => false
def objAt : Sto → Nat → AObj
 | [], _ => .none
 | (_, o) :: _, 0 => o
 | _ :: l, j + 1 => objAt l j
def oOld (β : Binds) (post : Slots) (l : Sto) (n : Nat) : Nat → Sto → Sto
 | _, [] => []
 | q, (nm, ob) :: σ => (nm, match ofind β q 0 n with
  | none => ob
  | some j => match keepAt post j with
   | true => objAt l j
   | false => .none) :: oOld β post l n (q + 1) σ
def oNew (β : Binds) (post : Slots) (nx : Nat) : Nat → Sto → Sto
 | _, [] => []
 | j, (_, ob) :: l => (nx + j, match inPl β post j with
  | true => .none
  | false => ob) :: oNew β post nx (j + 1) l
def oBeh (β : Binds) (n : Nat) (post : Slots) (x : denO post) (σ : Sto) (nx : Nat) : Sto :=
 oOld β post (patOs (oPl σ.length nx β post x) (fun j => j) 0 post x) n 0 σ ++ oNew β post nx 0 (patOs (oPl σ.length nx β post x) (fun j => j) 0 post x)
theorem oOld_get {β : Binds} {post : Slots} {l : Sto} {n : Nat} : ∀ (σ : Sto) (q i nm : Nat) (ob : AObj), (oOld β post l n q σ)[i]? = some (nm, ob) → ∃ ob0, σ[i]? = some (nm, ob0) ∧ ob = (match ofind β (q + i) 0 n with
  | none => ob0
  | some j => match keepAt post j with
   | true => objAt l j
   | false => .none)
 | [], q, i, nm, ob, h => by simp [oOld] at h
 | (nm0, ob0) :: σ, q, 0, nm, ob, h => by
  simp only [oOld, List.getElem?_cons_zero, Option.some.injEq, Prod.mk.injEq] at h
  obtain ⟨rfl, rfl⟩ := h
  exact ⟨ob0, rfl, rfl⟩
 | (nm0, ob0) :: σ, q, i + 1, nm, ob, h => by
  simp only [oOld, List.getElem?_cons_succ] at h
  obtain ⟨ob1, h1, h2⟩ := oOld_get σ (q + 1) i nm ob h
  exact ⟨ob1, by simpa using h1, by rw [h2, show q + 1 + i = q + (i + 1) by omega]⟩
theorem oOld_get' {β : Binds} {post : Slots} {l : Sto} {n : Nat} : ∀ (σ : Sto) (q i nm : Nat) (ob0 : AObj), σ[i]? = some (nm, ob0) → ofind β (q + i) 0 n = none → (oOld β post l n q σ)[i]? = some (nm, ob0)
 | [], q, i, nm, ob, h, hf => by simp at h
 | (nm0, ob0) :: σ, q, 0, nm, ob, h, hf => by
  simp at h
  obtain ⟨rfl, rfl⟩ := h
  simp only [oOld, List.getElem?_cons_zero]
  rw [Nat.add_zero] at hf
  rw [hf]
 | (nm0, ob0) :: σ, q, i + 1, nm, ob, h, hf => by
  simp only [oOld, List.getElem?_cons_succ]
  exact oOld_get' σ (q + 1) i nm ob (by simpa using h) (by rw [show q + 1 + i = q + (i + 1) by omega]; exact hf)
theorem oOld_len {β : Binds} {post : Slots} {l : Sto} {n : Nat} : ∀ (σ : Sto) (q : Nat), (oOld β post l n q σ).length = σ.length
 | [], q => rfl
 | (_, _) :: σ, q => by simp [oOld, oOld_len σ (q + 1)]
theorem oNew_get {β : Binds} {post : Slots} {nx : Nat} : ∀ (l : Sto) (j i nm : Nat) (ob : AObj), (oNew β post nx j l)[i]? = some (nm, ob) → nm = nx + (j + i) ∧ ∃ nm0 ob0, l[i]? = some (nm0, ob0) ∧ ob = (match inPl β post (j + i) with
  | true => .none
  | false => ob0)
 | [], j, i, nm, ob, h => by simp [oNew] at h
 | (nm0, ob0) :: l, j, 0, nm, ob, h => by
  simp only [oNew, List.getElem?_cons_zero, Option.some.injEq, Prod.mk.injEq] at h
  obtain ⟨rfl, rfl⟩ := h
  exact ⟨rfl, nm0, ob0, rfl, rfl⟩
 | (nm0, ob0) :: l, j, i + 1, nm, ob, h => by
  simp only [oNew, List.getElem?_cons_succ] at h
  obtain ⟨h1, nm1, ob1, h2, h3⟩ := oNew_get l (j + 1) i nm ob h
  exact ⟨by omega, nm1, ob1, by simpa using h2, by rw [h3, show j + 1 + i = j + (i + 1) by omega]⟩
theorem objAt_get : ∀ (l : Sto) (j : Nat), objAt l j = .none ∨ ∃ nm, l[j]? = some (nm, objAt l j)
 | [], _ => .inl rfl
 | (nm, o) :: _, 0 => .inr ⟨nm, rfl⟩
 | _ :: l, j + 1 => by
  rcases objAt_get l j with h | ⟨nm, h⟩
  ·exact .inl h
  ·exact .inr ⟨nm, by simpa [objAt] using h⟩
def mBig (m m' : Mp) (nx k : Nat) (post : Slots) : Mp := fun i => if i < nx then m i else if i - nx < post.length then m' (nameOf k (i - nx) post) else none
theorem keepAt_spec {os : Slots} {j : Nat} : keepAt os j = true ↔ ∃ o, os[j]? = some (true, o) := by
 unfold keepAt
 split
 ·rename_i o h; exact ⟨(fun _ => ⟨o, h⟩), fun _ => rfl⟩
 ·rename_i h; exact ⟨(fun e => by cases e), fun ⟨o, e⟩ => absurd e (h o)⟩
theorem oPl_len {L nx : Nat} {β : Binds} {post : Slots} {x : denO post} (j : Nat) : (oPl L nx β post x j).2.2 = lensO post x j := by
 unfold oPl
 split
 ·split <;> rfl
 ·rfl
theorem oPl_cases (L nx : Nat) (β : Binds) (post : Slots) (x : denO post) (j : Nat) : (inPl β post j = true ∧ ∃ o p nm, post[j]? = some (true, o) ∧ bget β j = some (.at p nm) ∧ oPl L nx β post x j = (p, nm, lensO post x j)) ∨ (inPl β post j = false ∧ oPl L nx β post x j = (L + j, nx + j, lensO post x j)) := by
 unfold inPl oPl
 cases hk : keepAt post j with
 | false => exact .inr ⟨rfl, rfl⟩
 | true =>
  obtain ⟨o, ho⟩ := keepAt_spec.1 hk
  simp only
  split
  ·rename_i p nm hb
   exact .inl ⟨rfl, o, p, nm, ho, hb, rfl⟩
  ·exact .inr ⟨rfl, rfl⟩
theorem RowV.base {B B2 : Base} {kn : Kn} {w : World} {e : E} {l : List e.den} {v : Value} (h : RowV B kn w e l v) (hO : ∀ b, (∃ o u, kn b o = some u) → Ow B b → Ow B2 b) : RowV B2 kn w e l v := by
 have hkn := fun b => h.known (b := b)
 rcases h with h | ⟨hl, hs, b, o, cap, arr, ty, rfl, h2, h3, h4, h5, h5', h6, h7, h8, h9⟩
 ·exact .inl h
 ·exact .inr ⟨hl, hs, b, o, cap, arr, ty, rfl, h2, h3, h4, h5, h5', h6, h7, h8, hO b (hkn b rfl).1 h9⟩
theorem ObjRel.base {P : Program} {B B2 : Base} {kn : Kn} {m : Mp} {w : World} {nm : Nat} {ob : AObj} (h : ObjRel P B kn m w nm ob) (hO : isStk ob = true → ∀ b, (∃ o u, kn b o = some u) → Ow B b → Ow B2 b) : ObjRel P B2 kn m w nm ob := by
 cases ob with
 | stk e ety l k =>
  obtain ⟨rv, h1, h2, h3, h4, h5⟩ := h
  exact ⟨rv, h1, h2, fun i r v q a b => (h3 i r v q a b).base (hO rfl), h4, h5⟩
 | _ => exact h
theorem anySk_get : ∀ {l : Slots}, anySk l = true → ∃ (i : Nat) (kp : Bool) (o : OSh), l[i]? = some (kp, o) ∧ isSk o = true
 | [], h => by cases h
 | (kp, o) :: l, h => by
  simp only [anySk, Bool.or_eq_true] at h
  rcases h with h | h
  ·exact ⟨0, kp, o, rfl, h⟩
  ·obtain ⟨i, kp', o', a, b⟩ := anySk_get h
   exact ⟨i + 1, kp', o', by simpa using a, b⟩
theorem anySk_of : ∀ {l : Slots} (i : Nat) (kp : Bool) (o : OSh), l[i]? = some (kp, o) → isSk o = true → anySk l = true
 | [], i, kp, o, e, _ => by simp at e
 | (kp0, o0) :: l, i, kp, o, e, h => by
  simp only [anySk, Bool.or_eq_true]
  cases i with
  | zero => simp at e; rw [e.2]; exact .inl h
  | succ i => exact .inr (anySk_of i kp o (by simpa using e) h)
theorem patO_hand {ρ : Pl} {o : OSh} {x : o.den} : isHand (patO ρ o x) = false := by cases o <;> rfl
theorem qcall_sound {C : Cx} {g : FuncId} {s : QSig} (hS : QOK C g s) {ags : List AV} {σ : Sto} {nx : Nat} {x : Sh.denL s.args} {β1 βf : Binds} {o : denO s.pre} {r : OutD s.res.den s.pv.den × denO s.post}
  (h1 : absL s.pre [] s.args ags = some (x, β1)) (h2 : absOs s.pre σ β1 0 s.pre = some (o, βf)) (hf : s.f (x, o) = some r) (hnh0 : anySk s.pre = true → noHand σ = true) :
  ACall C g ags σ nx (fun out σ' nx' => out = outD (oPl σ.length nx βf s.post r.2) s.res s.pv r.1 ∧ σ' = oBeh βf s.pre.length s.post r.2 σ nx ∧ nx' = nx + s.post.length) := by
 obtain ⟨hok, hS⟩ := hS
 simp only [QSig.ok, Bool.and_eq_true] at hok
 obtain ⟨⟨hnew, hskok⟩, hkeep, hslots, hres, hpv⟩ := hok
 have hnh := fun h => noHand_ok (hnh0 h)
 intro B kn m w vs hI hr
 obtain ⟨a1, a2⟩ := absL_ok (kn := kn) (m := m) (os := s.pre) s.args [] β1 ags x h1
 obtain ⟨a3, a4⟩ := a2 vs hr
 have hv1 : VB m s.pre β1 := a3 ⟨fun j b e => by simp [bget] at e, fun j p nm e => by simp [bget] at e, fun j j' p nm nm' e => by simp [bget] at e⟩
 obtain ⟨e2, hlink, hI0, hlaid0, hat, hone, hown0, hstk0⟩ := norm_core (allNew_get hnew) h2 hv1 hI
 have hargs := a4 _ _ (hlink.ext e2)
 have hk0 : ∀ i o, s.post[i]? = some (true, o) → i < s.pre.length := fun i o e => by have := keepB_spec hkeep i o e; omega
 let own2 : Nat → Prop := fun b => (∃ i p nm ob loc, bget βf i = some (.at p nm) ∧ σ[p]? = some (nm, ob) ∧ live ob ∧ m nm = some loc ∧ loc.nil = false ∧ loc.blk = b) ∨ (anySk s.pre = true ∧ ∃ i p nm ob, bget βf i = some (.at p nm) ∧ σ[p]? = some (nm, ob) ∧ isStk ob = true ∧ (∃ o u, kn b o = some u) ∧ Ow B b)
 let B2 : Base := ⟨w, kn, own2⟩
 have hI2 : Inv C B2 kn (mNew 0 s.pre βf m) (osto 0 s.pre o) (0 + s.pre.length) w := ⟨hI0.knok, Nat.le_refl _, rfl, rfl, rfl, fun _ _ _ => ⟨rfl, rfl⟩, fun p nm ob e => (hI0.obj p nm ob e).base (fun hs b hk how => by
  obtain ⟨p', nm', ob', h1, h2, h3⟩ := hstk0 p nm ob e hs
  have hpl := (List.getElem?_eq_some_iff.1 e).1
  unfold osto at hpl
  rw [patOs_len] at hpl
  have hsk := patOs_sk (ρ := plO 0 s.pre o) (fun j => nameOf 0 j s.pre) s.pre 0 o p _ _ e (List.getElem?_eq_getElem hpl)
  exact .inr (.inr ⟨anySk_of p _ _ (List.getElem?_eq_getElem hpl) (hsk.symm.trans hs), p, p', nm', ob', h1, h2, h3, hk, how⟩)), fun p nm ob loc e l hm hn => by
  obtain ⟨q1, q2, q3⟩ := hI0.own p nm ob loc e l hm hn
  obtain ⟨p', nm', h3, h4⟩ := hown0 p nm ob loc e hm hn
  obtain ⟨_, _, ob', loc', h5, h6, h7, _⟩ := hat _ _ _ h3
  exact ⟨q1, .inr (.inl ⟨p, p', nm', ob', loc, h3, h5, h6, h4, hn, rfl⟩), q3⟩, hI0.dist, hI0.dom, hI0.lt, hI0.uniq, hI0.stk1, hI0.glob, hI0.tabW.base _ (fun g a e h => by
   obtain ⟨t1, t2, _⟩ := hI.tab g a e
   rcases h with ⟨i, p, nm, ob, loc, h1, h2, h3, h4, h5, rfl⟩ | ⟨_, _, _, _, _, _, _, _, _, ho⟩
   ·rcases (hI.own p nm ob loc h2 h3 h4 h5).2.1 with q | q
    ·omega
    ·exact t2 q
   ·rcases ho with q | q
    ·omega
    ·exact t2 q)⟩
 refine (hS (x, o) r hf B2 kn _ w vs hI2 hlaid0 hargs).mono ?_
 rintro e w' ⟨kn', m', hle, hJ, hm', hlaid', hout⟩
 have hnmlt : ∀ q nm ob, σ[q]? = some (nm, ob) → nm < nx := fun q nm ob e => hI.lt q nm ob e
 have hbigOld : ∀ i, i < nx → mBig m m' nx s.pre.length s.post i = m i := fun i hi => by unfold mBig; rw [if_pos hi]
 have hmle : MpLe m (mBig m m' nx s.pre.length s.post) := fun n l e => by
  rcases Nat.lt_or_ge n nx with hlt | hge
  ·rw [hbigOld n hlt]; exact e
  ·rw [hI.dom n hge] at e; cases e
 have hF : ∀ j, j < s.post.length → mBig m m' nx s.pre.length s.post (oPl σ.length nx βf s.post r.2 j).2.1 = m' (nameOf s.pre.length j s.post) := fun j hj => by
  rcases oPl_cases σ.length nx βf s.post r.2 j with ⟨_, o', p, nm, q1, q2, q3⟩ | ⟨_, q3⟩
  ·rw [q3, nameOf_keep q1]
   obtain ⟨h3, h4, ob, loc, h5, _⟩ := hat j p nm q2
   show mBig m m' nx s.pre.length s.post nm = _
   rw [hbigOld nm (hnmlt _ _ _ h5), hm' j (hk0 j o' q1), h3]
  ·rw [q3]
   show mBig m m' nx s.pre.length s.post (nx + j) = _
   unfold mBig
   rw [if_neg (by omega), if_pos (by omega), Nat.add_sub_cancel_left]
 have hren : ∀ j loc, m' ((plO s.pre.length s.post r.2) j).2.1 = some loc → mBig m m' nx s.pre.length s.post (oPl σ.length nx βf s.post r.2 j).2.1 = some loc := fun j loc e => by
  have e : m' (nameOf s.pre.length j s.post) = some loc := e
  by_cases hj : j < s.post.length
  ·rw [hF j hj]; exact e
  ·have : nameOf s.pre.length j s.post = s.pre.length + j := by
    unfold nameOf; rw [List.getElem?_eq_none (by omega)]
   rw [this, hJ.dom _ (by omega)] at e; cases e
 have hlens : ∀ j, (oPl σ.length nx βf s.post r.2 j).2.2 = ((plO s.pre.length s.post r.2) j).2.2 := fun j => oPl_len j
 have hown2 : ∀ b, own2 b → b < w.heap.size ∧ (B.w.heap.size ≤ b ∨ B.own b) := fun b hb => by
  rcases hb with ⟨i, p, nm, ob, loc, q1, q2, q3, q4, q5, q6⟩ | ⟨_, i, p, nm, ob, q1, q2, q3, ⟨o1, u1, hu⟩, q4⟩
  ·obtain ⟨h3, h4, _⟩ := hI.own p nm ob loc q2 q3 q4 q5
   subst q6; exact ⟨h3, h4⟩
  ·exact ⟨hI.kn_lt hu, q4⟩
 have hkeepOld : ∀ b, b < w.heap.size → ¬ own2 b → w'.heap[b]? = w.heap[b]? ∧ kn' b = kn b := fun b hb ho => hJ.old b hb ho
 have hsz : w.heap.size ≤ w'.heap.size := hJ.size
 have hfar : ∀ q nm ob loc, σ[q]? = some (nm, ob) → ofind βf q 0 s.pre.length = none → live ob → m nm = some loc → loc.nil = false → ¬ own2 loc.blk := fun q nm ob loc e hq hl hm hn hown => by
  rcases hown with ⟨i, p, nm', ob', loc', q1, q2, q3, q4, q5, q6⟩ | ⟨q0, i, p, nm', ob', q1, q2, q3, ⟨o1, u1, hu⟩, q4⟩
  rotate_left
  ·rw [(hI.own q nm ob loc e hl hm hn).2.2 (hnh q0 _ _ _ e) o1] at hu; cases hu
  by_cases hpq : p = q
  ·subst hpq
   obtain ⟨_, hi, _⟩ := hat i p nm' q1
   exact ofind_none hq i nm' (Nat.zero_le _) (by omega) q1
  ·exact hI.dist p nm' ob' loc' q nm ob loc q2 e q3 hl q4 hm q5 hn hpq q6
 have hstkOld : ∀ q nm ob, σ[q]? = some (nm, ob) → ofind βf q 0 s.pre.length = none → isStk ob = true → anySk s.pre = false := fun q nm ob e hq hs => by
  cases hx : anySk s.pre with
  | false => rfl
  | true =>
   obtain ⟨i, kp, o', h1, h2⟩ := anySk_get hx
   have hil : i < (osto 0 s.pre o).length := by unfold osto; rw [patOs_len]; exact (List.getElem?_eq_some_iff.1 h1).1
   have h3 := patOs_sk (ρ := plO 0 s.pre o) (fun j => nameOf 0 j s.pre) s.pre 0 o i _ _ (List.getElem?_eq_getElem hil) h1
   obtain ⟨p, nm', ob', h4, h5, h6⟩ := hstk0 i _ _ (List.getElem?_eq_getElem hil) (h3.trans h2)
   have := hI.stk1 _ _ _ _ _ _ e h5 hs h6
   subst this
   obtain ⟨_, hi, _⟩ := hat i _ nm' h4
   exact (ofind_none hq i nm' (Nat.zero_le _) (by omega) h4).elim
 let l := patOs (oPl σ.length nx βf s.post r.2) (fun j => j) 0 s.post r.2
 have hl_get : ∀ j nm0 ob, l[j]? = some (nm0, ob) → j < s.post.length ∧ ∃ ob', (osto s.pre.length s.post r.2)[j]? = some (nameOf s.pre.length j s.post, ob') ∧ ((live ob → live ob') ∧ isStk ob' = isStk ob ∧ isHand ob' = false ∧ isHand ob = false ∧ (isStk ob = true → anySk s.post = true)) ∧ ∀ nm', mBig m m' nx s.pre.length s.post nm' = m' (nameOf s.pre.length j s.post) → ObjRel C.P B kn' (mBig m m' nx s.pre.length s.post) w' nm' ob := fun j nm0 ob e => by
  have hj := (List.getElem?_eq_some_iff.1 e).1
  have hj : j < s.post.length := by
   have := patOs_len (oPl σ.length nx βf s.post r.2) (fun j => j) s.post 0 r.2
   exact this ▸ hj
  rcases patOs_get (ρ := oPl σ.length nx βf s.post r.2) (fun j => j) s.post 0 r.2 j with hno | ⟨kp, osh, y, q1, q2⟩
  ·have e' : (patOs (oPl σ.length nx βf s.post r.2) (fun j => j) 0 s.post r.2)[j]? = some (nm0, ob) := e
   rw [hno] at e'; cases e'
  ·have e' : (patOs (oPl σ.length nx βf s.post r.2) (fun j => j) 0 s.post r.2)[j]? = some (nm0, ob) := e
   rw [q2] at e'; cases e'
   have hp := q2 (plO s.pre.length s.post r.2) (fun j => nameOf s.pre.length j s.post)
   simp only [Nat.zero_add] at hp
   refine ⟨hj, _, hp, ⟨fun _ => (by cases osh <;> trivial), patO_sk.trans patO_sk.symm, patO_hand, patO_hand, fun hs => anySk_of j kp osh q1 (patO_sk.symm.trans hs)⟩, fun nm' he => ?_⟩
   refine patO_ren hren hlens (slotsOK_get hslots j kp osh q1) (hlaid' j hj) he ((hJ.obj _ _ _ hp).base (fun _ b _ how => ?_))
   rcases how with h | h
   ·exact .inl (Nat.le_trans hI.size h)
   ·exact (hown2 b h).2
 have hcls : ∀ q nm ob, (oBeh βf s.pre.length s.post r.2 σ nx)[q]? = some (nm, ob) → (q < σ.length ∧ ∃ ob0, σ[q]? = some (nm, ob0) ∧ (ofind βf q 0 s.pre.length = none → ob = ob0) ∧ (live ob → ofind βf q 0 s.pre.length ≠ none → ∃ j nm0, l[j]? = some (nm0, ob) ∧ nm = (oPl σ.length nx βf s.post r.2 j).2.1 ∧ q = (oPl σ.length nx βf s.post r.2 j).1)) ∨
   (∃ j, q = σ.length + j ∧ j < s.post.length ∧ nm = nx + j ∧ (live ob → ∃ nm0, l[j]? = some (nm0, ob) ∧ nm = (oPl σ.length nx βf s.post r.2 j).2.1 ∧ q = (oPl σ.length nx βf s.post r.2 j).1)) := fun q nm ob e => by
  unfold oBeh at e
  rw [List.getElem?_append] at e
  rw [oOld_len] at e
  split at e
  ·rename_i hq
   refine .inl ⟨hq, ?_⟩
   obtain ⟨ob0, p1, p2⟩ := oOld_get _ _ _ _ _ e
   rw [Nat.zero_add] at p2
   refine ⟨ob0, p1, fun h => by rw [h] at p2; exact p2, fun hl hne => ?_⟩
   cases hfd : ofind βf q 0 s.pre.length with
   | none => exact absurd hfd hne
   | some j =>
    rw [hfd] at p2
    simp only at p2
    split at p2
    ·rename_i hk
     obtain ⟨nm', hb⟩ := ofind_some hfd
     obtain ⟨_, _, ob1, _, h5, _⟩ := hat j q nm' hb
     rw [p1] at h5; cases h5
     rcases objAt_get (patOs (oPl σ.length nx βf s.post r.2) (fun j => j) 0 s.post r.2) j with h | ⟨nm0, h⟩
     ·rw [p2, h] at hl; cases hl
     ·rw [← p2] at h
      refine ⟨j, nm0, h, ?_⟩
      unfold oPl
      simp only [hk, hb, and_self]
    ·rw [p2] at hl; cases hl
  ·rename_i hq
   obtain ⟨p1, nm0, ob0, p2, p3⟩ := oNew_get _ _ _ _ _ e
   rw [Nat.zero_add] at p1 p3
   refine .inr ⟨q - σ.length, by omega, (hl_get _ _ _ p2).1, p1, fun hl => ?_⟩
   rcases oPl_cases σ.length nx βf s.post r.2 (q - σ.length) with ⟨q1, _⟩ | ⟨q1, q2⟩
   ·rw [q1] at p3; rw [p3] at hl; cases hl
   ·rw [q1] at p3
    simp only at p3
    subst p3
    exact ⟨nm0, p2, by rw [q2]; exact p1, by rw [q2]; show q = σ.length + (q - σ.length); omega⟩
 have hlive : ∀ q nm ob, (oBeh βf s.pre.length s.post r.2 σ nx)[q]? = some (nm, ob) → live ob → (σ[q]? = some (nm, ob) ∧ ofind βf q 0 s.pre.length = none) ∨
   ∃ j ob', j < s.post.length ∧ nm = (oPl σ.length nx βf s.post r.2 j).2.1 ∧ q = (oPl σ.length nx βf s.post r.2 j).1 ∧ (osto s.pre.length s.post r.2)[j]? = some (nameOf s.pre.length j s.post, ob') ∧ (live ob' ∧ isStk ob' = isStk ob ∧ isHand ob' = false ∧ isHand ob = false ∧ (isStk ob = true → anySk s.post = true)) ∧ mBig m m' nx s.pre.length s.post nm = m' (nameOf s.pre.length j s.post) ∧
    ObjRel C.P B kn' (mBig m m' nx s.pre.length s.post) w' nm ob := fun q nm ob e hl => by
  have key : ∀ j nm0, l[j]? = some (nm0, ob) → nm = (oPl σ.length nx βf s.post r.2 j).2.1 → q = (oPl σ.length nx βf s.post r.2 j).1 → ∃ j ob', j < s.post.length ∧ nm = (oPl σ.length nx βf s.post r.2 j).2.1 ∧ q = (oPl σ.length nx βf s.post r.2 j).1 ∧ (osto s.pre.length s.post r.2)[j]? = some (nameOf s.pre.length j s.post, ob') ∧ (live ob' ∧ isStk ob' = isStk ob ∧ isHand ob' = false ∧ isHand ob = false ∧ (isStk ob = true → anySk s.post = true)) ∧ mBig m m' nx s.pre.length s.post nm = m' (nameOf s.pre.length j s.post) ∧
    ObjRel C.P B kn' (mBig m m' nx s.pre.length s.post) w' nm ob := fun j nm0 e1 e2 e3 => by
   obtain ⟨hj, ob', p1, p2, p3⟩ := hl_get j nm0 ob e1
   have hm : mBig m m' nx s.pre.length s.post nm = m' (nameOf s.pre.length j s.post) := by rw [e2]; exact hF j hj
   exact ⟨j, ob', hj, e2, e3, p1, ⟨p2.1 hl, p2.2⟩, hm, p3 nm hm⟩
  rcases hcls q nm ob e with ⟨hq, ob0, p1, p2, p3⟩ | ⟨j, hq, hj, hnm, p3⟩
  ·by_cases hfd : ofind βf q 0 s.pre.length = none
   ·rw [p2 hfd]; exact .inl ⟨p1, hfd⟩
   ·obtain ⟨j, nm0, e1, e2, e3⟩ := p3 hl hfd
    exact .inr (key j nm0 e1 e2 e3)
  ·obtain ⟨nm0, e1, e2, e3⟩ := p3 hl
   exact .inr (key j nm0 e1 e2 e3)
 refine ⟨outD (oPl σ.length nx βf s.post r.2) s.res s.pv r.1, kn', mBig m m' nx s.pre.length s.post, _, _, ⟨rfl, rfl, rfl⟩, ?_, hle, ⟨hJ.knok, Nat.le_trans hI.size hsz, hJ.os.trans hI.os, hJ.tape.trans hI.tape, hJ.output.trans hI.output, fun b hb hob => ?_, fun q nm ob e => ?_, fun q nm ob loc e hl hm hn => ?_,
  fun q nm ob loc q' nm' ob' loc' e e' hl hl' hm hm2 hn hn' hne => ?_, fun n hn => ?_, fun q nm ob e => ?_, fun q q' nm ob ob' e e' => ?_, fun q q' nm nm' ob ob' e e' s1 s2 => ?_, fun g => (hJ.glob g).rf (C.rf g) _, hI.tab⟩, ⟨Nat.le_add_right _ _, fun n hn => hbigOld n hn, fun q nm ob e hm => ?_⟩⟩
 ·obtain ⟨rv, ro⟩ := r
  cases rv with
  | ret a =>
   cases e with
   | returned u => exact patV_ren hren hlens s.res a u hres hout
   | _ => exact hout.elim
  | pan b =>
   cases e with
   | panicked ch =>
    obtain ⟨u, hu, hr⟩ := hout
    exact ⟨u, hu, patV_ren hren hlens s.pv b u hpv hr⟩
   | _ => exact hout.elim
 ·have hbw : b < w.heap.size := Nat.lt_of_lt_of_le hb hI.size
  have hno : ¬ own2 b := fun h => by
   rcases (hown2 b h).2 with h | h
   ·omega
   ·exact hob h
  obtain ⟨p1, p2⟩ := hkeepOld b hbw hno
  obtain ⟨p3, p4⟩ := hI.old b hb hob
  exact ⟨p1.trans p3, p2.trans p4⟩
 ·by_cases hl : live ob
  ·rcases hlive q nm ob e hl with ⟨p1, p2⟩ | ⟨j, ob', _, _, _, _, _, _, h⟩
   ·refine ((hI.obj q nm ob p1).mono hle (fun loc hl hm hn => (hkeepOld _ (hI.own q nm ob loc p1 hl hm hn).1 (hfar q nm ob loc p1 p2 hl hm hn)).1) (fun b hb => ?_)).mono_m (hbigOld nm (hnmlt _ _ _ p1)) hmle
    rcases hb with ⟨hst, o1, u1, hu⟩ | ⟨hx, _⟩
    ·refine hkeepOld b (hI.kn_lt hu) (fun hown => ?_)
     rcases hown with ⟨i, p', nm', ob', loc', r1, r2, r3, r4, r5, r6⟩ | ⟨_, i, p', nm', ob', r1, r2, r3, _⟩
     ·subst r6
      obtain ⟨_, _, ob3, _, h4, _, _, h5⟩ := hat i p' nm' r1
      rw [r2] at h4; cases h4
      rw [(hI.own p' nm' ob' loc' r2 r3 r4 r5).2.2 h5 o1] at hu; cases hu
     ·have := hI.stk1 _ _ _ _ _ _ p1 r2 hst r3
      subst this
      obtain ⟨_, hi, _⟩ := hat i _ nm' r1
      exact ofind_none p2 i nm' (Nat.zero_le _) (by omega) r1
    ·rename_i hh
     obtain ⟨l0, hm0, hn0, rfl⟩ := hh
     exact hkeepOld _ (hI.own q nm ob l0 p1 hl hm0 hn0).1 (hfar q nm ob l0 p1 p2 hl hm0 hn0)
   ·exact h
  ·cases ob with
   | none => trivial
   | _ => exact absurd trivial hl
 ·rcases hlive q nm ob e hl with ⟨p1, p2⟩ | ⟨j, ob', hj, hnm, hq, h1, h2, h3, _⟩
  ·rw [hbigOld nm (hnmlt _ _ _ p1)] at hm
   obtain ⟨a, b, c⟩ := hI.own q nm ob loc p1 hl hm hn
   refine ⟨Nat.lt_of_lt_of_le a hsz, b, fun hx o => ?_⟩
   rw [(hkeepOld _ a (hfar q nm ob loc p1 p2 hl hm hn)).2]; exact c hx o
  ·rw [h3] at hm
   obtain ⟨a, b, c⟩ := hJ.own j _ ob' loc h1 h2.1 hm hn
   refine ⟨a, ?_, fun _ => c h2.2.2.1⟩
   rcases b with b | b
   ·exact .inl (Nat.le_trans hI.size b)
   ·exact (hown2 _ b).2
 ·rcases hlive q nm ob e hl with ⟨p1, p2⟩ | ⟨j, ob1, hj, hnm, hq, h1, h2, h3, _⟩
  ·rw [hbigOld nm (hnmlt _ _ _ p1)] at hm
   rcases hlive q' nm' ob' e' hl' with ⟨p1', p2'⟩ | ⟨j', ob1', hj', hnm', hq', h1', h2', h3', _⟩
   ·rw [hbigOld nm' (hnmlt _ _ _ p1')] at hm2
    exact hI.dist q nm ob loc q' nm' ob' loc' p1 p1' hl hl' hm hm2 hn hn' hne
   ·rw [h3'] at hm2
    intro hbb
    have hlt := (hI.own q nm ob loc p1 hl hm hn).1
    have hno := hfar q nm ob loc p1 p2 hl hm hn
    rcases (hJ.own j' _ ob1' loc' h1' h2'.1 hm2 hn').2.1 with h | h
    ·have h : w.heap.size ≤ loc'.blk := h
     omega
    ·rw [hbb] at hno; exact hno h
  ·rw [h3] at hm
   rcases hlive q' nm' ob' e' hl' with ⟨p1', p2'⟩ | ⟨j', ob1', hj', hnm', hq', h1', h2', h3', _⟩
   ·rw [hbigOld nm' (hnmlt _ _ _ p1')] at hm2
    intro hbb
    have hlt := (hI.own q' nm' ob' loc' p1' hl' hm2 hn').1
    have hno := hfar q' nm' ob' loc' p1' p2' hl' hm2 hn'
    rcases (hJ.own j _ ob1 loc h1 h2.1 hm hn).2.1 with h | h
    ·have h : w.heap.size ≤ loc.blk := h
     omega
    ·rw [← hbb] at hno; exact hno h
   ·rw [h3'] at hm2
    refine hJ.dist j _ ob1 loc j' _ ob1' loc' h1 h1' h2.1 h2'.1 hm hm2 hn hn' (fun hjj => hne ?_)
    rw [hq, hq', hjj]
 ·show (if n < nx then m n else if n - nx < s.post.length then m' (nameOf s.pre.length (n - nx) s.post) else none) = none
  have hn : nx + s.post.length ≤ n := hn
  rw [if_neg (by omega), if_neg (by omega)]
 ·show nm < nx + s.post.length
  rcases hcls q nm ob e with ⟨hq, ob0, p1, _⟩ | ⟨j, hq, hj, hnm, _⟩
  ·have := hnmlt _ _ _ p1; omega
  ·omega
 ·rcases hcls q nm ob e with ⟨hq, ob0, p1, _⟩ | ⟨j, hq, hj, hnm, _⟩
  ·rcases hcls q' nm ob' e' with ⟨hq', ob0', p1', _⟩ | ⟨j', hq', hj', hnm', _⟩
   ·exact hI.uniq _ _ _ _ _ p1 p1'
   ·have := hnmlt _ _ _ p1; omega
  ·rcases hcls q' nm ob' e' with ⟨hq', ob0', p1', _⟩ | ⟨j', hq', hj', hnm', _⟩
   ·have := hnmlt _ _ _ p1'; omega
   ·omega
 ·rcases hlive q nm ob e (live_stk s1) with ⟨p1, p2⟩ | ⟨j, ob1, hj, hnm, hq, h1, h2, h3, _⟩
  ·have hno := hstkOld q nm ob p1 p2 s1
   rcases hlive q' nm' ob' e' (live_stk s2) with ⟨p1', p2'⟩ | ⟨j', ob1', hj', hnm', hq', h1', h2', h3', _⟩
   ·exact hI.stk1 _ _ _ _ _ _ p1 p1' s1 s2
   ·have h5 := h2'.2.2.2.2 s2
    unfold skOK at hskok
    rw [h5, hno] at hskok; cases hskok
  ·have h5 := h2.2.2.2.2 s1
   rcases hlive q' nm' ob' e' (live_stk s2) with ⟨p1', p2'⟩ | ⟨j', ob1', hj', hnm', hq', h1', h2', h3', _⟩
   ·have hno := hstkOld q' nm' ob' p1' p2' s2
    unfold skOK at hskok
    rw [h5, hno] at hskok; cases hskok
   ·have hjj := hJ.stk1 _ _ _ _ _ _ h1 h1' (h2.2.1.trans s1) (h2'.2.1.trans s2)
    rw [hq, hq', hjj]
 ·have hfd : ofind βf q 0 s.pre.length = none := by
   cases hfd : ofind βf q 0 s.pre.length with
   | none => rfl
   | some j =>
    obtain ⟨nm', hb⟩ := ofind_some hfd
    obtain ⟨_, _, ob1, loc, h5, _, h6, _⟩ := hat j q nm' hb
    rw [e] at h5; cases h5
    rw [hm] at h6; cases h6
  unfold oBeh
  have hq := (List.getElem?_eq_some_iff.1 e).1
  rw [List.getElem?_append_left (by rw [oOld_len]; exact hq)]
  exact oOld_get' σ 0 q nm ob e (by rw [Nat.zero_add]; exact hfd)
theorem ocall_sound {C : Cx} {g : FuncId} {s : OSig} (hS : OOK C g s) {ags : List AV} {σ : Sto} {nx : Nat} {x : Sh.denL s.args} {β1 βf : Binds} {o : denO s.pre} {r : s.res.den × denO s.post}
  (h1 : absL s.pre [] s.args ags = some (x, β1)) (h2 : absOs s.pre σ β1 0 s.pre = some (o, βf)) (hf : s.f (x, o) = some r) (hnh0 : anySk s.pre = true → noHand σ = true) :
  ACall C g ags σ nx (fun out σ' nx' => out = .ret (patV (oPl σ.length nx βf s.post r.2) s.res r.1) ∧ σ' = oBeh βf s.pre.length s.post r.2 σ nx ∧ nx' = nx + s.post.length) :=
 qcall_sound (s := s.toQ) hS.toQ (r := (.ret r.1, r.2)) h1 h2 (show retD (s.f (x, o)) = _ by rw [hf]; rfl) hnh0
end Go.Ab
