/- merged by minib.py -/
import Derived.Test.YthbkbjlfghikfaaGreatDoorT5
import Derived.Tactics2
import Derived.Defers
import Derived.Laws.Pointers
import Derived.Laws.LoneSync
import Derived.RegionTactic
import Derived.RegionCalls
import Derived.ChangeAlike
import Derived.Lib.SlBuf
import Derived.Lib.SlBytesRow
import Derived.Shelf.Strings.Count
import Derived.Shelf.RegionOpenPlain
import Derived.Lib.Walk
import Derived.Deep.LoopGhost
import Derived.Deep.Draws
import Derived.Laws.Externs
import Derived.BigCall
import Derived.BigGuard
import Derived.Deep.Cut
import Derived.Deep.CutRange
import Derived.Laws.Cover3
import Derived.Deep.OwnRows
import Derived.Shelf.Strconv.AtoiAll
import Derived.Shelf.Strconv.Itoa3
import Derived.Lib.AppendIntMem
import Derived.Laws.Bits64b
import Derived.Laws.RangeAny
import Derived.Laws.RangeString
set_option linter.unusedVariables false
set_option linter.unusedSimpArgs false
set_option maxRecDepth 100000
noncomputable section
namespace Go.Ab
open Go Go.RowKit Go.Proofs
def blkL : List UInt8 := [32, 9]
def Y0L (s : List UInt8) : List UInt8 := (X00 (fun c => decide (c ∈ blkL)) s s.length).dropWhile fun c => decide (c ∈ blkL)
theorem Y70 (s : List UInt8) (hl : s.length <= 4611686018427387904) : PCall CX 75 [.str s, .str blkL] (· = .ret (.str (Y0L s))) := by
 have hdl : ((blkL.length : Nat) : Int) = 2 := rfl;have hne : blkL ≠ [] := by decide
 refine X1f 0 43 [.tmp 4] Tryz.func75 rfl (by decide) rfl rfl rfl ?_;refine X0d {} rfl rfl fun K KP hK hP => ?_
 simp only [go_sem, ↓reduceIte];apply hK; clear hK hP;refine X1l ?_
 by_cases c1 : s = []
 ·
  refine X0d {} rfl rfl fun K KP hK hP => ?_
  simp only [go_sem, ↓reduceIte, c1, hne];apply hK; clear hK hP;refine X2E (True) (by simp only [go_sem, ↓reduceIte, c1]) (fun h1 => ?_) (fun h1 => ?_)
  ·
   refine X0d {} rfl rfl fun K KP hK hP => ?_
   simp only [go_sem, ↓reduceIte, c1];apply hK; clear hK hP;refine X0X ?_;refine X0g.2 ?_
   simp only [go_sem, ↓reduceIte, c1, X0g] <;> (
    simp [Y0L, X00, c1])
  
  exact absurd trivial h1
 
 refine X0d {} rfl rfl fun K KP hK hP => ?_
 simp only [go_sem, ↓reduceIte, c1, hne];apply hK; clear hK hP;refine X2E (False) (by simp only [go_sem, ↓reduceIte, c1]) (fun h1 => ?_) (fun h1 => ?_)
 ·
  exact h1.elim
  
 refine X1z ?_;refine X0h.2 ?_;refine X1l ?_;refine X0d {} rfl rfl fun K KP hK hP => ?_
 simp only [go_sem, ↓reduceIte, c1, hdl];apply hK; clear hK hP;refine X2E (False) (by simp only [go_sem, ↓reduceIte, c1]) (fun h3 => ?_) (fun h3 => ?_)
 ·
  exact h3.elim
   
 refine X1z ?_;refine X0h.2 ?_;refine X1l ?_;refine X0d {} rfl (by simp only [X0A, go_sem]; rfl) fun K KP hK hP => ?_
 simp only [go_sem, ↓reduceIte, c1];refine CallP.ret (X4i blkL (by decide) (by decide)) (by simp only [go_sem]) ?_
 try simp only [go_sem, ↓reduceIte, c1]
 apply hK; clear hK hP;refine X0d {} rfl rfl fun K KP hK hP => ?_
 simp only [go_sem, ↓reduceIte, c1];apply hK; clear hK hP;refine X2E (True) (by simp only [go_sem, ↓reduceIte, c1]) (fun h6 => ?_) (fun h6 => ?_)
 ·
  refine X0d { ac := [36, 37] } rfl rfl fun K KP hK hP => ?_
  simp only [go_sem, ↓reduceIte, c1];refine CallP.acall (X2U _ _ 0 0 blkL s rfl hl) ?_
  try simp only [go_sem, ↓reduceIte, c1]
  refine CallP.acall (X6a _ _ 0 0 blkL _ rfl) ?_
  try simp only [go_sem, ↓reduceIte, c1]
  apply hK; clear hK hP;refine X0X ?_;refine X0g.2 ?_
  simp only [go_sem, ↓reduceIte, c1, X0g] <;> (
   rfl)
    
 exact absurd trivial h6
theorem X9i (s : List UInt8) (hl : s.length <= 4611686018427387904) : PCall CX 77 [.str s, .str blkL] (· = .ret (.str (X00 (fun c => decide (c ∈ blkL)) s s.length))) := by
 have hdl : ((blkL.length : Nat) : Int) = 2 := rfl;have hne : blkL ≠ [] := by decide
 refine X1f 0 37 [.tmp 4] Tryz.func77 rfl (by decide) rfl rfl rfl ?_;refine X0d {} rfl rfl fun K KP hK hP => ?_
 simp only [go_sem, ↓reduceIte];apply hK; clear hK hP;refine X1l ?_
 by_cases c1 : s = []
 ·
  refine X0d {} rfl rfl fun K KP hK hP => ?_
  simp only [go_sem, ↓reduceIte, c1, hne];apply hK; clear hK hP;refine X2E (True) (by simp only [go_sem, ↓reduceIte, c1]) (fun h1 => ?_) (fun h1 => ?_)
  ·
   refine X0d {} rfl rfl fun K KP hK hP => ?_
   simp only [go_sem, ↓reduceIte, c1];apply hK; clear hK hP;refine X0X ?_;refine X0g.2 ?_
   simp only [go_sem, ↓reduceIte, c1, X0g] <;> (
    simp [X00, c1])
  
  exact absurd trivial h1
 
 refine X0d {} rfl rfl fun K KP hK hP => ?_
 simp only [go_sem, ↓reduceIte, c1, hne];apply hK; clear hK hP;refine X2E (False) (by simp only [go_sem, ↓reduceIte, c1]) (fun h1 => ?_) (fun h1 => ?_)
 ·
  exact h1.elim
  
 refine X1z ?_;refine X0h.2 ?_;refine X1l ?_;refine X0d {} rfl rfl fun K KP hK hP => ?_
 simp only [go_sem, ↓reduceIte, c1, hdl];apply hK; clear hK hP;refine X2E (False) (by simp only [go_sem, ↓reduceIte, c1]) (fun h3 => ?_) (fun h3 => ?_)
 ·
  exact h3.elim
   
 refine X1z ?_;refine X0h.2 ?_;refine X1l ?_;refine X0d {} rfl (by simp only [X0A, go_sem]; rfl) fun K KP hK hP => ?_
 simp only [go_sem, ↓reduceIte, c1];refine CallP.ret (X4i blkL (by decide) (by decide)) (by simp only [go_sem]) ?_
 try simp only [go_sem, ↓reduceIte, c1]
 apply hK; clear hK hP;refine X0d {} rfl rfl fun K KP hK hP => ?_
 simp only [go_sem, ↓reduceIte, c1];apply hK; clear hK hP;refine X2E (True) (by simp only [go_sem, ↓reduceIte, c1]) (fun h6 => ?_) (fun h6 => ?_)
 ·
  refine X0d { ac := [33] } rfl rfl fun K KP hK hP => ?_
  simp only [go_sem, ↓reduceIte, c1];refine CallP.acall (X2U _ _ 0 0 blkL s rfl hl) ?_
  try simp only [go_sem, ↓reduceIte, c1]
  apply hK; clear hK hP;refine X0X ?_;refine X0g.2 ?_
  simp only [go_sem, ↓reduceIte, c1, X0g] <;> (
   rfl)
    
 exact absurd trivial h6
def X1P (s : List UInt8) : Option Bool := if s.length <= 4611686018427387904 then some (X0q s) else none
def X76 : Sig := .n [.d .str] (.d .bool) (fun x => X1P x.1)
theorem X6Q : SigOK CX 94 X76 := fun x r h => by
 have h : X1P x.1 = some r := h;unfold X1P at h;split at h
 ·rename_i hl; cases h; exact Y3m x.1 hl
 cases h
def X1r (c : Int) : Option Bool := if 0 <= c /\ c < 256 then some (X0P (UInt8.ofNat c.toNat)) else none
def X5G : Sig := .n [.d (.int .u8)] (.d .bool) (fun x => X1r x.1)
theorem Z4I {c : Int} (h : 0 <= c /\ c < 256) : ((UInt8.ofNat c.toNat).toNat : Int) = c := by
 have e : c.toNat < 2 ^ 8 := by omega
 rw [UInt8.toNat_ofNat_of_lt' e]; omega
theorem Y46 (c : Int) (r : Bool) (h : X1r c = some r) : PCall CX 95 [.int .u8 c] (fun o => o = .ret (.bool r)) := by
 unfold X1r at h;split at h
 ·rename_i hl;cases h;have := Y3s (UInt8.ofNat c.toNat);rw [Z4I hl] at this;exact this
 cases h
theorem X31 : SigOK CX 95 X5G := fun x r h => Y46 x.1 r h
def X0B (s : List UInt8) (c : Int) : Option Int := if 0 <= c /\ c < 256 then some (Lib.indexByte s (UInt8.ofNat c.toNat)) else none
def X5b : Sig := .n [.d .str, .d (.int .u8)] (.d (.int .i64)) (fun x => X0B x.1 x.2.1)
theorem Y1A (s : List UInt8) (c : Int) (r : Int) (h : X0B s c = some r) : PCall CX 73 [.str s, .int .u8 c] (fun o => o = .ret (.int .i64 r)) := by
 unfold X0B at h;split at h
 ·rename_i hl;cases h;have := X44 s (UInt8.ofNat c.toNat);rw [Z4I hl] at this;exact this
 cases h
theorem X4Y : SigOK CX 73 X5b := fun x r h => Y1A x.1 x.2.1 r h
def X12 (s p : List UInt8) : List UInt8 := if p.length <= s.length /\ s.take p.length = p then s.drop p.length else s
def X6W : Sig := .n [.d .str, .d .str] (.d .str) (fun x => some (X12 x.1 x.2.1))
theorem X8j : SigOK CX 129 X6W := fun x r h => by cases h; exact X4r x.1 x.2.1
def Y5M (x0 : Fm) : Option (List Fm) := (
 cond (decide (x0.k = 3)) (some x0.l) (some ([] : List Fm)))
def Z5n : An := .leaf
def Z2L : Sig := .n [(.d .form)] (.d (.slice .form)) (fun x => Y5M x.1)
theorem Y8I : SigOK CX 101 Z2L := X0i (l := []) trivial (hint := fun _ => {}) (an := Z5n) (fun x => by kernel_rfl)
def Y18 (x0 : Fm) : Option (List UInt8) := (
 Option.bind (α := List Fm) (Y5M (Fm.eta x0)) fun r1 => (
 cond ((ixOK 0 r1.length) || !(decide ((r1.length : Int) > 0))) (cond (cond (decide ((r1.length : Int) > 0)) (decide ((r1.getD (0 : Int).toNat (Fm.mk 0 0 [] [])).k = 1)) false) (cond (ixOK 0 r1.length) (some ((r1.getD (0 : Int).toNat (Fm.mk 0 0 [] [])).t)) none) (some ([]))) none))
def Z5m : An := .leaf
def Z2K : Sig := .n [(.d .form)] (.d .str) (fun x => Y18 x.1)
theorem Y8G : SigOK CX 66 Z2K := X0i (l := [(101, Z2L)]) ⟨Y8I, trivial⟩ (hint := fun _ => {}) (an := Z5m) (fun x => by kernel_rfl)
def Y5K (x0 : Int) : Option (Bool) := (
 some (!decide (x0 = x0)))
def Y5L (x0 : List UInt8) : Option (Bool) := (
 some (!decide (x0 = x0)))
def Z2H (x0 : Int) (x1 : Int) : Option (Int) := (
 Option.bind (α := Bool) (Y5K x0) fun r1 => (
 Option.bind (α := Bool) (Y5K x1) fun r2 => (
 cond r1 (cond r2 (some 0) (some (-1))) (cond r2 (some 1) (cond (decide (x0 < x1)) (some (-1)) (cond (decide (x0 > x1)) (some 1) (some 0)))))))
def Z5u (x0 : List UInt8) (x1 : List UInt8) : Option (Int) := (
 Option.bind (α := Bool) (Y5L x0) fun r1 => (
 Option.bind (α := Bool) (Y5L x1) fun r2 => (
 cond r1 (cond r2 (some 0) (some (-1))) (cond r2 (some 1) (cond (Op.bytesLess x0 x1) (some (-1)) (cond (!(Op.bytesLess x0 x1 || decide (x0 = x1))) (some 1) (some 0)))))))
mutual
def Y8v (k : Nat) (x0 : Fm) (x1 : Fm) : Option (Int) := match k with
| 0 => none
| k + 1 => (
 cond (!decide (x0.k = x1.k)) (Option.bind (α := Int) (Z2H x0.k x1.k) fun r1 => (
 some r1)) (cond (decide (x0.k = 0)) (Option.bind (α := Int) (Z2H x0.n x1.n) fun r2 => (
 some r2)) (Option.bind (α := ((Int × Int × List UInt8 × (List Fm) × Unit) × (Int × Int × List UInt8 × (List Fm) × Unit) × Int × Bool × Unit) × (Unit))
 (cond (decide (x0.k = 1)) (some (((x0.k, x0.n, x0.t, x0.l, ()), (x1.k, x1.n, x1.t, x1.l, ()), x0.k, decide (x0.k = 1), ()), ())) (some (((x0.k, x0.n, x0.t, x0.l, ()), (x1.k, x1.n, x1.t, x1.l, ()), x0.k, decide (x0.k = 2), ()), ()))) fun d3 => (
 let v16_4 := d3.1.2.2.1
 let v24_5 := d3.1.2.2.2.1
 cond v24_5 (Option.bind (α := Int) (Z5u d3.1.1.2.2.1 d3.1.2.1.2.2.1) fun r6 => (
 some r6)) (cond (decide (v16_4 = 3)) (Option.bind (α := Int) (Y0T k d3.1.1.2.2.2.1 d3.1.2.1.2.2.2.1 ()) fun r7 => (
 some r7)) (some 0))))))
def Y0T (k : Nat) (x0 : List Fm) (x1 : List Fm) (x2 : Unit) : Option (Int) := match k with
| 0 => none
| k + 1 => (
 Option.bind (α := Step (((List Fm) × (List Fm) × Unit) × (Unit)) (Int))
 (X0v (L := ((List Fm) × (List Fm) × Unit × (List Fm) × Int × Int × Unit) × (Unit)) (R := Step (((List Fm) × (List Fm) × Unit) × (Unit)) (Int)) (fun d1 => (
 let v0_2 := d1.1.1
 let v1_3 := d1.1.2.1
 let v11_4 := d1.1.2.2.2.1
 let v12_5 := d1.1.2.2.2.2.1
 let v13_6 := d1.1.2.2.2.2.2.1
 cond (decide (v13_6 < v12_5)) (cond (ixOK v13_6 v11_4.length) (cond (decide (v13_6 >= (v1_3.length : Int))) (some (Step.done (Step.done 1))) (cond (ixOK v13_6 v1_3.length) (Option.bind (α := Int) (Y8v k (Fm.eta (v11_4.getD v13_6.toNat (Fm.mk 0 0 [] []))) (Fm.eta (v1_3.getD v13_6.toNat (Fm.mk 0 0 [] [])))) fun r7 => (
 cond (!decide (r7 = 0)) (some (Step.done (Step.done r7))) (some (Step.next ((v0_2, v1_3, (), v11_4, v12_5, IntKind.wrap .i64 (v13_6 + 1), ()), ()))))) none)) none) (some (Step.done (Step.next ((v0_2, v1_3, ()), ())))))) ((x0, x1, (), x0, (x0.length : Int), 0, ()), ())) fun qd8 => match qd8 with
 | .next d8 => (
 let v0_9 := d8.1.1
 let v1_10 := d8.1.2.1
 cond (decide ((v0_9.length : Int) < (v1_10.length : Int))) (some (-1)) (some 0))
 | .done r => some r)
end
def Y0S (o0 : Bool × Unit × Unit) (o1 : List Int) : Option ((Int) × ((Bool × Unit × Unit) × (List Int) × Unit)) := (
 some ((o1.length : Int), ((o0.1, (), ()), o1, ())))
def Z0X : An := .leaf
def Y5Q : Sig := .o { pre := [(false, .cells 48 [(.mref 0 0), (.gs 1 (.int .u8))]), (false, .tg (.int .u8) 5)], args := [(.ref 0 0)], post := [(true, .cells 48 [(.mref 0 0), (.gs 1 (.int .u8))]), (true, .tg (.int .u8) 5)], res := (.d (.int .i64)), f := fun x => Y0S x.2.1 x.2.2.1 }
theorem Y4e : SigOK CX 105 Y5Q := X1h (l := []) trivial (hint := fun _ => {}) (an := Z0X) (by kernel_rfl) (fun x => by kernel_rfl)
def X06 (x1 : Int) (o0 : Bool × Unit × Unit) (o1 : List Int) : Option ((Bool) × ((Bool × Unit × Unit) × (List Int) × Unit)) := (
 Option.bind (α := (Unit) × ((Bool × Unit × Unit) × (List Int) × Unit)) (some ((), ((true, (), ()), o1, ()))) fun r1 => (
 cond (decide ((r1.2.2.1.length + ([x1]).length) * 1 <= 140737488355328)) (some (true, ((r1.2.1.1, (), ()), r1.2.2.1 ++ ([x1]), ()))) none))
def Y77 : An := .leaf
def Y8x : Nat -> RH := fun r => match r with
 | 1 => { H := { ac := [6] } }
 | 2 => { H := { ty := [(14, (.int .u8))] } }
 | _ => {}
def X5E : Sig := .o { pre := [(false, .cells 48 [(.mref 0 0), (.gs 1 (.int .u8))]), (false, .tg (.int .u8) 5)], args := [(.ref 0 0), (.d (.int .u8))], post := [(true, .cells 48 [(.mref 0 0), (.gs 1 (.int .u8))]), (false, .tg (.int .u8) 5)], res := (.d .erri), f := fun x => X06 x.1.2.1 x.2.1 x.2.2.1 }
theorem X3Y : SigOK CX 30 X5E := X1h (l := [(51, X5a)]) ⟨X4X, trivial⟩ (hint := Y8x) (an := Y77) (by kernel_rfl) (fun x => by kernel_rfl)
def X9K (o0 : (List UInt8) × Int × Unit) : Option ((Unit) × ((List UInt8 × Int × Unit) × Unit)) := (
 X0v (L := (Unit × Unit) × ((List UInt8 × Int × Unit) × Unit)) (R := (Unit) × ((List UInt8 × Int × Unit) × Unit)) (fun d1 => (
 let c2 := d1.2.1.1
 let c3 := d1.2.1.2.1
 cond (decide (c3 < (c2.length : Int))) (cond (ixOK c3 c2.length) (cond (cond (cond (decide (X0b c2 c3 = 32)) true (decide (X0b c2 c3 = 9))) true (decide (X0b c2 c3 = 10))) (some (Step.next (((), ()), ((c2, IntKind.wrap .i64 (c3 + 1), ()), ())))) (cond (decide (X0b c2 c3 = 59)) (cond (slOK c3 (c2.length : Int) c2.length) (Option.bind (α := Int) (X0B ((c2.drop c3.toNat).take ((c2.length : Int).toNat - c3.toNat)) (10)) fun r4 => (
 Option.bind (α := (Unit × Int × Unit) × ((List UInt8 × Int × Unit) × Unit))
 (cond (decide (r4 < 0)) (some (((), IntKind.wrap .i64 ((c2.length : Int) - c3), ()), ((c2, c3, ()), ()))) (some (((), r4, ()), ((c2, c3, ()), ())))) fun d5 => (
 let c6 := d5.2.1.1
 let c7 := d5.2.1.2.1
 let v3_8 := d5.1.2.1
 some (Step.next (((), ()), ((c6, IntKind.wrap .i64 (c7 + v3_8), ()), ())))))) none) (some (Step.done ((), ((c2, c3, ()), ())))))) none) (some (Step.done ((), ((c2, c3, ()), ())))))) (((), ()), ((o0.1, o0.2.1, ()), ())))
def Z5s : An := .block (.loop { env := [(0, (.ref 0 0))], objs := [(true, .cells 110 [(.d .str), (.d (.int .i64))])] } (.seq (.leaf) (.block (.seq (.leaf) (.block (.seq (.leaf) (.cond (.leaf) (.seq (.leaf) (.cond (.seq (.leaf) (.join false { env := [(0, (.ref 0 0)), (3, (.d (.int .i64)))], objs := [(true, .cells 110 [(.d .str), (.d (.int .i64))])] } (.leaf) (.leaf))) (.leaf))))))))))
def Z2P : Sig := .o { pre := [(false, .cells 110 [(.d .str), (.d (.int .i64))])], args := [(.ref 0 0)], post := [(true, .cells 110 [(.d .str), (.d (.int .i64))])], res := (.tup []), f := fun x => X9K x.2.1 }
theorem Y8X : SigOK CX 123 Z2P := X1h (l := [(73, X5b)]) ⟨X4Y, trivial⟩ (hint := fun _ => {}) (an := Z5s) (by kernel_rfl) (fun x => by kernel_rfl)
def Y5O (o0 : (List UInt8) × Int × Unit) : Option ((List UInt8 × Int × Unit) × ((List UInt8 × Int × Unit) × Unit)) := (
 Option.bind (α := Step ((Unit) × ((List UInt8 × Int × Unit) × Unit)) ((List UInt8 × Int × Unit) × ((List UInt8 × Int × Unit) × Unit)))
 (X0v (L := (Unit × Unit × Unit) × ((List UInt8 × Int × Unit) × (Bool × Unit × Unit) × (List Int) × Unit)) (R := Step ((Unit) × ((List UInt8 × Int × Unit) × Unit)) ((List UInt8 × Int × Unit) × ((List UInt8 × Int × Unit) × Unit))) (fun d1 => (
 let c2 := d1.2.1.1
 let c3 := d1.2.1.2.1
 let l4 := d1.2.2.2.1
 cond (decide (c3 < (c2.length : Int))) (cond (ixOK c3 c2.length) (Option.bind (α := Step ((Unit × Unit × Int × Unit) × ((List UInt8 × Int × Unit) × (Bool × Unit × Unit) × (List Int) × Unit)) (Step ((Unit × Unit × Unit) × ((List UInt8 × Int × Unit) × (Bool × Unit × Unit) × (List Int) × Unit)) (Step ((Unit) × ((List UInt8 × Int × Unit) × Unit)) ((List UInt8 × Int × Unit) × ((List UInt8 × Int × Unit) × Unit)))))
 (cond (decide (X0b c2 c3 = 34)) (Option.bind (α := (Int) × ((Bool × Unit × Unit) × (List Int) × Unit)) (Y0S (d1.2.2.1.1, (), ()) l4) fun r5 => (
 cond (decide (r5.1 > 2000)) (some (Step.done (Step.done (Step.done (([], 4, ()), ((c2, IntKind.wrap .i64 (c3 + 1), ()), ())))))) (Option.bind (α := (List UInt8) × (Unit)) (Option.map (fun s => (s, ())) (bytesOf (r5.2.2.1))) fun r6 => (
 some (Step.done (Step.done (Step.done ((r6.1, 0, ()), ((c2, IntKind.wrap .i64 (c3 + 1), ()), ()))))))))) (cond (decide (X0b c2 c3 = 92)) (cond (decide (IntKind.wrap .i64 (c3 + 1) = (c2.length : Int))) (some (Step.done (Step.done (Step.done (([], 12, ()), ((c2, IntKind.wrap .i64 (c3 + 1), ()), ())))))) (cond (ixOK (IntKind.wrap .i64 (c3 + 1)) c2.length) (cond (decide (X0b c2 (IntKind.wrap .i64 (c3 + 1)) = 110)) (some (Step.next (((), (), 10, ()), ((c2, IntKind.wrap .i64 (c3 + 1), ()), (d1.2.2.1.1, (), ()), l4, ())))) (cond (cond (!decide (X0b c2 (IntKind.wrap .i64 (c3 + 1)) = 34)) (!decide (X0b c2 (IntKind.wrap .i64 (c3 + 1)) = 92)) false) (some (Step.done (Step.done (Step.done (([], 4, ()), ((c2, IntKind.wrap .i64 (c3 + 1), ()), ())))))) (some (Step.next (((), (), X0b c2 (IntKind.wrap .i64 (c3 + 1)), ()), ((c2, IntKind.wrap .i64 (c3 + 1), ()), (d1.2.2.1.1, (), ()), l4, ())))))) none)) (cond (cond (decide (X0b c2 c3 < 32)) true (decide (X0b c2 c3 > 126))) (some (Step.done (Step.done (Step.done (([], 4, ()), ((c2, c3, ()), ())))))) (some (Step.next (((), (), X0b c2 c3, ()), ((c2, c3, ()), (d1.2.2.1.1, (), ()), l4, ()))))))) fun qd7 => match qd7 with
 | .next d7 => (
 let c8 := d7.2.1.1
 let c9 := d7.2.1.2.1
 let l10 := d7.2.2.2.1
 let v5_11 := d7.1.2.2.1
 Option.bind (α := (Bool) × ((Bool × Unit × Unit) × (List Int) × Unit)) (X06 v5_11 (d7.2.2.1.1, (), ()) l10) fun r12 => (
 some (Step.next (((), (), ()), ((c8, IntKind.wrap .i64 (c9 + 1), ()), (r12.2.1.1, (), ()), r12.2.2.1, ())))))
 | .done r => some r) none) (some (Step.done (Step.next ((), ((c2, c3, ()), ()))))))) (((), (), ()), ((o0.1, IntKind.wrap .i64 (o0.2.1 + 1), ()), (false, (), ()), ([] : List Int), ()))) fun qd13 => match qd13 with
 | .next d13 => (
 let c14 := d13.2.1.1
 let c15 := d13.2.1.2.1
 some (([], 12, ()), ((c14, c15, ()), ())))
 | .done r => some r)
def Z5t : An := .seq (.leaf) (.seq (.leaf) (.join true { env := [], objs := [(true, .cells 110 [(.d .str), (.d (.int .i64))])] } (.seq (.leaf) (.block (.loop { env := [(0, (.ref 0 0)), (4, (.ref 1 0))], objs := [(true, .cells 110 [(.d .str), (.d (.int .i64))]), (false, .cells 48 [(.mref 1 0), (.gs 2 (.int .u8))]), (false, .tg (.int .u8) 5)] } (.seq (.leaf) (.seq (.block (.seq (.leaf) (.join true { env := [(0, (.ref 0 0)), (4, (.ref 1 0)), (5, (.d (.int .u8)))], objs := [(true, .cells 110 [(.d .str), (.d (.int .i64))]), (false, .cells 48 [(.mref 1 0), (.gs 2 (.int .u8))]), (false, .tg (.int .u8) 5)] } (.leaf) (.leaf)))) (.leaf)))))) (.leaf)))
def Z5w : Nat -> RH := fun r => match r with
 | 8 => { H := { ac := [49] } }
 | 10 => { H := { ac := [51] } }
 | 22 => { H := { ac := [97] } }
 | _ => {}
def Z2Q : Sig := .o { pre := [(false, .cells 110 [(.d .str), (.d (.int .i64))])], args := [(.ref 0 0)], post := [(true, .cells 110 [(.d .str), (.d (.int .i64))])], res := (.tup [(.d .str), (.d (.int .i64))]), f := fun x => Y5O x.2.1 }
theorem Y8Z : SigOK CX 124 Z2Q := X1h (l := [(105, Y5Q), (26, X7w), (30, X5E)]) ⟨Y4e, X5e, X3Y, trivial⟩ (hint := Z5w) (an := Z5t) (by kernel_rfl) (fun x => by kernel_rfl)
def X3V (x0 : Int) : Option (Bool) := (
 Option.bind (α := Bool) (cond (!(decide (x0 = 34))) (X1r (x0)) (some false)) fun r1 => (
 some (cond (decide (x0 = 34)) true (!r1))))
def Y8q : An := .leaf
def Y2F : Sig := .n [(.d (.int .u8))] (.d .bool) (fun x => X3V x.1)
theorem Y2G : SigOK CX 87 Y2F := X0i (l := [(95, X5G)]) ⟨X31, trivial⟩ (hint := fun _ => {}) (an := Y8q) (fun x => by kernel_rfl)
def X7o (x0 : List (List UInt8)) : Option ((Unit) × ((Int × Int × Int × Unit × Unit × Unit) × (List (List UInt8)) × Unit)) := (
 cond (decide (Int.tmod (x0.length : Int) 2 = 1)) (none) (cond (decide (x0.length * 16 <= 140737488355328)) (some ((), ((0, 0, 0, (), (), ()), x0, ()))) none))
def Z03 : An := .leaf
def Z1f : Nat -> RH := fun r => match r with
 | 3 => { H := { mb := [11], ty := [(9, .str)] } }
 | _ => {}
def Y5U : Sig := .o { pre := [], args := [(.d (.slice .str))], post := [(false, .cells 160 [(.d (.int .u32)), (.d (.int .i32)), (.d (.int .u32)), (.c (.base .nilIface)), (.gs 1 .str)]), (false, .tg .str 9)], res := (.ref 0 0), f := fun x => X7o x.1.1 }
theorem Y4k : SigOK CX 99 Y5U := X1h (l := []) trivial (hint := Z1f) (an := Z03) (by kernel_rfl) (fun x => by kernel_rfl)
abbrev Y6w (r : Sh) : List Sh := [.d (.int .u32), .d (.int .i32), .d (.int .u32), r, .gs 1 .str]
abbrev repO (k : Bool) : X0r := [(k, .cells 160 (Y6w (.c (.base .nilIface)))), (k, .tg .str 9)]
def Z7f (i : Nat) : Sh := cond (Nat.beq i 10 || (Nat.beq i 34 || Nat.beq i 92)) (.d (.slice (.int .u8))) (cond (Nat.beq i 256) (.gs 3 .str) (.c (.base (.slice none 0 0))))
def Y6c : List Sh := (List.range 257).map Z7f
abbrev Y4C : X0r := [(true, .cells 160 (Y6w (.c (.base .nilIface)))), (true, .tg .str 9), (false, .cells 197 Y6c), (false, .tg .str 9)]
def Y78 : An := .seq .leaf (.seq .leaf (.seq .leaf (.seq .leaf (.seq (.seq .leaf (.block (.unroll 4 .leaf))) (.seq .leaf (.seq .leaf (.seq (.seq .leaf (.block (.unroll 4 .leaf))) .leaf)))))))
def Y8y : Nat -> RH := fun r => match r with
 | 26 => { H := { ty := [(94, .str)] } }
 | 33 => { H := { ty := [(124, .str)] } }
 | _ => {}
def Y8t (x : Sh.denL [.ref 0 0] × denO (repO false)) : Option (Sh.den (.iface 198 (.ref 2 0)) × denO Y4C) :=
 Z2E CX (X69 []) Y8y 149 (repO false) [.ref 0 0] Y4C (.iface 198 (.ref 2 0)) Y78 x
def Y4f : Sig := .o ⟨repO false, [.ref 0 0], Y4C, .iface 198 (.ref 2 0), Y8t⟩
def old6 : List (List UInt8) := [[92], [92, 92], [34], [92, 34], [10], [92, 110]]
abbrev x6 (a b c : Int) : denO (repO false) := ((a, b, c, (), (), ()), old6, ())
theorem Y6Y : SigOK CX 149 Y4f := X1h (l := []) trivial (hint := Y8y) (an := Y78) (by kernel_rfl) (fun x => rfl)
abbrev X3A : X0r := [(true, .cells 160 [.d (.int .u32), .d (.int .i32), .d (.int .u32), .iface 198 (.ref 2 0), .c (.base (.slice none 0 0))]), (true, .tg .str 9), (false, .cells 197 Y6c), (false, .tg .str 9)]
def Z2I : Nat -> RH := fun r => match r with
 | 0 => { H := { ac := [4] } }
 | _ => {}
def Y17 (x : Sh.denL [.ref 0 0] × denO (repO false)) : Option (Sh.den (.tup []) × denO X3A) :=
 Z2E CX (X69 [(149, Y4f)]) Z2I 133 (repO false) [.ref 0 0] X3A (.tup []) .leaf x
def Z5A : Sig := .o ⟨repO false, [.ref 0 0], X3A, .tup [], Y17⟩
theorem Y8N : SigOK CX 133 Z5A := X1h (l := [(149, Y4f)]) ⟨Y6Y, trivial⟩ (hint := Z2I) (an := .leaf) (by kernel_rfl) (fun x => rfl)
def repB (i : Nat) : Option (List UInt8) := cond (Nat.beq i 10) (some [92, 110]) (cond (Nat.beq i 34) (some [92, 34]) (cond (Nat.beq i 92) (some [92, 92]) none))
def Z2s (i : Nat) : AV := match repB i with
 | some l => .tvec (.int .u8) (l.map fun b => (b.toNat : Int))
 | none => .base (.slice none 0 0)
def Y5D : List AV := (List.range 256).map Z2s ++ [.gs 3 5 .str 3]
def X8W (a b c : Int) : Sto := [(0, .cells 160 [.int .u32 a, .int .i32 b, .int .u32 c, .iface 198 (.ref 2 4 0), .base (.slice none 0 0)]), (1, .tg .str 9 old6), (4, .cells 197 Y5D), (5, .tg .str 9 [[10], [34], [92]])]
theorem Y8u (a b c : Int) : (Y17 (((), ()), x6 a b c)).map (fun r => osto 2 X3A r.2) = some (X8W a b c) := by kernel_rfl
theorem Y6A (w : World) : (callFunc 187 #[]).run Tryz.prog w = .ok (.value (.tuple #[])) w := run_call_mark0 Tryz.func187 (by kernel_rfl) (by kernel_rfl) (by kernel_rfl) .disable (by kernel_rfl) w
theorem Z0o (w : World) : (callFunc 189 #[]).run Tryz.prog w = .ok (.value (.tuple #[])) w := run_call_mark0 Tryz.func189 (by kernel_rfl) (by kernel_rfl) (by kernel_rfl) .enable (by kernel_rfl) w
theorem Z2g (a : Addr) (w : World) : (callFunc 190 #[.pointer (some a)]).run Tryz.prog w = .ok (.value (.tuple #[])) w := run_call_marked Tryz.func190 (by kernel_rfl) (by kernel_rfl) (by kernel_rfl) .acquire (by kernel_rfl) a w
theorem Z2h (a : Addr) (w : World) : (callFunc 192 #[.pointer (some a)]).run Tryz.prog w = .ok (.value (.tuple #[])) w := run_call_marked Tryz.func192 (by kernel_rfl) (by kernel_rfl) (by kernel_rfl) .releaseMerge (by kernel_rfl) a w
theorem uPMu : Tryz.prog.underlying 229 = some (.pointer 152) := by kernel_rfl
theorem X9G (a : Addr) (x : Value) (u : FrameMode) (w : World) (hc : w.cell? a = some x) (hz : w.frozen? a = false) :
  CallsD Tryz.prog 162 #[.pointer (some a), .bool true] u w fun e u' w' => u' = u /\ (e = .returned (.tuple #[]) /\ w' = w.drew.setCell a (.int .u32 1)) := by
 have hc' : w.drew.cell? a = some x := by go_simp
 have hz' : w.drew.frozen? a = false := by go_simp
 have hst := run_call_store (P := Tryz.prog) Tryz.func178 (by kernel_rfl) (by kernel_rfl) (by kernel_rfl) (by kernel_rfl) (k := .u32) (y := 1) hc' hz'
 go_enter_d Tryz.func162, Tryz.ntmps162
 go_wp2
 go_region_calls
 all_goals (go_end0; exact ⟨rfl, rfl⟩)
theorem X9j (a : Addr) (u : FrameMode) (w : World) (hc : w.cell? a = some (.int .i32 1)) (hz : w.frozen? a = false) :
  CallsD Tryz.prog 161 #[.pointer (some a)] u w fun e u' w' => u' = u /\ (e = .returned (.tuple #[]) /\ w' = w.setCell a (.int .i32 0)) := by
 have hd := Y6A;have he := Z0o;have hr := Z2h;have hadd := run_call_add (P := Tryz.prog) Tryz.func193 (by kernel_rfl) (by kernel_rfl) (by kernel_rfl) .i32 (by kernel_rfl) (y := -1) (s := 0) hc hz (by simp [go_sem]; rfl);have hcv := run_convert_to_unsafe (P := Tryz.prog) (src := 229) (dst := 104) uPMu uUP (by kernel_rfl) hc
 go_enter_d Tryz.func161, Tryz.ntmps161
 go_wp2
 go_end0
 go_wp2
 go_end0
 exact ⟨rfl, rfl⟩
theorem Y92 (a : Addr) (w : World) (hc : w.cell? a = some (.int .i32 0)) (hz : w.frozen? a = false) :
  Calls Tryz.prog 160 #[.pointer (some a)] w fun e w' => e = .returned (.tuple #[]) /\ w' = w.setCell a (.int .i32 1) := by
 have hd := Y6A;have he := Z0o;have ha := Z2g;have hcas := run_call_cas_hit (P := Tryz.prog) Tryz.func188 (by kernel_rfl) (by kernel_rfl) (by kernel_rfl) .i32 (by kernel_rfl) (y := 1) hc hz;have hc' : (w.setCell a (.int .i32 1)).cell? a = some (.int .i32 1) := World.cell?_setCell_same w a _ hc;have hcv := run_convert_to_unsafe (P := Tryz.prog) (src := 229) (dst := 104) uPMu uUP (by kernel_rfl) hc'
 go_enter Tryz.func160, Tryz.ntmps160
 go_wp2
 first | go_end0 | (simp only [Exit.inBlock, Exit.then]; refine bodyPost_ret (results_none rfl _ _ _) rfl ?_) | refine bodyPost_ret (results_none rfl _ _ _) rfl ?_
 go_wp2
 go_end0
 exact ⟨rfl, rfl⟩
set_option maxHeartbeats 1600000 in
theorem Z0t (b : Nat) (w : World) (Q : World -> Prop) (h0 : w.cell? ⟨b, 0, none⟩ = some (.int .u32 0)) (h1 : w.cell? ⟨b, 1, none⟩ = some (.int .i32 0)) (f1 : w.frozen? ⟨b, 1, none⟩ = false)
  (hb : Calls Tryz.prog 133 #[.pointer (some ⟨b, 0, none⟩)] (w.setCell ⟨b, 1, none⟩ (.int .i32 1)) fun e w' => e = .returned (.tuple #[]) /\ Q w')
  (hQ : ∀ w', Q w' -> w'.cell? ⟨b, 0, none⟩ = some (.int .u32 0) /\ w'.cell? ⟨b, 1, none⟩ = some (.int .i32 1) /\ w'.frozen? ⟨b, 0, none⟩ = false /\ w'.frozen? ⟨b, 1, none⟩ = false) :
  Calls Tryz.prog 148 #[.pointer (some ⟨b, 0, none⟩), .func (.func 133) #[.pointer (some ⟨b, 0, none⟩)] #[]] w fun e w' => e = .returned (.tuple #[]) /\
   ∃ w1, Q w1 /\ w' = (w1.drew.setCell ⟨b, 0, none⟩ (.int .u32 1)).setCell ⟨b, 1, none⟩ (.int .i32 0) := by
 have hl := run_call_load (P := Tryz.prog) Tryz.func159 (by kernel_rfl) (by kernel_rfl) (by kernel_rfl) .u32 (by kernel_rfl) (w := w.setCell ⟨b, 1, none⟩ (.int .i32 1)) (a := ⟨b, 0, none⟩) (x := 0) ((World.cell?_setCell_other _ ⟨b, 1, none⟩ ⟨b, 0, none⟩ _ (by simp)).trans h0);have hnot : ∀ (x : Bool) (w : World), (Op.unary .not (.bool x)).run Tryz.prog w = .ok (.bool (!x)) w := fun _ _ => rfl
 go_enter_defers Tryz.func148, Tryz.ntmps148
 go_wp2_with (first | (go_at_call 160; refine (Y92 ⟨b, 1, none⟩ _ (by go_simp) (by go_simp)).mono ?_; rintro e w' ⟨rfl, rfl⟩) | (go_at_call 133; refine hb.mono ?_; rintro e w1 ⟨rfl, hq⟩) | (go_at_call 147; go_in))
 obtain ⟨q0, q1, z0, z1⟩ := hQ _ hq;refine leaves_cons (f := 162) (args := #[.pointer (some ⟨b, 0, none⟩), .bool true]) (by simp) (by simp [go_sem]) ?_;refine (X9G ⟨b, 0, none⟩ (.int .u32 0) .returning _ q0 z0).mono ?_;rintro e u' w'' ⟨rfl, rfl, rfl⟩;refine leaves_cons (f := 161) (args := #[.pointer (some ⟨b, 1, none⟩)]) (by simp [settle]) (by simp [go_sem]) ?_;refine (X9j ⟨b, 1, none⟩ _ _ ?_ (by simp [z1])).mono ?_
 ·refine (World.cell?_setCell_other _ ⟨b, 0, none⟩ ⟨b, 1, none⟩ _ (by simp)).trans ?_;rw [World.cell?_drew];exact q1
 rintro e u' w'' ⟨rfl, rfl, rfl⟩;simp [Leaves, settle, results, Tryz.results148];exact ⟨_, hq, rfl⟩
open Go Go.RowKit Go.Proofs Go.Shelf
def escS (s : List UInt8) : List UInt8 := s.flatMap fun c => (repB c.toNat).getD [c]
def cntS (s : List UInt8) : Nat := (s.filter fun c => (repB c.toNat).isSome).length
theorem Y1R (c : Nat) (l : List UInt8) (h : repB c = some l) : l.length = 2 := by
 unfold repB at h;cases h1 : Nat.beq c 10 <;> rw [h1] at h
 ·cases h2 : Nat.beq c 34 <;> rw [h2] at h
  ·cases h3 : Nat.beq c 92 <;> rw [h3] at h
   ·cases h
   cases h; rfl
  cases h; rfl
 cases h; rfl
theorem Y1w (s : List UInt8) : (escS s).length = s.length + cntS s := by
 induction s with
 | nil => rfl
 | cons c s ih =>
  have e1 : escS (c :: s) = (repB c.toNat).getD [c] ++ escS s := by simp [escS]
  have e2 : cntS (c :: s) = cntS s + if (repB c.toNat).isSome then 1 else 0 := by
   unfold cntS;rw [List.filter_cons];split <;> simp
  rw [e1, List.length_append, ih, e2];cases hr : repB c.toNat with
  | none => simp; omega
  | some l => simp [Y1R _ _ hr]; omega
theorem Y9D (s : List UInt8) (h : cntS s = 0) : escS s = s := by
 induction s with
 | nil => rfl
 | cons c s ih =>
  unfold cntS at h;rw [List.filter_cons] at h;cases hr : repB c.toNat with
  | none =>
   rw [hr] at h;simp only [Option.isSome_none, Bool.false_eq_true, if_false] at h;have e1 : escS (c :: s) = (repB c.toNat).getD [c] ++ escS s := by simp [escS]
   rw [e1, hr, ih h];rfl
  | some l => rw [hr] at h; simp at h
theorem Y4I (a b : List UInt8) : escS (a ++ b) = escS a ++ escS b := by simp [escS]
theorem X8u (a b : List UInt8) : cntS (a ++ b) = cntS a + cntS b := by simp [cntS]
theorem Y9U (c : UInt8) : (if (repB c.toNat).isSome then 1 else 0) = (if c = 10 then 1 else 0) + (if c = 34 then 1 else 0) + if c = 92 then 1 else 0 := by
 by_cases h1 : c = 10
 ·subst h1; rfl
 by_cases h2 : c = 34
 ·subst h2; rfl
 by_cases h3 : c = 92
 ·subst h3; rfl
 have key : ∀ d : UInt8, c ≠ d -> Nat.beq c.toNat d.toNat = false := fun d h => by
  cases hb : Nat.beq c.toNat d.toNat with
  | false => rfl
  | true => exact absurd (UInt8.toNat_inj.1 (Nat.eq_of_beq_eq_true hb)) h
 have k1 : Nat.beq c.toNat 10 = false := key 10 h1;have k2 : Nat.beq c.toNat 34 = false := key 34 h2;have k3 : Nat.beq c.toNat 92 = false := key 92 h3;simp [repB, k1, k2, k3, h1, h2, h3]
theorem X94 (s : List UInt8) : Lib.countByte s 10 + Lib.countByte s 34 + Lib.countByte s 92 = cntS s := by
 induction s with
 | nil => rfl
 | cons c s ih =>
  have e2 : cntS (c :: s) = cntS s + if (repB c.toNat).isSome then 1 else 0 := by
   unfold cntS;rw [List.filter_cons];split <;> simp
  rw [e2, <- ih, Y9U];simp only [Lib.countByte, List.count_cons, beq_iff_eq];omega
structure TabAt (w : World) (b : Nat) : Prop where
 no : ∀ c, c < 256 -> repB c = none -> w.cell? ⟨b, c, none⟩ = some (.slice none 0 0)
 yes : ∀ c l, repB c = some l -> ∃ g o cap, w.cell? ⟨b, c, none⟩ = some (.slice (some ⟨g, o, none⟩) 2 cap) /\ ∀ j x, l[j]? = some x -> w.cell? ((⟨g, o, none⟩ : Addr).add j) = some (.int .u8 (x.toNat : Int))
 list : ∃ bt ot cap, w.cell? ⟨b, 256, none⟩ = some (.slice (some ⟨bt, ot, none⟩) 3 cap) /\ w.cell? ⟨bt, ot, none⟩ = some (.string ⟨#[10]⟩) /\ w.cell? ⟨bt, ot + 1, none⟩ = some (.string ⟨#[34]⟩) /\ w.cell? ⟨bt, ot + 2, none⟩ = some (.string ⟨#[92]⟩)
def Z1B : Go.Shelf.Ren := ⟨fun | 138 => 232 | 195 => 233 | 218 => 234 | 143 => 52 | 219 => 79 | 217 => 107 | 225 => 117 | 224 => 118 | 267 => 119 | 266 => 138 | 314 => 142 | n => n, fun | 9 => 9 | 3 => 3 | 4 => 4 | 5 => 5 | 0 => 0 | 46 => 125 | 146 => 162 | 51 => 148 | n => n, fun | 1 => 0 | n => n⟩
theorem Y9A : Lays.n138 Tryz.prog Z1B := by
 constructor
 all_goals first | kernel_rfl | (intro w; kernel_rfl) | skip
 all_goals constructor
 all_goals first | kernel_rfl | (intro w; kernel_rfl) | skip
 all_goals constructor
 all_goals first | kernel_rfl | (intro w; kernel_rfl)
theorem X96 (s : ByteArray) (c : UInt8) (w : World) : Calls Tryz.prog 232 #[.string s, .string ⟨#[c]⟩] w fun e w' => e = .returned (.int .i64 (Lib.countByte s.data.toList c)) /\ w' = w := Any.strings_Count_one Y9A s c w
open Go Go.RowKit Go.Proofs Go.Shelf Go.Lib
def tri3 : List UInt8 := [10, 34, 92]
def upTo (l : List UInt8) (k : Nat) : Nat := ((tri3.take k).map fun c => Lib.countByte l c).sum
theorem Y0M (l : List UInt8) : upTo l 3 = cntS l := by rw [<- X94]; simp [upTo, tri3]; omega
structure Still (w wx : World) : Prop where
 heap : wx.heap = w.heap
 os : wx.os = w.os
 tape : wx.tape = w.tape
 output : wx.output = w.output
theorem Still.refl (w : World) : Still w w := ⟨rfl, rfl, rfl, rfl⟩
theorem Still.drew {w wx : World} (h : Still w wx) : Still w wx.drew := ⟨h.heap, h.os, h.tape, h.output⟩
theorem Still.below {w wx : World} (h : Still w wx) : Below w.heap.size w wx := ⟨h.os, h.tape, h.output, by rw [h.heap]; exact Nat.le_refl _, fun k _ => by rw [h.heap]⟩
theorem Still.cell {w wx : World} (h : Still w wx) {a : Addr} {v : Value} (hc : w.cell? a = some v) : wx.cell? a = some v := by
 unfold World.cell? at hc ⊢;rw [h.heap]; exact hc
theorem Z4J (l : List UInt8) (k : Nat) (hk : k <= 3) : upTo l k <= cntS l := by
 rw [<- X94]
 match k, hk with
 | 0, _ => simp [upTo, tri3]
 | 1, _ => simp [upTo, tri3]; omega
 | 2, _ => simp [upTo, tri3]
 | 3, _ => simp [upTo, tri3]; omega
theorem Z0H (l : List UInt8) (k : Nat) (x : UInt8) (h : tri3[k]? = some x) : upTo l (k + 1) = upTo l k + Lib.countByte l x := by
 unfold upTo;rw [List.take_add_one, h];simp
theorem Y9z (l : List UInt8) (i : Nat) (x : UInt8) (h : l[i]? = some x) : cntS (l.take (i + 1)) = cntS (l.take i) + if (repB x.toNat).isSome then 1 else 0 := by
 rw [List.take_add_one, h, X8u]
 congr 1
 unfold cntS;simp only [Option.toList_some, List.filter_cons, List.filter_nil];split <;> simp
theorem Y4E (l : List UInt8) : cntS l <= l.length := List.length_filter_le _ _
theorem Z3P {w0 wx : World} {h N : Nat} {acc : List UInt8} (x : UInt8) (hh : w0.heap.size <= h) (hb : Lib.Buf w0 wx h N acc) (hlt : acc.length < N) : Lib.Buf w0 (wx.setCell ⟨h, acc.length, none⟩ (.int .u8 (x.toNat : Int))) h N (acc ++ [x]) := by
 obtain ⟨b1, b2, b3, b4, b5⟩ := hb;obtain ⟨v, hv⟩ := Option.isSome_iff_exists.1 (b2 acc.length hlt);have hsame : (wx.setCell ⟨h, acc.length, none⟩ (.int .u8 (x.toNat : Int))).cell? ⟨h, acc.length, none⟩ = some (.int .u8 (x.toNat : Int)) := World.cell?_setCell_same _ _ _ hv;have hother : ∀ j, j ≠ acc.length -> (wx.setCell ⟨h, acc.length, none⟩ (.int .u8 (x.toNat : Int))).cell? ⟨h, j, none⟩ = wx.cell? ⟨h, j, none⟩ := fun j hj => World.cell?_setCell_other _ _ _ _ (fun e => hj (Eq.symm (congrArg Addr.off e)))
 refine ⟨Below.setCell b1 (p := ⟨h, acc.length, none⟩) (Nat.le_refl _) _, fun j hj => ?_, fun j hj => ?_, fun j y hy => ?_, by simp; omega⟩
 ·by_cases hja : j = acc.length
  ·rw [hja, hsame]; rfl
  rw [hother j hja]; exact b2 j hj
 ·have := b3 j hj;simpa using this
 by_cases hja : j = acc.length
 ·subst hja;rw [List.getElem?_append_right (Nat.le_refl _)] at hy;simp at hy;rw [hsame, hy]
 rw [hother j hja];have hjl : j < acc.length := by
  have := (List.getElem?_eq_some_iff.1 hy).1;simp at this; omega
 rw [List.getElem?_append_left hjl] at hy;exact b4 j y hy
theorem Y28 (l : List UInt8) (k : Nat) (x : UInt8) (h : l[k]? = some x) : escS (l.take (k + 1)) = escS (l.take k) ++ (repB x.toNat).getD [x] := by
 rw [List.take_add_one, h, Y4I];simp [escS]
theorem Y21 (l : List UInt8) (k : Nat) : cntS (l.take k) <= cntS l := by
 have := X8u (l.take k) (l.drop k);rw [List.take_append_drop] at this;omega
theorem uBy : Tryz.prog.underlying 46 = some (.slice 5) := by kernel_rfl
theorem uBe : Tryz.prog.underlying 5 = some (.int .u8) := by kernel_rfl
theorem uBs : Tryz.prog.underlying 9 = some .string := by kernel_rfl
theorem iBy : (Tryz.prog.info? 5).map (fun i => (i.zero, i.size, i.bytes)) = some (some (.int .u8 0), 1, 1) := by kernel_rfl
theorem sBy : (Tryz.prog.info? 5).map (·.size) = some 1 := by kernel_rfl
theorem zBy : ∀ w, (Go.sizeOf 5).run Tryz.prog w = .ok 1 w := fun w => by kernel_rfl
set_option maxHeartbeats 8000000 in
theorem Y4D (s : ByteArray) (b : Nat) (w : World) (hs : s.size <= 1000000) (hT : TabAt w b) (hmix : True) :
  Calls Tryz.prog 230 #[.pointer (some ⟨b, 0, none⟩), .string s] w fun e w' => e = .returned (.string ⟨(escS s.data.toList).toArray⟩) /\ Below w.heap.size w w' := by
 obtain ⟨l, hl⟩ : ∃ l, s.data.toList = l := ⟨_, rfl⟩;have hsz : s.size = l.length := by rw [<- hl]; exact Lib.size_eq s
 have HT : Aside (TabAt w b) := hT;obtain ⟨bt, ot, capT, h256, hx0, hx1, hx2⟩ := hT.list;clear hT;have mixed := X5X;have hcnt := Y4E l
 go_enter Tryz.func230, Tryz.ntmps230
 go_upto_if 26 with fail
 go_cut [5, 6] from 7 (fun s5 s6 wx => Still w wx /\ s5 = .int .i64 ((l.length + cntS l : Nat) : Int) /\ s6 = .bool (decide (0 < cntS l)))
 case first =>
  by_cases hbr0 : (24 : Int) <= (l.length : Int)
  ·have hbr := decide_eq_true hbr0;rw [hbr];clear hbr0 hbr
   go_wp2_with fail
   go_loopg [5, 6, 32] 3 (fun g s5 s6 s32 wx => Still w wx /\ ∃ k : Nat, k <= 3 /\ g = 3 - k /\ s32 = .int .i64 k /\ s5 = .int .i64 ((l.length + upTo l k : Nat) : Int) /\ s6 = .bool (decide (0 < upTo l k)))
   case atStart => exact ⟨Still.refl w, 0, Nat.zero_le _, rfl, rfl, by simp [upTo, tri3], by simp [upTo, tri3]⟩
   case round =>
    obtain ⟨hst, k, hk, rfl, rfl, rfl, rfl⟩ := hrel
    by_cases hk3 : k < 3
    ·obtain ⟨x, hx3, hxc⟩ : ∃ x : UInt8, tri3[k]? = some x /\ w.cell? ⟨bt, ot + k, none⟩ = some (.string ⟨#[x]⟩) := by
      match k, hk3 with
      | 0, _ => exact ⟨10, rfl, hx0⟩
      | 1, _ => exact ⟨34, rfl, hx1⟩
      | 2, _ => exact ⟨92, rfl, hx2⟩
     obtain ⟨r, hr⟩ : ∃ r, repB x.toNat = some r := by
      match k, hk3 with
      | 0, _ => cases hx3; exact ⟨_, rfl⟩
      | 1, _ => cases hx3; exact ⟨_, rfl⟩
      | 2, _ => cases hx3; exact ⟨_, rfl⟩
     obtain ⟨gx, ox, cx, hcx, _⟩ := HT.out.yes _ _ hr;have hxc := hst.cell hxc;have hcx := hst.drew.cell hcx;have hup := Z0H l k x hx3;have hkz : (k : Int) < 3 := by omega
     have hx00 : ∀ h, (⟨#[x]⟩ : ByteArray)[0]'h = x := fun _ => rfl
     have hxz : (x.toNat : Int) < 256 := by have := x.toNat_lt; omega
     have hup3 : upTo l (k + 1) <= l.length := Nat.le_trans (Z4J l (k + 1) (by omega)) hcnt;have Hst : Aside (Still w wr) := hst;clear hst;generalize hn : Lib.countByte l x = n at hup
     by_cases hn0 : n = 0
     ·go_wp2_with (go_at_call 232; refine (X96 s x wr).mono ?_; rintro e w' ⟨rfl, rfl⟩; rw [hl, hn])
      go_roundg (3 - (k + 1))
      case measure => omega
      case rel => exact ⟨Hst.out, k + 1, by omega, rfl, by simp, by rw [hup, hn0]; simp, by rw [hup, hn0]; rfl⟩
     go_wp2_with (go_at_call 232; refine (X96 s x wr).mono ?_; rintro e w' ⟨rfl, rfl⟩; rw [hl, hn])
     go_region_o
     go_wp2
     go_roundg (3 - (k + 1))
     case measure => omega
     case rel => exact ⟨Hst.out.drew, k + 1, by omega, rfl, by simp, by rw [hup]; simp; omega, by rw [hup]; simp; first | done | omega⟩
    obtain rfl : k = 3 := by omega
    go_wp2
    go_meet
    exact ⟨hst, by rw [<- Y0M] <;> first | done | simp, by rw [<- Y0M]⟩
  have hbr := decide_eq_false hbr0;rw [hbr];clear hbr0 hbr
  go_wp2_with fail
  go_loopg [5, 6, 10] l.length (fun g s5 s6 s10 wx => Still w wx /\ ∃ k : Nat, k <= l.length /\ g = l.length - k /\ s10 = .int .i64 k /\ s5 = .int .i64 ((l.length + cntS (l.take k) : Nat) : Int) /\ s6 = .bool (decide (0 < cntS (l.take k))))
  case atStart => exact ⟨Still.refl w, 0, Nat.zero_le _, rfl, rfl, by simp [cntS], by simp [cntS]⟩
  case round =>
   obtain ⟨hst, k, hk, rfl, rfl, rfl, rfl⟩ := hrel
   by_cases hkn : k < l.length
   ·obtain ⟨x, hx⟩ : ∃ x : UInt8, s[k]'(by omega) = x := ⟨_, rfl⟩;have hxl : l[k]? = some x := by have := Lib.data_getElem? s k (by omega); rw [hx, hl] at this; exact this
    have hup := Y9z l k x hxl;have hkz : (k : Int) < (l.length : Int) := by omega
    have hxz : (x.toNat : Int) < 256 := by have := x.toNat_lt; omega
    have hup3 : cntS (l.take (k + 1)) <= l.length := Nat.le_trans (Y4E _) (by rw [List.length_take]; omega);have Hst : Aside (Still w wr) := hst;have Hxl : Aside (l[k]? = some x) := hxl;clear hxl;cases hr : repB x.toNat with
    | none =>
     have hcx := hst.cell (HT.out.no x.toNat (by omega) hr);clear hst;rw [hr] at hup
     go_wp2_with fail
     go_roundg (l.length - (k + 1))
     case measure => omega
     case rel => exact ⟨Hst.out, k + 1, by omega, rfl, by simp, by rw [hup]; simp, by rw [hup]; simp⟩
    | some r =>
     obtain ⟨gx, ox, cx, hcx, _⟩ := HT.out.yes _ _ hr;have hcx := hst.cell hcx;clear hst;rw [hr] at hup
     go_wp2_with fail
     go_roundg (l.length - (k + 1))
     case measure => omega
     case rel => exact ⟨Hst.out, k + 1, by omega, rfl, by simp, by rw [hup]; simp <;> omega, by rw [hup]; simp⟩
   obtain rfl : k = l.length := by omega
   go_wp2
   go_meet
   exact ⟨hst, by first | rfl | simp, by first | rfl | simp⟩
 case rest =>
  obtain ⟨hst, rfl, rfl⟩ := hcut;have hnot : ∀ (x : Bool) (w : World), (Op.unary .not (.bool x)).run Tryz.prog w = .ok (.bool (!x)) w := fun _ _ => rfl
  have hsl : s = ⟨l.toArray⟩ := by rw [<- hl] <;> first | done | simp
  by_cases hz : cntS l = 0
  ·go_wp2_with fail
   go_ret
   refine ⟨?_, hst.below⟩;rw [hl, Y9D l hz];exact congrArg (fun x => Ending.returned (Value.string x)) hsl
  obtain ⟨N, hN⟩ : ∃ N, l.length + cntS l = N := ⟨_, rfl⟩;rw [hN];have hpos : decide (0 < cntS l) = true := decide_eq_true (by omega);rw [hpos];have hmk := run_make_row' (P := Tryz.prog) 46 5 (.int .u8 0) 1 uBy iBy rfl .i64 .i64 N (by omega) (by omega) wc;have HB0 : Aside (Lib.Buf wc (wc.alloc (.cells (madeCells #[.int .u8 0] N) 5)) wc.heap.size N []) := Lib.Buf.start wc (madeCells #[.int .u8 0] N) 5 N 0 (by rw [size_madeCells]; exact Nat.le_refl _);have Hst : Aside (Still w wc) := hst;have Hsl : Aside (s = ⟨l.toArray⟩) := hsl;clear hst hsl h256 hx0 hx1 hx2
  go_wp2_with fail
  clear hmk
  go_loopg [13, 14] l.length (fun g s13 s14 wx => ∃ k : Nat, k <= l.length /\ g = l.length - k /\ s14 = .int .i64 k /\ s13 = .int .i64 ((escS (l.take k)).length : Int) /\ Aside (Lib.Buf wc wx wc.heap.size N (escS (l.take k))))
  case atStart => exact ⟨0, Nat.zero_le _, rfl, rfl, rfl, HB0⟩
  case round =>
   obtain ⟨k, hk, rfl, rfl, rfl, HB⟩ := hrel;clear HB0
   by_cases hkn : k < l.length
   ·obtain ⟨x, hx⟩ : ∃ x : UInt8, s[k]'(by omega) = x := ⟨_, rfl⟩;have hxl : l[k]? = some x := by have := Lib.data_getElem? s k (by omega); rw [hx, hl] at this; exact this
    have hes := Y28 l k x hxl;have hln := Y1w (l.take (k + 1));have hcl := Y21 l (k + 1);rw [List.length_take, Nat.min_eq_left (by omega)] at hln;have hkz : (k : Int) < (l.length : Int) := by omega
    have hxz : (x.toNat : Int) < 256 := by have := x.toNat_lt; omega
    generalize hacc : escS (l.take k) = acc at hes HB ⊢;have Hes : Aside (escS (l.take (k + 1)) = acc ++ (repB x.toNat).getD [x]) := hes;rw [hes] at hln;clear hes hxl hacc;cases hr : repB x.toNat with
    | none =>
     rw [hr] at hln;have hln : acc.length + 1 = k + 1 + cntS (l.take (k + 1)) := by simpa using hln
     have hlt : acc.length < N := by omega
     have hltz : (acc.length : Int) < (N : Int) := by omega
     have hcx := HB.out.below.cell (p := ⟨b, x.toNat, none⟩) (World.block_lt_of_cell? wc _ (Hst.out.cell (HT.out.no x.toNat (by omega) hr)));rw [Hst.out.cell (HT.out.no x.toNat (by omega) hr)] at hcx;obtain ⟨v0, hv0⟩ := Option.isSome_iff_exists.1 (HB.out.there acc.length hlt);have hf0 := HB.out.free acc.length hlt;have HB' : Aside (Lib.Buf wc (wr.setCell ⟨wc.heap.size, acc.length, none⟩ (.int .u8 (x.toNat : Int))) wc.heap.size N (acc ++ [x])) := Z3P x (Nat.le_refl _) HB.out hlt
     go_wp2_with fail
     go_roundg (l.length - (k + 1))
     case measure => omega
     case rel =>
      have e := Hes.out;rw [hr] at e;refine ⟨k + 1, by omega, rfl, by simp, by rw [e]; simp, by rw [e]; exact HB'⟩
    | some r =>
     obtain ⟨gx, ox, cx, hcx0, hrow⟩ := HT.out.yes _ _ hr;have hr2 := Y1R _ _ hr;rw [hr] at hln;have hln : acc.length + 2 = k + 1 + cntS (l.take (k + 1)) := by simpa [hr2] using hln
     have hcx := HB.out.below.cell (p := ⟨b, x.toNat, none⟩) (World.block_lt_of_cell? wc _ (Hst.out.cell hcx0));rw [Hst.out.cell hcx0] at hcx;have hcxd : wr.drew.cell? ⟨b, x.toNat, none⟩ = some (.slice (some ⟨gx, ox, none⟩) 2 cx) := hcx;have hslc : ∀ W, (Instr.slice 46 (.slice (some ⟨wc.heap.size, 0, none⟩) N N) (some (.int .i64 (acc.length : Int))) none none).run Tryz.prog W = .ok (Lib.tailV wc.heap.size N acc.length) W := fun W => Lib.run_slice_tailV W 46 5 uBy zBy _ N acc.length (by omega)
     have hBd : Lib.Buf wc wr.drew wc.heap.size N acc := ⟨HB.out.below.drew, HB.out.there, HB.out.free, HB.out.holds, HB.out.fits⟩;obtain ⟨wr', hcp, hB2⟩ := Lib.copy_part (P := Tryz.prog) wc wr.drew wc.heap.size N acc r (.slice (some ⟨gx, ox, none⟩) 2 cx) 46 3 5 uBy sBy (Nat.le_refl _) hBd ⟨some ⟨gx, ox, none⟩, cx, by rw [hr2], (fun e => by cases e), (fun a e i y hy => by cases e; exact Hst.out.cell (hrow i y hy))⟩ (by omega);rw [hr2] at hcp;have HB' : Aside (Lib.Buf wc wr' wc.heap.size N (acc ++ r)) := hB2;clear hB2 hBd hrow
     go_wp2_with fail
     go_region_o
     go_wp2_with fail
     go_roundg (l.length - (k + 1))
     case measure => omega
     case rel =>
      have e := Hes.out;rw [hr] at e;refine ⟨k + 1, by omega, rfl, by simp, by rw [e]; simp [hr2], by rw [e]; exact HB'⟩
   obtain rfl : k = l.length := by omega
   rw [List.take_length] at HB ⊢;have hle := Y1w l;have hNN : (escS l).length = N := by omega
   have hconv : (convert 46 9 (.slice (some ⟨wc.heap.size, 0, none⟩) N N)).run Tryz.prog wr = .ok (.string ⟨(escS l).toArray⟩) wr := by
    have := Lib.run_convert_whole (P := Tryz.prog) wr 46 5 9 uBy uBe uBs wc.heap.size 0 ⟨(escS l).toArray⟩ (fun i hi => by
     rw [Nat.zero_add];refine HB.out.holds i _ ?_;have hi' : i < (escS l).length := by simpa [ByteArray.size] using hi
     rw [List.getElem?_eq_getElem hi'];rfl) N
    rw [show (ByteArray.mk (escS l).toArray).size = N by simp [ByteArray.size]; exact hNN] at this;exact this
   have HBb : Aside (Below wc.heap.size wc wr) := HB.out.below;have Hhe : Aside (wc.heap.size = w.heap.size) := by show wc.heap.size = w.heap.size; rw [Hst.out.heap]
   clear HB
   go_wp2_with fail
   go_ret
   refine ⟨by rw [hl]; rfl, ?_⟩;have h1 := HBb.out;rw [Hhe.out] at h1;exact Hst.out.below.trans h1
abbrev aft (b : Nat) (w : World) : World := (w.drew.setCell ⟨b, 0, none⟩ (.int .u32 1)).setCell ⟨b, 1, none⟩ (.int .i32 0)
set_option maxHeartbeats 1600000 in
theorem Z31 (b : Nat) (w : World) (Q : World -> Prop) (h0 : w.cell? ⟨b, 0, none⟩ = some (.int .u32 0)) (h1 : w.cell? ⟨b, 1, none⟩ = some (.int .i32 0)) (f1 : w.frozen? ⟨b, 1, none⟩ = false)
  (hb : Calls Tryz.prog 133 #[.pointer (some ⟨b, 0, none⟩)] (w.setCell ⟨b, 1, none⟩ (.int .i32 1)) fun e w' => e = .returned (.tuple #[]) /\ Q w')
  (hQ : ∀ w', Q w' -> w'.cell? ⟨b, 0, none⟩ = some (.int .u32 0) /\ w'.cell? ⟨b, 1, none⟩ = some (.int .i32 1) /\ w'.frozen? ⟨b, 0, none⟩ = false /\ w'.frozen? ⟨b, 1, none⟩ = false) :
  Calls Tryz.prog 132 #[.pointer (some ⟨b, 0, none⟩), .func (.func 133) #[.pointer (some ⟨b, 0, none⟩)] #[]] w fun e w' => e = .returned (.tuple #[]) /\ ∃ w1, Q w1 /\ w' = aft b w1 := by
 have hl := run_call_load (P := Tryz.prog) Tryz.func159 (by kernel_rfl) (by kernel_rfl) (by kernel_rfl) .u32 (by kernel_rfl) h0;have hnot : ∀ (x : Bool) (w : World), (Op.unary .not (.bool x)).run Tryz.prog w = .ok (.bool (!x)) w := fun _ _ => rfl
 go_enter Tryz.func132, Tryz.ntmps132
 go_wp2_with (first | (go_at_call 148; refine (Z0t b w Q h0 h1 f1 hb hQ).mono ?_; rintro e w' ⟨rfl, w1, hq, rfl⟩) | (go_at_call 147; go_in))
 go_end0
 exact ⟨rfl, w1, hq, rfl⟩
set_option maxHeartbeats 1600000 in
theorem Y3F (b : Nat) (s : ByteArray) (w : World) (Q : World -> Prop) (hs : s.size <= 1000000) (h0 : w.cell? ⟨b, 0, none⟩ = some (.int .u32 0)) (h1 : w.cell? ⟨b, 1, none⟩ = some (.int .i32 0)) (f1 : w.frozen? ⟨b, 1, none⟩ = false)
  (hb : Calls Tryz.prog 133 #[.pointer (some ⟨b, 0, none⟩)] (w.setCell ⟨b, 1, none⟩ (.int .i32 1)) fun e w' => e = .returned (.tuple #[]) /\ Q w')
  (hQ : ∀ w', Q w' -> w'.cell? ⟨b, 0, none⟩ = some (.int .u32 0) /\ w'.cell? ⟨b, 1, none⟩ = some (.int .i32 1) /\ w'.frozen? ⟨b, 0, none⟩ = false /\ w'.frozen? ⟨b, 1, none⟩ = false)
  (hR : ∀ w', Q w' -> ∃ b2, (aft b w').cell? ⟨b, 3, none⟩ = some (.iface 198 (.pointer (some ⟨b2, 0, none⟩))) /\ TabAt (aft b w') b2) :
  Calls Tryz.prog 100 #[.pointer (some ⟨b, 0, none⟩), .string s] w fun e w' => e = .returned (.string ⟨(escS s.data.toList).toArray⟩) /\ ∃ w1, Q w1 /\ Below (aft b w1).heap.size (aft b w1) w' := by
 have hmf : ∀ (fn : Fn) (first cap : Array Value) (w : World), (Instr.makeFunc fn first cap).run Tryz.prog w = .ok (.func fn first cap) w := fun _ _ _ _ => rfl
 go_enter Tryz.func100, Tryz.ntmps100
 go_upto_region 2 with (go_at_call 132; refine (Z31 b w Q h0 h1 f1 hb hQ).mono ?_; rintro e w' ⟨rfl, w1, hq, rfl⟩)
 obtain ⟨b2, hc3, hT⟩ := hR w1 hq;have hm : ∀ W : World, (method 373 198 (.pointer (some ⟨b2, 0, none⟩)) "Replace").run Tryz.prog W = .ok (230, .pointer (some ⟨b2, 0, none⟩)) W := fun _ => by kernel_rfl
 go_wp2_with (go_at_call 230; refine (Y4D s b2 _ hs hT trivial).mono ?_; rintro e w' ⟨rfl, hbl⟩)
 go_ret
 exact ⟨rfl, w1, hq, hbl⟩
theorem Y6G (c : Nat) (h : c < 256) : Y5D[c]? = some (Z2s c) := by
 unfold Y5D;rw [List.getElem?_append_left (by simp; exact h), List.getElem?_map, List.getElem?_range h];rfl
theorem Y7W : Y5D[256]? = some (.gs 3 5 .str 3) := by
 unfold Y5D;rw [List.getElem?_append_right (by simp)];simp
theorem Z4x (c : Nat) (l : List UInt8) (h : repB c = some l) : c < 256 := by
 unfold repB at h;cases h1 : Nat.beq c 10 <;> rw [h1] at h
 ·cases h2 : Nat.beq c 34 <;> rw [h2] at h
  ·cases h3 : Nat.beq c 92 <;> rw [h3] at h
   ·cases h
   have := Nat.eq_of_beq_eq_true h3; omega
  have := Nat.eq_of_beq_eq_true h2; omega
 have := Nat.eq_of_beq_eq_true h1; omega
theorem Y1Q {kn : Kn} {m : Mp} {cs : List AV} {arr : Array Value} (h : RelL kn m cs arr.toList) {i : Nat} {x : AV} (hx : cs[i]? = some x) : ∃ v, arr[i]? = some v /\ Rel kn m x v := by
 have hi := (List.getElem?_eq_some_iff.1 hx).1;have hi' : i < arr.size := by have := h.1; simp at this; omega
 exact ⟨arr[i], Array.getElem?_eq_getElem hi', h.2 i x _ hx (by simp [hi'])⟩
theorem Z2t {kn : Kn} {m : Mp} {w : World} (hk : ∀ b o v, kn b o = some v -> w.cell? ⟨b, o, none⟩ = some v) {b : Nat} {arr : Array Value} {T : TypeId} (hw : w.heap[b]? = some (.cells arr T (0, 0))) (hr : RelL kn m Y5D arr.toList)
  {P : Program} {B : Base} {ty : TypeId} (h5 : ObjRel P B kn m w 5 (.tg .str ty [[10], [34], [92]])) : TabAt w b := by
 refine ⟨fun c hc hn => ?_, fun c l hl => ?_, ?_⟩
 ·obtain ⟨v, hv, hrel⟩ := Y1Q hr (Y6G c hc);unfold Z2s at hrel;rw [hn] at hrel;have hrel : Rel kn m (.base (.slice none 0 0)) v := hrel;cases hrel;rw [Lib.cell_of_heap hw, hv]
 ·obtain ⟨v, hv, hrel⟩ := Y1Q hr (Y6G c (Z4x c l hl));unfold Z2s at hrel;rw [hl] at hrel;have hrel : Rel kn m (.tvec (.int .u8) (X0f l)) v := hrel;have hrel := X1R.1 hrel;have h2 := Y1R c l hl;have hrows : (List.map (E.row (.int .u8)) (X0f l)).length = 2 := by rw [X6F]; unfold X0f; rw [List.length_map]; exact h2
  have hget : ∀ (j : Nat) (x : UInt8), l[j]? = some x -> (List.map (E.row (.int .u8)) (X0f l))[j]? = some [.int .u8 (x.toNat : Int)] := fun j x hx => by
   refine X6E (X0f l) ?_;unfold X0f;rw [List.getElem?_map, hx];rfl
  generalize List.map (E.row (.int .u8)) (X0f l) = rows at hrel hrows hget;have hrel : Rel kn m (.vec 1 rows) v := hrel;cases hrel with
  | vecNil => simp at hrows
  | vecNone => simp at hrows
  | vec _ _ g o cap vals hc hm hrow hkk h h1 =>
   refine ⟨g, o, cap, by rw [Lib.cell_of_heap hw, hv, hrows], fun j x hx => ?_⟩;have hj := hget j x hx;have h3 := hkk j _ 0 _ hj rfl;have h4 := h j _ 0 _ hj rfl;generalize vals j 0 = u at h3 h4;cases h4;rw [addr_add];have := hk _ _ _ h3;simpa using this
 obtain ⟨v, hv, hrel⟩ := Y1Q hr Y7W;obtain ⟨loc, hm, hlen, hgv⟩ := (show GvRel kn m w 5 1 ty (List.map (E.row .str) [[10], [34], [92]]) from h5);cases hrel with
 | gs _ _ _ _ _ locy hy hly hsl =>
  have hsl : Rel kn m (.sref 3 5 1 0 3) v := hsl;generalize hn : (3 : Nat) = n at hsl;cases hsl with
  | srefNil => cases hn
  | sref _ _ _ _ _ locz hz hznil hze hzl hzm =>
   subst hn;rw [hm] at hz; cases hz;rcases hgv with ⟨hnil, _⟩ | ⟨_, hesz, arr1, hw1, hsz, hcap, hmax, hone1, hrow, hrel1⟩
   ·rw [hnil] at hznil; cases hznil
   have hcell : ∀ (j : Nat) (x : List UInt8), [[10], [34], [92]][j]? = some x -> w.cell? ⟨loc.blk, loc.off + j, none⟩ = some (.string ⟨x.toArray⟩) := fun j x hx => by
    have hj : (List.map (E.row .str) [[10], [34], [92]])[j]? = some [.str x] := by
     rw [List.getElem?_map];have hx' : ([[10], [34], [92]] : List (E.den .str))[j]? = some x := hx;rw [hx'];rfl
    have hjl : j < 3 := (List.getElem?_eq_some_iff.1 hx).1;have hin : loc.off + j < arr1.size := by simp at hcap hsz; omega
    have hrv := hrel1 j [.str x] 0 (.str x) arr1[loc.off + j] hj rfl (by rw [Nat.mul_one, Nat.add_zero]; exact Array.getElem?_eq_getElem hin);rw [Lib.cell_of_heap hw1, Array.getElem?_eq_getElem hin];generalize arr1[loc.off + j] = u at hrv;cases hrv;rfl
   refine ⟨loc.blk, loc.off, loc.cap, ?_, hcell 0 [10] rfl, hcell 1 [34] rfl, hcell 2 [92] rfl⟩;rw [Lib.cell_of_heap hw, hv];simp
theorem Inv.put {C : Cx} {B : Base} {kn : Kn} {m : Mp} {σ : Sto} {nx : Nat} {w : World} (hI : Inv C B kn m σ nx w) {p nm : Nat} {T : TypeId} {cs : List AV} {loc : Loc} (hp : σ[p]? = some (nm, .cells T cs)) (hm : m nm = some loc) (i : Nat) {x : AV} {v : Value} (hv : Rel kn m x v) (h1 : v.oneCell' = true) :
  Inv C B kn m (σ.set p (nm, .cells T (cs.set i x))) nx (w.setCell ⟨loc.blk, i, none⟩ v) := by
 have hob := hI.obj p nm _ hp;simp only [ObjRel, hm] at hob;obtain ⟨hnl, h0, arr, hw, hrl, hone⟩ := hob;refine (hI.write (w' := w.setCell ⟨loc.blk, i, none⟩ v) (ob' := .cells T (cs.set i x)) hp trivial hm hnl (by simp [World.setCell]) rfl rfl rfl (fun b hb => Below.heap_setCell _ _ _ _ hb) ?_).1;simp only [ObjRel, hm];refine ⟨hnl, h0, arr.setIfInBounds i v, by simp [World.setCell, Array.getElem?_modify, hw], ⟨by simp [hrl.1], fun j y u hy hu => ?_⟩, fun u hu => ?_⟩
 ·rw [Array.toList_setIfInBounds, List.getElem?_set] at hu;rw [List.getElem?_set] at hy;split at hy
  ·rename_i hij;rw [if_pos hij] at hu;split at hy
   ·split at hu
    ·cases hy; cases hu; exact hv
    cases hu
   cases hy
  rename_i hij;rw [if_neg hij] at hu;exact hrl.2 j y u hy hu
 rw [Array.toList_setIfInBounds] at hu;rcases List.mem_or_eq_of_mem_set hu with h | rfl
 ·exact hone u h
 exact h1
theorem Inv.forgetAll {C : Cx} {B : Base} {kn : Kn} {m : Mp} {σ : Sto} {nx : Nat} {w w' : World} {g : Nat} (k : Nat) (h : Inv C B kn m σ nx w) (hs : Same w w' g) (hg : (B.w.heap.size <= g \/ B.own g) /\ ∀ o, kn g o = none) : Inv C B kn (fun n => if n < k then m n else none) [] k w' := by
 obtain ⟨h1, h2, h3, h4, h5⟩ := hs;refine ⟨fun b o v e => ?_, Nat.le_trans h.size h1, h2.trans h.os, h3.trans h.tape, h4.trans h.output, fun b hb hob => ?_, fun p nm ob e => by simp at e, fun p nm ob loc e => by simp at e, fun p nm ob loc p' nm' ob' loc' e => by simp at e, fun n q => if_neg (by omega), fun p nm ob e => by simp at e, fun p p' nm ob ob' e => by simp at e, fun p p' nm nm' ob ob' e => by simp at e, fun g => (h.glob g).rf (C.rf g) _, h.tab⟩
 ·have hlt := h.kn_lt e;have hne : b ≠ g := fun q => by rw [q, hg.2 o] at e; cases e
  have := h.knok b o v e;unfold World.cell? at this ⊢;rw [h5 b hlt hne]; exact this
 have hlt := Nat.lt_of_lt_of_le hb h.size;have hne : b ≠ g := fun q => by
  subst q;rcases hg.1 with q | q
  ·omega
  exact hob q
 exact ⟨(h5 b hlt hne).trans (h.old b hb hob).1, (h.old b hb hob).2⟩
theorem Y7h {P : Program} {g : FuncId} {vs : Array Value} {w : World} {post : Ending -> World -> Prop} (hb : X6Z P g = true) (h : Does P g vs w post) : Calls P g vs w post := by
 rcases h with ⟨_, h⟩ | ⟨u, w', h1, _⟩
 ·exact h
 rw [X2t hb vs w] at h1; cases h1
theorem X8t {C : Cx} {B : Base} {kn : Kn} {m : Mp} {σ : Sto} {nx : Nat} {w : World} (hI : Inv C B kn m σ nx w) {p nm : Nat} {T : TypeId} {cs : List AV} {loc : Loc} (hp : σ[p]? = some (nm, .cells T cs)) (hm : m nm = some loc) :
  loc.nil = false /\ loc.off = 0 /\ ∃ arr, w.heap[loc.blk]? = some (.cells arr T (0, 0)) /\ RelL kn m cs arr.toList := by
 have hob := hI.obj p nm _ hp;simp only [ObjRel, hm] at hob;obtain ⟨hnl, h0, arr, hw, hrl, hone⟩ := hob;exact ⟨hnl, h0, arr, hw, hrl⟩
theorem X5Q {C : Cx} {B : Base} {kn : Kn} {m : Mp} {σ : Sto} {nx : Nat} {w : World} (hI : Inv C B kn m σ nx w) {p nm : Nat} {T : TypeId} {cs : List AV} {loc : Loc} (hp : σ[p]? = some (nm, .cells T cs)) (hm : m nm = some loc) {i : Nat} {x : AV} (hx : cs[i]? = some x) :
  ∃ v, w.cell? ⟨loc.blk, i, none⟩ = some v /\ Rel kn m x v /\ w.frozen? ⟨loc.blk, i, none⟩ = false := by
 obtain ⟨_, _, arr, hw, hrl⟩ := X8t hI hp hm;obtain ⟨v, hv, hr⟩ := Y1Q hrl hx;exact ⟨v, by rw [Lib.cell_of_heap hw, hv], hr, Lib.frozen_of_heap hw i⟩
def Y7G (o0 : Int × Int × Int × Unit × Unit × Unit) (o1 : List (List UInt8)) (s : List UInt8) : Option (List UInt8 × Unit) := if o0.1 = 0 /\ o0.2.1 = 0 /\ o1 = old6 /\ s.length <= 1000000 then some (escS s, ()) else none
def Y2v : Sig := .o ⟨repO false, [.ref 0 0, .d .str], [], .d .str, fun x => Y7G x.2.1 x.2.2.1 x.1.2.1⟩
attribute [local irreducible] Y17 Y8t
theorem Z4o : OOK CX 133 ⟨repO false, [.ref 0 0], X3A, .tup [], Y17⟩ := Y8N
theorem Y3E (c : Int) (s : List UInt8) (hs : s.length <= 1000000) (B : Base) (kn : Kn) (m : Mp) (w : World) (vs : List Value) (hI : Inv CX B kn m (osto 0 (repO false) (x6 0 0 c)) 2 w)
  (hlay : ∀ i, i < 2 -> ∃ loc, m i = some loc) (hargs : RelL kn m [.ref 0 0 0, .str s] vs) : Does CX.P 100 vs.toArray w fun e w' => ∃ kn' m', KnLe kn kn' /\ Inv CX B kn' m' [] 2 w' /\ (∀ i, i < 2 -> m' i = m i) /\ RelOut kn' m' (.ret (.str (escS s))) e := by
 obtain ⟨loc, hm⟩ := hlay 0 (by decide);have hp : (osto 0 (repO false) (x6 0 0 c))[0]? = some (0, .cells 160 [.int .u32 0, .int .i32 0, .int .u32 c, .base .nilIface, .gs 1 1 .str 6]) := rfl;obtain ⟨hnl, h0, _⟩ := X8t hI hp hm;obtain ⟨v0, c0, r0, f0⟩ := X5Q hI hp hm (i := 0) rfl;obtain ⟨v1, c1, r1, f1⟩ := X5Q hI hp hm (i := 1) rfl;cases r0;cases r1;obtain ⟨va, vs1, rfl, hra, hargs⟩ := RelL.uncons hargs;obtain ⟨vb, vs2, rfl, hrb, hargs⟩ := RelL.uncons hargs;have : vs2 = [] := List.eq_nil_of_length_eq_zero hargs.1.symm;subst this;cases hrb;have hra' := hra;cases hra with
 | ref _ _ _ loc' hm' =>
  rw [hm] at hm'; cases hm';rw [h0] at hra' ⊢;have hI1 : Inv CX B kn m (osto 0 (repO false) (x6 0 1 c)) 2 (w.setCell ⟨loc.blk, 1, none⟩ (.int .i32 1)) := hI.put hp hm 1 (x := .int .i32 1) (.int .i32 1) rfl;obtain ⟨r', hF, hsto⟩ : ∃ r', Y17 (((), ()), x6 0 1 c) = some r' /\ osto 2 X3A r'.2 = X8W 0 1 c := by
   have := Y8u 0 1 c;obtain ⟨r', h1, h2⟩ := Option.map_eq_some_iff.1 this;exact ⟨r', h1, h2⟩
  have hD := Z4o.2 (((), ()), x6 0 1 c) r' hF B kn m _ [.pointer (some ⟨loc.blk, 0, none⟩)] hI1 hlay (.cons hra' (.nil _ _))
  let Q : World -> Prop := fun w' => ∃ kn' m', KnLe kn kn' /\ Inv CX B kn' m' (X8W 0 1 c) 6 w' /\ (∀ i, i < 2 -> m' i = m i) /\ ∃ loc4, m' 4 = some loc4
  have hb : Calls Tryz.prog 133 #[.pointer (some ⟨loc.blk, 0, none⟩)] (w.setCell ⟨loc.blk, 1, none⟩ (.int .i32 1)) fun e w' => e = .returned (.tuple #[]) /\ Q w' := by
   refine (Y7h (by kernel_rfl) hD).mono fun e w' ⟨kn', m', k1, k2, k3, k4, k5⟩ => ?_
   have k2 : Inv CX B kn' m' (osto 2 X3A r'.2) 6 w' := k2;rw [hsto] at k2;obtain ⟨loc4, h4⟩ := k4 2 (by show 2 < 4; omega);refine ⟨?_, kn', m', k1, k2, k3, loc4, h4⟩;have k5 : RelOut kn' m' (.ret (.tup [])) e := k5;cases e with
   | returned u =>
    cases k5 with
    | tup _ vs hl _ =>
     have : vs = #[] := Array.eq_empty_of_size_eq_zero (by simpa using hl.symm);rw [this]
   | _ => exact k5.elim
  have hq0 : (X8W 0 1 c)[0]? = some (0, .cells 160 [.int .u32 0, .int .i32 1, .int .u32 c, .iface 198 (.ref 2 4 0), .base (.slice none 0 0)]) := rfl;have hQ : ∀ w', Q w' -> w'.cell? ⟨loc.blk, 0, none⟩ = some (.int .u32 0) /\ w'.cell? ⟨loc.blk, 1, none⟩ = some (.int .i32 1) /\ w'.frozen? ⟨loc.blk, 0, none⟩ = false /\ w'.frozen? ⟨loc.blk, 1, none⟩ = false := by
   rintro w' ⟨kn', m', k1, k2, km, _⟩;have k3 := (km 0 (by omega)).trans hm;obtain ⟨y0, d0, s0, g0⟩ := X5Q k2 hq0 k3 (i := 0) rfl;obtain ⟨y1, d1, s1, g1⟩ := X5Q k2 hq0 k3 (i := 1) rfl;cases s0;cases s1;exact ⟨d0, d1, g0, g1⟩
  have hR : ∀ w', Q w' -> ∃ b2, (aft loc.blk w').cell? ⟨loc.blk, 3, none⟩ = some (.iface 198 (.pointer (some ⟨b2, 0, none⟩))) /\ TabAt (aft loc.blk w') b2 := by
   rintro w' ⟨kn', m', k1, k2, km, loc4, k4⟩;have k3 := (km 0 (by omega)).trans hm;have j1 := k2.drew.put hq0 k3 0 (x := .int .u32 1) (.int .u32 1) rfl;have hq1 : ((X8W 0 1 c).set 0 (0, .cells 160 ([AV.int .u32 0, .int .i32 1, .int .u32 c, .iface 198 (.ref 2 4 0), .base (.slice none 0 0)].set 0 (.int .u32 1))))[0]? = some (0, .cells 160 ([AV.int .u32 0, .int .i32 1, .int .u32 c, .iface 198 (.ref 2 4 0), .base (.slice none 0 0)].set 0 (.int .u32 1))) := rfl;have j2 := j1.put hq1 k3 1 (x := .int .i32 0) (.int .i32 0) rfl;have j2 : Inv CX B kn' m' [(0, .cells 160 [.int .u32 1, .int .i32 0, .int .u32 c, .iface 198 (.ref 2 4 0), .base (.slice none 0 0)]), (1, .tg .str 9 old6), (4, .cells 197 Y5D), (5, .tg .str 9 [[10], [34], [92]])] 6 (aft loc.blk w') := j2;obtain ⟨y3, d3, s3, g3⟩ := X5Q (p := 0) (nm := 0) j2 rfl k3 (i := 3) rfl;obtain ⟨_, o4, arr4, hw4, hr4⟩ := X8t (p := 2) (nm := 4) j2 rfl k4;have h5 := j2.obj 3 5 _ rfl;cases s3 with
   | iface _ _ v hv =>
    cases hv with
    | ref _ _ _ locx hmx =>
     rw [k4] at hmx; cases hmx;rw [o4] at d3;exact ⟨loc4.blk, d3, Z2t j2.knok hw4 hr4 h5⟩
  refine .inl ⟨by kernel_rfl, ?_⟩;refine (Y3F loc.blk ⟨s.toArray⟩ w Q (by simpa [ByteArray.size] using hs) c0 c1 f1 hb hQ hR).mono ?_;rintro e w' ⟨rfl, w2, ⟨kn', m', k1, k2, km, _⟩, hbl⟩;have k3 := (km 0 (by omega)).trans hm;obtain ⟨q1, q2, q3⟩ := k2.own 0 0 _ loc hq0 trivial k3 hnl;obtain ⟨e1, e2, e3, e4, e5⟩ := hbl;have hsz : (aft loc.blk w2).heap.size = w2.heap.size := by simp [aft, World.setCell]
  refine ⟨kn', _, k1, k2.forgetAll 2 (g := loc.blk) ⟨by rw [<- hsz]; exact e4, e1, e2, e3, fun b hb hne => ?_⟩ ⟨q2, q3 rfl⟩, fun i hi => ?_, ?_⟩
  ·rw [e5 b (by rw [hsz]; exact hb)];show ((w2.drew.setCell ⟨loc.blk, 0, none⟩ (.int .u32 1)).setCell ⟨loc.blk, 1, none⟩ (.int .i32 0)).heap[b]? = _;rw [Below.heap_setCell _ _ _ _ hne, Below.heap_setCell _ _ _ _ hne];rfl
  ·exact (if_pos hi).trans (km i hi)
  have : (ByteArray.mk s.toArray).data.toList = s := by simp
  rw [this];exact .str _
theorem Y2w : SigOK CX 100 Y2v := by
 refine ⟨by kernel_rfl, fun x r hr B kn m w vs hI hlay hargs => ?_⟩
 have gen : ∀ (a b c : Int) (old : List (List UInt8)) (s : List UInt8) (r : List UInt8 × Unit), Y7G (a, b, c, (), (), ()) old s = some r -> Inv CX B kn m (osto 0 (repO false) ((a, b, c, (), (), ()), old, ())) 2 w -> RelL kn m [.ref 0 0 0, .str s] vs ->
   Does CX.P 100 vs.toArray w fun e w' => ∃ kn' m', KnLe kn kn' /\ Inv CX B kn' m' [] 2 w' /\ (∀ i, i < 2 -> m' i = m i) /\ RelOut kn' m' (.ret (.str r.1)) e := fun a b c old s r hr hI hargs => by
  unfold Y7G at hr
  by_cases hc : a = 0 /\ b = 0 /\ old = old6 /\ s.length <= 1000000
  ·rw [if_pos hc] at hr;obtain ⟨ha, hb, ho, hs⟩ := hc;subst ha hb ho;cases hr;exact Y3E c s hs B kn m w vs hI hlay hargs
  rw [if_neg hc] at hr; cases hr
 exact (gen x.2.1.1 x.2.1.2.1 x.2.1.2.2.1 x.2.2.1 x.1.2.1 r hr hI hargs).mono fun e w' ⟨kn', m', h1, h2, h3, h4⟩ => ⟨kn', m', h1, h2, h3, fun j hj => absurd hj (by show ¬ j < 0; omega), h4⟩
end Go.Ab
namespace Go.Ab
open Go Go.RowKit Go.Proofs Go.Shelf
def atoiRen : Go.Shelf.Ren := ⟨fun | 172 => 143 | 244 => 153 | 245 => 154 | 247 => 166 | 279 => 167 | 280 => 168 | 281 => 169 | 282 => 170 | 287 => 182 | 316 => 183 | 171 => 98 | 205 => 184 | 321 => 196 | 322 => 197 | 243 => 131 | 246 => 146 | 283 => 155 | 284 => 156 | 285 => 157 | 286 => 158 | 129 => 172 | 317 => 171 | 318 => 173 | 319 => 174 | 320 => 175 | 337 => 185 | 338 => 186 | n => n, fun | 9 => 9 | 3 => 3 | 75 => 60 | 76 => 62 | 4 => 4 | 5 => 5 | 167 => 199 | 37 => 46 | 0 => 0 | 85 => 200 | 2 => 2 | 168 => 202 | 53 => 164 | 175 => 223 | 46 => 125 | 210 => 226 | 127 => 81 | 145 => 241 | 143 => 239 | 21 => 21 | 171 => 180 | 173 => 183 | 212 => 206 | 51 => 148 | 20 => 20 | 213 => 207 | 232 => 242 | 233 => 243 | 80 => 52 | n => n, fun | 15 => 4 | 16 => 5 | 17 => 3 | 18 => 6 | 19 => 7 | n => n⟩
theorem Y59 : LaysC.n172 Tryz.prog atoiRen := by
 constructor
 all_goals first | kernel_rfl | skip
 all_goals constructor
 all_goals first | kernel_rfl | skip
 all_goals first | constructor | (intro w; kernel_rfl)
 all_goals first | kernel_rfl | (intro w; kernel_rfl)
theorem X2T {C : Cx} {g : FuncId} {args : List AV} {Q : AOut -> Prop} (hb : X6Z C.P g = true)
  (h : ∀ (kn : Kn) (w : World) (vs : List Value), KnOK C kn w -> RelL kn m0 args vs -> Calls C.P g vs.toArray w fun e w' => (∃ out, Q out /\ RelOut kn m0 out e) /\ Below w.heap.size w w') : PCall C g args Q := by
 intro kn w vs hk hr;refine .inl ⟨hb, (h kn w vs hk hr).mono ?_⟩;rintro e w' ⟨⟨out, hQ, ho⟩, hbl⟩;refine ⟨out, kn, hQ, ho, ⟨fun b o v hv => ?_, hk.glob, fun g a e => ?_⟩, hbl, fun b _ => rfl⟩
 ·have h1 := hk.ok b o v hv;have h2 : b < w.heap.size := World.block_lt_of_cell? w ⟨b, o, none⟩ h1;rw [hbl.cell (p := ⟨b, o, none⟩) h2]; exact h1
 obtain ⟨T, z, hw⟩ := hk.tab g a e;obtain ⟨_, _, _, _, h5⟩ := hbl;exact ⟨T, z, (h5 g (Array.getElem?_eq_some_iff.1 hw).1).trans hw⟩
def Y9m (s : List UInt8) : Option (Int × Bool × Unit) := if s.length <= 281474976710656 then (match Lib.atoiAll s with
 | .ok v => some (v, true, ())
 | .range => some (Lib.atoiSat s, false, ())
 | _ => none) else none
def X7Z : Sig := .n [.d .str] (.tup [.d (.int .i64), .d .erri]) (fun x => Y9m x.1)
theorem Z5Q : ∃ g, errG = some g /\ atoiRen.g 16 = g := ⟨atoiRen.g 16, by unfold errG; kernel_rfl, rfl⟩
theorem Y02 (he : ∃ g, errG = some g /\ atoiRen.g 16 = g) : SigOK CX 143 X7Z := fun x r h => by
 have h : Y9m x.1 = some r := h;unfold Y9m at h;split at h
 ·rename_i hl;refine X2T (C := CX) (by kernel_rfl) fun kn w vs hk hr => ?_
  obtain ⟨v, vs1, rfl, hv, hvs⟩ := RelL.uncons hr;have : vs1 = [] := List.eq_nil_of_length_eq_zero hvs.1.symm;subst this;have hv : Rel kn m0 (.str x.1) v := hv;cases hv;generalize hx : Lib.atoiAll x.1 = z at h;cases z with
  | ok n =>
   cases h;refine (Any.strconv_Atoi_ok Y59 ⟨x.1.toArray⟩ (Nat.le_trans (show List.length x.1 <= 281474976710656 from hl) (by decide)) n hx w).mono ?_;rintro e w' ⟨rfl, hw⟩;refine ⟨⟨_, rfl, ?_⟩, ?_⟩
   ·exact .tup _ _ rfl (fun j a b h1 h2 => by
     match j with
     | 0 => cases h1; cases h2; exact .int _ _
     | 1 => cases h1; cases h2; exact .erriNil
     | j + 2 => cases h1)
   rcases hw with rfl | ⟨t, rfl⟩
   ·exact Below.refl _ _
   exact Lib.bytesWorld_below _ _ _
  | range =>
   cases h;obtain ⟨g, hg, hgr⟩ := he;have hgl := hk.glob g;have hgl : Rel kn m0 (if errG = some g then .rptr [.erri false] else .any) (.pointer (some ⟨g, 0, none⟩)) := hgl;rw [if_pos hg] at hgl;cases hgl with
   | rptr _ _ _ vals hkk hrr h1 =>
    have q1 := hkk 0 _ rfl;have q2 := hrr 0 _ rfl;generalize vals 0 = ev at q1 q2;cases q2 with
    | erriSome te pe =>
     refine (Any.strconv_Atoi_range Y59 ⟨x.1.toArray⟩ (show List.length x.1 <= 281474976710656 from hl) hx (.iface te pe) w (by rw [hgr]; exact hk.ok _ _ _ q1) (.inr ⟨te, pe, rfl⟩)).mono ?_;rintro e w' ⟨N, rfl, _, _, hbl⟩;refine ⟨⟨_, rfl, ?_⟩, hbl⟩;exact .tup _ _ rfl (fun j a b h1 h2 => by
      match j with
      | 0 => cases h1; cases h2; exact .int _ _
      | 1 => cases h1; cases h2; exact .erriSome _ _
      | j + 2 => cases h1)
  | _ => cases h
 cases h
theorem Y2a : SigOK CX 143 X7Z := Y02 Z5Q
end Go.Ab
namespace Go.Ab
open Go Go.RowKit Go.Proofs Go.Shelf
def Z4f : Go.Shelf.Ren := ⟨fun | 171 => 98 | 243 => 131 | 246 => 146 | 283 => 155 | 284 => 156 | 285 => 157 | 286 => 158 | 129 => 172 | 317 => 171 | 318 => 173 | 319 => 174 | 320 => 175 | 337 => 185 | 338 => 186 | n => n, fun | 3 => 3 | 9 => 9 | 2 => 2 | 4 => 4 | 171 => 180 | 0 => 0 | 53 => 164 | 37 => 46 | 5 => 5 | 173 => 183 | 212 => 206 | 51 => 148 | 20 => 20 | 213 => 207 | 46 => 125 | 232 => 242 | 233 => 243 | n => n, fun | 17 => 3 | 18 => 6 | 19 => 7 | n => n⟩
theorem Z1R : LaysM.n171 Tryz.prog Z4f := by
 constructor
 all_goals first | kernel_rfl | (intro w; kernel_rfl) | skip
 all_goals constructor
 all_goals first | kernel_rfl | (intro w; kernel_rfl) | skip
 all_goals constructor
 all_goals first | kernel_rfl | (intro w; kernel_rfl)
theorem Z4u : powT = Lib.pow10Tab := rfl
theorem Z4t : ∃ g, Tryz.prog.globalNamed "internal/strconv.uint64pow10" = some g /\ tabG g = some (powT.map fun z => Value.int .u64 z).toArray := by
 have h : (match Tryz.prog.globalNamed "internal/strconv.uint64pow10" with
  | some g => tabG g
  | none => none) = some (powT.map fun z => Value.int .u64 z).toArray := by kernel_rfl
 split at h
 ·rename_i g hg; exact ⟨g, hg, h⟩
 cases h
theorem Z2u {kn : Kn} {w : World} (hk : KnOK CX kn w) : Lib.TabIs Tryz.prog w "internal/strconv.uint64pow10" .u64 Lib.pow10Tab := by
 obtain ⟨g, hg, ht⟩ := Z4t;obtain ⟨T, z, hw⟩ := hk.tab g _ ht;unfold Lib.TabIs World.var?;rw [hg];simp only [Option.bind_some, hw];rw [<- Z4u]
def Y4S (n : Int) : Option (List UInt8) := if -9223372036854775808 <= n /\ n <= 9223372036854775807 then some (Lib.itoa n) else none
def Y8H : Sig := .n [.d (.int .i64)] (.d .str) (fun x => Y4S x.1)
theorem Y2b : SigOK CX 98 Y8H := fun x r h => by
 have h : Y4S x.1 = some r := h;unfold Y4S at h
 by_cases hc : -9223372036854775808 <= (show Int from x.1) /\ (show Int from x.1) <= 9223372036854775807
 ·rw [if_pos hc] at h;cases h;refine X2T (C := CX) (by kernel_rfl) fun kn w vs hk hr => ?_
  obtain ⟨v, vs1, rfl, hv, hvs⟩ := RelL.uncons hr;have : vs1 = [] := List.eq_nil_of_length_eq_zero hvs.1.symm;subst this;have hv : Rel kn m0 (.int .i64 x.1) v := hv;cases hv;refine (Any.strconv_Itoa Z1R x.1 hc.1 hc.2 w (Z2u hk)).mono ?_;rintro e w' ⟨rfl, k, os, rfl⟩;exact ⟨⟨_, rfl, .str _⟩, Go.Lib.below_grow _ w (Nat.le_refl _) k os⟩
 rw [if_neg hc] at h; cases h
end Go.Ab
namespace Go.Ab
open Go Go.RowKit Go.Proofs
def badR (c : Int) : Bool := !decide (c = 10) && (decide (c < 32) || decide (126 < c))
theorem Y9o (c : Int) : PCall CX 96 [.int .i32 c] (· = .ret (.bool (badR c))) := by
 refine X1f 0 13 [.tmp 2] Tryz.func96 rfl (by decide) rfl rfl rfl ?_;refine X0d {} rfl rfl fun K KP hK hP => ?_
 simp only [go_sem, ↓reduceIte];apply hK; clear hK hP
 by_cases c1_0 : c = 10
 ·
  refine X0d {} rfl rfl fun K KP hK hP => ?_
  simp only [go_sem, ↓reduceIte, c1_0];apply hK; clear hK hP;refine X0X ?_
  simp only [go_sem, ↓reduceIte, c1_0, X0g] <;> (
   simp [badR])
 
 by_cases c1_1 : c < 32
 ·
  refine X0d {} rfl rfl fun K KP hK hP => ?_
  simp only [go_sem, ↓reduceIte, c1_0, c1_1];apply hK; clear hK hP;refine X0X ?_
  simp only [go_sem, ↓reduceIte, c1_0, c1_1, X0g] <;> (
   simp [badR, c1_0, c1_1])
  
 refine X0d {} rfl rfl fun K KP hK hP => ?_
 simp only [go_sem, ↓reduceIte, c1_0, c1_1];apply hK; clear hK hP;refine X0X ?_
 simp only [go_sem, ↓reduceIte, c1_0, c1_1, X0g] <;> (
  simp [badR, c1_0, c1_1])
def idxR (p : Int -> Bool) (s : List UInt8) : Nat -> Nat -> Int
 | 0, _ => -1
 | f + 1, pos => if pos < s.length then (if p (Utf8.decode ⟨s.toArray⟩ pos).1 = true then pos else idxR p s f (pos + (Utf8.decode ⟨s.toArray⟩ pos).2)) else -1
theorem X8x (b : ByteArray) (i : Nat) : 1 <= (Utf8.decode b i).2 := by
 unfold Utf8.decode;simp only
 repeat' split
 all_goals simp
theorem X9C (p : Int -> Bool) (g : FuncId) (hg : ∀ c, PCall CX g [.int .i32 c] (· = .ret (.bool (p c)))) (s : List UInt8) : PCall CX 145 [.str s, .fn (.func g) [] [], .bool true] (· = .ret (.int .i64 (idxR p s (s.length + 1) 0))) := by
 refine X1f 0 21 [.tmp 6] Tryz.func145 rfl (by decide) rfl rfl rfl ?_;refine X0d {} rfl rfl fun K KP hK hP => ?_
 simp only [go_sem, ↓reduceIte];apply hK; clear hK hP;refine X1l ?_;refine X0d {} rfl rfl fun K KP hK hP => ?_
 simp only [go_sem, ↓reduceIte];apply hK; clear hK hP;refine X2H ?_;refine X7z (fun dd st => ∃ (pos f : Nat), (s.length < pos + f) /\ (idxR p s f pos = idxR p s (s.length + 1) 0) /\ f = dd /\ [(0, .siter s pos)] = st.σ /\ st.env 0 = .str s /\ st.env 1 = .fn (.func g) [] [] /\ st.env 2 = .bool true /\ st.env 10 = .ref 0 0 0) (fun dd st hJ => ?_) ?_
 ·
  obtain ⟨env0, σ0, nx0⟩ := st;obtain ⟨pos, f, hp0_0, hp0_1, hd0, hs0, e0_0, e0_1, e0_2, e0_10⟩ := hJ;dsimp only at hs0  e0_0 e0_1 e0_2 e0_10;subst hd0; subst hs0;refine X93 1 rfl ?_
  by_cases c2 : pos < s.length
  ·
   refine X0d {} rfl rfl fun K KP hK hP => ?_
   simp only [go_sem, ↓reduceIte, e0_0, e0_1, e0_2, e0_10, c2];apply hK; clear hK hP;refine X1l ?_;refine X2E (True) (by simp only [go_sem, ↓reduceIte, e0_0, e0_1, e0_2, e0_10, c2]) (fun h2 => ?_) (fun h2 => ?_)
   ·
    refine X1z ?_;refine X0h.2 ?_;refine X2H ?_;refine X0d {} rfl rfl fun K KP hK hP => ?_
    simp only [go_sem, ↓reduceIte, e0_0, e0_1, e0_2, e0_10, c2];apply hK; clear hK hP;refine X0d {} rfl rfl fun K KP hK hP => ?_
    simp only [go_sem, ↓reduceIte, e0_0, e0_1, e0_2, e0_10, c2];refine CallP.ret (hg _) (by simp only [go_sem]) ?_
    try simp only [go_sem, ↓reduceIte, e0_0, e0_1, e0_2, e0_10, c2]
    apply hK; clear hK hP;refine X2E (p (Utf8.decode ⟨s.toArray⟩ pos).1 = true) (by simp only [go_sem, ↓reduceIte, e0_0, e0_1, e0_2, e0_10, c2]) (fun h4 => ?_) (fun h4 => ?_)
    ·
     refine X0d {} rfl rfl fun K KP hK hP => ?_
     simp only [go_sem, ↓reduceIte, e0_0, e0_1, e0_2, e0_10, c2];apply hK; clear hK hP;refine X0X ?_;refine X9Z.2 ?_;refine X5K ?_;refine X0g.2 ?_;refine X9Z.2 ?_;refine X0g.2 ?_
     simp only [go_sem, ↓reduceIte, e0_0, e0_1, e0_2, e0_10, c2, X0g] <;> (
      rw [<- hp0_1];cases f with
      | zero => omega
      | succ f => simp only [idxR, c2, if_true, h4])
    
    refine X1z ?_;refine X2f.2 ?_;refine X5K ?_;refine X0h.2 ?_;refine ⟨_, ?_, (pos + (Utf8.decode ⟨s.toArray⟩ pos).2), (f - 1), ?_, ?_, rfl, rfl, ?_, ?_, ?_, ?_⟩
    ·have := X8x ⟨s.toArray⟩ pos;omega
    ·have := X8x ⟨s.toArray⟩ pos;omega
    ·rw [<- hp0_1];cases f with
     | zero => omega
     | succ f => simp only [idxR, c2, if_true, h4, Nat.add_sub_cancel, if_false]; rfl
    ·simp only [go_sem, ↓reduceIte, e0_0, e0_1, e0_2, e0_10, c2] <;> try rfl
    ·simp only [go_sem, ↓reduceIte, e0_0, e0_1, e0_2, e0_10, c2] <;> try rfl
    ·simp only [go_sem, ↓reduceIte, e0_0, e0_1, e0_2, e0_10, c2] <;> try rfl
    simp only [go_sem, ↓reduceIte, e0_0, e0_1, e0_2, e0_10, c2] <;> try rfl
   
   exact absurd trivial h2
  
  refine X0d {} rfl rfl fun K KP hK hP => ?_
  simp only [go_sem, ↓reduceIte, e0_0, e0_1, e0_2, e0_10, c2];apply hK; clear hK hP;refine X1l ?_;refine X2E (False) (by simp only [go_sem, ↓reduceIte, e0_0, e0_1, e0_2, e0_10, c2]) (fun h2 => ?_) (fun h2 => ?_)
  ·
   exact h2.elim
   
  refine X6r ?_;refine X04.2 ?_;refine X5K ?_;refine X04.2 ?_;refine X1W ?_;refine X0h.2 ?_;refine X0d {} rfl rfl fun K KP hK hP => ?_
  simp only [go_sem, ↓reduceIte, e0_0, e0_1, e0_2, e0_10, c2];apply hK; clear hK hP;refine X0X ?_
  simp only [go_sem, ↓reduceIte, e0_0, e0_1, e0_2, e0_10, c2, X0g] <;> (
   rw [<- hp0_1];cases f with
   | zero => rfl
   | succ f => simp only [idxR, c2, if_false])
 
 refine ⟨_, 0, s.length + 1, ?_, ?_, rfl, ?_, ?_, ?_, ?_, ?_⟩
 ·first | omega | trivial | assumption
 ·first | omega | trivial | assumption
 ·first | rfl | (simp only [go_sem, ↓reduceIte])
 ·simp only [go_sem, ↓reduceIte] <;> try rfl
 ·simp only [go_sem, ↓reduceIte] <;> try rfl
 ·simp only [go_sem, ↓reduceIte] <;> try rfl
 simp only [go_sem, ↓reduceIte] <;> try rfl
theorem X8J (p : Int -> Bool) (g : FuncId) (hg : ∀ c, PCall CX g [.int .i32 c] (· = .ret (.bool (p c)))) (s : List UInt8) : PCall CX 130 [.str s, .fn (.func g) [] []] (· = .ret (.int .i64 (idxR p s (s.length + 1) 0))) := by
 refine X1f 0 8 [.tmp 4] Tryz.func130 rfl (by decide) rfl rfl rfl ?_;refine X0d {} rfl rfl fun K KP hK hP => ?_
 simp only [go_sem, ↓reduceIte];apply hK; clear hK hP;refine X0d {} rfl rfl fun K KP hK hP => ?_
 simp only [go_sem, ↓reduceIte];refine CallP.ret (X9C p g hg s) (by simp only [go_sem]) ?_
 try simp only [go_sem, ↓reduceIte]
 apply hK; clear hK hP;refine X0X ?_;simp only [go_sem, ↓reduceIte, X0g]
theorem X6u (p : Int -> Bool) (g : FuncId) (hg : ∀ c, PCall CX g [.int .i32 c] (· = .ret (.bool (p c)))) (s : List UInt8) : PCall CX 97 [.str s, .fn (.func g) [] []] (· = .ret (.bool (decide (0 <= idxR p s (s.length + 1) 0)))) := by
 refine X1f 0 9 [.tmp 4] Tryz.func97 rfl (by decide) rfl rfl rfl ?_;refine X0d {} rfl rfl fun K KP hK hP => ?_
 simp only [go_sem, ↓reduceIte];apply hK; clear hK hP;refine X0d {} rfl rfl fun K KP hK hP => ?_
 simp only [go_sem, ↓reduceIte];refine CallP.ret (X8J p g hg s) (by simp only [go_sem]) ?_
 try simp only [go_sem, ↓reduceIte]
 apply hK; clear hK hP;refine X0X ?_;simp only [go_sem, ↓reduceIte, X0g]
def badT (t : List UInt8) : Bool := decide (0 <= idxR badR t (t.length + 1) 0)
def X5F : Sig := .n [.d .str, .c (.fn (.func 96) [] [])] (.d .bool) (fun x => some (badT x.1))
theorem X7c : SigOK CX 97 X5F := fun x r h => by cases h; exact X6u badR _ Y9o x.1
end Go.Ab
namespace Go.Ab
open Go Go.RowKit Go.Proofs
def X2Y (k : Nat) (x0 : Fm) : Option (Int) := match k with
| 0 => none
| k + 1 => (
 Option.bind (α := (Int × Unit) × (Unit))
 (X0v (L := ((Int × Int × List UInt8 × (List Fm) × Unit) × Int × Int × Unit) × (Unit)) (R := (Int × Unit) × (Unit)) (fun d1 => (
 let v3_2 := d1.1.2.1
 let v4_3 := d1.1.2.2.1
 cond (cond (decide (d1.1.1.1 = 3)) (decide (v4_3 < (d1.1.1.2.2.2.1.length : Int))) false) (cond (ixOK v4_3 d1.1.1.2.2.2.1.length) (Option.bind (α := Int) (X2Y k (Fm.eta (d1.1.1.2.2.2.1.getD v4_3.toNat (Fm.mk 0 0 [] [])))) fun r4 => (
 some (Step.next (((d1.1.1.1, d1.1.1.2.1, d1.1.1.2.2.1, d1.1.1.2.2.2.1, ()), IntKind.wrap .i64 (v3_2 + r4), IntKind.wrap .i64 (v4_3 + 1), ()), ())))) none) (some (Step.done ((v3_2, ()), ()))))) (((x0.k, x0.n, x0.t, x0.l, ()), 1, 0, ()), ())) fun d5 => (
 let v3_6 := d5.1.1
 some v3_6))
def Y8m : An := .seq (.leaf) (.seq (.leaf) (.join false ⟨[(3, (.d (.int .i64)))], []⟩ (.seq (.leaf) (.block (.loop { env := [(1, (.rptr [(.d (.int .i64)), (.d (.int .i64)), (.d .str), (.d (.slice .form))])), (3, (.d (.int .i64))), (4, (.d (.int .i64)))], objs := [] } (.leaf)))) (.leaf)))
def X8c (k : Nat) : Sig := .n [(.d .form)] (.d (.int .i64)) (fun x => X2Y k x.1)
theorem X5H : ∀ k, SigOK CX 70 (X8c k)
| 0 => fun x r h => by cases h
| k + 1 => by
 have ih := X5H k;exact X0i (l := [(70, (X8c k))]) ⟨ih, trivial⟩ (hint := fun _ => {}) (an := Y8m) (fun x => by kernel_rfl)
theorem Y2u : ∀ k, SigOK CX 70 (X8c k) := fun k => X5H k
def X7W (x0 : Fm) : Option (Int) := limF fun k => X2Y k x0
def X8d : Sig := .n [(.d .form)] (.d (.int .i64)) (fun x => X7W x.1)
theorem X9x : SigOK CX 70 X8d := SigOK.limN Y2u fun x r h => X3z h
def Y5N (x0 : Fm) : Option (Bool) := (
 Option.bind (α := Step ((Unit) × (Unit)) (Bool))
 (cond (decide (x0.k = 0)) (some (Step.done (cond (cond (cond (decide (x0.t = [])) (decide ((x0.l.length : Int) = 0)) false) (decide (x0.n >= (-1152921504606846976))) false) (decide (x0.n <= 1152921504606846976)) false))) (cond (decide (x0.k = 1)) (Option.bind (α := Bool) (cond (cond (!decide (x0.t = [])) (decide ((x0.t.length : Int) <= 30)) false) (X1P (x0.t)) (some false)) fun r1 => (
 Option.bind (α := ((Int × Int × List UInt8 × (List Fm) × Unit) × Bool × Unit) × (Unit))
 (X0v (L := ((Int × Int × List UInt8 × (List Fm) × Unit) × Bool × Int × Unit) × (Unit)) (R := ((Int × Int × List UInt8 × (List Fm) × Unit) × Bool × Unit) × (Unit)) (fun d2 => (
 let v3_3 := d2.1.2.1
 let v4_4 := d2.1.2.2.1
 cond (cond (decide (v4_4 < (d2.1.1.2.2.1.length : Int))) v3_3 false) (cond (ixOK v4_4 d2.1.1.2.2.1.length) (Option.bind (α := Bool) (X1r (X0b d2.1.1.2.2.1 v4_4)) fun r5 => (
 some (Step.next (((d2.1.1.1, d2.1.1.2.1, d2.1.1.2.2.1, d2.1.1.2.2.2.1, ()), !r5, IntKind.wrap .i64 (v4_4 + 1), ()), ())))) none) (some (Step.done (((d2.1.1.1, d2.1.1.2.1, d2.1.1.2.2.1, d2.1.1.2.2.2.1, ()), v3_3, ()), ()))))) (((x0.k, x0.n, x0.t, x0.l, ()), cond (cond (!decide (x0.t = [])) (decide ((x0.t.length : Int) <= 30)) false) (!r1) false, 0, ()), ())) fun d6 => (
 let v3_7 := d6.1.2.1
 some (Step.done (cond (cond v3_7 (decide (d6.1.1.2.1 = 0)) false) (decide ((d6.1.1.2.2.2.1.length : Int) = 0)) false))))) (cond (decide (x0.k = 2)) (Option.bind (α := Bool) (cond (decide ((x0.t.length : Int) <= 2000)) (some (badT (x0.t))) (some false)) fun r8 => (
 some (Step.done (cond (cond (cond (decide ((x0.t.length : Int) <= 2000)) (!r8) false) (decide (x0.n = 0)) false) (decide ((x0.l.length : Int) = 0)) false)))) (cond (decide (x0.k = 3)) (some (Step.done (cond (decide (x0.t = [])) (decide (x0.n = 0)) false))) (some (Step.next ((), ()))))))) fun qd9 => match qd9 with
 | .next d9 => (
 some false)
 | .done r => some r)
def Z5o : An := .seq (.leaf) (.join true ⟨[], []⟩ (.seq (.leaf) (.block (.seq (.leaf) (.cond (.leaf) (.seq (.leaf) (.cond (.seq (.leaf) (.join false { env := [(1, (.rptr [(.d (.int .i64)), (.d (.int .i64)), (.d .str), (.d (.slice .form))])), (3, (.d .bool))], objs := [] } (.seq (.leaf) (.block (.loop { env := [(1, (.rptr [(.d (.int .i64)), (.d (.int .i64)), (.d .str), (.d (.slice .form))])), (3, (.d .bool)), (4, (.d (.int .i64)))], objs := [] } (.leaf)))) (.leaf))) (.leaf))))))) (.leaf))
def Z2M : Sig := .n [(.d .form)] (.d .bool) (fun x => Y5N x.1)
theorem Y8K : SigOK CX 64 Z2M := X0i (l := [(94, X76), (95, X5G), (97, X5F)]) ⟨X6Q, X31, X7c, trivial⟩ (hint := fun _ => {}) (an := Z5o) (fun x => by kernel_rfl)
def X6k (k : Nat) (x0 : Fm) (x2 : Int) (o0 : Int × Unit) : Option ((Bool) × ((Int × Unit) × Unit)) := match k with
| 0 => none
| k + 1 => (
 Option.bind (α := Bool) (cond (!(cond (decide (IntKind.wrap .i64 (o0.1 - 1) < 0)) true (decide (x2 = 0)))) (Y5N (Fm.eta x0)) (some false)) fun r1 => (
 cond (cond (cond (decide (IntKind.wrap .i64 (o0.1 - 1) < 0)) true (decide (x2 = 0))) true (!r1)) (some (false, ((IntKind.wrap .i64 (o0.1 - 1), ()), ()))) (Option.bind (α := Step ((Unit) × ((Int × Unit) × Unit)) ((Bool) × ((Int × Unit) × Unit)))
 (X0v (L := (Unit × Int × (List Fm) × Int × Int × Unit) × ((Int × Unit) × Unit)) (R := Step ((Unit) × ((Int × Unit) × Unit)) ((Bool) × ((Int × Unit) × Unit))) (fun d2 => (
 let c3 := d2.2.1.1
 let v2_4 := d2.1.2.1
 let v28_5 := d2.1.2.2.1
 let v29_6 := d2.1.2.2.2.1
 let v30_7 := d2.1.2.2.2.2.1
 cond (decide (v30_7 < v29_6)) (cond (ixOK v30_7 v28_5.length) (Option.bind (α := (Bool) × ((Int × Unit) × Unit)) (X6k k (Fm.eta (v28_5.getD v30_7.toNat (Fm.mk 0 0 [] []))) (IntKind.wrap .i64 (v2_4 - 1)) (c3, ())) fun r8 => (
 cond (!r8.1) (some (Step.done (Step.done (false, ((r8.2.1.1, ()), ()))))) (some (Step.next (((), v2_4, v28_5, v29_6, IntKind.wrap .i64 (v30_7 + 1), ()), ((r8.2.1.1, ()), ())))))) none) (some (Step.done (Step.next ((), ((c3, ()), ()))))))) (((), x2, x0.l, (x0.l.length : Int), 0, ()), ((IntKind.wrap .i64 (o0.1 - 1), ()), ()))) fun qd9 => match qd9 with
 | .next d9 => (
 let c10 := d9.2.1.1
 some (true, ((c10, ()), ())))
 | .done r => some r)))
def Z3m : An := .seq (.leaf) (.seq (.leaf) (.seq (.leaf) (.join true { env := [], objs := [(true, .cells 3 [(.d (.int .i64))])] } (.seq (.leaf) (.block (.loop { env := [(1, (.ref 0 0)), (2, (.d (.int .i64))), (28, (.d (.slice .form))), (29, (.d (.int .i64))), (30, (.d (.int .i64)))], objs := [(true, .cells 3 [(.d (.int .i64))])] } (.leaf)))) (.leaf))))
def Z3t : Nat -> RH := fun r => match r with
 | 7 => { H := { ac := [38] } }
 | _ => {}
def Y81 (k : Nat) : Sig := .o { pre := [(false, .cells 3 [(.d (.int .i64))])], args := [(.d .form), (.ref 0 0), (.d (.int .i64))], post := [(true, .cells 3 [(.d (.int .i64))])], res := (.d .bool), f := fun x => X6k k x.1.1 x.1.2.2.1 x.2.1 }
theorem X9W : ∀ k, SigOK CX 40 (Y81 k)
| 0 => ⟨by kernel_rfl, fun x r h => by cases h⟩
| k + 1 => by
 have ih := X9W k;exact X1h (l := [(64, Z2M), (40, (Y81 k))]) ⟨Y8K, ih, trivial⟩ (hint := Z3t) (an := Z3m) (by kernel_rfl) (fun x => by kernel_rfl)
def Y4c (x0 : Fm) (x2 : Int) (o0 : Int × Unit) : Option ((Bool) × ((Int × Unit) × Unit)) := limF fun k => X6k k x0 x2 o0
def Y2H : Sig := .o { pre := [(false, .cells 3 [(.d (.int .i64))])], args := [(.d .form), (.ref 0 0), (.d (.int .i64))], post := [(true, .cells 3 [(.d (.int .i64))])], res := (.d .bool), f := fun x => Y4c x.1.1 x.1.2.2.1 x.2.1 }
theorem Y2I : SigOK CX 40 Y2H := SigOK.limO X9W fun x r h => X3z h
def X4z (x0 : Fm) : Option (Bool) := (
 Option.bind (α := (Bool) × ((Int × Unit) × Unit)) (Y4c (Fm.eta x0) 100 (20000, ())) fun r1 => (
 some r1.1))
def Z1a : An := .leaf
def Z1k : Nat -> RH := fun r => match r with
 | 2 => { H := { ac := [5] } }
 | _ => {}
def X7v : Sig := .n [(.d .form)] (.d .bool) (fun x => X4z x.1)
theorem X5d : SigOK CX 24 X7v := X0i (l := [(40, Y2H)]) ⟨Y2I, trivial⟩ (hint := Z1k) (an := Z1a) (fun x => by kernel_rfl)
def X5D (x0 : Int) : Option (Bool) := (
 some (cond (cond (cond (cond (cond (decide (x0 >= 33)) (decide (x0 <= 126)) false) (!decide (x0 = 40)) false) (!decide (x0 = 41)) false) (!decide (x0 = 34)) false) (!decide (x0 = 59)) false))
def Y8r : An := .leaf
def Y2J : Sig := .n [(.d (.int .u8))] (.d .bool) (fun x => X5D x.1)
theorem Y2K : SigOK CX 83 Y2J := X0i (l := []) trivial (hint := fun _ => {}) (an := Y8r) (fun x => by kernel_rfl)
def X7l (x0 : List UInt8) : Option (Bool) := (
 Option.bind (α := (List UInt8 × Unit) × (Unit))
 (cond ((ixOK 0 x0.length) || !(decide ((x0.length : Int) > 1))) (cond (cond (decide ((x0.length : Int) > 1)) (decide (X0b x0 0 = 45)) false) (cond (slOK 1 (x0.length : Int) x0.length) (some (((x0.drop (1 : Int).toNat).take ((x0.length : Int).toNat - (1 : Int).toNat), ()), ())) none) (some ((x0, ()), ()))) none) fun d1 => (
 let v0_2 := d1.1.1
 Option.bind (α := Step ((List UInt8 × Unit) × (Unit)) (Bool))
 (X0v (L := (List UInt8 × Int × Unit) × (Unit)) (R := Step ((List UInt8 × Unit) × (Unit)) (Bool)) (fun d3 => (
 let v0_4 := d3.1.1
 let v3_5 := d3.1.2.1
 cond (decide (v3_5 < (v0_4.length : Int))) (cond (ixOK v3_5 v0_4.length) (cond ((ixOK v3_5 v0_4.length) || !(!(decide (X0b v0_4 v3_5 < 48)))) (cond (cond (decide (X0b v0_4 v3_5 < 48)) true (decide (X0b v0_4 v3_5 > 57))) (some (Step.done (Step.done false))) (some (Step.next ((v0_4, IntKind.wrap .i64 (v3_5 + 1), ()), ())))) none) none) (some (Step.done (Step.next ((v0_4, ()), ())))))) ((v0_2, 0, ()), ())) fun qd6 => match qd6 with
 | .next d6 => (
 let v0_7 := d6.1.1
 some (!decide (v0_7 = [])))
 | .done r => some r))
def Z0Z : An := .seq (.leaf) (.join false ⟨[(0, (.d .str))], []⟩ (.leaf) (.join true ⟨[(0, (.d .str))], []⟩ (.seq (.leaf) (.block (.loop ⟨[(0, (.d .str)), (3, (.d (.int .i64)))], []⟩ (.leaf)))) (.leaf)))
def Y5R : Sig := .n [(.d .str)] (.d .bool) (fun x => X7l x.1)
theorem Y4g : SigOK CX 106 Y5R := X0i (l := []) trivial (hint := fun _ => {}) (an := Z0Z) (fun x => by kernel_rfl)
def X7n (x0 : List UInt8) : Option (Bool) := (
 Option.bind (α := Step ((List UInt8 × Unit) × (Unit)) (Bool))
 (X0v (L := (List UInt8 × Int × Unit) × (Unit)) (R := Step ((List UInt8 × Unit) × (Unit)) (Bool)) (fun d1 => (
 let v0_2 := d1.1.1
 let v3_3 := d1.1.2.1
 cond (decide (v3_3 < (v0_2.length : Int))) (cond (ixOK v3_3 v0_2.length) (Option.bind (α := Bool) (X5D (X0b v0_2 v3_3)) fun r4 => (
 cond (!r4) (some (Step.done (Step.done false))) (some (Step.next ((v0_2, IntKind.wrap .i64 (v3_3 + 1), ()), ()))))) none) (some (Step.done (Step.next ((v0_2, ()), ())))))) ((x0, 0, ()), ())) fun qd5 => match qd5 with
 | .next d5 => (
 let v0_6 := d5.1.1
 Option.bind (α := Bool) (cond (cond (decide ((v0_6.length : Int) >= 1)) (decide ((v0_6.length : Int) <= 30)) false) (X7l v0_6) (some false)) fun r7 => (
 some (cond (cond (decide ((v0_6.length : Int) >= 1)) (decide ((v0_6.length : Int) <= 30)) false) (!r7) false)))
 | .done r => some r)
def Z02 : An := .seq (.leaf) (.join true ⟨[(0, (.d .str))], []⟩ (.seq (.leaf) (.block (.loop ⟨[(0, (.d .str)), (3, (.d (.int .i64)))], []⟩ (.leaf)))) (.leaf))
def Y5T : Sig := .n [(.d .str)] (.d .bool) (fun x => X7n x.1)
theorem Y4j : SigOK CX 68 Y5T := X0i (l := [(83, Y2J), (106, Y5R)]) ⟨Y2K, Y4g, trivial⟩ (hint := fun _ => {}) (an := Z02) (fun x => by kernel_rfl)
def X7m (x0 : List UInt8) : Option (Bool) := (
 Option.bind (α := Step ((List UInt8 × Unit) × (Unit)) (Bool))
 (X0v (L := (List UInt8 × Int × Unit) × (Unit)) (R := Step ((List UInt8 × Unit) × (Unit)) (Bool)) (fun d1 => (
 let v0_2 := d1.1.1
 let v3_3 := d1.1.2.1
 cond (decide (v3_3 < (v0_2.length : Int))) (cond (ixOK v3_3 v0_2.length) (cond ((ixOK v3_3 v0_2.length) || !(!decide (X0b v0_2 v3_3 = 10))) (cond ((ixOK v3_3 v0_2.length) || !((!decide (X0b v0_2 v3_3 = 10)) && !(decide (X0b v0_2 v3_3 < 32)))) (cond (cond (!decide (X0b v0_2 v3_3 = 10)) (cond (decide (X0b v0_2 v3_3 < 32)) true (decide (X0b v0_2 v3_3 > 126))) false) (some (Step.done (Step.done false))) (some (Step.next ((v0_2, IntKind.wrap .i64 (v3_3 + 1), ()), ())))) none) none) none) (some (Step.done (Step.next ((v0_2, ()), ())))))) ((x0, 0, ()), ())) fun qd4 => match qd4 with
 | .next d4 => (
 let v0_5 := d4.1.1
 some (decide ((v0_5.length : Int) <= 2000)))
 | .done r => some r)
def Z01 : An := .seq (.leaf) (.join true ⟨[(0, (.d .str))], []⟩ (.seq (.leaf) (.block (.loop ⟨[(0, (.d .str)), (3, (.d (.int .i64)))], []⟩ (.leaf)))) (.leaf))
def Y5S : Sig := .n [(.d .str)] (.d .bool) (fun x => X7m x.1)
theorem Y4i : SigOK CX 69 Y5S := X0i (l := []) trivial (hint := fun _ => {}) (an := Z01) (fun x => by kernel_rfl)
def X4t (k : Nat) (x0 : Fm) : Option (Bool) := match k with
| 0 => none
| k + 1 => (
 cond (cond (cond (cond (!decide (x0.k = 0)) (!decide (x0.n = 0)) false) true (cond (!decide (x0.k = 3)) (decide ((x0.l.length : Int) > 0)) false)) true (cond (cond (!decide (x0.k = 1)) (!decide (x0.k = 2)) false) (!decide (x0.t = [])) false)) (some false) (Option.bind (α := Step ((Unit) × (Unit)) (Bool))
 (cond (decide (x0.k = 0)) (some (Step.done (cond (decide (x0.n >= (-1152921504606846976))) (decide (x0.n <= 1152921504606846976)) false))) (cond (decide (x0.k = 1)) (Option.bind (α := Bool) (X7n x0.t) fun r1 => (
 some (Step.done r1))) (cond (decide (x0.k = 2)) (Option.bind (α := Bool) (X7m x0.t) fun r2 => (
 some (Step.done r2))) (cond (decide (x0.k = 3)) (Option.bind (α := Step ((Unit) × (Unit)) (Step ((Unit) × (Unit)) (Bool)))
 (X0v (L := ((Int × Int × List UInt8 × (List Fm) × Unit) × Int × Unit) × (Unit)) (R := Step ((Unit) × (Unit)) (Step ((Unit) × (Unit)) (Bool))) (fun d3 => (
 let v3_4 := d3.1.2.1
 cond (decide (v3_4 < (d3.1.1.2.2.2.1.length : Int))) (cond (ixOK v3_4 d3.1.1.2.2.2.1.length) (Option.bind (α := Bool) (X4t k (Fm.eta (d3.1.1.2.2.2.1.getD v3_4.toNat (Fm.mk 0 0 [] [])))) fun r5 => (
 cond (!r5) (some (Step.done (Step.done (Step.done false)))) (some (Step.next (((d3.1.1.1, d3.1.1.2.1, d3.1.1.2.2.1, d3.1.1.2.2.2.1, ()), IntKind.wrap .i64 (v3_4 + 1), ()), ()))))) none) (some (Step.done (Step.next ((), ())))))) (((x0.k, x0.n, x0.t, x0.l, ()), 0, ()), ())) fun qd6 => match qd6 with
 | .next d6 => (
 some (Step.done true))
 | .done r => some r) (some (Step.next ((), ()))))))) fun qd7 => match qd7 with
 | .next d7 => (
 some false)
 | .done r => some r))
def Z00 : An := .seq (.leaf) (.seq (.leaf) (.join true ⟨[], []⟩ (.seq (.leaf) (.block (.seq (.leaf) (.cond (.leaf) (.seq (.leaf) (.cond (.leaf) (.seq (.leaf) (.cond (.leaf) (.seq (.leaf) (.cond (.join true ⟨[], []⟩ (.seq (.leaf) (.block (.loop { env := [(1, (.rptr [(.d (.int .i64)), (.d (.int .i64)), (.d .str), (.d (.slice .form))])), (3, (.d (.int .i64)))], objs := [] } (.leaf)))) (.leaf)) (.leaf))))))))))) (.leaf)))
def Y04 (k : Nat) : Sig := .n [(.d .form)] (.d .bool) (fun x => X4t k x.1)
theorem X6N : ∀ k, SigOK CX 45 (Y04 k)
| 0 => fun x r h => by cases h
| k + 1 => by
 have ih := X6N k;exact X0i (l := [(68, Y5T), (69, Y5S), (45, (Y04 k))]) ⟨Y4j, Y4i, ih, trivial⟩ (hint := fun _ => {}) (an := Z00) (fun x => by kernel_rfl)
theorem Y4h : ∀ k, SigOK CX 45 (Y04 k) := fun k => X6N k
def Y01 (x0 : Fm) : Option (Bool) := limF fun k => X4t k x0
def X9L : Sig := .n [(.d .form)] (.d .bool) (fun x => Y01 x.1)
theorem Y05 : SigOK CX 45 X9L := SigOK.limN Y4h fun x r h => X3z h
def X2l (k : Nat) (x0 : Fm) : Option (Int) := match k with
| 0 => none
| k + 1 => (
 Option.bind (α := (Int × Unit) × (Unit))
 (X0v (L := ((Int × Int × List UInt8 × (List Fm) × Unit) × Int × Int × Unit) × (Unit)) (R := (Int × Unit) × (Unit)) (fun d1 => (
 let v3_2 := d1.1.2.1
 let v4_3 := d1.1.2.2.1
 cond (cond (decide (d1.1.1.1 = 3)) (decide (v4_3 < (d1.1.1.2.2.2.1.length : Int))) false) (cond (ixOK v4_3 d1.1.1.2.2.2.1.length) (Option.bind (α := Int) (X2l k (Fm.eta (d1.1.1.2.2.2.1.getD v4_3.toNat (Fm.mk 0 0 [] [])))) fun r4 => (
 some (Step.next (((d1.1.1.1, d1.1.1.2.1, d1.1.1.2.2.1, d1.1.1.2.2.2.1, ()), (if r4 > v3_2 then r4 else v3_2), IntKind.wrap .i64 (v4_3 + 1), ()), ())))) none) (some (Step.done ((v3_2, ()), ()))))) (((x0.k, x0.n, x0.t, x0.l, ()), 0, 0, ()), ())) fun d5 => (
 let v3_6 := d5.1.1
 some (IntKind.wrap .i64 (v3_6 + 1))))
def Y6S : An := .seq (.leaf) (.seq (.leaf) (.join false ⟨[(3, (.d (.int .i64)))], []⟩ (.seq (.leaf) (.block (.loop { env := [(1, (.rptr [(.d (.int .i64)), (.d (.int .i64)), (.d .str), (.d (.slice .form))])), (3, (.d (.int .i64))), (4, (.d (.int .i64)))], objs := [] } (.leaf)))) (.leaf)))
def X6n (k : Nat) : Sig := .n [(.d .form)] (.d (.int .i64)) (fun x => X2l k x.1)
theorem X4Z : ∀ k, SigOK CX 71 (X6n k)
| 0 => fun x r h => by cases h
| k + 1 => by
 have ih := X4Z k;exact X0i (l := [(71, (X6n k))]) ⟨ih, trivial⟩ (hint := fun _ => {}) (an := Y6S) (fun x => by kernel_rfl)
theorem Y1b : ∀ k, SigOK CX 71 (X6n k) := fun k => X4Z k
def X6l (x0 : Fm) : Option (Int) := limF fun k => X2l k x0
def X6T : Sig := .n [(.d .form)] (.d (.int .i64)) (fun x => X6l x.1)
theorem X8b : SigOK CX 71 X6T := SigOK.limN Y1b fun x r h => X3z h
def X4B (x0 : Fm) : Option (Bool) := (
 Option.bind (α := Int) (X7W (Fm.eta x0)) fun r1 => (
 Option.bind (α := Int) (cond (decide (r1 <= 20000)) (X6l (Fm.eta x0)) (some (0 : Int))) fun r2 => (
 some (cond (decide (r1 <= 20000)) (decide (r2 <= 100)) false))))
def Z1d : An := .leaf
def Y1i : Sig := .n [(.d .form)] (.d .bool) (fun x => X4B x.1)
theorem X8i : SigOK CX 46 Y1i := X0i (l := [(70, X8d), (71, X6T)]) ⟨X9x, X8b, trivial⟩ (hint := fun _ => {}) (an := Z1d) (fun x => by kernel_rfl)
def X2Z (x0 : Fm) : Option (Bool) := (
 Option.bind (α := Bool) (Y01 (Fm.eta x0)) fun r1 => (
 Option.bind (α := Bool) (cond r1 (X4B (Fm.eta x0)) (some false)) fun r2 => (
 some (cond r1 r2 false))))
def Y6T : An := .leaf
def X9Q : Sig := .n [(.d .form)] (.d .bool) (fun x => X2Z x.1)
theorem Y1c : SigOK CX 27 X9Q := X0i (l := [(45, X9L), (46, Y1i)]) ⟨Y05, X8i, trivial⟩ (hint := fun _ => {}) (an := Y6T) (fun x => by kernel_rfl)
def X7R (x0 : List Fm) : Option (Fm) := (
 some (Fm.mk 3 0 ([]) x0))
def Y8l : An := .leaf
def Y2s : Sig := .n [(.d (.slice .form))] (.d .form) (fun x => X7R x.1)
theorem Y2t : SigOK CX 80 Y2s := X0i (l := []) trivial (hint := fun _ => {}) (an := Y8l) (fun x => by kernel_rfl)
end Go.Ab
namespace Go.Ab
open Go Go.RowKit Go.Proofs
def X13 (x1 : List UInt8) (o0 : Bool × Unit × Unit) (o1 : List Int) : Option ((Int × Bool × Unit) × ((Bool × Unit × Unit) × (List Int) × Unit)) := (
 Option.bind (α := (Unit) × ((Bool × Unit × Unit) × (List Int) × Unit)) (some ((), ((true, (), ()), o1, ()))) fun r1 => (
 cond (decide ((r1.2.2.1.length + (x1.map fun b => (b.toNat : Int)).length) * 1 <= 140737488355328)) (some (((x1.length : Int), true, ()), ((r1.2.1.1, (), ()), r1.2.2.1 ++ (x1.map fun b => (b.toNat : Int)), ()))) none))
def Z0Y : An := .leaf
def Z1e : Nat -> RH := fun r => match r with
 | 1 => { H := { ac := [7] } }
 | 2 => { H := { ty := [(14, (.int .u8))] } }
 | _ => {}
def Y03 : Sig := .o { pre := [(false, .cells 48 [(.mref 0 0), (.gs 1 (.int .u8))]), (false, .tg (.int .u8) 5)], args := [(.ref 0 0), (.d .str)], post := [(true, .cells 48 [(.mref 0 0), (.gs 1 (.int .u8))]), (false, .tg (.int .u8) 5)], res := (.tup [(.d (.int .i64)), (.d .erri)]), f := fun x => X13 x.1.2.1 x.2.1 x.2.2.1 }
theorem X70 : SigOK CX 31 Y03 := X1h (l := [(51, X5a)]) ⟨X4X, trivial⟩ (hint := Z1e) (an := Z0Y) (by kernel_rfl) (fun x => by kernel_rfl)
def X3W (k : Nat) (x1 : Fm) (o0 : Bool × Unit × Unit) (o1 : List Int) : Option ((Unit) × ((Bool × Unit × Unit) × (List Int) × Unit)) := match k with
| 0 => none
| k + 1 => (
 cond (decide (x1.k = 0)) (Option.bind (α := List UInt8) (Y4S (x1.n)) fun r1 => (
 Option.bind (α := (Int × Bool × Unit) × ((Bool × Unit × Unit) × (List Int) × Unit)) (X13 r1 (o0.1, (), ()) o1) fun r2 => (
 some ((), ((r2.2.1.1, (), ()), r2.2.2.1, ()))))) (cond (decide (x1.k = 1)) (Option.bind (α := (Int × Bool × Unit) × ((Bool × Unit × Unit) × (List Int) × Unit)) (X13 x1.t (o0.1, (), ()) o1) fun r3 => (
 some ((), ((r3.2.1.1, (), ()), r3.2.2.1, ())))) (cond (decide (x1.k = 2)) (Option.bind (α := (Bool) × ((Bool × Unit × Unit) × (List Int) × Unit)) (X06 34 (o0.1, (), ()) o1) fun r4 => (
 Option.bind (α := (Unit) × ((Int × Int × Int × Unit × Unit × Unit) × (List (List UInt8)) × Unit)) (X7o ([[92], [92, 92], [34], [92, 34], [10], [92, 110]])) fun r5 => (
 Option.bind (α := (List UInt8) × (Unit)) (Y7G ((r5.2.1.1, r5.2.1.2.1, r5.2.1.2.2.1, (), (), ())) (r5.2.2.1) (x1.t)) fun r6 => (
 Option.bind (α := (Int × Bool × Unit) × ((Bool × Unit × Unit) × (List Int) × Unit)) (X13 r6.1 (r4.2.1.1, (), ()) r4.2.2.1) fun r7 => (
 Option.bind (α := (Bool) × ((Bool × Unit × Unit) × (List Int) × Unit)) (X06 34 (r7.2.1.1, (), ()) r7.2.2.1) fun r8 => (
 some ((), ((r8.2.1.1, (), ()), r8.2.2.1, ())))))))) (Option.bind (α := (Bool) × ((Bool × Unit × Unit) × (List Int) × Unit)) (X06 40 (o0.1, (), ()) o1) fun r9 => (
 Option.bind (α := (Unit × Unit) × ((Bool × Unit × Unit) × (List Int) × Unit))
 (X0v (L := (Unit × (List Fm) × Int × Int × Unit) × ((Bool × Unit × Unit) × (List Int) × Unit)) (R := (Unit × Unit) × ((Bool × Unit × Unit) × (List Int) × Unit)) (fun d10 => (
 let l11 := d10.2.2.1
 let v11_12 := d10.1.2.1
 let v12_13 := d10.1.2.2.1
 let v13_14 := d10.1.2.2.2.1
 cond (decide (v13_14 < v12_13)) (cond (ixOK v13_14 v11_12.length) (Option.bind (α := (Unit × Unit × (List Fm) × Int × Int × Unit) × ((Bool × Unit × Unit) × (Int × Int × List UInt8 × (List Fm) × Unit) × (List Int) × Unit))
 (cond (decide (v13_14 > 0)) (Option.bind (α := (Bool) × ((Bool × Unit × Unit) × (List Int) × Unit)) (X06 32 (d10.2.1.1, (), ()) l11) fun r15 => (
 some (((), (), v11_12, v12_13, v13_14, ()), ((r15.2.1.1, (), ()), ((v11_12.getD v13_14.toNat (Fm.mk 0 0 [] [])).k, (v11_12.getD v13_14.toNat (Fm.mk 0 0 [] [])).n, (v11_12.getD v13_14.toNat (Fm.mk 0 0 [] [])).t, (v11_12.getD v13_14.toNat (Fm.mk 0 0 [] [])).l, ()), r15.2.2.1, ())))) (some (((), (), v11_12, v12_13, v13_14, ()), ((d10.2.1.1, (), ()), ((v11_12.getD v13_14.toNat (Fm.mk 0 0 [] [])).k, (v11_12.getD v13_14.toNat (Fm.mk 0 0 [] [])).n, (v11_12.getD v13_14.toNat (Fm.mk 0 0 [] [])).t, (v11_12.getD v13_14.toNat (Fm.mk 0 0 [] [])).l, ()), l11, ())))) fun d16 => (
 let c17 := d16.2.2.1.1
 let c18 := d16.2.2.1.2.1
 let c19 := d16.2.2.1.2.2.1
 let c20 := d16.2.2.1.2.2.2.1
 let l21 := d16.2.2.2.1
 let v11_22 := d16.1.2.2.1
 let v12_23 := d16.1.2.2.2.1
 let v13_24 := d16.1.2.2.2.2.1
 Option.bind (α := (Unit) × ((Bool × Unit × Unit) × (List Int) × Unit)) (X3W k (Fm.mk c17 c18 c19 c20) (d16.2.1.1, (), ()) l21) fun r25 => (
 some (Step.next (((), v11_22, v12_23, IntKind.wrap .i64 (v13_24 + 1), ()), ((r25.2.1.1, (), ()), r25.2.2.1, ())))))) none) (some (Step.done (((), ()), ((d10.2.1.1, (), ()), l11, ())))))) (((), x1.l, (x1.l.length : Int), 0, ()), ((r9.2.1.1, (), ()), r9.2.2.1, ()))) fun d26 => (
 let l27 := d26.2.2.1
 Option.bind (α := (Bool) × ((Bool × Unit × Unit) × (List Int) × Unit)) (X06 41 (d26.2.1.1, (), ()) l27) fun r28 => (
 some ((), ((r28.2.1.1, (), ()), r28.2.2.1, ())))))))))
def Z3n : An := .seq (.leaf) (.seq (.leaf) (.block (.seq (.leaf) (.cond (.leaf) (.seq (.leaf) (.cond (.leaf) (.seq (.leaf) (.cond (.leaf) (.seq (.leaf) (.join false { env := [(0, (.ref 0 0))], objs := [(true, .cells 48 [(.mref 0 0), (.gs 1 (.int .u8))]), (false, .tg (.int .u8) 5)] } (.seq (.leaf) (.block (.loop { env := [(0, (.ref 0 0)), (11, (.d (.slice .form))), (12, (.d (.int .i64))), (13, (.d (.int .i64)))], objs := [(true, .cells 48 [(.mref 0 0), (.gs 1 (.int .u8))]), (false, .tg (.int .u8) 5)] } (.seq (.leaf) (.seq (.leaf) (.seq (.block (.seq (.leaf) (.join false { env := [(0, (.ref 0 0)), (5, (.ref 1 0)), (11, (.d (.slice .form))), (12, (.d (.int .i64))), (13, (.d (.int .i64)))], objs := [(true, .cells 48 [(.mref 0 0), (.gs 2 (.int .u8))]), (false, .cells 24 [(.d (.int .i64)), (.d (.int .i64)), (.d .str), (.d (.slice .form))]), (false, .tg (.int .u8) 5)] } (.leaf) (.leaf)))) (.leaf))))))) (.leaf)))))))))))
def Z3u : Nat -> RH := fun r => match r with
 | 2 => { H := { ac := [9] } }
 | 7 => { H := { ac := [21] } }
 | 8 => { H := { ac := [24] } }
 | 10 => { H := { ac := [27] } }
 | 12 => { H := { ac := [34] } }
 | 14 => { H := { ac := [40] } }
 | 16 => { H := { ac := [44] } }
 | 17 => { H := { ac := [47, 50, 51], pl := [49] } }
 | 18 => { H := { ac := [53] } }
 | _ => {}
def Y82 (k : Nat) : Sig := .o { pre := [(false, .cells 48 [(.mref 0 0), (.gs 1 (.int .u8))]), (false, .tg (.int .u8) 5)], args := [(.ref 0 0), (.d .form)], post := [(true, .cells 48 [(.mref 0 0), (.gs 1 (.int .u8))]), (false, .tg (.int .u8) 5)], res := (.tup []), f := fun x => X3W k x.1.2.1 x.2.1 x.2.2.1 }
theorem X9X : ∀ k, SigOK CX 65 (Y82 k)
| 0 => ⟨by kernel_rfl, fun x r h => by cases h⟩
| k + 1 => by
 have ih := X9X k;exact X1h (l := [(98, Y8H), (31, Y03), (30, X5E), (99, Y5U), (100, Y2v), (65, (Y82 k))]) ⟨Y2b, X70, X3Y, Y4k, Y2w, ih, trivial⟩ (hint := Z3u) (an := Z3n) (by kernel_rfl) (fun x => by kernel_rfl)
def Y4d (x1 : Fm) (o0 : Bool × Unit × Unit) (o1 : List Int) : Option ((Unit) × ((Bool × Unit × Unit) × (List Int) × Unit)) := limF fun k => X3W k x1 o0 o1
def Y2L : Sig := .o { pre := [(false, .cells 48 [(.mref 0 0), (.gs 1 (.int .u8))]), (false, .tg (.int .u8) 5)], args := [(.ref 0 0), (.d .form)], post := [(true, .cells 48 [(.mref 0 0), (.gs 1 (.int .u8))]), (false, .tg (.int .u8) 5)], res := (.tup []), f := fun x => Y4d x.1.2.1 x.2.1 x.2.2.1 }
theorem Y2M : SigOK CX 65 Y2L := SigOK.limO X9X fun x r h => X3z h
def X5A (x0 : Fm) : Option (List UInt8) := (
 Option.bind (α := Bool) (X4z (Fm.eta x0)) fun r1 => (
 cond (!r1) (some ([])) (Option.bind (α := (Unit) × ((Bool × Unit × Unit) × (List Int) × Unit)) (Y4d (Fm.eta x0) (false, (), ()) ([] : List Int)) fun r2 => (
 Option.bind (α := (List UInt8) × (Unit)) (Option.map (fun s => (s, ())) (bytesOf (r2.2.2.1))) fun r3 => (
 some r3.1)))))
def Z06 : An := .leaf
def Z1i : Nat -> RH := fun r => match r with
 | 4 => { H := { ac := [8] } }
 | 5 => { H := { ac := [9] } }
 | _ => {}
def Y1a : Sig := .n [(.d .form)] (.d .str) (fun x => X5A x.1)
theorem X8a : SigOK CX 41 Y1a := X0i (l := [(24, X7v), (65, Y2L), (26, X7w)]) ⟨X5d, Y2M, X5e, trivial⟩ (hint := Z1i) (an := Z06) (fun x => by kernel_rfl)
def X6j (k : Nat) (x0 : Fm) : Option (List UInt8) := match k with
| 0 => none
| k + 1 => (
 Option.bind (α := Step (((Int × Int × List UInt8 × (List Fm) × Unit) × Unit) × (Unit)) (List UInt8))
 (cond (decide (x0.k = 0)) (Option.bind (α := List UInt8) (Y4S (x0.n)) fun r1 => (
 some (Step.done r1))) (cond (decide (x0.k = 1)) (some (Step.done x0.t)) (cond (decide (x0.k = 2)) (Option.bind (α := (Unit × Unit) × ((List Int) × Unit))
 (X0v (L := ((Int × Int × List UInt8 × (List Fm) × Unit) × Unit × Int × Unit) × ((List Int) × Unit)) (R := (Unit × Unit) × ((List Int) × Unit)) (fun d2 => (
 let l3 := d2.2.1
 let v4_4 := d2.1.2.2.1
 cond (decide (v4_4 < (d2.1.1.2.2.1.length : Int))) (Option.bind (α := ((Int × Int × List UInt8 × (List Fm) × Unit) × Unit × Int × Unit) × ((List Int) × Unit))
 (cond (ixOK v4_4 d2.1.1.2.2.1.length) (cond (decide (X0b d2.1.1.2.2.1 v4_4 = 10)) (cond (decide ((l3.length + ([92, 110]).length) * 1 <= 140737488355328)) (some (((d2.1.1.1, d2.1.1.2.1, d2.1.1.2.2.1, d2.1.1.2.2.2.1, ()), (), v4_4, ()), (l3 ++ ([92, 110]), ()))) none) (Option.bind (α := ((Int × Int × List UInt8 × (List Fm) × Unit) × Unit × Int × Int × Bool × Unit) × ((List Int) × Unit))
 (cond (decide (X0b d2.1.1.2.2.1 v4_4 = 34)) (some (((d2.1.1.1, d2.1.1.2.1, d2.1.1.2.2.1, d2.1.1.2.2.2.1, ()), (), v4_4, X0b d2.1.1.2.2.1 v4_4, decide (X0b d2.1.1.2.2.1 v4_4 = 34), ()), (l3, ()))) (some (((d2.1.1.1, d2.1.1.2.1, d2.1.1.2.2.1, d2.1.1.2.2.2.1, ()), (), v4_4, X0b d2.1.1.2.2.1 v4_4, decide (X0b d2.1.1.2.2.1 v4_4 = 92), ()), (l3, ())))) fun d5 => (
 let l6 := d5.2.1
 let v4_7 := d5.1.2.2.1
 let v5_8 := d5.1.2.2.2.1
 let v42_9 := d5.1.2.2.2.2.1
 cond v42_9 (cond (decide ((l6.length + ([92, v5_8]).length) * 1 <= 140737488355328)) (some (((d5.1.1.1, d5.1.1.2.1, d5.1.1.2.2.1, d5.1.1.2.2.2.1, ()), (), v4_7, ()), (l6 ++ ([92, v5_8]), ()))) none) (cond (decide ((l6.length + ([v5_8]).length) * 1 <= 140737488355328)) (some (((d5.1.1.1, d5.1.1.2.1, d5.1.1.2.2.1, d5.1.1.2.2.2.1, ()), (), v4_7, ()), (l6 ++ ([v5_8]), ()))) none)))) none) fun d10 => (
 let l11 := d10.2.1
 let v4_12 := d10.1.2.2.1
 some (Step.next (((d10.1.1.1, d10.1.1.2.1, d10.1.1.2.2.1, d10.1.1.2.2.2.1, ()), (), IntKind.wrap .i64 (v4_12 + 1), ()), (l11, ()))))) (some (Step.done (((), ()), (l3, ())))))) (((x0.k, x0.n, x0.t, x0.l, ()), (), 0, ()), (([] : List Int), ()))) fun d13 => (
 let l14 := d13.2.1
 cond (decide (([34]).length + (strOf l14).length <= 9223372036854775807)) (cond (decide ((([34]) ++ (strOf l14)).length + ([34]).length <= 9223372036854775807)) (some (Step.done ((([34]) ++ (strOf l14)) ++ ([34])))) none) none)) (some (Step.next (((x0.k, x0.n, x0.t, x0.l, ()), ()), ())))))) fun qd15 => match qd15 with
 | .next d15 => (
 Option.bind (α := (Unit × Unit) × ((List Int) × Unit))
 (X0v (L := ((Int × Int × List UInt8 × (List Fm) × Unit) × Unit × Int × Unit) × ((List Int) × Unit)) (R := (Unit × Unit) × ((List Int) × Unit)) (fun d16 => (
 let l17 := d16.2.1
 let v7_18 := d16.1.2.2.1
 cond (decide (v7_18 < (d16.1.1.2.2.2.1.length : Int))) (Option.bind (α := ((Int × Int × List UInt8 × (List Fm) × Unit) × Unit × Int × Unit) × ((List Int) × Unit))
 (cond (decide (v7_18 > 0)) (cond (decide ((l17.length + ([32]).length) * 1 <= 140737488355328)) (some (((d16.1.1.1, d16.1.1.2.1, d16.1.1.2.2.1, d16.1.1.2.2.2.1, ()), (), v7_18, ()), (l17 ++ ([32]), ()))) none) (some (((d16.1.1.1, d16.1.1.2.1, d16.1.1.2.2.1, d16.1.1.2.2.2.1, ()), (), v7_18, ()), (l17, ())))) fun d19 => (
 let l20 := d19.2.1
 let v7_21 := d19.1.2.2.1
 cond (ixOK v7_21 d19.1.1.2.2.2.1.length) (Option.bind (α := List UInt8) (X6j k (Fm.eta (d19.1.1.2.2.2.1.getD v7_21.toNat (Fm.mk 0 0 [] [])))) fun r22 => (
 cond (decide ((l20.length + (r22.map fun b => (b.toNat : Int)).length) * 1 <= 140737488355328)) (some (Step.next (((d19.1.1.1, d19.1.1.2.1, d19.1.1.2.2.1, d19.1.1.2.2.2.1, ()), (), IntKind.wrap .i64 (v7_21 + 1), ()), (l20 ++ (r22.map fun b => (b.toNat : Int)), ())))) none)) none)) (some (Step.done (((), ()), (l17, ())))))) (((d15.1.1.1, d15.1.1.2.1, d15.1.1.2.2.1, d15.1.1.2.2.2.1, ()), (), 0, ()), ([40], ()))) fun d23 => (
 let l24 := d23.2.1
 cond (decide ((l24.length + ([41]).length) * 1 <= 140737488355328)) (some (strOf (l24 ++ ([41])))) none))
 | .done r => some r)
def Z3i : An := .seq (.leaf) (.join true { env := [(1, (.rptr [(.d (.int .i64)), (.d (.int .i64)), (.d .str), (.d (.slice .form))]))], objs := [] } (.seq (.leaf) (.block (.seq (.leaf) (.cond (.leaf) (.seq (.leaf) (.cond (.leaf) (.seq (.leaf) (.cond (.seq (.leaf) (.join false ⟨[(3, (.gs 0 (.int .u8)))], [(false, .tg (.int .u8) 5)]⟩ (.seq (.leaf) (.block (.loop { env := [(1, (.rptr [(.d (.int .i64)), (.d (.int .i64)), (.d .str), (.d (.slice .form))])), (3, (.gs 0 (.int .u8))), (4, (.d (.int .i64)))], objs := [(false, .tg (.int .u8) 5)] } (.seq (.leaf) (.join false { env := [(1, (.rptr [(.d (.int .i64)), (.d (.int .i64)), (.d .str), (.d (.slice .form))])), (3, (.gs 0 (.int .u8))), (4, (.d (.int .i64)))], objs := [(false, .tg (.int .u8) 5)] } (.block (.seq (.leaf) (.seq (.leaf) (.block (.seq (.leaf) (.cond (.leaf) (.join false { env := [(1, (.rptr [(.d (.int .i64)), (.d (.int .i64)), (.d .str), (.d (.slice .form))])), (3, (.gs 0 (.int .u8))), (4, (.d (.int .i64))), (5, (.d (.int .u8))), (42, (.d .bool))], objs := [(false, .tg (.int .u8) 5)] } (.leaf) (.leaf)))))))) (.leaf)))))) (.frz [0] (.leaf)))) (.leaf))))))))) (.seq (.leaf) (.join false ⟨[(6, (.gs 0 (.int .u8)))], [(false, .tg (.int .u8) 5)]⟩ (.seq (.leaf) (.block (.loop { env := [(1, (.rptr [(.d (.int .i64)), (.d (.int .i64)), (.d .str), (.d (.slice .form))])), (6, (.gs 0 (.int .u8))), (7, (.d (.int .i64)))], objs := [(false, .tg (.int .u8) 5)] } (.seq (.leaf) (.seq (.block (.join false { env := [(1, (.rptr [(.d (.int .i64)), (.d (.int .i64)), (.d .str), (.d (.slice .form))])), (6, (.gs 0 (.int .u8))), (7, (.d (.int .i64)))], objs := [(false, .tg (.int .u8) 5)] } (.leaf) (.leaf))) (.leaf)))))) (.leaf))))
def Z3s : Nat -> RH := fun r => match r with
 | 13 => { H := { ty := [(36, (.int .u8))] } }
 | 15 => { H := { ty := [(41, (.int .u8))] } }
 | 18 => { H := { ty := [(48, (.int .u8))] } }
 | 20 => { H := { mb := [53], ty := [(53, (.int .u8))] } }
 | 25 => { H := { ty := [(65, (.int .u8))] } }
 | 26 => { H := { ty := [(73, (.int .u8))] } }
 | 27 => { H := { mb := [77], ty := [(76, (.int .u8))] } }
 | _ => {}
def Y4q (k : Nat) : Sig := .n [(.d .form)] (.d .str) (fun x => X6j k x.1)
theorem X8f : ∀ k, SigOK CX 72 (Y4q k)
| 0 => fun x r h => by cases h
| k + 1 => by
 have ih := X8f k;exact X0i (l := [(98, Y8H), (72, (Y4q k))]) ⟨Y2b, ih, trivial⟩ (hint := Z3s) (an := Z3i) (fun x => by kernel_rfl)
theorem Y67 : ∀ k, SigOK CX 72 (Y4q k) := fun k => X8f k
def Y4b (x0 : Fm) : Option (List UInt8) := limF fun k => X6j k x0
def Y2B : Sig := .n [(.d .form)] (.d .str) (fun x => Y4b x.1)
theorem Y2C : SigOK CX 72 Y2B := SigOK.limN Y67 fun x r h => X3z h
def X20 (x0 : Fm) : Option (List UInt8) := (
 Option.bind (α := Bool) (X2Z (Fm.eta x0)) fun r1 => (
 cond (!r1) (some ([])) (Option.bind (α := List UInt8) (Y4b (Fm.eta x0)) fun r2 => (
 some r2))))
def Y6U : An := .leaf
def X9R : Sig := .n [(.d .form)] (.d .str) (fun x => X20 x.1)
theorem Y1d : SigOK CX 47 X9R := X0i (l := [(27, X9Q), (72, Y2B)]) ⟨Y1c, Y2C, trivial⟩ (hint := fun _ => {}) (an := Y6U) (fun x => by kernel_rfl)
end Go.Ab
namespace Go.Ab
open Go
def X0m (c : UInt8) : Bool := decide (c = 32) || (decide (c = 9) || decide (c = 10))
def X0z : Bool -> List UInt8 -> List UInt8
 | _, [] => []
 | true, c :: r => if c = 10 then X0z false r else X0z true r
 | false, c :: r => if X0m c = true then X0z false r else if c = 59 then X0z true r else c :: r
def X0T : List UInt8 -> List UInt8 -> Int ⊕ (List UInt8 × List UInt8)
 | [], _ => .inl 12
 | [c], b => if c = 34 then (if b.length > 2000 then .inl 4 else .inr (b, [])) else if c = 92 then .inl 12 else if c < 32 \/ c > 126 then .inl 4 else .inl 12
 | c :: d :: r, b =>
  if c = 34 then (if b.length > 2000 then .inl 4 else .inr (b, d :: r))
  else if c = 92 then (if d = 110 then X0T r (b ++ [10]) else if d = 34 \/ d = 92 then X0T r (b ++ [d]) else .inl 4)
  else if c < 32 \/ c > 126 then .inl 4 else X0T (d :: r) (b ++ [c])
theorem X3l : ∀ (r b x y : List UInt8), X0T r b = .inr (x, y) -> y.length <= r.length
 | [], b, x, y, h => by simp [X0T] at h
 | [c], b, x, y, h => by
  simp only [X0T] at h;split at h
  ·split at h
   ·cases h
   cases h; simp
  split at h
  ·cases h
  split at h <;> cases h
 | c :: d :: r, b, x, y, h => by
  simp only [X0T] at h;split at h
  ·split at h
   ·cases h
   cases h; simp
  split at h
  ·split at h
   ·have := X3l r _ x y h; simp only [List.length_cons]; omega
   split at h
   ·have := X3l r _ x y h; simp only [List.length_cons]; omega
   cases h
  split at h
  ·cases h
  have := X3l (d :: r) _ x y h; simp only [List.length_cons] at *; omega
def lstF (l : List Fm) : Fm := .mk 3 0 [] l
def txtF (b : List UInt8) : Fm := .mk 2 0 b []
section
variable (vis : UInt8 -> Bool) (tok : List UInt8 -> Int ⊕ Fm)
def X0S : List UInt8 -> Bool
 | [] => false
 | c :: _ => decide (c = 34) || vis c
def X0G : Nat -> List UInt8 -> List Fm -> List (List Fm) -> Int ⊕ List Fm
 | 0, _, _, _ => .inl 0
 | n + 1, r, top, st => match X0z false r with
  | [] => (match st with
   | [] => .inr top
   | _ :: _ => .inl 12)
  | c :: r' =>
   if c = 40 then X0G n r' [] (top :: st)
   else if c = 41 then (match st with
    | [] => .inl 4
    | t :: st' => X0G n r' (t ++ [lstF top]) st')
   else if c = 34 then (match X0T r' [] with
    | .inl e => .inl e
    | .inr (b, q) => if X0S vis q = true then .inl 4 else X0G n q (top ++ [txtF b]) st)
   else if vis c = true then (match tok ((c :: r').takeWhile vis) with
    | .inl e => .inl e
    | .inr f => if X0S vis ((c :: r').dropWhile vis) = true then .inl 4 else X0G n ((c :: r').dropWhile vis) (top ++ [f]) st)
   else .inl 4
def refS : Nat -> List UInt8 -> Bool -> List Fm -> List (List Fm) -> Int ⊕ List Fm
 | 0, _, _, _, _ => .inl 0
 | n + 1, [], near, top, st => (match st with
   | [] => .inr top
   | _ :: _ => .inl 12)
 | n + 1, c :: r', near, top, st =>
  if X0m c = true then refS n r' false top st
  else if c = 59 then refS n ((c :: r').dropWhile (fun x => !decide (x = 10))) false top st
  else if c = 40 then refS n r' false [] (top :: st)
  else if c = 41 then (match st with
   | [] => .inl 4
   | t :: st' => refS n r' false (t ++ [lstF top]) st')
  else if near = true then .inl 4
  else if c = 34 then (match X0T r' [] with
   | .inl e => .inl e
   | .inr (b, q) => refS n q true (top ++ [txtF b]) st)
  else if vis c = true then (match tok ((c :: r').takeWhile vis) with
   | .inl e => .inl e
   | .inr f => refS n ((c :: r').dropWhile vis) true (top ++ [f]) st)
  else .inl 4
theorem X52 (n : Nat) (c : UInt8) (r' : List UInt8) (near : Bool) (top : List Fm) (st : List (List Fm)) : refS vis tok (n + 1) (c :: r') near top st =
  (if X0m c = true then refS vis tok n r' false top st
  else if c = 59 then refS vis tok n ((c :: r').dropWhile (fun x => !decide (x = 10))) false top st
  else if c = 40 then refS vis tok n r' false [] (top :: st)
  else if c = 41 then (match st with
   | [] => .inl 4
   | t :: st' => refS vis tok n r' false (t ++ [lstF top]) st')
  else if near = true then .inl 4
  else if c = 34 then (match X0T r' [] with
   | .inl e => .inl e
   | .inr (b, q) => refS vis tok n q true (top ++ [txtF b]) st)
  else if vis c = true then (match tok ((c :: r').takeWhile vis) with
   | .inl e => .inl e
   | .inr f => refS vis tok n ((c :: r').dropWhile vis) true (top ++ [f]) st)
  else .inl 4) := rfl
theorem X0N (n : Nat) (r : List UInt8) (top : List Fm) (st : List (List Fm)) : X0G vis tok (n + 1) r top st =
  (match X0z false r with
  | [] => (match st with
   | [] => .inr top
   | _ :: _ => .inl 12)
  | c :: r' =>
   if c = 40 then X0G vis tok n r' [] (top :: st)
   else if c = 41 then (match st with
    | [] => .inl 4
    | t :: st' => X0G vis tok n r' (t ++ [lstF top]) st')
   else if c = 34 then (match X0T r' [] with
    | .inl e => .inl e
    | .inr (b, q) => if X0S vis q = true then .inl 4 else X0G vis tok n q (top ++ [txtF b]) st)
   else if vis c = true then (match tok ((c :: r').takeWhile vis) with
    | .inl e => .inl e
    | .inr f => if X0S vis ((c :: r').dropWhile vis) = true then .inl 4 else X0G vis tok n ((c :: r').dropWhile vis) (top ++ [f]) st)
   else .inl 4) := rfl
theorem X55 : ∀ r : List UInt8, X0z true r = X0z false (r.dropWhile (fun x => !decide (x = 10)))
 | [] => rfl
 | c :: r => by
  by_cases h : c = 10
  ·subst h;rw [List.dropWhile_cons_of_neg (by simp)];simp [X0z, X0m]
  rw [List.dropWhile_cons_of_pos (by simp [h])];simp only [X0z, h, if_false];exact X55 r
theorem X1O (p : UInt8 -> Bool) : ∀ r : List UInt8, (r.dropWhile p).length <= r.length
 | [] => Nat.le_refl _
 | c :: r => by
  by_cases h : p c = true
  ·rw [List.dropWhile_cons_of_pos h]; have := X1O p r; simp only [List.length_cons]; omega
  rw [List.dropWhile_cons_of_neg h]; exact Nat.le_refl _
theorem X6B {n : Nat} {r q : List UInt8} (h : X0z false r = X0z false q) (top : List Fm) (st : List (List Fm)) : X0G vis tok n r top st = X0G vis tok n q top st := by
 cases n with
 | zero => rfl
 | succ n => simp only [X0G, h]
theorem X51 (hv : ∀ c, vis c = true -> X0m c = false /\ c ≠ 59 /\ c ≠ 40 /\ c ≠ 41 /\ c ≠ 34) : ∀ (N : Nat) (r : List UInt8), r.length <= N -> ∀ (n m : Nat) (near : Bool) (top : List Fm) (st : List (List Fm)), r.length < n -> r.length < m ->
  refS vis tok n r near top st = if (near && X0S vis r) = true then .inl 4 else X0G vis tok m r top st
 | N, [], hN, n + 1, m + 1, near, top, st, hn, hm => by simp [refS, X0G, X0S, X0z]
 | N, [], hN, 0, m, near, top, st, hn, hm => by simp at hn
 | N, [], hN, n + 1, 0, near, top, st, hn, hm => by simp at hm
 | 0, c :: r', hN, n, m, near, top, st, hn, hm => by simp at hN
 | N + 1, c :: r', hN, 0, m, near, top, st, hn, hm => by simp at hn
 | N + 1, c :: r', hN, n + 1, 0, near, top, st, hn, hm => by simp at hm
 | N + 1, c :: r', hN, n + 1, m + 1, near, top, st, hn, hm => by
  simp only [List.length_cons] at hN hn hm;have ih := X51 hv N
  by_cases hb : X0m c = true
  ·have ht : X0S vis (c :: r') = false := by
    have h1 : vis c = false := by
     cases hc : vis c with
     | false => rfl
     | true => have := (hv c hc).1; rw [hb] at this; cases this
    have h2 : ¬ c = 34 := fun e => by subst e; simp [X0m] at hb
    simp [X0S, h1, h2]
   rw [X52, if_pos hb, ht, Bool.and_false, if_neg (by simp), ih r' (by omega) n (m + 1) false top st (by omega) (by omega), Bool.false_and, if_neg (by simp)];exact X6B vis tok (by simp [X0z, hb]) top st
  by_cases hs : c = 59
  ·have ht : X0S vis (c :: r') = false := by
    have h1 : vis c = false := by
     cases hc : vis c with
     | false => rfl
     | true => exact absurd hs (hv c hc).2.1
    subst hs; simp [X0S, h1]
   have hl : ((c :: r').dropWhile (fun x => !decide (x = 10))).length <= r'.length := by
    rw [List.dropWhile_cons_of_pos (by subst hs; decide)]; exact X1O _ _
   rw [X52, if_neg hb, if_pos hs, ht, Bool.and_false, if_neg (by simp), ih _ (by omega) n (m + 1) false top st (by omega) (by omega), Bool.false_and, if_neg (by simp)];refine X6B vis tok ?_ top st;rw [<- X55];have : X0z false (c :: r') = X0z true r' := by subst hs; simp [X0z, X0m]
   rw [this];subst hs;simp [X0z, X0m]
  have hsk : X0z false (c :: r') = c :: r' := by simp [X0z, hb, hs]
  have hp : ∀ top st, X0G vis tok (m + 1) (c :: r') top st = if c = 40 then X0G vis tok m r' [] (top :: st)
    else if c = 41 then (match st with
     | [] => .inl 4
     | t :: st' => X0G vis tok m r' (t ++ [lstF top]) st')
    else if c = 34 then (match X0T r' [] with
     | .inl e => .inl e
     | .inr (b, q) => if X0S vis q = true then .inl 4 else X0G vis tok m q (top ++ [txtF b]) st)
    else if vis c = true then (match tok ((c :: r').takeWhile vis) with
     | .inl e => .inl e
     | .inr f => if X0S vis ((c :: r').dropWhile vis) = true then .inl 4 else X0G vis tok m ((c :: r').dropWhile vis) (top ++ [f]) st)
    else .inl 4 := fun top st => by rw [X0N, hsk]
  have novis : ∀ x : UInt8, c = x -> (∀ c, vis c = true -> c ≠ x) -> vis c = false := fun x e h => by
   cases hc : vis c with
   | false => rfl
   | true => exact absurd e (h c hc)
  rw [X52, if_neg hb, if_neg hs, hp]
  by_cases h40 : c = 40
  ·have ht : X0S vis (c :: r') = false := by
    have := novis 40 h40 (fun c hc => (hv c hc).2.2.1);subst h40; simp [X0S, this]
   rw [if_pos h40, if_pos h40, ht, Bool.and_false, if_neg (by simp), ih r' (by omega) n m false _ _ (by omega) (by omega), Bool.false_and, if_neg (by simp)]
  rw [if_neg h40, if_neg h40]
  by_cases h41 : c = 41
  ·have ht : X0S vis (c :: r') = false := by
    have := novis 41 h41 (fun c hc => (hv c hc).2.2.2.1);subst h41; simp [X0S, this]
   rw [if_pos h41, if_pos h41, ht, Bool.and_false, if_neg (by simp)];cases st with
   | nil => rfl
   | cons t st' =>
    simp only;rw [ih r' (by omega) n m false _ _ (by omega) (by omega), Bool.false_and, if_neg (by simp)]
  rw [if_neg h41, if_neg h41];cases near with
  | true =>
   rw [if_pos rfl, Bool.true_and]
   by_cases h34 : c = 34
   ·rw [if_pos (by simp [X0S, h34])]
   by_cases hvc : vis c = true
   ·rw [if_pos (by simp [X0S, hvc])]
   rw [if_neg (by simp [X0S, h34, hvc]), if_neg h34, if_neg hvc]
  | false =>
   rw [Bool.false_and, if_neg (show ¬ (false = true) by decide), if_neg (show ¬ (false = true) by decide)]
   by_cases h34 : c = 34
   ·rw [if_pos h34, if_pos h34];cases hx : X0T r' [] with
    | inl e => rfl
    | inr p =>
     obtain ⟨b, q⟩ := p;have hl := X3l r' [] b q hx;simp only;rw [ih q (by omega) n m true _ _ (by omega) (by omega), Bool.true_and]
   rw [if_neg h34, if_neg h34]
   by_cases hvc : vis c = true
   ·rw [if_pos hvc, if_pos hvc];have hl : ((c :: r').dropWhile vis).length <= r'.length := by rw [List.dropWhile_cons_of_pos hvc]; exact X1O _ _
    cases hx : tok ((c :: r').takeWhile vis) with
    | inl e => rfl
    | inr f =>
     simp only;rw [ih _ (by omega) n m true _ _ (by omega) (by omega), Bool.true_and]
   rw [if_neg hvc, if_neg hvc]
end
end Go.Ab
namespace Go.Ab
open Go Go.RowKit Go.Proofs
theorem ywp {L R : Type} {b : L -> Option (Step L R)} {l0 : L} (I : L -> Prop) (μ : L -> Nat) (Q : R -> Prop)
  (h : ∀ l, I l -> (∃ l', b l = some (.next l') /\ I l' /\ μ l' < μ l) \/ ∃ r, b l = some (.done r) /\ Q r) (h0 : I l0) : ∃ r, X0v b l0 = some r /\ Q r := by
 have key : ∀ (n : Nat) (l : L), μ l <= n -> I l -> ∃ r, X0v b l = some r /\ Q r := by
  intro n
  induction n with
  | zero =>
   intro l hl hi;rcases h l hi with ⟨l', h1, h2, h3⟩ | ⟨r, h1, h2⟩
   ·omega
   exact ⟨r, X0R h1, h2⟩
  | succ n ih =>
   intro l hl hi;rcases h l hi with ⟨l', h1, h2, h3⟩ | ⟨r, h1, h2⟩
   ·rw [X29 h1]; exact ih l' (by omega) h2
   exact ⟨r, X0R h1, h2⟩
 exact key _ l0 (Nat.le_refl _) h0
theorem X6M {L R A : Type} {b : L -> Option (Step L R)} {l0 : L} {F : R -> Option A} (I : L -> Prop) (μ : L -> Nat) (Q : A -> Prop)
  (h : ∀ l, I l -> (∃ l', b l = some (.next l') /\ I l' /\ μ l' < μ l) \/ ∃ r, b l = some (.done r) /\ ∃ v, F r = some v /\ Q v) (h0 : I l0) : ∃ v, Option.bind (X0v b l0) F = some v /\ Q v := by
 obtain ⟨r, h1, v, h2, h3⟩ := ywp I μ (fun r => ∃ v, F r = some v /\ Q v) h h0;exact ⟨v, by rw [h1]; exact h2, h3⟩
theorem Z2D {A B : Type} {o : Option A} {F : A -> Option B} {v : A} {u : Option B} (h : o = some v) (k : F v = u) : Option.bind o F = u := by rw [h]; exact k
theorem Y73 {α : Type} {b : Bool} {x y v : α} (h : b = true) (hx : x = v) : cond b x y = v := by subst h; exact hx
theorem Y33 {α : Type} {b : Bool} {x y v : α} (h : b = false) (hy : y = v) : cond b x y = v := by subst h; exact hy
theorem X5y {i : Nat} (h : i < 4611686018427387904) : IntKind.wrap .i64 ((i : Int) + 1) = ((i + 1 : Nat) : Int) := by
 rw [w64 (by omega) (by omega)]; rfl
theorem X2d {s : List UInt8} {i : Nat} (h : i < s.length) : X0b s (i : Int) = ((s[i].toNat : Nat) : Int) := by
 unfold X0b; simp [h]
theorem Y6O {c : UInt8} {n : Nat} (h : n < 256) : (((c.toNat : Nat) : Int) = (n : Int)) ↔ c = UInt8.ofNat n := by
 constructor
 ·intro e;apply UInt8.toNat_inj.1;rw [UInt8.toNat_ofNat_of_lt' h]; omega
 intro e; subst e;rw [UInt8.toNat_ofNat_of_lt' h]
theorem X2k {s : List UInt8} {i : Nat} (h : i < s.length) : s.drop i = s[i] :: s.drop (i + 1) := List.drop_eq_getElem_cons h
theorem X0u (c : UInt8) (n : Nat) (h : n < 256) : decide (((c.toNat : Nat) : Int) = (n : Int)) = decide (c = UInt8.ofNat n) := decide_eq_decide.2 (Y6O h)
theorem X23 (c : UInt8) : cond (cond (decide (((c.toNat : Nat) : Int) = 32)) true (decide (((c.toNat : Nat) : Int) = 9))) true (decide (((c.toNat : Nat) : Int) = 10)) = X0m c := by
 have a1 : decide (((c.toNat : Nat) : Int) = 32) = decide (c = 32) := X0u c 32 (by decide);have a2 : decide (((c.toNat : Nat) : Int) = 9) = decide (c = 9) := X0u c 9 (by decide);have a3 : decide (((c.toNat : Nat) : Int) = 10) = decide (c = 10) := X0u c 10 (by decide);rw [a1, a2, a3];unfold X0m;cases decide (c = 32) <;> cases decide (c = 9) <;> rfl
theorem X4h : ∀ l : List UInt8, (Lib.indexByte l 10 < 0 -> l.dropWhile (fun x => !decide (x = 10)) = []) /\ (0 <= Lib.indexByte l 10 -> l.dropWhile (fun x => !decide (x = 10)) = l.drop (Lib.indexByte l 10).toNat /\ Lib.indexByte l 10 < l.length)
 | [] => by simp [Lib.indexByte]
 | c :: l => by
  have ih := X4h l;have hge := Lib.indexByte_ge l 10
  by_cases h : c = 10
  ·subst h;simp [Lib.indexByte]
  rw [List.dropWhile_cons_of_pos (by simp [h])];have hb : (c == 10) = false := by simpa using h
  simp only [Lib.indexByte, hb, Bool.false_eq_true, if_false]
  by_cases hm : Lib.indexByte l 10 = -1
  ·simp only [hm, beq_self_eq_true, if_true];refine ⟨fun _ => ih.1 (by omega), fun h => absurd h (by decide)⟩
  have hm' : (Lib.indexByte l 10 == -1) = false := by simpa using hm
  simp only [hm', Bool.false_eq_true, if_false];refine ⟨fun h => by omega, fun _ => ?_⟩;obtain ⟨a, b⟩ := ih.2 (by omega);refine ⟨?_, by simp only [List.length_cons]; omega⟩;rw [a, show (Lib.indexByte l 10 + 1).toNat = (Lib.indexByte l 10).toNat + 1 by omega];rfl
theorem Z6j (r : List UInt8) : X0z false (59 :: r) = X0z true (59 :: r) := by simp [X0z, X0m]
theorem Z2m {s : List UInt8} {i0 : Nat} (hs : s.length <= 1000000000) (h0 : i0 <= s.length) : ∃ j : Nat, X9K (s, (i0 : Int), ()) = some ((), ((s, (j : Int), ()), ())) /\ i0 <= j /\ j <= s.length /\ s.drop j = X0z false (s.drop i0) /\ X0z false (s.drop j) = s.drop j := by
 have key : ∃ r, X9K (s, (i0 : Int), ()) = some r /\ ∃ j : Nat, r = ((), ((s, (j : Int), ()), ())) /\ i0 <= j /\ j <= s.length /\ s.drop j = X0z false (s.drop i0) /\ X0z false (s.drop j) = s.drop j := by
  unfold X9K;refine ywp (fun d => ∃ i : Nat, d = (((), ()), ((s, (i : Int), ()), ())) /\ i0 <= i /\ i <= s.length /\ X0z false (s.drop i) = X0z false (s.drop i0)) (fun d => s.length - d.2.1.2.1.toNat) _ ?_ ⟨i0, rfl, Nat.le_refl _, h0, rfl⟩;rintro d ⟨i, rfl, hi0, hi, hk⟩;simp only [Int.toNat_natCast]
  by_cases hi' : i < s.length
  ·have e1 : decide ((i : Int) < (s.length : Int)) = true := by apply decide_eq_true; omega
   have x1 : ixOK (i : Int) s.length = true := X0e.2 (by omega);have e59 := Y6O (c := s[i]) (n := 59) (by decide);have hd := X2k hi';simp only [e1, x1, X2d hi', cond_true, X5y (show i < 4611686018427387904 by omega)]
   by_cases hb : X0m s[i] = true
   ·have hb' := (X23 s[i]).trans hb;rw [hb', cond_true];refine .inl ⟨_, rfl, ⟨i + 1, rfl, by omega, by omega, ?_⟩, by simp only [Int.toNat_natCast]; omega⟩;rw [<- hk, hd, X0z, if_pos hb]
   have hb' := (X23 s[i]).trans (by simpa using hb);rw [hb', cond_false]
   by_cases h59 : s[i] = 59
   ·have q59 : decide (((s[i].toNat : Nat) : Int) = 59) = true := decide_eq_true (e59.2 h59);have sl : slOK (i : Int) (s.length : Int) s.length = true := X1t.2 (by omega);have ht : (s.drop i).take (s.length - i) = s.drop i := List.take_of_length_le (by simp);have hix : X0B (s.drop i) 10 = some (Lib.indexByte (s.drop i) 10) := by
     unfold X0B; rw [if_pos (by decide)]; rfl
    have hln := X4h (s.drop i);have hsk : X0z false (s.drop i) = X0z false ((s.drop i).dropWhile (fun x => !decide (x = 10))) := by
     rw [<- X55, hd, h59]; exact Z6j _
    rw [q59, cond_true, sl, cond_true, ht, hix]
    by_cases hn : Lib.indexByte (s.drop i) 10 < 0
    ·have qn : decide (Lib.indexByte (s.drop i) 10 < 0) = true := decide_eq_true hn;simp only [Option.bind_some, qn, cond_true, w64 (n := (s.length : Int) - (i : Int)) (by omega) (by omega)];have w2 : IntKind.wrap .i64 ((i : Int) + ((s.length : Int) - (i : Int))) = ((s.length : Nat) : Int) := by rw [w64 (by omega) (by omega)]; omega
     rw [w2];refine .inl ⟨_, rfl, ⟨s.length, rfl, by omega, Nat.le_refl _, ?_⟩, by simp only [Int.toNat_natCast]; omega⟩;rw [<- hk, hsk, hln.1 hn, List.drop_length]
    have qn : decide (Lib.indexByte (s.drop i) 10 < 0) = false := decide_eq_false hn;obtain ⟨a, b⟩ := hln.2 (by omega);rw [List.length_drop] at b;have hpos : Lib.indexByte (s.drop i) 10 ≠ 0 := by
     rw [hd, Lib.indexByte, h59];have := Lib.indexByte_ge (s.drop (i + 1)) 10;have e : ((59 : UInt8) == 10) = false := rfl;simp only [e, Bool.false_eq_true, if_false];split
     ·decide
     rename_i hx; simp at hx; omega
    simp only [Option.bind_some, qn, cond_false];have w2 : IntKind.wrap .i64 ((i : Int) + Lib.indexByte (s.drop i) 10) = ((i + (Lib.indexByte (s.drop i) 10).toNat : Nat) : Int) := by rw [w64 (by omega) (by omega)]; omega
    rw [w2];refine .inl ⟨_, rfl, ⟨_, rfl, by omega, by omega, ?_⟩, by simp only [Int.toNat_natCast]; omega⟩;rw [<- hk, hsk, a, List.drop_drop]
   have q59 : decide (((s[i].toNat : Nat) : Int) = 59) = false := decide_eq_false fun e => h59 (e59.1 e)
   rw [q59, cond_false];have hf : X0z false (s.drop i) = s.drop i := by rw [hd, X0z, if_neg hb, if_neg h59]
   exact .inr ⟨_, rfl, i, rfl, hi0, hi, by rw [<- hk, hf], hf⟩
  have e1 : decide ((i : Int) < (s.length : Int)) = false := by apply decide_eq_false; omega
  have hd : s.drop i = [] := List.drop_of_length_le (by omega);refine .inr ⟨_, by simp only [e1, cond_false], i, rfl, hi0, hi, by rw [<- hk, hd, X0z], by rw [hd, X0z]⟩
 obtain ⟨r, h1, j, rfl, h2⟩ := key;exact ⟨j, h1, h2⟩
end Go.Ab
namespace Go.Ab
open Go Go.RowKit Go.Proofs
theorem Y6H (b : List UInt8) : X0T [] b = .inl 12 := by simp [X0T]
theorem Y3Y (c : UInt8) (r b : List UInt8) : X0T (c :: r) b = if c = 34 then (if b.length > 2000 then .inl 4 else .inr (b, r))
  else if c = 92 then (match r with
   | [] => .inl 12
   | d :: r' => if d = 110 then X0T r' (b ++ [10]) else if d = 34 \/ d = 92 then X0T r' (b ++ [d]) else .inl 4)
  else if c < 32 \/ c > 126 then .inl 4 else X0T r (b ++ [c]) := by
 cases r with
 | nil => simp [X0T]
 | cons d r' => simp [X0T]
theorem X4H (b : List UInt8) : bytesOf (X0f b) = some b := by
 have h1 : ((X0f b).all fun n => decide (0 <= n /\ n < 256)) = true := by
  rw [List.all_eq_true];intro n hn;unfold X0f at hn;obtain ⟨c, _, rfl⟩ := List.mem_map.1 hn;apply decide_eq_true;have := c.toNat_lt;omega
 unfold bytesOf;rw [if_pos h1];unfold X0f;rw [List.map_map]
 congr 1
 refine List.map_id'' (fun c => ?_) b;simp
theorem X3y (b : List UInt8) (c : UInt8) : X0f b ++ [((c.toNat : Nat) : Int)] = X0f (b ++ [c]) := by
 unfold X0f; rw [List.map_append]; rfl
theorem X0J (b : List UInt8) : (X0f b).length = b.length := by unfold X0f; exact List.length_map ..
def Z60 (s : List UInt8) (i0 : Nat) (v : (List UInt8 × Int × Unit) × ((List UInt8 × Int × Unit) × Unit)) : Int ⊕ (List UInt8 × List UInt8) -> Prop
 | .inl e => e ≠ 0 /\ ∃ j : Int, v = (([], e, ()), ((s, j, ()), ()))
 | .inr (b, q) => ∃ j : Nat, v = ((b, 0, ()), ((s, (j : Int), ()), ())) /\ i0 < j /\ j <= s.length /\ s.drop j = q
theorem Z2y {s : List UInt8} {i0 : Nat} (hs : s.length <= 1000000000) (h0 : i0 < s.length) : ∃ v, Y5O (s, (i0 : Int), ()) = some v /\ Z60 s i0 v (X0T (s.drop (i0 + 1)) []) := by
 unfold Y5O;simp only [X5y (show i0 < 4611686018427387904 by omega)];refine X6M (fun d => ∃ (i : Nat) (b : List UInt8) (fl : Bool), d = (((), (), ()), ((s, (i : Int), ()), (fl, (), ()), X0f b, ())) /\ i0 < i /\ i <= s.length /\ b.length <= i /\ X0T (s.drop i) b = X0T (s.drop (i0 + 1)) []) (fun d => s.length - d.2.1.2.1.toNat) _ ?_ ⟨i0 + 1, [], false, rfl, by omega, by omega, by simp, rfl⟩;rintro d ⟨i, b, fl, rfl, hi0, hi, hbl, hk⟩;simp only [Int.toNat_natCast];rw [<- hk]
 by_cases hi' : i < s.length
 ·have e1 : decide ((i : Int) < (s.length : Int)) = true := by apply decide_eq_true; omega
  have x1 : ixOK (i : Int) s.length = true := X0e.2 (by omega);have hd := X2k hi';have q34 : decide (((s[i].toNat : Nat) : Int) = 34) = decide (s[i] = 34) := X0u _ 34 (by decide);have q92 : decide (((s[i].toNat : Nat) : Int) = 92) = decide (s[i] = 92) := X0u _ 92 (by decide);have wi := X5y (show i < 4611686018427387904 by omega);have app : ∀ (c : UInt8), decide (((X0f b).length + ([((c.toNat : Nat) : Int)] : List Int).length) * 1 <= 140737488355328) = true := fun c => by
   apply decide_eq_true; rw [X0J]; simp only [List.length_cons, List.length_nil]; omega
  simp only [e1, x1, X2d hi', q34, q92, cond_true, wi];rw [hd, Y3Y]
  by_cases c34 : s[i] = 34
  ·have d34 : decide (s[i] = 34) = true := decide_eq_true c34;simp only [d34, cond_true, if_pos c34, Y0S, Option.bind_some, X4H, Option.map_some, X0J]
   by_cases hb : b.length > 2000
   ·have db : decide (((b.length : Nat) : Int) > 2000) = true := decide_eq_true (by omega);rw [db, cond_true, if_pos hb];exact .inr ⟨_, rfl, _, rfl, by decide, _, rfl⟩
   have db : decide (((b.length : Nat) : Int) > 2000) = false := decide_eq_false (by omega);rw [db, cond_false, if_neg hb];exact .inr ⟨_, rfl, _, rfl, i + 1, rfl, by omega, by omega, rfl⟩
  have d34 : decide (s[i] = 34) = false := decide_eq_false c34;rw [if_neg c34];simp only [d34, cond_false]
  by_cases c92 : s[i] = 92
  ·have d92 : decide (s[i] = 92) = true := decide_eq_true c92;simp only [d92, cond_true, if_pos c92]
   by_cases hl : i + 1 = s.length
   ·have dl : decide (((i + 1 : Nat) : Int) = (s.length : Int)) = true := decide_eq_true (by omega);have he : s.drop (i + 1) = [] := List.drop_of_length_le (by omega);rw [dl, cond_true, he];exact .inr ⟨_, rfl, _, rfl, by decide, _, rfl⟩
   have hj : i + 1 < s.length := by omega
   have dl : decide (((i + 1 : Nat) : Int) = (s.length : Int)) = false := decide_eq_false (by omega);have x2 : ixOK ((i + 1 : Nat) : Int) s.length = true := X0e.2 (by omega);have r34 : decide (((s[i + 1].toNat : Nat) : Int) = 34) = decide (s[i + 1] = 34) := X0u _ 34 (by decide);have r92 : decide (((s[i + 1].toNat : Nat) : Int) = 92) = decide (s[i + 1] = 92) := X0u _ 92 (by decide);have r110 : decide (((s[i + 1].toNat : Nat) : Int) = 110) = decide (s[i + 1] = 110) := X0u _ 110 (by decide);have wi2 := X5y (show i + 1 < 4611686018427387904 by omega);rw [dl, cond_false, x2, cond_true, X2d hj, r34, r92, r110, X2k hj]
   by_cases c110 : s[i + 1] = 110
   ·have d110 : decide (s[i + 1] = 110) = true := decide_eq_true c110;have a10 : decide (((X0f b).length + ([(10 : Int)] : List Int).length) * 1 <= 140737488355328) = true := app 10;simp only [d110, cond_true, if_pos c110, X06, Option.bind_some, a10, wi2];refine .inl ⟨_, rfl, ⟨i + 1 + 1, b ++ [10], true, by rw [<- X3y]; rfl, by omega, by omega, by simp; omega, ?_⟩, by simp only [Int.toNat_natCast]; omega⟩;rfl
   have d110 : decide (s[i + 1] = 110) = false := decide_eq_false c110;simp only [d110, cond_false, if_neg c110]
   by_cases c3 : s[i + 1] = 34 \/ s[i + 1] = 92
   ·have dd : cond (!decide (s[i + 1] = 34)) (!decide (s[i + 1] = 92)) false = false := by
     rcases c3 with h | h <;> simp [h]
    simp only [dd, cond_false, if_pos c3, X06, Option.bind_some, app, cond_true, wi2];refine .inl ⟨_, rfl, ⟨i + 1 + 1, b ++ [s[i + 1]], true, by rw [<- X3y], by omega, by omega, by simp; omega, ?_⟩, by simp only [Int.toNat_natCast]; omega⟩;rfl
   have dd : cond (!decide (s[i + 1] = 34)) (!decide (s[i + 1] = 92)) false = true := by
    simp only [not_or] at c3; simp [c3.1, c3.2]
   simp only [dd, cond_true, if_neg c3];exact .inr ⟨_, rfl, _, rfl, by decide, _, rfl⟩
  have d92 : decide (s[i] = 92) = false := decide_eq_false c92;simp only [d92, cond_false, if_neg c92];have hlt : (s[i] < 32) = (s[i].toNat < 32) := rfl;have hgt : (s[i] > 126) = (126 < s[i].toNat) := rfl
  by_cases cr : s[i] < 32 \/ s[i] > 126
  ·have dd : cond (decide (((s[i].toNat : Nat) : Int) < 32)) true (decide (((s[i].toNat : Nat) : Int) > 126)) = true := by
    rw [hlt, hgt] at cr
    by_cases h : ((s[i].toNat : Nat) : Int) < 32
    ·rw [decide_eq_true h]; rfl
    rw [decide_eq_false h]; exact decide_eq_true (by omega)
   simp only [dd, cond_true, if_pos cr];exact .inr ⟨_, rfl, _, rfl, by decide, _, rfl⟩
  have dd : cond (decide (((s[i].toNat : Nat) : Int) < 32)) true (decide (((s[i].toNat : Nat) : Int) > 126)) = false := by
   rw [hlt, hgt] at cr;rw [decide_eq_false (show ¬ ((s[i].toNat : Nat) : Int) < 32 by omega)]; exact decide_eq_false (by omega)
  simp only [dd, cond_false, if_neg cr, X06, Option.bind_some, app, cond_true, wi];refine .inl ⟨_, rfl, ⟨i + 1, b ++ [s[i]], true, by rw [<- X3y], by omega, by omega, by simp; omega, ?_⟩, by simp only [Int.toNat_natCast]; omega⟩;rfl
 have e1 : decide ((i : Int) < (s.length : Int)) = false := by apply decide_eq_false; omega
 have hd : s.drop i = [] := List.drop_of_length_le (by omega);rw [hd, Y6H];exact .inr ⟨_, by simp only [e1, cond_false]; rfl, _, rfl, by decide, _, rfl⟩
end Go.Ab
namespace Go.Ab
open Go
end Go.Ab
namespace Go.Ab
open Go Go.RowKit Go.Proofs
end Go.Ab
namespace Go.Ab
open Go Go.RowKit Go.Proofs
mutual
def Fm.size : Fm -> Nat
 | .mk k _ _ l => 1 + (if k = 3 then Fm.sizeL l else 0)
def Fm.sizeL : List Fm -> Nat
 | [] => 0
 | f :: r => f.size + Fm.sizeL r
end
mutual
def Fm.depth : Fm -> Nat
 | .mk k _ _ l => 1 + (if k = 3 then Fm.depthL l else 0)
def Fm.depthL : List Fm -> Nat
 | [] => 0
 | f :: r => max f.depth (Fm.depthL r)
end
theorem Y6C : ∀ l : List Fm, (∀ f ∈ l, f.size <= f.big) -> Fm.sizeL l <= Fm.bigL l
 | [], _ => by simp [Fm.sizeL, Fm.bigL]
 | f :: r, h => by
  simp only [Fm.sizeL, Fm.bigL];have := h f (by simp);have := Y6C r fun g hg => h g (by simp [hg])
  omega
theorem size_le : ∀ f : Fm, f.size <= f.big := Fm.ind fun k n t l ih => by
 have := Y6C l ih;simp only [Fm.size, Fm.big];split <;> omega
theorem Y23 : ∀ l : List Fm, (∀ f ∈ l, f.depth <= f.big) -> Fm.depthL l <= Fm.bigL l
 | [], _ => by simp [Fm.depthL, Fm.bigL]
 | f :: r, h => by
  simp only [Fm.depthL, Fm.bigL];have := h f (by simp);have := Y23 r fun g hg => h g (by simp [hg])
  omega
theorem Z1C : ∀ f : Fm, f.depth <= f.big := Fm.ind fun k n t l ih => by
 have := Y23 l ih;simp only [Fm.depth, Fm.big];split <;> omega
theorem X3i (l : List Fm) {i : Nat} (h : i < l.length) : Fm.sizeL (l.take (i + 1)) = Fm.sizeL (l.take i) + l[i].size := by
 rw [List.take_succ_eq_append_getElem h];have : ∀ a b : List Fm, Fm.sizeL (a ++ b) = Fm.sizeL a + Fm.sizeL b := by
  intro a b
  induction a with
  | nil => simp [Fm.sizeL]
  | cons x r ih => simp only [List.cons_append, Fm.sizeL, ih]; omega
 rw [this]; simp [Fm.sizeL]
theorem X5k (l : List Fm) {i : Nat} (h : i < l.length) : Fm.depthL (l.take (i + 1)) = max (Fm.depthL (l.take i)) l[i].depth := by
 rw [List.take_succ_eq_append_getElem h];have : ∀ a b : List Fm, Fm.depthL (a ++ b) = max (Fm.depthL a) (Fm.depthL b) := by
  intro a b
  induction a with
  | nil => simp [Fm.depthL]
  | cons x r ih => simp only [List.cons_append, Fm.depthL, ih]; omega
 rw [this]; simp [Fm.depthL]
theorem X1T (l : List Fm) (i : Nat) : Fm.sizeL (l.take i) <= Fm.sizeL l := by
 induction l generalizing i with
 | nil => simp
 | cons f r ih => cases i with
  | zero => simp [Fm.sizeL]
  | succ i => simp only [List.take_succ_cons, Fm.sizeL]; have := ih i; omega
theorem X41 (l : List Fm) (i : Nat) : Fm.depthL (l.take i) <= Fm.depthL l := by
 induction l generalizing i with
 | nil => simp
 | cons f r ih => cases i with
  | zero => simp [Fm.depthL]
  | succ i => simp only [List.take_succ_cons, Fm.depthL]; have := ih i; omega
theorem Z1T (f : Fm) : Y5M f = some (if f.k = 3 then f.l else []) := by
 unfold Y5M
 by_cases h : f.k = 3
 ·simp [h]
 simp [h]
theorem Fm.size_eq (f : Fm) : f.size = 1 + Fm.sizeL (if f.k = 3 then f.l else []) := by
 cases f; simp only [Fm.size, Fm.k, Fm.l]; split <;> simp_all [Fm.sizeL]
theorem Fm.depth_eq (f : Fm) : f.depth = 1 + Fm.depthL (if f.k = 3 then f.l else []) := by
 cases f; simp only [Fm.depth, Fm.k, Fm.l]; split <;> simp_all [Fm.depthL]
def X9o (t : List UInt8) : Bool := decide (t ≠ []) && (decide (t.length <= 30) && !X0q t)
def X1J (k n : Int) (t : List UInt8) (l : List Fm) : Bool :=
 if k = 0 then decide (t = []) && (decide (l = []) && (decide (-1152921504606846976 <= n) && decide (n <= 1152921504606846976)))
 else if k = 1 then (X9o t && t.all fun c => !X0P c) && (decide (n = 0) && decide (l = []))
 else if k = 2 then decide (t.length <= 2000) && (!badT t && (decide (n = 0) && decide (l = [])))
 else if k = 3 then decide (t = []) && decide (n = 0)
 else false
theorem Y3r {t : List UInt8} {i : Nat} (h : i < t.length) : X1r (X0b t (i : Int)) = some (X0P t[i]) := by
 have hb := t[i].toNat_lt;have e : X0b t (i : Int) = (t[i].toNat : Int) := by unfold X0b; simp [h]
 unfold X1r;rw [e, if_pos (by omega)];simp
theorem Z0N {a n : Int} {t : List UInt8} {l : List Fm} {A : Type} {v : A} (F : ((Int × Int × List UInt8 × (List Fm) × Unit) × Bool × Unit) × (Unit) -> Option A) (b0 : Bool) (ht : t.length <= 30)
  (hF : F ((((a, n, t, l, ()), b0 && t.all fun c => !X0P c, ()), ())) = some v) :
  Option.bind (X0v (L := ((Int × Int × List UInt8 × (List Fm) × Unit) × Bool × Int × Unit) × (Unit)) (R := ((Int × Int × List UInt8 × (List Fm) × Unit) × Bool × Unit) × (Unit)) (fun d2 => (
 let v3_3 := d2.1.2.1
 let v4_4 := d2.1.2.2.1
 cond (cond (decide (v4_4 < (d2.1.1.2.2.1.length : Int))) v3_3 false) (cond (ixOK v4_4 d2.1.1.2.2.1.length) (Option.bind (α := Bool) (X1r (X0b d2.1.1.2.2.1 v4_4)) fun r5 => (
 some (Step.next (((d2.1.1.1, d2.1.1.2.1, d2.1.1.2.2.1, d2.1.1.2.2.2.1, ()), !r5, IntKind.wrap .i64 (v4_4 + 1), ()), ())))) none) (some (Step.done (((d2.1.1.1, d2.1.1.2.1, d2.1.1.2.2.1, d2.1.1.2.2.2.1, ()), v3_3, ()), ()))))) (((a, n, t, l, ()), b0, 0, ()), ())) F = some v := by
 have key : ∀ j i (b : Bool), i + j = t.length -> F ((((a, n, t, l, ()), b && (t.drop i).all fun c => !X0P c, ()), ())) = some v -> Option.bind (X0v (L := ((Int × Int × List UInt8 × (List Fm) × Unit) × Bool × Int × Unit) × (Unit)) (R := ((Int × Int × List UInt8 × (List Fm) × Unit) × Bool × Unit) × (Unit)) (fun d2 => (
 let v3_3 := d2.1.2.1
 let v4_4 := d2.1.2.2.1
 cond (cond (decide (v4_4 < (d2.1.1.2.2.1.length : Int))) v3_3 false) (cond (ixOK v4_4 d2.1.1.2.2.1.length) (Option.bind (α := Bool) (X1r (X0b d2.1.1.2.2.1 v4_4)) fun r5 => (
 some (Step.next (((d2.1.1.1, d2.1.1.2.1, d2.1.1.2.2.1, d2.1.1.2.2.2.1, ()), !r5, IntKind.wrap .i64 (v4_4 + 1), ()), ())))) none) (some (Step.done (((d2.1.1.1, d2.1.1.2.1, d2.1.1.2.2.1, d2.1.1.2.2.2.1, ()), v3_3, ()), ()))))) (((a, n, t, l, ()), b, (i : Int), ()), ())) F = some v := by
  intro j
  induction j with
  | zero =>
   intro i b hi hv;obtain rfl : i = t.length := by omega
   rw [X0R (r := (((a, n, t, l, ()), b, ()), ())) (by simp)];simpa using hv
  | succ j ih =>
   intro i b hi hv;have hlt : i < t.length := by omega
   cases b with
   | false =>
    rw [X0R (r := (((a, n, t, l, ()), false, ()), ())) (by simp)];simpa using hv
   | true =>
    have e1 : decide ((i : Int) < (t.length : Int)) = true := by simp [hlt]
    have e2 : ixOK (i : Int) t.length = true := X0e.2 (by omega)
    rw [X29 (l' := (((a, n, t, l, ()), !X0P t[i], ((i + 1 : Nat) : Int), ()), ())) (by
     simp only [e1, e2, cond_true, Y3r hlt, Option.bind_some, wrapN (show i < 4611686018427387904 by omega)])]
    refine ih (i + 1) _ (by omega) ?_;rw [List.drop_eq_getElem_cons hlt, List.all_cons, Bool.true_and] at hv;exact hv
 exact key t.length 0 b0 (by omega) (by simpa using hF)
theorem len0 {α : Type} (l : List α) : decide ((l.length : Int) = 0) = decide (l = []) := by
 cases l with
 | nil => rfl
 | cons a r =>
  have : ¬ ((a :: r).length : Int) = 0 := by simp only [List.length_cons]; omega
  simp only [this, decide_false]; rfl
theorem Z1V (f : Fm) : Y5N f = some (X1J f.k f.n f.t f.l) := by
 unfold Y5N X1J;generalize f.k = a;generalize f.n = n;generalize f.t = t;generalize f.l = l;simp only [len0]
 by_cases h0 : a = 0
 ·subst h0;simp only [decide_true, cond_true, if_true, Option.bind_some, ge_iff_le]
  congr 1
  apply Bool.eq_iff_iff.2;simp [and_assoc]
 simp only [h0, decide_false, cond_false, if_false]
 by_cases h1 : a = 1
 ·subst h1;simp only [decide_true, cond_true, if_true]
  by_cases hn : t = []
  ·subst hn;simp only [decide_true, Bool.not_true, cond_false, Option.bind_some];rw [X0R (r := (((1, n, [], l, ()), false, ()), ())) (by simp)];simp [X9o]
  by_cases hl : t.length <= 30
  ·have e1 : decide ((t.length : Int) <= 30) = true := by simp; omega
   have hnum : X1P t = some (X0q t) := by unfold X1P; rw [if_pos (by omega)]
   simp only [hn, decide_false, Bool.not_false, cond_true, e1, hnum, Option.bind_some];rw [Z0N (v := Step.done (cond (cond ((!X0q t) && t.all fun c => !X0P c) (decide (n = 0)) false) (decide (l = [])) false)) _ _ hl (by simp only [len0])];simp only [Option.bind_some]
   congr 1
   have ew : X9o t = !X0q t := by simp [X9o, hn, hl]
   rw [ew];apply Bool.eq_iff_iff.2;simp [and_assoc]
  have e1 : decide ((t.length : Int) <= 30) = false := by simp; omega
  simp only [hn, decide_false, Bool.not_false, cond_true, e1, cond_false, Option.bind_some];rw [X0R (r := (((1, n, t, l, ()), false, ()), ())) (by simp)];simp [X9o, hl]
 simp only [h1, decide_false, cond_false, if_false]
 by_cases h2 : a = 2
 ·subst h2;simp only [decide_true, cond_true, if_true]
  by_cases hl : t.length <= 2000
  ·have e1 : decide ((t.length : Int) <= 2000) = true := by simp; omega
   simp only [e1, cond_true, Option.bind_some, hl, decide_true, Bool.true_and]
   congr 1
   apply Bool.eq_iff_iff.2;simp [and_assoc]
  have e1 : decide ((t.length : Int) <= 2000) = false := by simp; omega
  simp [e1, hl]
 simp only [h2, decide_false, cond_false, if_false]
 by_cases h3 : a = 3
 ·subst h3;simp only [decide_true, cond_true, if_true, Option.bind_some]
  congr 1
  apply Bool.eq_iff_iff.2;simp [and_assoc]
 simp [h3]
end Go.Ab
namespace Go.Ab
open Go Go.RowKit
mutual
def eqSh : (s : Sh) -> s.den -> s.den -> Bool
 | .d e, x, y => eqE e x y
 | .c _, _, _ => true
 | .ref _ _, _, _ => true
 | .gs _ _, _, _ => true
 | .mref _ _, x, y => eqBl x y
 | .gv _ _, _, _ => false
 | .agg l, x, y => Y7j l x y
 | .tup l, x, y => Y7j l x y
 | .rptr l, x, y => Y7j l x y
 | .fn _ _ _, _, _ => false
 | .iface _ s, x, y => eqSh s x y
def Y7j : (l : List Sh) -> Sh.denL l -> Sh.denL l -> Bool
 | [], _, _ => true
 | s :: l, x, y => eqSh s x.1 y.1 && Y7j l x.2 y.2
end
mutual
theorem Y0a : ∀ (s : Sh) (x y : s.den), eqSh s x y = true -> x = y
 | .d e, x, y, h => X39 e x y h
 | .c _, x, y, h => rfl
 | .ref _ _, x, y, h => rfl
 | .gs _ _, x, y, h => rfl
 | .mref _ _, x, y, h => X4K x y h
 | .gv _ _, x, y, h => by cases h
 | .agg l, x, y, h => X3v l x y h
 | .tup l, x, y, h => X3v l x y h
 | .rptr l, x, y, h => X3v l x y h
 | .fn _ _ _, x, y, h => by cases h
 | .iface _ s, x, y, h => Y0a s x y h
theorem X3v : ∀ (l : List Sh) (x y : Sh.denL l), Y7j l x y = true -> x = y
 | [], x, y, h => rfl
 | s :: l, (x1, x2), (y1, y2), h => by
  have h : (eqSh s x1 y1 && Y7j l x2 y2) = true := h;rw [Bool.and_eq_true] at h;rw [Y0a s x1 y1 h.1, X3v l x2 y2 h.2]
end
end Go.Ab
namespace Go.Ab
open Go Go.RowKit Go.Proofs
end Go.Ab
namespace Go.Ab
open Go Go.RowKit Go.Proofs
def X7Q (x0 : Fm) : Option (Bool) := (
 Option.bind (α := Bool) (X4z (Fm.eta x0)) fun r1 => (
 some (!r1)))
def Y8k : An := .leaf
def Y2q : Sig := .n [(.d .form)] (.d .bool) (fun x => X7Q x.1)
theorem Y2r : SigOK CX 60 Y2q := X0i (l := [(24, X7v)]) ⟨X5d, trivial⟩ (hint := fun _ => {}) (an := Y8k) (fun x => by kernel_rfl)
def X4u (x0 : List Fm) (x1 : Unit) : Option (Int) := (
 Option.bind (α := Step ((Unit) × (Unit)) (Int))
 (X0v (L := ((List Fm) × Unit × Int × Int × Unit) × (Unit)) (R := Step ((Unit) × (Unit)) (Int)) (fun d1 => (
 let v0_2 := d1.1.1
 let v7_3 := d1.1.2.2.1
 let v8_4 := d1.1.2.2.2.1
 cond (decide (v8_4 < v7_3)) (cond (ixOK v8_4 v0_2.length) (Option.bind (α := Bool) (X7Q (Fm.eta (v0_2.getD v8_4.toNat (Fm.mk 0 0 [] [])))) fun r5 => (
 cond r5 (some (Step.done (Step.done v8_4))) (some (Step.next ((v0_2, (), v7_3, IntKind.wrap .i64 (v8_4 + 1), ()), ()))))) none) (some (Step.done (Step.next ((), ())))))) ((x0, (), (x0.length : Int), 0, ()), ())) fun qd6 => match qd6 with
 | .next d6 => (
 some (-1))
 | .done r => some r)
def Y6P : An := .seq (.leaf) (.join true ⟨[], []⟩ (.seq (.leaf) (.block (.loop { env := [(0, (.d (.slice .form))), (1, (.c (.fn (.func 60) [] []))), (7, (.d (.int .i64))), (8, (.d (.int .i64)))], objs := [] } (.leaf)))) (.leaf))
def X9M : Sig := .n [(.d (.slice .form)), (.c (.fn (.func 60) [] []))] (.d (.int .i64)) (fun x => X4u x.1 x.2.1)
theorem Y06 : SigOK CX 88 X9M := X0i (l := [(60, Y2q)]) ⟨Y2r, trivial⟩ (hint := fun _ => {}) (an := Y6P) (fun x => by kernel_rfl)
def X14 (x0 : List Fm) (x1 : Unit) : Option (Bool) := (
 Option.bind (α := Int) (X4u x0 ()) fun r1 => (
 some (decide (r1 >= 0))))
def X9t : An := .leaf
def X4W : Sig := .n [(.d (.slice .form)), (.c (.fn (.func 60) [] []))] (.d .bool) (fun x => X14 x.1 x.2.1)
theorem X6m : SigOK CX 59 X4W := X0i (l := [(88, X9M)]) ⟨Y06, trivial⟩ (hint := fun _ => {}) (an := X9t) (fun x => by kernel_rfl)
end Go.Ab
namespace Go.Ab
open Go Go.RowKit Go.Proofs
mutual
def X0L : Fm -> Int -> Int -> Bool × Int
 | .mk k n t l, p, d => if p - 1 < 0 \/ d = 0 \/ X1J k n t l = false then (false, p - 1) else X1k l (p - 1) (d - 1)
def X1k : List Fm -> Int -> Int -> Bool × Int
 | [], p, _ => (true, p)
 | f :: r, p, d => if (X0L f p d).1 = true then X1k r (X0L f p d).2 d else (false, (X0L f p d).2)
end
def X0H (f : Fm) : Bool := (X0L f 20000 100).1
theorem Y3Z {l : List Fm} {i : Nat} (h : i < l.length) (p d : Int) : X1k (l.drop i) p d = if (X0L l[i] p d).1 = true then X1k (l.drop (i + 1)) (X0L l[i] p d).2 d else (false, (X0L l[i] p d).2) := by
 rw [List.drop_eq_getElem_cons h]; simp only [X1k]
theorem Y0N : ∀ (l : List Fm), (∀ f ∈ l, ∀ p d : Int, 0 <= p -> (X0L f p d).1 = true -> 0 <= (X0L f p d).2 /\ (X0L f p d).2 <= p) -> ∀ p d : Int, 0 <= p -> (X1k l p d).1 = true -> 0 <= (X1k l p d).2 /\ (X1k l p d).2 <= p
 | [], _, p, d, hp, _ => ⟨hp, Int.le_refl _⟩
 | f :: r, h, p, d, hp, ht => by
  simp only [X1k] at ht ⊢;split at ht
  ·rename_i hf;rw [if_pos hf];obtain ⟨h1, h2⟩ := h f (by simp) p d hp hf;obtain ⟨h3, h4⟩ := Y0N r (fun g hg => h g (by simp [hg])) _ d h1 ht;exact ⟨h3, by omega⟩
  cases ht
theorem Z0L : ∀ f : Fm, ∀ p d : Int, 0 <= p -> (X0L f p d).1 = true -> 0 <= (X0L f p d).2 /\ (X0L f p d).2 <= p := Fm.ind fun k n t l ih p d hp ht => by
 simp only [X0L] at ht ⊢;split at ht
 ·cases ht
 rename_i hc;rw [if_neg hc];obtain ⟨h1, h2⟩ := Y0N l ih (p - 1) (d - 1) (by have := fun h => hc (.inl h); omega) ht;exact ⟨h1, by omega⟩
def cI (l : List Fm) (p d : Int) : Nat -> Int
 | 0 => p
 | i + 1 => match l[i]? with
  | some f => if (X0L f (cI l p d i) d).1 = true then (X0L f (cI l p d i) d).2 else cI l p d i
  | none => cI l p d i
theorem Z5L (l : List Fm) (p d : Int) (hp : 0 <= p) : ∀ i, 0 <= cI l p d i /\ cI l p d i <= p
 | 0 => ⟨hp, Int.le_refl _⟩
 | i + 1 => by
  obtain ⟨h1, h2⟩ := Z5L l p d hp i;simp only [cI];split
  ·rename_i f hf;split
   ·rename_i hv;obtain ⟨h3, h4⟩ := Z0L f _ d h1 hv;exact ⟨h3, by omega⟩
   exact ⟨h1, h2⟩
  exact ⟨h1, h2⟩
theorem Z0K (f : Fm) (p d : Int) : X0L f p d = if p - 1 < 0 \/ d = 0 \/ X1J f.k f.n f.t f.l = false then (false, p - 1) else X1k f.l (p - 1) (d - 1) := by
 cases f; simp only [X0L]; rfl
theorem Y6J : ∀ k, ∀ (f : Fm) (p d : Int), f.big <= 4611686018427387000 -> 0 <= p -> p <= 4611686018427387000 -> 0 <= d -> d <= 4611686018427387000 -> Up (k < f.big) (X6k k f d (p, ())) ((X0L f p d).1, (((X0L f p d).2, ()), ()))
 | 0 => fun f p d hb _ _ _ _ => .inr ⟨by unfold X6k; rfl, by have := X2s f; omega⟩
 | k + 1 => fun f p d hb hp0 hp1 hd0 hd1 => by
  have hkb := X2h f;have hln := X07 f.l;have hmem : ∀ g ∈ f.l, g.big < f.big := fun g hg => by have := X2r hg; omega
  rw [Z0K];unfold X6k;simp only [Fm.eta_eq, Z1V];rw [show IntKind.wrap .i64 (p - 1) = p - 1 from w64 (by omega) (by omega)];generalize X1J f.k f.n f.t f.l = b;generalize f.l = l at hkb hln hmem
  by_cases h1 : p - 1 < 0
  ·simp only [h1, decide_true, cond_true, Bool.not_true, cond_false, Option.bind_some, true_or, if_true]; exact .of rfl
  by_cases h2 : d = 0
  ·simp only [h1, h2, decide_false, decide_true, cond_true, cond_false, Bool.not_true, Option.bind_some, true_or, or_true, if_true]; exact .of rfl
  cases b with
  | false => simp only [h1, h2, decide_false, cond_true, cond_false, Bool.not_false, Option.bind_some, or_true, if_true]; exact .of rfl
  | true =>
   simp only [h1, h2, decide_false, cond_true, cond_false, Bool.not_false, Bool.not_true, Option.bind_some, Bool.true_eq_false, or_false, if_false];refine X2x (fun i => (((), d, l, (l.length : Int), (i : Int), ()), ((cI l (p - 1) (d - 1) i, ()), ()))) (fun i => ((X1k (l.drop i) (cI l (p - 1) (d - 1) i) (d - 1)).1, (((X1k (l.drop i) (cI l (p - 1) (d - 1) i) (d - 1)).2, ()), ()))) l.length (fun i hi => ?_) ?_
   ·have e1 : decide ((i : Int) < (l.length : Int)) = true := by simp [hi]
    have e2 : ixOK (i : Int) l.length = true := X0e.2 (by omega);obtain ⟨c1, c2⟩ := Z5L l (p - 1) (d - 1) (by omega) i;have hg := hmem _ (List.getElem_mem hi);simp only [e1, e2, cond_true, Int.toNat_natCast, X09 hi, Fm.eta_eq, wrapN (show i < 4611686018427387904 by omega), Y3Z hi, w64 (show -9223372036854775808 <= d - 1 by omega) (by omega)];have hcI : cI l (p - 1) (d - 1) (i + 1) = if (X0L l[i] (cI l (p - 1) (d - 1) i) (d - 1)).1 = true then (X0L l[i] (cI l (p - 1) (d - 1) i) (d - 1)).2 else cI l (p - 1) (d - 1) i := by
     simp only [cI, List.getElem?_eq_getElem hi]
    rcases Y6J k l[i] (cI l (p - 1) (d - 1) i) (d - 1) (by omega) c1 (by omega) (by omega) (by omega) with h | ⟨h, hn⟩
    ·rw [h];simp only [Option.bind_some]
     by_cases hv : (X0L l[i] (cI l (p - 1) (d - 1) i) (d - 1)).1 = true
     ·rw [if_pos hv] at hcI;refine .inl ⟨?_, ?_⟩
      ·rw [hcI, hv]; rfl
      rw [if_pos hv, hcI]
     have hv' : (X0L l[i] (cI l (p - 1) (d - 1) i) (d - 1)).1 = false := by simpa using hv
     refine .inr (.inl ⟨.done (false, (((X0L l[i] (cI l (p - 1) (d - 1) i) (d - 1)).2, ()), ())), by rw [hv']; rfl, .of ?_⟩);rw [if_neg hv]
    rw [h]; exact .inr (.inr ⟨rfl, by omega⟩)
   refine ⟨.next ((), ((cI l (p - 1) (d - 1) l.length, ()), ())), by simp, .of ?_⟩;simp [X1k]
theorem Z0M {f : Fm} {p d : Int} (hb : f.big <= 4611686018427387000) (h1 : 0 <= p) (h2 : p <= 4611686018427387000) (h3 : 0 <= d) (h4 : d <= 4611686018427387000) : Y4c f d (p, ()) = some ((X0L f p d).1, (((X0L f p d).2, ()), ())) := X4g (b := f.big) fun k => Y6J k f p d hb h1 h2 h3 h4
theorem X6G {f : Fm} (hb : f.big <= 4611686018427387000) : X4z f = some (X0H f) := by
 unfold X4z;rw [Fm.eta_eq, Z0M hb (by omega) (by omega) (by omega) (by omega)];rfl
theorem Z1P (f : Fm) : Y18 f = some (match (if f.k = 3 then f.l else []) with | [] => [] | g :: _ => if g.k = 1 then g.t else []) := by
 unfold Y18;simp only [Fm.eta_eq, Z1T, Option.bind_some];generalize (if f.k = 3 then f.l else []) = l;cases l with
 | nil => simp [ixOK]
 | cons g r =>
  have e : ixOK 0 (g :: r).length = true := X0e.2 (by simp only [List.length_cons]; omega);have e2 : decide (((g :: r).length : Int) > 0) = true := by simp only [List.length_cons]; simp
  simp only [e, e2, Bool.true_or, cond_true];show cond (decide (g.k = 1)) (some g.t) (some []) = _
  by_cases h : g.k = 1 <;> simp [h]
end Go.Ab
namespace Go.Ab
open Go Go.RowKit Go.Proofs
end Go.Ab
namespace Go.Ab
open Go Go.RowKit Go.Proofs
theorem Up.get {R : Type} {o : Option R} {v : R} (h : Up False o v) : o = some v := h.elim id fun h => h.2.elim
theorem X5P {t : List UInt8} {i : Nat} (h : i < t.length) : X0b t (i : Int) = (t[i].toNat : Int) := by
 unfold X0b; simp [h]
theorem X9n (c : UInt8) : X5D (c.toNat : Int) = some (!X0P c) := by
 have : ∀ n : Fin 256, X5D ((UInt8.ofFin n).toNat : Int) = some (!X0P (UInt8.ofFin n)) := by decide +kernel
 exact this c.toFin
theorem Y24 (c : UInt8) : X25 c = (decide (48 <= c.toNat) && decide (c.toNat <= 57)) := by
 have : ∀ n : Fin 256, X25 (UInt8.ofFin n) = (decide (48 <= (UInt8.ofFin n).toNat) && decide ((UInt8.ofFin n).toNat <= 57)) := by decide +kernel
 exact this c.toFin
theorem X3s (s : List UInt8) (hs : s.length <= 4611686018427387000) :
  Option.bind (α := Step ((List UInt8 × Unit) × (Unit)) (Bool))
 (X0v (L := (List UInt8 × Int × Unit) × (Unit)) (R := Step ((List UInt8 × Unit) × (Unit)) (Bool)) (fun d3 => (
 let v0_4 := d3.1.1
 let v3_5 := d3.1.2.1
 cond (decide (v3_5 < (v0_4.length : Int))) (cond (ixOK v3_5 v0_4.length) (cond ((ixOK v3_5 v0_4.length) || !(!(decide (X0b v0_4 v3_5 < 48)))) (cond (cond (decide (X0b v0_4 v3_5 < 48)) true (decide (X0b v0_4 v3_5 > 57))) (some (Step.done (Step.done false))) (some (Step.next ((v0_4, IntKind.wrap .i64 (v3_5 + 1), ()), ())))) none) none) (some (Step.done (Step.next ((v0_4, ()), ())))))) ((s, 0, ()), ())) (fun qd6 => match qd6 with
 | .next d6 => (
 let v0_7 := d6.1.1
 some (!decide (v0_7 = [])))
 | .done r => some r) = some (!decide (s = []) && s.all X25) := by
 refine Up.get ?_;have h := X2x (N := False) (F := fun qd6 : Step ((List UInt8 × Unit) × (Unit)) (Bool) => match qd6 with
 | .next d6 => (
 let v0_7 := d6.1.1
 some (!decide (v0_7 = [])))
 | .done r => some r) (b := (fun d3 : (List UInt8 × Int × Unit) × (Unit) => (
 let v0_4 := d3.1.1
 let v3_5 := d3.1.2.1
 cond (decide (v3_5 < (v0_4.length : Int))) (cond (ixOK v3_5 v0_4.length) (cond ((ixOK v3_5 v0_4.length) || !(!(decide (X0b v0_4 v3_5 < 48)))) (cond (cond (decide (X0b v0_4 v3_5 < 48)) true (decide (X0b v0_4 v3_5 > 57))) (some (Step.done (Step.done false))) (some (Step.next ((v0_4, IntKind.wrap .i64 (v3_5 + 1), ()), ())))) none) none) (some (Step.done (Step.next ((v0_4, ()), ()))))))) (fun i => ((s, (i : Int), ()), ())) (fun i => (!decide (s = []) && (s.drop i).all X25)) s.length (fun i hi => ?_) ?_
 ·simpa using h
 ·have e1 : decide ((i : Int) < (s.length : Int)) = true := by simp [hi]
  have e2 : ixOK (i : Int) s.length = true := X0e.2 (by omega);have e3 : decide (s = []) = false := by
   apply decide_eq_false;intro h;simp [h] at hi
  rw [List.drop_eq_getElem_cons hi];simp only [e1, e2, e3, cond_true, Bool.true_or, X5P hi, wrapN (show i < 4611686018427387904 by omega), List.all_cons, Bool.not_false, Bool.true_and]
  by_cases c : X25 s[i] = true
  ·have c' := c;rw [Y24] at c';simp only [Bool.and_eq_true, decide_eq_true_eq] at c';refine .inl ⟨?_, by rw [c]; simp⟩;have a1 : ¬ ((s[i].toNat : Int) < 48) := by omega
   have a2 : ¬ ((s[i].toNat : Int) > 57) := by omega
   simp [a1, a2]
  ·refine .inr (.inl ⟨.done false, ?_, .of (by simp [c])⟩);rw [Y24] at c
   by_cases a1 : ((s[i].toNat : Int) < 48)
   ·simp [a1]
   ·have a2 : ((s[i].toNat : Int) > 57) := by
     simp only [Bool.and_eq_true, decide_eq_true_eq] at c;omega
    simp [a1, a2]
 ·refine ⟨.next ((s, ()), ()), by simp, .of (by simp)⟩
theorem X97 {t : List UInt8} (ht : t.length <= 4611686018427387000) : X7l t = some (X0q t) := by
 unfold X7l;rcases t with _ | ⟨c, _ | ⟨d, r⟩⟩
 ·simp only [List.length_nil];show Option.bind (some ((([] : List UInt8), ()), ())) _ = _;simp only [Option.bind_some];refine (X3s [] (by simp)).trans ?_;rfl
 ·have e2 : decide (([c].length : Int) > 1) = false := by simp
  simp only [e2, Bool.not_false, Bool.or_true, cond_true, cond_false, Option.bind_some];refine (X3s [c] (by simp)).trans ?_
  congr 1
  unfold X0q X0a
  by_cases h : c = 45
  ·subst h; simp [X25]; decide
  simp [h]
 have e0 : ixOK 0 (c :: d :: r).length = true := X0e.2 (by simp only [List.length_cons]; omega);have e2 : decide (((c :: d :: r).length : Int) > 1) = true := by simp only [List.length_cons]; apply decide_eq_true; omega
 have e3 : X0b (c :: d :: r) 0 = (c.toNat : Int) := X5P (t := c :: d :: r) (i := 0) (by simp);simp only [List.length_cons] at ht;simp only [e0, e2, e3, cond_true, Bool.true_or]
 by_cases h : c = 45
 ·subst h;have e4 : slOK 1 (((45 : UInt8) :: d :: r).length : Int) ((45 : UInt8) :: d :: r).length = true := by simp [slOK]; omega
  have e5 : decide (((45 : UInt8).toNat : Int) = 45) = true := by decide
  have e6 : List.take ((((45 : UInt8) :: d :: r).length : Int).toNat - (1 : Int).toNat) (List.drop (1 : Int).toNat ((45 : UInt8) :: d :: r)) = d :: r := by
   simp only [List.length_cons, Int.toNat_one, Int.toNat_natCast, List.drop_succ_cons, List.drop_zero];apply List.take_of_length_le;simp
  simp only [e4, e5, e6, cond_true, Option.bind_some];refine (X3s (d :: r) (by simp only [List.length_cons]; omega)).trans ?_;simp [X0q, X0a]
 have e5 : decide ((c.toNat : Int) = 45) = false := by
  apply decide_eq_false;intro hc;exact h (UInt8.toNat_inj.1 (by simpa using (by omega : c.toNat = 45)))
 simp only [e5, cond_false, Option.bind_some];refine (X3s (c :: d :: r) (by simp only [List.length_cons]; omega)).trans ?_
 congr 1
 simp [X0q, X0a, h]
theorem Y7s {t : List UInt8} (ht : t.length <= 4611686018427387000) : X7n t = some (X9o t && t.all fun c => !X0P c) := by
 refine Up.get ?_;unfold X7n;refine X2x (fun i => ((t, (i : Int), ()), ())) (fun i => X9o t && (t.drop i).all fun c => !X0P c) t.length (fun i hi => ?_) ?_
 ·have e1 : decide ((i : Int) < (t.length : Int)) = true := by simp [hi]
  have e2 : ixOK (i : Int) t.length = true := X0e.2 (by omega);rw [List.drop_eq_getElem_cons hi];simp only [e1, e2, cond_true, X5P hi, X9n, Option.bind_some, wrapN (show i < 4611686018427387904 by omega), List.all_cons];cases ho : X0P t[i] with
  | false => exact .inl ⟨by simp, by simp⟩
  | true => exact .inr (.inl ⟨.done false, by simp, .of (by simp)⟩)
 refine ⟨.next ((t, ()), ()), by simp, .of ?_⟩;simp only [List.drop_length, List.all_nil, Bool.and_true];unfold X9o
 by_cases h1 : t = []
 ·subst h1; simp
 have a1 : decide ((t.length : Int) >= 1) = true := by
  have := List.length_pos_iff.2 h1;apply decide_eq_true; omega
 by_cases h2 : t.length <= 30
 ·have a2 : decide ((t.length : Int) <= 30) = true := by apply decide_eq_true; omega
  simp [a1, a2, h1, h2, X97 ht]
 have a2 : decide ((t.length : Int) <= 30) = false := by apply decide_eq_false; omega
 simp [a1, a2, h1, h2]
def badB (c : UInt8) : Bool := badR c.toNat
theorem Y6l (s : List UInt8) : ∀ (f pos : Nat), s.length < pos + f -> (0 <= idxR badR s f pos ↔ (s.drop pos).any badB = true)
 | 0, pos, h => by
  rw [List.drop_eq_nil_of_le (by omega)];simp [idxR]
 | f + 1, pos, h => by
  unfold idxR
  by_cases hp : pos < s.length
  ·rw [if_pos hp, List.drop_eq_getElem_cons hp, List.any_cons];have hsz : pos < (⟨s.toArray⟩ : ByteArray).size := by show pos < s.toArray.size; simpa using hp
   have hel : ((⟨s.toArray⟩ : ByteArray)[pos]'hsz) = s[pos] := by simp [ByteArray.getElem_eq_getElem_data]
   by_cases h8 : s[pos].toNat < 128
   ·have hd := decode_ascii ⟨s.toArray⟩ pos hsz (by rw [hel]; exact h8);rw [hd, hel];show (0 <= (if badR ((s[pos].toNat : Nat) : Int) = true then ((pos : Nat) : Int) else _) ↔ _)
    by_cases hb : badB s[pos] = true
    ·have hb' := hb;unfold badB at hb';rw [if_pos hb', hb];simp
    have hb' := hb;unfold badB at hb';rw [if_neg hb', Y6l s f (pos + 1) (by omega)];simp [hb]
   have hd := decode_high ⟨s.toArray⟩ pos hsz (by rw [hel]; omega);have hb1 : badR (Utf8.decode ⟨s.toArray⟩ pos).1 = true := by
    have := hd.1;unfold badR;have a1 : ¬ (((Utf8.decode ⟨s.toArray⟩ pos).1 : Int) = 10) := by omega
    have a2 : (126 < ((Utf8.decode ⟨s.toArray⟩ pos).1 : Int)) := by omega
    simp only [a1, a2, decide_true, decide_false, Bool.not_false, Bool.or_true, Bool.and_true]
   have hb2 : badB s[pos] = true := by
    unfold badB badR;have a1 : ¬ ((s[pos].toNat : Int) = 10) := by omega
    have a2 : (126 < (s[pos].toNat : Int)) := by omega
    simp only [a1, a2, decide_true, decide_false, Bool.not_false, Bool.or_true, Bool.and_true]
   rw [if_pos hb1, hb2];simp
  rw [if_neg hp, List.drop_eq_nil_of_le (by omega)];simp
theorem Y6a (t : List UInt8) : badT t = t.any badB := by
 unfold badT;have := Y6l t (t.length + 1) 0 (by omega);rw [List.drop_zero] at this;cases h : t.any badB with
 | true => exact decide_eq_true (this.2 h)
 | false => exact decide_eq_false fun hc => by have := this.1 hc; rw [h] at this; cases this
theorem Y7r {t : List UInt8} (ht : t.length <= 4611686018427387000) : X7m t = some (decide (t.length <= 2000) && !badT t) := by
 refine Up.get ?_;rw [Y6a];unfold X7m;refine X2x (fun i => ((t, (i : Int), ()), ())) (fun i => decide (t.length <= 2000) && !(t.drop i).any badB) t.length (fun i hi => ?_) ?_
 ·have e1 : decide ((i : Int) < (t.length : Int)) = true := by simp [hi]
  have e2 : ixOK (i : Int) t.length = true := X0e.2 (by omega);rw [List.drop_eq_getElem_cons hi];simp only [e1, e2, cond_true, Bool.true_or, X5P hi, wrapN (show i < 4611686018427387904 by omega), List.any_cons];have hb : badB t[i] = (cond (!decide ((t[i].toNat : Int) = 10)) (cond (decide ((t[i].toNat : Int) < 32)) true (decide ((t[i].toNat : Int) > 126))) false) := by
   unfold badB badR
   by_cases a1 : (t[i].toNat : Int) = 10
   ·simp only [a1, decide_true, Bool.not_true, cond_false, Bool.false_and]
   by_cases a2 : (t[i].toNat : Int) < 32
   ·simp only [a1, a2, decide_true, decide_false, Bool.not_false, cond_true, Bool.true_or, Bool.and_true]
   simp only [a1, a2, decide_false, Bool.not_false, cond_true, cond_false, Bool.false_or, Bool.true_and, gt_iff_lt]
  rw [<- hb];cases ho : badB t[i] with
  | false => exact .inl ⟨by simp, by simp⟩
  | true => exact .inr (.inl ⟨.done false, by simp, .of (by simp)⟩)
 refine ⟨.next ((t, ()), ()), by simp, .of ?_⟩;simp;omega
mutual
def X0w : Fm -> Bool
 | .mk k n t l => X1J k n t l && X0s l
def X0s : List Fm -> Bool
 | [] => true
 | f :: r => X0w f && X0s r
end
theorem X1Y (f : Fm) : X0w f = (X1J f.k f.n f.t f.l && X0s f.l) := by cases f; simp only [X0w]; rfl
theorem Y29 : ∀ k, ∀ f : Fm, f.big <= 4611686018427387000 -> Up (k < f.big) (X4t k f) (X0w f)
 | 0 => fun f hb => .inr ⟨by unfold X4t; rfl, by have := X2s f; omega⟩
 | k + 1 => fun f hb => by
  have hkb := X2h f;have hl := X07 f.l;have htb : f.t.length < f.big := by cases f; simp only [Fm.big, Fm.t]; omega
  unfold X4t;rw [X1Y];generalize f.k = a;generalize f.n = n;generalize f.t = t at htb;generalize f.l = l at hkb hl
  by_cases h0 : a = 0
  ·subst h0;simp only [X1J, decide_true, decide_false, Bool.not_true, Bool.not_false, cond_true, cond_false, if_true, Int.reduceEq];cases l with
   | cons g r =>
    have : decide ((((g :: r).length : Nat) : Int) > 0) = true := by simp only [List.length_cons]; apply decide_eq_true; omega
    simp only [this, cond_true];exact .of (by simp)
   | nil =>
    by_cases ht : t = []
    ·subst ht;exact .of (by simp [X0s])
    exact .of (by simp [ht])
  by_cases hn : n = 0
  ·subst hn
   by_cases h3 : a = 3
   ·subst h3;simp only [X1J, decide_true, decide_false, Bool.not_true, Bool.not_false, cond_true, cond_false, if_true, Int.reduceEq, if_false]
    by_cases ht : t = []
    ·subst ht;simp only [decide_true, Bool.not_true, Bool.true_and, cond_false];refine Up.bind (v := Step.done (X0s l)) ?_ (.of rfl);refine X2x (fun i => (((3, 0, [], l, ()), (i : Int), ()), ())) (fun i => (Step.done (X0s (l.drop i)) : Step ((Unit) × (Unit)) (Bool))) l.length (fun i hi => ?_) ?_
     ·have e1 : decide ((i : Int) < (l.length : Int)) = true := by simp [hi]
      have e2 : ixOK (i : Int) l.length = true := X0e.2 (by omega);have hm := X2r (List.getElem_mem hi);rw [List.drop_eq_getElem_cons hi];simp only [e1, e2, cond_true, Int.toNat_natCast, X09 hi, Fm.eta_eq, wrapN (show i < 4611686018427387904 by omega), X0s];rcases Y29 k l[i] (by omega) with h | ⟨h, hn⟩
      ·rw [h];cases X0w l[i] with
       | true => exact .inl ⟨by simp, by simp⟩
       | false => exact .inr (.inl ⟨.done (.done false), by simp, .of (by simp)⟩)
      rw [h]; exact .inr (.inr ⟨rfl, by omega⟩)
     refine ⟨.next ((), ()), by simp, .of ?_⟩;simp [X0s]
    exact .of (by simp [ht])
   cases l with
   | cons g r =>
    have : decide ((((g :: r).length : Nat) : Int) > 0) = true := by simp only [List.length_cons]; apply decide_eq_true; omega
    have hf : X1J a 0 t (g :: r) = false := by unfold X1J; simp [h0, h3]
    simp only [hf, h0, h3, this, decide_true, decide_false, Bool.not_true, Bool.not_false, cond_true, cond_false];exact .of (by simp)
   | nil =>
    by_cases h1 : a = 1
    ·subst h1;refine .of ?_;simp [Y7s (show t.length <= 4611686018427387000 by omega), X1J, X0s]
    by_cases h2 : a = 2
    ·subst h2;refine .of ?_;simp [Y7r (show t.length <= 4611686018427387000 by omega), X1J, X0s]
    refine .of ?_;have hf : X1J a 0 t [] = false := by unfold X1J; simp [h0, h1, h2, h3]
    simp only [hf, h0, h1, h2, h3, decide_true, decide_false, Bool.not_true, Bool.not_false, cond_true, cond_false, Option.bind_some, Bool.false_and];cases decide (t = []) <;> simp
  have hf : X1J a n t l = false := by unfold X1J; simp [h0, hn]
  refine .of ?_;simp [h0, hn, hf]
theorem Y0d {f : Fm} (hb : f.big <= 4611686018427387000) : Y01 f = some (X0w f) := X4g (b := f.big) fun k => Y29 k f hb
theorem Y0z : ∀ k, ∀ f : Fm, f.big <= 4611686018427387000 -> Up (k < f.big) (X2Y k f) (f.size : Int)
 | 0 => fun f hb => .inr ⟨by unfold X2Y; rfl, by have := X2s f; omega⟩
 | k + 1 => fun f hb => by
  obtain ⟨a, n, t, l⟩ := f;have hs := size_le (.mk a n t l);have hkb := X2h (.mk a n t l);have hln := X07 l;simp only [Fm.l] at hkb;unfold X2Y;simp only [Fm.k, Fm.n, Fm.t, Fm.l]
  by_cases h3 : a = 3
  ·subst h3;simp only [Fm.size, if_true] at hs ⊢;refine X2x (fun i => (((3, n, t, l, ()), ((1 + Fm.sizeL (l.take i) : Nat) : Int), (i : Int), ()), ())) (fun i => ((1 + Fm.sizeL l : Nat) : Int)) l.length (fun i hi => ?_) ?_
   ·have e1 : decide ((i : Int) < (l.length : Int)) = true := by simp [hi]
    have e2 : ixOK (i : Int) l.length = true := X0e.2 (by omega);have hm := X2r (List.getElem_mem hi);have h2 := X3i l hi;have h3 := X1T l (i + 1);simp only [decide_true, e1, e2, cond_true, Int.toNat_natCast, X09 hi, Fm.eta_eq, wrapN (show i < 4611686018427387904 by omega)];rcases Y0z k l[i] (by omega) with h | ⟨h, hn⟩
    ·rw [h];refine .inl ⟨?_, trivial⟩;simp only [Option.bind_some];rw [w64 (by omega) (by omega)];have : ((1 + Fm.sizeL (l.take i) : Nat) : Int) + (l[i].size : Int) = ((1 + Fm.sizeL (l.take (i + 1)) : Nat) : Int) := by omega
     rw [this]
    rw [h]; exact .inr (.inr ⟨rfl, by omega⟩)
   refine ⟨((((1 + Fm.sizeL (l.take l.length) : Nat) : Int), ()), ()), by simp, .of ?_⟩;simp
  rw [X0R (r := ((1, ()), ())) (by simp [h3])];exact .of (by simp [Fm.size, h3])
theorem Y5g {f : Fm} (hb : f.big <= 4611686018427387000) : X7W f = some (f.size : Int) := X4g (b := f.big) fun k => Y0z k f hb
theorem X82 : ∀ k, ∀ f : Fm, f.big <= 4611686018427387000 -> Up (k < f.big) (X2l k f) (f.depth : Int)
 | 0 => fun f hb => .inr ⟨by unfold X2l; rfl, by have := X2s f; omega⟩
 | k + 1 => fun f hb => by
  obtain ⟨a, n, t, l⟩ := f;have hs := Z1C (.mk a n t l);have hkb := X2h (.mk a n t l);have hln := X07 l;simp only [Fm.l] at hkb;unfold X2l;simp only [Fm.k, Fm.n, Fm.t, Fm.l]
  by_cases h3 : a = 3
  ·subst h3;simp only [Fm.depth, if_true] at hs ⊢;refine X2x (fun i => (((3, n, t, l, ()), (Fm.depthL (l.take i) : Int), (i : Int), ()), ())) (fun i => ((1 + Fm.depthL l : Nat) : Int)) l.length (fun i hi => ?_) ?_
   ·have e1 : decide ((i : Int) < (l.length : Int)) = true := by simp [hi]
    have e2 : ixOK (i : Int) l.length = true := X0e.2 (by omega);have hm := X2r (List.getElem_mem hi);have h2 := X5k l hi;simp only [decide_true, e1, e2, cond_true, Int.toNat_natCast, X09 hi, Fm.eta_eq, wrapN (show i < 4611686018427387904 by omega)];rcases X82 k l[i] (by omega) with h | ⟨h, hn⟩
    ·rw [h];refine .inl ⟨?_, trivial⟩;simp only [Option.bind_some];have : (if (l[i].depth : Int) > (Fm.depthL (l.take i) : Int) then (l[i].depth : Int) else (Fm.depthL (l.take i) : Int)) = (Fm.depthL (l.take (i + 1)) : Int) := by
      rw [h2]; split <;> omega
     rw [this]
    rw [h]; exact .inr (.inr ⟨rfl, by omega⟩)
   refine ⟨(((Fm.depthL (l.take l.length) : Int), ()), ()), by simp, .of ?_⟩;simp only [List.take_length];rw [w64 (by omega) (by omega)]
   congr 1; omega
  rw [X0R (r := ((0, ()), ())) (by simp [h3])];exact .of (by simp only [Option.bind_some, Fm.depth, h3, if_false]; rfl)
theorem Y3B {f : Fm} (hb : f.big <= 4611686018427387000) : X6l f = some (f.depth : Int) := X4g (b := f.big) fun k => X82 k f hb
theorem Y7u {k n : Int} {t : List UInt8} {l : List Fm} (h : X1J k n t l = true) : k = 3 \/ l = [] := by
 unfold X1J at h
 by_cases h3 : k = 3
 ·exact .inl h3
 by_cases hl : l = []
 ·exact .inr hl
 exfalso;revert h;split
 ·simp [hl]
 split
 ·simp [hl]
 split
 ·simp [hl]
 simp [h3]
theorem X9l : ∀ (l : List Fm), (∀ f ∈ l, ∀ p d : Int, 0 <= p -> 0 <= d -> (X0L f p d).1 = (X0w f && (decide ((f.size : Int) <= p) && decide ((f.depth : Int) <= d))) /\ ((X0L f p d).1 = true -> (X0L f p d).2 = p - f.size)) ->
  ∀ p d : Int, 0 <= p -> 0 <= d -> (X1k l p d).1 = (X0s l && (decide ((Fm.sizeL l : Int) <= p) && decide ((Fm.depthL l : Int) <= d))) /\ ((X1k l p d).1 = true -> (X1k l p d).2 = p - Fm.sizeL l)
 | [], _, p, d, hp, hd => by
  simp only [X1k, X0s, Fm.sizeL, Fm.depthL];refine ⟨?_, fun _ => by simp⟩;simp [hp, hd]
 | f :: r, h, p, d, hp, hd => by
  obtain ⟨h1, h2⟩ := h f (by simp) p d hp hd;simp only [X1k, X0s, Fm.sizeL, Fm.depthL]
  by_cases hv : (X0L f p d).1 = true
  ·rw [if_pos hv];have h2' := h2 hv;rw [hv] at h1;have h1' := h1.symm;simp only [Bool.and_eq_true, decide_eq_true_eq] at h1';obtain ⟨a1, a2, a3⟩ := h1';obtain ⟨b1, b2⟩ := X9l r (fun g hg => h g (by simp [hg])) (X0L f p d).2 d (by omega) hd;refine ⟨?_, fun ht => by have := b2 ht; omega⟩;rw [b1, a1, h2'];simp only [Bool.true_and]
   congr 2
   ·apply decide_eq_decide.2; omega
   apply decide_eq_decide.2; omega
  rw [if_neg hv];have hv' : (X0L f p d).1 = false := by simpa using hv
  rw [hv'] at h1;refine ⟨?_, fun h => by cases h⟩;simp only
  symm
  by_cases a1 : X0w f = true
  ·by_cases a2 : (f.size : Int) <= p
   ·have a3 : ¬ (f.depth : Int) <= d := fun a3 => by rw [a1, decide_eq_true a2, decide_eq_true a3] at h1; cases h1
    have : ¬ (((max f.depth (Fm.depthL r) : Nat) : Int) <= d) := by omega
    simp only [this, decide_false, Bool.and_false]
   have : ¬ (((f.size + Fm.sizeL r : Nat) : Int) <= p) := by omega
   simp only [this, decide_false, Bool.false_and, Bool.and_false]
  simp [a1]
theorem Y0O : ∀ f : Fm, ∀ p d : Int, 0 <= p -> 0 <= d -> (X0L f p d).1 = (X0w f && (decide ((f.size : Int) <= p) && decide ((f.depth : Int) <= d))) /\ ((X0L f p d).1 = true -> (X0L f p d).2 = p - f.size) := Fm.ind fun k n t l ih p d hp hd => by
 have eS : (Fm.mk k n t l).size = 1 + (if k = 3 then Fm.sizeL l else 0) := by simp only [Fm.size]
 have eD : (Fm.mk k n t l).depth = 1 + (if k = 3 then Fm.depthL l else 0) := by simp only [Fm.depth]
 generalize (Fm.mk k n t l).size = S at eS ⊢;generalize (Fm.mk k n t l).depth = D at eD ⊢;simp only [X0L, X0w]
 by_cases h1 : p - 1 < 0
 ·rw [if_pos (.inl h1)];refine ⟨?_, fun h => by cases h⟩;have : ¬ ((S : Int) <= p) := by omega
  simp only [this, decide_false, Bool.false_and, Bool.and_false]
 by_cases h2 : d = 0
 ·rw [if_pos (.inr (.inl h2))];refine ⟨?_, fun h => by cases h⟩;have : ¬ ((D : Int) <= d) := by omega
  simp only [this, decide_false, Bool.and_false]
 by_cases h3 : X1J k n t l = false
 ·rw [if_pos (.inr (.inr h3)), h3];exact ⟨by simp, fun h => by cases h⟩
 rw [if_neg (fun h => h.elim h1 fun h => h.elim h2 h3)];have h3' : X1J k n t l = true := by simpa using h3
 obtain ⟨b1, b2⟩ := X9l l ih (p - 1) (d - 1) (by omega) (by omega);have hs : (if k = 3 then Fm.sizeL l else 0) = Fm.sizeL l /\ (if k = 3 then Fm.depthL l else 0) = Fm.depthL l := by
  rcases Y7u h3' with rfl | rfl
  ·simp
  simp [Fm.sizeL, Fm.depthL]
 rw [hs.1] at eS;rw [hs.2] at eD;rw [h3', b1];refine ⟨?_, fun ht => by rw [<- b1] at ht; have := b2 ht; omega⟩;simp only [Bool.true_and]
 congr 2
 ·apply decide_eq_decide.2; omega
 apply decide_eq_decide.2; omega
theorem X65 {f : Fm} (hb : f.big <= 4611686018427387000) : X2Z f = some (X0H f) := by
 unfold X2Z X4B X0H;rw [(Y0O f 20000 100 (by omega) (by omega)).1];simp only [Fm.eta_eq, Y0d hb, Y5g hb, Y3B hb, Option.bind_some];cases X0w f with
 | false => rfl
 | true =>
  by_cases h : (f.size : Int) <= 20000
  ·simp [h]
  simp [h]
end Go.Ab
