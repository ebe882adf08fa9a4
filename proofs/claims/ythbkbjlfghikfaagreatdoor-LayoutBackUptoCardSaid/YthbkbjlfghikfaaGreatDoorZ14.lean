/-
  FORMS: more of the reader's and the parts' functions, and the reference's.
-/
import Derived.Test.YthbkbjlfghikfaaGreatDoorZ13
import Derived.Tactics2
import Derived.Defers
import Derived.Laws.Pointers
import Derived.Laws.LoneSync
import Derived.RegionTactic
import Derived.RegionCalls
import Derived.ChangeAlike
import Derived.Lib.SlBuf
import Derived.Lib.SlBytesRow
import Derived.Shelf.Strings.Count
import Derived.Shelf.RegionOpenPlain
import Derived.Lib.Walk
import Derived.Deep.LoopGhost
import Derived.Deep.Draws
import Derived.Laws.Externs
import Derived.BigCall
import Derived.BigGuard
import Derived.Deep.Cut
import Derived.Deep.CutRange
import Derived.Laws.Cover3
import Derived.Deep.OwnRows
import Derived.Test.YthbkbjlfghikfaaGreatDoorZ12
import Derived.Shelf.Strconv.AtoiAll
import Derived.Shelf.Strconv.Itoa3
import Derived.Lib.AppendIntMem
import Derived.Laws.Bits64b
set_option linter.unusedVariables false
set_option linter.unusedSimpArgs false
set_option maxRecDepth 100000
namespace Go.Ab
open Go Go.RowKit Go.Proofs
noncomputable def G_bldLen (o0 : Bool × Unit × Unit) (o1 : List Int) : Option ((Int) × ((Bool × Unit × Unit) × (List Int) × Unit)) := (
 some ((o1.length : Int), ((o0.1, (), ()), o1, ())))
def A_bldLen : An := .leaf
def H_bldLen : Nat → RH := fun _ => {}
noncomputable def S_bldLen : Sig := .o { pre := [(false, .cells 48 [(.mref 0 0), (.gs 1 (.int .u8))]), (false, .tg (.int .u8) 5)], args := [(.ref 0 0)], post := [(true, .cells 48 [(.mref 0 0), (.gs 1 (.int .u8))]), (true, .tg (.int .u8) 5)], res := (.d (.int .i64)), f := fun x => G_bldLen x.2.1 x.2.2.1 }
theorem S_bldLen_ok : SigOK CX 105 S_bldLen := sigO_of (l := []) trivial (hint := H_bldLen) (an := A_bldLen) (by kernel_rfl) (fun x => by kernel_rfl)
noncomputable def G_bldByte (x1 : Int) (o0 : Bool × Unit × Unit) (o1 : List Int) : Option ((Bool) × ((Bool × Unit × Unit) × (List Int) × Unit)) := (
 Option.bind (α := (Unit) × ((Bool × Unit × Unit) × (List Int) × Unit)) (some ((), ((true, (), ()), o1, ()))) fun r1 => (
 cond (decide ((r1.2.2.1.length + ([x1]).length) * 1 ≤ 140737488355328)) (some (true, ((r1.2.1.1, (), ()), r1.2.2.1 ++ ([x1]), ()))) none))
def A_bldByte : An := .leaf
def H_bldByte : Nat → RH := fun r => match r with
 | 1 => { H := { ac := [6] } }
 | 2 => { H := { ty := [(14, (.int .u8))] } }
 | _ => {}
noncomputable def S_bldByte : Sig := .o { pre := [(false, .cells 48 [(.mref 0 0), (.gs 1 (.int .u8))]), (false, .tg (.int .u8) 5)], args := [(.ref 0 0), (.d (.int .u8))], post := [(true, .cells 48 [(.mref 0 0), (.gs 1 (.int .u8))]), (false, .tg (.int .u8) 5)], res := (.d .erri), f := fun x => G_bldByte x.1.2.1 x.2.1 x.2.2.1 }
theorem S_bldByte_ok : SigOK CX 30 S_bldByte := sigO_of (l := [(51, S_copyCheck)]) ⟨S_copyCheck_ok, trivial⟩ (hint := H_bldByte) (an := A_bldByte) (by kernel_rfl) (fun x => by kernel_rfl)
noncomputable def G_skip (o0 : (List UInt8) × Int × Unit) : Option ((Unit) × (((List UInt8) × Int × Unit) × Unit)) := (
 loopM (L := (Unit × Unit) × (((List UInt8) × Int × Unit) × Unit)) (R := (Unit) × (((List UInt8) × Int × Unit) × Unit)) (fun d1 => (
 let c2 := d1.2.1.1
 let c3 := d1.2.1.2.1
 cond (decide (c3 < (c2.length : Int))) (cond (ixOK c3 c2.length) (cond (cond (cond (decide (byteAt c2 c3 = 32)) true (decide (byteAt c2 c3 = 9))) true (decide (byteAt c2 c3 = 10))) (some (Step.next (((), ()), ((c2, IntKind.wrap .i64 (c3 + 1), ()), ())))) (cond (decide (byteAt c2 c3 = 59)) (cond (slOK c3 (c2.length : Int) c2.length) (Option.bind (α := Int) (indexByteF ((c2.drop c3.toNat).take ((c2.length : Int).toNat - c3.toNat)) (10)) fun r4 => (
 Option.bind (α := (Unit × Int × Unit) × (((List UInt8) × Int × Unit) × Unit))
 (cond (decide (r4 < 0)) (some (((), IntKind.wrap .i64 ((c2.length : Int) - c3), ()), ((c2, c3, ()), ()))) (some (((), r4, ()), ((c2, c3, ()), ())))) fun d5 => (
 let c6 := d5.2.1.1
 let c7 := d5.2.1.2.1
 let v3_8 := d5.1.2.1
 some (Step.next (((), ()), ((c6, IntKind.wrap .i64 (c7 + v3_8), ()), ())))))) none) (some (Step.done ((), ((c2, c3, ()), ())))))) none) (some (Step.done ((), ((c2, c3, ()), ())))))) (((), ()), ((o0.1, o0.2.1, ()), ())))
def A_skip : An := .block (.loop { env := [(0, (.ref 0 0))], objs := [(true, .cells 110 [(.d .str), (.d (.int .i64))])] } (.seq (.leaf) (.block (.seq (.leaf) (.block (.seq (.leaf) (.cond (.leaf) (.seq (.leaf) (.cond (.seq (.leaf) (.join false { env := [(0, (.ref 0 0)), (3, (.d (.int .i64)))], objs := [(true, .cells 110 [(.d .str), (.d (.int .i64))])] } (.leaf) (.leaf))) (.leaf))))))))))
def H_skip : Nat → RH := fun _ => {}
noncomputable def S_skip : Sig := .o { pre := [(false, .cells 110 [(.d .str), (.d (.int .i64))])], args := [(.ref 0 0)], post := [(true, .cells 110 [(.d .str), (.d (.int .i64))])], res := (.tup []), f := fun x => G_skip x.2.1 }
theorem S_skip_ok : SigOK CX 123 S_skip := sigO_of (l := [(73, S_indexByte)]) ⟨S_indexByte_ok, trivial⟩ (hint := H_skip) (an := A_skip) (by kernel_rfl) (fun x => by kernel_rfl)
noncomputable def G_text (o0 : (List UInt8) × Int × Unit) : Option (((List UInt8) × Int × Unit) × (((List UInt8) × Int × Unit) × Unit)) := (
 Option.bind (α := Step ((Unit) × (((List UInt8) × Int × Unit) × Unit)) (((List UInt8) × Int × Unit) × (((List UInt8) × Int × Unit) × Unit)))
 (loopM (L := (Unit × Unit × Unit) × (((List UInt8) × Int × Unit) × (Bool × Unit × Unit) × (List Int) × Unit)) (R := Step ((Unit) × (((List UInt8) × Int × Unit) × Unit)) (((List UInt8) × Int × Unit) × (((List UInt8) × Int × Unit) × Unit))) (fun d1 => (
 let c2 := d1.2.1.1
 let c3 := d1.2.1.2.1
 let l4 := d1.2.2.2.1
 cond (decide (c3 < (c2.length : Int))) (cond (ixOK c3 c2.length) (Option.bind (α := Step ((Unit × Unit × Int × Unit) × (((List UInt8) × Int × Unit) × (Bool × Unit × Unit) × (List Int) × Unit)) (Step ((Unit × Unit × Unit) × (((List UInt8) × Int × Unit) × (Bool × Unit × Unit) × (List Int) × Unit)) (Step ((Unit) × (((List UInt8) × Int × Unit) × Unit)) (((List UInt8) × Int × Unit) × (((List UInt8) × Int × Unit) × Unit)))))
 (cond (decide (byteAt c2 c3 = 34)) (Option.bind (α := (Int) × ((Bool × Unit × Unit) × (List Int) × Unit)) (G_bldLen (d1.2.2.1.1, (), ()) l4) fun r5 => (
 cond (decide (r5.1 > 2000)) (some (Step.done (Step.done (Step.done (([], 4, ()), ((c2, IntKind.wrap .i64 (c3 + 1), ()), ())))))) (Option.bind (α := (List UInt8) × (Unit)) (Option.map (fun s => (s, ())) (bytesOf (r5.2.2.1))) fun r6 => (
 some (Step.done (Step.done (Step.done ((r6.1, 0, ()), ((c2, IntKind.wrap .i64 (c3 + 1), ()), ()))))))))) (cond (decide (byteAt c2 c3 = 92)) (cond (decide (IntKind.wrap .i64 (c3 + 1) = (c2.length : Int))) (some (Step.done (Step.done (Step.done (([], 12, ()), ((c2, IntKind.wrap .i64 (c3 + 1), ()), ())))))) (cond (ixOK (IntKind.wrap .i64 (c3 + 1)) c2.length) (cond (decide (byteAt c2 (IntKind.wrap .i64 (c3 + 1)) = 110)) (some (Step.next (((), (), 10, ()), ((c2, IntKind.wrap .i64 (c3 + 1), ()), (d1.2.2.1.1, (), ()), l4, ())))) (cond (cond (!decide (byteAt c2 (IntKind.wrap .i64 (c3 + 1)) = 34)) (!decide (byteAt c2 (IntKind.wrap .i64 (c3 + 1)) = 92)) false) (some (Step.done (Step.done (Step.done (([], 4, ()), ((c2, IntKind.wrap .i64 (c3 + 1), ()), ())))))) (some (Step.next (((), (), byteAt c2 (IntKind.wrap .i64 (c3 + 1)), ()), ((c2, IntKind.wrap .i64 (c3 + 1), ()), (d1.2.2.1.1, (), ()), l4, ())))))) none)) (cond (cond (decide (byteAt c2 c3 < 32)) true (decide (byteAt c2 c3 > 126))) (some (Step.done (Step.done (Step.done (([], 4, ()), ((c2, c3, ()), ())))))) (some (Step.next (((), (), byteAt c2 c3, ()), ((c2, c3, ()), (d1.2.2.1.1, (), ()), l4, ()))))))) fun qd7 => match qd7 with
 | .next d7 => (
 let c8 := d7.2.1.1
 let c9 := d7.2.1.2.1
 let l10 := d7.2.2.2.1
 let v5_11 := d7.1.2.2.1
 Option.bind (α := (Bool) × ((Bool × Unit × Unit) × (List Int) × Unit)) (G_bldByte v5_11 (d7.2.2.1.1, (), ()) l10) fun r12 => (
 some (Step.next (((), (), ()), ((c8, IntKind.wrap .i64 (c9 + 1), ()), (r12.2.1.1, (), ()), r12.2.2.1, ())))))
 | .done r => some r) none) (some (Step.done (Step.next ((), ((c2, c3, ()), ()))))))) (((), (), ()), ((o0.1, IntKind.wrap .i64 (o0.2.1 + 1), ()), (false, (), ()), ([] : List Int), ()))) fun qd13 => match qd13 with
 | .next d13 => (
 let c14 := d13.2.1.1
 let c15 := d13.2.1.2.1
 some (([], 12, ()), ((c14, c15, ()), ())))
 | .done r => some r)
def A_text : An := .seq (.leaf) (.seq (.leaf) (.join true { env := [], objs := [(true, .cells 110 [(.d .str), (.d (.int .i64))])] } (.seq (.leaf) (.block (.loop { env := [(0, (.ref 0 0)), (4, (.ref 1 0))], objs := [(true, .cells 110 [(.d .str), (.d (.int .i64))]), (false, .cells 48 [(.mref 1 0), (.gs 2 (.int .u8))]), (false, .tg (.int .u8) 5)] } (.seq (.leaf) (.seq (.block (.seq (.leaf) (.join true { env := [(0, (.ref 0 0)), (4, (.ref 1 0)), (5, (.d (.int .u8)))], objs := [(true, .cells 110 [(.d .str), (.d (.int .i64))]), (false, .cells 48 [(.mref 1 0), (.gs 2 (.int .u8))]), (false, .tg (.int .u8) 5)] } (.leaf) (.leaf)))) (.leaf)))))) (.leaf)))
def H_text : Nat → RH := fun r => match r with
 | 8 => { H := { ac := [49] } }
 | 10 => { H := { ac := [51] } }
 | 22 => { H := { ac := [97] } }
 | _ => {}
noncomputable def S_text : Sig := .o { pre := [(false, .cells 110 [(.d .str), (.d (.int .i64))])], args := [(.ref 0 0)], post := [(true, .cells 110 [(.d .str), (.d (.int .i64))])], res := (.tup [(.d .str), (.d (.int .i64))]), f := fun x => G_text x.2.1 }
theorem S_text_ok : SigOK CX 124 S_text := sigO_of (l := [(105, S_bldLen), (26, S_string), (30, S_bldByte)]) ⟨S_bldLen_ok, S_string_ok, S_bldByte_ok, trivial⟩ (hint := H_text) (an := A_text) (by kernel_rfl) (fun x => by kernel_rfl)
noncomputable def G_touches (x0 : Int) : Option (Bool) := (
 Option.bind (α := Bool) (cond (!(decide (x0 = 34))) (outsideF (x0)) (some false)) fun r1 => (
 some (cond (decide (x0 = 34)) true (!r1))))
def A_touches : An := .leaf
def H_touches : Nat → RH := fun _ => {}
noncomputable def S_touches : Sig := .n [(.d (.int .u8))] (.d .bool) (fun x => G_touches x.1)
theorem S_touches_ok : SigOK CX 87 S_touches := sigN_of (l := [(95, S_outside)]) ⟨S_outside_ok, trivial⟩ (hint := H_touches) (an := A_touches) (fun x => by kernel_rfl)
end Go.Ab

set_option maxRecDepth 100000
namespace Go.Ab
open Go Go.RowKit Go.Proofs
noncomputable def G_newRep (x0 : List (List UInt8)) : Option ((Unit) × ((Int × Int × Int × Unit × Unit × Unit) × (List (List UInt8)) × Unit)) := (
 cond (decide (Int.tmod (x0.length : Int) 2 = 1)) (none) (cond (decide (x0.length * 16 ≤ 140737488355328)) (some ((), ((0, 0, 0, (), (), ()), x0, ()))) none))
def A_newRep : An := .leaf
def H_newRep : Nat → RH := fun r => match r with
 | 3 => { H := { mb := [11], ty := [(9, .str)] } }
 | _ => {}
noncomputable def S_newRep : Sig := .o { pre := [], args := [(.d (.slice .str))], post := [(false, .cells 160 [(.d (.int .u32)), (.d (.int .i32)), (.d (.int .u32)), (.c (.base .nilIface)), (.gs 1 .str)]), (false, .tg .str 9)], res := (.ref 0 0), f := fun x => G_newRep x.1.1 }
theorem S_newRep_ok : SigOK CX 99 S_newRep := sigO_of (l := []) trivial (hint := H_newRep) (an := A_newRep) (by kernel_rfl) (fun x => by kernel_rfl)
end Go.Ab

set_option maxRecDepth 100000
namespace Go.Ab
open Go Go.RowKit Go.Proofs
abbrev repCells (r : Sh) : List Sh := [.d (.int .u32), .d (.int .i32), .d (.int .u32), r, .gs 1 .str]
abbrev repO (k : Bool) : Slots := [(k, .cells 160 (repCells (.c (.base .nilIface)))), (k, .tg .str 9)]
def tabSh (i : Nat) : Sh := cond (Nat.beq i 10 || (Nat.beq i 34 || Nat.beq i 92)) (.d (.slice (.int .u8))) (cond (Nat.beq i 256) (.gs 3 .str) (.c (.base (.slice none 0 0))))
def bsrCells : List Sh := (List.range 257).map tabSh
abbrev bldPost : Slots := [(true, .cells 160 (repCells (.c (.base .nilIface)))), (true, .tg .str 9), (false, .cells 197 bsrCells), (false, .tg .str 9)]
def A_build : An := .seq .leaf (.seq .leaf (.seq .leaf (.seq .leaf (.seq (.seq .leaf (.block (.unroll 4 .leaf))) (.seq .leaf (.seq .leaf (.seq (.seq .leaf (.block (.unroll 4 .leaf))) .leaf)))))))
def H_build : Nat → RH := fun r => match r with
 | 26 => { H := { ty := [(94, .str)] } }
 | 33 => { H := { ty := [(124, .str)] } }
 | _ => {}
noncomputable def F_build (x : Sh.denL [.ref 0 0] × denO (repO false)) : Option (Sh.den (.iface 198 (.ref 2 0)) × denO bldPost) :=
 yfunO CX (sigTab []) H_build 149 (repO false) [.ref 0 0] bldPost (.iface 198 (.ref 2 0)) A_build x
noncomputable def S_build : Sig := .o ⟨repO false, [.ref 0 0], bldPost, .iface 198 (.ref 2 0), F_build⟩
def old6 : List (List UInt8) := [[92], [92, 92], [34], [92, 34], [10], [92, 110]]
abbrev x6 (a b c : Int) : denO (repO false) := ((a, b, c, (), (), ()), old6, ())
theorem S_build_ok : SigOK CX 149 S_build := sigO_of (l := []) trivial (hint := H_build) (an := A_build) (by kernel_rfl) (fun x => rfl)
abbrev oncePost : Slots := [(true, .cells 160 [.d (.int .u32), .d (.int .i32), .d (.int .u32), .iface 198 (.ref 2 0), .c (.base (.slice none 0 0))]), (true, .tg .str 9), (false, .cells 197 bsrCells), (false, .tg .str 9)]
def H_once : Nat → RH := fun r => match r with
 | 0 => { H := { ac := [4] } }
 | _ => {}
noncomputable def F_once (x : Sh.denL [.ref 0 0] × denO (repO false)) : Option (Sh.den (.tup []) × denO oncePost) :=
 yfunO CX (sigTab [(149, S_build)]) H_once 133 (repO false) [.ref 0 0] oncePost (.tup []) .leaf x
noncomputable def S_once : Sig := .o ⟨repO false, [.ref 0 0], oncePost, .tup [], F_once⟩
theorem S_once_ok : SigOK CX 133 S_once := sigO_of (l := [(149, S_build)]) ⟨S_build_ok, trivial⟩ (hint := H_once) (an := .leaf) (by kernel_rfl) (fun x => rfl)
def repB (i : Nat) : Option (List UInt8) := cond (Nat.beq i 10) (some [92, 110]) (cond (Nat.beq i 34) (some [92, 34]) (cond (Nat.beq i 92) (some [92, 92]) none))
def tabAV (i : Nat) : AV := match repB i with
 | some l => .tvec (.int .u8) (l.map fun b => (b.toNat : Int))
 | none => .base (.slice none 0 0)
def tabCs : List AV := (List.range 256).map tabAV ++ [.gs 3 5 .str 3]
def onceSto (a b c : Int) : Sto := [(0, .cells 160 [.int .u32 a, .int .i32 b, .int .u32 c, .iface 198 (.ref 2 4 0), .base (.slice none 0 0)]), (1, .tg .str 9 old6), (4, .cells 197 tabCs), (5, .tg .str 9 [[10], [34], [92]])]
theorem F_once_is (a b c : Int) : (F_once (((), ()), x6 a b c)).map (fun r => osto 2 oncePost r.2) = some (onceSto a b c) := by kernel_rfl
end Go.Ab

set_option maxRecDepth 100000
namespace Go.Ab
open Go Go.RowKit Go.Proofs
theorem sDisable (w : World) : (callFunc 187 #[]).run Tryz.prog w = .ok (.value (.tuple #[])) w := run_call_mark0 Tryz.func187 (by kernel_rfl) (by kernel_rfl) (by kernel_rfl) .disable (by kernel_rfl) w
theorem sEnable (w : World) : (callFunc 189 #[]).run Tryz.prog w = .ok (.value (.tuple #[])) w := run_call_mark0 Tryz.func189 (by kernel_rfl) (by kernel_rfl) (by kernel_rfl) .enable (by kernel_rfl) w
theorem sAcquire (a : Addr) (w : World) : (callFunc 190 #[.pointer (some a)]).run Tryz.prog w = .ok (.value (.tuple #[])) w := run_call_marked Tryz.func190 (by kernel_rfl) (by kernel_rfl) (by kernel_rfl) .acquire (by kernel_rfl) a w
theorem sRelease (a : Addr) (w : World) : (callFunc 192 #[.pointer (some a)]).run Tryz.prog w = .ok (.value (.tuple #[])) w := run_call_marked Tryz.func192 (by kernel_rfl) (by kernel_rfl) (by kernel_rfl) .releaseMerge (by kernel_rfl) a w
theorem uPMu : Tryz.prog.underlying 229 = some (.pointer 152) := by kernel_rfl
theorem store_deferred (a : Addr) (x : Value) (u : FrameMode) (w : World) (hc : w.cell? a = some x) (hz : w.frozen? a = false) :
  CallsD Tryz.prog 162 #[.pointer (some a), .bool true] u w fun e u' w' => u' = u ∧ (e = .returned (.tuple #[]) ∧ w' = w.drew.setCell a (.int .u32 1)) := by
 have hc' : w.drew.cell? a = some x := by go_simp
 have hz' : w.drew.frozen? a = false := by go_simp
 have hst := run_call_store (P := Tryz.prog) Tryz.func178 (by kernel_rfl) (by kernel_rfl) (by kernel_rfl) (by kernel_rfl) (k := .u32) (y := 1) hc' hz'
 go_enter_d Tryz.func162, Tryz.ntmps162
 go_wp2
 go_region_calls
 all_goals (go_end0; exact ⟨rfl, rfl⟩)
theorem unlock_deferred (a : Addr) (u : FrameMode) (w : World) (hc : w.cell? a = some (.int .i32 1)) (hz : w.frozen? a = false) :
  CallsD Tryz.prog 161 #[.pointer (some a)] u w fun e u' w' => u' = u ∧ (e = .returned (.tuple #[]) ∧ w' = w.setCell a (.int .i32 0)) := by
 have hd := sDisable
 have he := sEnable
 have hr := sRelease
 have hadd := run_call_add (P := Tryz.prog) Tryz.func193 (by kernel_rfl) (by kernel_rfl) (by kernel_rfl) .i32 (by kernel_rfl) (y := -1) (s := 0) hc hz (by simp [go_sem]; rfl)
 have hcv := run_convert_to_unsafe (P := Tryz.prog) (src := 229) (dst := 104) uPMu uUP (by kernel_rfl) hc
 go_enter_d Tryz.func161, Tryz.ntmps161
 go_wp2
 go_end0
 go_wp2
 go_end0
 exact ⟨rfl, rfl⟩
theorem lock_free (a : Addr) (w : World) (hc : w.cell? a = some (.int .i32 0)) (hz : w.frozen? a = false) :
  Calls Tryz.prog 160 #[.pointer (some a)] w fun e w' => e = .returned (.tuple #[]) ∧ w' = w.setCell a (.int .i32 1) := by
 have hd := sDisable
 have he := sEnable
 have ha := sAcquire
 have hcas := run_call_cas_hit (P := Tryz.prog) Tryz.func188 (by kernel_rfl) (by kernel_rfl) (by kernel_rfl) .i32 (by kernel_rfl) (y := 1) hc hz
 have hc' : (w.setCell a (.int .i32 1)).cell? a = some (.int .i32 1) := World.cell?_setCell_same w a _ hc
 have hcv := run_convert_to_unsafe (P := Tryz.prog) (src := 229) (dst := 104) uPMu uUP (by kernel_rfl) hc'
 go_enter Tryz.func160, Tryz.ntmps160
 go_wp2
 first | go_end0 | (simp only [Exit.inBlock, Exit.then]; refine bodyPost_ret (results_none rfl _ _ _) rfl ?_) | refine bodyPost_ret (results_none rfl _ _ _) rfl ?_
 go_wp2
 go_end0
 exact ⟨rfl, rfl⟩
end Go.Ab

set_option maxRecDepth 100000
namespace Go.Ab
open Go Go.RowKit Go.Proofs
set_option maxHeartbeats 1600000 in
theorem slow_once (b : Nat) (w : World) (Q : World → Prop) (h0 : w.cell? ⟨b, 0, none⟩ = some (.int .u32 0)) (h1 : w.cell? ⟨b, 1, none⟩ = some (.int .i32 0)) (f1 : w.frozen? ⟨b, 1, none⟩ = false)
  (hb : Calls Tryz.prog 133 #[.pointer (some ⟨b, 0, none⟩)] (w.setCell ⟨b, 1, none⟩ (.int .i32 1)) fun e w' => e = .returned (.tuple #[]) ∧ Q w')
  (hQ : ∀ w', Q w' → w'.cell? ⟨b, 0, none⟩ = some (.int .u32 0) ∧ w'.cell? ⟨b, 1, none⟩ = some (.int .i32 1) ∧ w'.frozen? ⟨b, 0, none⟩ = false ∧ w'.frozen? ⟨b, 1, none⟩ = false) :
  Calls Tryz.prog 148 #[.pointer (some ⟨b, 0, none⟩), .func (.func 133) #[.pointer (some ⟨b, 0, none⟩)] #[]] w fun e w' => e = .returned (.tuple #[]) ∧
   ∃ w1, Q w1 ∧ w' = (w1.drew.setCell ⟨b, 0, none⟩ (.int .u32 1)).setCell ⟨b, 1, none⟩ (.int .i32 0) := by
 have hl := run_call_load (P := Tryz.prog) Tryz.func159 (by kernel_rfl) (by kernel_rfl) (by kernel_rfl) .u32 (by kernel_rfl) (w := w.setCell ⟨b, 1, none⟩ (.int .i32 1)) (a := ⟨b, 0, none⟩) (x := 0) ((World.cell?_setCell_other _ ⟨b, 1, none⟩ ⟨b, 0, none⟩ _ (by simp)).trans h0)
 have hnot : ∀ (x : Bool) (w : World), (Op.unary .not (.bool x)).run Tryz.prog w = .ok (.bool (!x)) w := fun _ _ => rfl
 go_enter_defers Tryz.func148, Tryz.ntmps148
 go_wp2_with (first | (go_at_call 160; refine (lock_free ⟨b, 1, none⟩ _ (by go_simp) (by go_simp)).mono ?_; rintro e w' ⟨rfl, rfl⟩) | (go_at_call 133; refine hb.mono ?_; rintro e w1 ⟨rfl, hq⟩) | (go_at_call 147; go_in))
 obtain ⟨q0, q1, z0, z1⟩ := hQ _ hq
 refine leaves_cons (f := 162) (args := #[.pointer (some ⟨b, 0, none⟩), .bool true]) (by simp) (by simp [go_sem]) ?_
 refine (store_deferred ⟨b, 0, none⟩ (.int .u32 0) .returning _ q0 z0).mono ?_
 rintro e u' w'' ⟨rfl, rfl, rfl⟩
 refine leaves_cons (f := 161) (args := #[.pointer (some ⟨b, 1, none⟩)]) (by simp [settle]) (by simp [go_sem]) ?_
 refine (unlock_deferred ⟨b, 1, none⟩ _ _ ?_ (by simp [z1])).mono ?_
 ·refine (World.cell?_setCell_other _ ⟨b, 0, none⟩ ⟨b, 1, none⟩ _ (by simp)).trans ?_
  rw [World.cell?_drew]
  exact q1
 rintro e u' w'' ⟨rfl, rfl, rfl⟩
 simp [Leaves, settle, results, Tryz.results148]
 exact ⟨_, hq, rfl⟩
end Go.Ab

set_option maxRecDepth 100000
namespace Go.Ab
open Go Go.RowKit Go.Proofs Go.Shelf
def escS (s : List UInt8) : List UInt8 := s.flatMap fun c => (repB c.toNat).getD [c]
def cntS (s : List UInt8) : Nat := (s.filter fun c => (repB c.toNat).isSome).length
theorem repB_len (c : Nat) (l : List UInt8) (h : repB c = some l) : l.length = 2 := by
 unfold repB at h
 cases h1 : Nat.beq c 10 <;> rw [h1] at h
 ·cases h2 : Nat.beq c 34 <;> rw [h2] at h
  ·cases h3 : Nat.beq c 92 <;> rw [h3] at h
   ·cases h
   ·cases h; rfl
  ·cases h; rfl
 ·cases h; rfl
theorem escS_len (s : List UInt8) : (escS s).length = s.length + cntS s := by
 induction s with
 | nil => rfl
 | cons c s ih =>
  have e1 : escS (c :: s) = (repB c.toNat).getD [c] ++ escS s := by simp [escS]
  have e2 : cntS (c :: s) = cntS s + if (repB c.toNat).isSome then 1 else 0 := by
   unfold cntS
   rw [List.filter_cons]
   split <;> simp
  rw [e1, List.length_append, ih, e2]
  cases hr : repB c.toNat with
  | none => simp; omega
  | some l => simp [repB_len _ _ hr]; omega
theorem escS_none (s : List UInt8) (h : cntS s = 0) : escS s = s := by
 induction s with
 | nil => rfl
 | cons c s ih =>
  unfold cntS at h
  rw [List.filter_cons] at h
  cases hr : repB c.toNat with
  | none =>
   rw [hr] at h
   simp only [Option.isSome_none, Bool.false_eq_true, if_false] at h
   have e1 : escS (c :: s) = (repB c.toNat).getD [c] ++ escS s := by simp [escS]
   rw [e1, hr, ih h]
   rfl
  | some l => rw [hr] at h; simp at h
theorem escS_append (a b : List UInt8) : escS (a ++ b) = escS a ++ escS b := by simp [escS]
theorem cntS_append (a b : List UInt8) : cntS (a ++ b) = cntS a + cntS b := by simp [cntS]
theorem hit_three (c : UInt8) : (if (repB c.toNat).isSome then 1 else 0) = (if c = 10 then 1 else 0) + (if c = 34 then 1 else 0) + if c = 92 then 1 else 0 := by
 by_cases h1 : c = 10
 ·subst h1; rfl
 by_cases h2 : c = 34
 ·subst h2; rfl
 by_cases h3 : c = 92
 ·subst h3; rfl
 have key : ∀ d : UInt8, c ≠ d → Nat.beq c.toNat d.toNat = false := fun d h => by
  cases hb : Nat.beq c.toNat d.toNat with
  | false => rfl
  | true => exact absurd (UInt8.toNat_inj.1 (Nat.eq_of_beq_eq_true hb)) h
 have k1 : Nat.beq c.toNat 10 = false := key 10 h1
 have k2 : Nat.beq c.toNat 34 = false := key 34 h2
 have k3 : Nat.beq c.toNat 92 = false := key 92 h3
 simp [repB, k1, k2, k3, h1, h2, h3]
theorem cntS_three (s : List UInt8) : Lib.countByte s 10 + Lib.countByte s 34 + Lib.countByte s 92 = cntS s := by
 induction s with
 | nil => rfl
 | cons c s ih =>
  have e2 : cntS (c :: s) = cntS s + if (repB c.toNat).isSome then 1 else 0 := by
   unfold cntS
   rw [List.filter_cons]
   split <;> simp
  rw [e2, ← ih, hit_three]
  simp only [Lib.countByte, List.count_cons, beq_iff_eq]
  omega
structure TabAt (w : World) (b : Nat) : Prop where
 no : ∀ c, c < 256 → repB c = none → w.cell? ⟨b, c, none⟩ = some (.slice none 0 0)
 yes : ∀ c l, repB c = some l → ∃ g o cap, w.cell? ⟨b, c, none⟩ = some (.slice (some ⟨g, o, none⟩) 2 cap) ∧ ∀ j x, l[j]? = some x → w.cell? ((⟨g, o, none⟩ : Addr).add j) = some (.int .u8 (x.toNat : Int))
 list : ∃ bt ot cap, w.cell? ⟨b, 256, none⟩ = some (.slice (some ⟨bt, ot, none⟩) 3 cap) ∧ w.cell? ⟨bt, ot, none⟩ = some (.string ⟨#[10]⟩) ∧ w.cell? ⟨bt, ot + 1, none⟩ = some (.string ⟨#[34]⟩) ∧ w.cell? ⟨bt, ot + 2, none⟩ = some (.string ⟨#[92]⟩)
def countRen : Go.Shelf.Ren := ⟨fun | 138 => 232 | 195 => 233 | 218 => 234 | 143 => 52 | 219 => 79 | 217 => 107 | 225 => 117 | 224 => 118 | 267 => 119 | 266 => 138 | 314 => 142 | n => n, fun | 9 => 9 | 3 => 3 | 4 => 4 | 5 => 5 | 0 => 0 | 46 => 125 | 146 => 162 | 51 => 148 | n => n, fun | 1 => 0 | n => n⟩
theorem countLays : Lays.n138 Tryz.prog countRen := by
 constructor
 all_goals first | kernel_rfl | (intro w; kernel_rfl) | skip
 all_goals constructor
 all_goals first | kernel_rfl | (intro w; kernel_rfl) | skip
 all_goals constructor
 all_goals first | kernel_rfl | (intro w; kernel_rfl)
theorem count_call (s : ByteArray) (c : UInt8) (w : World) : Calls Tryz.prog 232 #[.string s, .string ⟨#[c]⟩] w fun e w' => e = .returned (.int .i64 (Lib.countByte s.data.toList c)) ∧ w' = w := Any.strings_Count_one countLays s c w
end Go.Ab

set_option maxRecDepth 100000
namespace Go.Ab
open Go Go.RowKit Go.Proofs Go.Shelf Go.Lib
def tri3 : List UInt8 := [10, 34, 92]
def upTo (l : List UInt8) (k : Nat) : Nat := ((tri3.take k).map fun c => Lib.countByte l c).sum
theorem upTo_three (l : List UInt8) : upTo l 3 = cntS l := by rw [← cntS_three]; simp [upTo, tri3]; omega
structure Still (w wx : World) : Prop where
 heap : wx.heap = w.heap
 os : wx.os = w.os
 tape : wx.tape = w.tape
 output : wx.output = w.output
theorem Still.refl (w : World) : Still w w := ⟨rfl, rfl, rfl, rfl⟩
theorem Still.drew {w wx : World} (h : Still w wx) : Still w wx.drew := ⟨h.heap, h.os, h.tape, h.output⟩
theorem Still.below {w wx : World} (h : Still w wx) : Below w.heap.size w wx := ⟨h.os, h.tape, h.output, by rw [h.heap]; exact Nat.le_refl _, fun k _ => by rw [h.heap]⟩
theorem Still.cell {w wx : World} (h : Still w wx) {a : Addr} {v : Value} (hc : w.cell? a = some v) : wx.cell? a = some v := by
 unfold World.cell? at hc ⊢
 rw [h.heap]; exact hc
theorem upTo_le (l : List UInt8) (k : Nat) (hk : k ≤ 3) : upTo l k ≤ cntS l := by
 rw [← cntS_three]
 match k, hk with
 | 0, _ => simp [upTo, tri3]
 | 1, _ => simp [upTo, tri3]; omega
 | 2, _ => simp [upTo, tri3]
 | 3, _ => simp [upTo, tri3]; omega
theorem upTo_succ (l : List UInt8) (k : Nat) (x : UInt8) (h : tri3[k]? = some x) : upTo l (k + 1) = upTo l k + Lib.countByte l x := by
 unfold upTo
 rw [List.take_add_one, h]
 simp
theorem cntS_take (l : List UInt8) (i : Nat) (x : UInt8) (h : l[i]? = some x) : cntS (l.take (i + 1)) = cntS (l.take i) + if (repB x.toNat).isSome then 1 else 0 := by
 rw [List.take_add_one, h, cntS_append]
 congr 1
 unfold cntS
 simp only [Option.toList_some, List.filter_cons, List.filter_nil]
 split <;> simp
theorem cntS_le (l : List UInt8) : cntS l ≤ l.length := List.length_filter_le _ _
theorem buf_put {w0 wx : World} {h N : Nat} {acc : List UInt8} (x : UInt8) (hh : w0.heap.size ≤ h) (hb : Lib.Buf w0 wx h N acc) (hlt : acc.length < N) : Lib.Buf w0 (wx.setCell ⟨h, acc.length, none⟩ (.int .u8 (x.toNat : Int))) h N (acc ++ [x]) := by
 obtain ⟨b1, b2, b3, b4, b5⟩ := hb
 obtain ⟨v, hv⟩ := Option.isSome_iff_exists.1 (b2 acc.length hlt)
 have hsame : (wx.setCell ⟨h, acc.length, none⟩ (.int .u8 (x.toNat : Int))).cell? ⟨h, acc.length, none⟩ = some (.int .u8 (x.toNat : Int)) := World.cell?_setCell_same _ _ _ hv
 have hother : ∀ j, j ≠ acc.length → (wx.setCell ⟨h, acc.length, none⟩ (.int .u8 (x.toNat : Int))).cell? ⟨h, j, none⟩ = wx.cell? ⟨h, j, none⟩ := fun j hj => World.cell?_setCell_other _ _ _ _ (fun e => hj (Eq.symm (congrArg Addr.off e)))
 refine ⟨Below.setCell b1 (p := ⟨h, acc.length, none⟩) (Nat.le_refl _) _, fun j hj => ?_, fun j hj => ?_, fun j y hy => ?_, by simp; omega⟩
 ·by_cases hja : j = acc.length
  ·rw [hja, hsame]; rfl
  ·rw [hother j hja]; exact b2 j hj
 ·have := b3 j hj
  simpa using this
 ·by_cases hja : j = acc.length
  ·subst hja
   rw [List.getElem?_append_right (Nat.le_refl _)] at hy
   simp at hy
   rw [hsame, hy]
  ·rw [hother j hja]
   have hjl : j < acc.length := by
    have := (List.getElem?_eq_some_iff.1 hy).1
    simp at this; omega
   rw [List.getElem?_append_left hjl] at hy
   exact b4 j y hy
theorem escS_take (l : List UInt8) (k : Nat) (x : UInt8) (h : l[k]? = some x) : escS (l.take (k + 1)) = escS (l.take k) ++ (repB x.toNat).getD [x] := by
 rw [List.take_add_one, h, escS_append]
 simp [escS]
theorem cntS_take_le (l : List UInt8) (k : Nat) : cntS (l.take k) ≤ cntS l := by
 have := cntS_append (l.take k) (l.drop k)
 rw [List.take_append_drop] at this
 omega
theorem uBy : Tryz.prog.underlying 46 = some (.slice 5) := by kernel_rfl
theorem uBe : Tryz.prog.underlying 5 = some (.int .u8) := by kernel_rfl
theorem uBs : Tryz.prog.underlying 9 = some .string := by kernel_rfl
theorem iBy : (Tryz.prog.info? 5).map (fun i => (i.zero, i.size, i.bytes)) = some (some (.int .u8 0), 1, 1) := by kernel_rfl
theorem sBy : (Tryz.prog.info? 5).map (·.size) = some 1 := by kernel_rfl
theorem zBy : ∀ w, (Go.sizeOf 5).run Tryz.prog w = .ok 1 w := fun w => by kernel_rfl
set_option maxHeartbeats 8000000 in
theorem bsr_replace (s : ByteArray) (b : Nat) (w : World) (hs : s.size ≤ 1000000) (hT : TabAt w b) (hmix : True) :
  Calls Tryz.prog 230 #[.pointer (some ⟨b, 0, none⟩), .string s] w fun e w' => e = .returned (.string ⟨(escS s.data.toList).toArray⟩) ∧ Below w.heap.size w w' := by
 obtain ⟨l, hl⟩ : ∃ l, s.data.toList = l := ⟨_, rfl⟩
 have hsz : s.size = l.length := by rw [← hl]; exact Lib.size_eq s
 have HT : Aside (TabAt w b) := hT
 obtain ⟨bt, ot, capT, h256, hx0, hx1, hx2⟩ := hT.list
 clear hT
 have mixed := mixedO
 have hcnt := cntS_le l
 go_enter Tryz.func230, Tryz.ntmps230
 go_upto_if 26 with fail
 go_cut [5, 6] from 7 (fun s5 s6 wx => Still w wx ∧ s5 = .int .i64 ((l.length + cntS l : Nat) : Int) ∧ s6 = .bool (decide (0 < cntS l)))
 case first =>
  by_cases hbr0 : (24 : Int) ≤ (l.length : Int)
  ·have hbr := decide_eq_true hbr0
   rw [hbr]
   clear hbr0 hbr
   go_wp2_with fail
   go_loopg [5, 6, 32] 3 (fun g s5 s6 s32 wx => Still w wx ∧ ∃ k : Nat, k ≤ 3 ∧ g = 3 - k ∧ s32 = .int .i64 k ∧ s5 = .int .i64 ((l.length + upTo l k : Nat) : Int) ∧ s6 = .bool (decide (0 < upTo l k)))
   case atStart => exact ⟨Still.refl w, 0, Nat.zero_le _, rfl, rfl, by simp [upTo, tri3], by simp [upTo, tri3]⟩
   case round =>
    obtain ⟨hst, k, hk, rfl, rfl, rfl, rfl⟩ := hrel
    by_cases hk3 : k < 3
    ·obtain ⟨x, hx3, hxc⟩ : ∃ x : UInt8, tri3[k]? = some x ∧ w.cell? ⟨bt, ot + k, none⟩ = some (.string ⟨#[x]⟩) := by
      match k, hk3 with
      | 0, _ => exact ⟨10, rfl, hx0⟩
      | 1, _ => exact ⟨34, rfl, hx1⟩
      | 2, _ => exact ⟨92, rfl, hx2⟩
     obtain ⟨r, hr⟩ : ∃ r, repB x.toNat = some r := by
      match k, hk3 with
      | 0, _ => cases hx3; exact ⟨_, rfl⟩
      | 1, _ => cases hx3; exact ⟨_, rfl⟩
      | 2, _ => cases hx3; exact ⟨_, rfl⟩
     obtain ⟨gx, ox, cx, hcx, _⟩ := HT.out.yes _ _ hr
     have hxc := hst.cell hxc
     have hcx := hst.drew.cell hcx
     have hup := upTo_succ l k x hx3
     have hkz : (k : Int) < 3 := by omega
     have hx00 : ∀ h, (⟨#[x]⟩ : ByteArray)[0]'h = x := fun _ => rfl
     have hxz : (x.toNat : Int) < 256 := by have := x.toNat_lt; omega
     have hup3 : upTo l (k + 1) ≤ l.length := Nat.le_trans (upTo_le l (k + 1) (by omega)) hcnt
     have Hst : Aside (Still w wr) := hst
     clear hst
     generalize hn : Lib.countByte l x = n at hup
     by_cases hn0 : n = 0
     ·go_wp2_with (go_at_call 232; refine (count_call s x wr).mono ?_; rintro e w' ⟨rfl, rfl⟩; rw [hl, hn])
      go_roundg (3 - (k + 1))
      case measure => omega
      case rel => exact ⟨Hst.out, k + 1, by omega, rfl, by simp, by rw [hup, hn0]; simp, by rw [hup, hn0]; rfl⟩
     ·go_wp2_with (go_at_call 232; refine (count_call s x wr).mono ?_; rintro e w' ⟨rfl, rfl⟩; rw [hl, hn])
      go_region_o
      go_wp2
      go_roundg (3 - (k + 1))
      case measure => omega
      case rel => exact ⟨Hst.out.drew, k + 1, by omega, rfl, by simp, by rw [hup]; simp; omega, by rw [hup]; simp; first | done | omega⟩
    ·obtain rfl : k = 3 := by omega
     go_wp2
     go_meet
     exact ⟨hst, by rw [← upTo_three] <;> first | done | simp, by rw [← upTo_three]⟩
  ·have hbr := decide_eq_false hbr0
   rw [hbr]
   clear hbr0 hbr
   go_wp2_with fail
   go_loopg [5, 6, 10] l.length (fun g s5 s6 s10 wx => Still w wx ∧ ∃ k : Nat, k ≤ l.length ∧ g = l.length - k ∧ s10 = .int .i64 k ∧ s5 = .int .i64 ((l.length + cntS (l.take k) : Nat) : Int) ∧ s6 = .bool (decide (0 < cntS (l.take k))))
   case atStart => exact ⟨Still.refl w, 0, Nat.zero_le _, rfl, rfl, by simp [cntS], by simp [cntS]⟩
   case round =>
    obtain ⟨hst, k, hk, rfl, rfl, rfl, rfl⟩ := hrel
    by_cases hkn : k < l.length
    ·obtain ⟨x, hx⟩ : ∃ x : UInt8, s[k]'(by omega) = x := ⟨_, rfl⟩
     have hxl : l[k]? = some x := by have := Lib.data_getElem? s k (by omega); rw [hx, hl] at this; exact this
     have hup := cntS_take l k x hxl
     have hkz : (k : Int) < (l.length : Int) := by omega
     have hxz : (x.toNat : Int) < 256 := by have := x.toNat_lt; omega
     have hup3 : cntS (l.take (k + 1)) ≤ l.length := Nat.le_trans (cntS_le _) (by rw [List.length_take]; omega)
     have Hst : Aside (Still w wr) := hst
     have Hxl : Aside (l[k]? = some x) := hxl
     clear hxl
     cases hr : repB x.toNat with
     | none =>
      have hcx := hst.cell (HT.out.no x.toNat (by omega) hr)
      clear hst
      rw [hr] at hup
      go_wp2_with fail
      go_roundg (l.length - (k + 1))
      case measure => omega
      case rel => exact ⟨Hst.out, k + 1, by omega, rfl, by simp, by rw [hup]; simp, by rw [hup]; simp⟩
     | some r =>
      obtain ⟨gx, ox, cx, hcx, _⟩ := HT.out.yes _ _ hr
      have hcx := hst.cell hcx
      clear hst
      rw [hr] at hup
      go_wp2_with fail
      go_roundg (l.length - (k + 1))
      case measure => omega
      case rel => exact ⟨Hst.out, k + 1, by omega, rfl, by simp, by rw [hup]; simp <;> omega, by rw [hup]; simp⟩
    ·obtain rfl : k = l.length := by omega
     go_wp2
     go_meet
     exact ⟨hst, by first | rfl | simp, by first | rfl | simp⟩
 case rest =>
  obtain ⟨hst, rfl, rfl⟩ := hcut
  have hnot : ∀ (x : Bool) (w : World), (Op.unary .not (.bool x)).run Tryz.prog w = .ok (.bool (!x)) w := fun _ _ => rfl
  have hsl : s = ⟨l.toArray⟩ := by rw [← hl] <;> first | done | simp
  by_cases hz : cntS l = 0
  ·go_wp2_with fail
   go_ret
   refine ⟨?_, hst.below⟩
   rw [hl, escS_none l hz]
   exact congrArg (fun x => Ending.returned (Value.string x)) hsl
  ·obtain ⟨N, hN⟩ : ∃ N, l.length + cntS l = N := ⟨_, rfl⟩
   rw [hN]
   have hpos : decide (0 < cntS l) = true := decide_eq_true (by omega)
   rw [hpos]
   have hmk := run_make_row' (P := Tryz.prog) 46 5 (.int .u8 0) 1 uBy iBy rfl .i64 .i64 N (by omega) (by omega) wc
   have HB0 : Aside (Lib.Buf wc (wc.alloc (.cells (madeCells #[.int .u8 0] N) 5)) wc.heap.size N []) := Lib.Buf.start wc (madeCells #[.int .u8 0] N) 5 N 0 (by rw [size_madeCells]; exact Nat.le_refl _)
   have Hst : Aside (Still w wc) := hst
   have Hsl : Aside (s = ⟨l.toArray⟩) := hsl
   clear hst hsl h256 hx0 hx1 hx2
   go_wp2_with fail
   clear hmk
   go_loopg [13, 14] l.length (fun g s13 s14 wx => ∃ k : Nat, k ≤ l.length ∧ g = l.length - k ∧ s14 = .int .i64 k ∧ s13 = .int .i64 ((escS (l.take k)).length : Int) ∧ Aside (Lib.Buf wc wx wc.heap.size N (escS (l.take k))))
   case atStart => exact ⟨0, Nat.zero_le _, rfl, rfl, rfl, HB0⟩
   case round =>
    obtain ⟨k, hk, rfl, rfl, rfl, HB⟩ := hrel
    clear HB0
    by_cases hkn : k < l.length
    ·obtain ⟨x, hx⟩ : ∃ x : UInt8, s[k]'(by omega) = x := ⟨_, rfl⟩
     have hxl : l[k]? = some x := by have := Lib.data_getElem? s k (by omega); rw [hx, hl] at this; exact this
     have hes := escS_take l k x hxl
     have hln := escS_len (l.take (k + 1))
     have hcl := cntS_take_le l (k + 1)
     rw [List.length_take, Nat.min_eq_left (by omega)] at hln
     have hkz : (k : Int) < (l.length : Int) := by omega
     have hxz : (x.toNat : Int) < 256 := by have := x.toNat_lt; omega
     generalize hacc : escS (l.take k) = acc at hes HB ⊢
     have Hes : Aside (escS (l.take (k + 1)) = acc ++ (repB x.toNat).getD [x]) := hes
     rw [hes] at hln
     clear hes hxl hacc
     cases hr : repB x.toNat with
     | none =>
      rw [hr] at hln
      have hln : acc.length + 1 = k + 1 + cntS (l.take (k + 1)) := by simpa using hln
      have hlt : acc.length < N := by omega
      have hltz : (acc.length : Int) < (N : Int) := by omega
      have hcx := HB.out.below.cell (p := ⟨b, x.toNat, none⟩) (World.block_lt_of_cell? wc _ (Hst.out.cell (HT.out.no x.toNat (by omega) hr)))
      rw [Hst.out.cell (HT.out.no x.toNat (by omega) hr)] at hcx
      obtain ⟨v0, hv0⟩ := Option.isSome_iff_exists.1 (HB.out.there acc.length hlt)
      have hf0 := HB.out.free acc.length hlt
      have HB' : Aside (Lib.Buf wc (wr.setCell ⟨wc.heap.size, acc.length, none⟩ (.int .u8 (x.toNat : Int))) wc.heap.size N (acc ++ [x])) := buf_put x (Nat.le_refl _) HB.out hlt
      go_wp2_with fail
      go_roundg (l.length - (k + 1))
      case measure => omega
      case rel =>
       have e := Hes.out
       rw [hr] at e
       refine ⟨k + 1, by omega, rfl, by simp, by rw [e]; simp, by rw [e]; exact HB'⟩
     | some r =>
      obtain ⟨gx, ox, cx, hcx0, hrow⟩ := HT.out.yes _ _ hr
      have hr2 := repB_len _ _ hr
      rw [hr] at hln
      have hln : acc.length + 2 = k + 1 + cntS (l.take (k + 1)) := by simpa [hr2] using hln
      have hcx := HB.out.below.cell (p := ⟨b, x.toNat, none⟩) (World.block_lt_of_cell? wc _ (Hst.out.cell hcx0))
      rw [Hst.out.cell hcx0] at hcx
      have hcxd : wr.drew.cell? ⟨b, x.toNat, none⟩ = some (.slice (some ⟨gx, ox, none⟩) 2 cx) := hcx
      have hslc : ∀ W, (Instr.slice 46 (.slice (some ⟨wc.heap.size, 0, none⟩) N N) (some (.int .i64 (acc.length : Int))) none none).run Tryz.prog W = .ok (Lib.tailV wc.heap.size N acc.length) W := fun W => Lib.run_slice_tailV W 46 5 uBy zBy _ N acc.length (by omega)
      have hBd : Lib.Buf wc wr.drew wc.heap.size N acc := ⟨HB.out.below.drew, HB.out.there, HB.out.free, HB.out.holds, HB.out.fits⟩
      obtain ⟨wr', hcp, hB2⟩ := Lib.copy_part (P := Tryz.prog) wc wr.drew wc.heap.size N acc r (.slice (some ⟨gx, ox, none⟩) 2 cx) 46 3 5 uBy sBy (Nat.le_refl _) hBd ⟨some ⟨gx, ox, none⟩, cx, by rw [hr2], (fun e => by cases e), (fun a e i y hy => by cases e; exact Hst.out.cell (hrow i y hy))⟩ (by omega)
      rw [hr2] at hcp
      have HB' : Aside (Lib.Buf wc wr' wc.heap.size N (acc ++ r)) := hB2
      clear hB2 hBd hrow
      go_wp2_with fail
      go_region_o
      go_wp2_with fail
      go_roundg (l.length - (k + 1))
      case measure => omega
      case rel =>
       have e := Hes.out
       rw [hr] at e
       refine ⟨k + 1, by omega, rfl, by simp, by rw [e]; simp [hr2], by rw [e]; exact HB'⟩
    ·obtain rfl : k = l.length := by omega
     rw [List.take_length] at HB ⊢
     have hle := escS_len l
     have hNN : (escS l).length = N := by omega
     have hconv : (convert 46 9 (.slice (some ⟨wc.heap.size, 0, none⟩) N N)).run Tryz.prog wr = .ok (.string ⟨(escS l).toArray⟩) wr := by
      have := Lib.run_convert_whole (P := Tryz.prog) wr 46 5 9 uBy uBe uBs wc.heap.size 0 ⟨(escS l).toArray⟩ (fun i hi => by
       rw [Nat.zero_add]
       refine HB.out.holds i _ ?_
       have hi' : i < (escS l).length := by simpa [ByteArray.size] using hi
       rw [List.getElem?_eq_getElem hi']
       rfl) N
      rw [show (ByteArray.mk (escS l).toArray).size = N by simp [ByteArray.size]; exact hNN] at this
      exact this
     have HBb : Aside (Below wc.heap.size wc wr) := HB.out.below
     have Hhe : Aside (wc.heap.size = w.heap.size) := by show wc.heap.size = w.heap.size; rw [Hst.out.heap]
     clear HB
     go_wp2_with fail
     go_ret
     refine ⟨by rw [hl]; rfl, ?_⟩
     have h1 := HBb.out
     rw [Hhe.out] at h1
     exact Hst.out.below.trans h1
end Go.Ab

set_option maxRecDepth 100000
namespace Go.Ab
open Go Go.RowKit Go.Proofs Go.Shelf Go.Lib
abbrev aft (b : Nat) (w : World) : World := (w.drew.setCell ⟨b, 0, none⟩ (.int .u32 1)).setCell ⟨b, 1, none⟩ (.int .i32 0)
set_option maxHeartbeats 1600000 in
theorem do_once (b : Nat) (w : World) (Q : World → Prop) (h0 : w.cell? ⟨b, 0, none⟩ = some (.int .u32 0)) (h1 : w.cell? ⟨b, 1, none⟩ = some (.int .i32 0)) (f1 : w.frozen? ⟨b, 1, none⟩ = false)
  (hb : Calls Tryz.prog 133 #[.pointer (some ⟨b, 0, none⟩)] (w.setCell ⟨b, 1, none⟩ (.int .i32 1)) fun e w' => e = .returned (.tuple #[]) ∧ Q w')
  (hQ : ∀ w', Q w' → w'.cell? ⟨b, 0, none⟩ = some (.int .u32 0) ∧ w'.cell? ⟨b, 1, none⟩ = some (.int .i32 1) ∧ w'.frozen? ⟨b, 0, none⟩ = false ∧ w'.frozen? ⟨b, 1, none⟩ = false) :
  Calls Tryz.prog 132 #[.pointer (some ⟨b, 0, none⟩), .func (.func 133) #[.pointer (some ⟨b, 0, none⟩)] #[]] w fun e w' => e = .returned (.tuple #[]) ∧ ∃ w1, Q w1 ∧ w' = aft b w1 := by
 have hl := run_call_load (P := Tryz.prog) Tryz.func159 (by kernel_rfl) (by kernel_rfl) (by kernel_rfl) .u32 (by kernel_rfl) h0
 have hnot : ∀ (x : Bool) (w : World), (Op.unary .not (.bool x)).run Tryz.prog w = .ok (.bool (!x)) w := fun _ _ => rfl
 go_enter Tryz.func132, Tryz.ntmps132
 go_wp2_with (first | (go_at_call 148; refine (slow_once b w Q h0 h1 f1 hb hQ).mono ?_; rintro e w' ⟨rfl, w1, hq, rfl⟩) | (go_at_call 147; go_in))
 go_end0
 exact ⟨rfl, w1, hq, rfl⟩
set_option maxHeartbeats 1600000 in
theorem replace_walk (b : Nat) (s : ByteArray) (w : World) (Q : World → Prop) (hs : s.size ≤ 1000000) (h0 : w.cell? ⟨b, 0, none⟩ = some (.int .u32 0)) (h1 : w.cell? ⟨b, 1, none⟩ = some (.int .i32 0)) (f1 : w.frozen? ⟨b, 1, none⟩ = false)
  (hb : Calls Tryz.prog 133 #[.pointer (some ⟨b, 0, none⟩)] (w.setCell ⟨b, 1, none⟩ (.int .i32 1)) fun e w' => e = .returned (.tuple #[]) ∧ Q w')
  (hQ : ∀ w', Q w' → w'.cell? ⟨b, 0, none⟩ = some (.int .u32 0) ∧ w'.cell? ⟨b, 1, none⟩ = some (.int .i32 1) ∧ w'.frozen? ⟨b, 0, none⟩ = false ∧ w'.frozen? ⟨b, 1, none⟩ = false)
  (hR : ∀ w', Q w' → ∃ b2, (aft b w').cell? ⟨b, 3, none⟩ = some (.iface 198 (.pointer (some ⟨b2, 0, none⟩))) ∧ TabAt (aft b w') b2) :
  Calls Tryz.prog 100 #[.pointer (some ⟨b, 0, none⟩), .string s] w fun e w' => e = .returned (.string ⟨(escS s.data.toList).toArray⟩) ∧ ∃ w1, Q w1 ∧ Below (aft b w1).heap.size (aft b w1) w' := by
 have hmf : ∀ (fn : Fn) (first cap : Array Value) (w : World), (Instr.makeFunc fn first cap).run Tryz.prog w = .ok (.func fn first cap) w := fun _ _ _ _ => rfl
 go_enter Tryz.func100, Tryz.ntmps100
 go_upto_region 2 with (go_at_call 132; refine (do_once b w Q h0 h1 f1 hb hQ).mono ?_; rintro e w' ⟨rfl, w1, hq, rfl⟩)
 obtain ⟨b2, hc3, hT⟩ := hR w1 hq
 have hm : ∀ W : World, (method 373 198 (.pointer (some ⟨b2, 0, none⟩)) "Replace").run Tryz.prog W = .ok (230, .pointer (some ⟨b2, 0, none⟩)) W := fun _ => by kernel_rfl
 go_wp2_with (go_at_call 230; refine (bsr_replace s b2 _ hs hT trivial).mono ?_; rintro e w' ⟨rfl, hbl⟩)
 go_ret
 exact ⟨rfl, w1, hq, hbl⟩
end Go.Ab

set_option maxRecDepth 100000
namespace Go.Ab
open Go Go.RowKit Go.Proofs
theorem tabCs_at (c : Nat) (h : c < 256) : tabCs[c]? = some (tabAV c) := by
 unfold tabCs
 rw [List.getElem?_append_left (by simp; exact h), List.getElem?_map, List.getElem?_range h]
 rfl
theorem tabCs_last : tabCs[256]? = some (.gs 3 5 .str 3) := by
 unfold tabCs
 rw [List.getElem?_append_right (by simp)]
 simp
theorem repB_lt (c : Nat) (l : List UInt8) (h : repB c = some l) : c < 256 := by
 unfold repB at h
 cases h1 : Nat.beq c 10 <;> rw [h1] at h
 ·cases h2 : Nat.beq c 34 <;> rw [h2] at h
  ·cases h3 : Nat.beq c 92 <;> rw [h3] at h
   ·cases h
   ·have := Nat.eq_of_beq_eq_true h3; omega
  ·have := Nat.eq_of_beq_eq_true h2; omega
 ·have := Nat.eq_of_beq_eq_true h1; omega
theorem relL_at {kn : Kn} {m : Mp} {cs : List AV} {arr : Array Value} (h : RelL kn m cs arr.toList) {i : Nat} {x : AV} (hx : cs[i]? = some x) : ∃ v, arr[i]? = some v ∧ Rel kn m x v := by
 have hi := (List.getElem?_eq_some_iff.1 hx).1
 have hi' : i < arr.size := by have := h.1; simp at this; omega
 exact ⟨arr[i], Array.getElem?_eq_getElem hi', h.2 i x _ hx (by simp [hi'])⟩
theorem tabAt_of {kn : Kn} {m : Mp} {w : World} (hk : ∀ b o v, kn b o = some v → w.cell? ⟨b, o, none⟩ = some v) {b : Nat} {arr : Array Value} {T : TypeId} (hw : w.heap[b]? = some (.cells arr T (0, 0))) (hr : RelL kn m tabCs arr.toList)
  {P : Program} {B : Base} {ty : TypeId} (h5 : ObjRel P B kn m w 5 (.tg .str ty [[10], [34], [92]])) : TabAt w b := by
 refine ⟨fun c hc hn => ?_, fun c l hl => ?_, ?_⟩
 ·obtain ⟨v, hv, hrel⟩ := relL_at hr (tabCs_at c hc)
  unfold tabAV at hrel
  rw [hn] at hrel
  have hrel : Rel kn m (.base (.slice none 0 0)) v := hrel
  cases hrel
  rw [Lib.cell_of_heap hw, hv]
 ·obtain ⟨v, hv, hrel⟩ := relL_at hr (tabCs_at c (repB_lt c l hl))
  unfold tabAV at hrel
  rw [hl] at hrel
  have hrel : Rel kn m (.tvec (.int .u8) (intsOf l)) v := hrel
  have hrel := rel_tvec.1 hrel
  have h2 := repB_len c l hl
  have hrows : (List.map (E.row (.int .u8)) (intsOf l)).length = 2 := by rw [rowsU8_len]; unfold intsOf; rw [List.length_map]; exact h2
  have hget : ∀ (j : Nat) (x : UInt8), l[j]? = some x → (List.map (E.row (.int .u8)) (intsOf l))[j]? = some [.int .u8 (x.toNat : Int)] := fun j x hx => by
   refine rowsU8_get (intsOf l) ?_
   unfold intsOf
   rw [List.getElem?_map, hx]
   rfl
  generalize List.map (E.row (.int .u8)) (intsOf l) = rows at hrel hrows hget
  have hrel : Rel kn m (.vec 1 rows) v := hrel
  cases hrel with
  | vecNil => simp at hrows
  | vecNone => simp at hrows
  | vec _ _ g o cap vals hc hm hrow hkk h h1 =>
   refine ⟨g, o, cap, by rw [Lib.cell_of_heap hw, hv, hrows], fun j x hx => ?_⟩
   have hj := hget j x hx
   have h3 := hkk j _ 0 _ hj rfl
   have h4 := h j _ 0 _ hj rfl
   generalize vals j 0 = u at h3 h4
   cases h4
   rw [addr_add]
   have := hk _ _ _ h3
   simpa using this
 ·obtain ⟨v, hv, hrel⟩ := relL_at hr tabCs_last
  obtain ⟨loc, hm, hlen, hgv⟩ := (show GvRel kn m w 5 1 ty (List.map (E.row .str) [[10], [34], [92]]) from h5)
  cases hrel with
  | gs _ _ _ _ _ locy hy hly hsl =>
   have hsl : Rel kn m (.sref 3 5 1 0 3) v := hsl
   generalize hn : (3 : Nat) = n at hsl
   cases hsl with
   | srefNil => cases hn
   | sref _ _ _ _ _ locz hz hznil hze hzl hzm =>
    subst hn
    rw [hm] at hz; cases hz
    rcases hgv with ⟨hnil, _⟩ | ⟨_, hesz, arr1, hw1, hsz, hcap, hmax, hone1, hrow, hrel1⟩
    ·rw [hnil] at hznil; cases hznil
    have hcell : ∀ (j : Nat) (x : List UInt8), [[10], [34], [92]][j]? = some x → w.cell? ⟨loc.blk, loc.off + j, none⟩ = some (.string ⟨x.toArray⟩) := fun j x hx => by
     have hj : (List.map (E.row .str) [[10], [34], [92]])[j]? = some [.str x] := by
      rw [List.getElem?_map]
      have hx' : ([[10], [34], [92]] : List (E.den .str))[j]? = some x := hx
      rw [hx']
      rfl
     have hjl : j < 3 := (List.getElem?_eq_some_iff.1 hx).1
     have hin : loc.off + j < arr1.size := by simp at hcap hsz; omega
     have hrv := hrel1 j [.str x] 0 (.str x) arr1[loc.off + j] hj rfl (by rw [Nat.mul_one, Nat.add_zero]; exact Array.getElem?_eq_getElem hin)
     rw [Lib.cell_of_heap hw1, Array.getElem?_eq_getElem hin]
     generalize arr1[loc.off + j] = u at hrv
     cases hrv
     rfl
    refine ⟨loc.blk, loc.off, loc.cap, ?_, hcell 0 [10] rfl, hcell 1 [34] rfl, hcell 2 [92] rfl⟩
    rw [Lib.cell_of_heap hw, hv]
    simp
end Go.Ab

set_option maxRecDepth 100000
namespace Go.Ab
open Go Go.RowKit Go.Proofs
theorem Inv.put {C : Cx} {B : Base} {kn : Kn} {m : Mp} {σ : Sto} {nx : Nat} {w : World} (hI : Inv C B kn m σ nx w) {p nm : Nat} {T : TypeId} {cs : List AV} {loc : Loc} (hp : σ[p]? = some (nm, .cells T cs)) (hm : m nm = some loc) (i : Nat) {x : AV} {v : Value} (hv : Rel kn m x v) (h1 : v.oneCell' = true) :
  Inv C B kn m (σ.set p (nm, .cells T (cs.set i x))) nx (w.setCell ⟨loc.blk, i, none⟩ v) := by
 have hob := hI.obj p nm _ hp
 simp only [ObjRel, hm] at hob
 obtain ⟨hnl, h0, arr, hw, hrl, hone⟩ := hob
 refine (hI.write (w' := w.setCell ⟨loc.blk, i, none⟩ v) (ob' := .cells T (cs.set i x)) hp trivial hm hnl (by simp [World.setCell]) rfl rfl rfl (fun b hb => Below.heap_setCell _ _ _ _ hb) ?_).1
 simp only [ObjRel, hm]
 refine ⟨hnl, h0, arr.setIfInBounds i v, by simp [World.setCell, Array.getElem?_modify, hw], ⟨by simp [hrl.1], fun j y u hy hu => ?_⟩, fun u hu => ?_⟩
 ·rw [Array.toList_setIfInBounds, List.getElem?_set] at hu
  rw [List.getElem?_set] at hy
  split at hy
  ·rename_i hij
   rw [if_pos hij] at hu
   split at hy
   ·split at hu
    ·cases hy; cases hu; exact hv
    ·cases hu
   ·cases hy
  ·rename_i hij
   rw [if_neg hij] at hu
   exact hrl.2 j y u hy hu
 ·rw [Array.toList_setIfInBounds] at hu
  rcases List.mem_or_eq_of_mem_set hu with h | rfl
  ·exact hone u h
  ·exact h1
theorem Inv.forgetAll {C : Cx} {B : Base} {kn : Kn} {m : Mp} {σ : Sto} {nx : Nat} {w w' : World} {g : Nat} (k : Nat) (h : Inv C B kn m σ nx w) (hs : Same w w' g) (hg : (B.w.heap.size ≤ g ∨ B.own g) ∧ ∀ o, kn g o = none) : Inv C B kn (fun n => if n < k then m n else none) [] k w' := by
 obtain ⟨h1, h2, h3, h4, h5⟩ := hs
 refine ⟨fun b o v e => ?_, Nat.le_trans h.size h1, h2.trans h.os, h3.trans h.tape, h4.trans h.output, fun b hb hob => ?_, fun p nm ob e => by simp at e, fun p nm ob loc e => by simp at e, fun p nm ob loc p' nm' ob' loc' e => by simp at e, fun n q => if_neg (by omega), fun p nm ob e => by simp at e, fun p p' nm ob ob' e => by simp at e, fun p p' nm nm' ob ob' e => by simp at e, fun g => (h.glob g).rf (C.rf g) _, h.tab⟩
 ·have hlt := h.kn_lt e
  have hne : b ≠ g := fun q => by rw [q, hg.2 o] at e; cases e
  have := h.knok b o v e
  unfold World.cell? at this ⊢
  rw [h5 b hlt hne]; exact this
 ·have hlt := Nat.lt_of_lt_of_le hb h.size
  have hne : b ≠ g := fun q => by
   subst q
   rcases hg.1 with q | q
   ·omega
   ·exact hob q
  exact ⟨(h5 b hlt hne).trans (h.old b hb hob).1, (h.old b hb hob).2⟩
theorem does_calls {P : Program} {g : FuncId} {vs : Array Value} {w : World} {post : Ending → World → Prop} (hb : bodyOK P g = true) (h : Does P g vs w post) : Calls P g vs w post := by
 rcases h with ⟨_, h⟩ | ⟨u, w', h1, _⟩
 ·exact h
 ·rw [calls_of_bodyOK hb vs w] at h1; cases h1
theorem cells_obj {C : Cx} {B : Base} {kn : Kn} {m : Mp} {σ : Sto} {nx : Nat} {w : World} (hI : Inv C B kn m σ nx w) {p nm : Nat} {T : TypeId} {cs : List AV} {loc : Loc} (hp : σ[p]? = some (nm, .cells T cs)) (hm : m nm = some loc) :
  loc.nil = false ∧ loc.off = 0 ∧ ∃ arr, w.heap[loc.blk]? = some (.cells arr T (0, 0)) ∧ RelL kn m cs arr.toList := by
 have hob := hI.obj p nm _ hp
 simp only [ObjRel, hm] at hob
 obtain ⟨hnl, h0, arr, hw, hrl, hone⟩ := hob
 exact ⟨hnl, h0, arr, hw, hrl⟩
theorem cells_at {C : Cx} {B : Base} {kn : Kn} {m : Mp} {σ : Sto} {nx : Nat} {w : World} (hI : Inv C B kn m σ nx w) {p nm : Nat} {T : TypeId} {cs : List AV} {loc : Loc} (hp : σ[p]? = some (nm, .cells T cs)) (hm : m nm = some loc) {i : Nat} {x : AV} (hx : cs[i]? = some x) :
  ∃ v, w.cell? ⟨loc.blk, i, none⟩ = some v ∧ Rel kn m x v ∧ w.frozen? ⟨loc.blk, i, none⟩ = false := by
 obtain ⟨_, _, arr, hw, hrl⟩ := cells_obj hI hp hm
 obtain ⟨v, hv, hr⟩ := relL_at hrl hx
 exact ⟨v, by rw [Lib.cell_of_heap hw, hv], hr, Lib.frozen_of_heap hw i⟩
def replF (o0 : Int × Int × Int × Unit × Unit × Unit) (o1 : List (List UInt8)) (s : List UInt8) : Option (List UInt8 × Unit) := if o0.1 = 0 ∧ o0.2.1 = 0 ∧ o1 = old6 ∧ s.length ≤ 1000000 then some (escS s, ()) else none
def S_replace : Sig := .o ⟨repO false, [.ref 0 0, .d .str], [], .d .str, fun x => replF x.2.1 x.2.2.1 x.1.2.1⟩
attribute [local irreducible] F_once F_build
theorem once_ok : OOK CX 133 ⟨repO false, [.ref 0 0], oncePost, .tup [], F_once⟩ := S_once_ok
theorem replace_over (c : Int) (s : List UInt8) (hs : s.length ≤ 1000000) (B : Base) (kn : Kn) (m : Mp) (w : World) (vs : List Value) (hI : Inv CX B kn m (osto 0 (repO false) (x6 0 0 c)) 2 w)
  (hlay : ∀ i, i < 2 → ∃ loc, m i = some loc) (hargs : RelL kn m [.ref 0 0 0, .str s] vs) : Does CX.P 100 vs.toArray w fun e w' => ∃ kn' m', KnLe kn kn' ∧ Inv CX B kn' m' [] 2 w' ∧ (∀ i, i < 2 → m' i = m i) ∧ RelOut kn' m' (.ret (.str (escS s))) e := by
 obtain ⟨loc, hm⟩ := hlay 0 (by decide)
 have hp : (osto 0 (repO false) (x6 0 0 c))[0]? = some (0, .cells 160 [.int .u32 0, .int .i32 0, .int .u32 c, .base .nilIface, .gs 1 1 .str 6]) := rfl
 obtain ⟨hnl, h0, _⟩ := cells_obj hI hp hm
 obtain ⟨v0, c0, r0, f0⟩ := cells_at hI hp hm (i := 0) rfl
 obtain ⟨v1, c1, r1, f1⟩ := cells_at hI hp hm (i := 1) rfl
 cases r0
 cases r1
 obtain ⟨va, vs1, rfl, hra, hargs⟩ := RelL.uncons hargs
 obtain ⟨vb, vs2, rfl, hrb, hargs⟩ := RelL.uncons hargs
 have : vs2 = [] := List.eq_nil_of_length_eq_zero hargs.1.symm
 subst this
 cases hrb
 have hra' := hra
 cases hra with
 | ref _ _ _ loc' hm' =>
  rw [hm] at hm'; cases hm'
  rw [h0] at hra' ⊢
  have hI1 : Inv CX B kn m (osto 0 (repO false) (x6 0 1 c)) 2 (w.setCell ⟨loc.blk, 1, none⟩ (.int .i32 1)) := hI.put hp hm 1 (x := .int .i32 1) (.int .i32 1) rfl
  obtain ⟨r', hF, hsto⟩ : ∃ r', F_once (((), ()), x6 0 1 c) = some r' ∧ osto 2 oncePost r'.2 = onceSto 0 1 c := by
   have := F_once_is 0 1 c
   obtain ⟨r', h1, h2⟩ := Option.map_eq_some_iff.1 this
   exact ⟨r', h1, h2⟩
  have hD := once_ok.2 (((), ()), x6 0 1 c) r' hF B kn m _ [.pointer (some ⟨loc.blk, 0, none⟩)] hI1 hlay (.cons hra' (.nil _ _))
  let Q : World → Prop := fun w' => ∃ kn' m', KnLe kn kn' ∧ Inv CX B kn' m' (onceSto 0 1 c) 6 w' ∧ (∀ i, i < 2 → m' i = m i) ∧ ∃ loc4, m' 4 = some loc4
  have hb : Calls Tryz.prog 133 #[.pointer (some ⟨loc.blk, 0, none⟩)] (w.setCell ⟨loc.blk, 1, none⟩ (.int .i32 1)) fun e w' => e = .returned (.tuple #[]) ∧ Q w' := by
   refine (does_calls (by kernel_rfl) hD).mono fun e w' ⟨kn', m', k1, k2, k3, k4, k5⟩ => ?_
   have k2 : Inv CX B kn' m' (osto 2 oncePost r'.2) 6 w' := k2
   rw [hsto] at k2
   obtain ⟨loc4, h4⟩ := k4 2 (by show 2 < 4; omega)
   refine ⟨?_, kn', m', k1, k2, k3, loc4, h4⟩
   have k5 : RelOut kn' m' (.ret (.tup [])) e := k5
   cases e with
   | returned u =>
    cases k5 with
    | tup _ vs hl _ =>
     have : vs = #[] := Array.eq_empty_of_size_eq_zero (by simpa using hl.symm)
     rw [this]
   | _ => exact k5.elim
  have hq0 : (onceSto 0 1 c)[0]? = some (0, .cells 160 [.int .u32 0, .int .i32 1, .int .u32 c, .iface 198 (.ref 2 4 0), .base (.slice none 0 0)]) := rfl
  have hQ : ∀ w', Q w' → w'.cell? ⟨loc.blk, 0, none⟩ = some (.int .u32 0) ∧ w'.cell? ⟨loc.blk, 1, none⟩ = some (.int .i32 1) ∧ w'.frozen? ⟨loc.blk, 0, none⟩ = false ∧ w'.frozen? ⟨loc.blk, 1, none⟩ = false := by
   rintro w' ⟨kn', m', k1, k2, km, _⟩
   have k3 := (km 0 (by omega)).trans hm
   obtain ⟨y0, d0, s0, g0⟩ := cells_at k2 hq0 k3 (i := 0) rfl
   obtain ⟨y1, d1, s1, g1⟩ := cells_at k2 hq0 k3 (i := 1) rfl
   cases s0
   cases s1
   exact ⟨d0, d1, g0, g1⟩
  have hR : ∀ w', Q w' → ∃ b2, (aft loc.blk w').cell? ⟨loc.blk, 3, none⟩ = some (.iface 198 (.pointer (some ⟨b2, 0, none⟩))) ∧ TabAt (aft loc.blk w') b2 := by
   rintro w' ⟨kn', m', k1, k2, km, loc4, k4⟩
   have k3 := (km 0 (by omega)).trans hm
   have j1 := k2.drew.put hq0 k3 0 (x := .int .u32 1) (.int .u32 1) rfl
   have hq1 : ((onceSto 0 1 c).set 0 (0, .cells 160 ([AV.int .u32 0, .int .i32 1, .int .u32 c, .iface 198 (.ref 2 4 0), .base (.slice none 0 0)].set 0 (.int .u32 1))))[0]? = some (0, .cells 160 ([AV.int .u32 0, .int .i32 1, .int .u32 c, .iface 198 (.ref 2 4 0), .base (.slice none 0 0)].set 0 (.int .u32 1))) := rfl
   have j2 := j1.put hq1 k3 1 (x := .int .i32 0) (.int .i32 0) rfl
   have j2 : Inv CX B kn' m' [(0, .cells 160 [.int .u32 1, .int .i32 0, .int .u32 c, .iface 198 (.ref 2 4 0), .base (.slice none 0 0)]), (1, .tg .str 9 old6), (4, .cells 197 tabCs), (5, .tg .str 9 [[10], [34], [92]])] 6 (aft loc.blk w') := j2
   obtain ⟨y3, d3, s3, g3⟩ := cells_at (p := 0) (nm := 0) j2 rfl k3 (i := 3) rfl
   obtain ⟨_, o4, arr4, hw4, hr4⟩ := cells_obj (p := 2) (nm := 4) j2 rfl k4
   have h5 := j2.obj 3 5 _ rfl
   cases s3 with
   | iface _ _ v hv =>
    cases hv with
    | ref _ _ _ locx hmx =>
     rw [k4] at hmx; cases hmx
     rw [o4] at d3
     exact ⟨loc4.blk, d3, tabAt_of j2.knok hw4 hr4 h5⟩
  refine .inl ⟨by kernel_rfl, ?_⟩
  refine (replace_walk loc.blk ⟨s.toArray⟩ w Q (by simpa [ByteArray.size] using hs) c0 c1 f1 hb hQ hR).mono ?_
  rintro e w' ⟨rfl, w2, ⟨kn', m', k1, k2, km, _⟩, hbl⟩
  have k3 := (km 0 (by omega)).trans hm
  obtain ⟨q1, q2, q3⟩ := k2.own 0 0 _ loc hq0 trivial k3 hnl
  obtain ⟨e1, e2, e3, e4, e5⟩ := hbl
  have hsz : (aft loc.blk w2).heap.size = w2.heap.size := by simp [aft, World.setCell]
  refine ⟨kn', _, k1, k2.forgetAll 2 (g := loc.blk) ⟨by rw [← hsz]; exact e4, e1, e2, e3, fun b hb hne => ?_⟩ ⟨q2, q3 rfl⟩, fun i hi => ?_, ?_⟩
  ·rw [e5 b (by rw [hsz]; exact hb)]
   show ((w2.drew.setCell ⟨loc.blk, 0, none⟩ (.int .u32 1)).setCell ⟨loc.blk, 1, none⟩ (.int .i32 0)).heap[b]? = _
   rw [Below.heap_setCell _ _ _ _ hne, Below.heap_setCell _ _ _ _ hne]
   rfl
  ·exact (if_pos hi).trans (km i hi)
  ·have : (ByteArray.mk s.toArray).data.toList = s := by simp
   rw [this]
   exact .str _
theorem S_replace_ok : SigOK CX 100 S_replace := by
 refine ⟨by kernel_rfl, fun x r hr B kn m w vs hI hlay hargs => ?_⟩
 have gen : ∀ (a b c : Int) (old : List (List UInt8)) (s : List UInt8) (r : List UInt8 × Unit), replF (a, b, c, (), (), ()) old s = some r → Inv CX B kn m (osto 0 (repO false) ((a, b, c, (), (), ()), old, ())) 2 w → RelL kn m [.ref 0 0 0, .str s] vs →
   Does CX.P 100 vs.toArray w fun e w' => ∃ kn' m', KnLe kn kn' ∧ Inv CX B kn' m' [] 2 w' ∧ (∀ i, i < 2 → m' i = m i) ∧ RelOut kn' m' (.ret (.str r.1)) e := fun a b c old s r hr hI hargs => by
  unfold replF at hr
  by_cases hc : a = 0 ∧ b = 0 ∧ old = old6 ∧ s.length ≤ 1000000
  ·rw [if_pos hc] at hr
   obtain ⟨ha, hb, ho, hs⟩ := hc
   subst ha hb ho
   cases hr
   exact replace_over c s hs B kn m w vs hI hlay hargs
  ·rw [if_neg hc] at hr; cases hr
 exact (gen x.2.1.1 x.2.1.2.1 x.2.1.2.2.1 x.2.2.1 x.1.2.1 r hr hI hargs).mono fun e w' ⟨kn', m', h1, h2, h3, h4⟩ => ⟨kn', m', h1, h2, h3, fun j hj => absurd hj (by show ¬ j < 0; omega), h4⟩
end Go.Ab

set_option maxRecDepth 100000
namespace Go.Ab
open Go Go.RowKit Go.Proofs Go.Shelf
def atoiRen : Go.Shelf.Ren := ⟨fun | 172 => 143 | 244 => 153 | 245 => 154 | 247 => 166 | 279 => 167 | 280 => 168 | 281 => 169 | 282 => 170 | 287 => 182 | 316 => 183 | 171 => 98 | 205 => 184 | 321 => 196 | 322 => 197 | 243 => 131 | 246 => 146 | 283 => 155 | 284 => 156 | 285 => 157 | 286 => 158 | 129 => 172 | 317 => 171 | 318 => 173 | 319 => 174 | 320 => 175 | 337 => 185 | 338 => 186 | n => n, fun | 9 => 9 | 3 => 3 | 75 => 60 | 76 => 62 | 4 => 4 | 5 => 5 | 167 => 199 | 37 => 46 | 0 => 0 | 85 => 200 | 2 => 2 | 168 => 202 | 53 => 164 | 175 => 223 | 46 => 125 | 210 => 226 | 127 => 81 | 145 => 241 | 143 => 239 | 21 => 21 | 171 => 180 | 173 => 183 | 212 => 206 | 51 => 148 | 20 => 20 | 213 => 207 | 232 => 242 | 233 => 243 | 80 => 52 | n => n, fun | 15 => 4 | 16 => 5 | 17 => 3 | 18 => 6 | 19 => 7 | n => n⟩
theorem atoiLays : LaysC.n172 Tryz.prog atoiRen := by
 constructor
 all_goals first | kernel_rfl | skip
 all_goals constructor
 all_goals first | kernel_rfl | skip
 all_goals first | constructor | (intro w; kernel_rfl)
 all_goals first | kernel_rfl | (intro w; kernel_rfl)
theorem pcall_of_calls {C : Cx} {g : FuncId} {args : List AV} {Q : AOut → Prop} (hb : bodyOK C.P g = true)
  (h : ∀ (kn : Kn) (w : World) (vs : List Value), KnOK C kn w → RelL kn m0 args vs → Calls C.P g vs.toArray w fun e w' => (∃ out, Q out ∧ RelOut kn m0 out e) ∧ Below w.heap.size w w') : PCall C g args Q := by
 intro kn w vs hk hr
 refine .inl ⟨hb, (h kn w vs hk hr).mono ?_⟩
 rintro e w' ⟨⟨out, hQ, ho⟩, hbl⟩
 refine ⟨out, kn, hQ, ho, ⟨fun b o v hv => ?_, hk.glob, fun g a e => ?_⟩, hbl, fun b _ => rfl⟩
 ·have h1 := hk.ok b o v hv
  have h2 : b < w.heap.size := World.block_lt_of_cell? w ⟨b, o, none⟩ h1
  rw [hbl.cell (p := ⟨b, o, none⟩) h2]; exact h1
 ·obtain ⟨T, z, hw⟩ := hk.tab g a e
  obtain ⟨_, _, _, _, h5⟩ := hbl
  exact ⟨T, z, (h5 g (Array.getElem?_eq_some_iff.1 hw).1).trans hw⟩
noncomputable def atoiF (s : List UInt8) : Option (Int × Bool × Unit) := if s.length ≤ 281474976710656 then (match Lib.atoiAll s with
 | .ok v => some (v, true, ())
 | .range => some (Lib.atoiSat s, false, ())
 | _ => none) else none
noncomputable def S_atoiAll : Sig := .n [.d .str] (.tup [.d (.int .i64), .d .erri]) (fun x => atoiF x.1)
theorem err_is : ∃ g, errG = some g ∧ atoiRen.g 16 = g := ⟨atoiRen.g 16, by unfold errG; kernel_rfl, rfl⟩
theorem S_atoiAll_ok' (he : ∃ g, errG = some g ∧ atoiRen.g 16 = g) : SigOK CX 143 S_atoiAll := fun x r h => by
 have h : atoiF x.1 = some r := h
 unfold atoiF at h
 split at h
 ·rename_i hl
  refine pcall_of_calls (C := CX) (by kernel_rfl) fun kn w vs hk hr => ?_
  obtain ⟨v, vs1, rfl, hv, hvs⟩ := RelL.uncons hr
  have : vs1 = [] := List.eq_nil_of_length_eq_zero hvs.1.symm
  subst this
  have hv : Rel kn m0 (.str x.1) v := hv
  cases hv
  generalize hx : Lib.atoiAll x.1 = z at h
  cases z with
  | ok n =>
   cases h
   refine (Any.strconv_Atoi_ok atoiLays ⟨x.1.toArray⟩ (Nat.le_trans (show List.length x.1 ≤ 281474976710656 from hl) (by decide)) n hx w).mono ?_
   rintro e w' ⟨rfl, hw⟩
   refine ⟨⟨_, rfl, ?_⟩, ?_⟩
   ·exact .tup _ _ rfl (fun j a b h1 h2 => by
     match j with
     | 0 => cases h1; cases h2; exact .int _ _
     | 1 => cases h1; cases h2; exact .erriNil
     | j + 2 => cases h1)
   ·rcases hw with rfl | ⟨t, rfl⟩
    ·exact Below.refl _ _
    ·exact Lib.bytesWorld_below _ _ _
  | range =>
   cases h
   obtain ⟨g, hg, hgr⟩ := he
   have hgl := hk.glob g
   have hgl : Rel kn m0 (if errG = some g then .rptr [.erri false] else .any) (.pointer (some ⟨g, 0, none⟩)) := hgl
   rw [if_pos hg] at hgl
   cases hgl with
   | rptr _ _ _ vals hkk hrr h1 =>
    have q1 := hkk 0 _ rfl
    have q2 := hrr 0 _ rfl
    generalize vals 0 = ev at q1 q2
    cases q2 with
    | erriSome te pe =>
     refine (Any.strconv_Atoi_range atoiLays ⟨x.1.toArray⟩ (show List.length x.1 ≤ 281474976710656 from hl) hx (.iface te pe) w (by rw [hgr]; exact hk.ok _ _ _ q1) (.inr ⟨te, pe, rfl⟩)).mono ?_
     rintro e w' ⟨N, rfl, _, _, hbl⟩
     refine ⟨⟨_, rfl, ?_⟩, hbl⟩
     exact .tup _ _ rfl (fun j a b h1 h2 => by
      match j with
      | 0 => cases h1; cases h2; exact .int _ _
      | 1 => cases h1; cases h2; exact .erriSome _ _
      | j + 2 => cases h1)
  | _ => cases h
 ·cases h
theorem S_atoiAll_ok : SigOK CX 143 S_atoiAll := S_atoiAll_ok' err_is
end Go.Ab

set_option maxRecDepth 100000
namespace Go.Ab
open Go Go.RowKit Go.Proofs Go.Shelf
def itoaRen : Go.Shelf.Ren := ⟨fun | 171 => 98 | 243 => 131 | 246 => 146 | 283 => 155 | 284 => 156 | 285 => 157 | 286 => 158 | 129 => 172 | 317 => 171 | 318 => 173 | 319 => 174 | 320 => 175 | 337 => 185 | 338 => 186 | n => n, fun | 3 => 3 | 9 => 9 | 2 => 2 | 4 => 4 | 171 => 180 | 0 => 0 | 53 => 164 | 37 => 46 | 5 => 5 | 173 => 183 | 212 => 206 | 51 => 148 | 20 => 20 | 213 => 207 | 46 => 125 | 232 => 242 | 233 => 243 | n => n, fun | 17 => 3 | 18 => 6 | 19 => 7 | n => n⟩
theorem itoaLays : LaysM.n171 Tryz.prog itoaRen := by
 constructor
 all_goals first | kernel_rfl | (intro w; kernel_rfl) | skip
 all_goals constructor
 all_goals first | kernel_rfl | (intro w; kernel_rfl) | skip
 all_goals constructor
 all_goals first | kernel_rfl | (intro w; kernel_rfl)
theorem powT_eq : powT = Lib.pow10Tab := rfl
theorem powT_at : ∃ g, Tryz.prog.globalNamed "internal/strconv.uint64pow10" = some g ∧ tabG g = some (powT.map fun z => Value.int .u64 z).toArray := by
 have h : (match Tryz.prog.globalNamed "internal/strconv.uint64pow10" with
  | some g => tabG g
  | none => none) = some (powT.map fun z => Value.int .u64 z).toArray := by kernel_rfl
 split at h
 ·rename_i g hg; exact ⟨g, hg, h⟩
 ·cases h
theorem tabIs_of {kn : Kn} {w : World} (hk : KnOK CX kn w) : Lib.TabIs Tryz.prog w "internal/strconv.uint64pow10" .u64 Lib.pow10Tab := by
 obtain ⟨g, hg, ht⟩ := powT_at
 obtain ⟨T, z, hw⟩ := hk.tab g _ ht
 unfold Lib.TabIs World.var?
 rw [hg]
 simp only [Option.bind_some, hw]
 rw [← powT_eq]
def itoaF (n : Int) : Option (List UInt8) := if -9223372036854775808 ≤ n ∧ n ≤ 9223372036854775807 then some (Lib.itoa n) else none
def S_itoa : Sig := .n [.d (.int .i64)] (.d .str) (fun x => itoaF x.1)
theorem S_itoa_ok : SigOK CX 98 S_itoa := fun x r h => by
 have h : itoaF x.1 = some r := h
 unfold itoaF at h
 by_cases hc : -9223372036854775808 ≤ (show Int from x.1) ∧ (show Int from x.1) ≤ 9223372036854775807
 ·rw [if_pos hc] at h
  cases h
  refine pcall_of_calls (C := CX) (by kernel_rfl) fun kn w vs hk hr => ?_
  obtain ⟨v, vs1, rfl, hv, hvs⟩ := RelL.uncons hr
  have : vs1 = [] := List.eq_nil_of_length_eq_zero hvs.1.symm
  subst this
  have hv : Rel kn m0 (.int .i64 x.1) v := hv
  cases hv
  refine (Any.strconv_Itoa itoaLays x.1 hc.1 hc.2 w (tabIs_of hk)).mono ?_
  rintro e w' ⟨rfl, k, os, rfl⟩
  exact ⟨⟨_, rfl, .str _⟩, Go.Lib.below_grow _ w (Nat.le_refl _) k os⟩
 ·rw [if_neg hc] at h; cases h
end Go.Ab

set_option maxRecDepth 100000
namespace Go.Ab
open Go Go.RowKit Go.Proofs
def badR (c : Int) : Bool := !decide (c = 10) && (decide (c < 32) || decide (126 < c))
theorem badR_call (c : Int) : PCall CX 96 [.int .i32 c] (· = .ret (.bool (badR c))) := by
 refine pcall_mk 0 13 [.tmp 2] Tryz.func96 rfl (by decide) rfl rfl rfl ?_
 refine aw_sreg {} rfl rfl fun K KP hK hP => ?_
 simp only [go_sem, ↓reduceIte]
 apply hK; clear hK hP
 by_cases c1_0 : c = 10
 ·
  refine aw_sreg {} rfl rfl fun K KP hK hP => ?_
  simp only [go_sem, ↓reduceIte, c1_0]
  apply hK; clear hK hP
  refine aw_ret ?_
  simp only [go_sem, ↓reduceIte, c1_0, athen_ret] <;> (
   simp [badR])
 ·
  by_cases c1_1 : c < 32
  ·
   refine aw_sreg {} rfl rfl fun K KP hK hP => ?_
   simp only [go_sem, ↓reduceIte, c1_0, c1_1]
   apply hK; clear hK hP
   refine aw_ret ?_
   simp only [go_sem, ↓reduceIte, c1_0, c1_1, athen_ret] <;> (
    simp [badR, c1_0, c1_1])
  ·
   refine aw_sreg {} rfl rfl fun K KP hK hP => ?_
   simp only [go_sem, ↓reduceIte, c1_0, c1_1]
   apply hK; clear hK hP
   refine aw_ret ?_
   simp only [go_sem, ↓reduceIte, c1_0, c1_1, athen_ret] <;> (
    simp [badR, c1_0, c1_1])
def idxR (p : Int → Bool) (s : List UInt8) : Nat → Nat → Int
 | 0, _ => -1
 | f + 1, pos => if pos < s.length then (if p (Utf8.decode ⟨s.toArray⟩ pos).1 = true then pos else idxR p s f (pos + (Utf8.decode ⟨s.toArray⟩ pos).2)) else -1
theorem decode_wide (b : ByteArray) (i : Nat) : 1 ≤ (Utf8.decode b i).2 := by
 unfold Utf8.decode
 simp only
 repeat' split
 all_goals simp
theorem indexFunc_call (p : Int → Bool) (g : FuncId) (hg : ∀ c, PCall CX g [.int .i32 c] (· = .ret (.bool (p c)))) (s : List UInt8) : PCall CX 145 [.str s, .fn (.func g) [] [], .bool true] (· = .ret (.int .i64 (idxR p s (s.length + 1) 0))) := by
 refine pcall_mk 0 21 [.tmp 6] Tryz.func145 rfl (by decide) rfl rfl rfl ?_
 refine aw_sreg {} rfl rfl fun K KP hK hP => ?_
 simp only [go_sem, ↓reduceIte]
 apply hK; clear hK hP
 refine aw_seq ?_
 refine aw_sreg {} rfl rfl fun K KP hK hP => ?_
 simp only [go_sem, ↓reduceIte]
 apply hK; clear hK hP
 refine aw_block ?_
 refine aw_loop' (fun dd st => ∃ (pos f : Nat), (s.length < pos + f) ∧ (idxR p s f pos = idxR p s (s.length + 1) 0) ∧ f = dd ∧ [(0, .siter s pos)] = st.σ ∧ st.env 0 = .str s ∧ st.env 1 = .fn (.func g) [] [] ∧ st.env 2 = .bool true ∧ st.env 10 = .ref 0 0 0) (fun dd st hJ => ?_) ?_
 ·
  obtain ⟨env0, σ0, nx0⟩ := st
  obtain ⟨pos, f, hp0_0, hp0_1, hd0, hs0, e0_0, e0_1, e0_2, e0_10⟩ := hJ
  dsimp only at hs0  e0_0 e0_1 e0_2 e0_10
  subst hd0; subst hs0
  refine aw_forget' 1 rfl ?_
  by_cases c2 : pos < s.length
  ·
   refine aw_sreg {} rfl rfl fun K KP hK hP => ?_
   simp only [go_sem, ↓reduceIte, e0_0, e0_1, e0_2, e0_10, c2]
   apply hK; clear hK hP
   refine aw_seq ?_
   refine aw_if (True) (by simp only [go_sem, ↓reduceIte, e0_0, e0_1, e0_2, e0_10, c2]) (fun h2 => ?_) (fun h2 => ?_)
   ·
    refine aw_skip ?_
    refine athen_normal.2 ?_
    refine aw_block ?_
    refine aw_sreg {} rfl rfl fun K KP hK hP => ?_
    simp only [go_sem, ↓reduceIte, e0_0, e0_1, e0_2, e0_10, c2]
    apply hK; clear hK hP
    refine aw_sreg {} rfl rfl fun K KP hK hP => ?_
    simp only [go_sem, ↓reduceIte, e0_0, e0_1, e0_2, e0_10, c2]
    refine CallP.ret (hg _) (by simp only [go_sem]) ?_
    try simp only [go_sem, ↓reduceIte, e0_0, e0_1, e0_2, e0_10, c2]
    apply hK; clear hK hP
    refine aw_if (p (Utf8.decode ⟨s.toArray⟩ pos).1 = true) (by simp only [go_sem, ↓reduceIte, e0_0, e0_1, e0_2, e0_10, c2]) (fun h4 => ?_) (fun h4 => ?_)
    ·
     refine aw_sreg {} rfl rfl fun K KP hK hP => ?_
     simp only [go_sem, ↓reduceIte, e0_0, e0_1, e0_2, e0_10, c2]
     apply hK; clear hK hP
     refine aw_ret ?_
     refine ablock_ret.2 ?_
     refine afor_one ?_
     refine athen_ret.2 ?_
     refine ablock_ret.2 ?_
     refine athen_ret.2 ?_
     simp only [go_sem, ↓reduceIte, e0_0, e0_1, e0_2, e0_10, c2, athen_ret] <;> (
      rw [← hp0_1]
      cases f with
      | zero => omega
      | succ f => simp only [idxR, c2, if_true, h4])
    ·
     refine aw_skip ?_
     refine ablock_normal.2 ?_
     refine afor_one ?_
     refine athen_normal.2 ?_
     refine ⟨_, ?_, (pos + (Utf8.decode ⟨s.toArray⟩ pos).2), (f - 1), ?_, ?_, rfl, rfl, ?_, ?_, ?_, ?_⟩
     ·have := decode_wide ⟨s.toArray⟩ pos
      omega
     ·have := decode_wide ⟨s.toArray⟩ pos
      omega
     ·rw [← hp0_1]
      cases f with
      | zero => omega
      | succ f => simp only [idxR, c2, if_true, h4, Nat.add_sub_cancel, if_false]; rfl
     ·simp only [go_sem, ↓reduceIte, e0_0, e0_1, e0_2, e0_10, c2] <;> try rfl
     ·simp only [go_sem, ↓reduceIte, e0_0, e0_1, e0_2, e0_10, c2] <;> try rfl
     ·simp only [go_sem, ↓reduceIte, e0_0, e0_1, e0_2, e0_10, c2] <;> try rfl
     ·simp only [go_sem, ↓reduceIte, e0_0, e0_1, e0_2, e0_10, c2] <;> try rfl
   ·
    exact absurd trivial h2
  ·
   refine aw_sreg {} rfl rfl fun K KP hK hP => ?_
   simp only [go_sem, ↓reduceIte, e0_0, e0_1, e0_2, e0_10, c2]
   apply hK; clear hK hP
   refine aw_seq ?_
   refine aw_if (False) (by simp only [go_sem, ↓reduceIte, e0_0, e0_1, e0_2, e0_10, c2]) (fun h2 => ?_) (fun h2 => ?_)
   ·
    exact h2.elim
   ·
    refine aw_exit ?_
    refine athen_exit.2 ?_
    refine afor_one ?_
    refine athen_exit.2 ?_
    refine ablock_here ?_
    refine athen_normal.2 ?_
    refine aw_sreg {} rfl rfl fun K KP hK hP => ?_
    simp only [go_sem, ↓reduceIte, e0_0, e0_1, e0_2, e0_10, c2]
    apply hK; clear hK hP
    refine aw_ret ?_
    simp only [go_sem, ↓reduceIte, e0_0, e0_1, e0_2, e0_10, c2, athen_ret] <;> (
     rw [← hp0_1]
     cases f with
     | zero => rfl
     | succ f => simp only [idxR, c2, if_false])
 ·
  refine ⟨_, 0, s.length + 1, ?_, ?_, rfl, ?_, ?_, ?_, ?_, ?_⟩
  ·first | omega | trivial | assumption
  ·first | omega | trivial | assumption
  ·first | rfl | (simp only [go_sem, ↓reduceIte])
  ·simp only [go_sem, ↓reduceIte] <;> try rfl
  ·simp only [go_sem, ↓reduceIte] <;> try rfl
  ·simp only [go_sem, ↓reduceIte] <;> try rfl
  ·simp only [go_sem, ↓reduceIte] <;> try rfl
theorem indexFunc2_call (p : Int → Bool) (g : FuncId) (hg : ∀ c, PCall CX g [.int .i32 c] (· = .ret (.bool (p c)))) (s : List UInt8) : PCall CX 130 [.str s, .fn (.func g) [] []] (· = .ret (.int .i64 (idxR p s (s.length + 1) 0))) := by
 refine pcall_mk 0 8 [.tmp 4] Tryz.func130 rfl (by decide) rfl rfl rfl ?_
 refine aw_sreg {} rfl rfl fun K KP hK hP => ?_
 simp only [go_sem, ↓reduceIte]
 apply hK; clear hK hP
 refine aw_sreg {} rfl rfl fun K KP hK hP => ?_
 simp only [go_sem, ↓reduceIte]
 refine CallP.ret (indexFunc_call p g hg s) (by simp only [go_sem]) ?_
 try simp only [go_sem, ↓reduceIte]
 apply hK; clear hK hP
 refine aw_ret ?_
 simp only [go_sem, ↓reduceIte, athen_ret]
theorem containsFunc_call (p : Int → Bool) (g : FuncId) (hg : ∀ c, PCall CX g [.int .i32 c] (· = .ret (.bool (p c)))) (s : List UInt8) : PCall CX 97 [.str s, .fn (.func g) [] []] (· = .ret (.bool (decide (0 ≤ idxR p s (s.length + 1) 0)))) := by
 refine pcall_mk 0 9 [.tmp 4] Tryz.func97 rfl (by decide) rfl rfl rfl ?_
 refine aw_sreg {} rfl rfl fun K KP hK hP => ?_
 simp only [go_sem, ↓reduceIte]
 apply hK; clear hK hP
 refine aw_sreg {} rfl rfl fun K KP hK hP => ?_
 simp only [go_sem, ↓reduceIte]
 refine CallP.ret (indexFunc2_call p g hg s) (by simp only [go_sem]) ?_
 try simp only [go_sem, ↓reduceIte]
 apply hK; clear hK hP
 refine aw_ret ?_
 simp only [go_sem, ↓reduceIte, athen_ret]
def badT (t : List UInt8) : Bool := decide (0 ≤ idxR badR t (t.length + 1) 0)
noncomputable def S_containsBad : Sig := .n [.d .str, .c (.fn (.func 96) [] [])] (.d .bool) (fun x => some (badT x.1))
theorem S_containsBad_ok : SigOK CX 97 S_containsBad := fun x r h => by cases h; exact containsFunc_call badR _ badR_call x.1
end Go.Ab

set_option maxRecDepth 100000
namespace Go.Ab
open Go Go.RowKit Go.Proofs
noncomputable def G_leaf (x0 : Fm) : Option (Bool) := (
 Option.bind (α := Step ((Unit) × (Unit)) (Bool))
 (cond (decide (x0.k = 0)) (some (Step.done (cond (cond (cond (decide (x0.t = [])) (decide ((x0.l.length : Int) = 0)) false) (decide (x0.n ≥ (-1152921504606846976))) false) (decide (x0.n ≤ 1152921504606846976)) false))) (cond (decide (x0.k = 1)) (Option.bind (α := Bool) (cond (cond (!decide (x0.t = [])) (decide ((x0.t.length : Int) ≤ 30)) false) (numericF (x0.t)) (some false)) fun r1 => (
 Option.bind (α := ((Int × Int × (List UInt8) × (List Fm) × Unit) × Bool × Unit) × (Unit))
 (loopM (L := ((Int × Int × (List UInt8) × (List Fm) × Unit) × Bool × Int × Unit) × (Unit)) (R := ((Int × Int × (List UInt8) × (List Fm) × Unit) × Bool × Unit) × (Unit)) (fun d2 => (
 let v3_3 := d2.1.2.1
 let v4_4 := d2.1.2.2.1
 cond (cond (decide (v4_4 < (d2.1.1.2.2.1.length : Int))) v3_3 false) (cond (ixOK v4_4 d2.1.1.2.2.1.length) (Option.bind (α := Bool) (outsideF (byteAt d2.1.1.2.2.1 v4_4)) fun r5 => (
 some (Step.next (((d2.1.1.1, d2.1.1.2.1, d2.1.1.2.2.1, d2.1.1.2.2.2.1, ()), !r5, IntKind.wrap .i64 (v4_4 + 1), ()), ())))) none) (some (Step.done (((d2.1.1.1, d2.1.1.2.1, d2.1.1.2.2.1, d2.1.1.2.2.2.1, ()), v3_3, ()), ()))))) (((x0.k, x0.n, x0.t, x0.l, ()), cond (cond (!decide (x0.t = [])) (decide ((x0.t.length : Int) ≤ 30)) false) (!r1) false, 0, ()), ())) fun d6 => (
 let v3_7 := d6.1.2.1
 some (Step.done (cond (cond v3_7 (decide (d6.1.1.2.1 = 0)) false) (decide ((d6.1.1.2.2.2.1.length : Int) = 0)) false))))) (cond (decide (x0.k = 2)) (Option.bind (α := Bool) (cond (decide ((x0.t.length : Int) ≤ 2000)) (some (badT (x0.t))) (some false)) fun r8 => (
 some (Step.done (cond (cond (cond (decide ((x0.t.length : Int) ≤ 2000)) (!r8) false) (decide (x0.n = 0)) false) (decide ((x0.l.length : Int) = 0)) false)))) (cond (decide (x0.k = 3)) (some (Step.done (cond (decide (x0.t = [])) (decide (x0.n = 0)) false))) (some (Step.next ((), ()))))))) fun qd9 => match qd9 with
 | .next d9 => (
 some false)
 | .done r => some r)
def A_leaf : An := .seq (.leaf) (.join true { env := [], objs := [] } (.seq (.leaf) (.block (.seq (.leaf) (.cond (.leaf) (.seq (.leaf) (.cond (.seq (.leaf) (.join false { env := [(1, (.rptr [(.d (.int .i64)), (.d (.int .i64)), (.d .str), (.d (.slice .form))])), (3, (.d .bool))], objs := [] } (.seq (.leaf) (.block (.loop { env := [(1, (.rptr [(.d (.int .i64)), (.d (.int .i64)), (.d .str), (.d (.slice .form))])), (3, (.d .bool)), (4, (.d (.int .i64)))], objs := [] } (.leaf)))) (.leaf))) (.leaf))))))) (.leaf))
def H_leaf : Nat → RH := fun _ => {}
noncomputable def S_leaf : Sig := .n [(.d .form)] (.d .bool) (fun x => G_leaf x.1)
theorem S_leaf_ok : SigOK CX 64 S_leaf := sigN_of (l := [(94, S_numeric), (95, S_outside), (97, S_containsBad)]) ⟨S_numeric_ok, S_outside_ok, S_containsBad_ok, trivial⟩ (hint := H_leaf) (an := A_leaf) (fun x => by kernel_rfl)
noncomputable def G_valid (k : Nat) (x0 : Fm) (x2 : Int) (o0 : Int × Unit) : Option ((Bool) × ((Int × Unit) × Unit)) := match k with
| 0 => none
| k + 1 => (
 Option.bind (α := Bool) (cond (!(cond (decide (IntKind.wrap .i64 (o0.1 - 1) < 0)) true (decide (x2 = 0)))) (G_leaf (Fm.eta x0)) (some false)) fun r1 => (
 cond (cond (cond (decide (IntKind.wrap .i64 (o0.1 - 1) < 0)) true (decide (x2 = 0))) true (!r1)) (some (false, ((IntKind.wrap .i64 (o0.1 - 1), ()), ()))) (Option.bind (α := Step ((Unit) × ((Int × Unit) × Unit)) ((Bool) × ((Int × Unit) × Unit)))
 (loopM (L := (Unit × Int × (List Fm) × Int × Int × Unit) × ((Int × Unit) × Unit)) (R := Step ((Unit) × ((Int × Unit) × Unit)) ((Bool) × ((Int × Unit) × Unit))) (fun d2 => (
 let c3 := d2.2.1.1
 let v2_4 := d2.1.2.1
 let v28_5 := d2.1.2.2.1
 let v29_6 := d2.1.2.2.2.1
 let v30_7 := d2.1.2.2.2.2.1
 cond (decide (v30_7 < v29_6)) (cond (ixOK v30_7 v28_5.length) (Option.bind (α := (Bool) × ((Int × Unit) × Unit)) (G_valid k (Fm.eta (v28_5.getD v30_7.toNat (Fm.mk 0 0 [] []))) (IntKind.wrap .i64 (v2_4 - 1)) (c3, ())) fun r8 => (
 cond (!r8.1) (some (Step.done (Step.done (false, ((r8.2.1.1, ()), ()))))) (some (Step.next (((), v2_4, v28_5, v29_6, IntKind.wrap .i64 (v30_7 + 1), ()), ((r8.2.1.1, ()), ())))))) none) (some (Step.done (Step.next ((), ((c3, ()), ()))))))) (((), x2, x0.l, (x0.l.length : Int), 0, ()), ((IntKind.wrap .i64 (o0.1 - 1), ()), ()))) fun qd9 => match qd9 with
 | .next d9 => (
 let c10 := d9.2.1.1
 some (true, ((c10, ()), ())))
 | .done r => some r)))
def A_valid : An := .seq (.leaf) (.seq (.leaf) (.seq (.leaf) (.join true { env := [], objs := [(true, .cells 3 [(.d (.int .i64))])] } (.seq (.leaf) (.block (.loop { env := [(1, (.ref 0 0)), (2, (.d (.int .i64))), (28, (.d (.slice .form))), (29, (.d (.int .i64))), (30, (.d (.int .i64)))], objs := [(true, .cells 3 [(.d (.int .i64))])] } (.leaf)))) (.leaf))))
def H_valid : Nat → RH := fun r => match r with
 | 7 => { H := { ac := [38] } }
 | _ => {}
noncomputable def S_valid (k : Nat) : Sig := .o { pre := [(false, .cells 3 [(.d (.int .i64))])], args := [(.d .form), (.ref 0 0), (.d (.int .i64))], post := [(true, .cells 3 [(.d (.int .i64))])], res := (.d .bool), f := fun x => G_valid k x.1.1 x.1.2.2.1 x.2.1 }
theorem S_valid_ok : ∀ k, SigOK CX 40 (S_valid k)
| 0 => ⟨by kernel_rfl, fun x r h => by cases h⟩
| k + 1 => by
 have ih := S_valid_ok k
 exact sigO_of (l := [(64, S_leaf), (40, (S_valid k))]) ⟨S_leaf_ok, ih, trivial⟩ (hint := H_valid) (an := A_valid) (by kernel_rfl) (fun x => by kernel_rfl)
noncomputable def L_valid (x0 : Fm) (x2 : Int) (o0 : Int × Unit) : Option ((Bool) × ((Int × Unit) × Unit)) := limF fun k => G_valid k x0 x2 o0
noncomputable def S_valid_l : Sig := .o { pre := [(false, .cells 3 [(.d (.int .i64))])], args := [(.d .form), (.ref 0 0), (.d (.int .i64))], post := [(true, .cells 3 [(.d (.int .i64))])], res := (.d .bool), f := fun x => L_valid x.1.1 x.1.2.2.1 x.2.1 }
theorem S_valid_l_ok : SigOK CX 40 S_valid_l := SigOK.limO S_valid_ok fun x r h => limF_ex h
noncomputable def G_rvalid (x0 : Fm) : Option (Bool) := (
 Option.bind (α := (Bool) × ((Int × Unit) × Unit)) (L_valid (Fm.eta x0) 100 (20000, ())) fun r1 => (
 some r1.1))
def A_rvalid : An := .leaf
def H_rvalid : Nat → RH := fun r => match r with
 | 2 => { H := { ac := [5] } }
 | _ => {}
noncomputable def S_rvalid : Sig := .n [(.d .form)] (.d .bool) (fun x => G_rvalid x.1)
theorem S_rvalid_ok : SigOK CX 24 S_rvalid := sigN_of (l := [(40, S_valid_l)]) ⟨S_valid_l_ok, trivial⟩ (hint := H_rvalid) (an := A_rvalid) (fun x => by kernel_rfl)
noncomputable def G_refEqual (x0 : Fm) (x1 : Fm) : Option (Bool) := (
 Option.bind (α := Int) (L_refCompare (Fm.eta x0) (Fm.eta x1)) fun r1 => (
 some (decide (r1 = 0))))
def A_refEqual : An := .leaf
def H_refEqual : Nat → RH := fun _ => {}
noncomputable def S_refEqual : Sig := .n [(.d .form), (.d .form)] (.d .bool) (fun x => G_refEqual x.1 x.2.1)
theorem S_refEqual_ok : SigOK CX 16 S_refEqual := sigN_of (l := [(37, S_refCompare_l)]) ⟨S_refCompare_l_ok, trivial⟩ (hint := H_refEqual) (an := A_refEqual) (fun x => by kernel_rfl)
end Go.Ab
