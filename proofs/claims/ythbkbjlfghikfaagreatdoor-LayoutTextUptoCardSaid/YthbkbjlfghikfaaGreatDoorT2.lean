/- merged by minib.py -/
import Derived.Test.YthbkbjlfghikfaaGreatDoorT1
set_option linter.unusedVariables false
set_option linter.unusedSimpArgs false
set_option maxRecDepth 100000
noncomputable section
namespace Go.Ab
open Go Go.RowKit
def mapO {α β : Type} (f : α -> Option β) : List α -> Option (List β)
 | [] => some []
 | a :: t => match f a, mapO f t with
  | some b, some l => some (b :: l)
  | _, _ => none
def X5j {e' e : E} (h : e' = e) (l : List e'.den) : List e.den := h ▸ l
theorem X35 {e : E} (l : List e.den) : X5j (rfl : e = e) l = l := rfl
def Y9c (e : E) (rec : List AV -> Option e.den) : AV -> Option (List e.den)
 | .tvec e' l => if h : e' = e then some (X5j h l) else none
 | .base (.slice none 0 0) => some []
 | .base (.slice (some _) 0 _) => some []
 | .emp => some []
 | .vec esz rows => if esz = e.size then mapO rec rows else none
 | _ => none
def Y88 (k : IntKind) : List AV -> Option Int
 | [.int k' n] => if k' = k then some n else none
 | _ => none
def Y4v : List AV -> Option Bool
 | [.bool b] => some b
 | _ => none
def Y9e : List AV -> Option (List UInt8)
 | [.str l] => some l
 | _ => none
def Y4w : List AV -> Option Bool
 | [.erri b] => some b
 | [.base .nilIface] => some true
 | [.iface _ _] => some false
 | _ => none
def Y4x (rec : List AV -> Option Fm) : List AV -> Option Fm
 | [.int .i64 k, .int .i64 n, .str t, s] => (Y9c .form rec s).map (Fm.mk k n t)
 | _ => none
def Z3B : List AV -> Option Unit
 | [] => some ()
 | _ => none
def Z3A {α β : Type} : Option α -> Option β -> Option (α × β)
 | some x, some y => some (x, y)
 | _, _ => none
def Y89 (e : E) (rec : List AV -> Option e.den) : List AV -> Option (List e.den)
 | [s] => Y9c e rec s
 | _ => none
def Y9d (rec : (e : E) -> List AV -> Option e.den) : (e : E) -> List AV -> Option e.den
 | .int k, cs => Y88 k cs
 | .bool, cs => Y4v cs
 | .str, cs => Y9e cs
 | .erri, cs => Y4w cs
 | .form, cs => Y4x (rec .form) cs
 | .un, cs => Z3B cs
 | .pr a b, cs => Z3A (rec a (cs.take a.size)) (rec b (cs.drop a.size))
 | .slice e, cs => Y89 e (rec e) cs
def absC : Nat -> (e : E) -> List AV -> Option e.den
 | 0, _, _ => none
 | f + 1, e, cs => Y9d (absC f) e cs
def absF : Nat := 40
def X2A (cs : List AV) (off : Nat) (vs : List AV) : Option (List AV) := if off + vs.length <= cs.length then some (cs.take off ++ (vs ++ cs.drop (off + vs.length))) else none
def X2B (P : Program) (T : TypeId) (σ : Sto) (a x : AV) : Option Sto :=
 match X0O x, szT P T with
 | some vs, some n => if vs.length = n then (match a with
  | .ref p nm off => match sget σ p nm with
   | some (.cells T' cs) => (X2A cs off vs).map fun cs' => σ.set p (nm, .cells T' cs')
   | _ => none
  | .eref p nm i off => match sget σ p nm with
   | some (.gvec esz ety rows) => match rows[i]? with
    | some row => (X2A row off vs).map fun row' => σ.set p (nm, .gvec esz ety (rows.set i row'))
    | none => none
   | some (.tg e ety l) => if i < l.length then (X2A (e.cells (l.getD i e.dflt)) off vs).bind fun row' => (absC absF e row').map fun y => σ.set p (nm, .tg e ety (l.set i y)) else none
   | _ => none
  | _ => none) else none
 | _, _ => none
def X5T (sz : Nat) (σ : Sto) (y : AV) : Option (List (List AV)) :=
 match y with
 | .vec esz rows => if esz = sz \/ rows = [] then some rows else none
 | .sref p nm esz off len => match sget σ p nm with
  | some (.gvec esz' _ rows) => if esz = sz /\ esz' = sz /\ off + len <= rows.length then some ((rows.drop off).take len) else none
  | _ => none
 | .base (.slice none 0 0) => some []
 | .emp => some []
 | _ => none
def X2M (l : List UInt8) : List (List AV) := l.map fun b => [.int .u8 b.toNat]
def limB : Nat := 140737488355328
def X8o (P : Program) (t t' : TypeId) (σ : Sto) (nx : Nat) (x y : AV) : Option (AV × Sto × Nat) :=
 match elmT P t with
 | some (e, sz, bytes) => if 0 < sz /\ ((zeroCells P e).map (·.length)) = some sz then (match (match y with
   | .str l => if strT P t' /\ sz = 1 then some (X2M l) else none
   | y => if slcT P t' then X5T sz σ y else none) with
  | some ys => (match x with
   | .base (.slice none 0 0) => if ys.length * bytes <= limB /\ ys.length <= 4611686018427387904 then (if ys.length = 0 then some (.base (.slice none 0 0), σ, nx) else some (.sref σ.length nx sz 0 ys.length, σ ++ [(nx, .gvec sz e ys)], nx + 1)) else none
   | .emp => if ys.length * bytes <= limB /\ ys.length <= 4611686018427387904 then (if ys.length = 0 then some (.emp, σ, nx) else some (.sref σ.length nx sz 0 ys.length, σ ++ [(nx, .gvec sz e ys)], nx + 1)) else none
   | .sref p nm esz off len => match sget σ p nm with
    | some (.gvec esz' e' rows) => if esz = sz /\ esz' = sz /\ e' = e /\ off + len <= rows.length /\ (len + ys.length) * bytes <= limB /\ len + ys.length <= 4611686018427387904 then
      some (.sref p nx sz 0 (len + ys.length), σ.set p (nx, .gvec sz e ((rows.drop off).take len ++ ys)), nx + 1) else none
    | _ => none
   | _ => none)
  | none => none) else none
 | none => none
def Y4Y (P : Program) (t : TypeId) (σ : Sto) (nx : Nat) (l c : AV) : Option (AV × Sto × Nat) :=
 match elmT P t, l, c with
 | some (e, sz, bytes), .int _ n, .int _ k => (match zeroCells P e with
  | some z => if 0 < sz /\ z.length = sz /\ 0 <= n /\ n <= k /\ k * bytes <= 281474976710656 /\ k <= 4611686018427387904 then some (.sref σ.length nx sz 0 n.toNat, σ ++ [(nx, .gvec sz e (List.replicate n.toNat z))], nx + 1) else none
  | none => none)
 | _, _, _ => none
def X98 (P : Program) (t' : TypeId) (e : E) (σ : Sto) (y : AV) : Option (List e.den) :=
 match y with
 | .str l => if strT P t' = true then (if h : (.int .u8) = e then some (X5j h (l.map fun b => (b.toNat : Int))) else none) else none
 | .gs p nm e' len => if slcT P t' = true then (match sget σ p nm with
  | some (.tg e2 _ l) => if h : e2 = e then (if e' = e then some (X5j h l) else none) else none
  | _ => none) else none
 | y => if slcT P t' = true then Y9c e (absC absF e) y else none
def X8p (P : Program) (t t' : TypeId) (e : E) (σ : Sto) (nx : Nat) (x y : AV) : Option (AV × Sto × Nat) :=
 match elmT P t, X98 P t' e σ y with
 | some (ety, sz, bytes), some ys => if 0 < sz /\ ((zeroCells P ety).map (·.length)) = some sz /\ e.size = sz then (match x with
  | .base (.slice none 0 0) => if ys.length * bytes <= limB /\ ys.length <= 4611686018427387904 then some (.gs σ.length nx e ys.length, σ ++ [(nx, .tg e ety ys)], nx + 1) else none
  | .gs p nm e' len => match sget σ p nm with
   | some (.tg e2 ety' l) => if h : e2 = e then (if e' = e /\ ety' = ety /\ (l.length + ys.length) * bytes <= limB /\ l.length + ys.length <= 4611686018427387904 then
     some (.gs p nx e (l.length + ys.length), σ.set p (nx, .tg e ety (X5j h l ++ ys)), nx + 1) else none) else none
   | _ => none
  | _ => none) else none
 | _, _ => none
def Y93 (P : Program) (t : TypeId) (e : E) (σ : Sto) (nx : Nat) (l c : AV) : Option (AV × Sto × Nat) :=
 match elmT P t, l, c with
 | some (ety, sz, bytes), .int _ n, .int _ k => (match zeroCells P ety with
  | some z => (match absC absF e z with
   | some z' => if 0 < sz /\ z.length = sz /\ e.size = sz /\ 0 <= n /\ n <= k /\ k * bytes <= 281474976710656 /\ k <= 4611686018427387904 then some (.gs σ.length nx e n.toNat, σ ++ [(nx, .tg e ety (List.replicate n.toNat z'))], nx + 1) else none
   | none => none)
  | none => none)
 | _, _, _ => none
def bslT (P : Program) (t len : Nat) (e : E) (σ : Sto) (nx : Nat) (parts : List (Nat × AV)) : Option (AV × Sto × Nat) :=
 match elmT P t with
 | some (ety, sz, _) => match zeroCells P ety with
  | some z => if 0 < sz /\ z.length = sz /\ e.size = sz /\ len * sz <= 16777216 then (match X4o sz (List.replicate len z) parts with
   | some rows => (mapO (absC absF e) rows).map fun l => (.gs σ.length nx e l.length, σ ++ [(nx, .tg e ety l)], nx + 1)
   | none => none) else none
  | none => none
 | none => none
def X5s (P : Program) (t : TypeId) (σ : Sto) (nx : Nat) (x : AV) (lo hi : Option AV) : Option (AV × Sto × Nat) :=
 match x with
 | .gs p nm e len => match elmT P t, bndA len lo hi, sget σ p nm with
  | some (_, sz, _), some (l', h), some (.tg e2 ety l) => if e = e2 /\ e.size = sz /\ l' = 0 /\ 0 <= h /\ h <= l.length then some (.gs p nx e2 h.toNat, σ.set p (nx, .tg e2 ety (l.take h.toNat)), nx + 1) else none
  | _, _, _ => none
 | _ => none
def Y2Y (P : Program) (t : TypeId) (σ : Sto) (x : AV) : Option Sto :=
 match x with
 | .gv p nm e off len => match elmT P t, sget σ p nm with
  | some (ety, sz, _), some (.tg e2 ety' l) => (match zeroCells P ety with
   | some z => (match absC absF e2 z with
    | some z' => if e = e2 /\ e.size = sz /\ z.length = sz /\ off + len <= l.length then some (σ.set p (nm, .tg e2 ety' (l.take off ++ (List.replicate len z' ++ l.drop (off + len))))) else none
    | none => none)
   | none => none)
  | _, _ => none
 | _ => none
def Y94 (σ : Sto) (nx : Nat) (it : AV) : Option (AV × Sto × Nat) :=
 match it with
 | .ref p nm 0 => match sget σ p nm with
  | some (.siter l pos) => if pos < l.length then some (.tup [.bool true, .int .i64 pos, .int .i32 (Utf8.decode ⟨l.toArray⟩ pos).1], σ.set p (nm, .siter l (pos + (Utf8.decode ⟨l.toArray⟩ pos).2)), nx)
   else some (.tup [.bool false], σ, nx)
  | _ => none
 | _ => none
def Y3z (P : Program) (t : TypeId) (σ : Sto) (nx : Nat) (x : AV) : Option (AV × Sto × Nat) :=
 match x with
 | .str l => if strT P t = true then some (.ref σ.length nx 0, σ ++ [(nx, .siter l 0)], nx + 1) else none
 | _ => none
def Z2Z : List AV -> Bool
 | [.base (.slice none 0 0)] => true
 | _ => false
def nilRows : List (List AV) -> Bool
 | [] => true
 | r :: l => Z2Z r && nilRows l
def Z10 : Sto -> Bool
 | [] => true
 | (_, o) :: l => !X0D o && Z10 l
def X45 : Sto -> Bool
 | [] => true
 | (_, o) :: l => !X0K o && X45 l
def Y3M (P : Program) (t len : Nat) (e : E) (σ : Sto) (nx : Nat) (parts : List (Nat × AV)) : Option (AV × Sto × Nat) :=
 match elmT P t with
 | some (ety, sz, _) => match zeroCells P ety with
  | some z => if sz = 1 /\ z.length = 1 /\ len * sz <= 16777216 /\ Z10 σ = true then (match X4o sz (List.replicate len z) parts with
   | some rows => if nilRows rows = true then some (.gs σ.length nx (.slice e) rows.length, σ ++ [(nx, .stk e ety (List.replicate rows.length []) .no)], nx + 1) else none
   | none => none) else none
  | none => none
 | none => none
def X5t (P : Program) (t t' : TypeId) (pe : Bool) (σ : Sto) (nx : Nat) (x y : AV) : Option (AV × Sto × Nat) :=
 match x with
 | .gs p nm e' len => match sget σ p nm with
  | some (.stk e ety l .no) => match y, elmT P t with
   | .vec 1 rows, some (ety', sz, bytes) => if e' = .slice e /\ slcT P t' = true /\ sz = 1 /\ ety' = ety /\ ((zeroCells P ety).map (·.length)) = some sz /\ nilRows rows = true /\ (l.length + rows.length) * bytes <= limB /\ l.length + rows.length <= 4611686018427387904 then
     some (.gs p nx (.slice e) (l.length + rows.length), σ.set p (nx, .stk e ety (l ++ List.replicate rows.length []) .no), nx + 1) else none
   | _, _ => none
  | some (.hand e ps false r []) => match σ[ps]?, elmT P t, X98 P t' e σ y with
   | some (n2, .stk e2 ety2 l2 (.out i2 h2 q2 true)), some (fty, sz, bytes), some ys => if e' = e /\ e2 = e /\ h2 = p /\ q2 = nm /\ ps ≠ p /\ i2 < l2.length /\ 0 < sz /\ ((zeroCells P fty).map (·.length)) = some sz /\ e.size = sz /\ (r.length + ys.length) * bytes <= limB /\ r.length + ys.length <= 4611686018427387904 then
     some (.gs p nx e (r.length + ys.length), (σ.set ps (n2, .stk e2 ety2 l2 (.out i2 p nx true))).set p (nx, .hand e ps pe r ys), nx + 1) else none
   | _, _, _ => none
  | _ => none
 | _ => none
def X7a (P : Program) (t : TypeId) (σ : Sto) (nx : Nat) (x : AV) (lo hi : Option AV) : Option (AV × Sto × Nat) :=
 match x with
 | .gs p nm e len => match elmT P t, bndA len lo hi, sget σ p nm with
  | some (_, sz, _), some (l', h), some (.stk e2 ety l .no) => if e = .slice e2 /\ sz = 1 /\ l' = 0 /\ 0 <= h /\ h <= l.length then some (.gs p nx (.slice e2) h.toNat, σ.set p (nx, .stk e2 ety (l.take h.toNat) .no), nx + 1) else none
  | _, _, _ => none
 | _ => none
def Y7Q (P : Program) (T : TypeId) (σ : Sto) (nx : Nat) (a : AV) : Option (AV × Sto × Nat) :=
 match a with
 | .eref p nm i 0 => match sget σ p nm with
  | some (.stk e ety l .no) => if i < l.length /\ aggT P T = some false /\ 0 < e.size /\ X45 σ = true then some (.gs σ.length nx e (l.getD i []).length, σ.set p (nm, .stk e ety l (.out i σ.length nx true)) ++ [(nx, .hand e p false (l.getD i []) [])], nx + 1) else none
  | _ => none
 | _ => none
def X57 (P : Program) (T : TypeId) (σ : Sto) (a x : AV) : Option Sto :=
 match a, x with
 | .eref p nm i 0, .gs h q e len => match sget σ p nm, sget σ h q with
  | some (.stk e1 ety l (.out i' h' q' true)), some (.hand e2 ps pe r ys) => if he : e2 = e1 then (if i' = i /\ q' = q /\ h' = h /\ i < l.length /\ h ≠ p /\ aggT P T = some false /\ szT P T = some 1 then
    cond pe (some (σ.set p (nm, .stk e1 ety l (.out i h q false)))) (some ((σ.set p (nm, .stk e1 ety (l.set i (X5j he (r ++ ys))) .no)).set h (q, .none))) else none) else none
  | _, _ => none
 | _, _ => none
def X9c (P : Program) (T : TypeId) (σ : Sto) (a x : AV) : Option Sto :=
 match a, X0O x, szT P T with
 | .eref h q i off, some vs, some n => match sget σ h q with
  | some (.hand e ps true r ys) => if vs.length = n /\ r.length <= i /\ i < r.length + ys.length /\ ps ≠ h then (match (X2A (e.cells (ys.getD (i - r.length) e.dflt)) off vs).bind (absC absF e) with
   | some y => (match σ[ps]? with
    | some (n2, .stk e2 ety2 l2 (.out i2 h2 q2 b2)) => if he : e = e2 then (if h2 = h /\ q2 = q /\ i2 < l2.length then
      cond b2 (some (σ.set h (q, .hand e ps false r (ys.set (i - r.length) y)))) (some ((σ.set ps (n2, .stk e2 ety2 (l2.set i2 (X5j he (r ++ ys.set (i - r.length) y))) .no)).set h (q, .none))) else none) else none
    | _ => none)
   | none => none) else none
  | _ => none
 | _, _, _ => none
def X9e (P : Program) (T : TypeId) (σ : Sto) (a x : AV) : Option Sto :=
 match X57 P T σ a x with
 | some σ' => some σ'
 | none => X9c P T σ a x
def sop (C : Cx) (e : E) (pe : Bool) (op : Op) (env : Nat -> AV) (σ : Sto) (nx : Nat) : Option (AV × Sto × Nat) :=
 match op with
 | .buildSlice t len parts => Y3M C.P t len e σ nx (parts.toList.map fun p => (p.1, opv C env p.2))
 | .load T a => Y7Q C.P T σ nx (opv C env a)
 | .slice t x lo hi none => X7a C.P t σ nx (opv C env x) (lo.map (opv C env)) (hi.map (opv C env))
 | .call c => match c.callee, c.argTypes.toList, c.args.toList.map (opv C env) with
  | .builtin .append, [t, t'], [x, y] => X5t C.P t t' pe σ nx x y
  | _, _, _ => none
 | _ => none
def orS {α : Type} (a b : Option α) : Option α := match a with
 | some x => some x
 | none => b
def isSE : Option E -> Option (E × Bool)
 | some (.pr (.slice e) .un) => some (e, false)
 | some (.pr (.slice e) (.pr .un .un)) => some (e, true)
 | _ => none
def Z5N (P : Program) (σ : Sto) (nx : Nat) (s d : TypeId) (a : AV) : Option (AV × Sto × Nat) :=
 match a with
 | .gs p nm (.int .u8) _ => match sget σ p nm with
  | some (.tg (.int .u8) _ l) => if bytT P s = true /\ strT P d = true then some (.str (strOf l), σ, nx) else none
  | _ => none
 | _ => none
def eop0 (C : Cx) (ty : Option E) (op : Op) (env : Nat -> AV) (σ : Sto) (nx : Nat) : Option (AV × Sto × Nat) :=
 match op with
 | .box T x => (X0O (opv C env x)).map fun cs => (.ref σ.length nx 0, σ ++ [(nx, .cells T cs)], nx + 1)
 | .buildSlice t len parts => match ty with
  | some e => bslT C.P t len e σ nx (parts.toList.map fun p => (p.1, opv C env p.2))
  | none => match elmT C.P t with
   | some (e, sz, _) => match zeroCells C.P e with
    | some z => if 0 < sz /\ z.length = sz /\ len * sz <= 16777216 then (X4o sz (List.replicate len z) (parts.toList.map fun p => (p.1, opv C env p.2))).map fun rows =>
      (.sref σ.length nx sz 0 len, σ ++ [(nx, .gvec sz e rows)], nx + 1) else none
    | none => none
   | none => none
 | .store T a x => orS ((X2B C.P T σ (opv C env a) (opv C env x)).map fun σ' => (.undef, σ', nx)) ((X9e C.P T σ (opv C env a) (opv C env x)).map fun σ' => (.undef, σ', nx))
 | .makeSlice t l c => match ty with
  | some e => Y93 C.P t e σ nx (opv C env l) (opv C env c)
  | none => Y4Y C.P t σ nx (opv C env l) (opv C env c)
 | .slice t x lo hi none => X5s C.P t σ nx (opv C env x) (lo.map (opv C env)) (hi.map (opv C env))
 | .range t x => Y3z C.P t σ nx (opv C env x)
 | .next x true => Y94 σ nx (opv C env x)
 | .convert s d x => Z5N C.P σ nx s d (opv C env x)
 | .call c => match c.callee, c.argTypes.toList, c.args.toList.map (opv C env) with
  | .builtin .append, [t, t'], [x, y] => match ty with
   | some e => X8p C.P t t' e σ nx x y
   | none => X8o C.P t t' σ nx x y
  | .builtin .clear, [t], [x] => (Y2Y C.P t σ x).map fun σ' => (.tup [], σ', nx)
  | _, _, _ => none
 | _ => none
def eop (C : Cx) (ty : Option E) (op : Op) (env : Nat -> AV) (σ : Sto) (nx : Nat) : Option (AV × Sto × Nat) :=
 match op with
 | .buildSlice t len parts => match isSE ty with
  | some e => sop C e.1 e.2 (.buildSlice t len parts) env σ nx
  | none => eop0 C ty (.buildSlice t len parts) env σ nx
 | .load T a => match isSE ty with
  | some e => sop C e.1 e.2 (.load T a) env σ nx
  | none => none
 | .slice t x lo hi mx => match isSE ty with
  | some e => sop C e.1 e.2 (.slice t x lo hi mx) env σ nx
  | none => eop0 C ty (.slice t x lo hi mx) env σ nx
 | .call c => match isSE ty with
  | some e => sop C e.1 e.2 (.call c) env σ nx
  | none => eop0 C ty (.call c) env σ nx
 | op => eop0 C ty op env σ nx
section
variable {C : Cx} {B : Base} {kn : Kn} {m : Mp} {σ : Sto} {nx : Nat} {w : World}
def Y53 (C : Cx) (B : Base) (kn : Kn) (m : Mp) (σ : Sto) (nx : Nat) (x : AV) (σ' : Sto) (nx' : Nat) (r : Result Next) : Prop :=
 ∃ nxt u kn' m' w', r = .ok nxt w' /\ (nxt = .value u \/ (nxt = .skip /\ u = undef)) /\ KnLe kn kn' /\ Rel kn' m' x u /\ Inv C B kn' m' σ' nx' w' /\ Keep m σ nx m' σ' nx'
theorem X2z (w : World) (arr : Array Value) (T : TypeId) : (w.alloc (.cells arr T)).heap[w.heap.size]? = some (.cells arr T (0, 0)) := heap_alloc_new w _
theorem Y72 (hI : Inv C B kn m σ nx w) {T : TypeId} {x : AV} {v : Value} {cs : List AV} (hx : Rel kn m x v) (hc : X0O x = some cs) :
  ∃ u m' w', (Instr.box T v).run C.P w = .ok u w' /\ Rel kn m' (.ref σ.length nx 0) u /\ Inv C B kn m' (σ ++ [(nx, .cells T cs)]) (nx + 1) w' /\ Keep m σ nx m' (σ ++ [(nx, .cells T cs)]) (nx + 1) := by
 have hrl := hx.cells hc;have hmle : MpLe m (mput m nx ⟨w.heap.size, 0, 0, 0, 0, false⟩) := fun n l e => by
  rw [X0p]
  ·exact e
  intro en; subst en; rw [hI.dom n (Nat.le_refl _)] at e; cases e
 obtain ⟨h1, h2⟩ := hI.new (ob' := .cells T cs) (loc' := ⟨w.heap.size, 0, 0, 0, 0, false⟩) (w' := w.alloc (.cells v.cells T)) (by simp) rfl rfl rfl (.inr (Nat.le_refl _)) (by simp) (fun b hb => Below.heap_alloc _ _ _ hb)
  (by
   simp only [ObjRel, X0c];exact ⟨trivial, trivial, v.cells, X2z w v.cells T, hrl.mono (KnLe.refl _) hmle⟩)
 exact ⟨_, _, _, rfl, .ref _ _ _ _ (X0c _ _ _), h1, h2⟩
theorem X7B {nm esz ety : Nat} {rows : List (List AV)} {loc : Loc} {arr : Array Value} {w : World} (hm : m nm = some loc) (hnl : loc.nil = false) (hll : loc.len = rows.length) (he : loc.esz = esz) (hw : w.heap[loc.blk]? = some (.cells arr ety (0, 0))) (ho : loc.off = 0) (hs : loc.cap * esz <= arr.size)
  (hr : rows.length <= loc.cap) (hcm : loc.cap <= maxLen) (h1 : ∀ v ∈ arr.toList, v.oneCell' = true) (hrow : ∀ (i : Nat) (row : List AV), rows[i]? = some row -> row.length = esz)
  (hrel : ∀ (i : Nat) (row : List AV) (j : Nat) (x : AV) (v : Value), rows[i]? = some row -> row[j]? = some x -> arr[i * esz + j]? = some v -> Rel kn m x v) : GvRel kn m w nm esz ety rows :=
 ⟨loc, hm, hll, .inr ⟨hnl, he, arr, hw, by omega, hr, hcm, h1, hrow, fun i row j x v a b c => hrel i row j x v a b (by rwa [ho, Nat.zero_add] at c)⟩⟩
theorem le62 {n : Nat} (h : n <= 4611686018427387904) : n <= 2 ^ 62 := h
theorem Y6n {n : Nat} (h : n <= 4611686018427387904) : n <= maxLen := by unfold maxLen; omega
theorem X3m (hI : Inv C B kn m σ nx w) {t len e sz by_ : Nat} {z : List AV} {rows : List (List AV)} {parts : List (Nat × AV)} {parts' : Array (Nat × Value)} (he : elmT C.P t = some (e, sz, by_)) (hz : zeroCells C.P e = some z)
  (hs0 : 0 < sz) (hzl : z.length = sz) (hlim : len * sz <= 16777216) (hr : X4o sz (List.replicate len z) parts = some rows) (hl : parts.length = parts'.size)
  (hp : ∀ (i : Nat) (p : Nat × AV) (p' : Nat × Value), parts[i]? = some p -> parts'[i]? = some p' -> p.1 = p'.1 /\ Rel kn m p.2 p'.2) :
  ∃ u m' w', (Instr.buildSlice t len parts').run C.P w = .ok u w' /\ Rel kn m' (.sref σ.length nx sz 0 len) u /\ Inv C B kn m' (σ ++ [(nx, .gvec sz e rows)]) (nx + 1) w' /\ Keep m σ nx m' (σ ++ [(nx, .gvec sz e rows)]) (nx + 1) := by
 obtain ⟨arr, hrun, hfl, has, hrl⟩ := X2c hI he hz hs0 hzl hlim hr hl hp;have hlen : len <= 16777216 := by have : len * 1 <= len * sz := Nat.mul_le_mul_left _ hs0; omega
 have hmle : MpLe m (mput m nx ⟨w.heap.size, 0, len, sz, len, false⟩) := fun n l e => by
  rw [X0p]
  ·exact e
  intro en; subst en; rw [hI.dom n (Nat.le_refl _)] at e; cases e
 obtain ⟨h1, h2⟩ := hI.new (ob' := .gvec sz e rows) (loc' := ⟨w.heap.size, 0, len, sz, len, false⟩) (w' := w.alloc (.cells arr e)) (by simp) rfl rfl rfl (.inr (Nat.le_refl _)) (by simp) (fun b hb => Below.heap_alloc _ _ _ hb)
  (X7B (X0c _ _ _) rfl hrl.symm rfl (X2z w arr e) rfl (by rw [has]; exact Nat.le_refl _) (by rw [hrl]; exact Nat.le_refl _) (by show len <= maxLen; unfold maxLen; omega) hfl.2.2 hfl.1
   (fun i row j x v a b c => (hfl.2.1 i row j x v a b (by simpa using c)).mono (KnLe.refl _) hmle))
 refine ⟨_, _, _, hrun, ?_, h1, h2⟩;have := Rel.sref (kn := kn) (m := mput m nx ⟨w.heap.size, 0, len, sz, len, false⟩) σ.length nx sz 0 len _ (X0c _ _ _) rfl rfl (by simp) (le62 (by omega));simpa using this
theorem X4q {g : Nat} {o : Nat} {ty : TypeId} {cur : Array Value} {T n : Nat} {v : Value} (hg : w.heap[g]? = some (.cells cur ty (0, 0))) (hT : szT C.P T = some n) (hn : v.cells.size = n) (hfit : o + n <= cur.size) (h1 : ∀ u ∈ v.cells.toList, u.oneCell' = true) :
  (Instr.storeAt T (.pointer (some ⟨g, o, none⟩)) v).run C.P w = .ok () (w.setRow g (cur.toList.take o ++ (v.cells.toList ++ cur.toList.drop (o + n))).toArray) := by
 have hst := run_storeCells_at C.P g o ty v.cells.toList 0 cur w hg (by simp [hn]; exact hfit) h1;simp only [Nat.add_zero, List.append_assoc] at hst;simp only [Instr.storeAt, Instr.sureAddr, storeVar, Sem.run_bind, Sem.run_pure, Result.andThen_ok, X0l hT, hn];simp [hst, hn]
theorem Y1J {α β : Type} {f : α -> Option β} : ∀ {ags : List α} {bs : List β}, mapO f ags = some bs -> bs.length = ags.length /\ ∀ (i : Nat) (b : β), bs[i]? = some b -> ∃ a, ags[i]? = some a /\ f a = some b
 | [], bs, h => by simp only [mapO, Option.some.injEq] at h; subst h; exact ⟨rfl, fun i b h => by simp at h⟩
 | a :: t, bs, h => by
  simp only [mapO] at h;split at h
  ·rename_i b l hb hl;cases h;obtain ⟨h1, h2⟩ := Y1J hl;refine ⟨by simp [h1], fun i c hc => ?_⟩;cases i with
   | zero => simp at hc; subst hc; exact ⟨a, rfl, hb⟩
   | succ i => simp at hc; simpa using h2 i c hc
  cases h
theorem Z2B {esz esz' : Nat} {rows rows' : List (List AV)} {v : Value} (h : Rel kn m (.vec esz rows) v) (he : esz = esz') (hl : rows'.length = rows.length)
  (hr : ∀ (i : Nat) (row row' : List AV), rows[i]? = some row -> rows'[i]? = some row' -> row'.length = esz' /\ ∀ us, RelL kn m row us -> RelL kn m row' us) : Rel kn m (.vec esz' rows') v := by
 subst he;cases h with
 | vecNil _ a cap => have : rows' = [] := List.eq_nil_of_length_eq_zero (by simpa using hl); subst this; exact .vecNil _ _ _
 | vecNone _ => have : rows' = [] := List.eq_nil_of_length_eq_zero (by simpa using hl); subst this; exact .vecNone _
 | vec _ _ b o cap vals hc hm hrow hk hr' h1 =>
  have get : ∀ (i : Nat) (row' : List AV), rows'[i]? = some row' -> ∃ row, rows[i]? = some row := fun i row' e => by
   have := (List.getElem?_eq_some_iff.1 e).1;exact ⟨rows[i]'(by omega), List.getElem?_eq_getElem (by omega)⟩
  have lk : ∀ (i : Nat) (row row' : List AV) (j : Nat) (x : AV), rows[i]? = some row -> rows'[i]? = some row' -> row'[j]? = some x -> ∃ y, row[j]? = some y := fun i row row' j x e e' ej => by
   have h1 := (List.getElem?_eq_some_iff.1 ej).1;have h2 := (hr i row row' e e').1;have h3 := hrow i row e;exact ⟨row[j]'(by omega), List.getElem?_eq_getElem (by omega)⟩
  have := Rel.vec (kn := kn) (m := m) esz rows' b o cap vals (by omega) (by omega) (fun i row' e => (get i row' e).elim fun row er => (hr i row row' er e).1)
   (fun i row' j x e ej => by obtain ⟨row, er⟩ := get i row' e; obtain ⟨y, ey⟩ := lk i row row' j x er e ej; exact hk i row j y er ey)
   (fun i row' j x e ej => by
    obtain ⟨row, er⟩ := get i row' e;have hrl := (hr i row row' er e).2 ((List.range row.length).map fun j => vals i j) ⟨by simp, fun k y v a b => by
     have hk := (List.getElem?_eq_some_iff.1 a).1;simp [hk] at b; subst b; exact hr' i row k y er a⟩
    have hj := (List.getElem?_eq_some_iff.1 ej).1;have hjr : j < row.length := by rw [hrow i row er]; rw [(hr i row row' er e).1] at hj; exact hj
    exact hrl.2 j x _ ej (by simp [hjr]))
   (fun i row' j x e ej => by obtain ⟨row, er⟩ := get i row' e; obtain ⟨y, ey⟩ := lk i row row' j x er e ej; exact h1 i row j y er ey)
  rw [hl] at this;exact this
theorem X5g {e : E} {rec : List AV -> Option e.den} (hrec : ∀ cs x, rec cs = some x -> ∀ us, RelL kn m cs us -> RelL kn m (e.row x) us) {s : AV} {l : List e.den} (h : Y9c e rec s = some l) {v : Value} (hv : Rel kn m s v) :
  Rel kn m (.vec e.size (l.map e.row)) v := by
 unfold Y9c at h;split at h
 ·split at h
  ·rename_i hh; subst hh; cases h; exact X1R.1 hv
  cases h
 ·cases h; cases hv; exact .vecNone _
 ·cases h; cases hv; exact .vecNil _ _ _
 ·cases h; cases hv
  ·exact .vecNil _ _ _
  exact .vecNone _
 ·split at h
  ·rename_i he;obtain ⟨hl, hg⟩ := Y1J h;refine Z2B hv he (by simp [hl]) fun i row row' hi hi' => ?_
   rw [List.getElem?_map] at hi';cases hx : l[i]? with
   | none => simp [hx] at hi'
   | some x =>
    simp only [hx, Option.map_some, Option.some.injEq] at hi';subst hi';obtain ⟨a, ha, hf⟩ := hg i x hx;rw [hi] at ha; cases ha;exact ⟨E.row_len _ _, fun us => hrec row x hf us⟩
  cases h
 cases h
theorem X2K {c : AV} {us : List Value} : RelL kn m [c] us ↔ ∃ v, us = [v] /\ Rel kn m c v := by
 rw [RelL.cons_iff];constructor
 ·rintro ⟨v, us', rfl, h1, h2⟩;have : us' = [] := List.eq_nil_of_length_eq_zero (by have := h2.1; simpa using this.symm);subst this; exact ⟨v, rfl, h1⟩
 rintro ⟨v, rfl, h⟩; exact ⟨v, [], rfl, h, .nil _ _⟩
theorem Y1l {rec : (e : E) -> List AV -> Option e.den} (ih : ∀ e cs x, rec e cs = some x -> ∀ us, RelL kn m cs us -> RelL kn m (e.row x) us) : ∀ (e : E) (cs : List AV) (x : e.den), Y9d rec e cs = some x -> ∀ us, RelL kn m cs us -> RelL kn m (e.row x) us
 | .int k, cs, x, h, us, hr => by
  replace h : Y88 k cs = some x := h
  unfold Y88 at h;split at h
  ·split at h
   ·rename_i hk; subst hk; cases h; exact hr
   cases h
  cases h
 | .bool, cs, x, h, us, hr => by
  replace h : Y4v cs = some x := h
  unfold Y4v at h;split at h
  ·cases h; exact hr
  cases h
 | .str, cs, x, h, us, hr => by
  replace h : Y9e cs = some x := h
  unfold Y9e at h;split at h
  ·cases h; exact hr
  cases h
 | .erri, cs, x, h, us, hr => by
  replace h : Y4w cs = some x := h
  unfold Y4w at h;split at h
  ·cases h; exact hr
  ·cases h; obtain ⟨v, rfl, hv⟩ := X2K.1 hr; cases hv; exact X2K.2 ⟨_, rfl, .erriNil⟩
  ·cases h; obtain ⟨v, rfl, hv⟩ := X2K.1 hr; cases hv; exact X2K.2 ⟨_, rfl, .erriSome _ _⟩
  cases h
 | .form, cs, x, h, us, hr => by
  replace h : Y4x (rec .form) cs = some x := h
  unfold Y4x at h;split at h
  ·rename_i k n t s;obtain ⟨l, hl, rfl⟩ := Option.map_eq_some_iff.1 h;have hs : ∀ v, Rel kn m s v -> Rel kn m (.vec 4 (Fm.rows l)) v := fun v hv => by
    rw [Fm.rows_map];exact X5g (e := .form) (fun cs x h us hr => ih .form cs x h us hr) hl hv
   show RelL kn m [.int .i64 k, .int .i64 n, .str t, .vec 4 (Fm.rows l)] us;simp only [RelL.cons_iff] at hr ⊢;obtain ⟨v1, u1, rfl, h1, v2, u2, rfl, h2, v3, u3, rfl, h3, v4, u4, rfl, h4, h5⟩ := hr;exact ⟨v1, _, rfl, h1, v2, _, rfl, h2, v3, _, rfl, h3, v4, _, rfl, hs _ h4, h5⟩
  cases h
 | .un, cs, x, h, us, hr => by
  replace h : Z3B cs = some x := h
  unfold Z3B at h;split at h
  ·exact hr
  cases h
 | .pr a b, cs, x, h, us, hr => by
  replace h : Z3A (rec a (cs.take a.size)) (rec b (cs.drop a.size)) = some x := h
  unfold Z3A at h;split at h
  ·rename_i x y hx hy;cases h;show RelL kn m (a.row x ++ b.row y) us;have hr' : RelL kn m (cs.take a.size ++ cs.drop a.size) us := by rw [List.take_append_drop]; exact hr
   obtain ⟨u1, u2, rfl, h1, h2⟩ := RelL.append_iff.1 hr';exact (ih a _ x hx u1 h1).append (ih b _ y hy u2 h2)
  cases h
 | .slice e, cs, x, h, us, hr => by
  replace h : Y89 e (rec e) cs = some x := h
  unfold Y89 at h;split at h
  ·rename_i s;obtain ⟨v, rfl, hv⟩ := X2K.1 hr;exact X2K.2 ⟨v, rfl, X5g (fun cs x h us hr => ih e cs x h us hr) h hv⟩
  cases h
theorem X1E : ∀ (f : Nat) (e : E) (cs : List AV) (x : e.den), absC f e cs = some x -> ∀ us, RelL kn m cs us -> RelL kn m (e.row x) us
 | 0, _, _, _, h, _, _ => by cases h
 | f + 1, e, cs, x, h, us, hr => Y1l (fun e cs x h us hr => X1E f e cs x h us hr) e cs x h us hr
theorem GvRel.conv {nm esz ety : Nat} {rows rows' : List (List AV)} (h : GvRel kn m w nm esz ety rows) (hl : rows'.length = rows.length)
  (hr : ∀ (i : Nat) (row row' : List AV), rows[i]? = some row -> rows'[i]? = some row' -> row'.length = esz /\ ∀ us, RelL kn m row us -> RelL kn m row' us) : GvRel kn m w nm esz ety rows' := by
 obtain ⟨loc, hm, hll, h⟩ := h;refine ⟨loc, hm, by omega, ?_⟩;rcases h with ⟨h1, h2⟩ | ⟨hnl, he, arr, hw, hsz, hle, hmx, hone, hrl, hrr⟩
 ·refine .inl ⟨h1, List.eq_nil_of_length_eq_zero ?_⟩;rw [hl, h2]; rfl
 have get : ∀ (i : Nat) (row' : List AV), rows'[i]? = some row' -> ∃ row, rows[i]? = some row := fun i row' e => by
  have := (List.getElem?_eq_some_iff.1 e).1;exact ⟨rows[i]'(by omega), List.getElem?_eq_getElem (by omega)⟩
 refine .inr ⟨hnl, he, arr, hw, hsz, by omega, hmx, hone, fun i row' e => (get i row' e).elim fun row er => (hr i row row' er e).1, fun i row' j x v e ej ev => ?_⟩;obtain ⟨row, er⟩ := get i row' e;have hrow := hrl i row er;have hir : i < rows.length := (List.getElem?_eq_some_iff.1 er).1;have hin : ∀ k, k < esz -> loc.off + i * esz + k < arr.size := fun k hk => by
  have : i * esz + esz <= loc.cap * esz := by
   rw [<- Nat.succ_mul]; exact Nat.mul_le_mul_right _ (by omega)
  omega
 have hrl2 := (hr i row row' er e).2 ((List.range esz).map fun k => arr.getD (loc.off + i * esz + k) undef) ⟨by simp [hrow], fun k y v a b => by
  have hk : k < esz := by rw [<- hrow]; exact (List.getElem?_eq_some_iff.1 a).1
  simp [hk] at b;refine hrr i row k y v er a ?_;rw [<- b]; simp [hin k hk]⟩
 have hj : j < esz := by rw [<- (hr i row row' er e).1]; exact (List.getElem?_eq_some_iff.1 ej).1
 refine hrl2.2 j x v ej ?_;simp [hj];have := hin j hj;simp [this] at ev ⊢;exact ev
def Fr (kn : Kn) (w w' : World) : Prop := ∀ b o v, kn b o = some v -> w'.heap[b]? = w.heap[b]?
theorem Y5k {nm esz ety i off n : Nat} {rows : List (List AV)} {row cs vs row'' : List AV} {loc : Loc} {T : TypeId} {v : Value} (hgv : GvRel kn m w nm esz ety rows) (hm : m nm = some loc) (hnl : loc.nil = false)
  (hrow : rows[i]? = some row) (hcs : ∀ us, RelL kn m row us -> RelL kn m cs us) (hcl : cs.length = esz)
  (hT : szT C.P T = some n) (hvn : v.cells.size = n) (hv : RelC kn m vs v.cells.toList) (hlen : vs.length = n) (hfit : off + vs.length <= cs.length)
  (hrow'' : ∀ us, RelL kn m (cs.take off ++ (vs ++ cs.drop (off + vs.length))) us -> RelL kn m row'' us) (hrl'' : row''.length = esz) :
  ∃ w', (Instr.storeAt T (.pointer (some ⟨loc.blk, loc.off + i * loc.esz + off, none⟩)) v).run C.P w = .ok () w' /\ w'.heap.size = w.heap.size /\ w'.os = w.os /\ w'.tape = w.tape /\ w'.output = w.output /\ (∀ b, b ≠ loc.blk -> w'.heap[b]? = w.heap[b]?) /\
   (∀ o, o < loc.off + i * loc.esz -> w'.cell? ⟨loc.blk, o, none⟩ = w.cell? ⟨loc.blk, o, none⟩) /\ GvRel kn m w' nm esz ety (rows.set i row'') := by
 obtain ⟨hll, he, arr, hw, hsz, hle, hmx, hone, hrl, hrr⟩ := hgv.get hm hnl;subst he;have hir : i < rows.length := (List.getElem?_eq_some_iff.1 hrow).1;have hrowl := hrl i row hrow;have hoff : i * loc.esz + loc.esz <= loc.cap * loc.esz := by rw [<- Nat.succ_mul]; exact Nat.mul_le_mul_right _ (by omega)
 have hfit' : loc.off + i * loc.esz + off + n <= arr.size := by omega
 have hrun := X4q (C := C) (w := w) (o := loc.off + i * loc.esz + off) (T := T) (v := v) hw hT hvn hfit' hv.2;have hvl : v.cells.toList.length = n := by simpa using hvn
 have hget : ∀ k, (arr.toList.take (loc.off + i * loc.esz + off) ++ (v.cells.toList ++ arr.toList.drop (loc.off + i * loc.esz + off + n)))[k]? = if loc.off + i * loc.esz + off <= k /\ k < loc.off + i * loc.esz + off + n then v.cells.toList[k - (loc.off + i * loc.esz + off)]? else arr.toList[k]? := fun k => by
  have := X2o arr.toList v.cells.toList (loc.off + i * loc.esz + off) k (by rw [hvl]; simpa using hfit');rw [hvl] at this; exact this
 have hin : ∀ k, k < loc.esz -> loc.off + i * loc.esz + k < arr.size := fun k hk => by omega
 have hold : RelL kn m cs ((List.range loc.esz).map fun k => arr.getD (loc.off + i * loc.esz + k) undef) := hcs _ ⟨by simp [hrowl], fun k y u a b => by
  have hk : k < loc.esz := by rw [<- hrowl]; exact (List.getElem?_eq_some_iff.1 a).1
  simp [hk] at b;refine hrr i row k y u hrow a ?_;rw [<- b]; simp [hin k hk]⟩
 have hnew := hrow'' _ ((hold.take off).append (hv.1.append (hold.drop (off + vs.length))));refine ⟨w.setRow loc.blk (arr.toList.take (loc.off + i * loc.esz + off) ++ (v.cells.toList ++ arr.toList.drop (loc.off + i * loc.esz + off + n))).toArray, hrun, by simp, rfl, rfl, rfl, fun b hb => setRow_other _ _ _ _ hb, fun o ho => ?_, ?_⟩
 ·have h1 := setRow_heap w loc.blk arr (arr.toList.take (loc.off + i * loc.esz + off) ++ (v.cells.toList ++ arr.toList.drop (loc.off + i * loc.esz + off + n))).toArray ety (0, 0) hw;have h2 : (arr.toList.take (loc.off + i * loc.esz + off) ++ (v.cells.toList ++ arr.toList.drop (loc.off + i * loc.esz + off + n))).toArray[o]? = arr[o]? := by
   rw [List.getElem?_toArray, hget, if_neg (fun hh => by omega), Array.getElem?_toList]
  simp only [World.cell?, h1, hw];simpa using h2
 refine ⟨loc, hm, by simpa using hll, .inr ⟨hnl, rfl, _, setRow_heap w loc.blk arr _ ety (0, 0) hw, ?_, by simpa using hle, hmx, fun u hu => ?_, fun k r hk => ?_, fun k r j y u hk hj hu => ?_⟩⟩
 ·rw [List.size_toArray];have := X3k arr.toList v.cells.toList (loc.off + i * loc.esz + off) (by rw [hvl]; simpa using hfit');rw [hvl] at this;rw [this]; simpa using hsz
 ·simp only [List.mem_append] at hu;rcases hu with hu | hu | hu
  ·exact hone u (List.mem_of_mem_take hu)
  ·exact hv.2 u hu
  exact hone u (List.mem_of_mem_drop hu)
 ·rw [List.getElem?_set] at hk;split at hk
  ·cases hk; exact hrl''
  exact hrl k r hk
 rw [List.getElem?_toArray, hget] at hu;rw [List.getElem?_set] at hk;split at hk
 ·rename_i hki;subst hki;cases hk;have hjl : j < loc.esz := by rw [<- hrl'']; exact (List.getElem?_eq_some_iff.1 hj).1
  refine hnew.2 j y u hj ?_;have hlt : (((List.range loc.esz).map fun k => arr.getD (loc.off + i * loc.esz + k) undef).take off).length = off := by simp; omega
  by_cases h1 : j < off
  ·rw [List.getElem?_append_left (by omega), List.getElem?_take, if_pos h1];rw [if_neg (by omega)] at hu;simp [hjl];have := hin j hjl;simp [this] at hu ⊢;exact hu
  rw [List.getElem?_append_right (by omega), hlt]
  by_cases h2 : j < off + n
  ·rw [List.getElem?_append_left (by omega)];rw [if_pos ⟨by omega, by omega⟩] at hu;rw [<- hu]; congr 1; omega
  rw [List.getElem?_append_right (by omega), List.getElem?_drop, hvl, hlen];rw [if_neg (by omega)] at hu;rw [show off + n + (j - off - n) = j by omega];simp [hjl];have := hin j hjl;simp [this] at hu ⊢;exact hu
 rename_i hki;have hjl : j < loc.esz := by rw [<- hrl k r hk]; exact (List.getElem?_eq_some_iff.1 hj).1
 rw [if_neg (fun hh => hki (Y9V hjl (by omega) (by omega)).symm)] at hu;exact hrr k r j y u hk hj (by simpa using hu)
theorem Y3S (hI : Inv C B kn m σ nx w) {p nm esz ety i off n : Nat} {ob ob' : AObj} {rows : List (List AV)} {row cs vs row'' : List AV} {loc : Loc} {T : TypeId} {v : Value}
  (hp : σ[p]? = some (nm, ob)) (hl : live ob) (hg : ObjRel C.P B kn m w nm ob -> GvRel kn m w nm esz ety rows) (hm : m nm = some loc) (hrow : rows[i]? = some row) (hcs : ∀ us, RelL kn m row us -> RelL kn m cs us) (hcl : cs.length = esz)
  (hT : szT C.P T = some n) (hvn : v.cells.size = n) (hv : RelC kn m vs v.cells.toList) (hlen : vs.length = n) (hfit : off + vs.length <= cs.length)
  (hrow'' : ∀ us, RelL kn m (cs.take off ++ (vs ++ cs.drop (off + vs.length))) us -> RelL kn m row'' us) (hrl'' : row''.length = esz)
  (hg' : ∀ w', Fr kn w w' -> GvRel kn m w' nm esz ety (rows.set i row'') -> ObjRel C.P B kn m w' nm ob') (hsk : X0D ob' = true -> X0D ob = true := by intro h; first | rfl | cases h) (hnh : X0K ob = false := by rfl) :
  ∃ w', (Instr.storeAt T (.pointer (some ⟨loc.blk, loc.off + i * loc.esz + off, none⟩)) v).run C.P w = .ok () w' /\ Inv C B kn m (σ.set p (nm, ob')) nx w' /\ Keep m σ nx m (σ.set p (nm, ob')) nx := by
 have hgv := hg (hI.obj _ _ _ hp);have hnl : loc.nil = false := by
  cases hx : loc.nil with
  | false => rfl
  | true => rw [hgv.nilRows hm hx] at hrow; simp at hrow
 obtain ⟨w', h1, h2, h3, h4, h5, h6, _, h8⟩ := Y5k hgv hm hnl hrow hcs hcl hT hvn hv hlen hfit hrow'' hrl'';obtain ⟨q1, q2⟩ := hI.write (ob' := ob') hp hl hm hnl h2 h3 h4 h5 h6 (hsk := hsk) (hnh := hnh) (hg' _ (fun b o u e => h6 b (fun eb => by rw [eb, (hI.own p nm ob loc hp hl hm hnl).2.2 hnh o] at e; cases e)) h8);exact ⟨w', h1, q1, q2⟩
theorem Y5y (hI : Inv C B kn m σ nx w) {T : TypeId} {a x : AV} {av v : Value} {σ' : Sto} (h : X2B C.P T σ a x = some σ') (ha : Rel kn m a av) (hx : Rel kn m x v) :
  ∃ w', (Instr.storeAt T av v).run C.P w = .ok () w' /\ Inv C B kn m σ' nx w' /\ Keep m σ nx m σ' nx := by
 unfold X2B at h;split at h
 ·rename_i vs n hvs hT;split at h
  ·rename_i hlen;have hv := hx.cells hvs;have hvn : v.cells.size = n := by rw [<- Array.length_toList, <- hv.1.1]; exact hlen
   cases ha with
   | ref p nm off loc hm =>
    simp only at h;split at h
    ·rename_i T' cs hs;have hp := X0j hs;unfold X2A at h;split at h
     ·rename_i hfit;simp only [Option.map_some, Option.some.injEq] at h;subst h;have hob := hI.obj _ _ _ hp;simp only [ObjRel, hm] at hob;obtain ⟨hnl, h0, arr, hw, hrl⟩ := hob;have hfit' : off + n <= arr.size := by rw [<- Array.length_toList, <- hrl.1.1]; omega
      have hrun := X4q (C := C) (w := w) (o := loc.off + off) (T := T) (v := v) hw hT hvn (by rw [h0]; omega) hv.2;rw [h0, Nat.zero_add] at hrun
      obtain ⟨q1, q2⟩ := hI.write (ob' := .cells T' (cs.take off ++ (vs ++ cs.drop (off + vs.length)))) hp trivial hm hnl (w' := w.setRow loc.blk (arr.toList.take off ++ (v.cells.toList ++ arr.toList.drop (off + n))).toArray) (by simp) rfl rfl rfl
       (fun b hb => setRow_other _ _ _ _ hb)
       (by
        simp only [ObjRel, hm];refine ⟨hnl, h0, _, setRow_heap w loc.blk arr _ T' (0, 0) hw, ?_⟩;have e := (hrl.take off).append (hv.append (hrl.drop (off + vs.length)));rw [hlen] at e ⊢;simpa using e)
      exact ⟨_, by rw [h0, Nat.zero_add]; exact hrun, q1, q2⟩
     simp at h
    cases h
   | eref p nm i off loc hm =>
    simp only at h;split at h
    ·rename_i esz ety rows hs;have hp := X0j hs;split at h
     ·rename_i row hrow;unfold X2A at h;split at h
      ·rename_i hfit;simp only [Option.map_some, Option.some.injEq] at h;subst h;have hesz : row.length = esz := by
        obtain ⟨_, _, _, _, _, h, _⟩ := (show GvRel kn m w nm esz ety rows from hI.obj _ _ _ hp).row hm hrow;exact h
       exact Y3S hI hp trivial (fun h => h) hm hrow (fun _ h => h) hesz hT hvn hv hlen hfit (fun _ h => h) (by simp; omega) (fun _ _ h => h)
      simp at h
     cases h
    ·rename_i e ety l hs;have hp := X0j hs;split at h
     ·rename_i hil;obtain ⟨row', hrow', h⟩ := Option.bind_eq_some_iff.1 h;obtain ⟨y, hy, rfl⟩ := Option.map_eq_some_iff.1 h;unfold X2A at hrow';split at hrow'
      ·rename_i hfit;cases hrow';refine Y3S hI hp trivial (fun h => h) (esz := e.size) (rows := l.map e.row) (row := e.row (l.getD i e.dflt)) (row'' := e.row y) hm (by simp [hil]) (fun us h => (E.rel_cells e _ us).2 h) (E.cells_len _ _) hT hvn hv hlen hfit (fun us h => X1E _ _ _ _ hy us h) (E.row_len _ _) (fun w' _ h => ?_);have e1 : (l.set i y).map e.row = (l.map e.row).set i (e.row y) := by rw [List.map_set]
       show GvRel _ _ _ _ _ _ ((l.set i y).map e.row);rw [e1]; exact h
      cases hrow'
     cases h
    cases h
   | _ => cases h
  cases h
 cases h
theorem Y4K {sz : Nat} (hs0 : 0 < sz) {rows : List (List AV)} (hrow : ∀ (i : Nat) (row : List AV), rows[i]? = some row -> row.length = sz) (vals : Nat -> Nat -> Value)
  (hr : ∀ (i : Nat) (row : List AV) (j : Nat) (x : AV), rows[i]? = some row -> row[j]? = some x -> Rel kn m x (vals i j))
  (h1 : ∀ (i : Nat) (row : List AV) (j : Nat) (x : AV), rows[i]? = some row -> row[j]? = some x -> (vals i j).oneCell' = true) :
  Flat kn m sz rows ((List.range (rows.length * sz)).map fun k => vals (k / sz) (k % sz)) := by
 refine ⟨hrow, fun i row j x v hi hj hv => ?_, fun v hv => ?_⟩
 ·have hjl : j < sz := by rw [<- hrow i row hi]; exact (List.getElem?_eq_some_iff.1 hj).1
  have hlt := X1H (List.getElem?_eq_some_iff.1 hi).1 hjl;rw [List.getElem?_map, List.getElem?_range hlt] at hv;simp only [Option.map_some, Option.some.injEq] at hv;have e1 : (i * sz + j) / sz = i := by rw [Nat.mul_comm, Nat.mul_add_div hs0, Nat.div_eq_of_lt hjl]; omega
  have e2 : (i * sz + j) % sz = j := by rw [Nat.mul_add_mod_self_right, Nat.mod_eq_of_lt hjl]
  rw [e1, e2] at hv;subst hv;exact hr i row j x hi hj
 rw [List.mem_map] at hv;obtain ⟨k, hk, rfl⟩ := hv;have hk' : k < rows.length * sz := List.mem_range.1 hk;have hq : k / sz < rows.length := (Nat.div_lt_iff_lt_mul hs0).2 hk';have hi : rows[k / sz]? = some rows[k / sz] := List.getElem?_eq_getElem hq;have hj : k % sz < rows[k / sz].length := by rw [hrow _ _ hi]; exact Nat.mod_lt _ hs0
 exact h1 _ _ _ _ hi (List.getElem?_eq_getElem hj)
def X6h (C : Cx) (kn : Kn) (m : Mp) (w : World) (sz : Nat) (ys : List (List AV)) (yv : Value) : Prop :=
 ∃ news : List Value, news.length = ys.length * sz /\ Flat kn m sz ys news /\ ∀ w2 : World, w2.heap = w.heap -> (Builtin.lenOf yv).run C.P w2 = .ok ys.length w2 /\ (Builtin.firstCells sz ys.length yv).run C.P w2 = .ok news.toArray w2
theorem Y9v {w w2 : World} (h : w2.heap = w.heap) (a : Addr) : w2.cell? a = w.cell? a := by unfold World.cell?; rw [h]
theorem X3H {P : Program} {w : World} (b o n : Nat) (news : List Value) (hl : news.length = n) (h : ∀ (k : Nat) (v : Value), news[k]? = some v -> w.cell? ⟨b, o + k, none⟩ = some v) (w2 : World) (hw : w2.heap = w.heap) :
  (loadCells ⟨b, o, none⟩ n).run P w2 = .ok news.toArray w2 := by
 have := run_loadCells_list (P := P) w2 ⟨b, o, none⟩ news (fun k v hv => by rw [X2F, Y9v hw]; exact h k v hv)
 rwa [hl] at this
theorem X16 {sz : Nat} {yv : Value} (h : ∃ a c, yv = .slice a 0 c) : X6h C kn m w sz [] yv := by
 obtain ⟨a, c, rfl⟩ := h;refine ⟨[], by simp, ⟨fun i row h => by simp at h, fun i row j x v h => by simp at h, fun v h => by simp at h⟩, fun w2 hw => ⟨rfl, ?_⟩⟩;cases a with
 | none => rfl
 | some ad => simp [Builtin.firstCells, loadCells, loadCellsFrom]
theorem X5l (hI : Inv C B kn m σ nx w) {sz : Nat} (hs0 : 0 < sz) {y : AV} {yv : Value} {ys : List (List AV)} (h : X5T sz σ y = some ys) (hy : Rel kn m y yv) : X6h C kn m w sz ys yv := by
 unfold X5T at h;split at h
 ·split at h
  ·rename_i hc;cases h;cases hy with
   | vecNil _ a cap => exact X16 ⟨a, cap, rfl⟩
   | vecNone _ => exact X16 ⟨none, 0, rfl⟩
   | vec _ _ b o cap vals hcp hm hrow hk hr h1 =>
    by_cases hnil : ys = []
    ·subst hnil; exact X16 ⟨_, cap, rfl⟩
    have he := hc.resolve_right hnil;simp only [he] at hrow hk;refine ⟨_, by simp, Y4K hs0 hrow vals hr h1, fun w2 hw => ⟨rfl, ?_⟩⟩;refine X3H b o _ _ (by simp) (fun k v hv => ?_) w2 hw;have hk' : k < ys.length * sz := by
     have := (List.getElem?_eq_some_iff.1 hv).1;simpa using this
    rw [List.getElem?_map, List.getElem?_range hk'] at hv;simp only [Option.map_some, Option.some.injEq] at hv;subst hv;have hq : k / sz < ys.length := (Nat.div_lt_iff_lt_mul hs0).2 hk';have hi : ys[k / sz]? = some ys[k / sz] := List.getElem?_eq_getElem hq;have hj : k % sz < ys[k / sz].length := by rw [hrow _ _ hi]; exact Nat.mod_lt _ hs0
    have := hI.knok _ _ _ (hk _ _ _ _ hi (List.getElem?_eq_getElem hj));rw [show o + k / sz * sz + k % sz = o + k by rw [Nat.add_assoc, Nat.div_add_mod' k _]] at this;exact this
  cases h
 ·rename_i p nm esz off len;split at h
  ·rename_i esz' ety rows hs;split at h
   ·rename_i hc;cases h;obtain ⟨rfl, rfl, hle⟩ := hc;cases hy with
    | srefNil _ _ _ loc hm hn => simpa using X16 ⟨none, 0, rfl⟩
    | sref _ _ _ _ _ loc hm hn he hl hm' =>
     obtain ⟨hll, he', arr, hw, hsz, hle', hmx, hone, hrl, hrr⟩ := GvRel.get (hI.obj _ _ _ (X0j hs)) hm hn;have hlen : ((rows.drop off).take len).length = len := by simp; omega
     have hsub : ∀ (i : Nat) (row : List AV), ((rows.drop off).take len)[i]? = some row -> i < len /\ rows[off + i]? = some row := fun i row hi => by
      rw [List.getElem?_take] at hi;split at hi
      ·rename_i hil; rw [List.getElem?_drop] at hi; exact ⟨hil, hi⟩
      cases hi
     have hin : ∀ i j, i < len -> j < esz' -> loc.off + (off + i) * esz' + j < arr.size := fun i j hi hj => by
      have h1 := X1H (show off + i < loc.cap by omega) hj;omega
     have hmem : ∀ i j, i < len -> j < esz' -> w.cell? ⟨loc.blk, loc.off + (off + i) * esz' + j, none⟩ = some (arr.getD (loc.off + (off + i) * esz' + j) undef) := fun i j hi hj => by
      have := hin i j hi hj;simp [World.cell?, hw, this]
     have fm := Y4K (kn := kn) (m := m) hs0 (rows := (rows.drop off).take len) (fun i row hi => hrl _ _ (hsub i row hi).2) (fun i j => arr.getD (loc.off + (off + i) * esz' + j) undef)
      (fun i row j x hi hj => by
       obtain ⟨hil, hi'⟩ := hsub i row hi;have hjl : j < esz' := by rw [<- hrl _ _ hi']; exact (List.getElem?_eq_some_iff.1 hj).1
       exact hrr _ _ _ _ _ hi' hj (by simp [hin i j hil hjl]))
      (fun i row j x hi hj => by
       obtain ⟨hil, hi'⟩ := hsub i row hi;have hjl : j < esz' := by rw [<- hrl _ _ hi']; exact (List.getElem?_eq_some_iff.1 hj).1
       exact hone _ (by simp [hin i j hil hjl]))
     refine ⟨_, by simp, fm, fun w2 hw2 => ⟨by rw [hlen]; rfl, ?_⟩⟩;refine X3H loc.blk (loc.off + off * loc.esz) _ _ (by simp) (fun k v hv => ?_) w2 hw2;have hk' : k < ((rows.drop off).take len).length * esz' := by
      have := (List.getElem?_eq_some_iff.1 hv).1;simpa using this
     rw [List.getElem?_map, List.getElem?_range hk'] at hv;simp only [Option.map_some, Option.some.injEq] at hv;subst hv;rw [hlen] at hk';have hq : k / esz' < len := (Nat.div_lt_iff_lt_mul hs0).2 hk';have := hmem (k / esz') (k % esz') hq (Nat.mod_lt _ hs0);rw [<- this]
     congr 2
     rw [he, Nat.add_mul];have := Nat.div_add_mod' k esz';omega
   cases h
  cases h
 ·cases hy; cases h; exact X16 ⟨none, 0, rfl⟩
 ·cases h; cases hy
  ·exact X16 ⟨_, 0, rfl⟩
  exact X16 ⟨none, 0, rfl⟩
 cases h
theorem Y26 {l : List UInt8} : X6h C kn m w 1 (X2M l) (.string ⟨l.toArray⟩) := by
 refine ⟨l.map fun b => .int .u8 b.toNat, by simp [X2M], ⟨fun i row hi => ?_, fun i row j x v hi hj hv => ?_, fun v hv => ?_⟩, fun w2 hw => ⟨?_, ?_⟩⟩
 ·rw [X2M, List.getElem?_map] at hi;cases hb : l[i]? with
  | none => simp [hb] at hi
  | some b => simp [hb] at hi; subst hi; rfl
 ·rw [X2M, List.getElem?_map] at hi;cases hb : l[i]? with
  | none => simp [hb] at hi
  | some b =>
   simp [hb] at hi;subst hi;cases j with
   | succ j => simp at hj
   | zero =>
    simp at hj;subst hj;simp [hb] at hv;subst hv;exact .int _ _
 ·rw [List.mem_map] at hv;obtain ⟨b, _, rfl⟩ := hv;rfl
 ·have hs : (ByteArray.mk l.toArray).size = l.length := by simp [ByteArray.size]
  simp only [Builtin.lenOf, Sem.run_pure, hs, X2M, List.length_map]
 simp only [Builtin.firstCells, X2M, List.length_map];have : ((ByteArray.mk l.toArray).extract 0 l.length) = ByteArray.mk l.toArray := by
  rw [ByteArray.extract_mk]; simp
 rw [this];simp
end
end Go.Ab
namespace Go.Ab
open Go Go.RowKit
section
variable {C : Cx} {B : Base} {kn : Kn} {m : Mp} {σ : Sto} {nx : Nat} {w : World}
def X64 (P : Program) (t : TypeId) : Prop := P.underlying t = some .string \/ ∃ e, P.underlying t = some (.slice e)
theorem X1a {t t' ty e sz n sLen sCap : Nat} {base : Option Addr} {yv : Value} {news : List Value} (hu : C.P.underlying t = some (.slice e)) (ht' : X64 C.P t') (hsz : szT C.P e = some sz)
  (h1 : (Builtin.lenOf yv).run C.P w = .ok n w) (h2 : (Builtin.firstCells sz n yv).run C.P w = .ok news.toArray w) (hroom : sLen + n <= sCap) :
  (Builtin.append_ #[t, t'] ty #[.slice base sLen sCap, yv]).run C.P w = match base with
   | some a => ((storeCells (a.add (sLen * sz)) news).run C.P w).andThen fun _ w' => .ok (.slice (some a) (sLen + n) sCap) w'
   | none => .ok (.slice none (sLen + n) sCap) w := by
 rcases ht' with hd | ⟨e', hd⟩ <;> cases base <;> simp [Builtin.append_, run_underlying hu, run_underlying hd, X0l hsz, h1, h2, hroom]
theorem X3G {t t' ty e sz n sLen sCap : Nat} {i : TypeInfo} {z : Value} {base : Option Addr} {yv : Value} {olds news : List Value} (hu : C.P.underlying t = some (.slice e)) (ht' : X64 C.P t') (hi : C.P.info? e = some i) (hsz : i.size = sz) (hz : i.zero = some z)
  (h1 : (Builtin.lenOf yv).run C.P w = .ok n w) (h2 : (Builtin.firstCells sz n yv).run C.P w.drew = .ok news.toArray w.drew) (h3 : (Builtin.firstCells sz sLen (.slice base sLen sCap)).run C.P w.drew = .ok olds.toArray w.drew)
  (hg : sCap < sLen + n) (hm : sLen + n <= 4611686018427387904) (hb : (sLen + n) * i.bytes <= 140737488355328) :
  (Builtin.append_ #[t, t'] ty #[.slice base sLen sCap, yv]).run C.P w =
   .ok (.slice (some ⟨w.heap.size, 0, none⟩) (sLen + n) (grownCap w (sLen + n) sCap e)) (w.drew.alloc (.cells (olds.toArray ++ news.toArray ++ Builtin.zeroCells z.cells (grownCap w (sLen + n) sCap e - (sLen + n))) e)) := by
 have hn : ¬ (sLen + n <= sCap) := by omega
 have h63' : ¬ (9223372036854775807 < ((sLen : Int) + (n : Int))) := by omega
 have h48' : ¬ (281474976710656 < Builtin.nextslicecap (sLen + n) sCap * i.bytes) := by have := growslice_fits hg hb; omega
 have hsz' : szT C.P e = some sz := by simp [szT, hi, hsz]
 rcases ht' with hd | ⟨e', hd⟩ <;> simp [Builtin.append_, run_underlying hu, run_underlying hd, X0l hsz', zeroValue, X1S hi, hz, h1, h2, h3, hn, h63', h48', Question.forced, newRow, grownCap] <;> (congr 2; apply Array.ext'; simp)
theorem X3I {P : Program} {t : Nat} (h : slcT P t = true) : X64 P t := by
 exact .inr (Y0G h)
theorem X9f {P : Program} {t : Nat} (h : strT P t = true) : X64 P t := .inl (X05 h)
theorem X8C {sz : Nat} {r1 r2 : List (List AV)} {c1 c2 : List Value} (h1 : Flat kn m sz r1 c1) (hl1 : c1.length = r1.length * sz) (h2 : Flat kn m sz r2 c2) : Flat kn m sz (r1 ++ r2) (c1 ++ c2) := by
 refine ⟨fun i row hi => ?_, fun i row j x v hi hj hv => ?_, fun v hv => ?_⟩
 ·rcases Nat.lt_or_ge i r1.length with h | h
  ·rw [List.getElem?_append_left h] at hi; exact h1.1 i row hi
  rw [List.getElem?_append_right h] at hi; exact h2.1 _ row hi
 ·rcases Nat.lt_or_ge i r1.length with h | h
  ·rw [List.getElem?_append_left h] at hi;have hjl : j < sz := by rw [<- h1.1 i row hi]; exact (List.getElem?_eq_some_iff.1 hj).1
   rw [List.getElem?_append_left (by rw [hl1]; exact X1H h hjl)] at hv;exact h1.2.1 i row j x v hi hj hv
  rw [List.getElem?_append_right h] at hi;have hge : c1.length <= i * sz + j := by rw [hl1]; have := Nat.mul_le_mul_right sz h; omega
  rw [List.getElem?_append_right hge] at hv;refine h2.2.1 (i - r1.length) row j x v hi hj ?_;rw [<- hv]; congr 1;rw [hl1, Nat.sub_mul];have := Nat.mul_le_mul_right sz h;omega
 rcases List.mem_append.1 hv with hv | hv
 ·exact h1.2.2 v hv
 exact h2.2.2 v hv
theorem Z1K {sz : Nat} {r : List (List AV)} {c d : List Value} (h : Flat kn m sz r c) (hl : c.length = r.length * sz) (hd : ∀ v ∈ d, v.oneCell' = true) : Flat kn m sz r (c ++ d) := by
 refine ⟨h.1, fun i row j x v hi hj hv => ?_, fun v hv => ?_⟩
 ·have hjl : j < sz := by rw [<- h.1 i row hi]; exact (List.getElem?_eq_some_iff.1 hj).1
  rw [List.getElem?_append_left (by rw [hl]; exact X1H (List.getElem?_eq_some_iff.1 hi).1 hjl)] at hv;exact h.2.1 i row j x v hi hj hv
 rcases List.mem_append.1 hv with hv | hv
 ·exact h.2.2 v hv
 exact hd v hv
theorem Flat.mono {kn' : Kn} {m' : Mp} {sz : Nat} {r : List (List AV)} {c : List Value} (h : Flat kn m sz r c) (hk : KnLe kn kn') (hm : MpLe m m') : Flat kn' m' sz r c :=
 ⟨h.1, fun i row j x v a b d => (h.2.1 i row j x v a b d).mono hk hm, h.2.2⟩
theorem X6g {z : Array Value} (h : ∀ v ∈ z.toList, v.oneCell' = true) (n : Nat) : ∀ v ∈ (Builtin.zeroCells z n).toList, v.oneCell' = true := by
 intro v hv;simp only [Builtin.zeroCells, Array.toList_map, List.mem_map] at hv;obtain ⟨k, hk, rfl⟩ := hv;have hk' : k < n * z.size := by simpa using hk
 have hpos : 0 < z.size := Nat.pos_of_ne_zero (fun e => by rw [e] at hk'; simp at hk');have hlt := Nat.mod_lt k hpos;rw [getElem!_pos z (k % z.size) hlt];exact h _ (by simp)
theorem X8H {e sz n sCap nm blk : Nat} {rows : List (List AV)} {z : Value} {cells : List Value} {w' : World} (hf : Flat kn m sz rows cells) (hl : cells.length = rows.length * sz) (hn : rows.length = n) (hz : z.cells.size = sz) (hz1 : ∀ v ∈ z.cells.toList, v.oneCell' = true)
  (hm : n <= 4611686018427387904) (m' : Mp) (hmle : MpLe m m') (hnm : m' nm = some ⟨blk, 0, grownCap w n sCap e, sz, n, false⟩) (hw : w'.heap[blk]? = some (.cells (cells.toArray ++ Builtin.zeroCells z.cells (grownCap w n sCap e - n)) e (0, 0))) :
  GvRel kn m' w' nm sz e rows := by
 have hge := grownCap_ge w n sCap e;have hmax := grownCap_le_maxLen w n sCap e (Y6n hm);have hpad := Z1K hf hl (X6g hz1 (grownCap w n sCap e - n));refine X7B hnm rfl hn.symm rfl hw rfl ?_ (by rw [hn]; exact hge) hmax (fun v hv => hpad.2.2 v (by simpa using hv)) hf.1 (fun i row j x v a b c => (hpad.2.1 i row j x v a b (by rw [<- c, <- Array.getElem?_toList]; simp)).mono (KnLe.refl _) hmle);rw [Array.size_append, size_zeroCells, hz, List.size_toArray, hl, hn, <- Nat.add_mul];exact Nat.le_of_eq (by congr 1; show grownCap w n sCap e = _; omega)
theorem Y1z {nm esz off len ety : Nat} {rows : List (List AV)} {loc : Loc} (hgv : GvRel kn m w nm esz ety rows) (hs0 : 0 < esz) (hm : m nm = some loc) (hn : loc.nil = false) (hle : off + len <= rows.length) (hl : len + off <= loc.cap) :
  X6h C kn m w esz ((rows.drop off).take len) (.slice (some ⟨loc.blk, loc.off + off * loc.esz, none⟩) len (loc.cap - off)) := by
 obtain ⟨hll, he, arr, hw, hsz, hle', hmx, hone, hrl, hrr⟩ := hgv.get hm hn;have hlen : ((rows.drop off).take len).length = len := by simp; omega
 have hsub : ∀ (i : Nat) (row : List AV), ((rows.drop off).take len)[i]? = some row -> i < len /\ rows[off + i]? = some row := fun i row hi => by
  rw [List.getElem?_take] at hi;split at hi
  ·rename_i hil; rw [List.getElem?_drop] at hi; exact ⟨hil, hi⟩
  cases hi
 have hin : ∀ i j, i < len -> j < esz -> loc.off + (off + i) * esz + j < arr.size := fun i j hi hj => by
  have h1 := X1H (show off + i < loc.cap by omega) hj;omega
 have hmem : ∀ i j, i < len -> j < esz -> w.cell? ⟨loc.blk, loc.off + (off + i) * esz + j, none⟩ = some (arr.getD (loc.off + (off + i) * esz + j) undef) := fun i j hi hj => by
  have := hin i j hi hj;simp [World.cell?, hw, this]
 have fm := Y4K (kn := kn) (m := m) hs0 (rows := (rows.drop off).take len) (fun i row hi => hrl _ _ (hsub i row hi).2) (fun i j => arr.getD (loc.off + (off + i) * esz + j) undef)
  (fun i row j x hi hj => by
   obtain ⟨hil, hi'⟩ := hsub i row hi;have hjl : j < esz := by rw [<- hrl _ _ hi']; exact (List.getElem?_eq_some_iff.1 hj).1
   exact hrr _ _ _ _ _ hi' hj (by simp [hin i j hil hjl]))
  (fun i row j x hi hj => by
   obtain ⟨hil, hi'⟩ := hsub i row hi;have hjl : j < esz := by rw [<- hrl _ _ hi']; exact (List.getElem?_eq_some_iff.1 hj).1
   exact hone _ (by simp [hin i j hil hjl]))
 refine ⟨_, by simp, fm, fun w2 hw2 => ⟨by rw [hlen]; rfl, ?_⟩⟩;refine X3H loc.blk (loc.off + off * loc.esz) _ _ (by simp) (fun k v hv => ?_) w2 hw2;have hk' : k < ((rows.drop off).take len).length * esz := by
  have := (List.getElem?_eq_some_iff.1 hv).1;simpa using this
 rw [List.getElem?_map, List.getElem?_range hk'] at hv;simp only [Option.map_some, Option.some.injEq] at hv;subst hv;rw [hlen] at hk';have hq : k / esz < len := (Nat.div_lt_iff_lt_mul hs0).2 hk';have := hmem (k / esz) (k % esz) hq (Nat.mod_lt _ hs0);rw [<- this]
 congr 2
 rw [he, Nat.add_mul];have := Nat.div_add_mod' k esz;omega
structure AppTy (C : Cx) (t t' e sz bytes : Nat) (zv : Value) : Prop where
 hu : C.P.underlying t = some (.slice e)
 hni : X64 C.P t'
 i : ∃ i, C.P.info? e = some i /\ i.size = sz /\ i.bytes = bytes /\ i.zero = some zv
 hzs : zv.cells.size = sz
 hz1 : ∀ v ∈ zv.cells.toList, v.oneCell' = true
theorem AppTy.hsz {t t' e sz bytes : Nat} {zv : Value} (h : AppTy C t t' e sz bytes zv) : szT C.P e = some sz := by
 obtain ⟨i, h1, h2, _⟩ := h.i; simp [szT, h1, h2]
theorem Y58 {t t' e sz bytes : Nat} (he : elmT C.P t = some (e, sz, bytes)) (hni : X64 C.P t') (hzl : ((zeroCells C.P e).map (·.length)) = some sz) : ∃ zv, AppTy C t t' e sz bytes zv := by
 obtain ⟨hu, hsz, i, hi, his, hib⟩ := X1o he;obtain ⟨z, hz⟩ : ∃ z, zeroCells C.P e = some z := by
  cases hz : zeroCells C.P e with
  | none => simp [hz] at hzl
  | some z => exact ⟨z, rfl⟩
 rw [hz] at hzl;simp only [Option.map_some, Option.some.injEq] at hzl;obtain ⟨i', zv, hi', hzv, rfl, hzr⟩ := X2p hz (fun _ _ => none) (fun _ => none);rw [hi] at hi'; cases hi';exact ⟨zv, hu, hni, ⟨i, hi, his, hib, hzv⟩, by rw [<- Array.length_toList, <- hzr.1.1]; exact hzl, hzr.2⟩
theorem X8n {t t' ty e sz bytes : Nat} {zv yv : Value} {ys : List (List AV)} (hT : AppTy C t t' e sz bytes zv) (hE : X6h C kn m w sz ys yv) (ad : Option Addr) (hne : ys.length ≠ 0) (hb : ys.length * bytes <= limB) (hm : ys.length <= 4611686018427387904) :
  ∃ w' cap, (Builtin.append_ #[t, t'] ty #[.slice ad 0 0, yv]).run C.P w = .ok (.slice (some ⟨w.heap.size, 0, none⟩) ys.length cap) w' /\ w.heap.size <= w'.heap.size /\ w'.os = w.os /\ w'.tape = w.tape /\ w'.output = w.output /\
   w.heap.size < w'.heap.size /\ (∀ b, b < w.heap.size -> w'.heap[b]? = w.heap[b]?) /\ ys.length <= cap /\ ∀ (m' : Mp) (nm : Nat), MpLe m m' -> m' nm = some ⟨w.heap.size, 0, cap, sz, ys.length, false⟩ -> GvRel kn m' w' nm sz e ys := by
 obtain ⟨i, hi, his, hib, hzv⟩ := hT.i;obtain ⟨news, hnl, hnf, hnr⟩ := hE;have hold : (Builtin.firstCells sz 0 (.slice ad 0 0)).run C.P w.drew = .ok ([] : List Value).toArray w.drew := by
  cases ad with
  | none => rfl
  | some a => simp [Builtin.firstCells, loadCells, loadCellsFrom]
 have hrun := X3G (C := C) (w := w) (ty := ty) (sLen := 0) (sCap := 0) (base := ad) hT.hu hT.hni hi his hzv (hnr w rfl).1 (hnr w.drew rfl).2 hold (by omega) (by omega) (by rw [Nat.zero_add, hib]; exact hb);simp only [Nat.zero_add, List.toArray, Array.empty_append] at hrun;refine ⟨w.drew.alloc (.cells (news.toArray ++ Builtin.zeroCells zv.cells (grownCap w ys.length 0 e - ys.length)) e), grownCap w ys.length 0 e, by simpa using hrun, by simp, rfl, rfl, rfl, by simp, fun b hb => Below.heap_alloc w.drew _ _ hb, grownCap_ge w ys.length 0 e, fun m' nm hle hnm => ?_⟩;exact X8H (w := w) hnf hnl rfl hT.hzs hT.hz1 hm m' hle hnm (heap_alloc_new w.drew _)
theorem X2i (hI : Inv C B kn m σ nx w) (l : Loc) : MpLe m (mput m nx l) := fun n l' e => by
 rw [X0p]
 ·exact e
 intro en; subst en; rw [hI.dom n (Nat.le_refl _)] at e; cases e
theorem Y4A (hI : Inv C B kn m σ nx w) {t t' ty e sz bytes : Nat} {zv yv : Value} {ys : List (List AV)} {ob' : AObj} (hT : AppTy C t t' e sz bytes zv) (hE : X6h C kn m w sz ys yv) (ad : Option Addr) (hne : ys.length ≠ 0) (hb : ys.length * bytes <= limB) (hm : ys.length <= 4611686018427387904)
  (hg' : ∀ m w', Fr kn w w' -> GvRel kn m w' nx sz e ys -> ObjRel C.P B kn m w' nx ob') (hsk : X0D ob' = true -> ∀ (p nm : Nat) (ob : AObj), σ[p]? = some (nm, ob) -> X0D ob = false := by intro h; cases h) :
  ∃ u m' w', (Builtin.append_ #[t, t'] ty #[.slice ad 0 0, yv]).run C.P w = .ok u w' /\ Rel kn m' (.sref σ.length nx sz 0 ys.length) u /\ (∃ loc, m' nx = some loc /\ loc.len = ys.length) /\
   Inv C B kn m' (σ ++ [(nx, ob')]) (nx + 1) w' /\ Keep m σ nx m' (σ ++ [(nx, ob')]) (nx + 1) := by
 obtain ⟨w', cap, hrun, h1, h2, h3, h4, h5, h6, h7, h8⟩ := X8n (ty := ty) hT hE ad hne hb hm;obtain ⟨q1, q2⟩ := hI.new (ob' := ob') (loc' := ⟨w.heap.size, 0, cap, sz, ys.length, false⟩) (w' := w') h1 h2 h3 h4 (.inr (Nat.le_refl _)) (fun _ => h5) h6 (hg' _ _ (fun b o v e => h6 b (hI.kn_lt e)) (h8 _ _ (X2i hI _) (X0c _ _ _))) (hsk := hsk);refine ⟨_, _, _, hrun, ?_, ⟨_, X0c _ _ _, rfl⟩, q1, q2⟩;have := Rel.sref (kn := kn) σ.length nx sz 0 ys.length _ (X0c m nx ⟨w.heap.size, 0, cap, sz, ys.length, false⟩) rfl rfl h7 (le62 hm);simpa using this
theorem Y1q (hI : Inv C B kn m σ nx w) {t t' ty e' bytes p nm off len : Nat} {ob ob' : AObj} {zv yv : Value} {rows ys : List (List AV)} {loc : Loc} (hT : AppTy C t t' e' loc.esz bytes zv) (hs0 : 0 < loc.esz) (hE : X6h C kn m w loc.esz ys yv) (hp : σ[p]? = some (nm, ob)) (hlv : live ob)
  (hg : ObjRel C.P B kn m w nm ob -> GvRel kn m w nm loc.esz e' rows) (hm : m nm = some loc) (hn : loc.nil = false) (hl : len + off <= loc.cap) (hle : off + len <= rows.length) (hb : (len + ys.length) * bytes <= limB) (hm62 : len + ys.length <= 4611686018427387904)
  (hg' : ∀ m w', Fr kn w w' -> GvRel kn m w' nx loc.esz e' ((rows.drop off).take len ++ ys) -> ObjRel C.P B kn m w' nx ob') (hsk : X0D ob' = true -> X0D ob = true := by intro h; first | rfl | cases h) (hnh : X0K ob = false := by rfl) :
  ∃ u m' w', (Builtin.append_ #[t, t'] ty #[.slice (some ⟨loc.blk, loc.off + off * loc.esz, none⟩) len (loc.cap - off), yv]).run C.P w = .ok u w' /\ Rel kn m' (.sref p nx loc.esz 0 (len + ys.length)) u /\ (∃ l, m' nx = some l /\ l.len = len + ys.length) /\
   Inv C B kn m' (σ.set p (nx, ob')) (nx + 1) w' /\ Keep m σ nx m' (σ.set p (nx, ob')) (nx + 1) := by
 have hu := hT.hu;have hni := hT.hni;have hsz := hT.hsz;have hzs := hT.hzs;obtain ⟨i, hi, his, hib, hzv⟩ := hT.i;obtain ⟨news, hnl, hnf, hnr⟩ := hE;obtain ⟨hll, hez, arr, hw, hsz', hle', hmx, hone, hrl, hrr⟩ := (hg (hI.obj _ _ _ hp)).get hm hn;have hrl' : ((rows.drop off).take len).length = len := by simp; omega
 obtain ⟨olds, hol, hof, hor⟩ := Y1z (C := C) (hg (hI.obj _ _ _ hp)) hs0 hm hn hle hl;have hlenr : ((rows.drop off).take len ++ ys).length = len + ys.length := by rw [List.length_append, hrl']
 by_cases hroom : len + ys.length <= loc.cap - off
 ·have hrun := X1a (C := C) (w := w) (ty := ty) (sLen := len) (sCap := loc.cap - off) (base := some ⟨loc.blk, loc.off + off * loc.esz, none⟩) hu hni hsz (hnr w rfl).1 (hnr w rfl).2 hroom;have hcap : off * loc.esz + (loc.cap - off) * loc.esz = loc.cap * loc.esz := by rw [<- Nat.add_mul]; congr 1; omega
  have hroom' : (len + ys.length) * loc.esz <= (loc.cap - off) * loc.esz := Nat.mul_le_mul_right _ hroom;rw [Nat.add_mul] at hroom';have hfit : loc.off + off * loc.esz + len * loc.esz + news.length <= arr.toList.length := by rw [hnl, Array.length_toList (xs := arr)]; omega
  have hst := run_storeCells_at C.P loc.blk (loc.off + off * loc.esz + len * loc.esz) e' news 0 arr w hw (by simpa using hfit) hnf.2.2;simp only [Nat.add_zero, List.append_assoc] at hst;simp only [X2F, hst, Result.andThen_ok] at hrun;have hsp := X2o arr.toList news (loc.off + off * loc.esz + len * loc.esz)
  obtain ⟨q1, q2⟩ := hI.replace (ob' := ob') (loc' := ⟨loc.blk, loc.off + off * loc.esz, loc.cap - off, loc.esz, len + ys.length, false⟩) hp hlv hm
   (w' := w.setRow loc.blk (arr.toList.take (loc.off + off * loc.esz + len * loc.esz) ++ (news ++ arr.toList.drop (loc.off + off * loc.esz + len * loc.esz + news.length))).toArray) (by simp) rfl rfl rfl (.inr (.inl ⟨hn, rfl⟩))
   (fun _ => by simp; exact (hI.own _ _ _ _ hp hlv hm hn).1) (fun b _ hb => setRow_other _ _ _ _ (hb.resolve_left (by simp))) (hsk := hsk) (hnh := hnh)
   (hg' _ _ (fun b o u e => setRow_other _ _ _ _ (fun eb => by rw [eb, (hI.own _ _ _ _ hp hlv hm hn).2.2 hnh o] at e; cases e)) (by
    have hmle : MpLe m (mput m nx ⟨loc.blk, loc.off + off * loc.esz, loc.cap - off, loc.esz, len + ys.length, false⟩) := fun n l e => by
     rw [X0p]
     ·exact e
     intro en; subst en; rw [hI.dom n (Nat.le_refl _)] at e; cases e
    refine ⟨_, X0c _ _ _, hlenr.symm, .inr ⟨rfl, rfl, _, setRow_heap w loc.blk arr _ e' (0, 0) hw, ?_, by rw [hlenr]; exact hroom, (by show loc.cap - off <= maxLen; omega), fun u hu => ?_, fun k row hk => ?_, fun k row j x v hk hj hv => ?_⟩⟩
    ·rw [List.size_toArray, X3k _ _ _ hfit, Array.length_toList];show loc.off + off * loc.esz + (loc.cap - off) * loc.esz <= arr.size;omega
    ·simp only [List.mem_append] at hu;rcases hu with hu | hu | hu
     ·exact hone u (List.mem_of_mem_take hu)
     ·exact hnf.2.2 u hu
     exact hone u (List.mem_of_mem_drop hu)
    ·rcases Nat.lt_or_ge k len with hk' | hk'
     ·rw [List.getElem?_append_left (by rw [hrl']; exact hk')] at hk;exact hof.1 k row hk
     rw [List.getElem?_append_right (by rw [hrl']; exact hk')] at hk;exact hnf.1 _ row hk
    have hv' : (arr.toList.take (loc.off + off * loc.esz + len * loc.esz) ++ (news ++ arr.toList.drop (loc.off + off * loc.esz + len * loc.esz + news.length)))[loc.off + off * loc.esz + k * loc.esz + j]? = some v := by
     simpa using hv
    rw [hsp _ hfit] at hv';rcases Nat.lt_or_ge k len with hk' | hk'
    ·rw [List.getElem?_append_left (by rw [hrl']; exact hk')] at hk;have hjl : j < loc.esz := by rw [<- hof.1 k row hk]; exact (List.getElem?_eq_some_iff.1 hj).1
     have := X1H hk' hjl;rw [if_neg (by omega)] at hv';rw [List.getElem?_take, if_pos hk', List.getElem?_drop] at hk;refine (hrr (off + k) row j x v hk hj ?_).mono (KnLe.refl _) hmle;rw [<- Array.getElem?_toList, <- hv']
     congr 1
     rw [Nat.add_mul]; omega
    rw [List.getElem?_append_right (by rw [hrl']; exact hk'), hrl'] at hk;have hjl : j < loc.esz := by rw [<- hnf.1 _ row hk]; exact (List.getElem?_eq_some_iff.1 hj).1
    have h1 := X1H (List.getElem?_eq_some_iff.1 hk).1 hjl;have h2 : k * loc.esz = len * loc.esz + (k - len) * loc.esz := by rw [<- Nat.add_mul]; congr 1; omega
    rw [if_pos ⟨by omega, by rw [hnl]; omega⟩] at hv';refine (hnf.2.1 (k - len) row j x v hk hj ?_).mono (KnLe.refl _) hmle;rw [<- hv']
    congr 1
    omega))
  refine ⟨_, _, _, hrun, ?_, ⟨_, X0c _ _ _, rfl⟩, q1, q2⟩;have := Rel.sref (kn := kn) p nx loc.esz 0 (len + ys.length) _ (X0c m nx ⟨loc.blk, loc.off + off * loc.esz, loc.cap - off, loc.esz, len + ys.length, false⟩) rfl rfl (by simpa using hroom) (le62 hm62);simpa using this
 have hold := (hor w.drew rfl).2;rw [hrl'] at hold;have hrun := X3G (C := C) (w := w) (ty := ty) (sLen := len) (sCap := loc.cap - off) (base := some ⟨loc.blk, loc.off + off * loc.esz, none⟩) hu hni hi his hzv (hnr w rfl).1 (hnr w.drew rfl).2 hold (by omega) hm62 (by rw [hib]; exact hb);have hmle : MpLe m (mput m nx ⟨w.heap.size, 0, grownCap w (len + ys.length) (loc.cap - off) e', loc.esz, len + ys.length, false⟩) := fun n l e => by
  rw [X0p]
  ·exact e
  intro en; subst en; rw [hI.dom n (Nat.le_refl _)] at e; cases e
 have hcl : (olds ++ news).length = ((rows.drop off).take len ++ ys).length * loc.esz := by rw [List.length_append, List.length_append, hol, hnl, Nat.add_mul]
 obtain ⟨q1, q2⟩ := hI.replace (ob' := ob') (loc' := ⟨w.heap.size, 0, grownCap w (len + ys.length) (loc.cap - off) e', loc.esz, len + ys.length, false⟩) hp hlv hm
  (w' := w.drew.alloc (.cells ((olds ++ news).toArray ++ Builtin.zeroCells zv.cells (grownCap w (len + ys.length) (loc.cap - off) e' - (len + ys.length))) e')) (by simp) rfl rfl rfl (.inr (.inr (Nat.le_refl _))) (fun _ => by simp)
  (fun b hb _ => Below.heap_alloc w.drew _ _ hb) (hsk := hsk) (hnh := hnh) (hg' _ _ (fun b o u e => Below.heap_alloc w.drew _ _ (hI.kn_lt e)) <| X8H (w := w) (X8C hof hol hnf) hcl hlenr hzs hT.hz1 hm62 _ hmle (X0c _ _ _) (heap_alloc_new w.drew _))
 refine ⟨_, _, _, by rw [hrun, show olds.toArray ++ news.toArray = (olds ++ news).toArray by simp], ?_, ⟨_, X0c _ _ _, rfl⟩, q1, q2⟩;have := Rel.sref (kn := kn) p nx loc.esz 0 (len + ys.length) _ (X0c m nx ⟨w.heap.size, 0, grownCap w (len + ys.length) (loc.cap - off) e', loc.esz, len + ys.length, false⟩) rfl rfl (grownCap_ge _ _ _ _) (le62 hm62);simpa using this
theorem X5h (hI : Inv C B kn m σ nx w) {t t' ty e' esz bytes p nm : Nat} {ob ob' : AObj} {zv yv : Value} {ys : List (List AV)} {loc : Loc} (hT : AppTy C t t' e' esz bytes zv) (hE : X6h C kn m w esz ys yv) (hp : σ[p]? = some (nm, ob)) (hlv : live ob)
  (hm : m nm = some loc) (hn : loc.nil = true) (hb : ys.length * bytes <= limB) (hm62 : ys.length <= 4611686018427387904)
  (hg' : ∀ m w', Fr kn w w' -> GvRel kn m w' nx esz e' ys -> ObjRel C.P B kn m w' nx ob') (hsk : X0D ob' = true -> X0D ob = true := by intro h; first | rfl | cases h) (hnh : X0K ob = false := by rfl) :
  ∃ u m' w', (Builtin.append_ #[t, t'] ty #[.slice none 0 0, yv]).run C.P w = .ok u w' /\ Rel kn m' (.sref p nx esz 0 ys.length) u /\ (∃ l, m' nx = some l /\ l.len = ys.length) /\
   Inv C B kn m' (σ.set p (nx, ob')) (nx + 1) w' /\ Keep m σ nx m' (σ.set p (nx, ob')) (nx + 1) := by
 by_cases h0 : ys.length = 0
 ·have hn0 : ys = [] := List.eq_nil_of_length_eq_zero h0;subst hn0;obtain ⟨news, hnl, hnf, hnr⟩ := hE;have hrun := X1a (C := C) (w := w) (ty := ty) (sLen := 0) (sCap := 0) (base := none) hT.hu hT.hni hT.hsz (hnr w rfl).1 (hnr w rfl).2 (by simp)
  obtain ⟨q1, q2⟩ := hI.replace (ob' := ob') (loc' := ⟨0, 0, 0, esz, 0, true⟩) hp hlv hm (w' := w) (Nat.le_refl _) rfl rfl rfl (.inl rfl) (fun h => by cases h) (fun _ _ _ => rfl) (hsk := hsk) (hnh := hnh)
   (hg' _ _ (fun _ _ _ _ => rfl) ⟨_, X0c _ _ _, rfl, .inl ⟨rfl, rfl⟩⟩)
  exact ⟨_, _, _, by simpa using hrun, .srefNil _ _ _ _ (X0c _ _ _) rfl, ⟨_, X0c _ _ _, rfl⟩, q1, q2⟩
 obtain ⟨w', cap, hrun, h1, h2, h3, h4, h5, h6, h7, h8⟩ := X8n (ty := ty) hT hE none h0 hb hm62;obtain ⟨q1, q2⟩ := hI.replace (ob' := ob') (loc' := ⟨w.heap.size, 0, cap, esz, ys.length, false⟩) hp hlv hm (w' := w') h1 h2 h3 h4 (.inr (.inr (Nat.le_refl _))) (fun _ => h5) (fun b hb _ => h6 b hb) (hsk := hsk) (hnh := hnh) (hg' _ _ (fun b o u e => h6 b (hI.kn_lt e)) (h8 _ _ (X2i hI _) (X0c _ _ _)));refine ⟨_, _, _, hrun, ?_, ⟨_, X0c _ _ _, rfl⟩, q1, q2⟩;have := Rel.sref (kn := kn) p nx esz 0 ys.length _ (X0c m nx ⟨w.heap.size, 0, cap, esz, ys.length, false⟩) rfl rfl h7 (le62 hm62);simpa using this
theorem Y2T (hI : Inv C B kn m σ nx w) {t t' ty : Nat} {x y r : AV} {xv yv : Value} {σ' : Sto} {nx' : Nat} (h : X8o C.P t t' σ nx x y = some (r, σ', nx')) (hx : Rel kn m x xv) (hy : Rel kn m y yv) :
  ∃ u m' w', (Builtin.append_ #[t, t'] ty #[xv, yv]).run C.P w = .ok u w' /\ Rel kn m' r u /\ Inv C B kn m' σ' nx' w' /\ Keep m σ nx m' σ' nx' := by
 unfold X8o at h;split at h
 ·rename_i e sz bytes he;split at h
  ·rename_i hc;obtain ⟨hs0, hzl⟩ := hc;split at h
   ·rename_i ys hys;have hE : X64 C.P t' /\ X6h C kn m w sz ys yv := by
     split at hys
     ·rename_i l;split at hys
      ·rename_i hs;cases hys;cases hy;rw [hs.2];exact ⟨X9f hs.1, Y26⟩
      cases hys
     split at hys
     ·rename_i hs;exact ⟨X3I hs, X5l hI hs0 hys hy⟩
     cases hys
    obtain ⟨hni, hE⟩ := hE;obtain ⟨zv, hT⟩ := Y58 he hni hzl;have stay : ∀ ad : Option Addr, ys.length = 0 -> (Builtin.append_ #[t, t'] ty #[.slice ad 0 0, yv]).run C.P w = .ok (.slice ad 0 0) w := fun ad h0 => by
     have hn0 : ys = [] := List.eq_nil_of_length_eq_zero h0;subst hn0;obtain ⟨news, hnl, hnf, hnr⟩ := hE;have hnn : news = [] := List.eq_nil_of_length_eq_zero (by simpa using hnl);subst hnn;have hrun := X1a (C := C) (w := w) (ty := ty) (sLen := 0) (sCap := 0) (base := ad) hT.hu hT.hni hT.hsz (hnr w rfl).1 (hnr w rfl).2 (by simp);rw [hrun];cases ad <;> simp [storeCells]
    split at h
    ·split at h
     ·rename_i hb;cases hx;split at h
      ·rename_i h0;cases h;exact ⟨_, m, w, stay none h0, .base _, hI, Keep.refl _ _ _⟩
      rename_i h0;cases h;obtain ⟨u, m', w', q1, q2, _, q3⟩ := Y4A (ty := ty) (ob' := .gvec sz e ys) hI hT hE none h0 hb.1 hb.2 (fun _ _ _ h => h);exact ⟨u, m', w', q1, q2, q3⟩
     cases h
    ·split at h
     ·rename_i hb;have hx' : ∃ ad, xv = .slice ad 0 0 := by cases hx <;> exact ⟨_, rfl⟩
      obtain ⟨ad, rfl⟩ := hx';split at h
      ·rename_i h0;cases h;exact ⟨_, m, w, stay ad h0, hx, hI, Keep.refl _ _ _⟩
      rename_i h0;cases h;obtain ⟨u, m', w', q1, q2, _, q3⟩ := Y4A (ty := ty) (ob' := .gvec sz e ys) hI hT hE ad h0 hb.1 hb.2 (fun _ _ _ h => h);exact ⟨u, m', w', q1, q2, q3⟩
     cases h
    ·rename_i p nm esz off len;split at h
     ·rename_i esz' e' rows hs;split at h
      ·rename_i hc;cases h;obtain ⟨rfl, rfl, rfl, hle, hb, hm62⟩ := hc;have hp := X0j hs;cases hx with
       | srefNil _ _ _ loc hm hn =>
        have hr0 : rows = [] := GvRel.nilRows (hI.obj _ _ _ hp) hm hn;subst hr0;obtain ⟨u, m', w', q1, q2, _, q3⟩ := X5h (ty := ty) (ob' := .gvec esz' e' (((([] : List (List AV)).drop 0).take 0) ++ ys)) hI hT hE hp trivial hm hn (by simpa using hb) (by simpa using hm62) (fun _ _ _ h => h);rw [Nat.zero_add];exact ⟨u, m', w', q1, q2, q3⟩
       | sref _ _ _ _ _ loc hm hn he' hl hm' =>
        subst he';obtain ⟨u, m', w', q1, q2, _, q3⟩ := Y1q (ty := ty) (ob' := .gvec loc.esz e' ((rows.drop off).take len ++ ys)) hI hT hs0 hE hp trivial (fun h => h) hm hn hl hle hb hm62 (fun _ _ _ h => h);exact ⟨u, m', w', q1, q2, q3⟩
      cases h
     cases h
    cases h
   cases h
  cases h
 cases h
theorem wrap_small {n : Int} (h0 : 0 <= n) (h1 : n <= 4611686018427387904) : IntKind.i64.wrap n = n := by
 rw [IntKind.wrap_i64];omega
theorem Y0p (hI : Inv C B kn m σ nx w) {t : Nat} {l c r : AV} {lv cv : Value} {σ' : Sto} {nx' : Nat} (h : Y4Y C.P t σ nx l c = some (r, σ', nx')) (hl : Rel kn m l lv) (hc : Rel kn m c cv) :
  ∃ u m' w', (Instr.makeSlice t lv cv).run C.P w = .ok u w' /\ Rel kn m' r u /\ Inv C B kn m' σ' nx' w' /\ Keep m σ nx m' σ' nx' := by
 unfold Y4Y at h;split at h
 ·rename_i e sz bytes kl n kc k he;obtain ⟨hu, hsz, i, hi, his, hib⟩ := X1o he;cases hl; cases hc;split at h
  ·rename_i z hz;split at h
   ·rename_i hcond;cases h;obtain ⟨hs0, hzl, h0, hnk, hby, hk62⟩ := hcond;obtain ⟨i', zv, hi', hzv, rfl, hzr⟩ := X2p hz kn m;rw [hi] at hi'; cases hi';have hzs : zv.cells.size = sz := by rw [<- Array.length_toList, <- hzr.1.1]; exact hzl
    have w1 : IntKind.i64.wrap n = n := wrap_small h0 (by omega);have w2 : IntKind.i64.wrap k = k := wrap_small (by omega) hk62;have hrun : (Instr.makeSlice t (.int kl n) (.int kc k)).run C.P w = .ok (.slice (some ⟨w.heap.size, 0, none⟩) n.toNat k.toNat) (w.alloc (.cells ((Array.range (k.toNat * sz)).map (zv.cells[· % sz]!)) e)) := by
     have a1 : ¬ (k < 0) := by omega
     have a2 : ¬ (n < 0) := by omega
     have a3 : ¬ (281474976710656 < (bytes : Int) * k) := by rw [Int.mul_comm]; omega
     have a4 : ¬ (k < n) := by omega
     by_cases hk0 : k.toNat * sz = 0
     ·have : k.toNat = 0 := by rcases Nat.mul_eq_zero.1 hk0 with h | h <;> omega
      simp [Instr.makeSlice, run_underlying hu, asInt, asIntOf, X1S hi, hib, w1, w2, a1, a2, a3, a4, X0l hsz, this, newRow, Array.range_zero']
     simp [Instr.makeSlice, run_underlying hu, asInt, asIntOf, X1S hi, hib, w1, w2, a1, a2, a3, a4, X0l hsz, hk0, newRow, zeroValue, hzv, hzs]
    have hfl := X2R _ _ hzr k.toNat;rw [hzs] at hfl;have hmle : MpLe m (mput m nx ⟨w.heap.size, 0, k.toNat, sz, n.toNat, false⟩) := fun n l e => by
     rw [X0p]
     ·exact e
     intro en; subst en; rw [hI.dom n (Nat.le_refl _)] at e; cases e
    have hget : ∀ i row, (List.replicate n.toNat (zv.cells.toList.map X11))[i]? = some row -> (List.replicate k.toNat (zv.cells.toList.map X11))[i]? = some row := fun i row hi => by
     rw [List.getElem?_replicate] at hi ⊢;split at hi
     ·rw [if_pos (by omega)]; exact hi
     cases hi
    obtain ⟨q1, q2⟩ := hI.new (ob' := .gvec sz e (List.replicate n.toNat (zv.cells.toList.map X11))) (loc' := ⟨w.heap.size, 0, k.toNat, sz, n.toNat, false⟩) (w' := w.alloc (.cells ((Array.range (k.toNat * sz)).map (zv.cells[· % sz]!)) e)) (by simp) rfl rfl rfl (.inr (Nat.le_refl _)) (by simp)
     (fun b hb => Below.heap_alloc _ _ _ hb)
     (X7B (X0c _ _ _) rfl (by simp) rfl (heap_alloc_new w _) rfl (by simp) (by simp; omega) (by show k.toNat <= maxLen; exact Y6n (by omega)) hfl.2.2 (fun i row hi => hfl.1 i row (hget i row hi))
      (fun i row j x v a b c => (hfl.2.1 i row j x v (hget i row a) b (by rw [Array.getElem?_toList]; exact c)).mono (KnLe.refl _) hmle))
    refine ⟨_, _, _, hrun, ?_, q1, q2⟩;have := Rel.sref (kn := kn) σ.length nx sz 0 n.toNat _ (X0c m nx ⟨w.heap.size, 0, k.toNat, sz, n.toNat, false⟩) rfl rfl (by show n.toNat + 0 <= k.toNat; omega) (le62 (by omega));simpa using this
   cases h
  cases h
 cases h
theorem Z0G {kn : Kn} {m : Mp} {a b c : AV} {x y z : Value} (h1 : Rel kn m a x) (h2 : Rel kn m b y) (h3 : Rel kn m c z) : Rel kn m (.tup [a, b, c]) (.tuple #[x, y, z]) := by
 have h : RelL kn m [a, b, c] [x, y, z] := .cons h1 (.cons h2 (.cons h3 (.nil _ _)));exact .tup _ _ rfl fun i p v q r => h.2 i p v q (by simpa using r)
theorem Z4H {kn : Kn} {m : Mp} {a : AV} {x : Value} (h1 : Rel kn m a x) : Rel kn m (.tup [a]) (.tuple #[x]) := by
 have h : RelL kn m [a] [x] := .cons h1 (.nil _ _);exact .tup _ _ rfl fun i p v q r => h.2 i p v q (by simpa using r)
theorem Y5b (hI : Inv C B kn m σ nx w) {t : TypeId} {x r : AV} {v : Value} {σ' : Sto} {nx' : Nat} (h : Y3z C.P t σ nx x = some (r, σ', nx')) (hx : Rel kn m x v) :
  ∃ u m' w', (Instr.range t v).run C.P w = .ok u w' /\ Rel kn m' r u /\ Inv C B kn m' σ' nx' w' /\ Keep m σ nx m' σ' nx' := by
 unfold Y3z at h;split at h
 ·rename_i l;simp only [Option.ite_none_right_eq_some, Option.some.injEq, Prod.mk.injEq] at h;obtain ⟨hs, rfl, rfl, rfl⟩ := h;cases hx;have hu : C.P.underlying t = some .string := by
   unfold strT at hs;split at hs
   ·rename_i e; exact e
   cases hs
  obtain ⟨h1, h2⟩ := hI.new (ob' := .siter l 0) (loc' := ⟨w.heap.size, 0, 0, 0, 0, false⟩) (w' := w.alloc (.stringIter ⟨l.toArray⟩ 0)) (by simp) rfl rfl rfl (.inr (Nat.le_refl _)) (by simp) (fun b hb => Below.heap_alloc _ _ _ hb)
   (by simp only [ObjRel]; exact ⟨_, X0c _ _ _, heap_alloc_new w _, rfl, rfl⟩)
  refine ⟨.pointer (some ⟨w.heap.size, 0, none⟩), _, _, ?_, .ref _ _ _ _ (X0c _ _ _), h1, h2⟩;simp only [Instr.range, Sem.run_bind, run_underlying hu, Result.andThen_ok, Sem.run_pure];rfl
 cases h
theorem Y7x (hI : Inv C B kn m σ nx w) {t : TypeId} {x r : AV} {v : Value} {σ' : Sto} {nx' : Nat} (h : Y94 σ nx x = some (r, σ', nx')) (hx : Rel kn m x v) :
  ∃ u m' w', (Instr.next v true t).run C.P w = .ok u w' /\ Rel kn m' r u /\ Inv C B kn m' σ' nx' w' /\ Keep m σ nx m' σ' nx' := by
 unfold Y94 at h;split at h
 ·rename_i p nm;split at h
  ·rename_i l pos hs;have hp := X0j hs;cases hx with
   | ref _ _ _ loc hm =>
    obtain ⟨loc', hm', hw, h0, hnl⟩ := hI.obj _ _ _ hp;rw [hm] at hm'; cases hm';have hget : (getObj loc.blk).run C.P w = .ok (.stringIter ⟨l.toArray⟩ pos) w := by simp [getObj, Sem.run, hw]
    have hsz : (⟨l.toArray⟩ : ByteArray).size = l.length := by simp [ByteArray.size]
    split at h
    ·rename_i hlt;simp only [Option.some.injEq, Prod.mk.injEq] at h;obtain ⟨rfl, rfl, rfl⟩ := h;have hset : (setObj loc.blk (.stringIter ⟨l.toArray⟩ (pos + (Utf8.decode ⟨l.toArray⟩ pos).2))).run C.P w = .ok () { w with heap := w.heap.setIfInBounds loc.blk (.stringIter ⟨l.toArray⟩ (pos + (Utf8.decode ⟨l.toArray⟩ pos).2)) } := by simp [setObj, Sem.run, hw]
     have hbl : loc.blk < w.heap.size := (Array.getElem?_eq_some_iff.1 hw).1
     obtain ⟨h1, h2⟩ := hI.write (ob' := .siter l (pos + (Utf8.decode ⟨l.toArray⟩ pos).2)) hp trivial hm hnl (w' := { w with heap := w.heap.setIfInBounds loc.blk (.stringIter ⟨l.toArray⟩ (pos + (Utf8.decode ⟨l.toArray⟩ pos).2)) }) (by simp) rfl rfl rfl
      (fun b hb => by simp [Array.getElem?_setIfInBounds_ne (Ne.symm hb)]) (by simp only [ObjRel]; exact ⟨loc, hm, by simp [hbl], h0, hnl⟩)
     refine ⟨.tuple #[.bool true, goInt pos, .int .i32 (Utf8.decode ⟨l.toArray⟩ pos).1], m, _, ?_, Z0G (.bool _) (.int _ _) (.int _ _), h1, h2⟩;rw [h0];simp only [Instr.next, Nat.zero_add, Sem.run_bind, hget, Result.andThen_ok, hsz, hlt, if_true, hset, Sem.run_pure]
    rename_i hlt;simp only [Option.some.injEq, Prod.mk.injEq] at h;obtain ⟨rfl, rfl, rfl⟩ := h;refine ⟨.tuple #[.bool false], m, w, ?_, Z4H (.bool _), hI, Keep.refl _ _ _⟩;rw [h0];simp only [Instr.next, Nat.zero_add, Sem.run_bind, hget, Result.andThen_ok, hsz, hlt, if_false, Sem.run_pure]
  cases h
 cases h
end
end Go.Ab
namespace Go.Ab
open Go Go.RowKit
section
variable {C : Cx} {B : Base} {kn : Kn} {m : Mp} {σ : Sto} {nx : Nat} {w : World}
theorem X7h {p nm n : Nat} {e : E} {u : Value} (h : Rel kn m (.sref p nm e.size 0 n) u) (hl : ∃ l, m nm = some l /\ l.len = n) : Rel kn m (.gs p nm e n) u := by
 obtain ⟨l, h1, h2⟩ := hl;exact .gs p nm e n u l h1 h2 h
theorem Z6l {P : Program} {nm ety : Nat} {e : E} {l : List e.den} (h : GvRel kn m w nm e.size ety (l.map e.row)) : ObjRel P B kn m w nm (.tg e ety l) := h
theorem Y3T (l : List UInt8) : (l.map fun b => (b.toNat : Int)).map (E.row (.int .u8)) = X2M l := by
 induction l with
 | nil => rfl
 | cons b l ih => exact congrArg (List.cons [AV.int .u8 b.toNat]) ih
theorem X60 (hI : Inv C B kn m σ nx w) {t' : TypeId} {e : E} (hs0 : 0 < e.size) {y : AV} {yv : Value} {ys : List e.den} (h : X98 C.P t' e σ y = some ys) (hy : Rel kn m y yv) : X64 C.P t' /\ X6h C kn m w e.size (ys.map e.row) yv := by
 unfold X98 at h;split at h
 ·rename_i l;split at h
  ·rename_i hs;split at h
   ·rename_i he;subst he;cases h;cases hy;refine ⟨X9f hs, ?_⟩;show X6h C kn m w 1 ((l.map fun b => (b.toNat : Int)).map (E.row (.int .u8))) _;rw [Y3T];exact Y26
   cases h
  cases h
 ·rename_i p nm e' len;split at h
  ·rename_i hs;refine ⟨X3I hs, ?_⟩;split at h
   ·rename_i e2 ety l hg;split at h
    ·rename_i he;subst he;split at h
     ·rename_i he';subst he';cases h;cases hy with
      | gs _ _ _ _ _ loc hm hl hr =>
       have hgv : GvRel kn m w nm e'.size ety (l.map e'.row) := hI.obj _ _ _ (X0j hg);cases hr with
       | srefNil _ _ _ loc' hm' hn =>
        have := hgv.nilRows hm' hn;have h0 : l = [] := by simpa using this
        subst h0;exact X16 ⟨none, 0, rfl⟩
       | sref _ _ _ _ _ loc' hm' hn he hc hle =>
        rw [hm'] at hm; cases hm;have hlen := (hgv.get hm' hn).1;rw [List.length_map] at hlen;have := Y1z (C := C) hgv hs0 hm' hn (off := 0) (len := len) (by simp; omega) hc;simp only [List.drop_zero] at this;rw [List.take_of_length_le (by simp; omega)] at this;exact this
     cases h
    cases h
   cases h
  cases h
 rename_i y hy1 hy2;split at h
 ·rename_i hs;refine ⟨X3I hs, ?_⟩;have := X5g (kn := kn) (m := m) (fun cs x h us hr => X1E absF e cs x h us hr) h hy;exact X5l hI hs0 (y := .vec e.size (ys.map e.row)) (by simp [X5T]) this
 cases h
theorem Y1r (hI : Inv C B kn m σ nx w) {t t' ty : Nat} {e : E} {x y r : AV} {xv yv : Value} {σ' : Sto} {nx' : Nat} (h : X8p C.P t t' e σ nx x y = some (r, σ', nx')) (hx : Rel kn m x xv) (hy : Rel kn m y yv) :
  ∃ u m' w', (Builtin.append_ #[t, t'] ty #[xv, yv]).run C.P w = .ok u w' /\ Rel kn m' r u /\ Inv C B kn m' σ' nx' w' /\ Keep m σ nx m' σ' nx' := by
 unfold X8p at h;split at h
 ·rename_i ety sz bytes ys he hys;split at h
  ·rename_i hc;obtain ⟨hs0, hzl, hes⟩ := hc;subst hes;obtain ⟨hni, hE⟩ := X60 hI hs0 hys hy;obtain ⟨zv, hT⟩ := Y58 he hni hzl;have hlm : (ys.map e.row).length = ys.length := List.length_map _;split at h
   ·split at h
    ·rename_i hb;cases h;cases hx
     by_cases h0 : ys.length = 0
     ·have hn0 : ys = [] := List.eq_nil_of_length_eq_zero h0;subst hn0;obtain ⟨news, hnl, hnf, hnr⟩ := hE;have hrun := X1a (C := C) (w := w) (ty := ty) (sLen := 0) (sCap := 0) (base := none) hT.hu hT.hni hT.hsz (hnr w rfl).1 (hnr w rfl).2 (by simp)
      obtain ⟨q1, q2⟩ := hI.new (ob' := .tg e ety []) (loc' := ⟨0, 0, 0, e.size, 0, true⟩) (w' := w) (Nat.le_refl _) rfl rfl rfl (.inl rfl) (fun h => by cases h) (fun _ _ => rfl)
       (show GvRel _ _ _ _ _ _ _ from ⟨_, X0c _ _ _, rfl, .inl ⟨rfl, rfl⟩⟩)
      exact ⟨_, _, _, by simpa using hrun, X7h (.srefNil _ _ _ _ (X0c _ _ _) rfl) ⟨_, X0c _ _ _, rfl⟩, q1, q2⟩
     obtain ⟨u, m', w', q1, q2, q3, q4, q5⟩ := Y4A (ty := ty) (ob' := .tg e ety ys) hI hT hE none (by rw [hlm]; exact h0) (by rw [hlm]; exact hb.1) (by rw [hlm]; exact hb.2) (fun _ _ _ h => h);rw [hlm] at q2 q3;exact ⟨u, m', w', q1, X7h q2 q3, q4, q5⟩
    cases h
   ·rename_i p nm e' len;split at h
    ·rename_i e2 ety' l hg;split at h
     ·rename_i he2;subst he2;split at h
      ·rename_i hcc;obtain ⟨rfl, rfl, hb, hm62⟩ := hcc;simp only [X35, Option.some.injEq, Prod.mk.injEq] at h;obtain ⟨rfl, rfl, rfl⟩ := h;have hp := X0j hg;have hgv : GvRel kn m w nm e'.size ety' (l.map e'.row) := hI.obj _ _ _ hp;cases hx with
       | gs _ _ _ _ _ loc hm hl hr =>
        cases hr with
        | srefNil _ _ _ loc' hm' hn =>
         have h0 : l = [] := by simpa using hgv.nilRows hm' hn
         subst h0;obtain ⟨u, m', w', q1, q2, q3, q4, q5⟩ := X5h (ty := ty) (ob' := .tg e' ety' ([] ++ ys)) hI hT hE hp trivial hm' hn (by rw [hlm]; simpa using hb) (by rw [hlm]; simpa using hm62) (fun m w _ h => Z6l (l := [] ++ ys) (by rw [List.nil_append]; exact h));rw [hlm] at q2 q3;refine ⟨u, m', w', q1, X7h ?_ ?_, q4, q5⟩
         ·simpa using q2
         simpa using q3
        | sref _ _ _ _ _ loc' hm' hn he'' hc hle =>
         rw [hm'] at hm; cases hm;have hlen := (hgv.get hm' hn).1;rw [List.length_map] at hlen;have hll : len = l.length := by omega
         subst hll;rw [<- he''] at hT hs0 hE hgv
         obtain ⟨u, m', w', q1, q2, q3, q4, q5⟩ := Y1q (ty := ty) (ob' := .tg e' ety' (l ++ ys)) hI hT hs0 hE hp trivial (fun _ => hgv) hm' hn hc (by simp) (by rw [hlm]; exact hb) (by rw [hlm]; exact hm62) (fun m w _ h => Z6l (l := l ++ ys) (by
          rw [List.drop_zero, List.take_of_length_le (by simp), <- List.map_append, he''] at h;exact h))
         rw [hlm] at q2 q3;rw [he''] at q2;refine ⟨u, m', w', ?_, X7h q2 q3, q4, q5⟩;exact q1
      cases h
     cases h
    cases h
   cases h
  cases h
 cases h
theorem Y4Z (hI : Inv C B kn m σ nx w) {t : Nat} {e : E} {l c r : AV} {lv cv : Value} {σ' : Sto} {nx' : Nat} (h : Y93 C.P t e σ nx l c = some (r, σ', nx')) (hl : Rel kn m l lv) (hc : Rel kn m c cv) :
  ∃ u m' w', (Instr.makeSlice t lv cv).run C.P w = .ok u w' /\ Rel kn m' r u /\ Inv C B kn m' σ' nx' w' /\ Keep m σ nx m' σ' nx' := by
 unfold Y93 at h;split at h
 ·rename_i ety sz bytes kl n kc k he;split at h
  ·rename_i z hz;split at h
   ·rename_i z' hz';split at h
    ·rename_i hcond;cases h;obtain ⟨hs0, hzl, hes, h0, hnk, hby, hk62⟩ := hcond;subst hes;have hA : Y4Y C.P t σ nx (.int kl n) (.int kc k) = some (.sref σ.length nx e.size 0 n.toNat, σ ++ [(nx, .gvec e.size ety (List.replicate n.toNat z))], nx + 1) := by
      unfold Y4Y;rw [he];simp only [hz];rw [if_pos ⟨hs0, hzl, h0, hnk, hby, hk62⟩]
     obtain ⟨u, m', w', q1, q2, q3, q4⟩ := Y0p hI hA hl hc;have hp : (σ ++ [(nx, AObj.gvec e.size ety (List.replicate n.toNat z))])[σ.length]? = some (nx, .gvec e.size ety (List.replicate n.toNat z)) := by simp
     have hgv : GvRel kn m' w' nx e.size ety (List.replicate n.toNat z) := q3.obj _ _ _ hp;have hgt : GvRel kn m' w' nx e.size ety ((List.replicate n.toNat z').map e.row) := hgv.conv (by simp) fun i row row' hi hi' => by
      rw [List.getElem?_replicate] at hi;rw [List.map_replicate, List.getElem?_replicate] at hi';split at hi
      ·cases hi;rename_i hlt;rw [if_pos hlt] at hi'; cases hi';exact ⟨E.row_len _ _, fun us => X1E absF e _ _ hz' us⟩
      cases hi
     obtain ⟨loc, hm, hll, _⟩ := id hgt;refine ⟨u, m', w', q1, X7h q2 ⟨loc, hm, by simpa using hll⟩, ?_, ?_⟩
     ·have := q3.conv hp (ob' := .tg e ety (List.replicate n.toNat z')) (fun _ => trivial) hgt;simpa using this
     exact ⟨q4.le, q4.ag, fun p nm ob a b => (by
      have := q4.pend p nm ob a b;rw [List.getElem?_append_left (List.getElem?_eq_some_iff.1 a).1] at this ⊢;exact this)⟩
    cases h
   cases h
  cases h
 cases h
theorem Y7g (hI : Inv C B kn m σ nx w) {t len : Nat} {e : E} {r : AV} {parts : List (Nat × AV)} {parts' : Array (Nat × Value)} {σ' : Sto} {nx' : Nat} (h : bslT C.P t len e σ nx parts = some (r, σ', nx')) (hl : parts.length = parts'.size)
  (hp : ∀ (i : Nat) (p : Nat × AV) (p' : Nat × Value), parts[i]? = some p -> parts'[i]? = some p' -> p.1 = p'.1 /\ Rel kn m p.2 p'.2) :
  ∃ u m' w', (Instr.buildSlice t len parts').run C.P w = .ok u w' /\ Rel kn m' r u /\ Inv C B kn m' σ' nx' w' /\ Keep m σ nx m' σ' nx' := by
 unfold bslT at h;split at h
 ·rename_i ety sz by_ he;split at h
  ·rename_i z hz;split at h
   ·rename_i hc;obtain ⟨hs0, hzl, hes, hlim⟩ := hc;subst hes;split at h
    ·rename_i rows hr;obtain ⟨l, hl', h⟩ := Option.map_eq_some_iff.1 h;cases h;obtain ⟨u, m', w', q1, q2, q3, q4⟩ := X3m hI he hz hs0 hzl hlim hr hl hp;have hp' : (σ ++ [(nx, AObj.gvec e.size ety rows)])[σ.length]? = some (nx, .gvec e.size ety rows) := by simp
     have hgv : GvRel kn m' w' nx e.size ety rows := q3.obj _ _ _ hp';obtain ⟨hlen, hget⟩ := Y1J hl';have hgt : GvRel kn m' w' nx e.size ety (l.map e.row) := hgv.conv (by simp [hlen]) fun i row row' hi hi' => by
      rw [List.getElem?_map] at hi';cases hx : l[i]? with
      | none => simp [hx] at hi'
      | some x =>
       simp only [hx, Option.map_some, Option.some.injEq] at hi';subst hi';obtain ⟨a, ha, hf⟩ := hget i x hx;rw [hi] at ha; cases ha;exact ⟨E.row_len _ _, fun us => X1E absF e _ _ hf us⟩
     obtain ⟨loc, hm, hll, _⟩ := id hgt;have hlr : rows.length = len := by
      have h4 : ∀ (parts : List (Nat × AV)) (r0 out : List (List AV)), X4o e.size r0 parts = some out -> out.length = r0.length := by
       intro parts
       induction parts with
       | nil => intro r0 out h; simp only [X4o, Option.some.injEq] at h; subst h; rfl
       | cons p rest ih =>
        obtain ⟨i, x⟩ := p;intro r0 out h;simp only [X4o] at h;split at h
        ·split at h
         ·rw [ih _ _ h, List.length_set]
         cases h
        cases h
      have := h4 _ _ _ hr;simpa using this
     refine ⟨u, m', w', q1, X7h (by rw [hlen, hlr]; exact q2) ⟨loc, hm, by simpa using hll⟩, ?_, ?_⟩
     ·have := q3.conv hp' (ob' := .tg e ety l) (fun _ => trivial) hgt;simpa using this
     exact ⟨q4.le, q4.ag, fun p nm ob a b => (by
      have := q4.pend p nm ob a b;rw [List.getElem?_append_left (List.getElem?_eq_some_iff.1 a).1] at this ⊢;exact this)⟩
    cases h
   cases h
  cases h
 cases h
theorem Y1V (hI : Inv C B kn m σ nx w) {t : Nat} {x r : AV} {v : Value} {lo hi : Option AV} {lo' hi' : Option Value} {σ' : Sto} {nx' : Nat} (h : X5s C.P t σ nx x lo hi = some (r, σ', nx')) (hx : Rel kn m x v)
  (hlo : ∀ a, lo = some a -> ∃ v, lo' = some v /\ Rel kn m a v) (hlo0 : lo = none -> lo' = none) (hhi : ∀ a, hi = some a -> ∃ v, hi' = some v /\ Rel kn m a v) (hhi0 : hi = none -> hi' = none) :
  ∃ u m' w', (Instr.sliceAt t v lo' hi' none).run C.P w = .ok u w' /\ Rel kn m' r u /\ Inv C B kn m' σ' nx' w' /\ Keep m σ nx m' σ' nx' := by
 unfold X5s at h;split at h
 ·rename_i p nm e len;split at h
  ·rename_i q sz by_ l' h' e2 ety l he hb hg;split at h
   ·rename_i hc;obtain ⟨rfl, rfl, rfl, h0, h1⟩ := hc;cases h;obtain ⟨hu, hsz, _⟩ := X1o he;have hp := X0j hg;have hgv : GvRel kn m w nm e.size ety (l.map e.row) := hI.obj _ _ _ hp;cases hx with
    | gs _ _ _ _ _ loc hm hl hr =>
     cases hr with
     | srefNil _ _ _ loc' hm' hn =>
      have hl0 : l = [] := by simpa using hgv.nilRows hm' hn
      subst hl0;have hh0 : h' = 0 := by simp at h1; omega
      subst hh0;have hbs := X1M (C := C) (w := w) (cap := 0) hb hlo hlo0 hhi hhi0 (Int.le_refl _) (Int.le_refl _) (by simp) true;have hrun : (Instr.sliceAt t (.slice none 0 0) lo' hi' none).run C.P w = .ok (.slice none 0 0) w := by
       simp [Instr.sliceAt, run_underlying hu, Instr.slice, hbs, X0l hsz]
      obtain ⟨q1, q2⟩ := hI.replace (ob' := .tg e ety (([] : List e.den).take (0 : Int).toNat)) (loc' := ⟨0, 0, 0, e.size, 0, true⟩) hp trivial hm' (w' := w) (Nat.le_refl _) rfl rfl rfl (.inl rfl) (fun h => by cases h) (fun _ _ _ => rfl)
       (show GvRel _ _ _ _ _ _ _ from ⟨_, X0c _ _ _, rfl, .inl ⟨rfl, rfl⟩⟩)
      exact ⟨_, _, _, hrun, X7h (.srefNil _ _ _ _ (X0c _ _ _) rfl) ⟨_, X0c _ _ _, rfl⟩, q1, q2⟩
     | sref _ _ _ _ _ loc' hm' hn he'' hc hle =>
      have hll0 : loc'.len = len := by rw [hm'] at hm; cases hm; exact hl
      obtain ⟨hll, he2, arr, hw, hsz2, hle2, hmx, hone, hrl, hrr⟩ := hgv.get hm' hn;rw [List.length_map] at hle2 hll;have hbs := X1M (C := C) (w := w) (cap := loc'.cap - 0) hb hlo hlo0 hhi hhi0 (Int.le_refl _) h0 (by omega) true;simp only [Nat.sub_zero] at hbs;have hrun : (Instr.sliceAt t (.slice (some ⟨loc'.blk, loc'.off + 0 * loc'.esz, none⟩) len (loc'.cap - 0)) lo' hi' none).run C.P w = .ok (.slice (some ⟨loc'.blk, loc'.off, none⟩) h'.toNat loc'.cap) w := by
       simp [Instr.sliceAt, run_underlying hu, Instr.slice, hbs, X0l hsz, X2F]
      obtain ⟨q1, q2⟩ := hI.replace (ob' := .tg e ety (l.take h'.toNat)) (loc' := ⟨loc'.blk, loc'.off, loc'.cap, e.size, h'.toNat, false⟩) hp trivial hm' (w' := w) (Nat.le_refl _) rfl rfl rfl (.inr (.inl ⟨hn, rfl⟩)) (fun _ => (hI.own _ _ _ _ hp trivial hm' hn).1) (fun _ _ _ => rfl)
       (show GvRel _ _ _ _ _ _ _ from ⟨_, X0c _ _ _, by simp; omega, .inr ⟨rfl, rfl, arr, hw, hsz2, by simp; omega, hmx, hone, fun i row hi => (by
         rw [List.map_take, List.getElem?_take] at hi;split at hi
         ·exact hrl i row hi
         ·cases hi), fun i row j y v hi hj hv => (by
         rw [List.map_take, List.getElem?_take] at hi;split at hi
         ·exact (hrr i row j y v hi hj hv).mono (KnLe.refl _) (X2i hI _)
         cases hi)⟩⟩)
      refine ⟨_, _, _, hrun, X7h ?_ ⟨_, X0c _ _ _, rfl⟩, q1, q2⟩;have := Rel.sref (kn := kn) p nx e.size 0 h'.toNat _ (X0c m nx ⟨loc'.blk, loc'.off, loc'.cap, e.size, h'.toNat, false⟩) rfl rfl (by show h'.toNat + 0 <= loc'.cap; omega) (by omega);simpa using this
   cases h
  cases h
 cases h
theorem Y5o {α : Type} (l : List α) (z : α) (off len k : Nat) (h : off + len <= l.length) : (l.take off ++ (List.replicate len z ++ l.drop (off + len)))[k]? = if off <= k /\ k < off + len then some z else l[k]? := by
 have := X2o l (List.replicate len z) off k (by simpa using h);rw [List.length_replicate] at this;rw [this];split
 ·rename_i hk; rw [List.getElem?_replicate, if_pos (by omega)]
 rfl
theorem Y2Z (hI : Inv C B kn m σ nx w) {t ty : Nat} {x : AV} {v : Value} {σ' : Sto} (h : Y2Y C.P t σ x = some σ') (hx : Rel kn m x v) :
  ∃ w', (Builtin.clear_ #[t] ty #[v]).run C.P w = .ok (.tuple #[]) w' /\ Inv C B kn m σ' nx w' /\ Keep m σ nx m σ' nx := by
 unfold Y2Y at h;split at h
 ·rename_i p nm e off len;split at h
  ·rename_i ety sz by_ e2 ety' l he hg;split at h
   ·rename_i z hz;split at h
    ·rename_i z' hz';split at h
     ·rename_i hc;cases h;obtain ⟨rfl, hes, hzl, hfit⟩ := hc;subst hes;have hp := X0j hg;obtain ⟨hu, hsz, i, hi, hs1, hs2⟩ := X1o he;have triv : len = 0 -> ∃ a cap, v = .slice a 0 cap := fun h0 => by
       subst h0;cases hx with
       | gvE _ _ _ _ a cap => exact ⟨a, cap, rfl⟩
       | gvS _ _ _ _ _ _ hr =>
        cases hr with
        | srefNil _ _ _ loc hm hn => exact ⟨_, _, rfl⟩
        | sref _ _ _ _ _ loc hm hn he' hl hm' => exact ⟨_, _, rfl⟩
      by_cases h0 : len = 0
      ·obtain ⟨a, cap, rfl⟩ := triv h0;have hrun : (Builtin.clear_ #[t] ty #[.slice a 0 cap]).run C.P w = .ok (.tuple #[]) w := by
        cases a <;> simp [Builtin.clear_, run_underlying hu]
       have hs : σ.set p (nm, .tg e ety' (l.take off ++ (List.replicate len z' ++ l.drop (off + len)))) = σ := by
        subst h0;simp only [List.replicate_zero, List.nil_append, Nat.add_zero, List.take_append_drop];apply List.ext_getElem?;intro q;rw [List.getElem?_set];split
        ·rename_i hq; subst hq; rw [hp]; have := (List.getElem?_eq_some_iff.1 hp).1; simp [this]
        rfl
       rw [hs];exact ⟨w, hrun, hI, Keep.refl _ _ _⟩
      cases hx with
      | gvE _ _ _ _ a cap => exact absurd rfl h0
      | gvS _ _ _ _ _ _ hr =>
       cases hr with
       | srefNil _ _ _ loc hm hn => exact absurd rfl h0
       | sref _ _ _ _ _ loc hm hn he' hl hm' =>
        obtain ⟨i', zv, hi', hzv, rfl, hzr⟩ := X2p hz kn m;rw [hi] at hi'; cases hi';have hzs : zv.cells.size = e.size := by rw [<- Array.length_toList, <- hzr.1.1]; exact hzl
        obtain ⟨hll, hesz, arr, hw, hasz, hle, hmx, hone, hrl, hrr⟩ := GvRel.get (hI.obj _ _ _ hp) hm hn;have hlen : (l.map e.row).length = l.length := List.length_map ..;rw [hlen] at hle hll;have hnew1 : (Builtin.zeroCells zv.cells len).toList.length = len * e.size := by rw [Array.length_toList, size_zeroCells, hzs]
        have hone' := X6g hzr.2 len;have hrow : ∀ us, RelL kn m (zv.cells.toList.map X11) us -> RelL kn m (e.row z') us := fun us => X1E _ _ _ _ hz' us
        have hmul : (off + len) * e.size <= loc.cap * e.size := Nat.mul_le_mul_right _ (by omega);have hA : loc.off + off * e.size + (len * e.size) <= arr.toList.length := by
         rw [Nat.add_mul] at hmul; simp; omega
        have hget : ∀ k, (arr.toList.take (loc.off + off * e.size) ++ ((Builtin.zeroCells zv.cells len).toList ++ arr.toList.drop (loc.off + off * e.size + len * e.size)))[k]? = if loc.off + off * e.size <= k /\ k < loc.off + off * e.size + len * e.size then (Builtin.zeroCells zv.cells len).toList[k - (loc.off + off * e.size)]? else arr.toList[k]? := fun k => by
         have := X2o arr.toList (Builtin.zeroCells zv.cells len).toList (loc.off + off * e.size) k (by rw [hnew1]; exact hA);rw [hnew1] at this; exact this
        have hrun : (Builtin.clear_ #[t] ty #[.slice (some ⟨loc.blk, loc.off + off * loc.esz, none⟩) len (loc.cap - off)]).run C.P w = .ok (.tuple #[]) (w.setRow loc.blk (arr.toList.take (loc.off + off * e.size) ++ ((Builtin.zeroCells zv.cells len).toList ++ arr.toList.drop (loc.off + off * e.size + len * e.size))).toArray) := by
         have hst := run_storeCells_at C.P loc.blk (loc.off + off * e.size) ety' (Builtin.zeroCells zv.cells len).toList 0 arr w hw (by rw [hnew1]; simpa using hA) hone';simp only [Nat.add_zero, hnew1, List.append_assoc] at hst;cases len with
         | zero => exact absurd rfl h0
         | succ q =>
          rw [hesz];simp [Builtin.clear_, run_underlying hu, zeroValue, X1S hi, hzv];rw [hst];rfl
        obtain ⟨q1, q2⟩ := hI.write (ob' := .tg e ety' (l.take off ++ (List.replicate len z' ++ l.drop (off + len)))) hp trivial hm hn
         (w' := w.setRow loc.blk (arr.toList.take (loc.off + off * e.size) ++ ((Builtin.zeroCells zv.cells len).toList ++ arr.toList.drop (loc.off + off * e.size + len * e.size))).toArray) (by simp) rfl rfl rfl
         (fun b hb => setRow_other _ _ _ _ hb)
         (by
          have hL : ((l.take off ++ (List.replicate len z' ++ l.drop (off + len))).map e.row).length = l.length := by simp; omega
          refine ⟨loc, hm, by rw [hL]; exact hll, .inr ⟨hn, hesz, _, setRow_heap w loc.blk arr _ ety' (0, 0) hw, ?_, by rw [hL]; exact hle, hmx, fun u hu => ?_, fun k r hk => ?_, fun k r j y u hk hj hu => ?_⟩⟩
          ·rw [List.size_toArray];have := X3k arr.toList (Builtin.zeroCells zv.cells len).toList (loc.off + off * e.size) (by rw [hnew1]; exact hA);rw [hnew1] at this;rw [this]; simpa using hasz
          ·simp only [List.mem_append] at hu;rcases hu with hu | hu | hu
           ·exact hone u (List.mem_of_mem_take hu)
           ·exact hone' u hu
           exact hone u (List.mem_of_mem_drop hu)
          ·rw [List.getElem?_map] at hk;obtain ⟨d, _, rfl⟩ := Option.map_eq_some_iff.1 hk;exact E.row_len _ _
          rw [List.getElem?_toArray, hget] at hu;rw [List.getElem?_map, Y5o l z' off len k hfit] at hk;have hjl : j < e.size := by
           obtain ⟨d, _, rfl⟩ := Option.map_eq_some_iff.1 hk;rw [<- E.row_len e d]; exact (List.getElem?_eq_some_iff.1 hj).1
          by_cases hk2 : off <= k /\ k < off + len
          ·rw [if_pos hk2] at hk;cases hk;have h1 : off * e.size <= k * e.size := Nat.mul_le_mul_right _ hk2.1;have h2 : k * e.size + j < (off + len) * e.size := X1H hk2.2 hjl;rw [Nat.add_mul] at h2;rw [if_pos ⟨by omega, by omega⟩] at hu;have h3 : loc.off + k * e.size + j - (loc.off + off * e.size) = (k - off) * e.size + j := by rw [Nat.sub_mul]; omega
           rw [h3] at hu;have hfl := X2R _ _ hzr len;rw [hzs] at hfl;have hz0 : (Builtin.zeroCells zv.cells len).toList = ((Array.range (len * e.size)).map (zv.cells[· % e.size]!)).toList := by unfold Builtin.zeroCells; rw [hzs]
           rw [hz0] at hu;refine (hrow (List.ofFn fun q : Fin e.size => zv.cells[q.1]!) ⟨by simp [hzs], fun a x2 v2 ha hb => ?_⟩).2 j y u hj ?_
           ·have ha' : a < e.size := by have := (List.getElem?_eq_some_iff.1 ha).1; simpa [hzs] using this
            have hb' : v2 = zv.cells[a]! := by simp [ha'] at hb; exact hb.symm
            refine hzr.1.2 a x2 v2 ha ?_;have : a < zv.cells.size := by omega
            rw [hb', getElem!_pos zv.cells a this]; simp [this]
           have h4 : (k - off) * e.size + j < len * e.size := X1H (by omega) hjl;have h5 : ((k - off) * e.size + j) % e.size = j := by rw [Nat.mul_comm, Nat.mul_add_mod, Nat.mod_eq_of_lt hjl]
           simp [h4, h5] at hu;simp [hjl, hu]
          rw [if_neg hk2] at hk;have hout : ¬ (loc.off + off * e.size <= loc.off + k * e.size + j /\ loc.off + k * e.size + j < loc.off + off * e.size + len * e.size) := by
           rintro ⟨a, b⟩;apply hk2;constructor
           ·rcases Nat.lt_or_ge k off with h | h
            ·have := X1H (sz := e.size) h hjl; omega
            exact h
           rcases Nat.lt_or_ge k (off + len) with h | h
           ·exact h
           have := Nat.mul_le_mul_right e.size h; rw [Nat.add_mul] at this; omega
          rw [if_neg hout] at hu;exact hrr k r j y u (by rw [List.getElem?_map]; exact hk) hj (by simpa using hu))
        exact ⟨_, hrun, q1, q2⟩
     cases h
    cases h
   cases h
  cases h
 cases h
end
end Go.Ab
namespace Go.Ab
open Go Go.RowKit
section
variable {C : Cx} {B : Base} {kn : Kn} {m : Mp} {σ : Sto} {nx : Nat} {w : World}
theorem X3j {loc : Loc} (h : loc.nil = true) : X2a loc = .slice none 0 0 := by unfold X2a; rw [if_pos h]
theorem X0W {loc : Loc} (h : loc.nil = false) : X2a loc = .slice (some ⟨loc.blk, loc.off, none⟩) loc.len loc.cap := by unfold X2a; rw [if_neg (by rw [h]; exact Bool.false_ne_true)]
theorem Z3F {t t' ty e' bytes nm esz ety : Nat} {zv yv : Value} {rows ys : List (List AV)} {loc : Loc} (hT : AppTy C t t' e' esz bytes zv) (hs0 : 0 < esz) (hE : X6h C kn m w esz ys yv) (hg : GvRel kn m w nm esz ety rows) (hm : m nm = some loc)
  (hb : (rows.length + ys.length) * bytes <= limB) (hm62 : rows.length + ys.length <= 4611686018427387904) :
  ∃ w' loc', (Builtin.append_ #[t, t'] ty #[X2a loc, yv]).run C.P w = .ok (X2a loc') w' /\ w.heap.size <= w'.heap.size /\ w'.os = w.os /\ w'.tape = w.tape /\ w'.output = w.output /\ loc'.len = rows.length + ys.length /\
   (loc'.nil = false -> loc'.esz = esz /\ loc'.blk < w'.heap.size) /\ (∀ b, b < w.heap.size -> (loc'.nil = true \/ b ≠ loc'.blk) -> w'.heap[b]? = w.heap[b]?) /\
   (loc'.nil = true \/ (loc'.nil = false /\ loc.nil = false /\ loc'.blk = loc.blk /\ loc'.off = loc.off /\ ∀ o, o < loc.off + rows.length * esz -> w'.cell? ⟨loc.blk, o, none⟩ = w.cell? ⟨loc.blk, o, none⟩) \/ (loc'.nil = false /\ w.heap.size <= loc'.blk /\ loc'.off = 0 /\ rows.length + ys.length ≠ 0)) /\
   ∀ (m' : Mp) (nm' : Nat), MpLe m m' -> m' nm' = some loc' -> ∃ ety', GvRel kn m' w' nm' esz ety' (rows ++ ys) := by
 cases hnil : loc.nil with
 | true =>
  have h0 : rows = [] := hg.nilRows hm hnil;subst h0;rw [X3j hnil]
  by_cases hy : ys.length = 0
  ·have hn0 : ys = [] := List.eq_nil_of_length_eq_zero hy;subst hn0;obtain ⟨news, hnl, hnf, hnr⟩ := hE;have hrun := X1a (C := C) (w := w) (ty := ty) (sLen := 0) (sCap := 0) (base := none) hT.hu hT.hni hT.hsz (hnr w rfl).1 (hnr w rfl).2 (by simp);refine ⟨w, ⟨0, 0, 0, esz, 0, true⟩, by rw [X3j rfl]; simpa using hrun, Nat.le_refl _, rfl, rfl, rfl, rfl, (fun h => by cases h), fun _ _ _ => rfl, .inl rfl, fun m' nm' _ h => ⟨ety, ⟨_, h, rfl, .inl ⟨rfl, rfl⟩⟩⟩⟩
  obtain ⟨w', cap, hrun, h1, h2, h3, h4, h5, h6, h7, h8⟩ := X8n (ty := ty) hT hE none hy (by simpa using hb) (by simpa using hm62);refine ⟨w', ⟨w.heap.size, 0, cap, esz, ys.length, false⟩, by rw [X0W rfl]; exact hrun, h1, h2, h3, h4, by simp, fun _ => ⟨rfl, h5⟩, fun b hb _ => h6 b hb, .inr (.inr ⟨rfl, Nat.le_refl _, rfl, by simpa using hy⟩), fun m' nm' hle h => ⟨e', h8 m' nm' hle h⟩⟩
 | false =>
  rw [X0W hnil];have hu := hT.hu;have hni := hT.hni;have hsz := hT.hsz;have hzs := hT.hzs;obtain ⟨i, hi, his, hib, hzv⟩ := hT.i;obtain ⟨news, hnl, hnf, hnr⟩ := hE;obtain ⟨hll, hez, arr, hw, hsz', hle', hmx, hone, hrl, hrr⟩ := hg.get hm hnil;obtain ⟨olds, hol, hof, hor⟩ := Y1z (C := C) hg hs0 hm hnil (off := 0) (len := rows.length) (by omega) (by omega);simp only [List.drop_zero, List.take_length, Nat.zero_mul, Nat.add_zero, Nat.sub_zero] at hol hof hor;rw [hll];have hlenr : (rows ++ ys).length = rows.length + ys.length := List.length_append
  by_cases hroom : rows.length + ys.length <= loc.cap
  ·have hrun := X1a (C := C) (w := w) (ty := ty) (sLen := rows.length) (sCap := loc.cap) (base := some ⟨loc.blk, loc.off, none⟩) hu hni hsz (hnr w rfl).1 (hnr w rfl).2 hroom;have hroom' : (rows.length + ys.length) * esz <= loc.cap * esz := Nat.mul_le_mul_right _ hroom;rw [Nat.add_mul] at hroom';have hfit : loc.off + rows.length * esz + news.length <= arr.toList.length := by rw [hnl, Array.length_toList (xs := arr)]; omega
   have hst := run_storeCells_at C.P loc.blk (loc.off + rows.length * esz) ety news 0 arr w hw (by simpa using hfit) hnf.2.2;simp only [Nat.add_zero, List.append_assoc] at hst;simp only [X2F, hst, Result.andThen_ok] at hrun;have hsp := X2o arr.toList news (loc.off + rows.length * esz);have hset := setRow_heap w loc.blk arr (arr.toList.take (loc.off + rows.length * esz) ++ (news ++ arr.toList.drop (loc.off + rows.length * esz + news.length))).toArray ety (0, 0) hw;have hbw : loc.blk < w.heap.size := by
    rcases Nat.lt_or_ge loc.blk w.heap.size with h | h
    ·exact h
    rw [Array.getElem?_eq_none h] at hw; cases hw
   refine ⟨w.setRow loc.blk (arr.toList.take (loc.off + rows.length * esz) ++ (news ++ arr.toList.drop (loc.off + rows.length * esz + news.length))).toArray, ⟨loc.blk, loc.off, loc.cap, esz, rows.length + ys.length, false⟩, by rw [X0W rfl]; exact hrun, by simp, rfl, rfl, rfl, rfl, fun _ => ⟨rfl, by simpa using hbw⟩, fun b _ hb => setRow_other _ _ _ _ (hb.resolve_left (by simp)), .inr (.inl ⟨rfl, rfl, rfl, rfl, fun o ho => ?_⟩), fun m' nm' hmle hnm => ⟨ety, ?_⟩⟩
   ·have h2 : (arr.toList.take (loc.off + rows.length * esz) ++ (news ++ arr.toList.drop (loc.off + rows.length * esz + news.length))).toArray[o]? = arr[o]? := by
     rw [List.getElem?_toArray, hsp _ hfit, if_neg (fun hh => by omega), Array.getElem?_toList]
    simp only [World.cell?, hset, hw];simpa using h2
   refine ⟨_, hnm, hlenr.symm, .inr ⟨rfl, rfl, _, hset, ?_, by rw [hlenr]; exact hroom, hmx, fun u hu => ?_, fun k row hk => ?_, fun k row j x v hk hj hv => ?_⟩⟩
   ·rw [List.size_toArray, X3k _ _ _ hfit, Array.length_toList];exact hsz'
   ·simp only [List.mem_append] at hu;rcases hu with hu | hu | hu
    ·exact hone u (List.mem_of_mem_take hu)
    ·exact hnf.2.2 u hu
    exact hone u (List.mem_of_mem_drop hu)
   ·rcases Nat.lt_or_ge k rows.length with hk' | hk'
    ·rw [List.getElem?_append_left hk'] at hk;exact hrl k row hk
    rw [List.getElem?_append_right hk'] at hk;exact hnf.1 _ row hk
   have hv' : (arr.toList.take (loc.off + rows.length * esz) ++ (news ++ arr.toList.drop (loc.off + rows.length * esz + news.length)))[loc.off + k * esz + j]? = some v := by
    simpa using hv
   rw [hsp _ hfit] at hv';rcases Nat.lt_or_ge k rows.length with hk' | hk'
   ·rw [List.getElem?_append_left hk'] at hk;have hjl : j < esz := by rw [<- hrl k row hk]; exact (List.getElem?_eq_some_iff.1 hj).1
    have := X1H hk' hjl;rw [if_neg (by omega)] at hv';exact (hrr k row j x v hk hj (by rw [<- Array.getElem?_toList, <- hv'])).mono (KnLe.refl _) hmle
   rw [List.getElem?_append_right hk'] at hk;have hjl : j < esz := by rw [<- hnf.1 _ row hk]; exact (List.getElem?_eq_some_iff.1 hj).1
   have h1 := X1H (List.getElem?_eq_some_iff.1 hk).1 hjl;have h2 : k * esz = rows.length * esz + (k - rows.length) * esz := by rw [<- Nat.add_mul]; congr 1; omega
   rw [if_pos ⟨by omega, by rw [hnl]; omega⟩] at hv';refine (hnf.2.1 (k - rows.length) row j x v hk hj ?_).mono (KnLe.refl _) hmle;rw [<- hv']
   congr 1
   omega
  have hold := (hor w.drew rfl).2;rw [<- hll] at hold;rw [<- hll];have hrun := X3G (C := C) (w := w) (ty := ty) (sLen := loc.len) (sCap := loc.cap) (base := some ⟨loc.blk, loc.off, none⟩) hu hni hi his hzv (hnr w rfl).1 (hnr w.drew rfl).2 (by rw [hll]; rw [hll] at hold; exact hold) (by omega) (by omega) (by rw [hib, hll]; exact hb);rw [hll] at hrun ⊢;have hcl : (olds ++ news).length = (rows ++ ys).length * esz := by rw [List.length_append, List.length_append, hol, hnl, Nat.add_mul]
  refine ⟨w.drew.alloc (.cells ((olds ++ news).toArray ++ Builtin.zeroCells zv.cells (grownCap w (rows.length + ys.length) loc.cap e' - (rows.length + ys.length))) e'), ⟨w.heap.size, 0, grownCap w (rows.length + ys.length) loc.cap e', esz, rows.length + ys.length, false⟩, ?_, by simp, rfl, rfl, rfl, rfl, fun _ => ⟨rfl, by simp⟩, fun b hb _ => Below.heap_alloc w.drew _ _ hb, .inr (.inr ⟨rfl, Nat.le_refl _, rfl, by omega⟩), fun m' nm' hmle hnm => ⟨e', ?_⟩⟩
  ·rw [X0W rfl, hrun, show olds.toArray ++ news.toArray = (olds ++ news).toArray by simp]
  exact X8H (w := w) (X8C hof hol hnf) hcl hlenr hzs hT.hz1 hm62 m' hmle hnm (heap_alloc_new w.drew _)
theorem Y3k {ob : AObj} (h : X0K ob = true) : live ob := by cases ob <;> first | trivial | cases h
theorem X7D {ob : AObj} (h : X0D ob = true) : live ob := by cases ob <;> first | trivial | cases h
theorem Inv.two (hI : Inv C B kn m σ nx w) {p h nm q q' nx' : Nat} {ob1 ob1' ob2 ob2' : AObj} {m' : Mp} {kn' : Kn} {w' : World} (hne : p ≠ h) (hp : σ[p]? = some (nm, ob1)) (hh : σ[h]? = some (q, ob2)) (hst : X0D ob1 = true) (hl2 : live ob2)
  (hle : KnLe kn kn') (hold : ∀ n, n < nx -> m' n = m n) (hnx : nx <= nx') (hdom : ∀ n, nx' <= n -> m' n = none) (hq' : q' = q \/ (nx <= q' /\ q' < nx'))
  (hs : w.heap.size <= w'.heap.size) (ho : w'.os = w.os) (ht : w'.tape = w.tape) (hout : w'.output = w.output)
  (hsame : ∀ b, b < w.heap.size -> (∀ loc, m nm = some loc -> loc.nil = false -> loc.blk ≠ b) -> (∀ loc, m q = some loc -> loc.nil = false -> loc.blk ≠ b) -> w'.heap[b]? = w.heap[b]? /\ kn' b = kn b)
  (hknok : ∀ b o v, kn' b o = some v -> w'.cell? ⟨b, o, none⟩ = some v)
  (hob1 : ObjRel C.P B kn' m' w' nm ob1') (hob2 : ObjRel C.P B kn' m' w' q' ob2') (hlaid1 : ∃ loc, m nm = some loc) (hlaid2 : ∃ loc, m q = some loc)
  (hown1 : ∀ loc, m nm = some loc -> loc.nil = false -> ∀ o, kn' loc.blk o = none)
  (hown2 : live ob2' -> ∀ loc, m' q' = some loc -> loc.nil = false -> loc.blk < w'.heap.size /\ ((∃ l, m q = some l /\ l.nil = false /\ l.blk = loc.blk) \/ w.heap.size <= loc.blk) /\ (X0K ob2' = false -> ∀ o, kn' loc.blk o = none))
  (hsk1 : X0D ob1' = true) (hsk2 : X0D ob2' = false) :
  Inv C B kn' m' ((σ.set p (nm, ob1')).set h (q', ob2')) nx' w' /\ Keep m σ nx m' ((σ.set p (nm, ob1')).set h (q', ob2')) nx' := by
 have hpl : p < σ.length := (List.getElem?_eq_some_iff.1 hp).1;have hhl : h < σ.length := (List.getElem?_eq_some_iff.1 hh).1;have hl1 := X7D hst;have hnm := hI.lt p nm ob1 hp;have hq := hI.lt h q ob2 hh;have hmle : MpLe m m' := fun n l e => by
  rcases Nat.lt_or_ge n nx with hlt | hge
  ·rw [hold n hlt]; exact e
  rw [hI.dom n hge] at e; cases e
 have hget : ∀ (p' nm' : Nat) (ob'' : AObj), ((σ.set p (nm, ob1')).set h (q', ob2'))[p']? = some (nm', ob'') -> (p' = p /\ nm' = nm /\ ob'' = ob1') \/ (p' = h /\ nm' = q' /\ ob'' = ob2') \/ (p' ≠ p /\ p' ≠ h /\ σ[p']? = some (nm', ob'')) := fun p' nm' ob'' e => by
  rw [List.getElem?_set] at e;split at e
  ·rename_i hx
   first
    | (cases e; exact .inr (.inl ⟨hx.symm, rfl, rfl⟩))
    | (split at e
       ·cases e; exact .inr (.inl ⟨hx.symm, rfl, rfl⟩)
       cases e)
  rename_i hx;rw [List.getElem?_set] at e;split at e
  ·rename_i hy
   first
    | (cases e; exact .inl ⟨hy.symm, rfl, rfl⟩)
    | (split at e
       ·cases e; exact .inl ⟨hy.symm, rfl, rfl⟩
       cases e)
  rename_i hy; exact .inr (.inr ⟨fun h => hy h.symm, fun h => hx h.symm, e⟩)
 have far : ∀ (p' nm' : Nat) (ob'' : AObj) (l : Loc), p' ≠ p -> p' ≠ h -> σ[p']? = some (nm', ob'') -> live ob'' -> m nm' = some l -> l.nil = false -> w'.heap[l.blk]? = w.heap[l.blk]? /\ kn' l.blk = kn l.blk := fun p' nm' ob'' l h1 h2 e hl hm hn =>
  hsame l.blk (hI.own p' nm' ob'' l e hl hm hn).1 (fun loc a b => hI.dist p nm ob1 loc p' nm' ob'' l hp e hl1 hl a hm b hn (fun x => h1 x.symm)) (fun loc a b => hI.dist h q ob2 loc p' nm' ob'' l hh e hl2 hl a hm b hn (fun x => h2 x.symm))
 have hqlt : q' < nx' := by rcases hq' with rfl | h <;> omega
 refine ⟨⟨hknok, Nat.le_trans hI.size hs, ho.trans hI.os, ht.trans hI.tape, hout.trans hI.output, fun b hbb hob => ?_, fun p' nm' ob'' e => ?_, fun p' nm' ob'' l e hl hm hn => ?_, fun p1 n1 o1 l1 p2 n2 o2 l2 e1 e2 v1 v2 m1 m2 hn1 hn2 hne' => ?_, hdom, fun p' nm' ob'' e => ?_, fun p1 p2 n1 o1 o2 e1 e2 => ?_, fun p1 p2 n1 n2 o1 o2 e1 e2 s1 s2 => ?_, fun g => (hI.glob g).mono hle hmle, hI.tab⟩,
  ⟨hnx, hold, fun p' nm' ob'' e e' => ?_⟩⟩
 ·have h0 := hI.old b hbb hob;obtain ⟨a, b⟩ := hsame b (Nat.lt_of_lt_of_le hbb hI.size) (fun loc a b' eb => by
    rcases (hI.own p nm ob1 loc hp hl1 a b').2.1 with h | h
    ·omega
    ·rw [eb] at h; exact hob h) (fun loc a b' eb => by
    rcases (hI.own h q ob2 loc hh hl2 a b').2.1 with h | h
    ·omega
    rw [eb] at h; exact hob h)
  exact ⟨a.trans h0.1, b.trans h0.2⟩
 ·rcases hget p' nm' ob'' e with ⟨rfl, rfl, rfl⟩ | ⟨rfl, rfl, rfl⟩ | ⟨h1, h2, e'⟩
  ·exact hob1
  ·exact hob2
  have hlt := hI.lt p' nm' ob'' e';refine ((hI.obj p' nm' ob'' e').mono hle (fun l hl hm hn => (far p' nm' ob'' l h1 h2 e' hl hm hn).1) (fun b hq => ?_)).mono_m (hold nm' hlt) hmle;rcases hq with ⟨hx, _⟩ | ⟨hx, l, hm, hn, rfl⟩
  ·exact absurd (hI.stk1 _ _ _ _ _ _ e' hp hx hst) h1
  exact far p' nm' ob'' l h1 h2 e' (Y3k hx) hm hn
 ·rcases hget p' nm' ob'' e with ⟨rfl, rfl, rfl⟩ | ⟨rfl, rfl, rfl⟩ | ⟨h1, h2, e'⟩
  ·rw [hold _ hnm] at hm;obtain ⟨a, b, c⟩ := hI.own p' nm' ob1 l hp hl1 hm hn;exact ⟨Nat.lt_of_lt_of_le a hs, b, fun _ => hown1 l hm hn⟩
  ·obtain ⟨a, b, c⟩ := hown2 hl l hm hn;refine ⟨a, ?_, c⟩;rcases b with ⟨l', b1, b2, b3⟩ | b
   ·rw [<- b3]; exact (hI.own _ q ob2 l' hh hl2 b1 b2).2.1
   exact .inl (Nat.le_trans hI.size b)
  rw [hold _ (hI.lt p' nm' ob'' e')] at hm;obtain ⟨a, b, c⟩ := hI.own p' nm' ob'' l e' hl hm hn;exact ⟨Nat.lt_of_lt_of_le a hs, b, fun hx o => by rw [(far p' nm' ob'' l h1 h2 e' hl hm hn).2]; exact c hx o⟩
 ·
  have key : ∀ (p1 n1 : Nat) (o1 : AObj) (l1 : Loc), p1 ≠ h -> ((σ.set p (nm, ob1')).set h (q', ob2'))[p1]? = some (n1, o1) -> live o1 -> m' n1 = some l1 -> l1.nil = false -> ∃ o1', σ[p1]? = some (n1, o1') /\ live o1' /\ m n1 = some l1 := fun p1 n1 o1 l1 hx e1 v1 m1 hn1 => by
   rcases hget p1 n1 o1 e1 with ⟨rfl, rfl, rfl⟩ | ⟨rfl, rfl, rfl⟩ | ⟨h1, h2, e'⟩
   ·exact ⟨ob1, hp, hl1, by rw [<- hold _ hnm]; exact m1⟩
   ·exact absurd rfl hx
   exact ⟨o1, e', v1, by rw [<- hold _ (hI.lt _ _ _ e')]; exact m1⟩
  have key2 : ∀ (p1 n1 n2 : Nat) (o1 o2 : AObj) (l1 l2 : Loc), p1 ≠ h -> ((σ.set p (nm, ob1')).set h (q', ob2'))[p1]? = some (n1, o1) -> ((σ.set p (nm, ob1')).set h (q', ob2'))[h]? = some (n2, o2) -> live o1 -> live o2 -> m' n1 = some l1 -> m' n2 = some l2 -> l1.nil = false -> l2.nil = false -> l1.blk ≠ l2.blk := fun p1 n1 n2 o1 o2 l1 l2 hx e1 e2 v1 v2 m1 m2 hn1 hn2 => by
   obtain ⟨o1', a1, a2, a3⟩ := key p1 n1 o1 l1 hx e1 v1 m1 hn1;rcases hget h n2 o2 e2 with ⟨hy, _⟩ | ⟨_, rfl, rfl⟩ | ⟨_, hy, _⟩
   ·exact absurd hy.symm hne
   ·obtain ⟨_, b, _⟩ := hown2 v2 l2 m2 hn2;rcases b with ⟨l', b1, b2, b3⟩ | b
    ·rw [<- b3];exact hI.dist p1 n1 o1' l1 h q ob2 l' a1 hh a2 hl2 a3 b1 hn1 b2 hx
    have := (hI.own p1 n1 o1' l1 a1 a2 a3 hn1).1;omega
   exact absurd rfl hy
  by_cases hx : p1 = h
  ·subst hx;exact fun hb => key2 p2 n2 n1 o2 o1 l2 l1 (fun hy => hne' hy.symm) e2 e1 v2 v1 m2 m1 hn2 hn1 hb.symm
  by_cases hy : p2 = h
  ·subst hy;exact key2 p1 n1 n2 o1 o2 l1 l2 hx e1 e2 v1 v2 m1 m2 hn1 hn2
  obtain ⟨o1', a1, a2, a3⟩ := key p1 n1 o1 l1 hx e1 v1 m1 hn1;obtain ⟨o2', b1, b2, b3⟩ := key p2 n2 o2 l2 hy e2 v2 m2 hn2;exact hI.dist p1 n1 o1' l1 p2 n2 o2' l2 a1 b1 a2 b2 a3 b3 hn1 hn2 hne'
 ·rcases hget p' nm' ob'' e with ⟨rfl, rfl, rfl⟩ | ⟨rfl, rfl, rfl⟩ | ⟨h1, h2, e'⟩
  ·omega
  ·exact hqlt
  have := hI.lt _ _ _ e'; omega
 ·have uq : ∀ (p1 n1 : Nat) (o1 : AObj), ((σ.set p (nm, ob1')).set h (q', ob2'))[p1]? = some (n1, o1) -> (p1 = h /\ n1 = q') \/ (p1 ≠ h /\ ∃ o, σ[p1]? = some (n1, o)) := fun p1 n1 o1 e1 => by
   rcases hget p1 n1 o1 e1 with ⟨rfl, rfl, rfl⟩ | ⟨rfl, rfl, rfl⟩ | ⟨h1, h2, e'⟩
   ·exact .inr ⟨hne, _, hp⟩
   ·exact .inl ⟨rfl, rfl⟩
   exact .inr ⟨h2, _, e'⟩
  rcases uq p1 n1 o1 e1 with ⟨rfl, h1⟩ | ⟨h1, o, a1⟩
  ·rcases uq p2 n1 o2 e2 with ⟨rfl, _⟩ | ⟨h2, o', a2⟩
   ·rfl
   rcases hq' with h3 | h3
   ·rw [h1, h3] at a2;exact absurd (hI.uniq _ _ _ _ _ a2 hh) h2
   have := hI.lt _ _ _ a2; omega
  rcases uq p2 n1 o2 e2 with ⟨rfl, h2⟩ | ⟨h2, o', a2⟩
  ·rcases hq' with h3 | h3
   ·rw [h2, h3] at a1;exact absurd (hI.uniq _ _ _ _ _ a1 hh) h1
   have := hI.lt _ _ _ a1; omega
  exact hI.uniq _ _ _ _ _ a1 a2
 ·have sk : ∀ (p1 n1 : Nat) (o1 : AObj), ((σ.set p (nm, ob1')).set h (q', ob2'))[p1]? = some (n1, o1) -> X0D o1 = true -> p1 = p := fun p1 n1 o1 e1 s1 => by
   rcases hget p1 n1 o1 e1 with ⟨rfl, rfl, rfl⟩ | ⟨rfl, rfl, rfl⟩ | ⟨h1, h2, e'⟩
   ·rfl
   ·rw [hsk2] at s1; cases s1
   exact absurd (hI.stk1 _ _ _ _ _ _ e' hp s1 hst) h1
  rw [sk _ _ _ e1 s1, sk _ _ _ e2 s2]
 have h1 : p' ≠ p := fun x => by
  subst x; rw [hp] at e; cases e;obtain ⟨loc, hl⟩ := hlaid1;rw [hl] at e'; cases e'
 have h2 : p' ≠ h := fun x => by
  subst x; rw [hh] at e; cases e;obtain ⟨loc, hl⟩ := hlaid2;rw [hl] at e'; cases e'
 rw [List.getElem?_set_ne (fun x => h2 x.symm), List.getElem?_set_ne (fun x => h1 x.symm)];exact e
end
end Go.Ab
namespace Go.Ab
open Go Go.RowKit
section
variable {C : Cx} {B : Base} {kn : Kn} {m : Mp} {σ : Sto} {nx : Nat} {w : World}
theorem Y42 {e : E} {l : List e.den} {k : Nat} {row : List AV} (h : (l.map e.row)[k]? = some row) : row.length = e.size := by
 obtain ⟨y, _, rfl⟩ := List.mem_map.1 (List.mem_of_getElem? h);exact E.row_len _ _
theorem Y6b {rv : List Value} {k : Nat} {row : List AV} (h : (rv.map fun v => [AV.base v])[k]? = some row) : ∃ v, row = [AV.base v] := by
 obtain ⟨y, _, rfl⟩ := List.mem_map.1 (List.mem_of_getElem? h);exact ⟨y, rfl⟩
theorem Z3D {row : List AV} {us : List Value} (h : row.length = 1) (hu : RelL kn m row us) : RelL kn m [.any] us := by
 refine ⟨by rw [<- hu.1, h]; rfl, fun k x v hx _ => ?_⟩;cases k with
 | zero => simp at hx; subst hx; exact .any _
 | succ k => simp at hx
theorem Z2n {h q esz len : Nat} {v : Value} {loc : Loc} (hv : Rel kn m (.sref h q esz 0 len) v) (hm : m q = some loc) (hl : loc.len = len) : v = X2a loc := by
 cases hv with
 | srefNil _ _ _ loc' hm' hn => rw [hm] at hm'; cases hm'; exact (X3j hn).symm
 | sref _ _ _ _ _ loc' hm' hn he hc hle =>
  rw [hm] at hm'; cases hm';rw [X0W hn, hl]; simp
theorem Z2Y {h q len : Nat} {e : E} {v : Value} (hv : Rel kn m (.gs h q e len) v) : ∃ loc, m q = some loc /\ loc.len = len /\ v = X2a loc := by
 cases hv with
 | gs _ _ _ _ _ loc hm hl hr => exact ⟨loc, hm, hl, Z2n hr hm hl⟩
theorem Y1y {h nm ety : Nat} {e : E} {rows : List (List AV)} {loc : Loc} (hg : GvRel kn m w nm e.size ety rows) (hm : m nm = some loc) (h62 : rows.length <= 2 ^ 62) : Rel kn m (.gs h nm e rows.length) (X2a loc) := by
 have hll : loc.len = rows.length := by obtain ⟨loc', hm', hl, _⟩ := hg; rw [hm] at hm'; cases hm'; exact hl
 refine .gs _ _ _ _ _ loc hm hll ?_;cases hn : loc.nil with
 | true =>
  have := hg.nilRows hm hn;subst this;rw [X3j hn];exact .srefNil _ _ _ loc hm hn
 | false =>
  obtain ⟨_, he, arr, hw, hsz, hle, _⟩ := hg.get hm hn;have := Rel.sref (kn := kn) h nm e.size 0 rows.length loc hm hn he (by simpa using hle) h62;rw [X0W hn, hll];simpa using this
theorem Z5K {loc : Loc} {b : Nat} (h : bkOf (X2a loc) = some b) : loc.nil = false /\ b = loc.blk := by
 cases hn : loc.nil with
 | true => rw [X3j hn] at h; cases h
 | false => rw [X0W hn] at h; cases h; exact ⟨rfl, rfl⟩
def X4e (kn : Kn) (loc : Loc) (n : Nat) (w : World) : Kn := fun b o => if loc.nil = false /\ b = loc.blk /\ loc.off <= o /\ o < loc.off + n then w.cell? ⟨b, o, none⟩ else kn b o
theorem Z1O {q : Nat} {e : E} {r ys : List e.den} {loc : Loc} (hH : X3X kn m w q e r ys) (hm : m q = some loc) (how : loc.nil = false -> Ow B loc.blk) (hle : KnLe kn (X4e kn loc ((r ++ ys).length * e.size) w)) : RowV B (X4e kn loc ((r ++ ys).length * e.size) w) w e (r ++ ys) (X2a loc) := by
 obtain ⟨ty, hg, hs0, h62, hb⟩ := hH;cases hn : loc.nil with
 | true =>
  have := hg.nilRows hm hn;exact .inl ⟨by simpa using this, X3j hn⟩
 | false =>
  obtain ⟨hne, hb⟩ := hb loc hm hn;obtain ⟨hll, hez, arr, hw, hsz, hlc, hmx, hone, hrl, hrr⟩ := hg.get hm hn;rw [List.length_map] at hll hlc;refine .inr ⟨hne, hs0, loc.blk, loc.off, loc.cap, arr, ty, by rw [X0W hn, hll], hw, hsz, hlc, hmx, by rw [List.length_append]; exact h62, hone, fun i row j x u a b c => ⟨fun m1 => ?_, ?_⟩, fun o' ho => ?_, how hn⟩
  ·have h1 := (hrr i row j x u a b c).mono hle (MpLe.refl m);exact h1.rf ((E.rows_rf e (r ++ ys) |> fun h => (X7t _).1 h row (List.mem_of_getElem? a)).get b) m1
  ·have hi : i < (r ++ ys).length := by have := (List.getElem?_eq_some_iff.1 a).1; simpa using this
   have hj : j < e.size := by
    have := hrl i row a;rw [<- this]; exact (List.getElem?_eq_some_iff.1 b).1
   have hlt := X1H hi hj;unfold X4e;rw [if_pos ⟨hn, rfl, by omega, by omega⟩];simp only [World.cell?, hw];simpa using c
  unfold X4e;rw [if_neg (fun hh => by omega)];refine hb o' ?_;rw [List.length_append, Nat.add_mul] at ho;omega
theorem Y9Z {loc : Loc} {n : Nat} (h : ∀ b o v, kn b o = some v -> w.cell? ⟨b, o, none⟩ = some v) : (KnLe kn (X4e kn loc n w)) /\ ∀ b o v, X4e kn loc n w b o = some v -> w.cell? ⟨b, o, none⟩ = some v := by
 refine ⟨fun b o v e => ?_, fun b o v e => ?_⟩
 ·unfold X4e;split
  ·exact h b o v e
  exact e
 unfold X4e at e;split at e
 ·exact e
 exact h b o v e
theorem X8N {loc : Loc} {n b : Nat} (h : loc.nil = false -> loc.blk ≠ b) : X4e kn loc n w b = kn b := by
 funext o
 unfold X4e;rw [if_neg (fun hh => h hh.1 hh.2.1.symm)]
theorem Y1D {i j h q : Nat} {b : Bool} (hj : ¬ i = j) : Z4e (.out i h q b) j = false := by
 show Nat.beq i j = false;cases hb : Nat.beq i j with
 | false => rfl
 | true => exact absurd (Nat.eq_of_beq_eq_true hb) hj
theorem Y0j {i h q : Nat} {b : Bool} : Z4e (.out i h q b) i = true := Nat.beq_refl i
theorem Inv.sealT (hI : Inv C B kn m σ nx w) {p h nm q i ps ety : Nat} {e : E} {l : List (List e.den)} {pe : Bool} {r ys : List e.den} (hne : p ≠ h) (hp : σ[p]? = some (nm, .stk e ety l (.out i h q false))) (hh : σ[h]? = some (q, .hand e ps pe r ys)) (hil : i < l.length) :
  ∃ kn', KnLe kn kn' /\ Inv C B kn' m ((σ.set p (nm, .stk e ety (l.set i (r ++ ys)) .no)).set h (q, .none)) nx w /\ Keep m σ nx m ((σ.set p (nm, .stk e ety (l.set i (r ++ ys)) .no)).set h (q, .none)) nx := by
 have hS := hI.obj _ _ _ hp;have hH : X3X kn m w q e r ys := hI.obj _ _ _ hh;obtain ⟨rv, hgv, hrl, hrows, hdist, locq, hq, hrv⟩ := hS;obtain ⟨loc1, hm1, _⟩ := id hgv;obtain ⟨k1, k2⟩ := Y9Z (loc := locq) (n := (r ++ ys).length * e.size) hI.knok;have how : locq.nil = false -> Ow B locq.blk := fun hn => (hI.own h q _ locq hh trivial hq hn).2.1
 refine ⟨X4e kn locq ((r ++ ys).length * e.size) w, k1, hI.two hne hp hh rfl trivial k1 (fun _ _ => rfl) (Nat.le_refl _) hI.dom (.inl rfl) (Nat.le_refl _) rfl rfl rfl (fun b _ _ hb => ⟨rfl, X8N (hb locq hq)⟩) k2 ?_ trivial ⟨loc1, hm1⟩ ⟨locq, hq⟩ (fun loc hm hn o => ?_) (fun hl => hl.elim) rfl rfl⟩
 ·refine ⟨rv, hgv.mono k1 (fun _ _ _ => rfl), by rw [List.length_set]; exact hrl, fun j r' v _ a b => ?_, hdist, trivial⟩;rw [List.getElem?_set] at a
  by_cases hj : i = j
  ·subst hj;rw [if_pos rfl, if_pos hil] at a;cases a;rw [hrv] at b; cases b;exact Z1O hH hq how k1
  rw [if_neg hj] at a;refine (hrows j r' v (Y1D hj) a b).mono k1 (fun b' hb _ => ⟨rfl, X8N (fun hn eb => ?_)⟩);have h1 := hdist j i v (X2a locq) (fun x => hj x.symm) b hrv (by rw [hb, X0W hn, <- eb]; rfl);rw [hb] at h1; cases h1
 rw [X8N (fun hn' => hI.dist h q _ locq p nm _ loc hh hp trivial trivial hq hm hn' hn (fun x => hne x.symm))];exact (hI.own p nm _ loc hp trivial hm hn).2.2 rfl o
theorem Inv.addHand (hI : Inv C B kn m σ nx w) {ob : AObj} {loc : Loc} (hx : X0K ob = true) (hob : ObjRel C.P B kn (mput m nx loc) w nx ob) (hbk : loc.nil = false -> loc.blk < w.heap.size /\ Ow B loc.blk /\ (∃ o v, kn loc.blk o = some v) /\ ∀ (p nm : Nat) (ob' : AObj), σ[p]? = some (nm, ob') -> X0K ob' = false) :
  Inv C B kn (mput m nx loc) (σ ++ [(nx, ob)]) (nx + 1) w /\ Keep m σ nx (mput m nx loc) (σ ++ [(nx, ob)]) (nx + 1) := by
 have hmle : MpLe m (mput m nx loc) := X2i hI _;have hlo : live ob := Y3k hx;have hns : X0D ob = false := by cases ob <;> first | rfl | cases hx
 have hget : ∀ (p' nm' : Nat) (ob'' : AObj), (σ ++ [(nx, ob)])[p']? = some (nm', ob'') -> (p' = σ.length /\ nm' = nx /\ ob'' = ob) \/ (p' ≠ σ.length /\ σ[p']? = some (nm', ob'')) := fun p' nm' ob'' e => by
  rcases Nat.lt_trichotomy p' σ.length with h | h | h
  ·rw [List.getElem?_append_left h] at e; exact .inr ⟨by omega, e⟩
  ·subst h; rw [List.getElem?_append_right (Nat.le_refl _)] at e; simp at e; exact .inl ⟨rfl, e.1.symm, e.2.symm⟩
  rw [List.getElem?_eq_none (by simp; omega)] at e; cases e
 have hfar : loc.nil = false -> ∀ (p' nm' : Nat) (ob'' : AObj) (l : Loc), σ[p']? = some (nm', ob'') -> live ob'' -> m nm' = some l -> l.nil = false -> l.blk ≠ loc.blk := fun hn p' nm' ob'' l e hl hm hln eb => by
  obtain ⟨_, _, ⟨o, v, hk⟩, hno⟩ := hbk hn;have := (hI.own p' nm' ob'' l e hl hm hln).2.2 (hno _ _ _ e) o;rw [eb, hk] at this; cases this
 refine ⟨⟨hI.knok, hI.size, hI.os, hI.tape, hI.output, hI.old, fun p' nm' ob'' e => ?_, fun p' nm' ob'' l e hl' hm' hn' => ?_, fun p1 n1 o1 l1 p2 n2 o2 l2 e1 e2 v1 v2 m1 m2 hn1 hn2 hne => ?_, fun n hn => ?_, fun p' nm' ob'' e => ?_, fun p1 p2 n1 o1 o2 e1 e2 => ?_, fun p1 p2 n1 n2 o1 o2 e1 e2 s1 s2 => ?_, fun g => (hI.glob g).mono (KnLe.refl _) hmle, hI.tab⟩,
  ⟨Nat.le_succ _, fun n hn => X0p _ _ _ _ (by omega), fun p' nm' ob'' e e' => by rw [List.getElem?_append_left (List.getElem?_eq_some_iff.1 e).1]; exact e⟩⟩
 ·rcases hget p' nm' ob'' e with ⟨rfl, rfl, rfl⟩ | ⟨hne, e'⟩
  ·exact hob
  exact (hI.obj p' nm' ob'' e').mono_m (X0p _ _ _ _ (by have := hI.lt _ _ _ e'; omega)) hmle
 ·rcases hget p' nm' ob'' e with ⟨rfl, rfl, rfl⟩ | ⟨hne, e'⟩
  ·rw [X0c] at hm'; cases hm';obtain ⟨a, b, _⟩ := hbk hn';exact ⟨a, b, fun h => by rw [hx] at h; cases h⟩
  rw [X0p _ _ _ _ (by have := hI.lt p' nm' ob'' e'; omega)] at hm';exact hI.own p' nm' ob'' l e' hl' hm' hn'
 ·rcases hget p1 n1 o1 e1 with ⟨rfl, rfl, rfl⟩ | ⟨h1, e1'⟩
  ·rcases hget p2 n2 o2 e2 with ⟨rfl, rfl, rfl⟩ | ⟨h2, e2'⟩
   ·exact absurd rfl hne
   rw [X0c] at m1; cases m1;rw [X0p _ _ _ _ (by have := hI.lt p2 n2 o2 e2'; omega)] at m2;exact fun h => hfar hn1 p2 n2 o2 l2 e2' v2 m2 hn2 h.symm
  rw [X0p _ _ _ _ (by have := hI.lt p1 n1 o1 e1'; omega)] at m1;rcases hget p2 n2 o2 e2 with ⟨rfl, rfl, rfl⟩ | ⟨h2, e2'⟩
  ·rw [X0c] at m2; cases m2;exact hfar hn2 p1 n1 o1 l1 e1' v1 m1 hn1
  rw [X0p _ _ _ _ (by have := hI.lt p2 n2 o2 e2'; omega)] at m2;exact hI.dist p1 n1 o1 l1 p2 n2 o2 l2 e1' e2' v1 v2 m1 m2 hn1 hn2 hne
 ·rw [X0p _ _ _ _ (by omega)]; exact hI.dom n (by omega)
 ·rcases hget p' nm' ob'' e with ⟨_, rfl, _⟩ | ⟨hne, e'⟩
  ·omega
  have := hI.lt p' nm' ob'' e'; omega
 ·rcases hget p1 n1 o1 e1 with ⟨rfl, rfl, _⟩ | ⟨h1, e1'⟩
  ·rcases hget p2 _ o2 e2 with ⟨rfl, _, _⟩ | ⟨h2, e2'⟩
   ·rfl
   have := hI.lt _ _ _ e2'; omega
  rcases hget p2 n1 o2 e2 with ⟨rfl, rfl, _⟩ | ⟨h2, e2'⟩
  ·have := hI.lt _ _ _ e1'; omega
  exact hI.uniq p1 p2 n1 o1 o2 e1' e2'
 rcases hget p1 n1 o1 e1 with ⟨rfl, rfl, rfl⟩ | ⟨h1, e1'⟩
 ·rw [hns] at s1; cases s1
 rcases hget p2 n2 o2 e2 with ⟨rfl, rfl, rfl⟩ | ⟨h2, e2'⟩
 ·rw [hns] at s2; cases s2
 exact hI.stk1 _ _ _ _ _ _ e1' e2' s1 s2
theorem X8U : ∀ {σ : Sto}, X45 σ = true -> ∀ (p nm : Nat) (ob : AObj), σ[p]? = some (nm, ob) -> X0K ob = false
 | [], _, p, nm, ob, e => by simp at e
 | (n, o) :: l, h, p, nm, ob, e => by
  simp only [X45, Bool.and_eq_true, Bool.not_eq_true'] at h;cases p with
  | zero => simp at e; rw [<- e.2]; exact h.1
  | succ p => exact X8U h.2 p nm ob (by simpa using e)
theorem Y6q : ∀ {σ : Sto}, Z10 σ = true -> ∀ (p nm : Nat) (ob : AObj), σ[p]? = some (nm, ob) -> X0D ob = false
 | [], _, p, nm, ob, e => by simp at e
 | (n, o) :: l, h, p, nm, ob, e => by
  simp only [Z10, Bool.and_eq_true, Bool.not_eq_true'] at h;cases p with
  | zero => simp at e; rw [<- e.2]; exact h.1
  | succ p => exact Y6q h.2 p nm ob (by simpa using e)
theorem Y5r (hI : Inv C B kn m σ nx w) {T : TypeId} {a x : AV} {av : Value} {σ' : Sto} {nx' : Nat} (h : Y7Q C.P T σ nx a = some (x, σ', nx')) (ha : Rel kn m a av) :
  ∃ u m', (Instr.loadAt T av).run C.P w = .ok u w /\ Rel kn m' x u /\ Inv C B kn m' σ' nx' w /\ Keep m σ nx m' σ' nx' := by
 unfold Y7Q at h;split at h
 ·rename_i p nm i;split at h
  ·rename_i e ety l hs;split at h
   ·rename_i hc;obtain ⟨hil, hagg, hs0, hnh⟩ := hc;cases h;have hp := X0j hs;cases ha with
    | eref _ _ _ _ loc hm =>
     obtain ⟨rv, hgv, hrl, hrows, hdist, _⟩ := hI.obj _ _ _ hp;have hir : i < rv.length := by rw [hrl]; exact hil
     obtain ⟨b, o, vs, hv, hvs, hlen', hcell, hone⟩ := GvRel.row hgv hm (i := i) (row := [AV.base (rv[i]'hir)]) (by simp [X0C, hir]);have hload : X5m C.P T [AV.base (rv[i]'hir)] = some (.base (rv[i]'hir)) := by simp [X5m, hagg]
     obtain ⟨u, h1, h2⟩ := X3g (kn := kn) (m := m) hload w loc.blk (loc.off + i * loc.esz + 0) (fun j y hy => hcell _ hvs 0 j y hy);cases h2;have hrow := hrows i (l.getD i []) (rv[i]'hir) rfl (by simp [hil]) (List.getElem?_eq_getElem hir);obtain ⟨locq, q1, q2, q3⟩ : ∃ locq, X2a locq = rv[i]'hir /\ (locq.nil = false -> locq.blk < w.heap.size /\ Ow B locq.blk /\ ∃ o v, kn locq.blk o = some v) /\ ∀ (m' : Mp) (q : Nat), MpLe m m' -> m' q = some locq -> X3X kn m' w q e (l.getD i []) [] /\ (l.getD i []).length <= 2 ^ 62 /\ ∃ ty, GvRel kn m' w q e.size ty ((l.getD i []).map e.row) := by
      have hkn := fun b => hrow.known (b := b)
      have hrel := fun m' => hrow.rel m'
      rcases hrow with ⟨r0, rvn⟩ | ⟨hl, hs1, b, o, cap, arr, ty, rvs, h2', h3, h4, h5, h5', h6, h7, h8, h9⟩
      ·refine ⟨⟨0, 0, 0, e.size, 0, true⟩, by rw [rvn]; rfl, (fun hn => by cases hn), fun m' q _ hq => ?_⟩;have hg : GvRel kn m' w q e.size 0 ((l.getD i []).map e.row) := ⟨_, hq, by rw [r0]; rfl, .inl ⟨rfl, by rw [r0]; rfl⟩⟩;refine ⟨⟨0, by rw [List.append_nil]; exact hg, hs0, by rw [r0]; simp, fun loc' hl' hn' => by rw [hq] at hl'; cases hl'; cases hn'⟩, by rw [r0]; simp, 0, hg⟩
      obtain ⟨hk1, hk2⟩ := hkn b (by rw [rvs]; rfl);have hbw : b < w.heap.size := by obtain ⟨o1, u1, hu1⟩ := hk1; exact hI.kn_lt hu1
      refine ⟨⟨b, o, cap, e.size, (l.getD i []).length, false⟩, by rw [rvs]; rfl, fun _ => ⟨hbw, hk2, hk1⟩, fun m' q hmle hq => ?_⟩;have hg : GvRel kn m' w q e.size ty ((l.getD i []).map e.row) := ⟨_, hq, by simp, .inr ⟨rfl, rfl, arr, h2', h3, by simpa using h4, h5, h6, fun k row hk => Y42 hk, fun k row j x v hk hj hv => (h7 k row j x v hk hj hv).1 m'⟩⟩;refine ⟨⟨ty, by rw [List.append_nil]; exact hg, hs0, by simpa using h5', fun loc' hl' hn' => ?_⟩, h5', ty, hg⟩;rw [hq] at hl'; cases hl';exact ⟨by rw [List.append_nil]; exact hl, h8⟩
     have hpl : p < σ.length := (List.getElem?_eq_some_iff.1 hp).1;obtain ⟨r1, r2, ty, r3⟩ := q3 (mput m nx locq) nx (X2i hI _) (X0c _ _ _);obtain ⟨k1, k2⟩ := hI.addHand (ob := .hand e p false (l.getD i []) []) (loc := locq) rfl r1 (fun hn => ⟨(q2 hn).1, (q2 hn).2.1, (q2 hn).2.2, X8U hnh⟩);have hp' : (σ ++ [(nx, AObj.hand e p false (l.getD i []) [])])[p]? = some (nm, .stk e ety l .no) := by rw [List.getElem?_append_left hpl]; exact hp
     have hlt := hI.lt _ _ _ hp
     have k3 := k1.conv (ob' := .stk e ety l (.out i σ.length nx true)) hp' (fun _ => trivial) (by
      refine ⟨rv, ?_, hrl, fun j r v _ a b => hrows j r v rfl a b, hdist, locq, X0c _ _ _, by rw [q1]; exact List.getElem?_eq_getElem hir⟩;have hg1 : GvRel kn (mput m nx locq) w nm 1 ety (X0C .no rv) := GvRel.mono_m hgv (X0p _ _ _ _ (by omega)) (X2i hI _);refine hg1.conv (by simp [X0C]) fun k row row' hk hk' => ?_
      simp only [X0C] at hk hk';rw [List.getElem?_set] at hk';split at hk'
      ·rename_i hik;subst hik;rw [if_pos (by simpa using hir)] at hk';cases hk';obtain ⟨y, hy⟩ := Y6b hk;exact ⟨rfl, fun us hu => Z3D (by rw [hy]; rfl) hu⟩
      rw [hk] at hk'; cases hk';obtain ⟨y, hy⟩ := Y6b hk;exact ⟨by rw [hy]; rfl, fun _ h => h⟩)
     simp only [Nat.add_zero] at h1;refine ⟨rv[i]'hir, mput m nx locq, by simp [Instr.loadAt, Instr.sureAddr, h1], ?_, ?_, ⟨k2.le, k2.ag, fun p' nm' ob' a b => ?_⟩⟩
     ·have := Y1y (h := σ.length) r3 (X0c _ _ _) (by simpa using r2);rw [q1, List.length_map] at this;exact this
     ·rw [List.set_append_left _ _ hpl] at k3; exact k3
     have h4 := k2.pend p' nm' ob' a b;have hpne : p' ≠ p := fun x => by subst x; rw [hp] at a; cases a; rw [hm] at b; cases b
     rw [List.getElem?_append_left (List.getElem?_eq_some_iff.1 a).1] at h4;rw [List.getElem?_append_left (by rw [List.length_set]; exact (List.getElem?_eq_some_iff.1 a).1), List.getElem?_set_ne (fun x => hpne x.symm)];exact h4
   cases h
  cases h
 cases h
theorem Y3Q (hI : Inv C B kn m σ nx w) {T : TypeId} {a x : AV} {av v : Value} {σ' : Sto} (h : X57 C.P T σ a x = some σ') (ha : Rel kn m a av) (hx : Rel kn m x v) :
  ∃ kn' w', (Instr.storeAt T av v).run C.P w = .ok () w' /\ KnLe kn kn' /\ Inv C B kn' m σ' nx w' /\ Keep m σ nx m σ' nx := by
 unfold X57 at h;split at h
 ·rename_i p nm i h1 q e len;split at h
  ·rename_i e1 ety l i' h' q' e2 ps pe r ys hs1 hs2;split at h
   ·rename_i he;subst he;split at h
    ·rename_i hc;obtain ⟨rfl, rfl, rfl, hil, hne, hagg, hT⟩ := hc;simp only [X35] at h;have hp := X0j hs1;have hh := X0j hs2;obtain ⟨locq, hq1, hq2, rfl⟩ := Z2Y hx;cases ha with
     | eref _ _ _ _ loc hm =>
      obtain ⟨rv, hgv, hrl, hrows, hdist, locq', hq', hrv⟩ := hI.obj _ _ _ hp;rw [hq1] at hq'; cases hq';have hir : i' < rv.length := by rw [hrl]; exact hil
      have hrow : (X0C (.out i' h' q' true) rv)[i']? = some [.any] := by simp [X0C, hir]
      have hnl : loc.nil = false := by
       cases hn : loc.nil with
       | false => rfl
       | true => rw [hgv.nilRows hm hn] at hrow; simp at hrow
      have hone : (X2a locq).oneCell' = true := by unfold X2a; split <;> rfl
      have hcells := Y2X hone
      obtain ⟨w', r1, r2, r3, r4, r5, r6, _, r8⟩ := Y5k (T := T) (n := 1) (off := 0) (v := X2a locq) (cs := [.any]) (vs := [.base (X2a locq)]) (row'' := [.base (X2a locq)]) hgv hm hnl hrow (fun _ h => h) rfl hT (by rw [hcells]; rfl)
       (by rw [hcells]; exact ⟨.cons (.base _) (.nil _ _), fun u hu => by simp at hu; subst hu; exact hone⟩) rfl (by simp) (fun us h => by simpa using h) rfl
      have hfr : ∀ b o v, kn b o = some v -> w'.heap[b]? = w.heap[b]? := fun b o u e => r6 b (fun eb => by rw [eb, (hI.own p nm _ loc hp trivial hm hnl).2.2 rfl o] at e; cases e)
      obtain ⟨k1, k2⟩ := hI.write (ob' := .stk e2 ety l (.out i' h' q' false)) hp trivial hm hnl r2 r3 r4 r5 r6 (by
       refine ⟨rv, ?_, hrl, fun j r u hj a b => (hrows j r u hj a b).mono (KnLe.refl _) (fun b _ ⟨o, u, hu⟩ => ⟨hfr b o u hu, rfl⟩), hdist, locq, hq1, hrv⟩;have e1 : X0C (.out i' h' q' false) rv = (X0C (.out i' h' q' true) rv).set i' [.base (X2a locq)] := by
        simp only [X0C, List.set_set];apply List.ext_getElem?;intro j;rw [List.getElem?_set];split
        ·rename_i hj;subst hj;rw [List.getElem?_map, hrv];simp [hir]
        rfl
       rw [e1]; exact r8)
      simp only [Nat.add_zero] at r1;cases pe with
      | true =>
       cases h;exact ⟨kn, w', r1, KnLe.refl _, k1, k2⟩
      | false =>
       simp only [cond_false, Option.some.injEq] at h;subst h;have hpl : p < σ.length := (List.getElem?_eq_some_iff.1 hp).1;obtain ⟨kn', s1, s2, s3⟩ := k1.sealT (p := p) (h := h') (nm := nm) (q := q') (i := i') (ps := ps) (pe := false) (r := r) (ys := ys) (e := e2) (ety := ety) (l := l) (fun x => hne x.symm) (by rw [List.getElem?_set_self hpl]) (by rw [List.getElem?_set_ne (fun x => hne x.symm)]; exact hh) hil;rw [List.set_set] at s2 s3;exact ⟨kn', w', r1, s1, s2, k2.trans s3 (fun p nm ob a => hI.lt p nm ob a)⟩
    cases h
   cases h
  cases h
 cases h
theorem Y3P (hI : Inv C B kn m σ nx w) {T : TypeId} {a x : AV} {av v : Value} {σ' : Sto} (h : X9c C.P T σ a x = some σ') (ha : Rel kn m a av) (hx : Rel kn m x v) :
  ∃ kn' w', (Instr.storeAt T av v).run C.P w = .ok () w' /\ KnLe kn kn' /\ Inv C B kn' m σ' nx w' /\ Keep m σ nx m σ' nx := by
 unfold X9c at h;split at h
 ·rename_i h1 q i off vs n hvs hT;split at h
  ·rename_i e ps r ys hs1;split at h
   ·rename_i hc;obtain ⟨hlen, hri, hiy, hne⟩ := hc;split at h
    ·rename_i y hy;obtain ⟨row', hrow', hy⟩ := Option.bind_eq_some_iff.1 hy;split at h
     ·rename_i n2 e2 ety2 l2 i2 h2 q2 b2 hps;split at h
      ·rename_i he;subst he;split at h
       ·rename_i hc2;obtain ⟨rfl, rfl, hil⟩ := hc2;simp only [X35] at h;have hh := X0j hs1;have hv := hx.cells hvs;have hvn : v.cells.size = n := by rw [<- Array.length_toList, <- hv.1.1]; exact hlen
        unfold X2A at hrow';split at hrow'
        ·rename_i hfit;cases hrow';cases ha with
         | eref _ _ _ _ loc hm =>
          obtain ⟨ty, hgv, hs0, h62, hbeh⟩ := (show X3X kn m w q2 e r ys from hI.obj _ _ _ hh);have hget : (r ++ ys)[i]? = some (ys.getD (i - r.length) e.dflt) := by
           rw [List.getElem?_append_right hri, List.getD_eq_getElem?_getD, List.getElem?_eq_getElem (by omega)];rfl
          have hrow : ((r ++ ys).map e.row)[i]? = some (e.row (ys.getD (i - r.length) e.dflt)) := by rw [List.getElem?_map, hget]; rfl
          have hnl : loc.nil = false := by
           cases hn : loc.nil with
           | false => rfl
           | true => rw [hgv.nilRows hm hn] at hrow; simp at hrow
          have hez := (hgv.get hm hnl).2.1
          obtain ⟨w', r1, r2, r3, r4, r5, r6, r7, r8⟩ := Y5k (T := T) (n := n) (off := off) (v := v) (cs := e.cells (ys.getD (i - r.length) e.dflt)) (vs := vs) (row'' := e.row y) hgv hm hnl hrow (fun us h => (E.rel_cells e _ us).2 h) (E.cells_len _ _) hT hvn hv hlen hfit
           (fun us h => X1E _ _ _ _ hy us h) (E.row_len _ _)
          have hset : ((r ++ ys).map e.row).set i (e.row y) = (r ++ ys.set (i - r.length) y).map e.row := by
           rw [<- List.map_set, List.set_append_right _ _ hri]
          rw [hset] at r8;obtain ⟨hb1, hb2⟩ := hbeh loc hm hnl;have hbw := (hI.own h2 q2 _ loc hh trivial hm hnl).1;obtain ⟨rv, hgv2, hrl, hrows, hdist, locq', hq', hrv⟩ := hI.obj _ _ _ hps;rw [hm] at hq'; cases hq';obtain ⟨loc1, hm1, _⟩ := id hgv2;have hknok : ∀ b o v, kn b o = some v -> w'.cell? ⟨b, o, none⟩ = some v := fun b o u e1 => by
           have h0 := hI.knok b o u e1
           by_cases hb : b = loc.blk
           ·subst hb;have ho : o < loc.off + r.length * e.size := by
             rcases Nat.lt_or_ge o (loc.off + r.length * e.size) with h | h
             ·exact h
             rw [hb2 o h] at e1; cases e1
            have : r.length * e.size <= i * loc.esz := by rw [hez]; exact Nat.mul_le_mul_right _ hri
            rw [r7 o (by omega)]; exact h0
           unfold World.cell? at h0 ⊢;rw [r6 b hb]; exact h0
          obtain ⟨k1, k2⟩ := hI.two (p := ps) (h := h2) (nm := n2) (q := q2) (q' := q2) (ob1' := .stk e ety2 l2 (.out i2 h2 q2 b2)) (ob2' := .hand e ps false r (ys.set (i - r.length) y)) (m' := m) (kn' := kn) (w' := w') hne hps hh rfl trivial (KnLe.refl _) (fun _ _ => rfl) (Nat.le_refl _) hI.dom (.inl rfl)
           (by omega) r3 r4 r5 (fun b hb _ hq => ⟨r6 b (fun eb => hq loc hm hnl eb.symm), rfl⟩) hknok
           (by
            refine ⟨rv, hgv2.mono (KnLe.refl _) (fun l1 a c => r6 _ (fun eb => hI.dist ps n2 _ l1 h2 q2 _ loc hps hh trivial trivial a hm c hnl hne eb)), hrl, fun j r' u hj a b => (hrows j r' u hj a b).mono (KnLe.refl _) (fun b' hb' _ => ⟨r6 b' (fun eb => ?_), rfl⟩), hdist, loc, hm, hrv⟩;have hji : j ≠ i2 := fun x => by subst x; rw [Y0j] at hj; cases hj
            have h1 := hdist j i2 u (X2a loc) hji b hrv (by rw [hb', X0W hnl, eb]; rfl);rw [hb'] at h1; cases h1)
           (show X3X kn m w' q2 e r (ys.set (i - r.length) y) from ⟨ty, r8, hs0, by rw [List.length_set]; exact h62, fun loc' a c => by
            rw [hm] at a; cases a;refine ⟨fun hx => hb1 ?_, hb2⟩;simp only [List.append_eq_nil_iff] at hx ⊢;exact ⟨hx.1, by have := hx.2; simpa using this⟩⟩) ⟨loc1, hm1⟩ ⟨loc, hm⟩ (fun l1 a c => (hI.own ps n2 _ l1 hps trivial a c).2.2 rfl) (fun _ l1 a c => by
            rw [hm] at a; cases a;exact ⟨by rw [r2]; exact hbw, .inl ⟨loc, hm, hnl, rfl⟩, (fun h => by cases h)⟩) rfl rfl
          have hsame : σ.set ps (n2, .stk e ety2 l2 (.out i2 h2 q2 b2)) = σ := by
           apply List.ext_getElem?;intro j;rw [List.getElem?_set];split
           ·rename_i hj; subst hj;rw [hps]; simp [(List.getElem?_eq_some_iff.1 hps).1]
           rfl
          rw [hsame] at k1 k2;cases b2 with
          | true =>
           cases h;exact ⟨kn, w', r1, KnLe.refl _, k1, k2⟩
          | false =>
           simp only [cond_false, Option.some.injEq] at h;subst h;have hhl : h2 < σ.length := (List.getElem?_eq_some_iff.1 hh).1;obtain ⟨kn', s1, s2, s3⟩ := k1.sealT (p := ps) (h := h2) (nm := n2) (q := q2) (i := i2) (ps := ps) (pe := false) (r := r) (ys := ys.set (i - r.length) y) (e := e) (ety := ety2) (l := l2) hne (by rw [List.getElem?_set_ne (fun x => hne x.symm)]; exact hps) (by rw [List.getElem?_set_self hhl]) hil;rw [List.set_comm _ _ (fun x => hne x.symm), List.set_set] at s2 s3;exact ⟨kn', w', r1, s1, s2, k2.trans s3 (fun p nm ob a => hI.lt p nm ob a)⟩
        cases hrow'
       cases h
      cases h
     cases h
    cases h
   cases h
  cases h
 cases h
theorem Y3R (hI : Inv C B kn m σ nx w) {T : TypeId} {a x : AV} {av v : Value} {σ' : Sto} (h : X9e C.P T σ a x = some σ') (ha : Rel kn m a av) (hx : Rel kn m x v) :
  ∃ kn' w', (Instr.storeAt T av v).run C.P w = .ok () w' /\ KnLe kn kn' /\ Inv C B kn' m σ' nx w' /\ Keep m σ nx m σ' nx := by
 unfold X9e at h;split at h
 ·rename_i σ1 h1;cases h;exact Y3Q hI h1 ha hx
 exact Y3P hI h ha hx
end
end Go.Ab
namespace Go.Ab
open Go Go.RowKit
section
variable {C : Cx} {B : Base} {kn : Kn} {m : Mp} {σ : Sto} {nx : Nat} {w : World}
theorem X6z : ∀ {rows : List (List AV)}, nilRows rows = true -> rows = List.replicate rows.length [AV.base (.slice none 0 0)]
 | [], _ => rfl
 | r :: l, h => by
  simp only [nilRows, Bool.and_eq_true] at h;have h1 : r = [AV.base (.slice none 0 0)] := by
   have := h.1;unfold Z2Z at this;split at this
   ·rfl
   cases this
  rw [List.length_cons, List.replicate_succ, <- X6z h.2, h1]
theorem Z4l {nm ety n : Nat} {e : E} {rows : List (List AV)} {w' : World} {kn' : Kn} (h : GvRel kn' m w' nm 1 ety rows) (hn : nilRows rows = true) (hl : rows.length = n) : Y52 B kn' m w' nm e ety (List.replicate n []) .no := by
 have he := X6z hn;rw [hl] at he;refine ⟨List.replicate n (.slice none 0 0), ?_, by simp, fun i r v _ a b => ?_, fun i i' v v' _ a b _ => ?_, trivial⟩
 ·rw [he] at h;simpa [X0C] using h
 ·rw [List.getElem?_replicate] at a b;split at a
  ·cases a; rw [if_pos ‹_›] at b; cases b; exact .inl ⟨rfl, rfl⟩
  cases a
 rw [List.getElem?_replicate] at a;split at a
 ·cases a; rfl
 cases a
theorem Y3N (hI : Inv C B kn m σ nx w) {t len : Nat} {e : E} {r : AV} {parts : List (Nat × AV)} {parts' : Array (Nat × Value)} {σ' : Sto} {nx' : Nat} (h : Y3M C.P t len e σ nx parts = some (r, σ', nx')) (hl : parts.length = parts'.size)
  (hp : ∀ (i : Nat) (p : Nat × AV) (p' : Nat × Value), parts[i]? = some p -> parts'[i]? = some p' -> p.1 = p'.1 /\ Rel kn m p.2 p'.2) :
  ∃ u m' w', (Instr.buildSlice t len parts').run C.P w = .ok u w' /\ Rel kn m' r u /\ Inv C B kn m' σ' nx' w' /\ Keep m σ nx m' σ' nx' := by
 unfold Y3M at h;split at h
 ·rename_i ety sz by_ he;split at h
  ·rename_i z hz;split at h
   ·rename_i hc;obtain ⟨rfl, hzl, hlim, hns⟩ := hc;split at h
    ·rename_i rows hr;split at h
     ·rename_i hnr;cases h;obtain ⟨arr, hrun, hfl, has, hrl⟩ := X2c hI he hz Nat.zero_lt_one hzl hlim hr hl hp;have hmle := X2i hI ⟨w.heap.size, 0, len, 1, len, false⟩
      have hgv : GvRel kn (mput m nx ⟨w.heap.size, 0, len, 1, len, false⟩) (w.alloc (.cells arr ety)) nx 1 ety rows := X7B (X0c _ _ _) rfl hrl.symm rfl (X2z w arr ety) rfl (by rw [has]; exact Nat.le_refl _) (by rw [hrl]; exact Nat.le_refl _) (by show len <= maxLen; unfold maxLen; omega) hfl.2.2 hfl.1
       (fun i row j x v a b c => (hfl.2.1 i row j x v a b (by simpa using c)).mono (KnLe.refl _) hmle)
      obtain ⟨h1, h2⟩ := hI.new (ob' := .stk e ety (List.replicate rows.length []) .no) (loc' := ⟨w.heap.size, 0, len, 1, len, false⟩) (w' := w.alloc (.cells arr ety)) (by simp) rfl rfl rfl (.inr (Nat.le_refl _)) (by simp) (fun b hb => Below.heap_alloc _ _ _ hb)
       (Z4l hgv hnr rfl) (hsk := fun _ => Y6q hns)
      refine ⟨_, _, _, hrun, ?_, h1, h2⟩;have := Y1y (h := σ.length) (e := .slice e) hgv (X0c _ _ _) (by rw [hrl]; omega);rw [X0W rfl] at this;exact this
     cases h
    cases h
   cases h
  cases h
 cases h
theorem RowV.fr {e : E} {l : List e.den} {v : Value} {w' : World} (h : RowV B kn w e l v) (hf : Fr kn w w') : RowV B kn w' e l v := h.mono (KnLe.refl _) (fun b _ ⟨o, u, hu⟩ => ⟨hf b o u hu, rfl⟩)
theorem Y1Y (hI : Inv C B kn m σ nx w) {t t' ty : Nat} {pe : Bool} {x y r : AV} {xv yv : Value} {σ' : Sto} {nx' : Nat} (h : X5t C.P t t' pe σ nx x y = some (r, σ', nx')) (hx : Rel kn m x xv) (hy : Rel kn m y yv) :
  ∃ u m' w', (Builtin.append_ #[t, t'] ty #[xv, yv]).run C.P w = .ok u w' /\ Rel kn m' r u /\ Inv C B kn m' σ' nx' w' /\ Keep m σ nx m' σ' nx' := by
 unfold X5t at h;split at h
 ·rename_i p nm e' len;split at h
  ·rename_i e ety l hs;split at h
   ·rename_i rows ety' sz bytes he;split at h
    ·rename_i hc;obtain ⟨rfl, hsl, rfl, rfl, hzl, hnr, hb, h62⟩ := hc;cases h;have hp := X0j hs;obtain ⟨zv, hT⟩ := Y58 he (X3I hsl) hzl;have hE : X6h C kn m w 1 rows yv := X5l hI Nat.zero_lt_one (y := .vec 1 rows) (by simp [X5T]) hy;obtain ⟨rv, hgv, hrl, hrows, hdist, _⟩ := hI.obj _ _ _ hp;have mk : ∀ (m' : Mp) (w' : World), Fr kn w w' -> GvRel kn m' w' nx 1 ety' (X0C .no rv ++ rows) -> Y52 B kn m' w' nx e ety' (l ++ List.replicate rows.length []) .no := fun m' w' hf hg => by
      refine ⟨rv ++ List.replicate rows.length (.slice none 0 0), ?_, by simp [hrl], fun i r v _ a b => ?_, fun i i' v v' hii a b hbk => ?_, trivial⟩
      ·have : X0C .no (rv ++ List.replicate rows.length (.slice none 0 0)) = X0C .no rv ++ rows := by
        rw [X6z hnr];simp [X0C]
       rw [this]; exact hg
      ·rcases Nat.lt_or_ge i l.length with hi | hi
       ·rw [List.getElem?_append_left hi] at a;rw [List.getElem?_append_left (by omega)] at b;exact (hrows i r v rfl a b).fr hf
       rw [List.getElem?_append_right hi, List.getElem?_replicate] at a;rw [List.getElem?_append_right (by omega), List.getElem?_replicate] at b;split at a
       ·cases a;split at b
        ·cases b; exact .inl ⟨rfl, rfl⟩
        cases b
       cases a
      rcases Nat.lt_or_ge i rv.length with hi | hi
      ·rcases Nat.lt_or_ge i' rv.length with hi' | hi'
       ·rw [List.getElem?_append_left hi] at a;rw [List.getElem?_append_left hi'] at b;exact hdist i i' v v' hii a b hbk
       rw [List.getElem?_append_right hi', List.getElem?_replicate] at b;split at b
       ·cases b; rw [hbk]; rfl
       cases b
      rw [List.getElem?_append_right hi, List.getElem?_replicate] at a;split at a
      ·cases a; rfl
      cases a
     have hrlen : (X0C .no rv).length = l.length := by simp [X0C, hrl]
     cases hx with
     | gs _ _ _ _ _ loc hm hl hr =>
      cases hr with
      | srefNil _ _ _ loc' hm' hn =>
       have h0 := hgv.nilRows hm' hn;have hl0 : l.length = 0 := by rw [<- hrlen, h0]; rfl
       obtain ⟨u, m', w', q1, q2, q3, q4, q5⟩ := X5h (ty := ty) (ob' := .stk e ety' (l ++ List.replicate rows.length []) .no) hI hT hE hp trivial hm' hn (by rw [hl0] at hb; simpa using hb) (by omega) (fun m w hf hg => mk m w hf (by rw [h0]; exact hg)) (hsk := fun _ => rfl);have e1 : l.length + rows.length = rows.length := by omega
       rw [e1];exact ⟨u, m', w', q1, X7h q2 q3, q4, q5⟩
      | sref _ _ _ _ _ loc' hm' hn he'' hc hle =>
       have e0 : loc' = loc := by rw [hm'] at hm; cases hm; rfl
       subst e0;have hlen := (hgv.get hm' hn).1;have hll : len = l.length := by omega
       subst hll;have he1 : loc'.esz = 1 := he'';rw [<- he1] at hT hE hgv
       obtain ⟨u, m', w', q1, q2, q3, q4, q5⟩ := Y1q (ty := ty) (ob' := .stk e ety' (l ++ List.replicate rows.length []) .no) hI hT (by rw [he1]; exact Nat.zero_lt_one) hE hp trivial (fun _ => hgv) hm' hn hc (by omega) hb h62 (fun m w hf hg => mk m w hf (by
        rw [List.drop_zero, List.take_of_length_le (by omega), he1] at hg;exact hg)) (hsk := fun _ => rfl)
       rw [he1] at q2;exact ⟨u, m', w', q1, X7h q2 q3, q4, q5⟩
    cases h
   cases h
  ·rename_i e ps r0 hs;split at h
   ·rename_i n2 e2 ety2 l2 i2 h2 q2 fty sz bytes ys hps he hys;split at h
    ·rename_i hc;obtain ⟨rfl, rfl, rfl, rfl, hne, hil, hs0, hzl, hes, hb, h62⟩ := hc;cases h;subst hes;have hh := X0j hs;obtain ⟨locq, hq1, hq2, rfl⟩ := Z2Y hx;obtain ⟨hni, hE⟩ := X60 hI hs0 hys hy;obtain ⟨zv, hT⟩ := Y58 he hni hzl;obtain ⟨hty, hgv, _, _, hbeh⟩ := (show X3X kn m w q2 e2 r0 [] from hI.obj _ _ _ hh);rw [List.append_nil] at hgv hbeh;have hlm : (ys.map e2.row).length = ys.length := List.length_map _;have hlr : (r0.map e2.row).length = r0.length := List.length_map _;obtain ⟨w', loc', r1, r2, r3, r4, r5, r6, r7, r8, r9, r10⟩ := Z3F (ty := ty) hT hs0 hE hgv hq1 (by rw [hlm, hlr]; exact hb) (by rw [hlm, hlr]; exact h62);rw [hlm, hlr] at r6 r9;obtain ⟨rv, hgv2, hrl, hrows, hdist, locq', hq', hrv⟩ := hI.obj _ _ _ hps;rw [hq1] at hq'; cases hq';obtain ⟨loc1, hm1, _⟩ := id hgv2;have hmle := X2i hI loc';have hnm := hI.lt _ _ _ hps;have hqn := hI.lt _ _ _ hh;obtain ⟨ety', hg'⟩ := r10 (mput m nx loc') nx hmle (X0c _ _ _);rw [<- List.map_append] at hg';have hbw : locq.nil = false -> locq.blk < w.heap.size := fun hn => (hI.own _ q2 _ locq hh trivial hq1 hn).1
     have hstay : ∀ b, b < w.heap.size -> (locq.nil = false -> locq.blk ≠ b) -> w'.heap[b]? = w.heap[b]? := fun b hb hq => by
      refine r8 b hb ?_;rcases r9 with h | ⟨_, h1, h3, _⟩ | ⟨_, h, _⟩
      ·exact .inl h
      ·exact .inr (fun eb => hq h1 (by rw [eb, h3]))
      exact .inr (by omega)
     have hknok : ∀ b o v, kn b o = some v -> w'.cell? ⟨b, o, none⟩ = some v := fun b o u e1 => by
      have h0 := hI.knok b o u e1
      by_cases hb : locq.nil = false /\ b = locq.blk
      ·obtain ⟨hn, rfl⟩ := hb;rcases r9 with h | ⟨_, h1, h3, _, h4⟩ | ⟨_, h, _⟩
       ·unfold World.cell? at h0 ⊢;rw [r8 _ (hbw hn) (.inl h)]; exact h0
       ·have ho : o < locq.off + r0.length * e2.size := by
         rcases Nat.lt_or_ge o (locq.off + r0.length * e2.size) with h | h
         ·exact h
         rw [(hbeh locq hq1 hn).2 o h] at e1; cases e1
        rw [h4 o ho]; exact h0
       unfold World.cell? at h0 ⊢;rw [r8 _ (hbw hn) (.inr (by have := hbw hn; omega))]; exact h0
      unfold World.cell? at h0 ⊢;rw [hstay b (hI.kn_lt e1) (fun hn eb => hb ⟨hn, eb.symm⟩)]; exact h0
     obtain ⟨k1, k2⟩ := hI.two (p := ps) (h := h2) (nm := n2) (q := q2) (q' := nx) (nx' := nx + 1) (ob1' := .stk e2 ety2 l2 (.out i2 h2 nx true)) (ob2' := .hand e2 ps pe r0 ys) (m' := mput m nx loc') (kn' := kn) (w' := w') hne hps hh rfl trivial (KnLe.refl _) (fun n hn => X0p _ _ _ _ (by omega)) (Nat.le_succ _) (fun n hn => by rw [X0p _ _ _ _ (by omega)]; exact hI.dom n (by omega)) (.inr ⟨Nat.le_refl _, Nat.lt_succ_self _⟩)
      r2 r3 r4 r5 (fun b hb _ hq => ⟨hstay b hb (fun hn => hq locq hq1 hn), rfl⟩) hknok
      (by
       have hir : i2 < rv.length := by rw [hrl]; exact hil
       have hg1 : GvRel kn (mput m nx loc') w' n2 1 ety2 (X0C (.out i2 h2 q2 true) rv) := GvRel.mono_m (hgv2.mono (KnLe.refl _) (fun l1 a c => hstay _ (hI.own ps n2 _ l1 hps trivial a c).1 (fun hn eb => hI.dist ps n2 _ l1 h2 q2 _ locq hps hh trivial trivial a hq1 c hn hne eb.symm))) (X0p _ _ _ _ (by omega)) hmle;refine ⟨rv.set i2 (X2a loc'), ?_, by rw [List.length_set]; exact hrl, fun j r' u hj a b => ?_, fun j j' u u' hjj a b hbk => ?_, loc', X0c _ _ _, by rw [List.getElem?_set_self hir]⟩
       ·have e1 : X0C (.out i2 h2 nx true) (rv.set i2 (X2a loc')) = X0C (.out i2 h2 q2 true) rv := by
         simp only [X0C, List.map_set, List.set_set]
        rw [e1]; exact hg1
       ·have hji : ¬ i2 = j := fun x => by subst x; rw [Y0j] at hj; cases hj
        rw [List.getElem?_set_ne hji] at b;refine (hrows j r' u (Y1D hji) a b).mono (KnLe.refl _) (fun b' hb' ⟨o, u', hu'⟩ => ⟨hstay b' (hI.kn_lt hu') (fun hn eb => ?_), rfl⟩);have h1 := hdist j i2 u (X2a locq) (fun x => hji x.symm) b hrv (by rw [hb', X0W hn, eb]; rfl);rw [hb'] at h1; cases h1
       
       have apart : ∀ (j : Nat) (u : Value), j ≠ i2 -> rv[j]? = some u -> ∀ b, bkOf u = some b -> bkOf (X2a loc') ≠ some b := fun j u hji a b hb hb2 => by
        obtain ⟨hn', rfl⟩ := Z5K hb2;rcases r9 with h | ⟨_, h1, h3, _⟩ | ⟨_, h, _⟩
        ·rw [hn'] at h; cases h
        ·have h4 := hdist j i2 u (X2a locq) hji a hrv (by rw [hb, X0W h1, h3]; rfl);rw [hb] at h4; cases h4
        have hjl : j < l2.length := by rw [<- hrl]; exact (List.getElem?_eq_some_iff.1 a).1
        obtain ⟨⟨o, u2, hk⟩, _⟩ := (hrows j _ u (Y1D (fun x => hji x.symm)) (List.getElem?_eq_getElem hjl) a).known hb;have := hI.kn_lt hk;omega
       rw [List.getElem?_set] at a b
       by_cases h1 : i2 = j
       ·subst h1;rw [if_pos rfl, if_pos hir] at a;cases a;rw [if_neg hjj] at b;cases hu : bkOf u' with
        | none => rw [hbk, hu]
        | some b0 => exact absurd (hbk.trans hu) (apart j' u' (fun x => hjj x.symm) b b0 hu)
       rw [if_neg h1] at a
       by_cases h2 : i2 = j'
       ·subst h2;rw [if_pos rfl, if_pos hir] at b;cases b;cases hu : bkOf u with
        | none => rfl
        | some b0 => exact absurd (hbk.symm.trans hu) (apart j u (fun x => h1 x.symm) a b0 hu)
       rw [if_neg h2] at b;exact hdist j j' u u' hjj a b hbk)
      (show X3X kn (mput m nx loc') w' nx e2 r0 ys from ⟨ety', hg', hs0, le62 h62, fun l1 a c => by
       rw [X0c] at a; cases a;rcases r9 with h | ⟨_, h1, h3, h4, _⟩ | ⟨_, h, h5, h6⟩
       ·rw [c] at h; cases h
       ·obtain ⟨d1, d2⟩ := hbeh locq hq1 h1;exact ⟨fun hx => d1 (List.append_eq_nil_iff.1 hx).1, fun o' ho => by rw [h3]; exact d2 o' (by rw [<- h4]; exact ho)⟩
       ·refine ⟨fun hx => h6 (by have := congrArg List.length hx; simpa using this), fun o' _ => ?_⟩;cases hk : kn loc'.blk o' with
        | none => rfl
        | some v => have := hI.kn_lt hk; omega⟩) ⟨loc1, hm1⟩ ⟨locq, hq1⟩ (fun l1 a c => (hI.own ps n2 _ l1 hps trivial a c).2.2 rfl) (fun _ l1 a c => by
       rw [X0c] at a; cases a;refine ⟨(r7 c).2, ?_, (fun h => by cases h)⟩;rcases r9 with h | ⟨_, h1, h3, _⟩ | ⟨_, h, _⟩
       ·rw [c] at h; cases h
       ·exact .inl ⟨locq, hq1, h1, h3.symm⟩
       exact .inr h) rfl rfl
     refine ⟨_, _, _, r1, ?_, k1, k2⟩;have := Y1y (h := h2) hg' (X0c _ _ _) (by rw [List.length_map, List.length_append]; exact le62 h62);rw [List.length_map, List.length_append] at this;exact this
    cases h
   cases h
  cases h
 cases h
theorem Y3O (hI : Inv C B kn m σ nx w) {t : Nat} {x r : AV} {v : Value} {lo hi : Option AV} {lo' hi' : Option Value} {σ' : Sto} {nx' : Nat} (h : X7a C.P t σ nx x lo hi = some (r, σ', nx')) (hx : Rel kn m x v)
  (hlo : ∀ a, lo = some a -> ∃ v, lo' = some v /\ Rel kn m a v) (hlo0 : lo = none -> lo' = none) (hhi : ∀ a, hi = some a -> ∃ v, hi' = some v /\ Rel kn m a v) (hhi0 : hi = none -> hi' = none) :
  ∃ u m' w', (Instr.sliceAt t v lo' hi' none).run C.P w = .ok u w' /\ Rel kn m' r u /\ Inv C B kn m' σ' nx' w' /\ Keep m σ nx m' σ' nx' := by
 unfold X7a at h;split at h
 ·rename_i p nm e len;split at h
  ·rename_i q sz by_ l' h' e2 ety l he hb hg;split at h
   ·rename_i hc;obtain ⟨rfl, rfl, rfl, h0, h1⟩ := hc;cases h;obtain ⟨hu, hsz, _⟩ := X1o he;have hp := X0j hg;obtain ⟨rv, hgv, hrl, hrows, hdist, _⟩ := hI.obj _ _ _ hp;have hrlen : (X0C .no rv).length = l.length := by simp [X0C, hrl]
    have mk : ∀ (m' : Mp), GvRel kn m' w nx 1 ety ((X0C .no rv).take h'.toNat) -> Y52 B kn m' w nx e2 ety (l.take h'.toNat) .no := fun m' hg => by
     refine ⟨rv.take h'.toNat, by simpa [X0C, List.map_take] using hg, by simp [hrl], fun i r v _ a b => ?_, fun i i' v v' hii a b hbk => ?_, trivial⟩
     ·rw [List.getElem?_take] at a b;split at a
      ·rename_i hi; rw [if_pos hi] at b; exact hrows i r v rfl a b
      cases a
     rw [List.getElem?_take] at a b;split at a
     ·split at b
      ·exact hdist i i' v v' hii a b hbk
      cases b
     cases a
    cases hx with
    | gs _ _ _ _ _ loc hm hl hr =>
     cases hr with
     | srefNil _ _ _ loc' hm' hn =>
      have hl0 : l.length = 0 := by rw [<- hrlen, hgv.nilRows hm' hn]; rfl
      have hh0 : h' = 0 := by omega
      subst hh0;have hbs := X1M (C := C) (w := w) (cap := 0) hb hlo hlo0 hhi hhi0 (Int.le_refl _) (Int.le_refl _) (by simp) true;have hrun : (Instr.sliceAt t (.slice none 0 0) lo' hi' none).run C.P w = .ok (.slice none 0 0) w := by
       simp [Instr.sliceAt, run_underlying hu, Instr.slice, hbs, X0l hsz]
      obtain ⟨q1, q2⟩ := hI.replace (ob' := .stk e2 ety (l.take (0 : Int).toNat) .no) (loc' := ⟨0, 0, 0, 1, 0, true⟩) hp trivial hm' (w' := w) (Nat.le_refl _) rfl rfl rfl (.inl rfl) (fun h => by cases h) (fun _ _ _ => rfl)
       (mk _ ⟨_, X0c _ _ _, by simp, .inl ⟨rfl, by simp⟩⟩)
      exact ⟨_, _, _, hrun, X7h (.srefNil _ _ _ _ (X0c _ _ _) rfl) ⟨_, X0c _ _ _, rfl⟩, q1, q2⟩
     | sref _ _ _ _ _ loc' hm' hn he'' hc hle =>
      have hll0 : loc'.len = len := by rw [hm'] at hm; cases hm; exact hl
      obtain ⟨hll, he2, arr, hw, hsz2, hle2, hmx, hone, hrl', hrr⟩ := hgv.get hm' hn;rw [hrlen] at hle2 hll;have hbs := X1M (C := C) (w := w) (cap := loc'.cap - 0) hb hlo hlo0 hhi hhi0 (Int.le_refl _) h0 (by omega) true;simp only [Nat.sub_zero] at hbs;have hrun : (Instr.sliceAt t (.slice (some ⟨loc'.blk, loc'.off + 0 * loc'.esz, none⟩) len (loc'.cap - 0)) lo' hi' none).run C.P w = .ok (.slice (some ⟨loc'.blk, loc'.off, none⟩) h'.toNat loc'.cap) w := by
       simp [Instr.sliceAt, run_underlying hu, Instr.slice, hbs, X0l hsz, X2F]
      obtain ⟨q1, q2⟩ := hI.replace (ob' := .stk e2 ety (l.take h'.toNat) .no) (loc' := ⟨loc'.blk, loc'.off, loc'.cap, 1, h'.toNat, false⟩) hp trivial hm' (w' := w) (Nat.le_refl _) rfl rfl rfl (.inr (.inl ⟨hn, rfl⟩)) (fun _ => (hI.own _ _ _ _ hp trivial hm' hn).1) (fun _ _ _ => rfl)
       (mk _ ⟨_, X0c _ _ _, by rw [List.length_take, hrlen]; show h'.toNat = _; omega, .inr ⟨rfl, rfl, arr, hw, hsz2, by rw [List.length_take, hrlen]; show _ <= loc'.cap; omega, hmx, hone, fun i row hi => (by
         rw [List.getElem?_take] at hi;split at hi
         ·exact hrl' i row hi
         ·cases hi), fun i row j y v hi hj hv => (by
         rw [List.getElem?_take] at hi;split at hi
         ·exact (hrr i row j y v hi hj hv).mono (KnLe.refl _) (X2i hI _)
         cases hi)⟩⟩)
      refine ⟨_, _, _, hrun, X7h ?_ ⟨_, X0c _ _ _, rfl⟩, q1, q2⟩;have := Rel.sref (kn := kn) p nx 1 0 h'.toNat _ (X0c m nx ⟨loc'.blk, loc'.off, loc'.cap, 1, h'.toNat, false⟩) rfl rfl (by show h'.toNat + 0 <= loc'.cap; omega) (by omega);have e3 : (E.slice e2).size = 1 := rfl;rw [e3];simpa using this
   cases h
  cases h
 cases h
theorem Wr.of {x : AV} {σ' : Sto} {nx' : Nat} {r : Result Next} (h : ∃ nxt u m' w', r = .ok nxt w' /\ (nxt = .value u \/ (nxt = .skip /\ u = undef)) /\ Rel kn m' x u /\ Inv C B kn m' σ' nx' w' /\ Keep m σ nx m' σ' nx') : Y53 C B kn m σ nx x σ' nx' r := by
 obtain ⟨a, b, c, d, e, f, g, i, j⟩ := h;exact ⟨a, b, kn, c, d, e, f, KnLe.refl _, g, i, j⟩
theorem X56 {env : Nat -> AV} {n : Nat} {act : Act} (hI : Inv C B kn m σ nx w) (hE : RelEnv kn m env n act) {o : Oper} {x : AV} {σ' : Sto} {nx' : Nat} {e : E} {pe : Bool} (h : sop C e pe o.op env σ nx = some (x, σ', nx')) :
  Y53 C B kn m σ nx x σ' nx' ((execOp act.eval o).run C.P w) := by
 obtain ⟨dst, op, type, pos, after, guard⟩ := o;simp only at h;refine Wr.of ?_;unfold sop at h;split at h
 ·rename_i t len parts;obtain ⟨u, m', w', h1, h2, h3, h4⟩ := Y3N hI h (X1w hI hE parts).1 (X1w hI hE parts).2;refine ⟨.value u, u, m', w', ?_, .inl rfl, h2, h3, h4⟩;simp only [execOp, Sem.run_bind];rw [h1];rfl
 ·rename_i T a;obtain ⟨u, m', h1, h2, h3, h4⟩ := Y5r hI h (X0o hI hE a);exact ⟨.value u, u, m', w, by simp [execOp, h1], .inl rfl, h2, h3, h4⟩
 ·rename_i t a lo hi;obtain ⟨u, m', w', h1, h2, h3, h4⟩ := Y3O hI h (X0o hI hE a) (X1n hI hE lo).1 (X1n hI hE lo).2 (X1n hI hE hi).1 (X1n hI hE hi).2;exact ⟨.value u, u, m', w', by simp [execOp, h1], .inl rfl, h2, h3, h4⟩
 ·rename_i c;split at h
  ·rename_i t t' x' y' hb ht hx;have hargs := X3E hI hE c.args;rw [hx] at hargs
   obtain ⟨consts, hexec⟩ : ∃ consts, execOp act.eval { dst := dst, op := .call c, type := type, pos := pos, after := after, guard := guard } = builtin .append c.argTypes type consts (c.args.map act.eval) :=
    ⟨_, by simp only [execOp, resolve, hb, invoke, pure_bind]; rfl⟩
   obtain ⟨v, u, hv⟩ := Y1s hargs.1.symm;have h1 := hargs.2 0 x' v rfl (by rw [hv]; rfl);have h2 := hargs.2 1 y' u rfl (by rw [hv]; rfl);have hts : c.argTypes = #[t, t'] := by rw [<- Array.toArray_toList (xs := c.argTypes), ht]
   obtain ⟨r, m', w', q1, q2, q3, q4⟩ := Y1Y hI (ty := type) h h1 h2;refine ⟨.value r, r, m', w', ?_, .inl rfl, q2, q3, q4⟩;rw [hexec, hv, hts];simp only [builtin, Sem.run_bind, q1, Result.andThen_ok, Sem.run_pure]
  cases h
 cases h
theorem X4J {env : Nat -> AV} {n : Nat} {act : Act} (hI : Inv C B kn m σ nx w) (hE : RelEnv kn m env n act) {o : Oper} {x : AV} {σ' : Sto} {nx' : Nat} {ty' : Option E} (h : eop0 C ty' o.op env σ nx = some (x, σ', nx')) :
  Y53 C B kn m σ nx x σ' nx' ((execOp act.eval o).run C.P w) := by
 obtain ⟨dst, op, type, pos, after, guard⟩ := o;simp only at h;unfold eop0 at h;split at h
 ·rename_i T y;cases hc : X0O (opv C env y) with
  | none => simp [hc] at h
  | some cs =>
   simp [hc] at h;obtain ⟨rfl, rfl, rfl⟩ := h;obtain ⟨u, m', w', h1, h2, h3, h4⟩ := Y72 hI (T := T) (X0o hI hE y) hc;exact Wr.of ⟨.value u, u, m', w', by simp [execOp, h1], .inl rfl, h2, h3, h4⟩
 ·rename_i t len parts;cases ty' with
  | some e =>
   simp only at h;obtain ⟨u, m', w', h1, h2, h3, h4⟩ := Y7g hI h (X1w hI hE parts).1 (X1w hI hE parts).2;refine Wr.of ⟨.value u, u, m', w', ?_, .inl rfl, h2, h3, h4⟩;simp only [execOp, Sem.run_bind];rw [h1];rfl
  | none =>
   simp only at h;split at h
   ·rename_i e sz by_ he;split at h
    ·rename_i z hz;split at h
     ·rename_i hc;cases hr : X4o sz (List.replicate len z) (parts.toList.map fun p => (p.1, opv C env p.2)) with
      | none => simp [hr] at h
      | some rows =>
       simp [hr] at h;obtain ⟨rfl, rfl, rfl⟩ := h;obtain ⟨u, m', w', h1, h2, h3, h4⟩ := X3m hI he hz hc.1 hc.2.1 hc.2.2 hr (X1w hI hE parts).1 (X1w hI hE parts).2;refine Wr.of ⟨.value u, u, m', w', ?_, .inl rfl, h2, h3, h4⟩;simp only [execOp, Sem.run_bind];rw [h1];rfl
     cases h
    cases h
   cases h
 ·rename_i T a y;cases hs : X2B C.P T σ (opv C env a) (opv C env y) with
  | none =>
   simp only [hs, Option.map_none, orS] at h;obtain ⟨σ1, hs1, h⟩ := Option.map_eq_some_iff.1 h;cases h;obtain ⟨kn', w', h1, h2, h3, h4⟩ := Y3R hI hs1 (X0o hI hE a) (X0o hI hE y);exact ⟨.skip, undef, kn', m, w', by simp [execOp, h1], .inr ⟨rfl, rfl⟩, h2, .base _, h3, h4⟩
  | some σ1 =>
   simp [hs, orS] at h;obtain ⟨rfl, rfl, rfl⟩ := h;obtain ⟨w', h1, h2, h3⟩ := Y5y hI hs (X0o hI hE a) (X0o hI hE y);exact Wr.of ⟨.skip, undef, m, w', by simp [execOp, h1], .inr ⟨rfl, rfl⟩, .base _, h2, h3⟩
 ·rename_i t a b;cases ty' with
  | some e =>
   obtain ⟨u, m', w', h1, h2, h3, h4⟩ := Y4Z hI h (X0o hI hE a) (X0o hI hE b);exact Wr.of ⟨.value u, u, m', w', by simp [execOp, h1], .inl rfl, h2, h3, h4⟩
  | none =>
   obtain ⟨u, m', w', h1, h2, h3, h4⟩ := Y0p hI h (X0o hI hE a) (X0o hI hE b);exact Wr.of ⟨.value u, u, m', w', by simp [execOp, h1], .inl rfl, h2, h3, h4⟩
 ·rename_i t a lo hi;obtain ⟨u, m', w', h1, h2, h3, h4⟩ := Y1V hI h (X0o hI hE a) (X1n hI hE lo).1 (X1n hI hE lo).2 (X1n hI hE hi).1 (X1n hI hE hi).2;exact Wr.of ⟨.value u, u, m', w', by simp [execOp, h1], .inl rfl, h2, h3, h4⟩
 ·rename_i t a;obtain ⟨u, m', w', h1, h2, h3, h4⟩ := Y5b hI h (X0o hI hE a);exact Wr.of ⟨.value u, u, m', w', by simp [execOp, h1], .inl rfl, h2, h3, h4⟩
 ·rename_i a;obtain ⟨u, m', w', h1, h2, h3, h4⟩ := Y7x hI (t := type) h (X0o hI hE a);exact Wr.of ⟨.value u, u, m', w', by simp [execOp, h1], .inl rfl, h2, h3, h4⟩
 ·rename_i s d a;unfold Z5N at h;split at h
  ·rename_i p nm len hx;split at h
   ·rename_i ety l hg;split at h
    ·rename_i hc;cases h;have ha := X0o hI hE a;rw [hx] at ha;obtain ⟨u, kn', w', h1, h2, h3, h4⟩ := Y4Q hI hc.1 hc.2 (X0j hg) ha;exact ⟨.value u, u, kn', m, w', by simp [execOp, h1], .inl rfl, h2, h3, h4, Keep.refl _ _ _⟩
    cases h
   cases h
  cases h
 ·rename_i c;split at h
  ·rename_i t t' x' y' hb ht hx;have hargs := X3E hI hE c.args;rw [hx] at hargs
   obtain ⟨consts, hexec⟩ : ∃ consts, execOp act.eval { dst := dst, op := .call c, type := type, pos := pos, after := after, guard := guard } = builtin .append c.argTypes type consts (c.args.map act.eval) :=
    ⟨_, by simp only [execOp, resolve, hb, invoke, pure_bind]; rfl⟩
   obtain ⟨v, u, hv⟩ := Y1s hargs.1.symm;have h1 := hargs.2 0 x' v rfl (by rw [hv]; rfl);have h2 := hargs.2 1 y' u rfl (by rw [hv]; rfl);have hts : c.argTypes = #[t, t'] := by rw [<- Array.toArray_toList (xs := c.argTypes), ht]
   obtain ⟨r, m', w', q1, q2, q3, q4⟩ : ∃ r m'' w'', (Builtin.append_ #[t, t'] type #[v, u]).run C.P w = .ok r w'' /\ Rel kn m'' x r /\ Inv C B kn m'' σ' nx' w'' /\ Keep m σ nx m'' σ' nx' := by
    cases ty' with
    | some e => exact Y1r hI (ty := type) h h1 h2
    | none => exact Y2T hI (ty := type) h h1 h2
   refine Wr.of ⟨.value r, r, m', w', ?_, .inl rfl, q2, q3, q4⟩;rw [hexec, hv, hts];simp only [builtin, Sem.run_bind, q1, Result.andThen_ok, Sem.run_pure]
  ·rename_i t x' hb ht hx;have hargs := X3E hI hE c.args;rw [hx] at hargs
   obtain ⟨consts, hexec⟩ : ∃ consts, execOp act.eval { dst := dst, op := .call c, type := type, pos := pos, after := after, guard := guard } = builtin .clear c.argTypes type consts (c.args.map act.eval) :=
    ⟨_, by simp only [execOp, resolve, hb, invoke, pure_bind]; rfl⟩
   obtain ⟨v, hv⟩ := Y9k hargs.1.symm;have h1 := hargs.2 0 x' v rfl (by rw [hv]; rfl);have hts : c.argTypes = #[t] := by rw [<- Array.toArray_toList (xs := c.argTypes), ht]
   obtain ⟨σ1, hs, h⟩ := Option.map_eq_some_iff.1 h;cases h;obtain ⟨w', q1, q3, q4⟩ := Y2Z hI (ty := type) hs h1;refine Wr.of ⟨.value (.tuple #[]), .tuple #[], m, w', ?_, .inl rfl, .tup [] #[] rfl (fun i x v a => by simp at a), q3, q4⟩;rw [hexec, hv, hts];simp only [builtin, Sem.run_bind, q1, Result.andThen_ok, Sem.run_pure]
  cases h
 cases h
theorem Y9C {env : Nat -> AV} {n : Nat} {act : Act} (hI : Inv C B kn m σ nx w) (hE : RelEnv kn m env n act) {o : Oper} {x : AV} {σ' : Sto} {nx' : Nat} {ty' : Option E} (h : eop C ty' o.op env σ nx = some (x, σ', nx')) :
  Y53 C B kn m σ nx x σ' nx' ((execOp act.eval o).run C.P w) := by
 cases ho : o.op with
 | buildSlice t len parts =>
  rw [ho] at h;simp only [eop] at h;split at h
  ·exact X56 hI hE (by rw [ho]; exact h)
  exact X4J hI hE (by rw [ho]; exact h)
 | load T a =>
  rw [ho] at h;simp only [eop] at h;split at h
  ·exact X56 hI hE (by rw [ho]; exact h)
  cases h
 | slice t a lo hi mx =>
  rw [ho] at h;simp only [eop] at h;split at h
  ·exact X56 hI hE (by rw [ho]; exact h)
  exact X4J hI hE (by rw [ho]; exact h)
 | call c =>
  rw [ho] at h;simp only [eop] at h;split at h
  ·exact X56 hI hE (by rw [ho]; exact h)
  exact X4J hI hE (by rw [ho]; exact h)
 | _ => rw [ho] at h; exact X4J (ty' := ty') hI hE (by rw [ho]; exact h)
end
end Go.Ab
