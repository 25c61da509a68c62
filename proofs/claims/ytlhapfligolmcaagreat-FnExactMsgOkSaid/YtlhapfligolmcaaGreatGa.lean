import Derived.Orders
import Derived.WalkKit
import Derived.Laws.Cells
import Derived.Laws.CopyRow
import Derived.Laws.AppendOwn
import Derived.Laws.MakeOwn
import Derived.Laws.BytesArg
import Derived.Great.BuildSlice
set_option linter.unusedVariables false
set_option linter.unusedSimpArgs false
namespace Go.Eng

inductive C where
  | int (k : IntKind) (n : Int)
  | bool (b : Bool)
  | str (s : ByteArray)
  | ptr (id off : Nat)
  | nilp
  | sl (id off len esz : Nat)
  | nils
  | emp
  | fn (f : Nat)
  | nilf
  | nili
inductive V where
  | any
  | val (g : Bool) (cs : List C)
  | tup (vs : List (Bool × List C))
  | box (cs : List C)
  | lsl (cs : List C) (n e : Nat)
  | lref (r o : Nat)
inductive Blk where
  | own (ty : Nat) (cs : List C)
  | ro (cs : List C)
  | dead
abbrev H := List Blk

inductive K where
  | z
  | o (k : K)
  | i (k : K)
  deriving DecidableEq
inductive PT where
  | leaf
  | node (l : PT) (v : V) (r : PT)
def PT.get : PT → K → V
  | .leaf, _ => .any
  | .node _ v _, .z => v
  | .node l _ _, .o k => l.get k
  | .node _ _ r, .i k => r.get k
def PT.set : PT → K → V → PT
  | .leaf, .z, v => .node .leaf v .leaf
  | .leaf, .o k, v => .node (PT.set .leaf k v) .any .leaf
  | .leaf, .i k, v => .node .leaf .any (PT.set .leaf k v)
  | .node l _ r, .z, v => .node l v r
  | .node l u r, .o k, v => .node (l.set k v) u r
  | .node l u r, .i k, v => .node l u (r.set k v)
def PT.full : Nat → PT
  | 0 => .leaf
  | d + 1 => .node (PT.full d) .any (PT.full d)
def K.ofAux : Nat → Nat → K
  | 0, _ => .z
  | d + 1, n => if n = 0 then .z else if n % 2 = 1 then .o (K.ofAux d (n / 2)) else .i (K.ofAux d (n / 2 - 1))
def K.of (n : Nat) : K := K.ofAux n n
abbrev Fr := PT
def Fr.get (f : Fr) (s : Nat) : V := PT.get f (K.of s)
def Fr.set (f : Fr) (s : Nat) (v : V) : Fr := PT.set f (K.of s) v

inductive X where
  | s (t : Nat)
  | c (v : V)
inductive B2 where
  | add | sub | mul | quo | rem | and | or | xor | andNot | shl | shr | eql | neq | lss | leq | gtr | geq
inductive AI where
  | mov (d : Nat) (x : X)
  | pick (d : Nat) (c a b : X)
  | lbox (d : Nat) (x : X)
  | lal (d : Nat) (cs : List C)
  | hbox (d ty : Nat) (x : X)
  | hal (d ty : Nat) (cs : List C)
  | bld (d : Nat) (zero : List C) (parts : List (Nat × Nat × X))
  | bsl (d ty esz len : Nat) (zero : List C) (parts : List (Nat × Nat × X))
  | bse (d : Nat)
  | lsl (d esz len : Nat) (zero : List C) (parts : List (Nat × Nat × X))
  | fad (d : Nat) (x : X) (off : Nat)
  | iad (d : Nat) (x i : X) (esz : Nat)
  | iaa (d : Nat) (x i : X) (esz len : Nat)
  | ldl (d r : Nat) (x : X) (n : Nat) (g : Bool)
  | ldh (d : Nat) (x : X) (n : Nat) (g : Bool)
  | stl (r : Nat) (x v : X) (n : Nat)
  | sth (x v : X) (n : Nat)
  | bin (d : Nat) (op : B2) (x y : X)
  | beq (d : Nat) (neg : Bool) (x y : X)
  | snil (d : Nat) (neg : Bool) (x : X)
  | geq (d n : Nat) (neg : Bool) (x y : X)
  | neg (d : Nat) (x : X)
  | not (d : Nat) (x : X)
  | cvi (d : Nat) (k : IntKind) (x : X)
  | cbs (d : Nat) (x : X)
  | mks (d ty esz bytes : Nat) (zero : List C) (x : X)
  | slc (d esz : Nat) (x : X) (lo hi : Option X)
  | sls (d : Nat) (x : X) (lo hi : Option X)
  | sla (d : Nat) (x : X) (len esz : Nat)
  | fld (d : Nat) (x : X) (off n : Nat) (g : Bool)
  | idx (d : Nat) (x i : X) (esz len : Nat) (g : Bool)
  | ids (d : Nat) (x i : X)
  | ext (d : Nat) (x : X) (i : Nat)
  | nch (d : Nat) (x : X)
  | len (d : Nat) (st : Bool) (x : X)
  | app (d ty esz bytes : Nat) (x y : X)
  | cpy (d esz : Nat) (x y : X)
  | mm (d : Nat) (mx : Bool) (x y : X)
  | call (d f : Nat) (q : Bool) (xs : List X)
  | clv (d : Nat) (q : Bool) (x : X) (xs : List X)
inductive IT where
  | i (a : AI)
  | g (s : Nat) (w : Bool) (d : Nat) (a : AI)
inductive AC where
  | ops (l : List IT)
  | seq (a b : AC)
  | cond (x : X) (a b : AC)
  | block (id : Nat) (b : AC)
  | loop (ds : List Nat) (b : AC)
  | exit (id : Nat)
  | ret
  | skip
inductive RV where
  | tmp (t : Nat)
  | cell (s n : Nat) (g : Bool)
structure AF where
  np : Nat
  dep : Nat
  res : List RV
  body : AC

def ev (f : Fr) : X → V
  | .c v => v
  | .s t => match f.get t with
    | .box _ => .lref t 0
    | v => v
def evp (f : Fr) (x : X) : Option (Bool × List C) :=
  match ev f x with
  | .val g cs => some (g, cs)
  | _ => none
def ev1 (f : Fr) (x : X) : Option C :=
  match ev f x with
  | .val false [c] => some c
  | _ => none
def setL {α : Type} (cs : List α) (off : Nat) : List α → List α
  | [] => cs
  | v :: vs => setL (cs.set off v) (off + 1) vs
def fillC (f : Fr) (cs : List C) : List (Nat × Nat × X) → Option (List C)
  | [] => some cs
  | (off, sz, x) :: r => match evp f x with
    | some (_, vs) => if vs.length = sz ∧ off + sz ≤ cs.length then fillC f (setL cs off vs) r else none
    | none => none
def bits2 (op : B2) (k : IntKind) (x y : Int) : Int :=
  let a := BitVec.ofInt k.bits x
  let b := BitVec.ofInt k.bits y
  match op with
  | .and => k.wrap (a &&& b).toNat
  | .or => k.wrap (a ||| b).toNat
  | .xor => k.wrap (a ^^^ b).toNat
  | _ => k.wrap (a &&& ~~~b).toNat
def bin2 (op : B2) (x y : C) : Option C :=
  match op, x, y with
  | .shl, .int k a, .int _ b => if b < 0 then none else some (.int k (k.wrap (a * 2 ^ (min b.toNat k.bits))))
  | .shr, .int k a, .int _ b => if b < 0 then none else some (.int k (a.fdiv (2 ^ (min b.toNat k.bits))))
  | op, .int k a, .int k' b =>
    if k ≠ k' then none else match op with
    | .add => some (.int k (k.wrap (a + b)))
    | .sub => some (.int k (k.wrap (a - b)))
    | .mul => some (.int k (k.wrap (a * b)))
    | .quo => if b = 0 then none else some (.int k (k.wrap (a.tdiv b)))
    | .rem => if b = 0 then none else some (.int k (a.tmod b))
    | .and => some (.int k (bits2 .and k a b))
    | .or => some (.int k (bits2 .or k a b))
    | .xor => some (.int k (bits2 .xor k a b))
    | .andNot => some (.int k (bits2 .andNot k a b))
    | .eql => some (.bool (a == b))
    | .neq => some (.bool (a != b))
    | .lss => some (.bool (decide (a < b)))
    | .leq => some (.bool (decide (a ≤ b)))
    | .gtr => some (.bool (decide (a > b)))
    | .geq => some (.bool (decide (a ≥ b)))
    | _ => none
  | .add, .str a, .str b => if ((a.size + b.size : Nat) : Int) > IntKind.i64.max then none else some (.str (a ++ b))
  | .eql, .str a, .str b => some (.bool (a.toList == b.toList))
  | .neq, .str a, .str b => some (.bool (!(a.toList == b.toList)))
  | _, _, _ => none
def eqC : C → C → Option Bool
  | .int k a, .int k' b => if k = k' then some (a == b) else none
  | _, _ => none
def eqCs : List C → List C → Option Bool
  | [], [] => some true
  | x :: xs, y :: ys => match eqC x y, eqCs xs ys with
    | some a, some b => some (a && b)
    | _, _ => none
  | _, _ => none
def H.cells (h : H) (id : Nat) : Option (List C) :=
  match h[id]? with
  | some (.own _ cs) => some cs
  | some (.ro cs) => some cs
  | _ => none
def H.slice (h : H) : C → Option (List C)
  | .nils => some []
  | .emp => some []
  | .sl id off len esz => match h.cells id with
    | some cs => if off + len * esz ≤ cs.length then some ((cs.drop off).take (len * esz)) else none
    | none => none
  | _ => none
def H.bytes (h : H) (c : C) : Option (List C) :=
  match c with
  | .sl id off len e => if e = 1 ∨ len = 0 then h.slice (.sl id off len e) else none
  | c => h.slice c
def bytesOf : List C → Option ByteArray
  | [] => some ByteArray.empty
  | .int .u8 n :: r => match bytesOf r with
    | some b => some ⟨#[UInt8.ofNat n.toNat] ++ b.data⟩
    | none => none
  | _ :: _ => none
def strCells (s : ByteArray) : List C := s.data.toList.map fun b => .int .u8 (b.toNat : Int)
def inRoom (n : Nat) : Bool := n ≤ 2 ^ 46
def bound (f : Fr) (x : Option X) (dflt : Nat) : Option Int :=
  match x with
  | none => some (dflt : Int)
  | some x => match ev1 f x with
    | some (.int _ i) => some i
    | _ => none

def srcC (h : H) (esz : Nat) : C → Option (List C × Nat)
  | .str s => if esz = 1 then some (strCells s, s.size) else none
  | .nils => some ([], 0)
  | .emp => some ([], 0)
  | .sl id off len e => if e = esz ∨ len = 0 then (match h.slice (.sl id off len e) with | some cs => some (cs, len) | none => none) else none
  | _ => none
def srcOf (f : Fr) (h : H) (esz : Nat) : X → Option (List C × Nat)
  | .s t => match f.get t with
    | .lsl cs n e => if e = esz ∧ cs.length = n * esz then some (cs, n) else none
    | .val false [c] => srcC h esz c
    | _ => none
  | .c (.val false [c]) => srcC h esz c
  | .c _ => none

def lenC : C → Option Nat
  | .sl _ _ len _ => some len
  | .nils => some 0
  | .emp => some 0
  | _ => none
def atC (c : C) (esz : Nat) (j : Int) : Option (Nat × Nat) :=
  match c with
  | .sl id off len e => if e = esz ∧ 0 ≤ j ∧ j < (len : Int) then some (id, off + j.toNat * esz) else none
  | _ => none
def ai (a : AI) (f : Fr) (h : H) : Option (Fr × H) :=
  match a with
  | .mov d x => match ev f x with
    | .box _ => none
    | .lsl _ _ _ => none
    | v => some (f.set d v, h)
  | .pick d c a b => match ev1 f c with
    | some (.bool true) => match evp f a with | some (g, cs) => some (f.set d (.val g cs), h) | none => none
    | some (.bool false) => match evp f b with | some (g, cs) => some (f.set d (.val g cs), h) | none => none
    | _ => none
  | .lbox d x => match f.get d with
    | .box _ => none
    | _ => match evp f x with
      | some (_, cs) => some (f.set d (.box cs), h)
      | none => none
  | .lal d cs => match f.get d with
    | .box _ => none
    | _ => some (f.set d (.box cs), h)
  | .hbox d ty x => match evp f x with
    | some (_, cs) => some (f.set d (.val false [.ptr h.length 0]), h ++ [.own ty cs])
    | none => none
  | .hal d ty cs => some (f.set d (.val false [.ptr h.length 0]), h ++ [.own ty cs])
  | .bld d z ps => match fillC f z ps with
    | some cs => some (f.set d (.val true cs), h)
    | none => none
  | .bsl d ty esz len z ps => match fillC f ((List.replicate len z).flatten) ps with
    | some cs => some (f.set d (.val false [.sl h.length 0 len esz]), h ++ [.own ty cs])
    | none => none
  | .bse d => some (f.set d (.val false [.emp]), h)
  | .lsl d esz len z ps => match fillC f ((List.replicate len z).flatten) ps with
    | some cs => some (f.set d (.lsl cs len esz), h)
    | none => none
  | .fad d x off => match ev f x with
    | .lref r o => some (f.set d (.lref r (o + off)), h)
    | .val false [.ptr id o] => some (f.set d (.val false [.ptr id (o + off)]), h)
    | _ => none
  | .iad d x i esz => match ev1 f x, ev1 f i with
    | some c, some (.int _ j) => match atC c esz j with
      | some (id, o) => some (f.set d (.val false [.ptr id o]), h)
      | none => none
    | _, _ => none
  | .iaa d x i esz len => match ev1 f i with
    | some (.int _ j) =>
      if 0 ≤ j ∧ j < (len : Int) then match ev f x with
        | .lref r o => some (f.set d (.lref r (o + j.toNat * esz)), h)
        | .val false [.ptr id o] => some (f.set d (.val false [.ptr id (o + j.toNat * esz)]), h)
        | _ => none
      else none
    | _ => none
  | .ldl d r x n g => match ev f x with
    | .lref r' o => match f.get r with
      | .box cs => if r' = r ∧ o + n ≤ cs.length then some (f.set d (.val g ((cs.drop o).take n)), h) else none
      | _ => none
    | _ => none
  | .ldh d x n g => match ev1 f x with
    | some (.ptr id o) => match h.cells id with
      | some cs => if o + n ≤ cs.length then some (f.set d (.val g ((cs.drop o).take n)), h) else none
      | none => none
    | _ => none
  | .stl r x v n => match ev f x, evp f v with
    | .lref r' o, some (_, vs) => match f.get r with
      | .box cs => if r' = r ∧ vs.length = n ∧ o + n ≤ cs.length then some (f.set r (.box (setL cs o vs)), h) else none
      | _ => none
    | _, _ => none
  | .sth x v n => match ev1 f x, evp f v with
    | some (.ptr id o), some (_, vs) => match h[id]? with
      | some (.own ty cs) => if vs.length = n ∧ o + n ≤ cs.length then some (f, h.set id (.own ty (setL cs o vs))) else none
      | _ => none
    | _, _ => none
  | .bin d op x y => match ev1 f x, ev1 f y with
    | some a, some b => match bin2 op a b with
      | some c => some (f.set d (.val false [c]), h)
      | none => none
    | _, _ => none
  | .beq d neg x y => match ev1 f x, ev1 f y with
    | some (.bool a), some (.bool b) => some (f.set d (.val false [.bool (if neg then !(a == b) else (a == b))]), h)
    | _, _ => none
  | .snil d neg x => match ev1 f x with
    | some (.sl _ _ _ _) => some (f.set d (.val false [.bool neg]), h)
    | some .emp => some (f.set d (.val false [.bool neg]), h)
    | some .nils => some (f.set d (.val false [.bool (!neg)]), h)
    | _ => none
  | .geq d n neg x y => match evp f x, evp f y with
    | some (true, a), some (true, b) => if a.length = n then (match eqCs a b with
      | some r => some (f.set d (.val false [.bool (if neg then !r else r)]), h)
      | none => none) else none
    | _, _ => none
  | .neg d x => match ev1 f x with
    | some (.int k n) => some (f.set d (.val false [.int k (k.wrap (0 - n))]), h)
    | _ => none
  | .not d x => match ev1 f x with
    | some (.bool b) => some (f.set d (.val false [.bool (!b)]), h)
    | _ => none
  | .cvi d k x => match ev1 f x with
    | some (.int _ n) => some (f.set d (.val false [.int k (k.wrap n)]), h)
    | _ => none
  | .cbs d x => match ev1 f x with
    | some c => match h.bytes c with
      | some cs => match bytesOf cs with
        | some b => some (f.set d (.val false [.str b]), h)
        | none => none
      | none => none
    | none => none
  | .mks d ty esz bytes z x => match ev1 f x with
    | some (.int .i64 n) => if 0 ≤ n ∧ inRoom (n.toNat * bytes + n.toNat) then
        some (f.set d (.val false [.sl h.length 0 n.toNat esz]), h ++ [.own ty ((List.replicate n.toNat z).flatten)]) else none
    | _ => none
  | .slc d esz x lo hi => match ev1 f x with
    | some (.sl id off len e) => match bound f lo 0, bound f hi len with
      | some l, some u => if (e = esz ∨ len = 0) ∧ 0 ≤ l ∧ l ≤ u ∧ u ≤ (len : Int) then some (f.set d (.val false [.sl id (off + l.toNat * e) (u - l).toNat e]), h) else none
      | _, _ => none
    | some .nils => match bound f lo 0, bound f hi 0 with
      | some l, some u => if l = 0 ∧ u = 0 then some (f.set d (.val false [.nils]), h) else none
      | _, _ => none
    | some .emp => match bound f lo 0, bound f hi 0 with
      | some l, some u => if l = 0 ∧ u = 0 then some (f.set d (.val false [.emp]), h) else none
      | _, _ => none
    | _ => none
  | .sls d x lo hi => match ev1 f x with
    | some (.str s) => match bound f lo 0, bound f hi s.size with
      | some l, some u => if 0 ≤ l ∧ l ≤ u ∧ u ≤ (s.size : Int) then some (f.set d (.val false [.str (s.extract l.toNat u.toNat)]), h) else none
      | _, _ => none
    | _ => none
  | .sla d x len esz => match ev1 f x with
    | some (.ptr id o) => match h[id]? with
      | some (.own _ cs) => if o + len * esz ≤ cs.length then some (f.set d (.val false [.sl id o len esz]), h) else none
      | _ => none
    | _ => none
  | .fld d x off n g => match evp f x with
    | some (true, cs) => if off + n ≤ cs.length then some (f.set d (.val g ((cs.drop off).take n)), h) else none
    | _ => none
  | .idx d x i esz len g => match evp f x, ev1 f i with
    | some (true, cs), some (.int _ j) =>
      if 0 ≤ j ∧ j < (len : Int) ∧ j.toNat * esz + esz ≤ cs.length then some (f.set d (.val g ((cs.drop (j.toNat * esz)).take esz)), h) else none
    | _, _ => none
  | .ids d x i => match ev1 f x, ev1 f i with
    | some (.str s), some (.int _ j) =>
      if 0 ≤ j then match s.data.toList[j.toNat]? with
        | some b => some (f.set d (.val false [.int .u8 (b.toNat : Int)]), h)
        | none => none
      else none
    | _, _ => none
  | .ext d x i => match ev f x with
    | .tup vs => match vs[i]? with
      | some (g, cs) => some (f.set d (.val g cs), h)
      | none => none
    | _ => none
  | .nch d x => match ev f x with
    | .lref r o => some (f.set d (.lref r o), h)
    | .val false [.ptr id o] => some (f.set d (.val false [.ptr id o]), h)
    | .val false [.fn g] => some (f.set d (.val false [.fn g]), h)
    | _ => none
  | .len d st x => match st, ev1 f x with
    | false, some c => match lenC c with
      | some n => some (f.set d (.val false [.int .i64 (n : Int)]), h)
      | none => none
    | true, some (.str s) => some (f.set d (.val false [.int .i64 (s.size : Int)]), h)
    | _, _ => none
  | .app d ty esz bytes x y => match ev1 f x, srcOf f h esz y with
    | some a, some (ys, m) => match a with
      | .nils => if m = 0 then some (f.set d (.val false [.nils]), h)
        else if inRoom (m * bytes + m) then some (f.set d (.val false [.sl h.length 0 m esz]), h ++ [.own ty ys]) else none
      | .emp => if m = 0 then some (f.set d (.val false [.emp]), h)
        else if inRoom (m * bytes + m) then some (f.set d (.val false [.sl h.length 0 m esz]), h ++ [.own ty ys]) else none
      | .sl id off len e => match h[id]? with
        | some (.own ty' cs) =>
          if off = 0 ∧ e = esz ∧ ty' = ty ∧ cs.length = len * esz ∧ inRoom ((len + m) * bytes + (len + m)) then
            some (f.set d (.val false [.sl h.length 0 (len + m) esz]), (h.set id .dead) ++ [.own ty (cs ++ ys)]) else none
        | _ => none
      | _ => none
    | _, _ => none
  | .cpy d esz x y => match ev1 f x, srcOf f h esz y with
    | some (.sl id off len e), some (ys, m) => match h[id]? with
      | some (.own ty cs) =>
        if e = esz ∧ off + len * esz ≤ cs.length then
          some (f.set d (.val false [.int .i64 ((min m len : Nat) : Int)]), h.set id (.own ty (setL cs off (ys.take (min m len * esz))))) else none
      | _ => none
    | _, _ => none
  | .mm d mx x y => match ev1 f x, ev1 f y with
    | some (.int .i64 a), some (.int .i64 b) => some (f.set d (.val false [.int .i64 (if mx then (if a < b then b else a) else (if b < a then b else a))]), h)
    | _, _ => none
  | .call .. => none
  | .clv .. => none

inductive Ex where
  | norm
  | exit (id : Nat)
  | ret
abbrev CallF := Nat → List (Bool × List C) → H → Option (V × H)
def args (f : Fr) : List X → Option (List (Bool × List C))
  | [] => some []
  | x :: xs => match evp f x, args f xs with
    | some v, some vs => some (v :: vs)
    | _, _ => none
def setD (f : Fr) (d : Nat) (v : V) : Fr :=
  match d with
  | 0 => f
  | d + 1 => f.set d v
open Classical in
noncomputable def doCall (call : CallF) (d g : Nat) (q : Bool) (vs : List (Bool × List C)) (f : Fr) (h : H) : Option (Fr × H) :=
  match call g vs h with
  | some (v, h') => if q = true → ∃ t, h' = h ++ t then some (setD f d v, h') else none
  | none => none
noncomputable def run1 (call : CallF) (a : AI) (f : Fr) (h : H) : Option (Fr × H) :=
  match a with
  | .call d g q xs => match args f xs with
    | some vs => doCall call d g q vs f h
    | none => none
  | .clv d q x xs => match ev1 f x, args f xs with
    | some (.fn g), some vs => doCall call d g q vs f h
    | _, _ => none
  | a => ai a f h
def gv (f : Fr) (s : Nat) (w : Bool) : Option C :=
  match f.get s with
  | .tup [] => some (.bool (!w))
  | _ => ev1 f (.s s)
noncomputable def runI (call : CallF) (it : IT) (f : Fr) (h : H) : Option (Fr × H) :=
  match it with
  | .i a => run1 call a f h
  | .g s w d a => match gv f s w with
    | some (.bool b) => if b = w then run1 call a f h else some (setD f d (.tup []), h)
    | _ => none
noncomputable def runL (call : CallF) : List IT → Fr → H → Option (Fr × H)
  | [], f, h => some (f, h)
  | it :: r, f, h => match runI call it f h with
    | some (f', h') => runL call r f' h'
    | none => none
def forget (f : Fr) : List Nat → Fr
  | [] => f
  | d :: ds => forget (f.set d .any) ds
def rounds (body : Fr → H → Option (Ex × Fr × H)) (ds : List Nat) : Nat → Fr → H → Option (Ex × Fr × H)
  | 0, _, _ => none
  | n + 1, f, h => match body (forget f ds) h with
    | some (.norm, f', h') => rounds body ds n f' h'
    | r => r
noncomputable def run (call : CallF) (lf : Nat) : AC → Fr → H → Option (Ex × Fr × H)
  | .ops l, f, h => match runL call l f h with
    | some (f', h') => some (.norm, f', h')
    | none => none
  | .seq a b, f, h => match run call lf a f h with
    | some (.norm, f', h') => run call lf b f' h'
    | r => r
  | .cond x a b, f, h => match ev1 f x with
    | some (.bool true) => run call lf a f h
    | some (.bool false) => run call lf b f h
    | _ => none
  | .block id b, f, h => match run call lf b f h with
    | some (.exit id', f', h') => if id' = id then some (.norm, f', h') else some (.exit id', f', h')
    | r => r
  | .loop ds b, f, h => rounds (run call lf b) ds lf f h
  | .exit id, f, h => some (.exit id, f, h)
  | .ret, f, h => some (.ret, f, h)
  | .skip, f, h => some (.norm, f, h)
def res1 (f : Fr) : RV → Option (Bool × List C)
  | .tmp t => evp f (.s t)
  | .cell s n g => match f.get s with
    | .box cs => if n = cs.length then some (g, cs) else none
    | _ => none
def resL (f : Fr) : List RV → Option (List (Bool × List C))
  | [] => some []
  | r :: rs => match res1 f r, resL f rs with
    | some v, some vs => some (v :: vs)
    | _, _ => none
def resV (f : Fr) (rs : List RV) : Option V :=
  match resL f rs with
  | some [(g, cs)] => some (.val g cs)
  | some vs => some (.tup vs)
  | none => none
def enter0 (f : Fr) (n : Nat) : List (Bool × List C) → Fr
  | [] => f
  | (g, cs) :: r => enter0 (f.set n (.val g cs)) (n + 1) r
noncomputable def runF (call : CallF) (lf : Nat) (a : AF) (vs : List (Bool × List C)) (h : H) : Option (V × H) :=
  if vs.length = a.np then
    match run call lf a.body (enter0 (PT.full a.dep) 0 vs) h with
    | some (.norm, f, h') | some (.ret, f, h') => match resV f a.res with
      | some v => some (v, h')
      | none => none
    | _ => none
  else none
noncomputable def callN (code : Nat → Option AF) : Nat → CallF
  | 0 => fun _ _ _ => none
  | n + 1 => fun g vs h => match code g with
    | some a => runF (callN code n) n a vs h
    | none => none
end Go.Eng
namespace Go.Eng

def cOf : Value → Option C
  | .int k n => some (.int k n)
  | .bool b => some (.bool b)
  | .string s => some (.str s)
  | .slice none 0 0 => some .nils
  | .pointer none => some .nilp
  | .nilFunc => some .nilf
  | .nilIface => some .nili
  | .func (.func f) ⟨[]⟩ ⟨[]⟩ => some (.fn f)
  | _ => none
def csOf : List Value → Option (List C)
  | [] => some []
  | v :: vs => match cOf v, csOf vs with
    | some c, some cs => some (c :: cs)
    | _, _ => none
def vOf : Value → Option V
  | .agg a => match csOf a.toList with
    | some cs => some (.val true cs)
    | none => none
  | .tuple ⟨[]⟩ => some .any
  | v => match cOf v with
    | some c => some (.val false [c])
    | none => none
def xOf : Operand → Option X
  | .tmp t => some (.s t)
  | .const v => match vOf v with
    | some u => some (.c u)
    | none => none
  | .func f => some (.c (.val false [.fn f]))
  | .global _ => none
def xsOf : List Operand → Option (List X)
  | [] => some []
  | x :: xs => match xOf x, xsOf xs with
    | some y, some ys => some (y :: ys)
    | _, _ => none
def zeroOf (P : Program) (t : TypeId) : Option (List C) :=
  match P.info? t with
  | some i => match i.zero with
    | some z => match csOf z.cells.toList with
      | some cs => if cs.length = i.size then some cs else none
      | none => none
    | none => none
  | none => none
def aggOf (P : Program) (t : TypeId) : Option Bool :=
  match P.underlying t with
  | some (.struct _) => some true
  | some (.array _ _) => some true
  | some _ => some false
  | none => none
def szOf (P : Program) (t : TypeId) : Option (Nat × Bool) :=
  match P.info? t, aggOf P t with
  | some i, some g => if g = true ∨ i.size = 1 then some (i.size, g) else none
  | _, _ => none

def opsOf : Code → List Oper
  | .region _ ops _ => ops.toList
  | .seq a b => opsOf a ++ opsOf b
  | .cond _ a b => opsOf a ++ opsOf b
  | .block _ b => opsOf b
  | .loop b => opsOf b
  | _ => []
def tmpMask : List Operand → Nat
  | [] => 0
  | .tmp t :: r => 2 ^ t ||| tmpMask r
  | _ :: r => tmpMask r
def escs (P : Program) : Op → Nat
  | .move _ | .load _ _ | .nilCheck _ | .fieldAddr _ _ _ => 0
  | .store _ _ v => tmpMask [v]
  | .indexAddr t x i => match P.underlying t with
    | some (.array _ _) => tmpMask [i]
    | _ => tmpMask [x, i]
  | op => tmpMask op.operands.toList
def escAll (P : Program) : List Oper → Nat
  | [] => 0
  | o :: r => escs P o.op ||| escAll P r
def escBack (P : Program) (E : Nat) : List Oper → Nat
  | [] => E
  | o :: r =>
    match o.dst, o.op with
    | some d, .move (.tmp x) | some d, .fieldAddr _ (.tmp x) _ | some d, .nilCheck (.tmp x) => escBack P (if E.testBit d then E ||| 2 ^ x else E) r
    | some d, .indexAddr t (.tmp x) _ => escBack P (match P.underlying t with | some (.array _ _) => if E.testBit d then E ||| 2 ^ x else E | _ => E) r
    | _, _ => escBack P E r
def resMask : List ResultVar → Nat
  | [] => 0
  | .tmp t :: r => 2 ^ t ||| resMask r
  | _ :: r => resMask r
def escOf (P : Program) (fn : Func) (l : List Oper) : Nat :=
  let r := l.reverse
  let e := escAll P l ||| resMask fn.results.toList
  escBack P (escBack P (escBack P e r) r) r
def rootsOf (P : Program) (E : Nat) : List (Nat × Nat) → List Oper → List (Nat × Nat)
  | env, [] => env
  | env, o :: r =>
    match o.dst, o.op with
    | some d, .alloc _ | some d, .box _ _ => rootsOf P E (if E.testBit d then env else (d, d) :: env) r
    | some d, .move (.tmp x) | some d, .fieldAddr _ (.tmp x) _ | some d, .nilCheck (.tmp x) =>
      rootsOf P E (match env.lookup x with | some s => (d, s) :: env | none => env) r
    | some d, .indexAddr t (.tmp x) _ => rootsOf P E (match P.underlying t, env.lookup x with | some (.array _ _), some s => (d, s) :: env | _, _ => env) r
    | _, _ => rootsOf P E env r
def usesOf : Op → Nat
  | .call c => match c.callee, c.args.toList with
    | .builtin .append, [x, _] => tmpMask [x]
    | _, _ => tmpMask c.operands.toList
  | op => tmpMask op.operands.toList
def usesAll : List Oper → Nat
  | [] => 0
  | o :: r => usesOf o.op ||| usesAll r
structure Inf where
  E : Nat
  env : List (Nat × Nat)
  N : Nat
  nt : Nat
def Inf.root (I : Inf) : Operand → Option Nat
  | .tmp t => I.env.lookup t
  | _ => none
def Inf.hand (I : Inf) (d : Nat) (x : Operand) : Bool :=
  match I.root x with
  | none => true
  | some r => I.env.lookup d == some r

def b2Of : BinOp → B2
  | .add => .add | .sub => .sub | .mul => .mul | .quo => .quo | .rem => .rem | .and => .and | .or => .or | .xor => .xor | .shl => .shl | .shr => .shr | .andNot => .andNot
  | .eql => .eql | .neq => .neq | .lss => .lss | .leq => .leq | .gtr => .gtr | .geq => .geq
def isNilS : Operand → Bool
  | .const (.slice none 0 0) => true
  | _ => false
def flatI (P : Program) : Nat → List Field → Bool
  | _, [] => true
  | i, f :: r => f.name != "_" && (match P.underlying f.type with | some (.int _) => true | _ => false) && f.offset == i && flatI P (i + 1) r
def compBin (P : Program) (d : Nat) (op : BinOp) (t : TypeId) (x y : Operand) : Option AI :=
  match P.underlying t with
  | some (.int _) | some .string => match xOf x, xOf y with
    | some a, some b => some (.bin d (b2Of op) a b)
    | _, _ => none
  | some .bool => match op, xOf x, xOf y with
    | .eql, some a, some b => some (.beq d false a b)
    | .neq, some a, some b => some (.beq d true a b)
    | _, _, _ => none
  | some (.slice _) =>
    if isNilS y then match op, xOf x with
      | .eql, some a => some (.snil d false a)
      | .neq, some a => some (.snil d true a)
      | _, _ => none
    else none
  | some (.struct fs) =>
    if flatI P 0 fs.toList && !(P.stoodInHeld t) && !(P.eqGuardType P.depth t) then match op, xOf x, xOf y with
      | .eql, some a, some b => some (.geq d fs.size false a b)
      | .neq, some a, some b => some (.geq d fs.size true a b)
      | _, _, _ => none
    else none
  | _ => none
def partsOf (P : Program) (place : Nat → Option (Nat × Nat)) : List (Nat × Operand) → Option (List (Nat × Nat × X))
  | [] => some []
  | (i, x) :: r => match place i, xOf x, partsOf P place r with
    | some (off, sz), some y, some ps => some ((off, sz, y) :: ps)
    | _, _, _ => none
def optX : Option Operand → Option (Option X)
  | none => some none
  | some x => match xOf x with
    | some y => some (some y)
    | none => none
def sameOp : Operand → Operand → Bool
  | .tmp a, .tmp b => a == b
  | .const (.int .i64 a), .const (.int .i64 b) => a == b
  | _, _ => false
def compCall (P : Program) (q : Bool) (d : Nat) (c : Call) : Option AI :=
  match c.callee with
  | .value (.func f) => match xsOf c.args.toList with
    | some xs => some (.call d f q xs)
    | none => none
  | .value x => match xOf x, xsOf c.args.toList with
    | some y, some xs => some (.clv d q y xs)
    | _, _ => none
  | .builtin b => match d with
    | 0 => none
    | d + 1 => match b, c.args.toList, c.argTypes.toList with
      | .len, [x], [t] => match P.underlying t, xOf x with
        | some (.slice _), some y => some (.len d false y)
        | some .string, some y => some (.len d true y)
        | some (.array n _), some _ => some (.mov d (.c (.val false [.int .i64 n])))
        | _, _ => none
      | .append, [x, y], [t, u] => match P.underlying t, P.underlying u, xOf x, xOf y with
        | some (.slice e), some (.slice _), some a, some b => match P.info? e, zeroOf P e with
          | some i, some _ => if 0 < i.size then some (.app d e i.size i.bytes a b) else none
          | _, _ => none
        | some (.slice e), some .string, some a, some b => match P.info? e, zeroOf P e with
          | some i, some _ => if 0 < i.size then some (.app d e i.size i.bytes a b) else none
          | _, _ => none
        | _, _, _, _ => none
      | .copy, [x, y], [t, _] => match P.underlying t, xOf x, xOf y with
        | some (.slice e), some a, some b => match P.info? e with
          | some i => if 0 < i.size then some (.cpy d i.size a b) else none
          | none => none
        | _, _, _ => none
      | .min, [x, y], _ => match xOf x, xOf y with
        | some a, some b => some (.mm d false a b)
        | _, _ => none
      | .max, [x, y], _ => match xOf x, xOf y with
        | some a, some b => some (.mm d true a b)
        | _, _ => none
      | _, _, _ => none
  | _ => none
def compOp (P : Program) (I : Inf) (q : Bool) (o : Oper) : Option AI :=
  match o.dst, o.op with
  | some d, .move x | some d, .assign x => match xOf x with
    | some y => if I.hand d x then some (.mov d y) else none
    | none => none
  | some d, .pick c a b => match xOf c, xOf a, xOf b with
    | some c, some a, some b => some (.pick d c a b)
    | _, _, _ => none
  | some d, .alloc t => match zeroOf P t with
    | some cs => if I.E.testBit d then some (.hal d t cs) else if I.env.lookup d == some d then some (.lal d cs) else none
    | none => none
  | some d, .box t x => match xOf x with
    | some y => if I.E.testBit d then some (.hbox d t y) else if I.env.lookup d == some d then some (.lbox d y) else none
    | none => none
  | some d, .build t ps => match zeroOf P t, P.underlying t with
    | some z, some (.struct fs) => match partsOf P (fun i => match fs[i]? with | some f => (match P.info? f.type with | some j => some (f.offset, j.size) | none => none) | none => none) ps.toList with
      | some qs => if fs.toList.all (fun f => (P.info? f.type).isSome) then some (.bld d z qs) else none
      | none => none
    | some z, some (.array _ e) => match P.info? e with
      | some j => match partsOf P (fun i => some (i * j.size, j.size)) ps.toList with
        | some qs => some (.bld d z qs)
        | none => none
      | none => none
    | _, _ => none
  | some d, .buildSlice t len ps => match P.underlying t with
    | some (.slice e) => match P.info? e, zeroOf P e with
      | some j, some z => match partsOf P (fun i => some (i * j.size, j.size)) ps.toList with
        | some qs => if len * j.size ≤ 2 ^ 24 ∧ 0 < j.size then
            (if len = 0 then (if ps.toList.isEmpty then some (.bse d) else none) else if I.N.testBit d then some (.bsl d e j.size len z qs) else some (.lsl d j.size len z qs)) else none
        | none => none
      | _, _ => none
    | _ => none
  | some d, .fieldAddr t x k => match P.underlying t, xOf x with
    | some (.struct fs), some y => match fs[k]? with
      | some f => match P.info? f.type with
        | some j => if j.size = 0 then none else if I.hand d x then some (.fad d y f.offset) else none
        | none => none
      | none => none
    | _, _ => none
  | some d, .indexAddr t x i => match P.underlying t, xOf x, xOf i with
    | some (.slice e), some y, some j => match P.info? e with
      | some k => some (.iad d y j k.size)
      | none => none
    | some (.array n e), some y, some j => match P.info? e with
      | some k => if 1 < n ∧ I.hand d x = true then some (.iaa d y j k.size n) else none
      | none => none
    | _, _, _ => none
  | some d, .load t x => match szOf P t, xOf x with
    | some (n, g), some y => match I.root x with
      | some r => some (.ldl d r y n g)
      | none => some (.ldh d y n g)
    | _, _ => none
  | none, .store t x v => match szOf P t, xOf x, xOf v with
    | some (n, _), some y, some u => match I.root x with
      | some r => some (.stl r y u n)
      | none => some (.sth y u n)
    | _, _, _ => none
  | some d, .binOp op t x y _ => compBin P d op t x y
  | some d, .unOp op _ x => match op, xOf x with
    | .neg, some y => some (.neg d y)
    | .not, some y => some (.not d y)
    | _, _ => none
  | some d, .convert s t x => match P.underlying s, P.underlying t, xOf x with
    | some (.int _), some (.int k), some y => some (.cvi d k y)
    | some (.slice e), some .string, some y => match P.underlying e with
      | some (.int .u8) => some (.cbs d y)
      | _ => none
    | _, _, _ => none
  | some d, .makeSlice t l c => if sameOp l c then match P.underlying t, xOf l with
      | some (.slice e), some y => match P.info? e, zeroOf P e with
        | some j, some z => if 0 < j.size then some (.mks d e j.size j.bytes z y) else none
        | _, _ => none
      | _, _ => none
    else none
  | some d, .slice t x lo hi none => match P.underlying t, xOf x, optX lo, optX hi with
    | some (.slice e), some y, some l, some h => match P.info? e with
      | some j => if 0 < j.size then some (.slc d j.size y l h) else none
      | none => none
    | some .string, some y, some l, some h => some (.sls d y l h)
    | some (.array n e), some y, some none, some none => match P.info? e with
      | some j => if 0 < j.size ∧ 0 < n then some (.sla d y n j.size) else none
      | none => none
    | _, _, _, _ => none
  | some d, .field t x k => match P.underlying t, xOf x with
    | some (.struct fs), some y => match fs[k]? with
      | some f => match szOf P f.type with
        | some (n, g) => some (.fld d y f.offset n g)
        | none => none
      | none => none
    | _, _ => none
  | some d, .index t x i => match P.underlying t, xOf x, xOf i with
    | some (.array n e), some y, some j => match szOf P e with
      | some (m, g) => some (.idx d y j m n g)
      | none => none
    | some .string, some y, some j => some (.ids d y j)
    | _, _, _ => none
  | some d, .extract x i => match xOf x with
    | some y => some (.ext d y i)
    | none => none
  | some d, .nilCheck x => match xOf x with
    | some y => if I.hand d x then some (.nch d y) else none
    | none => none
  | some d, .call c => compCall P q (d + 1) c
  | none, .call c => compCall P q 0 c
  | _, _ => none
def AI.boxes : AI → Bool
  | .lbox _ _ | .lal _ _ => true
  | _ => false
def dstOk (I : Inf) (a : AI) : Option Nat → Bool
  | none => true
  | some d => decide (d < I.nt) && (a.boxes || I.env.lookup d != some d)
def X.slot : X → Bool
  | .s _ => true
  | .c _ => false
def AI.refOk : AI → Bool
  | .ldh _ x _ _ | .cbs _ x | .sla _ x _ _ => x.slot
  | _ => true
def compIT (P : Program) (I : Inf) (q : Bool) (ops : Array Oper) (o : Oper) : Option IT :=
  match compOp P I q o with
  | none => none
  | some a => if dstOk I a o.dst && a.refOk then match o.guard with
    | none => some (.i a)
    | some (j, w) => if a.boxes then none else match (ops[j]?).bind (·.dst) with
      | some s => some (.g s w (match o.dst with | none => 0 | some d => d + 1) a)
      | none => none
    else none
def compL (P : Program) (I : Inf) (q : Bool) (ops : Array Oper) : List Oper → Option (List IT)
  | [] => some []
  | o :: r => match compIT P I q ops o, compL P I q ops r with
    | some a, some as => some (a :: as)
    | _, _ => none

def xMask : X → Nat
  | .s t => 2 ^ t
  | .c _ => 0
def xsMask : List X → Nat
  | [] => 0
  | x :: r => xMask x ||| xsMask r
def psMask : List (Nat × Nat × X) → Nat
  | [] => 0
  | (_, _, x) :: r => xMask x ||| psMask r
def oxMask : Option X → Nat
  | none => 0
  | some x => xMask x
def AI.rd : AI → Nat
  | .lbox d x => 2 ^ d ||| xMask x
  | .mov _ x | .hbox _ _ x | .fad _ x _ | .ldh _ x _ _ | .neg _ x | .not _ x | .cvi _ _ x | .cbs _ x | .mks _ _ _ _ _ x | .sla _ x _ _ | .fld _ x _ _ _ | .ext _ x _ | .nch _ x | .len _ _ x | .snil _ _ x => xMask x
  | .bse _ => 0
  | .pick _ c a b => xMask c ||| xMask a ||| xMask b
  | .hal _ _ _ => 0
  | .lal d _ => 2 ^ d
  | .bld _ _ ps | .bsl _ _ _ _ _ ps | .lsl _ _ _ _ ps => psMask ps
  | .iad _ x i _ | .iaa _ x i _ _ | .idx _ x i _ _ _ | .ids _ x i => xMask x ||| xMask i
  | .ldl _ r x _ _ => 2 ^ r ||| xMask x
  | .stl r x v _ => 2 ^ r ||| xMask x ||| xMask v
  | .sth x v _ => xMask x ||| xMask v
  | .bin _ _ x y | .beq _ _ x y | .geq _ _ _ x y | .app _ _ _ _ x y | .cpy _ _ x y | .mm _ _ x y => xMask x ||| xMask y
  | .slc _ _ x l h | .sls _ x l h => xMask x ||| oxMask l ||| oxMask h
  | .call _ _ _ xs => xsMask xs
  | .clv _ _ x xs => xMask x ||| xsMask xs
def dMask : Nat → Nat
  | 0 => 0
  | d + 1 => 2 ^ d
def AI.wr : AI → Nat
  | .mov d _ | .pick d _ _ _ | .lbox d _ | .lal d _ | .hbox d _ _ | .hal d _ _ | .bld d _ _ | .bsl d _ _ _ _ _ | .bse d | .lsl d _ _ _ _ | .fad d _ _ | .iad d _ _ _ | .iaa d _ _ _ _ | .ldl d _ _ _ _ | .ldh d _ _ _
  | .bin d _ _ _ | .beq d _ _ _ | .snil d _ _ | .geq d _ _ _ _ | .neg d _ | .not d _ | .cvi d _ _ | .cbs d _ | .mks d _ _ _ _ _ | .slc d _ _ _ _ | .sls d _ _ _ | .sla d _ _ _ | .fld d _ _ _ _ | .idx d _ _ _ _ _
  | .ids d _ _ | .ext d _ _ | .nch d _ | .len d _ _ | .app d _ _ _ _ _ | .cpy d _ _ _ | .mm d _ _ _ => 2 ^ d
  | .stl r _ _ _ => 2 ^ r
  | .sth _ _ _ => 0
  | .call d _ _ _ | .clv d _ _ _ => dMask d
def AI.hr : AI → Bool
  | .ldh _ _ _ _ | .cbs _ _ | .sla _ _ _ _ => true
  | _ => false
def AI.sq : AI → Bool
  | .hbox .. | .hal .. | .bsl .. | .sth .. | .mks .. | .app .. | .cpy .. | .call .. | .clv .. => true
  | _ => false
def AI.hw : AI → Bool
  | .sth .. | .app .. | .cpy .. => true
  | .call _ _ q _ | .clv _ q _ _ => !q
  | _ => false
def IT.ai : IT → AI
  | .i a => a
  | .g _ _ _ a => a
def IT.rd : IT → Nat
  | .i a => a.rd
  | .g s _ _ a => 2 ^ s ||| a.rd
def IT.wr : IT → Nat
  | .i a => a.wr
  | .g _ _ d a => dMask d ||| a.wr
def meets (a b : IT) : Bool :=
  (a.wr &&& (b.rd ||| b.wr)) != 0 || (b.wr &&& a.rd) != 0 || (a.ai.sq && b.ai.sq) || (a.ai.hw && b.ai.hr) || (b.ai.hw && a.ai.hr)
def beforeL (bs : List Nat) (o : Oper) : Nat :=
  o.after.toList.foldl (fun s e => if Region.binds .any e then (match bs[e.on]? with | some b => s ||| 2 ^ e.on ||| b | none => s) else s) 0
def befores : List Nat → List Oper → List Nat
  | bs, [] => bs
  | bs, o :: r => befores (bs ++ [beforeL bs o]) r
def apartAll (its : List IT) (it : IT) (b : Nat) : Nat → Bool
  | 0 => true
  | i + 1 => (match its[i]? with | some o => !meets o it || b.testBit i | none => true) && apartAll its it b i
def drawOk (its : List IT) (bs : List Nat) : Nat → Bool
  | 0 => true
  | j + 1 => (match its[j]?, bs[j]? with | some it, some b => apartAll its it b j | _, _ => false) && drawOk its bs j
def earlier : Nat → List Oper → Bool
  | _, [] => true
  | j, o :: r => o.after.toList.all (fun e => !(Region.binds .any e) || decide (e.on < j)) && earlier (j + 1) r
def compR (P : Program) (I : Inf) (ops : Array Oper) (draw : Bool) : Option AC :=
  if draw then
    if P.follows .mixedOrders && earlier 0 ops.toList then
      match compL P I false ops ops.toList with
      | none => none
      | some l => if drawOk l (befores [] ops.toList) l.length then some (.ops l) else
        match compL P I true ops ops.toList with
        | none => none
        | some l => if drawOk l (befores [] ops.toList) l.length then some (.ops l) else none
    else none
  else match compL P I false ops ops.toList with
    | some l => some (.ops l)
    | none => none

def defsOf (l : List Oper) : Nat := l.foldl (fun s o => match o.dst with | some d => s ||| 2 ^ d | none => s) 0
def bitsOf (m : Nat) : Nat → List Nat
  | 0 => []
  | n + 1 => if m.testBit n then n :: bitsOf m n else bitsOf m n
def compC (P : Program) (I : Inf) (nt : Nat) (out : Nat) : Code → Option AC
  | .skip => some .skip
  | .region _ ops draw => compR P I ops draw
  | .seq a b => match compC P I nt (out ||| defsOf (opsOf b)) a, compC P I nt (out ||| defsOf (opsOf a)) b with
    | some x, some y => some (.seq x y)
    | _, _ => none
  | .cond c a b => match xOf c, compC P I nt (out ||| defsOf (opsOf b)) a, compC P I nt (out ||| defsOf (opsOf a)) b with
    | some z, some x, some y => some (.cond z x y)
    | _, _, _ => none
  | .block id b => match compC P I nt out b with
    | some x => some (.block id x)
    | none => none
  | .loop b => match compC P I nt out b with
    | some x =>
      let m := defsOf (opsOf b) ^^^ (defsOf (opsOf b) &&& out)
      if I.env.all (fun p => !(m.testBit p.2) || (bitsOf m nt).contains p.1) then some (.loop (bitsOf m nt) x) else none
    | none => none
  | .exit id => some (.exit id)
  | .ret => some .ret
  | _ => none
def depth (n : Nat) : Nat := n.log2 + 1
def rvOf (P : Program) : ResultVar → Option RV
  | .tmp t => some (.tmp t)
  | .cell s t => match szOf P t with
    | some (n, g) => some (.cell s n g)
    | none => none
def rvsOf (P : Program) : List ResultVar → Option (List RV)
  | [] => some []
  | r :: rs => match rvOf P r, rvsOf P rs with
    | some v, some vs => some (v :: vs)
    | _, _ => none
def compF (P : Program) (fn : Func) : Option AF :=
  if fn.name == "runtime.NumGoroutine" then none else
  match fn.body, rvsOf P fn.results.toList with
  | some b, some res =>
    let l := opsOf b
    let E := escOf P fn l
    let I : Inf := ⟨E, rootsOf P E [] l, usesAll l, fn.ntmps⟩
    match compC P I fn.ntmps (2 ^ fn.params.size - 1) b with
    | some c => if fn.params.size ≤ fn.ntmps then some ⟨fn.params.size, depth fn.ntmps, res, c⟩ else none
    | none => none
  | _, _ => none
def code (P : Program) (g : Nat) : Option AF :=
  match P.funcs[g]? with
  | some fn => compF P fn
  | none => none
end Go.Eng
namespace Go.Eng
set_option maxRecDepth 100000 in
theorem kof : K.of 0 = .z ∧
  K.of 1 = .o .z ∧
  K.of 2 = .i .z ∧
  K.of 3 = .o (.o .z) ∧
  K.of 4 = .i (.o .z) ∧
  K.of 5 = .o (.i .z) ∧
  K.of 6 = .i (.i .z) ∧
  K.of 7 = .o (.o (.o .z)) ∧
  K.of 8 = .i (.o (.o .z)) ∧
  K.of 9 = .o (.i (.o .z)) ∧
  K.of 10 = .i (.i (.o .z)) ∧
  K.of 11 = .o (.o (.i .z)) ∧
  K.of 12 = .i (.o (.i .z)) ∧
  K.of 13 = .o (.i (.i .z)) ∧
  K.of 14 = .i (.i (.i .z)) ∧
  K.of 15 = .o (.o (.o (.o .z))) ∧
  K.of 16 = .i (.o (.o (.o .z))) ∧
  K.of 17 = .o (.i (.o (.o .z))) ∧
  K.of 18 = .i (.i (.o (.o .z))) ∧
  K.of 19 = .o (.o (.i (.o .z))) ∧
  K.of 20 = .i (.o (.i (.o .z))) ∧
  K.of 21 = .o (.i (.i (.o .z))) ∧
  K.of 22 = .i (.i (.i (.o .z))) ∧
  K.of 23 = .o (.o (.o (.i .z))) ∧
  K.of 24 = .i (.o (.o (.i .z))) ∧
  K.of 25 = .o (.i (.o (.i .z))) ∧
  K.of 26 = .i (.i (.o (.i .z))) ∧
  K.of 27 = .o (.o (.i (.i .z))) ∧
  K.of 28 = .i (.o (.i (.i .z))) ∧
  K.of 29 = .o (.i (.i (.i .z))) ∧
  K.of 30 = .i (.i (.i (.i .z))) ∧
  K.of 31 = .o (.o (.o (.o (.o .z)))) ∧
  K.of 32 = .i (.o (.o (.o (.o .z)))) ∧
  K.of 33 = .o (.i (.o (.o (.o .z)))) ∧
  K.of 34 = .i (.i (.o (.o (.o .z)))) ∧
  K.of 35 = .o (.o (.i (.o (.o .z)))) ∧
  K.of 36 = .i (.o (.i (.o (.o .z)))) ∧
  K.of 37 = .o (.i (.i (.o (.o .z)))) ∧
  K.of 38 = .i (.i (.i (.o (.o .z)))) ∧
  K.of 39 = .o (.o (.o (.i (.o .z)))) ∧
  K.of 40 = .i (.o (.o (.i (.o .z)))) ∧
  K.of 41 = .o (.i (.o (.i (.o .z)))) ∧
  K.of 42 = .i (.i (.o (.i (.o .z)))) ∧
  K.of 43 = .o (.o (.i (.i (.o .z)))) ∧
  K.of 44 = .i (.o (.i (.i (.o .z)))) ∧
  K.of 45 = .o (.i (.i (.i (.o .z)))) ∧
  K.of 46 = .i (.i (.i (.i (.o .z)))) ∧
  K.of 47 = .o (.o (.o (.o (.i .z)))) ∧
  K.of 48 = .i (.o (.o (.o (.i .z)))) ∧
  K.of 49 = .o (.i (.o (.o (.i .z)))) ∧
  K.of 50 = .i (.i (.o (.o (.i .z)))) ∧
  K.of 51 = .o (.o (.i (.o (.i .z)))) ∧
  K.of 52 = .i (.o (.i (.o (.i .z)))) ∧
  K.of 53 = .o (.i (.i (.o (.i .z)))) ∧
  K.of 54 = .i (.i (.i (.o (.i .z)))) ∧
  K.of 55 = .o (.o (.o (.i (.i .z)))) ∧
  K.of 56 = .i (.o (.o (.i (.i .z)))) ∧
  K.of 57 = .o (.i (.o (.i (.i .z)))) ∧
  K.of 58 = .i (.i (.o (.i (.i .z)))) ∧
  K.of 59 = .o (.o (.i (.i (.i .z)))) ∧
  K.of 60 = .i (.o (.i (.i (.i .z)))) ∧
  K.of 61 = .o (.i (.i (.i (.i .z)))) ∧
  K.of 62 = .i (.i (.i (.i (.i .z)))) ∧
  K.of 63 = .o (.o (.o (.o (.o (.o .z))))) ∧
  K.of 64 = .i (.o (.o (.o (.o (.o .z))))) ∧
  K.of 65 = .o (.i (.o (.o (.o (.o .z))))) ∧
  K.of 66 = .i (.i (.o (.o (.o (.o .z))))) ∧
  K.of 67 = .o (.o (.i (.o (.o (.o .z))))) ∧
  K.of 68 = .i (.o (.i (.o (.o (.o .z))))) ∧
  K.of 69 = .o (.i (.i (.o (.o (.o .z))))) ∧
  K.of 70 = .i (.i (.i (.o (.o (.o .z))))) ∧
  K.of 71 = .o (.o (.o (.i (.o (.o .z))))) ∧
  K.of 72 = .i (.o (.o (.i (.o (.o .z))))) ∧
  K.of 73 = .o (.i (.o (.i (.o (.o .z))))) ∧
  K.of 74 = .i (.i (.o (.i (.o (.o .z))))) ∧
  K.of 75 = .o (.o (.i (.i (.o (.o .z))))) ∧
  K.of 76 = .i (.o (.i (.i (.o (.o .z))))) ∧
  K.of 77 = .o (.i (.i (.i (.o (.o .z))))) ∧
  K.of 78 = .i (.i (.i (.i (.o (.o .z))))) ∧
  K.of 79 = .o (.o (.o (.o (.i (.o .z))))) ∧
  K.of 80 = .i (.o (.o (.o (.i (.o .z))))) ∧
  K.of 81 = .o (.i (.o (.o (.i (.o .z))))) ∧
  K.of 82 = .i (.i (.o (.o (.i (.o .z))))) ∧
  K.of 83 = .o (.o (.i (.o (.i (.o .z))))) ∧
  K.of 84 = .i (.o (.i (.o (.i (.o .z))))) ∧
  K.of 85 = .o (.i (.i (.o (.i (.o .z))))) ∧
  K.of 86 = .i (.i (.i (.o (.i (.o .z))))) ∧
  K.of 87 = .o (.o (.o (.i (.i (.o .z))))) ∧
  K.of 88 = .i (.o (.o (.i (.i (.o .z))))) ∧
  K.of 89 = .o (.i (.o (.i (.i (.o .z))))) ∧
  K.of 90 = .i (.i (.o (.i (.i (.o .z))))) ∧
  K.of 91 = .o (.o (.i (.i (.i (.o .z))))) ∧
  K.of 92 = .i (.o (.i (.i (.i (.o .z))))) ∧
  K.of 93 = .o (.i (.i (.i (.i (.o .z))))) ∧
  K.of 94 = .i (.i (.i (.i (.i (.o .z))))) ∧
  K.of 95 = .o (.o (.o (.o (.o (.i .z))))) ∧
  K.of 96 = .i (.o (.o (.o (.o (.i .z))))) ∧
  K.of 97 = .o (.i (.o (.o (.o (.i .z))))) ∧
  K.of 98 = .i (.i (.o (.o (.o (.i .z))))) ∧
  K.of 99 = .o (.o (.i (.o (.o (.i .z))))) ∧
  K.of 100 = .i (.o (.i (.o (.o (.i .z))))) ∧
  K.of 101 = .o (.i (.i (.o (.o (.i .z))))) ∧
  K.of 102 = .i (.i (.i (.o (.o (.i .z))))) ∧
  K.of 103 = .o (.o (.o (.i (.o (.i .z))))) ∧
  K.of 104 = .i (.o (.o (.i (.o (.i .z))))) ∧
  K.of 105 = .o (.i (.o (.i (.o (.i .z))))) ∧
  K.of 106 = .i (.i (.o (.i (.o (.i .z))))) ∧
  K.of 107 = .o (.o (.i (.i (.o (.i .z))))) ∧
  K.of 108 = .i (.o (.i (.i (.o (.i .z))))) ∧
  K.of 109 = .o (.i (.i (.i (.o (.i .z))))) ∧
  K.of 110 = .i (.i (.i (.i (.o (.i .z))))) ∧
  K.of 111 = .o (.o (.o (.o (.i (.i .z))))) ∧
  K.of 112 = .i (.o (.o (.o (.i (.i .z))))) ∧
  K.of 113 = .o (.i (.o (.o (.i (.i .z))))) ∧
  K.of 114 = .i (.i (.o (.o (.i (.i .z))))) ∧
  K.of 115 = .o (.o (.i (.o (.i (.i .z))))) ∧
  K.of 116 = .i (.o (.i (.o (.i (.i .z))))) ∧
  K.of 117 = .o (.i (.i (.o (.i (.i .z))))) ∧
  K.of 118 = .i (.i (.i (.o (.i (.i .z))))) ∧
  K.of 119 = .o (.o (.o (.i (.i (.i .z))))) ∧
  K.of 120 = .i (.o (.o (.i (.i (.i .z))))) ∧
  K.of 121 = .o (.i (.o (.i (.i (.i .z))))) ∧
  K.of 122 = .i (.i (.o (.i (.i (.i .z))))) ∧
  K.of 123 = .o (.o (.i (.i (.i (.i .z))))) ∧
  K.of 124 = .i (.o (.i (.i (.i (.i .z))))) ∧
  K.of 125 = .o (.i (.i (.i (.i (.i .z))))) ∧
  K.of 126 = .i (.i (.i (.i (.i (.i .z))))) ∧
  K.of 127 = .o (.o (.o (.o (.o (.o (.o .z)))))) ∧
  K.of 128 = .i (.o (.o (.o (.o (.o (.o .z)))))) ∧
  K.of 129 = .o (.i (.o (.o (.o (.o (.o .z)))))) ∧
  K.of 130 = .i (.i (.o (.o (.o (.o (.o .z)))))) ∧
  K.of 131 = .o (.o (.i (.o (.o (.o (.o .z)))))) ∧
  K.of 132 = .i (.o (.i (.o (.o (.o (.o .z)))))) ∧
  K.of 133 = .o (.i (.i (.o (.o (.o (.o .z)))))) ∧
  K.of 134 = .i (.i (.i (.o (.o (.o (.o .z)))))) ∧
  K.of 135 = .o (.o (.o (.i (.o (.o (.o .z)))))) ∧
  K.of 136 = .i (.o (.o (.i (.o (.o (.o .z)))))) ∧
  K.of 137 = .o (.i (.o (.i (.o (.o (.o .z)))))) ∧
  K.of 138 = .i (.i (.o (.i (.o (.o (.o .z)))))) ∧
  K.of 139 = .o (.o (.i (.i (.o (.o (.o .z)))))) ∧
  K.of 140 = .i (.o (.i (.i (.o (.o (.o .z)))))) ∧
  K.of 141 = .o (.i (.i (.i (.o (.o (.o .z)))))) ∧
  K.of 142 = .i (.i (.i (.i (.o (.o (.o .z)))))) ∧
  K.of 143 = .o (.o (.o (.o (.i (.o (.o .z)))))) ∧
  K.of 144 = .i (.o (.o (.o (.i (.o (.o .z)))))) ∧
  K.of 145 = .o (.i (.o (.o (.i (.o (.o .z)))))) ∧
  K.of 146 = .i (.i (.o (.o (.i (.o (.o .z)))))) ∧
  K.of 147 = .o (.o (.i (.o (.i (.o (.o .z)))))) ∧
  K.of 148 = .i (.o (.i (.o (.i (.o (.o .z)))))) ∧
  K.of 149 = .o (.i (.i (.o (.i (.o (.o .z)))))) ∧
  K.of 150 = .i (.i (.i (.o (.i (.o (.o .z)))))) ∧
  K.of 151 = .o (.o (.o (.i (.i (.o (.o .z)))))) ∧
  K.of 152 = .i (.o (.o (.i (.i (.o (.o .z)))))) ∧
  K.of 153 = .o (.i (.o (.i (.i (.o (.o .z)))))) ∧
  K.of 154 = .i (.i (.o (.i (.i (.o (.o .z)))))) ∧
  K.of 155 = .o (.o (.i (.i (.i (.o (.o .z)))))) ∧
  K.of 156 = .i (.o (.i (.i (.i (.o (.o .z)))))) ∧
  K.of 157 = .o (.i (.i (.i (.i (.o (.o .z)))))) ∧
  K.of 158 = .i (.i (.i (.i (.i (.o (.o .z)))))) ∧
  K.of 159 = .o (.o (.o (.o (.o (.i (.o .z)))))) ∧
  K.of 160 = .i (.o (.o (.o (.o (.i (.o .z)))))) ∧
  K.of 161 = .o (.i (.o (.o (.o (.i (.o .z)))))) ∧
  K.of 162 = .i (.i (.o (.o (.o (.i (.o .z)))))) ∧
  K.of 163 = .o (.o (.i (.o (.o (.i (.o .z)))))) ∧
  K.of 164 = .i (.o (.i (.o (.o (.i (.o .z)))))) ∧
  K.of 165 = .o (.i (.i (.o (.o (.i (.o .z)))))) ∧
  K.of 166 = .i (.i (.i (.o (.o (.i (.o .z)))))) ∧
  K.of 167 = .o (.o (.o (.i (.o (.i (.o .z)))))) ∧
  K.of 168 = .i (.o (.o (.i (.o (.i (.o .z)))))) ∧
  K.of 169 = .o (.i (.o (.i (.o (.i (.o .z)))))) ∧
  K.of 170 = .i (.i (.o (.i (.o (.i (.o .z)))))) ∧
  K.of 171 = .o (.o (.i (.i (.o (.i (.o .z)))))) ∧
  K.of 172 = .i (.o (.i (.i (.o (.i (.o .z)))))) ∧
  K.of 173 = .o (.i (.i (.i (.o (.i (.o .z)))))) ∧
  K.of 174 = .i (.i (.i (.i (.o (.i (.o .z)))))) ∧
  K.of 175 = .o (.o (.o (.o (.i (.i (.o .z)))))) ∧
  K.of 176 = .i (.o (.o (.o (.i (.i (.o .z)))))) ∧
  K.of 177 = .o (.i (.o (.o (.i (.i (.o .z)))))) ∧
  K.of 178 = .i (.i (.o (.o (.i (.i (.o .z)))))) ∧
  K.of 179 = .o (.o (.i (.o (.i (.i (.o .z)))))) ∧
  K.of 180 = .i (.o (.i (.o (.i (.i (.o .z)))))) ∧
  K.of 181 = .o (.i (.i (.o (.i (.i (.o .z)))))) ∧
  K.of 182 = .i (.i (.i (.o (.i (.i (.o .z)))))) ∧
  K.of 183 = .o (.o (.o (.i (.i (.i (.o .z)))))) ∧
  K.of 184 = .i (.o (.o (.i (.i (.i (.o .z)))))) ∧
  K.of 185 = .o (.i (.o (.i (.i (.i (.o .z)))))) ∧
  K.of 186 = .i (.i (.o (.i (.i (.i (.o .z)))))) ∧
  K.of 187 = .o (.o (.i (.i (.i (.i (.o .z)))))) ∧
  K.of 188 = .i (.o (.i (.i (.i (.i (.o .z)))))) ∧
  K.of 189 = .o (.i (.i (.i (.i (.i (.o .z)))))) ∧
  K.of 190 = .i (.i (.i (.i (.i (.i (.o .z)))))) ∧
  K.of 191 = .o (.o (.o (.o (.o (.o (.i .z)))))) ∧
  K.of 192 = .i (.o (.o (.o (.o (.o (.i .z)))))) ∧
  K.of 193 = .o (.i (.o (.o (.o (.o (.i .z)))))) ∧
  K.of 194 = .i (.i (.o (.o (.o (.o (.i .z)))))) ∧
  K.of 195 = .o (.o (.i (.o (.o (.o (.i .z)))))) ∧
  K.of 196 = .i (.o (.i (.o (.o (.o (.i .z)))))) ∧
  K.of 197 = .o (.i (.i (.o (.o (.o (.i .z)))))) ∧
  K.of 198 = .i (.i (.i (.o (.o (.o (.i .z)))))) ∧
  K.of 199 = .o (.o (.o (.i (.o (.o (.i .z)))))) ∧
  K.of 200 = .i (.o (.o (.i (.o (.o (.i .z)))))) ∧
  K.of 201 = .o (.i (.o (.i (.o (.o (.i .z)))))) ∧
  K.of 202 = .i (.i (.o (.i (.o (.o (.i .z)))))) ∧
  K.of 203 = .o (.o (.i (.i (.o (.o (.i .z)))))) ∧
  K.of 204 = .i (.o (.i (.i (.o (.o (.i .z)))))) ∧
  K.of 205 = .o (.i (.i (.i (.o (.o (.i .z)))))) ∧
  K.of 206 = .i (.i (.i (.i (.o (.o (.i .z)))))) ∧
  K.of 207 = .o (.o (.o (.o (.i (.o (.i .z)))))) ∧
  K.of 208 = .i (.o (.o (.o (.i (.o (.i .z)))))) ∧
  K.of 209 = .o (.i (.o (.o (.i (.o (.i .z)))))) ∧
  K.of 210 = .i (.i (.o (.o (.i (.o (.i .z)))))) ∧
  K.of 211 = .o (.o (.i (.o (.i (.o (.i .z)))))) ∧
  K.of 212 = .i (.o (.i (.o (.i (.o (.i .z)))))) ∧
  K.of 213 = .o (.i (.i (.o (.i (.o (.i .z)))))) ∧
  K.of 214 = .i (.i (.i (.o (.i (.o (.i .z)))))) ∧
  K.of 215 = .o (.o (.o (.i (.i (.o (.i .z)))))) ∧
  K.of 216 = .i (.o (.o (.i (.i (.o (.i .z)))))) ∧
  K.of 217 = .o (.i (.o (.i (.i (.o (.i .z)))))) ∧
  K.of 218 = .i (.i (.o (.i (.i (.o (.i .z)))))) ∧
  K.of 219 = .o (.o (.i (.i (.i (.o (.i .z)))))) ∧
  K.of 220 = .i (.o (.i (.i (.i (.o (.i .z)))))) ∧
  K.of 221 = .o (.i (.i (.i (.i (.o (.i .z)))))) ∧
  K.of 222 = .i (.i (.i (.i (.i (.o (.i .z)))))) ∧
  K.of 223 = .o (.o (.o (.o (.o (.i (.i .z)))))) ∧
  K.of 224 = .i (.o (.o (.o (.o (.i (.i .z)))))) ∧
  K.of 225 = .o (.i (.o (.o (.o (.i (.i .z)))))) ∧
  K.of 226 = .i (.i (.o (.o (.o (.i (.i .z)))))) ∧
  K.of 227 = .o (.o (.i (.o (.o (.i (.i .z)))))) ∧
  K.of 228 = .i (.o (.i (.o (.o (.i (.i .z)))))) ∧
  K.of 229 = .o (.i (.i (.o (.o (.i (.i .z)))))) ∧
  K.of 230 = .i (.i (.i (.o (.o (.i (.i .z)))))) ∧
  K.of 231 = .o (.o (.o (.i (.o (.i (.i .z)))))) ∧
  K.of 232 = .i (.o (.o (.i (.o (.i (.i .z)))))) ∧
  K.of 233 = .o (.i (.o (.i (.o (.i (.i .z)))))) ∧
  K.of 234 = .i (.i (.o (.i (.o (.i (.i .z)))))) ∧
  K.of 235 = .o (.o (.i (.i (.o (.i (.i .z)))))) ∧
  K.of 236 = .i (.o (.i (.i (.o (.i (.i .z)))))) ∧
  K.of 237 = .o (.i (.i (.i (.o (.i (.i .z)))))) ∧
  K.of 238 = .i (.i (.i (.i (.o (.i (.i .z)))))) ∧
  K.of 239 = .o (.o (.o (.o (.i (.i (.i .z)))))) ∧
  K.of 240 = .i (.o (.o (.o (.i (.i (.i .z)))))) ∧
  K.of 241 = .o (.i (.o (.o (.i (.i (.i .z)))))) ∧
  K.of 242 = .i (.i (.o (.o (.i (.i (.i .z)))))) ∧
  K.of 243 = .o (.o (.i (.o (.i (.i (.i .z)))))) ∧
  K.of 244 = .i (.o (.i (.o (.i (.i (.i .z)))))) ∧
  K.of 245 = .o (.i (.i (.o (.i (.i (.i .z)))))) ∧
  K.of 246 = .i (.i (.i (.o (.i (.i (.i .z)))))) ∧
  K.of 247 = .o (.o (.o (.i (.i (.i (.i .z)))))) ∧
  K.of 248 = .i (.o (.o (.i (.i (.i (.i .z)))))) ∧
  K.of 249 = .o (.i (.o (.i (.i (.i (.i .z)))))) ∧
  K.of 250 = .i (.i (.o (.i (.i (.i (.i .z)))))) ∧
  K.of 251 = .o (.o (.i (.i (.i (.i (.i .z)))))) ∧
  K.of 252 = .i (.o (.i (.i (.i (.i (.i .z)))))) ∧
  K.of 253 = .o (.i (.i (.i (.i (.i (.i .z)))))) ∧
  K.of 254 = .i (.i (.i (.i (.i (.i (.i .z)))))) ∧
  K.of 255 = .o (.o (.o (.o (.o (.o (.o (.o .z))))))) ∧
  K.of 256 = .i (.o (.o (.o (.o (.o (.o (.o .z))))))) ∧
  K.of 257 = .o (.i (.o (.o (.o (.o (.o (.o .z))))))) ∧
  K.of 258 = .i (.i (.o (.o (.o (.o (.o (.o .z))))))) ∧
  K.of 259 = .o (.o (.i (.o (.o (.o (.o (.o .z))))))) ∧
  K.of 260 = .i (.o (.i (.o (.o (.o (.o (.o .z))))))) ∧
  K.of 261 = .o (.i (.i (.o (.o (.o (.o (.o .z))))))) ∧
  K.of 262 = .i (.i (.i (.o (.o (.o (.o (.o .z))))))) ∧
  K.of 263 = .o (.o (.o (.i (.o (.o (.o (.o .z))))))) ∧
  K.of 264 = .i (.o (.o (.i (.o (.o (.o (.o .z))))))) ∧
  K.of 265 = .o (.i (.o (.i (.o (.o (.o (.o .z))))))) ∧
  K.of 266 = .i (.i (.o (.i (.o (.o (.o (.o .z))))))) ∧
  K.of 267 = .o (.o (.i (.i (.o (.o (.o (.o .z))))))) ∧
  K.of 268 = .i (.o (.i (.i (.o (.o (.o (.o .z))))))) ∧
  K.of 269 = .o (.i (.i (.i (.o (.o (.o (.o .z))))))) ∧
  K.of 270 = .i (.i (.i (.i (.o (.o (.o (.o .z))))))) ∧
  K.of 271 = .o (.o (.o (.o (.i (.o (.o (.o .z))))))) ∧
  K.of 272 = .i (.o (.o (.o (.i (.o (.o (.o .z))))))) ∧
  K.of 273 = .o (.i (.o (.o (.i (.o (.o (.o .z))))))) ∧
  K.of 274 = .i (.i (.o (.o (.i (.o (.o (.o .z))))))) ∧
  K.of 275 = .o (.o (.i (.o (.i (.o (.o (.o .z))))))) ∧
  K.of 276 = .i (.o (.i (.o (.i (.o (.o (.o .z))))))) ∧
  K.of 277 = .o (.i (.i (.o (.i (.o (.o (.o .z))))))) ∧
  K.of 278 = .i (.i (.i (.o (.i (.o (.o (.o .z))))))) ∧
  K.of 279 = .o (.o (.o (.i (.i (.o (.o (.o .z))))))) ∧
  K.of 280 = .i (.o (.o (.i (.i (.o (.o (.o .z))))))) ∧
  K.of 281 = .o (.i (.o (.i (.i (.o (.o (.o .z))))))) ∧
  K.of 282 = .i (.i (.o (.i (.i (.o (.o (.o .z))))))) ∧
  K.of 283 = .o (.o (.i (.i (.i (.o (.o (.o .z))))))) ∧
  K.of 284 = .i (.o (.i (.i (.i (.o (.o (.o .z))))))) ∧
  K.of 285 = .o (.i (.i (.i (.i (.o (.o (.o .z))))))) ∧
  K.of 286 = .i (.i (.i (.i (.i (.o (.o (.o .z))))))) ∧
  K.of 287 = .o (.o (.o (.o (.o (.i (.o (.o .z))))))) ∧
  K.of 288 = .i (.o (.o (.o (.o (.i (.o (.o .z))))))) ∧
  K.of 289 = .o (.i (.o (.o (.o (.i (.o (.o .z))))))) ∧
  K.of 290 = .i (.i (.o (.o (.o (.i (.o (.o .z))))))) ∧
  K.of 291 = .o (.o (.i (.o (.o (.i (.o (.o .z))))))) ∧
  K.of 292 = .i (.o (.i (.o (.o (.i (.o (.o .z))))))) ∧
  K.of 293 = .o (.i (.i (.o (.o (.i (.o (.o .z))))))) ∧
  K.of 294 = .i (.i (.i (.o (.o (.i (.o (.o .z))))))) ∧
  K.of 295 = .o (.o (.o (.i (.o (.i (.o (.o .z))))))) ∧
  K.of 296 = .i (.o (.o (.i (.o (.i (.o (.o .z))))))) ∧
  K.of 297 = .o (.i (.o (.i (.o (.i (.o (.o .z))))))) ∧
  K.of 298 = .i (.i (.o (.i (.o (.i (.o (.o .z))))))) ∧
  K.of 299 = .o (.o (.i (.i (.o (.i (.o (.o .z))))))) ∧
  K.of 300 = .i (.o (.i (.i (.o (.i (.o (.o .z))))))) ∧
  K.of 301 = .o (.i (.i (.i (.o (.i (.o (.o .z))))))) ∧
  K.of 302 = .i (.i (.i (.i (.o (.i (.o (.o .z))))))) ∧
  K.of 303 = .o (.o (.o (.o (.i (.i (.o (.o .z))))))) ∧
  K.of 304 = .i (.o (.o (.o (.i (.i (.o (.o .z))))))) ∧
  K.of 305 = .o (.i (.o (.o (.i (.i (.o (.o .z))))))) ∧
  K.of 306 = .i (.i (.o (.o (.i (.i (.o (.o .z))))))) ∧
  K.of 307 = .o (.o (.i (.o (.i (.i (.o (.o .z))))))) ∧
  K.of 308 = .i (.o (.i (.o (.i (.i (.o (.o .z))))))) ∧
  K.of 309 = .o (.i (.i (.o (.i (.i (.o (.o .z))))))) ∧
  K.of 310 = .i (.i (.i (.o (.i (.i (.o (.o .z))))))) ∧
  K.of 311 = .o (.o (.o (.i (.i (.i (.o (.o .z))))))) ∧
  K.of 312 = .i (.o (.o (.i (.i (.i (.o (.o .z))))))) ∧
  K.of 313 = .o (.i (.o (.i (.i (.i (.o (.o .z))))))) ∧
  K.of 314 = .i (.i (.o (.i (.i (.i (.o (.o .z))))))) ∧
  K.of 315 = .o (.o (.i (.i (.i (.i (.o (.o .z))))))) ∧
  K.of 316 = .i (.o (.i (.i (.i (.i (.o (.o .z))))))) ∧
  K.of 317 = .o (.i (.i (.i (.i (.i (.o (.o .z))))))) ∧
  K.of 318 = .i (.i (.i (.i (.i (.i (.o (.o .z))))))) ∧
  K.of 319 = .o (.o (.o (.o (.o (.o (.i (.o .z))))))) ∧
  K.of 320 = .i (.o (.o (.o (.o (.o (.i (.o .z))))))) ∧
  K.of 321 = .o (.i (.o (.o (.o (.o (.i (.o .z))))))) ∧
  K.of 322 = .i (.i (.o (.o (.o (.o (.i (.o .z))))))) ∧
  K.of 323 = .o (.o (.i (.o (.o (.o (.i (.o .z))))))) ∧
  K.of 324 = .i (.o (.i (.o (.o (.o (.i (.o .z))))))) ∧
  K.of 325 = .o (.i (.i (.o (.o (.o (.i (.o .z))))))) ∧
  K.of 326 = .i (.i (.i (.o (.o (.o (.i (.o .z))))))) ∧
  K.of 327 = .o (.o (.o (.i (.o (.o (.i (.o .z))))))) ∧
  K.of 328 = .i (.o (.o (.i (.o (.o (.i (.o .z))))))) ∧
  K.of 329 = .o (.i (.o (.i (.o (.o (.i (.o .z))))))) ∧
  K.of 330 = .i (.i (.o (.i (.o (.o (.i (.o .z))))))) ∧
  K.of 331 = .o (.o (.i (.i (.o (.o (.i (.o .z))))))) ∧
  K.of 332 = .i (.o (.i (.i (.o (.o (.i (.o .z))))))) ∧
  K.of 333 = .o (.i (.i (.i (.o (.o (.i (.o .z))))))) ∧
  K.of 334 = .i (.i (.i (.i (.o (.o (.i (.o .z))))))) ∧
  K.of 335 = .o (.o (.o (.o (.i (.o (.i (.o .z))))))) ∧
  K.of 336 = .i (.o (.o (.o (.i (.o (.i (.o .z))))))) ∧
  K.of 337 = .o (.i (.o (.o (.i (.o (.i (.o .z))))))) ∧
  K.of 338 = .i (.i (.o (.o (.i (.o (.i (.o .z))))))) ∧
  K.of 339 = .o (.o (.i (.o (.i (.o (.i (.o .z))))))) ∧
  K.of 340 = .i (.o (.i (.o (.i (.o (.i (.o .z))))))) ∧
  K.of 341 = .o (.i (.i (.o (.i (.o (.i (.o .z))))))) ∧
  K.of 342 = .i (.i (.i (.o (.i (.o (.i (.o .z))))))) ∧
  K.of 343 = .o (.o (.o (.i (.i (.o (.i (.o .z))))))) ∧
  K.of 344 = .i (.o (.o (.i (.i (.o (.i (.o .z))))))) ∧
  K.of 345 = .o (.i (.o (.i (.i (.o (.i (.o .z))))))) ∧
  K.of 346 = .i (.i (.o (.i (.i (.o (.i (.o .z))))))) ∧
  K.of 347 = .o (.o (.i (.i (.i (.o (.i (.o .z))))))) ∧
  K.of 348 = .i (.o (.i (.i (.i (.o (.i (.o .z))))))) ∧
  K.of 349 = .o (.i (.i (.i (.i (.o (.i (.o .z))))))) ∧
  K.of 350 = .i (.i (.i (.i (.i (.o (.i (.o .z))))))) ∧
  K.of 351 = .o (.o (.o (.o (.o (.i (.i (.o .z))))))) ∧
  K.of 352 = .i (.o (.o (.o (.o (.i (.i (.o .z))))))) ∧
  K.of 353 = .o (.i (.o (.o (.o (.i (.i (.o .z))))))) ∧
  K.of 354 = .i (.i (.o (.o (.o (.i (.i (.o .z))))))) ∧
  K.of 355 = .o (.o (.i (.o (.o (.i (.i (.o .z))))))) ∧
  K.of 356 = .i (.o (.i (.o (.o (.i (.i (.o .z))))))) ∧
  K.of 357 = .o (.i (.i (.o (.o (.i (.i (.o .z))))))) ∧
  K.of 358 = .i (.i (.i (.o (.o (.i (.i (.o .z))))))) ∧
  K.of 359 = .o (.o (.o (.i (.o (.i (.i (.o .z))))))) ∧
  K.of 360 = .i (.o (.o (.i (.o (.i (.i (.o .z))))))) ∧
  K.of 361 = .o (.i (.o (.i (.o (.i (.i (.o .z))))))) ∧
  K.of 362 = .i (.i (.o (.i (.o (.i (.i (.o .z))))))) ∧
  K.of 363 = .o (.o (.i (.i (.o (.i (.i (.o .z))))))) ∧
  K.of 364 = .i (.o (.i (.i (.o (.i (.i (.o .z))))))) ∧
  K.of 365 = .o (.i (.i (.i (.o (.i (.i (.o .z))))))) ∧
  K.of 366 = .i (.i (.i (.i (.o (.i (.i (.o .z))))))) ∧
  K.of 367 = .o (.o (.o (.o (.i (.i (.i (.o .z))))))) ∧
  K.of 368 = .i (.o (.o (.o (.i (.i (.i (.o .z))))))) ∧
  K.of 369 = .o (.i (.o (.o (.i (.i (.i (.o .z))))))) ∧
  K.of 370 = .i (.i (.o (.o (.i (.i (.i (.o .z))))))) ∧
  K.of 371 = .o (.o (.i (.o (.i (.i (.i (.o .z))))))) ∧
  K.of 372 = .i (.o (.i (.o (.i (.i (.i (.o .z))))))) ∧
  K.of 373 = .o (.i (.i (.o (.i (.i (.i (.o .z))))))) ∧
  K.of 374 = .i (.i (.i (.o (.i (.i (.i (.o .z))))))) ∧
  K.of 375 = .o (.o (.o (.i (.i (.i (.i (.o .z))))))) ∧
  K.of 376 = .i (.o (.o (.i (.i (.i (.i (.o .z))))))) ∧
  K.of 377 = .o (.i (.o (.i (.i (.i (.i (.o .z))))))) ∧
  K.of 378 = .i (.i (.o (.i (.i (.i (.i (.o .z))))))) ∧
  K.of 379 = .o (.o (.i (.i (.i (.i (.i (.o .z))))))) ∧
  K.of 380 = .i (.o (.i (.i (.i (.i (.i (.o .z))))))) ∧
  K.of 381 = .o (.i (.i (.i (.i (.i (.i (.o .z))))))) ∧
  K.of 382 = .i (.i (.i (.i (.i (.i (.i (.o .z))))))) ∧
  K.of 383 = .o (.o (.o (.o (.o (.o (.o (.i .z))))))) ∧
  K.of 384 = .i (.o (.o (.o (.o (.o (.o (.i .z))))))) ∧
  K.of 385 = .o (.i (.o (.o (.o (.o (.o (.i .z))))))) ∧
  K.of 386 = .i (.i (.o (.o (.o (.o (.o (.i .z))))))) ∧
  K.of 387 = .o (.o (.i (.o (.o (.o (.o (.i .z))))))) ∧
  K.of 388 = .i (.o (.i (.o (.o (.o (.o (.i .z))))))) ∧
  K.of 389 = .o (.i (.i (.o (.o (.o (.o (.i .z))))))) ∧
  K.of 390 = .i (.i (.i (.o (.o (.o (.o (.i .z))))))) ∧
  K.of 391 = .o (.o (.o (.i (.o (.o (.o (.i .z))))))) ∧
  K.of 392 = .i (.o (.o (.i (.o (.o (.o (.i .z))))))) ∧
  K.of 393 = .o (.i (.o (.i (.o (.o (.o (.i .z))))))) ∧
  K.of 394 = .i (.i (.o (.i (.o (.o (.o (.i .z))))))) ∧
  K.of 395 = .o (.o (.i (.i (.o (.o (.o (.i .z))))))) ∧
  K.of 396 = .i (.o (.i (.i (.o (.o (.o (.i .z))))))) ∧
  K.of 397 = .o (.i (.i (.i (.o (.o (.o (.i .z))))))) ∧
  K.of 398 = .i (.i (.i (.i (.o (.o (.o (.i .z))))))) ∧
  K.of 399 = .o (.o (.o (.o (.i (.o (.o (.i .z))))))) ∧
  K.of 400 = .i (.o (.o (.o (.i (.o (.o (.i .z))))))) ∧
  K.of 401 = .o (.i (.o (.o (.i (.o (.o (.i .z))))))) ∧
  K.of 402 = .i (.i (.o (.o (.i (.o (.o (.i .z))))))) ∧
  K.of 403 = .o (.o (.i (.o (.i (.o (.o (.i .z))))))) ∧
  K.of 404 = .i (.o (.i (.o (.i (.o (.o (.i .z))))))) ∧
  K.of 405 = .o (.i (.i (.o (.i (.o (.o (.i .z))))))) ∧
  K.of 406 = .i (.i (.i (.o (.i (.o (.o (.i .z))))))) ∧
  K.of 407 = .o (.o (.o (.i (.i (.o (.o (.i .z))))))) ∧
  K.of 408 = .i (.o (.o (.i (.i (.o (.o (.i .z))))))) ∧
  K.of 409 = .o (.i (.o (.i (.i (.o (.o (.i .z))))))) ∧
  K.of 410 = .i (.i (.o (.i (.i (.o (.o (.i .z))))))) ∧
  K.of 411 = .o (.o (.i (.i (.i (.o (.o (.i .z))))))) ∧
  K.of 412 = .i (.o (.i (.i (.i (.o (.o (.i .z))))))) ∧
  K.of 413 = .o (.i (.i (.i (.i (.o (.o (.i .z))))))) ∧
  K.of 414 = .i (.i (.i (.i (.i (.o (.o (.i .z))))))) ∧
  K.of 415 = .o (.o (.o (.o (.o (.i (.o (.i .z))))))) ∧
  K.of 416 = .i (.o (.o (.o (.o (.i (.o (.i .z))))))) ∧
  K.of 417 = .o (.i (.o (.o (.o (.i (.o (.i .z))))))) ∧
  K.of 418 = .i (.i (.o (.o (.o (.i (.o (.i .z))))))) ∧
  K.of 419 = .o (.o (.i (.o (.o (.i (.o (.i .z))))))) ∧
  K.of 420 = .i (.o (.i (.o (.o (.i (.o (.i .z))))))) ∧
  K.of 421 = .o (.i (.i (.o (.o (.i (.o (.i .z))))))) ∧
  K.of 422 = .i (.i (.i (.o (.o (.i (.o (.i .z))))))) ∧
  K.of 423 = .o (.o (.o (.i (.o (.i (.o (.i .z))))))) ∧
  K.of 424 = .i (.o (.o (.i (.o (.i (.o (.i .z))))))) ∧
  K.of 425 = .o (.i (.o (.i (.o (.i (.o (.i .z))))))) ∧
  K.of 426 = .i (.i (.o (.i (.o (.i (.o (.i .z))))))) ∧
  K.of 427 = .o (.o (.i (.i (.o (.i (.o (.i .z))))))) ∧
  K.of 428 = .i (.o (.i (.i (.o (.i (.o (.i .z))))))) ∧
  K.of 429 = .o (.i (.i (.i (.o (.i (.o (.i .z))))))) ∧
  K.of 430 = .i (.i (.i (.i (.o (.i (.o (.i .z))))))) ∧
  K.of 431 = .o (.o (.o (.o (.i (.i (.o (.i .z))))))) ∧
  K.of 432 = .i (.o (.o (.o (.i (.i (.o (.i .z))))))) ∧
  K.of 433 = .o (.i (.o (.o (.i (.i (.o (.i .z))))))) ∧
  K.of 434 = .i (.i (.o (.o (.i (.i (.o (.i .z))))))) ∧
  K.of 435 = .o (.o (.i (.o (.i (.i (.o (.i .z))))))) ∧
  K.of 436 = .i (.o (.i (.o (.i (.i (.o (.i .z))))))) ∧
  K.of 437 = .o (.i (.i (.o (.i (.i (.o (.i .z))))))) ∧
  K.of 438 = .i (.i (.i (.o (.i (.i (.o (.i .z))))))) ∧
  K.of 439 = .o (.o (.o (.i (.i (.i (.o (.i .z))))))) ∧
  K.of 440 = .i (.o (.o (.i (.i (.i (.o (.i .z))))))) ∧
  K.of 441 = .o (.i (.o (.i (.i (.i (.o (.i .z))))))) ∧
  K.of 442 = .i (.i (.o (.i (.i (.i (.o (.i .z))))))) ∧
  K.of 443 = .o (.o (.i (.i (.i (.i (.o (.i .z))))))) ∧
  K.of 444 = .i (.o (.i (.i (.i (.i (.o (.i .z))))))) ∧
  K.of 445 = .o (.i (.i (.i (.i (.i (.o (.i .z))))))) ∧
  K.of 446 = .i (.i (.i (.i (.i (.i (.o (.i .z))))))) ∧
  K.of 447 = .o (.o (.o (.o (.o (.o (.i (.i .z))))))) ∧
  K.of 448 = .i (.o (.o (.o (.o (.o (.i (.i .z))))))) ∧
  K.of 449 = .o (.i (.o (.o (.o (.o (.i (.i .z))))))) ∧
  K.of 450 = .i (.i (.o (.o (.o (.o (.i (.i .z))))))) ∧
  K.of 451 = .o (.o (.i (.o (.o (.o (.i (.i .z))))))) ∧
  K.of 452 = .i (.o (.i (.o (.o (.o (.i (.i .z))))))) ∧
  K.of 453 = .o (.i (.i (.o (.o (.o (.i (.i .z))))))) ∧
  K.of 454 = .i (.i (.i (.o (.o (.o (.i (.i .z))))))) ∧
  K.of 455 = .o (.o (.o (.i (.o (.o (.i (.i .z))))))) ∧
  K.of 456 = .i (.o (.o (.i (.o (.o (.i (.i .z))))))) ∧
  K.of 457 = .o (.i (.o (.i (.o (.o (.i (.i .z))))))) ∧
  K.of 458 = .i (.i (.o (.i (.o (.o (.i (.i .z))))))) ∧
  K.of 459 = .o (.o (.i (.i (.o (.o (.i (.i .z))))))) ∧
  K.of 460 = .i (.o (.i (.i (.o (.o (.i (.i .z))))))) ∧
  K.of 461 = .o (.i (.i (.i (.o (.o (.i (.i .z))))))) ∧
  K.of 462 = .i (.i (.i (.i (.o (.o (.i (.i .z))))))) ∧
  K.of 463 = .o (.o (.o (.o (.i (.o (.i (.i .z))))))) ∧
  K.of 464 = .i (.o (.o (.o (.i (.o (.i (.i .z))))))) ∧
  K.of 465 = .o (.i (.o (.o (.i (.o (.i (.i .z))))))) ∧
  K.of 466 = .i (.i (.o (.o (.i (.o (.i (.i .z))))))) ∧
  K.of 467 = .o (.o (.i (.o (.i (.o (.i (.i .z))))))) ∧
  K.of 468 = .i (.o (.i (.o (.i (.o (.i (.i .z))))))) ∧
  K.of 469 = .o (.i (.i (.o (.i (.o (.i (.i .z))))))) ∧
  K.of 470 = .i (.i (.i (.o (.i (.o (.i (.i .z))))))) ∧
  K.of 471 = .o (.o (.o (.i (.i (.o (.i (.i .z))))))) ∧
  K.of 472 = .i (.o (.o (.i (.i (.o (.i (.i .z))))))) ∧
  K.of 473 = .o (.i (.o (.i (.i (.o (.i (.i .z))))))) ∧
  K.of 474 = .i (.i (.o (.i (.i (.o (.i (.i .z))))))) ∧
  K.of 475 = .o (.o (.i (.i (.i (.o (.i (.i .z))))))) ∧
  K.of 476 = .i (.o (.i (.i (.i (.o (.i (.i .z))))))) ∧
  K.of 477 = .o (.i (.i (.i (.i (.o (.i (.i .z))))))) ∧
  K.of 478 = .i (.i (.i (.i (.i (.o (.i (.i .z))))))) ∧
  K.of 479 = .o (.o (.o (.o (.o (.i (.i (.i .z))))))) ∧
  K.of 480 = .i (.o (.o (.o (.o (.i (.i (.i .z))))))) ∧
  K.of 481 = .o (.i (.o (.o (.o (.i (.i (.i .z))))))) ∧
  K.of 482 = .i (.i (.o (.o (.o (.i (.i (.i .z))))))) ∧
  K.of 483 = .o (.o (.i (.o (.o (.i (.i (.i .z))))))) ∧
  K.of 484 = .i (.o (.i (.o (.o (.i (.i (.i .z))))))) ∧
  K.of 485 = .o (.i (.i (.o (.o (.i (.i (.i .z))))))) ∧
  K.of 486 = .i (.i (.i (.o (.o (.i (.i (.i .z))))))) ∧
  K.of 487 = .o (.o (.o (.i (.o (.i (.i (.i .z))))))) ∧
  K.of 488 = .i (.o (.o (.i (.o (.i (.i (.i .z))))))) ∧
  K.of 489 = .o (.i (.o (.i (.o (.i (.i (.i .z))))))) ∧
  K.of 490 = .i (.i (.o (.i (.o (.i (.i (.i .z))))))) ∧
  K.of 491 = .o (.o (.i (.i (.o (.i (.i (.i .z))))))) ∧
  K.of 492 = .i (.o (.i (.i (.o (.i (.i (.i .z))))))) ∧
  K.of 493 = .o (.i (.i (.i (.o (.i (.i (.i .z))))))) ∧
  K.of 494 = .i (.i (.i (.i (.o (.i (.i (.i .z))))))) ∧
  K.of 495 = .o (.o (.o (.o (.i (.i (.i (.i .z))))))) ∧
  K.of 496 = .i (.o (.o (.o (.i (.i (.i (.i .z))))))) ∧
  K.of 497 = .o (.i (.o (.o (.i (.i (.i (.i .z))))))) ∧
  K.of 498 = .i (.i (.o (.o (.i (.i (.i (.i .z))))))) ∧
  K.of 499 = .o (.o (.i (.o (.i (.i (.i (.i .z))))))) ∧
  K.of 500 = .i (.o (.i (.o (.i (.i (.i (.i .z))))))) ∧
  K.of 501 = .o (.i (.i (.o (.i (.i (.i (.i .z))))))) ∧
  K.of 502 = .i (.i (.i (.o (.i (.i (.i (.i .z))))))) ∧
  K.of 503 = .o (.o (.o (.i (.i (.i (.i (.i .z))))))) ∧
  K.of 504 = .i (.o (.o (.i (.i (.i (.i (.i .z))))))) ∧
  K.of 505 = .o (.i (.o (.i (.i (.i (.i (.i .z))))))) ∧
  K.of 506 = .i (.i (.o (.i (.i (.i (.i (.i .z))))))) ∧
  K.of 507 = .o (.o (.i (.i (.i (.i (.i (.i .z))))))) ∧
  K.of 508 = .i (.o (.i (.i (.i (.i (.i (.i .z))))))) ∧
  K.of 509 = .o (.i (.i (.i (.i (.i (.i (.i .z))))))) ∧
  K.of 510 = .i (.i (.i (.i (.i (.i (.i (.i .z))))))) ∧
  K.of 511 = .o (.o (.o (.o (.o (.o (.o (.o (.o .z)))))))) :=
  ⟨rfl, rfl, rfl, rfl, rfl, rfl, rfl, rfl, rfl, rfl, rfl, rfl, rfl, rfl, rfl, rfl, rfl, rfl, rfl, rfl, rfl, rfl, rfl, rfl, rfl, rfl, rfl, rfl, rfl, rfl, rfl, rfl, rfl, rfl, rfl, rfl, rfl, rfl, rfl, rfl, rfl, rfl, rfl, rfl, rfl, rfl, rfl, rfl, rfl, rfl, rfl, rfl, rfl, rfl, rfl, rfl, rfl, rfl, rfl, rfl, rfl, rfl, rfl, rfl, rfl, rfl, rfl, rfl, rfl, rfl, rfl, rfl, rfl, rfl, rfl, rfl, rfl, rfl, rfl, rfl, rfl, rfl, rfl, rfl, rfl, rfl, rfl, rfl, rfl, rfl, rfl, rfl, rfl, rfl, rfl, rfl, rfl, rfl, rfl, rfl, rfl, rfl, rfl, rfl, rfl, rfl, rfl, rfl, rfl, rfl, rfl, rfl, rfl, rfl, rfl, rfl, rfl, rfl, rfl, rfl, rfl, rfl, rfl, rfl, rfl, rfl, rfl, rfl, rfl, rfl, rfl, rfl, rfl, rfl, rfl, rfl, rfl, rfl, rfl, rfl, rfl, rfl, rfl, rfl, rfl, rfl, rfl, rfl, rfl, rfl, rfl, rfl, rfl, rfl, rfl, rfl, rfl, rfl, rfl, rfl, rfl, rfl, rfl, rfl, rfl, rfl, rfl, rfl, rfl, rfl, rfl, rfl, rfl, rfl, rfl, rfl, rfl, rfl, rfl, rfl, rfl, rfl, rfl, rfl, rfl, rfl, rfl, rfl, rfl, rfl, rfl, rfl, rfl, rfl, rfl, rfl, rfl, rfl, rfl, rfl, rfl, rfl, rfl, rfl, rfl, rfl, rfl, rfl, rfl, rfl, rfl, rfl, rfl, rfl, rfl, rfl, rfl, rfl, rfl, rfl, rfl, rfl, rfl, rfl, rfl, rfl, rfl, rfl, rfl, rfl, rfl, rfl, rfl, rfl, rfl, rfl, rfl, rfl, rfl, rfl, rfl, rfl, rfl, rfl, rfl, rfl, rfl, rfl, rfl, rfl, rfl, rfl, rfl, rfl, rfl, rfl, rfl, rfl, rfl, rfl, rfl, rfl, rfl, rfl, rfl, rfl, rfl, rfl, rfl, rfl, rfl, rfl, rfl, rfl, rfl, rfl, rfl, rfl, rfl, rfl, rfl, rfl, rfl, rfl, rfl, rfl, rfl, rfl, rfl, rfl, rfl, rfl, rfl, rfl, rfl, rfl, rfl, rfl, rfl, rfl, rfl, rfl, rfl, rfl, rfl, rfl, rfl, rfl, rfl, rfl, rfl, rfl, rfl, rfl, rfl, rfl, rfl, rfl, rfl, rfl, rfl, rfl, rfl, rfl, rfl, rfl, rfl, rfl, rfl, rfl, rfl, rfl, rfl, rfl, rfl, rfl, rfl, rfl, rfl, rfl, rfl, rfl, rfl, rfl, rfl, rfl, rfl, rfl, rfl, rfl, rfl, rfl, rfl, rfl, rfl, rfl, rfl, rfl, rfl, rfl, rfl, rfl, rfl, rfl, rfl, rfl, rfl, rfl, rfl, rfl, rfl, rfl, rfl, rfl, rfl, rfl, rfl, rfl, rfl, rfl, rfl, rfl, rfl, rfl, rfl, rfl, rfl, rfl, rfl, rfl, rfl, rfl, rfl, rfl, rfl, rfl, rfl, rfl, rfl, rfl, rfl, rfl, rfl, rfl, rfl, rfl, rfl, rfl, rfl, rfl, rfl, rfl, rfl, rfl, rfl, rfl, rfl, rfl, rfl, rfl, rfl, rfl, rfl, rfl, rfl, rfl, rfl, rfl, rfl, rfl, rfl, rfl, rfl, rfl, rfl, rfl, rfl, rfl, rfl, rfl, rfl, rfl, rfl, rfl, rfl, rfl, rfl, rfl, rfl, rfl, rfl, rfl, rfl, rfl, rfl, rfl, rfl, rfl, rfl, rfl, rfl, rfl, rfl, rfl, rfl, rfl, rfl, rfl, rfl, rfl, rfl, rfl, rfl, rfl, rfl, rfl, rfl, rfl, rfl, rfl, rfl, rfl, rfl, rfl, rfl, rfl, rfl, rfl, rfl, rfl, rfl, rfl, rfl, rfl, rfl, rfl, rfl, rfl, rfl, rfl, rfl, rfl, rfl, rfl, rfl, rfl, rfl, rfl, rfl, rfl, rfl, rfl⟩
end Go.Eng
namespace Go.Eng
def LeC (c c' : CallF) : Prop := ∀ g vs h r, c g vs h = some r → c' g vs h = some r
theorem doCall_mono {c c' : CallF} (hc : LeC c c') {d g : Nat} {q : Bool} {vs : List (Bool × List C)} {f : Fr} {h : H} {r : Fr × H} (hr : doCall c d g q vs f h = some r) : doCall c' d g q vs f h = some r := by
  unfold doCall at *
  cases h1 : c g vs h with
  | none => simp [h1] at hr
  | some p => rw [hc g vs h p h1]; rw [h1] at hr; exact hr
theorem run1_mono {c c' : CallF} (hc : LeC c c') {a : AI} {f : Fr} {h : H} {r : Fr × H} (hr : run1 c a f h = some r) : run1 c' a f h = some r := by
  cases a
  case call d g q xs =>
    simp only [run1] at *
    cases ha : args f xs with
    | none => simp [ha] at hr
    | some vs => simp only [ha] at *; exact doCall_mono hc hr
  case clv d q x xs =>
    simp only [run1] at *
    split at hr
    · exact doCall_mono hc hr
    · simp at hr
  all_goals exact hr
theorem runI_mono {c c' : CallF} (hc : LeC c c') {a : IT} {f : Fr} {h : H} {r : Fr × H} (hr : runI c a f h = some r) : runI c' a f h = some r := by
  unfold runI at *
  split at hr
  · exact run1_mono hc hr
  · split at hr
    · split at hr
      · rename_i hb; simp only [*, if_true]; exact run1_mono hc hr
      · rename_i hb; simp only [*, if_false]
    · simp at hr
theorem runL_mono {c c' : CallF} (hc : LeC c c') : ∀ {l : List IT} {f : Fr} {h : H} {r : Fr × H}, runL c l f h = some r → runL c' l f h = some r
  | [], _, _, _, hr => hr
  | it :: l, f, h, r, hr => by
    simp only [runL] at *
    cases h1 : runI c it f h with
    | none => simp [h1] at hr
    | some p => rw [runI_mono hc h1]; rw [h1] at hr; exact runL_mono hc hr
theorem rounds_mono {b b' : Fr → H → Option (Ex × Fr × H)} (hb : ∀ f h r, b f h = some r → b' f h = some r) (ds : List Nat) : ∀ {n n' : Nat}, n ≤ n' → ∀ {f : Fr} {h : H} {r : Ex × Fr × H}, rounds b ds n f h = some r → rounds b' ds n' f h = some r
  | 0, _, _, _, _, _, hr => by simp [rounds] at hr
  | n + 1, 0, hn, _, _, _, _ => by omega
  | n + 1, n' + 1, hn, f, h, r, hr => by
    simp only [rounds] at *
    cases h1 : b (forget f ds) h with
    | none => simp [h1] at hr
    | some p =>
      rw [hb _ _ _ h1]; rw [h1] at hr
      obtain ⟨e, f', h'⟩ := p
      cases e with
      | norm => exact rounds_mono hb ds (by omega) hr
      | exit id => exact hr
      | ret => exact hr
theorem run_mono {c c' : CallF} (hc : LeC c c') {n n' : Nat} (hn : n ≤ n') : ∀ (a : AC) {f : Fr} {h : H} {r : Ex × Fr × H}, run c n a f h = some r → run c' n' a f h = some r
  | .ops l, f, h, r, hr => by
    simp only [run] at *
    cases h1 : runL c l f h with
    | none => simp [h1] at hr
    | some p => rw [runL_mono hc h1]; rw [h1] at hr; exact hr
  | .seq a b, f, h, r, hr => by
    simp only [run] at *
    cases h1 : run c n a f h with
    | none => simp [h1] at hr
    | some p =>
      rw [run_mono hc hn a h1]; rw [h1] at hr
      obtain ⟨e, f', h'⟩ := p
      cases e with
      | norm => exact run_mono hc hn b hr
      | exit id => exact hr
      | ret => exact hr
  | .cond x a b, f, h, r, hr => by
    simp only [run] at *
    split at hr
    · exact run_mono hc hn a hr
    · exact run_mono hc hn b hr
    · simp at hr
  | .block id b, f, h, r, hr => by
    simp only [run] at *
    cases h1 : run c n b f h with
    | none => simp [h1] at hr
    | some p => rw [run_mono hc hn b h1]; rw [h1] at hr; exact hr
  | .loop ds b, f, h, r, hr => by
    simp only [run] at *
    exact rounds_mono (fun f h r h1 => run_mono hc hn b h1) ds hn hr
  | .exit _, _, _, _, hr => hr
  | .ret, _, _, _, hr => hr
  | .skip, _, _, _, hr => hr
theorem callN_app (cd : Nat → Option AF) (n g : Nat) (vs : List (Bool × List C)) (h : H) : callN cd (n + 1) g vs h = (match cd g with
    | some a => runF (callN cd n) n a vs h
    | none => none) := rfl
theorem runF_mono {c c' : CallF} (hc : LeC c c') {n n' : Nat} (hn : n ≤ n') {a : AF} {vs : List (Bool × List C)} {h : H} {r : V × H} (hr : runF c n a vs h = some r) : runF c' n' a vs h = some r := by
  unfold runF at *
  split
  · rename_i hl
    simp only [hl, if_true] at hr
    cases h1 : run c n a.body (enter0 (PT.full a.dep) 0 vs) h with
    | none => simp [h1] at hr
    | some p => rw [run_mono hc hn a.body h1]; rw [h1] at hr; exact hr
  · rename_i hl; simp [hl] at hr
theorem callN_succ (cd : Nat → Option AF) : ∀ n, LeC (callN cd n) (callN cd (n + 1))
  | 0 => fun _ _ _ _ hr => by simp [callN] at hr
  | n + 1 => fun g vs h r hr => by
    rw [callN_app] at *
    cases hg : cd g with
    | none => simp [hg] at hr
    | some a =>
      simp only [hg] at *
      exact runF_mono (callN_succ cd n) (Nat.le_succ n) hr
theorem callN_mono (cd : Nat → Option AF) {n n' : Nat} (hn : n ≤ n') : LeC (callN cd n) (callN cd n') := by
  induction hn with
  | refl => exact fun _ _ _ _ h => h
  | step _ ih => exact fun g vs h r hr => callN_succ cd _ g vs h r (ih g vs h r hr)

def WC (cd : Nat → Option AF) (g : Nat) (vs : List (Bool × List C)) (h : H) (Q : V → H → Prop) : Prop :=
  ∃ n v h', callN cd n g vs h = some (v, h') ∧ Q v h'
def W (cd : Nat → Option AF) (a : AC) (f : Fr) (h : H) (Q : Ex → Fr → H → Prop) : Prop :=
  ∃ n e f' h', run (callN cd n) n a f h = some (e, f', h') ∧ Q e f' h'
def WL (cd : Nat → Option AF) (l : List IT) (f : Fr) (h : H) (Q : Fr → H → Prop) : Prop :=
  ∃ n f' h', runL (callN cd n) l f h = some (f', h') ∧ Q f' h'
def onS (o : Option (Fr × H)) (K : Fr → H → Prop) : Prop :=
  match o with
  | some (f, h) => K f h
  | none => False
@[simp] theorem onS_some (f : Fr) (h : H) (K : Fr → H → Prop) : onS (some (f, h)) K = K f h := rfl
@[simp] theorem onS_none (K : Fr → H → Prop) : onS none K = False := rfl
def thn (K : Fr → H → Prop) (Q : Ex → Fr → H → Prop) : Ex → Fr → H → Prop
  | .norm, f, h => K f h
  | e, f, h => Q e f h
def blk (id : Nat) (Q : Ex → Fr → H → Prop) : Ex → Fr → H → Prop
  | .exit i, f, h => if i = id then Q .norm f h else Q (.exit i) f h
  | e, f, h => Q e f h
section
variable {cd : Nat → Option AF} {f : Fr} {h : H}
theorem WC.mono {g : Nat} {vs : List (Bool × List C)} {Q Q' : V → H → Prop} (hw : WC cd g vs h Q) (hq : ∀ v h', Q v h' → Q' v h') : WC cd g vs h Q' :=
  let ⟨n, v, h', hr, q⟩ := hw
  ⟨n, v, h', hr, hq _ _ q⟩
theorem W.mono {a : AC} {Q Q' : Ex → Fr → H → Prop} (hw : W cd a f h Q) (hq : ∀ e f' h', Q e f' h' → Q' e f' h') : W cd a f h Q' :=
  let ⟨n, e, f', h', hr, q⟩ := hw
  ⟨n, e, f', h', hr, hq _ _ _ q⟩
theorem W_ops (l : List IT) (Q : Ex → Fr → H → Prop) : W cd (.ops l) f h Q = WL cd l f h (fun f' h' => Q .norm f' h') := by
  apply propext
  constructor
  · rintro ⟨n, e, f', h', hr, q⟩
    simp only [run] at hr
    cases h1 : runL (callN cd n) l f h with
    | none => simp [h1] at hr
    | some p =>
      obtain ⟨f1, h1'⟩ := p
      simp only [h1, Option.some.injEq, Prod.mk.injEq] at hr
      obtain ⟨rfl, rfl, rfl⟩ := hr
      exact ⟨n, _, _, h1, q⟩
  · rintro ⟨n, f', h', hr, q⟩
    exact ⟨n, _, f', h', by simp only [run, hr], q⟩
theorem W_skip (Q : Ex → Fr → H → Prop) : W cd .skip f h Q = Q .norm f h := by
  apply propext
  exact ⟨fun ⟨n, e, f', h', hr, q⟩ => by simp only [run, Option.some.injEq, Prod.mk.injEq] at hr; obtain ⟨rfl, rfl, rfl⟩ := hr; exact q, fun q => ⟨0, _, _, _, rfl, q⟩⟩
theorem W_ret (Q : Ex → Fr → H → Prop) : W cd .ret f h Q = Q .ret f h := by
  apply propext
  exact ⟨fun ⟨n, e, f', h', hr, q⟩ => by simp only [run, Option.some.injEq, Prod.mk.injEq] at hr; obtain ⟨rfl, rfl, rfl⟩ := hr; exact q, fun q => ⟨0, _, _, _, rfl, q⟩⟩
theorem W_exit (id : Nat) (Q : Ex → Fr → H → Prop) : W cd (.exit id) f h Q = Q (.exit id) f h := by
  apply propext
  exact ⟨fun ⟨n, e, f', h', hr, q⟩ => by simp only [run, Option.some.injEq, Prod.mk.injEq] at hr; obtain ⟨rfl, rfl, rfl⟩ := hr; exact q, fun q => ⟨0, _, _, _, rfl, q⟩⟩
theorem W_seq (a b : AC) (Q : Ex → Fr → H → Prop) : W cd (.seq a b) f h Q = W cd a f h (thn (fun f' h' => W cd b f' h' Q) Q) := by
  apply propext
  constructor
  · rintro ⟨n, e, f', h', hr, q⟩
    simp only [run] at hr
    cases h1 : run (callN cd n) n a f h with
    | none => simp [h1] at hr
    | some p =>
      obtain ⟨e1, f1, h1'⟩ := p
      refine ⟨n, e1, f1, h1', h1, ?_⟩
      cases e1 with
      | norm => exact ⟨n, e, f', h', by simpa [h1] using hr, q⟩
      | exit i => simp [h1] at hr; obtain ⟨rfl, rfl, rfl⟩ := hr; exact q
      | ret => simp [h1] at hr; obtain ⟨rfl, rfl, rfl⟩ := hr; exact q
  · rintro ⟨n, e, f1, h1', h1, q⟩
    cases e with
    | norm =>
      obtain ⟨m, e, f', h', h2, q⟩ := q
      refine ⟨max n m, e, f', h', ?_, q⟩
      simp only [run]
      rw [run_mono (callN_mono cd (Nat.le_max_left n m)) (Nat.le_max_left n m) a h1]
      exact run_mono (callN_mono cd (Nat.le_max_right n m)) (Nat.le_max_right n m) b h2
    | exit i => exact ⟨n, _, _, _, by simp only [run, h1], q⟩
    | ret => exact ⟨n, _, _, _, by simp only [run, h1], q⟩
def onB (c : Option C) (A B : Prop) : Prop :=
  match c with
  | some (.bool true) => A
  | some (.bool false) => B
  | _ => False
theorem W_cond (x : X) (a b : AC) (Q : Ex → Fr → H → Prop) : W cd (.cond x a b) f h Q = onB (ev1 f x) (W cd a f h Q) (W cd b f h Q) := by
  apply propext
  unfold W
  constructor
  · rintro ⟨n, e, f', h', hr, q⟩
    simp only [run] at hr
    split at hr
    · rename_i hx; simp only [hx, onB]; exact ⟨n, e, f', h', hr, q⟩
    · rename_i hx; simp only [hx, onB]; exact ⟨n, e, f', h', hr, q⟩
    · simp at hr
  · intro hw
    unfold onB at hw
    split at hw
    · rename_i hx; obtain ⟨n, e, f', h', hr, q⟩ := hw; exact ⟨n, e, f', h', by simp only [run, hx]; exact hr, q⟩
    · rename_i hx; obtain ⟨n, e, f', h', hr, q⟩ := hw; exact ⟨n, e, f', h', by simp only [run, hx]; exact hr, q⟩
    · exact hw.elim
theorem W_block (id : Nat) (b : AC) (Q : Ex → Fr → H → Prop) : W cd (.block id b) f h Q = W cd b f h (blk id Q) := by
  apply propext
  constructor
  · rintro ⟨n, e, f', h', hr, q⟩
    simp only [run] at hr
    cases h1 : run (callN cd n) n b f h with
    | none => simp [h1] at hr
    | some p =>
      obtain ⟨e1, f1, h1'⟩ := p
      refine ⟨n, e1, f1, h1', h1, ?_⟩
      cases e1 with
      | norm => simp [h1] at hr; obtain ⟨rfl, rfl, rfl⟩ := hr; exact q
      | ret => simp [h1] at hr; obtain ⟨rfl, rfl, rfl⟩ := hr; exact q
      | exit i =>
        simp only [h1] at hr
        unfold blk
        split at hr
        · rename_i hi; simp at hr; obtain ⟨rfl, rfl, rfl⟩ := hr; simp only [hi, if_true]; exact q
        · rename_i hi; simp at hr; obtain ⟨rfl, rfl, rfl⟩ := hr; simp only [hi, if_false]; exact q
  · rintro ⟨n, e, f', h', hr, q⟩
    cases e with
    | norm => exact ⟨n, _, _, _, by simp only [run, hr], q⟩
    | ret => exact ⟨n, _, _, _, by simp only [run, hr], q⟩
    | exit i =>
      simp only [blk] at q
      by_cases hi : i = id
      · rw [if_pos hi] at q; exact ⟨n, _, _, _, by simp only [run, hr, if_pos hi], q⟩
      · rw [if_neg hi] at q; exact ⟨n, _, _, _, by simp only [run, hr, if_neg hi], q⟩
theorem WL_nil (Q : Fr → H → Prop) : WL cd [] f h Q = Q f h := by
  apply propext
  exact ⟨fun ⟨n, f', h', hr, q⟩ => by simp only [runL, Option.some.injEq, Prod.mk.injEq] at hr; obtain ⟨rfl, rfl⟩ := hr; exact q, fun q => ⟨0, _, _, rfl, q⟩⟩
theorem WL_cons (it : IT) (l : List IT) (Q : Fr → H → Prop) : WL cd (it :: l) f h Q = WL cd [it] f h (fun f' h' => WL cd l f' h' Q) := by
  apply propext
  constructor
  · rintro ⟨n, f', h', hr, q⟩
    simp only [runL] at hr
    cases h1 : runI (callN cd n) it f h with
    | none => simp [h1] at hr
    | some p =>
      refine ⟨n, p.1, p.2, by simp only [runL, h1], n, f', h', by simpa [h1] using hr, q⟩
  · rintro ⟨n, f1, h1, hr, m, f', h', h2, q⟩
    refine ⟨max n m, f', h', ?_, q⟩
    simp only [runL] at *
    cases h3 : runI (callN cd n) it f h with
    | none => simp [h3] at hr
    | some p =>
      obtain ⟨p1, p2⟩ := p
      simp only [h3, Option.some.injEq, Prod.mk.injEq] at hr
      obtain ⟨rfl, rfl⟩ := hr
      rw [runI_mono (callN_mono cd (Nat.le_max_left n m)) h3]
      exact runL_mono (callN_mono cd (Nat.le_max_right n m)) h2
def AI.plain : AI → Bool
  | .call .. | .clv .. => false
  | _ => true
theorem run1_plain {c : CallF} {a : AI} (ha : a.plain = true) : run1 c a f h = ai a f h := by
  cases a <;> first | rfl | simp [AI.plain] at ha
theorem WL_plain (a : AI) (ha : a.plain = true) (l : List IT) (Q : Fr → H → Prop) : WL cd (.i a :: l) f h Q = onS (ai a f h) (fun f' h' => WL cd l f' h' Q) := by
  rw [WL_cons]
  apply propext
  constructor
  · rintro ⟨n, f1, h1, hr, q⟩
    simp only [runL, runI, run1_plain ha] at hr
    cases h3 : ai a f h with
    | none => simp [h3] at hr
    | some p => obtain ⟨p1, p2⟩ := p; simp only [h3, Option.some.injEq, Prod.mk.injEq] at hr; obtain ⟨rfl, rfl⟩ := hr; exact q
  · intro hw
    cases h3 : ai a f h with
    | none => simp [h3, onS] at hw
    | some p => obtain ⟨f1, h1⟩ := p; rw [h3] at hw; exact ⟨0, f1, h1, by simp only [runL, runI, run1_plain ha, h3], hw⟩
def onA (o : Option (List (Bool × List C))) (K : List (Bool × List C) → Prop) : Prop :=
  match o with
  | some vs => K vs
  | none => False
theorem WL_call (d g : Nat) (xs : List X) (l : List IT) (Q : Fr → H → Prop) :
    WL cd (.i (.call d g false xs) :: l) f h Q = onA (args f xs) (fun vs => WC cd g vs h (fun v h' => WL cd l (setD f d v) h' Q)) := by
  rw [WL_cons]
  apply propext
  constructor
  · rintro ⟨n, f1, h1, hr, q⟩
    simp only [runL, runI, run1] at hr
    cases ha : args f xs with
    | none => simp [ha] at hr
    | some vs =>
      simp only [ha, doCall] at hr
      cases h3 : callN cd n g vs h with
      | none => simp [h3] at hr
      | some p =>
        obtain ⟨v, h'⟩ := p
        simp [h3] at hr
        obtain ⟨rfl, rfl⟩ := hr
        exact ⟨n, v, h', h3, q⟩
  · intro hw
    cases ha : args f xs with
    | none => simp [ha, onA] at hw
    | some vs =>
      simp only [ha, onA] at hw
      obtain ⟨n, v, h', hr, q⟩ := hw
      exact ⟨n, _, _, by simp [runL, runI, run1, ha, doCall, hr], q⟩
theorem WL_callq (d g : Nat) (xs : List X) (l : List IT) (Q : Fr → H → Prop) :
    WL cd (.i (.call d g true xs) :: l) f h Q = onA (args f xs) (fun vs => WC cd g vs h (fun v h' => (∃ t, h' = h ++ t) ∧ WL cd l (setD f d v) h' Q)) := by
  rw [WL_cons]
  apply propext
  constructor
  · rintro ⟨n, f1, h1, hr, q⟩
    simp only [runL, runI, run1] at hr
    cases ha : args f xs with
    | none => simp [ha] at hr
    | some vs =>
      simp only [ha, doCall] at hr
      cases h3 : callN cd n g vs h with
      | none => simp [h3] at hr
      | some p =>
        obtain ⟨v, h'⟩ := p
        by_cases hx : ∃ t, h' = h ++ t
        · have hx' : (true = true → ∃ t, h' = h ++ t) := fun _ => hx
          simp only [h3, if_pos hx', Option.some.injEq, Prod.mk.injEq] at hr
          obtain ⟨rfl, rfl⟩ := hr
          exact ⟨n, v, h', h3, hx, q⟩
        · have hx' : ¬ (true = true → ∃ t, h' = h ++ t) := fun k => hx (k rfl)
          simp [h3, if_neg hx'] at hr
  · intro hw
    cases ha : args f xs with
    | none => simp [ha, onA] at hw
    | some vs =>
      simp only [ha, onA] at hw
      obtain ⟨n, v, h', hr, hx, q⟩ := hw
      have hx' : (true = true → ∃ t, h' = h ++ t) := fun _ => hx
      exact ⟨n, setD f d v, h', by simp only [runL, runI, run1, ha, doCall, hr, if_pos hx'], q⟩
theorem WL_clv (d : Nat) (q : Bool) (x : X) (xs : List X) (l : List IT) (Q : Fr → H → Prop) (g : Nat) (hx : ev1 f x = some (.fn g)) :
    WL cd (.i (.clv d q x xs) :: l) f h Q = WL cd (.i (.call d g q xs) :: l) f h Q := by
  have e : ∀ c, run1 c (.clv d q x xs) f h = run1 c (.call d g q xs) f h := by
    intro c
    simp only [run1, hx]
    cases args f xs <;> rfl
  unfold WL
  simp only [runL, runI, e]
theorem WL_g (s d : Nat) (w : Bool) (a : AI) (l : List IT) (Q : Fr → H → Prop) :
    WL cd (.g s w d a :: l) f h Q = onB (gv f s w) (if w = true then WL cd (.i a :: l) f h Q else WL cd l (setD f d (.tup [])) h Q) (if w = true then WL cd l (setD f d (.tup [])) h Q else WL cd (.i a :: l) f h Q) := by
  apply propext
  constructor
  · rintro ⟨n, f1, h1, hr, q⟩
    simp only [runL, runI] at hr
    split at hr
    · rename_i p hp
      split at hp
      · rename_i b hb
        simp only [hb]
        split at hp
        · rename_i he
          subst he
          cases b <;> simp only [onB, if_true] <;> exact ⟨n, f1, h1, by simp only [runL, runI, hp]; exact hr, q⟩
        · rename_i he
          simp only [Option.some.injEq, Prod.mk.injEq] at hp
          obtain ⟨rfl, rfl⟩ := hp
          cases b <;> cases w <;> simp_all [onB] <;> exact ⟨n, f1, h1, hr, q⟩
      · simp at hp
    · simp at hr
  · intro hw
    unfold onB at hw
    split at hw
    · rename_i hb
      split at hw
      · rename_i he; subst he
        obtain ⟨n, f1, h1, hr, q⟩ := hw
        exact ⟨n, f1, h1, by simp only [runL, runI, hb, if_true] at *; exact hr, q⟩
      · rename_i he
        obtain ⟨n, f1, h1, hr, q⟩ := hw
        have : w = false := by simpa using he
        subst this
        exact ⟨n, f1, h1, by simp [runL, runI, hb]; exact hr, q⟩
    · rename_i hb
      split at hw
      · rename_i he; subst he
        obtain ⟨n, f1, h1, hr, q⟩ := hw
        exact ⟨n, f1, h1, by simp [runL, runI, hb]; exact hr, q⟩
      · rename_i he
        have : w = false := by simpa using he
        subst this
        obtain ⟨n, f1, h1, hr, q⟩ := hw
        exact ⟨n, f1, h1, by simp only [runL, runI, hb, if_true] at *; exact hr, q⟩
    · exact hw.elim
theorem WC_enter {g : Nat} {a : AF} (hg : cd g = some a) {vs : List (Bool × List C)} (hl : vs.length = a.np) {Q : V → H → Prop}
    (hw : W cd a.body (enter0 (PT.full a.dep) 0 vs) h (fun e f' h' => match e with | .exit _ => False | _ => match resV f' a.res with | some v => Q v h' | none => False)) : WC cd g vs h Q := by
  obtain ⟨n, e, f', h', hr, q⟩ := hw
  have key : (match resV f' a.res with | some v => Q v h' | none => False) → (e = .norm ∨ e = .ret) → WC cd g vs h Q := by
    intro q he
    cases hv : resV f' a.res with
    | none => simp [hv] at q
    | some v =>
      simp only [hv] at q
      refine ⟨n + 1, v, h', ?_, q⟩
      simp only [callN, hg, runF, hl, if_true]
      rcases he with rfl | rfl <;> simp only [hr, hv]
  cases e with
  | exit i => exact q.elim
  | norm => exact key q (.inl rfl)
  | ret => exact key q (.inr rfl)
theorem W_loop {ds : List Nat} {b : AC} {Q : Ex → Fr → H → Prop} (I : Nat → Fr → H → Prop) (g0 : Nat) (h0 : I g0 f h)
    (round : ∀ g f h, I g f h → W cd b (forget f ds) h (thn (fun f' h' => ∃ g', g' < g ∧ I g' f' h') Q)) : W cd (.loop ds b) f h Q := by
  have key : ∀ g f h, I g f h → ∃ n e f' h', rounds (run (callN cd n) n b) ds n f h = some (e, f', h') ∧ Q e f' h' := by
    intro g
    induction g using Nat.strongRecOn with
    | _ g ih =>
      intro f h hI
      obtain ⟨n, e, f1, h1, hr, q⟩ := round g f h hI
      cases e with
      | norm =>
        obtain ⟨g', hlt, hI'⟩ := q
        obtain ⟨m, e, f', h', h2, q⟩ := ih g' hlt f1 h1 hI'
        refine ⟨max n m + 1, e, f', h', ?_, q⟩
        simp only [rounds]
        rw [run_mono (callN_mono cd (show n ≤ max n m + 1 by omega)) (show n ≤ max n m + 1 by omega) b hr]
        exact rounds_mono (fun f h r hx => run_mono (callN_mono cd (show m ≤ max n m + 1 by omega)) (show m ≤ max n m + 1 by omega) b hx) ds (by omega) h2
      | exit i =>
        refine ⟨n + 1, _, f1, h1, ?_, q⟩
        simp only [rounds]
        rw [run_mono (callN_succ cd n) (Nat.le_succ n) b hr]
      | ret =>
        refine ⟨n + 1, _, f1, h1, ?_, q⟩
        simp only [rounds]
        rw [run_mono (callN_succ cd n) (Nat.le_succ n) b hr]
  obtain ⟨n, e, f', h', hr, q⟩ := key g0 f h h0
  exact ⟨n, e, f', h', by simpa only [run] using hr, q⟩
end

theorem onB_true (A B : Prop) : onB (some (.bool true)) A B = A := rfl
theorem onB_false (A B : Prop) : onB (some (.bool false)) A B = B := rfl
theorem onB_dec {p : Prop} {_ : Decidable p} {A B : Prop} (ht : p → A) (hf : ¬ p → B) : onB (some (.bool (decide p))) A B := by
  by_cases hp : p
  · simp only [hp, decide_true, onB_true]; exact ht hp
  · simp only [hp, decide_false, onB_false]; exact hf hp
inductive KI where
  | c (a : AC)
  | b (id : Nat)
  | stop (P : Fr → H → Prop)
def FN (o : Option V) (Q : V → H → Prop) (h : H) : Prop :=
  match o with
  | some v => Q v h
  | none => False
def cont (cd : Nat → Option AF) (R : List RV) (Q : V → H → Prop) : List KI → Ex → Fr → H → Prop
  | [], .exit _, _, _ => False
  | [], _, f, h => FN (resV f R) Q h
  | .b _ :: k, .norm, f, h => cont cd R Q k .norm f h
  | .b i :: k, .exit id, f, h => if id = i then cont cd R Q k .norm f h else cont cd R Q k (.exit id) f h
  | .stop P :: _, .norm, f, h => P f h
  | .c a :: k, .norm, f, h => W cd a f h (cont cd R Q k)
  | _ :: k, e, f, h => cont cd R Q k e f h
def WS (cd : Nat → Option AF) (k : List KI) (f : Fr) (h : H) (R : List RV) (Q : V → H → Prop) : Prop := cont cd R Q k .norm f h
def EX (cd : Nat → Option AF) (id : Nat) (k : List KI) (f : Fr) (h : H) (R : List RV) (Q : V → H → Prop) : Prop := cont cd R Q k (.exit id) f h
def BR (cd : Nat → Option AF) (c : Option C) (a b : AC) (k : List KI) (f : Fr) (h : H) (R : List RV) (Q : V → H → Prop) : Prop :=
  onB c (WS cd (.c a :: k) f h R Q) (WS cd (.c b :: k) f h R Q)
def GB (cd : Nat → Option AF) (c : Option C) (w : Bool) (d : Nat) (a : AI) (l : List IT) (k : List KI) (f : Fr) (h : H) (R : List RV) (Q : V → H → Prop) : Prop :=
  match c with
  | some (.bool b) => if b = w then WS cd (.c (.ops (.i a :: l)) :: k) f h R Q else WS cd (.c (.ops l) :: k) (setD f d (.tup [])) h R Q
  | _ => False
def ST (cd : Nat → Option AF) (o : Option (Fr × H)) (l : List IT) (k : List KI) (R : List RV) (Q : V → H → Prop) : Prop :=
  match o with
  | some (f, h) => WS cd (.c (.ops l) :: k) f h R Q
  | none => False
def KC (cd : Nat → Option AF) (d : Nat) (l : List IT) (k : List KI) (f : Fr) (R : List RV) (Q : V → H → Prop) (v : V) (h : H) : Prop := WS cd (.c (.ops l) :: k) (setD f d v) h R Q
def KQ (cd : Nat → Option AF) (h0 : H) (d : Nat) (l : List IT) (k : List KI) (f : Fr) (R : List RV) (Q : V → H → Prop) (v : V) (h : H) : Prop := (∃ t, h = h0 ++ t) ∧ KC cd d l k f R Q v h
def CA (cd : Nat → Option AF) (g : Nat) (o : Option (List (Bool × List C))) (h : H) (K : V → H → Prop) : Prop :=
  match o with
  | some vs => WC cd g vs h K
  | none => False
def CV (cd : Nat → Option AF) (c : Option C) (q : Bool) (d : Nat) (xs : List X) (l : List IT) (k : List KI) (f : Fr) (h : H) (R : List RV) (Q : V → H → Prop) : Prop :=
  match c with
  | some (.fn g) => WS cd (.c (.ops (.i (.call d g q xs) :: l)) :: k) f h R Q
  | _ => False
section
variable {cd : Nat → Option AF} {f : Fr} {h : H} {R : List RV} {Q : V → H → Prop} {k : List KI}
theorem cont_ret : ∀ (k : List KI), cont cd R Q k .ret f h = FN (resV f R) Q h
  | [] => rfl
  | .b _ :: k => cont_ret k
  | .c _ :: k => cont_ret k
  | .stop _ :: k => cont_ret k
theorem WS_nil : WS cd [] f h R Q = FN (resV f R) Q h := rfl
theorem WS_b (i : Nat) : WS cd (.b i :: k) f h R Q = WS cd k f h R Q := rfl
theorem WS_stop (P : Fr → H → Prop) : WS cd (.stop P :: k) f h R Q = P f h := rfl
theorem WS_skip : WS cd (.c .skip :: k) f h R Q = WS cd k f h R Q := by simp only [WS, cont, W_skip]
theorem WS_ret : WS cd (.c .ret :: k) f h R Q = FN (resV f R) Q h := by simp only [WS, cont, W_ret, cont_ret]
theorem WS_exit (id : Nat) : WS cd (.c (.exit id) :: k) f h R Q = EX cd id k f h R Q := by simp only [WS, EX, cont, W_exit]
theorem EX_b (id i : Nat) : EX cd id (.b i :: k) f h R Q = if id = i then WS cd k f h R Q else EX cd id k f h R Q := rfl
theorem EX_c (id : Nat) (a : AC) : EX cd id (.c a :: k) f h R Q = EX cd id k f h R Q := rfl
theorem EX_stop (id : Nat) (P : Fr → H → Prop) : EX cd id (.stop P :: k) f h R Q = EX cd id k f h R Q := rfl
theorem WS_seq (a b : AC) : WS cd (.c (.seq a b) :: k) f h R Q = WS cd (.c a :: .c b :: k) f h R Q := by
  simp only [WS, cont, W_seq]
  congr 1
  funext e f' h'
  cases e <;> rfl
theorem WS_block (id : Nat) (b : AC) : WS cd (.c (.block id b) :: k) f h R Q = WS cd (.c b :: .b id :: k) f h R Q := by
  simp only [WS, cont, W_block]
  congr 1
  funext e f' h'
  cases e with
  | norm => rfl
  | ret => simp only [blk, cont]
  | exit i => rfl
theorem WS_cond (x : X) (a b : AC) : WS cd (.c (.cond x a b) :: k) f h R Q = BR cd (ev1 f x) a b k f h R Q := by simp only [WS, BR, cont, W_cond]
theorem BR_true (a b : AC) : BR cd (some (.bool true)) a b k f h R Q = WS cd (.c a :: k) f h R Q := rfl
theorem BR_false (a b : AC) : BR cd (some (.bool false)) a b k f h R Q = WS cd (.c b :: k) f h R Q := rfl
theorem WS_ops_nil : WS cd (.c (.ops []) :: k) f h R Q = WS cd k f h R Q := by simp only [WS, cont, W_ops, WL_nil]
theorem WS_plain (a : AI) (ha : a.plain = true) (l : List IT) : WS cd (.c (.ops (.i a :: l)) :: k) f h R Q = ST cd (ai a f h) l k R Q := by
  simp only [WS, cont, W_ops, WL_plain a ha]
  cases ai a f h with
  | none => rfl
  | some p => simp only [onS, ST, WS, cont, W_ops]
theorem ST_some (f : Fr) (h : H) (l : List IT) : ST cd (some (f, h)) l k R Q = WS cd (.c (.ops l) :: k) f h R Q := rfl
theorem WS_g (s d : Nat) (w : Bool) (a : AI) (l : List IT) : WS cd (.c (.ops (.g s w d a :: l)) :: k) f h R Q = GB cd (gv f s w) w d a l k f h R Q := by
  simp only [WS, cont, W_ops, WL_g, GB]
  rcases gv f s w with _ | c
  · rfl
  · cases c <;> try rfl
    rename_i b
    cases b <;> cases w <;> simp [onB]
theorem GB_tt (d : Nat) (a : AI) (l : List IT) : GB cd (some (.bool true)) true d a l k f h R Q = WS cd (.c (.ops (.i a :: l)) :: k) f h R Q := rfl
theorem GB_ff (d : Nat) (a : AI) (l : List IT) : GB cd (some (.bool false)) false d a l k f h R Q = WS cd (.c (.ops (.i a :: l)) :: k) f h R Q := rfl
theorem GB_tf (d : Nat) (a : AI) (l : List IT) : GB cd (some (.bool true)) false d a l k f h R Q = WS cd (.c (.ops l) :: k) (setD f d (.tup [])) h R Q := rfl
theorem GB_ft (d : Nat) (a : AI) (l : List IT) : GB cd (some (.bool false)) true d a l k f h R Q = WS cd (.c (.ops l) :: k) (setD f d (.tup [])) h R Q := rfl
theorem WS_call (d g : Nat) (xs : List X) (l : List IT) : WS cd (.c (.ops (.i (.call d g false xs) :: l)) :: k) f h R Q = CA cd g (args f xs) h (KC cd d l k f R Q) := by
  simp only [WS, cont, W_ops, WL_call]
  cases args f xs with
  | none => rfl
  | some vs =>
    simp only [onA, CA]
    congr 1
    funext v h'
    simp only [KC, WS, cont, W_ops]
theorem WS_callq (d g : Nat) (xs : List X) (l : List IT) : WS cd (.c (.ops (.i (.call d g true xs) :: l)) :: k) f h R Q = CA cd g (args f xs) h (KQ cd h d l k f R Q) := by
  simp only [WS, cont, W_ops, WL_callq]
  cases args f xs with
  | none => rfl
  | some vs =>
    simp only [onA, CA]
    congr 1
    funext v h'
    simp only [KQ, KC, WS, cont, W_ops]
theorem CA_some (g : Nat) (vs : List (Bool × List C)) (K : V → H → Prop) : CA cd g (some vs) h K = WC cd g vs h K := rfl
theorem run1_clv_none {c : CallF} {d : Nat} {q : Bool} {x : X} {xs : List X} (hx : ∀ g, ev1 f x ≠ some (.fn g)) : run1 c (.clv d q x xs) f h = none := by
  simp only [run1]
  split
  · rename_i g vs h1 h2; exact absurd h1 (hx g)
  · rfl
theorem WS_clv (d : Nat) (q : Bool) (x : X) (xs : List X) (l : List IT) : WS cd (.c (.ops (.i (.clv d q x xs) :: l)) :: k) f h R Q = CV cd (ev1 f x) q d xs l k f h R Q := by
  by_cases hx : ∃ g, ev1 f x = some (.fn g)
  · obtain ⟨g, hg⟩ := hx
    simp only [hg, CV, WS, cont, W_ops]
    exact WL_clv d q x xs l _ g hg
  · have hx' : ∀ g, ev1 f x ≠ some (.fn g) := fun g e => hx ⟨g, e⟩
    have e1 : CV cd (ev1 f x) q d xs l k f h R Q = False := by
      unfold CV
      split
      · rename_i g hg; exact absurd hg (hx' g)
      · rfl
    rw [e1]
    simp only [WS, cont, W_ops, eq_iff_iff, iff_false]
    rintro ⟨n, f', h', hr, _⟩
    simp [runL, runI, run1_clv_none hx'] at hr
theorem CV_fn (g : Nat) (q : Bool) (d : Nat) (xs : List X) (l : List IT) : CV cd (some (.fn g)) q d xs l k f h R Q = WS cd (.c (.ops (.i (.call d g q xs) :: l)) :: k) f h R Q := rfl
theorem FN_some (v : V) : FN (some v) Q h = Q v h := rfl
theorem KC_eq (d : Nat) (l : List IT) (v : V) : KC cd d l k f R Q v h = WS cd (.c (.ops l) :: k) (setD f d v) h R Q := rfl
theorem BR_dec {p : Prop} {_ : Decidable p} {a b : AC} (ht : p → WS cd (.c a :: k) f h R Q) (hf : ¬ p → WS cd (.c b :: k) f h R Q) : BR cd (some (.bool (decide p))) a b k f h R Q := onB_dec ht hf
theorem WC_call {g : Nat} {vs : List (Bool × List C)} {P K : V → H → Prop} (hc : WC cd g vs h P) (hk : ∀ v h', P v h' → K v h') : WC cd g vs h K := hc.mono hk
theorem WS_loop {ds : List Nat} {b : AC} (I : Nat → Fr → H → Prop) (g0 : Nat) (h0 : I g0 f h)
    (round : ∀ g f h, I g f h → WS cd (.c b :: .stop (fun f' h' => ∃ g', g' < g ∧ I g' f' h') :: k) (forget f ds) h R Q) : WS cd (.c (.loop ds b) :: k) f h R Q := by
  simp only [WS, cont]
  refine W_loop I g0 h0 (fun g f h hI => ?_)
  have := round g f h hI
  simp only [WS, cont] at this
  refine this.mono (fun e f' h' he => ?_)
  cases e <;> exact he
theorem WS_enter {g : Nat} {a : AF} (hg : cd g = some a) {vs : List (Bool × List C)} (hl : vs.length = a.np)
    (hw : WS cd [.c a.body] (enter0 (PT.full a.dep) 0 vs) h a.res Q) : WC cd g vs h Q := by
  refine WC_enter hg hl ?_
  simp only [WS, cont] at hw
  refine hw.mono (fun e f' h' he => ?_)
  cases e with
  | exit i => exact he
  | norm => exact he
  | ret => exact he
end
theorem RR : (∀ (f : Fr) (s : Nat) (w : Bool), gv f s w = (match f.get s with | .tup [] => some (.bool (!w)) | _ => ev1 f (.s s))) ∧
    (∀ (cd : Nat → Option AF) (f : Fr) (h : H) (R : List RV) (Q : V → H → Prop), WS cd [] f h R Q = FN (resV f R) Q h) ∧
    (∀ (cd : Nat → Option AF) (k : List KI) (f : Fr) (h : H) (R : List RV) (Q : V → H → Prop) (i : Nat), WS cd (.b i :: k) f h R Q = WS cd k f h R Q) ∧
    (∀ (cd : Nat → Option AF) (k : List KI) (f : Fr) (h : H) (R : List RV) (Q : V → H → Prop) (P : Fr → H → Prop), WS cd (.stop P :: k) f h R Q = P f h) ∧
    (∀ (cd : Nat → Option AF) (k : List KI) (f : Fr) (h : H) (R : List RV) (Q : V → H → Prop), WS cd (.c .skip :: k) f h R Q = WS cd k f h R Q) ∧
    (∀ (cd : Nat → Option AF) (k : List KI) (f : Fr) (h : H) (R : List RV) (Q : V → H → Prop), WS cd (.c .ret :: k) f h R Q = FN (resV f R) Q h) ∧
    (∀ (cd : Nat → Option AF) (k : List KI) (f : Fr) (h : H) (R : List RV) (Q : V → H → Prop) (id : Nat), WS cd (.c (.exit id) :: k) f h R Q = EX cd id k f h R Q) ∧
    (∀ (cd : Nat → Option AF) (k : List KI) (f : Fr) (h : H) (R : List RV) (Q : V → H → Prop) (id : Nat) (i : Nat), EX cd id (.b i :: k) f h R Q = if id = i then WS cd k f h R Q else EX cd id k f h R Q) ∧
    (∀ (cd : Nat → Option AF) (k : List KI) (f : Fr) (h : H) (R : List RV) (Q : V → H → Prop) (id : Nat) (a : AC), EX cd id (.c a :: k) f h R Q = EX cd id k f h R Q) ∧
    (∀ (cd : Nat → Option AF) (k : List KI) (f : Fr) (h : H) (R : List RV) (Q : V → H → Prop) (id : Nat) (P : Fr → H → Prop), EX cd id (.stop P :: k) f h R Q = EX cd id k f h R Q) ∧
    (∀ (cd : Nat → Option AF) (k : List KI) (f : Fr) (h : H) (R : List RV) (Q : V → H → Prop) (a : AC) (b : AC), WS cd (.c (.seq a b) :: k) f h R Q = WS cd (.c a :: .c b :: k) f h R Q) ∧
    (∀ (cd : Nat → Option AF) (k : List KI) (f : Fr) (h : H) (R : List RV) (Q : V → H → Prop) (id : Nat) (b : AC), WS cd (.c (.block id b) :: k) f h R Q = WS cd (.c b :: .b id :: k) f h R Q) ∧
    (∀ (cd : Nat → Option AF) (k : List KI) (f : Fr) (h : H) (R : List RV) (Q : V → H → Prop) (x : X) (a : AC) (b : AC), WS cd (.c (.cond x a b) :: k) f h R Q = BR cd (ev1 f x) a b k f h R Q) ∧
    (∀ (cd : Nat → Option AF) (k : List KI) (f : Fr) (h : H) (R : List RV) (Q : V → H → Prop) (a : AC) (b : AC), BR cd (some (.bool true)) a b k f h R Q = WS cd (.c a :: k) f h R Q) ∧
    (∀ (cd : Nat → Option AF) (k : List KI) (f : Fr) (h : H) (R : List RV) (Q : V → H → Prop) (a : AC) (b : AC), BR cd (some (.bool false)) a b k f h R Q = WS cd (.c b :: k) f h R Q) ∧
    (∀ (cd : Nat → Option AF) (k : List KI) (f : Fr) (h : H) (R : List RV) (Q : V → H → Prop), WS cd (.c (.ops []) :: k) f h R Q = WS cd k f h R Q) ∧
    (∀ (cd : Nat → Option AF) (k : List KI) (f : Fr) (h : H) (R : List RV) (Q : V → H → Prop) (l : List IT), ST cd (some (f, h)) l k R Q = WS cd (.c (.ops l) :: k) f h R Q) ∧
    (∀ (cd : Nat → Option AF) (k : List KI) (f : Fr) (h : H) (R : List RV) (Q : V → H → Prop) (s : Nat) (d : Nat) (w : Bool) (a : AI) (l : List IT), WS cd (.c (.ops (.g s w d a :: l)) :: k) f h R Q = GB cd (gv f s w) w d a l k f h R Q) ∧
    (∀ (cd : Nat → Option AF) (k : List KI) (f : Fr) (h : H) (R : List RV) (Q : V → H → Prop) (d : Nat) (a : AI) (l : List IT), GB cd (some (.bool true)) true d a l k f h R Q = WS cd (.c (.ops (.i a :: l)) :: k) f h R Q) ∧
    (∀ (cd : Nat → Option AF) (k : List KI) (f : Fr) (h : H) (R : List RV) (Q : V → H → Prop) (d : Nat) (a : AI) (l : List IT), GB cd (some (.bool false)) false d a l k f h R Q = WS cd (.c (.ops (.i a :: l)) :: k) f h R Q) ∧
    (∀ (cd : Nat → Option AF) (k : List KI) (f : Fr) (h : H) (R : List RV) (Q : V → H → Prop) (d : Nat) (a : AI) (l : List IT), GB cd (some (.bool true)) false d a l k f h R Q = WS cd (.c (.ops l) :: k) (setD f d (.tup [])) h R Q) ∧
    (∀ (cd : Nat → Option AF) (k : List KI) (f : Fr) (h : H) (R : List RV) (Q : V → H → Prop) (d : Nat) (a : AI) (l : List IT), GB cd (some (.bool false)) true d a l k f h R Q = WS cd (.c (.ops l) :: k) (setD f d (.tup [])) h R Q) ∧
    (∀ (cd : Nat → Option AF) (k : List KI) (f : Fr) (h : H) (R : List RV) (Q : V → H → Prop) (d : Nat) (g : Nat) (xs : List X) (l : List IT), WS cd (.c (.ops (.i (.call d g false xs) :: l)) :: k) f h R Q = CA cd g (args f xs) h (KC cd d l k f R Q)) ∧
    (∀ (cd : Nat → Option AF) (k : List KI) (f : Fr) (h : H) (R : List RV) (Q : V → H → Prop) (d : Nat) (g : Nat) (xs : List X) (l : List IT), WS cd (.c (.ops (.i (.call d g true xs) :: l)) :: k) f h R Q = CA cd g (args f xs) h (KQ cd h d l k f R Q)) ∧
    (∀ (cd : Nat → Option AF) (h : H) (g : Nat) (vs : List (Bool × List C)) (K : V → H → Prop), CA cd g (some vs) h K = WC cd g vs h K) ∧
    (∀ (cd : Nat → Option AF) (k : List KI) (f : Fr) (h : H) (R : List RV) (Q : V → H → Prop) (d : Nat) (q : Bool) (x : X) (xs : List X) (l : List IT), WS cd (.c (.ops (.i (.clv d q x xs) :: l)) :: k) f h R Q = CV cd (ev1 f x) q d xs l k f h R Q) ∧
    (∀ (cd : Nat → Option AF) (k : List KI) (f : Fr) (h : H) (R : List RV) (Q : V → H → Prop) (g : Nat) (q : Bool) (d : Nat) (xs : List X) (l : List IT), CV cd (some (.fn g)) q d xs l k f h R Q = WS cd (.c (.ops (.i (.call d g q xs) :: l)) :: k) f h R Q) ∧
    (∀ (Q : V → H → Prop) (h : H) (v : V), FN (some v) Q h = Q v h) ∧
    (∀ (cd : Nat → Option AF) (k : List KI) (f : Fr) (h : H) (R : List RV) (Q : V → H → Prop) (d : Nat) (l : List IT) (v : V), KC cd d l k f R Q v h = WS cd (.c (.ops l) :: k) (setD f d v) h R Q) :=
  ⟨fun _ _ _ => rfl, fun _ _ _ _ _ => WS_nil, fun _ _ _ _ _ _ i => WS_b i, fun _ _ _ _ _ _ P => WS_stop P, fun _ _ _ _ _ _ => WS_skip, fun _ _ _ _ _ _ => WS_ret, fun _ _ _ _ _ _ id => WS_exit id, fun _ _ _ _ _ _ id i => EX_b id i, fun _ _ _ _ _ _ id a => EX_c id a, fun _ _ _ _ _ _ id P => EX_stop id P, fun _ _ _ _ _ _ a b => WS_seq a b, fun _ _ _ _ _ _ id b => WS_block id b, fun _ _ _ _ _ _ x a b => WS_cond x a b, fun _ _ _ _ _ _ a b => BR_true a b, fun _ _ _ _ _ _ a b => BR_false a b, fun _ _ _ _ _ _ => WS_ops_nil, fun _ _ f h _ _ l => ST_some f h l, fun _ _ _ _ _ _ s d w a l => WS_g s d w a l, fun _ _ _ _ _ _ d a l => GB_tt d a l, fun _ _ _ _ _ _ d a l => GB_ff d a l, fun _ _ _ _ _ _ d a l => GB_tf d a l, fun _ _ _ _ _ _ d a l => GB_ft d a l, fun _ _ _ _ _ _ d g xs l => WS_call d g xs l, fun _ _ _ _ _ _ d g xs l => WS_callq d g xs l, fun _ _ g vs K => CA_some g vs K, fun _ _ _ _ _ _ d q x xs l => WS_clv d q x xs l, fun _ _ _ _ _ _ g q d xs l => CV_fn g q d xs l, fun _ _ v => FN_some v, fun _ _ _ _ _ _ d l v => KC_eq d l v⟩
theorem RP : (∀ (cd : Nat → Option AF) (k : List KI) (f : Fr) (h : H) (R : List RV) (Q : V → H → Prop) (l : List IT) d_ e_ n_ z_ ps_, WS cd (.c (.ops (.i (.lsl d_ e_ n_ z_ ps_) :: l)) :: k) f h R Q = ST cd (ai (.lsl d_ e_ n_ z_ ps_) f h) l k R Q) ∧
    (∀ (cd : Nat → Option AF) (k : List KI) (f : Fr) (h : H) (R : List RV) (Q : V → H → Prop) (l : List IT) d_, WS cd (.c (.ops (.i (.bse d_) :: l)) :: k) f h R Q = ST cd (ai (.bse d_) f h) l k R Q) ∧
    (∀ (cd : Nat → Option AF) (k : List KI) (f : Fr) (h : H) (R : List RV) (Q : V → H → Prop) (l : List IT) d_ x_, WS cd (.c (.ops (.i (.mov d_ x_) :: l)) :: k) f h R Q = ST cd (ai (.mov d_ x_) f h) l k R Q) ∧
    (∀ (cd : Nat → Option AF) (k : List KI) (f : Fr) (h : H) (R : List RV) (Q : V → H → Prop) (l : List IT) d_ c_ a_ b_, WS cd (.c (.ops (.i (.pick d_ c_ a_ b_) :: l)) :: k) f h R Q = ST cd (ai (.pick d_ c_ a_ b_) f h) l k R Q) ∧
    (∀ (cd : Nat → Option AF) (k : List KI) (f : Fr) (h : H) (R : List RV) (Q : V → H → Prop) (l : List IT) d_ x_, WS cd (.c (.ops (.i (.lbox d_ x_) :: l)) :: k) f h R Q = ST cd (ai (.lbox d_ x_) f h) l k R Q) ∧
    (∀ (cd : Nat → Option AF) (k : List KI) (f : Fr) (h : H) (R : List RV) (Q : V → H → Prop) (l : List IT) d_ cs_, WS cd (.c (.ops (.i (.lal d_ cs_) :: l)) :: k) f h R Q = ST cd (ai (.lal d_ cs_) f h) l k R Q) ∧
    (∀ (cd : Nat → Option AF) (k : List KI) (f : Fr) (h : H) (R : List RV) (Q : V → H → Prop) (l : List IT) d_ ty_ x_, WS cd (.c (.ops (.i (.hbox d_ ty_ x_) :: l)) :: k) f h R Q = ST cd (ai (.hbox d_ ty_ x_) f h) l k R Q) ∧
    (∀ (cd : Nat → Option AF) (k : List KI) (f : Fr) (h : H) (R : List RV) (Q : V → H → Prop) (l : List IT) d_ ty_ cs_, WS cd (.c (.ops (.i (.hal d_ ty_ cs_) :: l)) :: k) f h R Q = ST cd (ai (.hal d_ ty_ cs_) f h) l k R Q) ∧
    (∀ (cd : Nat → Option AF) (k : List KI) (f : Fr) (h : H) (R : List RV) (Q : V → H → Prop) (l : List IT) d_ z_ ps_, WS cd (.c (.ops (.i (.bld d_ z_ ps_) :: l)) :: k) f h R Q = ST cd (ai (.bld d_ z_ ps_) f h) l k R Q) ∧
    (∀ (cd : Nat → Option AF) (k : List KI) (f : Fr) (h : H) (R : List RV) (Q : V → H → Prop) (l : List IT) d_ ty_ e_ n_ z_ ps_, WS cd (.c (.ops (.i (.bsl d_ ty_ e_ n_ z_ ps_) :: l)) :: k) f h R Q = ST cd (ai (.bsl d_ ty_ e_ n_ z_ ps_) f h) l k R Q) ∧
    (∀ (cd : Nat → Option AF) (k : List KI) (f : Fr) (h : H) (R : List RV) (Q : V → H → Prop) (l : List IT) d_ x_ o_, WS cd (.c (.ops (.i (.fad d_ x_ o_) :: l)) :: k) f h R Q = ST cd (ai (.fad d_ x_ o_) f h) l k R Q) ∧
    (∀ (cd : Nat → Option AF) (k : List KI) (f : Fr) (h : H) (R : List RV) (Q : V → H → Prop) (l : List IT) d_ x_ i_ e_, WS cd (.c (.ops (.i (.iad d_ x_ i_ e_) :: l)) :: k) f h R Q = ST cd (ai (.iad d_ x_ i_ e_) f h) l k R Q) ∧
    (∀ (cd : Nat → Option AF) (k : List KI) (f : Fr) (h : H) (R : List RV) (Q : V → H → Prop) (l : List IT) d_ x_ i_ e_ n_, WS cd (.c (.ops (.i (.iaa d_ x_ i_ e_ n_) :: l)) :: k) f h R Q = ST cd (ai (.iaa d_ x_ i_ e_ n_) f h) l k R Q) ∧
    (∀ (cd : Nat → Option AF) (k : List KI) (f : Fr) (h : H) (R : List RV) (Q : V → H → Prop) (l : List IT) d_ r_ x_ n_ g_, WS cd (.c (.ops (.i (.ldl d_ r_ x_ n_ g_) :: l)) :: k) f h R Q = ST cd (ai (.ldl d_ r_ x_ n_ g_) f h) l k R Q) ∧
    (∀ (cd : Nat → Option AF) (k : List KI) (f : Fr) (h : H) (R : List RV) (Q : V → H → Prop) (l : List IT) d_ x_ n_ g_, WS cd (.c (.ops (.i (.ldh d_ x_ n_ g_) :: l)) :: k) f h R Q = ST cd (ai (.ldh d_ x_ n_ g_) f h) l k R Q) ∧
    (∀ (cd : Nat → Option AF) (k : List KI) (f : Fr) (h : H) (R : List RV) (Q : V → H → Prop) (l : List IT) r_ x_ v_ n_, WS cd (.c (.ops (.i (.stl r_ x_ v_ n_) :: l)) :: k) f h R Q = ST cd (ai (.stl r_ x_ v_ n_) f h) l k R Q) ∧
    (∀ (cd : Nat → Option AF) (k : List KI) (f : Fr) (h : H) (R : List RV) (Q : V → H → Prop) (l : List IT) x_ v_ n_, WS cd (.c (.ops (.i (.sth x_ v_ n_) :: l)) :: k) f h R Q = ST cd (ai (.sth x_ v_ n_) f h) l k R Q) ∧
    (∀ (cd : Nat → Option AF) (k : List KI) (f : Fr) (h : H) (R : List RV) (Q : V → H → Prop) (l : List IT) d_ op_ x_ y_, WS cd (.c (.ops (.i (.bin d_ op_ x_ y_) :: l)) :: k) f h R Q = ST cd (ai (.bin d_ op_ x_ y_) f h) l k R Q) ∧
    (∀ (cd : Nat → Option AF) (k : List KI) (f : Fr) (h : H) (R : List RV) (Q : V → H → Prop) (l : List IT) d_ n_ x_ y_, WS cd (.c (.ops (.i (.beq d_ n_ x_ y_) :: l)) :: k) f h R Q = ST cd (ai (.beq d_ n_ x_ y_) f h) l k R Q) ∧
    (∀ (cd : Nat → Option AF) (k : List KI) (f : Fr) (h : H) (R : List RV) (Q : V → H → Prop) (l : List IT) d_ n_ x_, WS cd (.c (.ops (.i (.snil d_ n_ x_) :: l)) :: k) f h R Q = ST cd (ai (.snil d_ n_ x_) f h) l k R Q) ∧
    (∀ (cd : Nat → Option AF) (k : List KI) (f : Fr) (h : H) (R : List RV) (Q : V → H → Prop) (l : List IT) d_ m_ n_ x_ y_, WS cd (.c (.ops (.i (.geq d_ m_ n_ x_ y_) :: l)) :: k) f h R Q = ST cd (ai (.geq d_ m_ n_ x_ y_) f h) l k R Q) ∧
    (∀ (cd : Nat → Option AF) (k : List KI) (f : Fr) (h : H) (R : List RV) (Q : V → H → Prop) (l : List IT) d_ x_, WS cd (.c (.ops (.i (.neg d_ x_) :: l)) :: k) f h R Q = ST cd (ai (.neg d_ x_) f h) l k R Q) ∧
    (∀ (cd : Nat → Option AF) (k : List KI) (f : Fr) (h : H) (R : List RV) (Q : V → H → Prop) (l : List IT) d_ x_, WS cd (.c (.ops (.i (.not d_ x_) :: l)) :: k) f h R Q = ST cd (ai (.not d_ x_) f h) l k R Q) ∧
    (∀ (cd : Nat → Option AF) (k : List KI) (f : Fr) (h : H) (R : List RV) (Q : V → H → Prop) (l : List IT) d_ k_ x_, WS cd (.c (.ops (.i (.cvi d_ k_ x_) :: l)) :: k) f h R Q = ST cd (ai (.cvi d_ k_ x_) f h) l k R Q) ∧
    (∀ (cd : Nat → Option AF) (k : List KI) (f : Fr) (h : H) (R : List RV) (Q : V → H → Prop) (l : List IT) d_ x_, WS cd (.c (.ops (.i (.cbs d_ x_) :: l)) :: k) f h R Q = ST cd (ai (.cbs d_ x_) f h) l k R Q) ∧
    (∀ (cd : Nat → Option AF) (k : List KI) (f : Fr) (h : H) (R : List RV) (Q : V → H → Prop) (l : List IT) d_ ty_ e_ b_ z_ x_, WS cd (.c (.ops (.i (.mks d_ ty_ e_ b_ z_ x_) :: l)) :: k) f h R Q = ST cd (ai (.mks d_ ty_ e_ b_ z_ x_) f h) l k R Q) ∧
    (∀ (cd : Nat → Option AF) (k : List KI) (f : Fr) (h : H) (R : List RV) (Q : V → H → Prop) (l : List IT) d_ e_ x_ lo_ hi_, WS cd (.c (.ops (.i (.slc d_ e_ x_ lo_ hi_) :: l)) :: k) f h R Q = ST cd (ai (.slc d_ e_ x_ lo_ hi_) f h) l k R Q) ∧
    (∀ (cd : Nat → Option AF) (k : List KI) (f : Fr) (h : H) (R : List RV) (Q : V → H → Prop) (l : List IT) d_ x_ lo_ hi_, WS cd (.c (.ops (.i (.sls d_ x_ lo_ hi_) :: l)) :: k) f h R Q = ST cd (ai (.sls d_ x_ lo_ hi_) f h) l k R Q) ∧
    (∀ (cd : Nat → Option AF) (k : List KI) (f : Fr) (h : H) (R : List RV) (Q : V → H → Prop) (l : List IT) d_ x_ n_ e_, WS cd (.c (.ops (.i (.sla d_ x_ n_ e_) :: l)) :: k) f h R Q = ST cd (ai (.sla d_ x_ n_ e_) f h) l k R Q) ∧
    (∀ (cd : Nat → Option AF) (k : List KI) (f : Fr) (h : H) (R : List RV) (Q : V → H → Prop) (l : List IT) d_ x_ o_ n_ g_, WS cd (.c (.ops (.i (.fld d_ x_ o_ n_ g_) :: l)) :: k) f h R Q = ST cd (ai (.fld d_ x_ o_ n_ g_) f h) l k R Q) ∧
    (∀ (cd : Nat → Option AF) (k : List KI) (f : Fr) (h : H) (R : List RV) (Q : V → H → Prop) (l : List IT) d_ x_ i_ e_ n_ g_, WS cd (.c (.ops (.i (.idx d_ x_ i_ e_ n_ g_) :: l)) :: k) f h R Q = ST cd (ai (.idx d_ x_ i_ e_ n_ g_) f h) l k R Q) ∧
    (∀ (cd : Nat → Option AF) (k : List KI) (f : Fr) (h : H) (R : List RV) (Q : V → H → Prop) (l : List IT) d_ x_ i_, WS cd (.c (.ops (.i (.ids d_ x_ i_) :: l)) :: k) f h R Q = ST cd (ai (.ids d_ x_ i_) f h) l k R Q) ∧
    (∀ (cd : Nat → Option AF) (k : List KI) (f : Fr) (h : H) (R : List RV) (Q : V → H → Prop) (l : List IT) d_ x_ i_, WS cd (.c (.ops (.i (.ext d_ x_ i_) :: l)) :: k) f h R Q = ST cd (ai (.ext d_ x_ i_) f h) l k R Q) ∧
    (∀ (cd : Nat → Option AF) (k : List KI) (f : Fr) (h : H) (R : List RV) (Q : V → H → Prop) (l : List IT) d_ x_, WS cd (.c (.ops (.i (.nch d_ x_) :: l)) :: k) f h R Q = ST cd (ai (.nch d_ x_) f h) l k R Q) ∧
    (∀ (cd : Nat → Option AF) (k : List KI) (f : Fr) (h : H) (R : List RV) (Q : V → H → Prop) (l : List IT) d_ s_ x_, WS cd (.c (.ops (.i (.len d_ s_ x_) :: l)) :: k) f h R Q = ST cd (ai (.len d_ s_ x_) f h) l k R Q) ∧
    (∀ (cd : Nat → Option AF) (k : List KI) (f : Fr) (h : H) (R : List RV) (Q : V → H → Prop) (l : List IT) d_ ty_ e_ b_ x_ y_, WS cd (.c (.ops (.i (.app d_ ty_ e_ b_ x_ y_) :: l)) :: k) f h R Q = ST cd (ai (.app d_ ty_ e_ b_ x_ y_) f h) l k R Q) ∧
    (∀ (cd : Nat → Option AF) (k : List KI) (f : Fr) (h : H) (R : List RV) (Q : V → H → Prop) (l : List IT) d_ e_ x_ y_, WS cd (.c (.ops (.i (.cpy d_ e_ x_ y_) :: l)) :: k) f h R Q = ST cd (ai (.cpy d_ e_ x_ y_) f h) l k R Q) ∧
    (∀ (cd : Nat → Option AF) (k : List KI) (f : Fr) (h : H) (R : List RV) (Q : V → H → Prop) (l : List IT) d_ m_ x_ y_, WS cd (.c (.ops (.i (.mm d_ m_ x_ y_) :: l)) :: k) f h R Q = ST cd (ai (.mm d_ m_ x_ y_) f h) l k R Q) :=
  by (repeat' apply And.intro) <;> intros <;> exact WS_plain _ rfl _
end Go.Eng
namespace Go.Eng

def All2 {α β : Type} (R : α → β → Prop) : List α → List β → Prop
  | [], [] => True
  | x :: xs, y :: ys => R x y ∧ All2 R xs ys
  | _, _ => False
section
variable {α β : Type} {R R' : α → β → Prop}
theorem All2.length : ∀ {xs : List α} {ys : List β}, All2 R xs ys → xs.length = ys.length
  | [], [], _ => rfl
  | x :: xs, y :: ys, h => by simp [All2.length h.2]
  | [], _ :: _, h => h.elim
  | _ :: _, [], h => h.elim
theorem All2.imp (hr : ∀ x y, R x y → R' x y) : ∀ {xs : List α} {ys : List β}, All2 R xs ys → All2 R' xs ys
  | [], [], _ => trivial
  | _ :: _, _ :: _, h => ⟨hr _ _ h.1, All2.imp hr h.2⟩
  | [], _ :: _, h => h.elim
  | _ :: _, [], h => h.elim
theorem All2.get : ∀ {xs : List α} {ys : List β}, All2 R xs ys → ∀ {i : Nat} {x : α}, xs[i]? = some x → ∃ y, ys[i]? = some y ∧ R x y
  | [], [], _, i, x, h => by simp at h
  | a :: xs, b :: ys, h, 0, x, hx => by simp at hx; subst hx; exact ⟨b, by simp, h.1⟩
  | a :: xs, b :: ys, h, i + 1, x, hx => by
    obtain ⟨y, hy, r⟩ := All2.get h.2 (i := i) (by simpa using hx)
    exact ⟨y, by simpa using hy, r⟩
  | [], _ :: _, h, _, _, _ => h.elim
  | _ :: _, [], h, _, _, _ => h.elim
theorem All2.get' : ∀ {xs : List α} {ys : List β}, All2 R xs ys → ∀ {i : Nat} {y : β}, ys[i]? = some y → ∃ x, xs[i]? = some x ∧ R x y
  | [], [], _, i, x, h => by simp at h
  | a :: xs, b :: ys, h, 0, x, hx => by simp at hx; subst hx; exact ⟨a, by simp, h.1⟩
  | a :: xs, b :: ys, h, i + 1, x, hx => by
    obtain ⟨y, hy, r⟩ := All2.get' h.2 (i := i) (by simpa using hx)
    exact ⟨y, by simpa using hy, r⟩
  | [], _ :: _, h, _, _, _ => h.elim
  | _ :: _, [], h, _, _, _ => h.elim
theorem All2.of_get : ∀ {xs : List α} {ys : List β}, xs.length = ys.length → (∀ (i : Nat) (x : α) (y : β), xs[i]? = some x → ys[i]? = some y → R x y) → All2 R xs ys
  | [], [], _, _ => trivial
  | x :: xs, y :: ys, hl, h => ⟨h 0 x y rfl rfl, All2.of_get (by simpa using hl) (fun i a b ha hb => h (i + 1) a b (by simpa using ha) (by simpa using hb))⟩
  | [], _ :: _, hl, _ => by simp at hl
  | _ :: _, [], hl, _ => by simp at hl
theorem All2.append : ∀ {xs : List α} {ys : List β} {xs' : List α} {ys' : List β}, All2 R xs ys → All2 R xs' ys' → All2 R (xs ++ xs') (ys ++ ys')
  | [], [], _, _, _, h' => h'
  | _ :: _, _ :: _, _, _, h, h' => ⟨h.1, All2.append h.2 h'⟩
  | [], _ :: _, _, _, h, _ => h.elim
  | _ :: _, [], _, _, h, _ => h.elim
theorem All2.take : ∀ {xs : List α} {ys : List β} (n : Nat), All2 R xs ys → All2 R (xs.take n) (ys.take n)
  | [], [], n, _ => by simp [All2]
  | _ :: _, _ :: _, 0, _ => by simp [All2]
  | _ :: _, _ :: _, n + 1, h => by simp only [List.take_succ_cons]; exact ⟨h.1, All2.take n h.2⟩
  | [], _ :: _, _, h => h.elim
  | _ :: _, [], _, h => h.elim
theorem All2.drop : ∀ {xs : List α} {ys : List β} (n : Nat), All2 R xs ys → All2 R (xs.drop n) (ys.drop n)
  | [], [], n, _ => by simp [All2]
  | _ :: _, _ :: _, 0, h => by simpa using h
  | _ :: _, _ :: _, n + 1, h => by simp only [List.drop_succ_cons]; exact All2.drop n h.2
  | [], _ :: _, _, h => h.elim
  | _ :: _, [], _, h => h.elim
theorem All2.set : ∀ {xs : List α} {ys : List β} (i : Nat) {x : α} {y : β}, All2 R xs ys → R x y → All2 R (xs.set i x) (ys.set i y)
  | [], [], _, _, _, _, _ => by simp [All2]
  | _ :: _, _ :: _, 0, _, _, h, hr => by simp only [List.set_cons_zero]; exact ⟨hr, h.2⟩
  | _ :: _, _ :: _, i + 1, _, _, h, hr => by simp only [List.set_cons_succ]; exact ⟨h.1, All2.set i h.2 hr⟩
  | [], _ :: _, _, _, _, h, _ => h.elim
  | _ :: _, [], _, _, _, h, _ => h.elim
theorem All2.setL : ∀ {vs : List α} {us : List β} {xs : List α} {ys : List β} (o : Nat), All2 R xs ys → All2 R vs us → All2 R (setL xs o vs) (setL ys o us)
  | [], [], _, _, _, h, _ => h
  | _ :: _, _ :: _, _, _, o, h, hv => All2.setL (o + 1) (All2.set o h hv.1) hv.2
  | [], _ :: _, _, _, _, _, hv => hv.elim
  | _ :: _, [], _, _, _, _, hv => hv.elim
theorem All2.replicate {x : α} {y : β} (h : R x y) : ∀ n, All2 R (List.replicate n x) (List.replicate n y)
  | 0 => trivial
  | n + 1 => ⟨h, All2.replicate h n⟩
theorem All2.flatten {xs : List α} {ys : List β} (h : All2 R xs ys) : ∀ n, All2 R (List.replicate n xs).flatten (List.replicate n ys).flatten
  | 0 => trivial
  | n + 1 => by simp only [List.replicate_succ, List.flatten_cons]; exact All2.append h (All2.flatten h n)
end
theorem setL_length {α : Type} : ∀ (vs cs : List α) (o : Nat), (setL cs o vs).length = cs.length
  | [], _, _ => rfl
  | v :: vs, cs, o => by simp [setL, setL_length vs]
theorem setL_eq {α : Type} : ∀ (vs cs : List α) (o : Nat), o + vs.length ≤ cs.length → setL cs o vs = cs.take o ++ vs ++ cs.drop (o + vs.length)
  | [], cs, o, _ => by simp [setL]
  | v :: vs, cs, o, h => by
    simp only [List.length_cons] at h
    rw [setL, setL_eq vs _ _ (by simp; omega)]
    have e1 : (cs.set o v).take (o + 1) = cs.take o ++ [v] := by
      rw [List.take_succ_eq_append_getElem (by simp; omega)]
      simp [List.take_set_of_le (Nat.le_refl o)]
    have e2 : (cs.set o v).drop (o + 1 + vs.length) = cs.drop (o + (vs.length + 1)) := by
      rw [List.drop_set_of_lt (by omega)]
      congr 1
      omega
    rw [e1, e2]
    simp

theorem PT.get_leaf (k : K) : PT.leaf.get k = .any := by cases k <;> rfl
theorem PT.get_set : ∀ (k k' : K) (f : PT) (v : V), (f.set k v).get k' = if k' = k then v else f.get k'
  | .z, .z, .leaf, v => rfl
  | .z, .o k', .leaf, v => by simp [PT.set, PT.get, PT.get_leaf]
  | .z, .i k', .leaf, v => by simp [PT.set, PT.get, PT.get_leaf]
  | .z, .z, .node _ _ _, v => rfl
  | .z, .o k', .node _ _ _, v => by simp [PT.set, PT.get]
  | .z, .i k', .node _ _ _, v => by simp [PT.set, PT.get]
  | .o k, .z, .leaf, v => by simp [PT.set, PT.get]
  | .o k, .o k', .leaf, v => by
    have := PT.get_set k k' .leaf v
    simp only [PT.get_leaf] at this
    simp [PT.set, PT.get, this]
  | .o k, .i k', .leaf, v => by simp [PT.set, PT.get, PT.get_leaf]
  | .o k, .z, .node _ _ _, v => by simp [PT.set, PT.get]
  | .o k, .o k', .node l _ _, v => by simp [PT.set, PT.get, PT.get_set k k' l v]
  | .o k, .i k', .node _ _ _, v => by simp [PT.set, PT.get]
  | .i k, .z, .leaf, v => by simp [PT.set, PT.get]
  | .i k, .i k', .leaf, v => by
    have := PT.get_set k k' .leaf v
    simp only [PT.get_leaf] at this
    simp [PT.set, PT.get, this]
  | .i k, .o k', .leaf, v => by simp [PT.set, PT.get, PT.get_leaf]
  | .i k, .z, .node _ _ _, v => by simp [PT.set, PT.get]
  | .i k, .i k', .node _ _ r, v => by simp [PT.set, PT.get, PT.get_set k k' r v]
  | .i k, .o k', .node _ _ _, v => by simp [PT.set, PT.get]
def K.idx : K → Nat
  | .z => 0
  | .o k => 2 * k.idx + 1
  | .i k => 2 * k.idx + 2
theorem K.idx_ofAux : ∀ (d n : Nat), n ≤ d → (K.ofAux d n).idx = n
  | 0, n, h => by simp [K.ofAux, K.idx]; omega
  | d + 1, n, h => by
    unfold K.ofAux
    split
    · simp [K.idx]; omega
    · split
      · simp only [K.idx]; rw [K.idx_ofAux d (n / 2) (by omega)]; omega
      · simp only [K.idx]; rw [K.idx_ofAux d (n / 2 - 1) (by omega)]; omega
theorem K.of_inj {a b : Nat} (h : K.of a = K.of b) : a = b := by
  have := congrArg K.idx h
  rwa [K.of, K.of, K.idx_ofAux _ _ (Nat.le_refl _), K.idx_ofAux _ _ (Nat.le_refl _)] at this
theorem Fr.get_set (f : Fr) (s t : Nat) (v : V) : Fr.get (Fr.set f s v) t = if t = s then v else Fr.get f t := by
  unfold Fr.get Fr.set
  rw [PT.get_set]
  by_cases h : t = s
  · simp [h]
  · rw [if_neg h, if_neg (fun e => h (K.of_inj e))]
theorem Fr.get_set_same (f : Fr) (s : Nat) (v : V) : Fr.get (Fr.set f s v) s = v := by rw [Fr.get_set, if_pos rfl]
theorem Fr.get_set_ne (f : Fr) {s t : Nat} (v : V) (h : t ≠ s) : Fr.get (Fr.set f s v) t = Fr.get f t := by rw [Fr.get_set, if_neg h]
theorem PT.get_full : ∀ (d : Nat) (k : K), (PT.full d).get k = .any
  | 0, k => PT.get_leaf k
  | d + 1, .z => rfl
  | d + 1, .o k => PT.get_full d k
  | d + 1, .i k => PT.get_full d k
theorem Fr.get_full (d s : Nat) : Fr.get (PT.full d) s = .any := PT.get_full d _

structure Pl where
  blk : Nat
  off : Nat
  lim : Nat
abbrev Mu := Nat → Option Pl
def CR (μ : Mu) : C → Value → Prop
  | .int k n, v => v = .int k n
  | .bool b, v => v = .bool b
  | .str s, v => v = .string s
  | .ptr id o, v => ∃ p, μ id = some p ∧ v = .pointer (some ⟨p.blk, p.off + o, none⟩)
  | .nilp, v => v = .pointer none
  | .sl id o len e, v => ∃ p a cap, μ id = some p ∧ v = .slice (some a) len cap ∧ len ≤ cap ∧ (cap = 0 ∨ a = ⟨p.blk, p.off + o, none⟩) ∧ o + cap * e ≤ p.lim
  | .nils, v => v = .slice none 0 0
  | .emp, v => ∃ a, v = .slice (some a) 0 0
  | .fn f, v => v = .func (.func f) #[] #[]
  | .nilf, v => v = .nilFunc
  | .nili, v => v = .nilIface
def VG (μ : Mu) (g : Bool) (cs : List C) (v : Value) : Prop :=
  match g with
  | true => ∃ arr, v = .agg arr ∧ All2 (CR μ) cs arr.toList
  | false => ∃ c, cs = [c] ∧ CR μ c v
def TG (μ : Mu) (vs : List (Bool × List C)) (v : Value) : Prop := ∃ arr, v = .tuple arr ∧ All2 (fun p u => VG μ p.1 p.2 u) vs arr.toList
def MuLe (μ μ' : Mu) : Prop := ∀ id p, μ id = some p → μ' id = some p
theorem MuLe.refl (μ : Mu) : MuLe μ μ := fun _ _ h => h
theorem MuLe.trans {a b c : Mu} (h : MuLe a b) (h' : MuLe b c) : MuLe a c := fun id p e => h' id p (h id p e)
theorem CR.mono {μ μ' : Mu} (hm : MuLe μ μ') : ∀ {c : C} {v : Value}, CR μ c v → CR μ' c v
  | .int .., _, h | .bool _, _, h | .str _, _, h | .nilp, _, h | .nils, _, h | .emp, _, h | .fn _, _, h | .nilf, _, h | .nili, _, h => h
  | .ptr id o, _, ⟨p, h1, h2⟩ => ⟨p, hm _ _ h1, h2⟩
  | .sl .., _, ⟨p, a, cap, h1, h2⟩ => ⟨p, a, cap, hm _ _ h1, h2⟩
theorem CR.one {μ : Mu} : ∀ {c : C} {v : Value}, CR μ c v → v.oneCell' = true
  | .int .., _, h | .bool _, _, h | .str _, _, h | .nilp, _, h | .nils, _, h | .fn _, _, h | .nilf, _, h | .nili, _, h => by cases h; rfl
  | .ptr .., _, ⟨_, _, h⟩ => by cases h; rfl
  | .emp, _, ⟨_, h⟩ => by cases h; rfl
  | .sl .., _, ⟨_, _, _, _, h, _⟩ => by cases h; rfl
theorem CR.ones {μ : Mu} : ∀ {cs : List C} {vs : List Value}, All2 (CR μ) cs vs → ∀ v ∈ vs, v.oneCell' = true
  | [], [], _, v, hv => by simp at hv
  | _ :: _, _ :: _, h, v, hv => by
    rcases List.mem_cons.1 hv with rfl | hv
    · exact h.1.one
    · exact CR.ones h.2 v hv
  | [], _ :: _, h, _, _ => h.elim
  | _ :: _, [], h, _, _ => h.elim
theorem VG.mono {μ μ' : Mu} (hm : MuLe μ μ') {g : Bool} {cs : List C} {v : Value} (h : VG μ g cs v) : VG μ' g cs v := by
  cases g with
  | true => obtain ⟨arr, e, h⟩ := h; exact ⟨arr, e, h.imp fun _ _ => CR.mono hm⟩
  | false => obtain ⟨c, e, h⟩ := h; exact ⟨c, e, h.mono hm⟩
theorem TG.mono {μ μ' : Mu} (hm : MuLe μ μ') {vs : List (Bool × List C)} {v : Value} (h : TG μ vs v) : TG μ' vs v := by
  obtain ⟨arr, e, h⟩ := h
  exact ⟨arr, e, h.imp fun _ _ => VG.mono hm⟩
theorem cells_of_one {v : Value} (h : v.oneCell' = true) : v.cells = #[v] := by cases v <;> simp [Value.oneCell'] at h <;> rfl
theorem VG.cells {μ : Mu} {g : Bool} {cs : List C} {v : Value} (h : VG μ g cs v) : All2 (CR μ) cs v.cells.toList := by
  cases g with
  | true => obtain ⟨arr, rfl, h⟩ := h; exact h
  | false => obtain ⟨c, rfl, h⟩ := h; rw [cells_of_one h.one]; exact ⟨h, trivial⟩
theorem cOf_CR (μ : Mu) {v : Value} {c : C} (h : cOf v = some c) : CR μ c v := by
  unfold cOf at h
  split at h <;> simp only [Option.some.injEq, reduceCtorEq] at h <;> subst h <;> first | rfl | exact rfl
theorem csOf_CR (μ : Mu) : ∀ {vs : List Value} {cs : List C}, csOf vs = some cs → All2 (CR μ) cs vs
  | [], cs, h => by simp [csOf] at h; subst h; trivial
  | v :: vs, cs, h => by
    simp only [csOf] at h
    cases h1 : cOf v with
    | none => simp [h1] at h
    | some c =>
      cases h2 : csOf vs with
      | none => simp [h1, h2] at h
      | some cs' => simp [h1, h2] at h; subst h; exact ⟨cOf_CR μ h1, csOf_CR μ h2⟩
end Go.Eng
namespace Go.Eng
structure Ctx where
  P : Program
  I : Inf
  base : Nat
  w0 : World
  B0 : Nat → Prop
def SRs (μ : Mu) (L : Nat → Nat) (s : Nat) (v : Value) : V → Prop
  | .any => True
  | .val g cs => VG μ g cs v
  | .tup vs => TG μ vs v
  | .box _ => v = .pointer (some ⟨L s, 0, none⟩)
  | .lsl _ n _ => v = .slice (some ⟨L s, 0, none⟩) n n
  | .lref r o => v = .pointer (some ⟨L r, o, none⟩)
def loc : V → Option (List C)
  | .box cs => some cs
  | .lsl cs _ _ => some cs
  | _ => none
structure HP (X : Ctx) (μ : Mu) (h : H) (w : World) : Prop where
  hos : w.os = X.w0.os
  htape : w.tape = X.w0.tape
  hout : w.output = X.w0.output
  hsz : X.w0.heap.size ≤ w.heap.size
  hb : X.base ≤ X.w0.heap.size
  keep : ∀ k, k < X.w0.heap.size → ¬ X.B0 k → w.heap[k]? = X.w0.heap[k]?
  dom : ∀ id p, μ id = some p → id < h.length
  own : ∀ id p ty cs, μ id = some p → h[id]? = some (.own ty cs) → p.off = 0 ∧ X.base ≤ p.blk ∧ ∃ arr, w.heap[p.blk]? = some (.cells arr ty (0, 0)) ∧ arr.size = p.lim ∧ ∃ rest, All2 (CR μ) cs (arr.toList.take cs.length) ∧ arr.toList = arr.toList.take cs.length ++ rest
  ro : ∀ id p cs, μ id = some p → h[id]? = some (.ro cs) → p.blk < X.base ∧ ∀ i c, cs[i]? = some c → ∃ u, w.cell? ⟨p.blk, p.off + i, none⟩ = some u ∧ CR μ c u
  ex : ∀ id id' p p' ty ty' cs cs', id ≠ id' → μ id = some p → μ id' = some p' → h[id]? = some (.own ty cs) → h[id']? = some (.own ty' cs') → p.blk ≠ p'.blk
  ownb : ∀ id p ty cs, μ id = some p → h[id]? = some (.own ty cs) → X.B0 p.blk ∨ X.w0.heap.size ≤ p.blk
  rob : ∀ k, X.B0 k → X.base ≤ k
structure FP (X : Ctx) (μ : Mu) (L : Nat → Nat) (f : Fr) (tm : Array Value) (w : World) : Prop where
  nt : tm.size = X.I.nt
  slots : ∀ s, SRs μ L s (tm.getD s undef) (f.get s)
  loc : ∀ s cs, loc (f.get s) = some cs → X.w0.heap.size ≤ L s ∧ ∃ ty arr, w.heap[L s]? = some (.cells arr ty (0, 0)) ∧ All2 (CR μ) cs arr.toList
  bsep : ∀ s t cs ds, s ≠ t → f.get s = .box cs → Eng.loc (f.get t) = some ds → L t ≠ L s
  bty : ∀ s cs, f.get s = .box cs → X.I.env.lookup s = some s
  rty : ∀ s r o, f.get s = .lref r o → X.I.env.lookup s = some r ∧ ∃ cs, f.get r = .box cs
structure INV (X : Ctx) (μ : Mu) (L : Nat → Nat) (f : Fr) (tm : Array Value) (h : H) (w : World) : Prop where
  hp : HP X μ h w
  fp : FP X μ L f tm w
  sep : ∀ s cs id p ty ds, loc (f.get s) = some cs → μ id = some p → h[id]? = some (.own ty ds) → p.blk ≠ L s
section
variable {X : Ctx} {μ μ' : Mu} {L : Nat → Nat} {f : Fr} {tm : Array Value} {h h' : H} {w w' : World}
theorem SRs.mono (hm : MuLe μ μ') {s : Nat} {v : Value} : ∀ {u : V}, SRs μ L s v u → SRs μ' L s v u
  | .any, _ => trivial
  | .val g cs, h => VG.mono hm h
  | .tup vs, h => TG.mono hm h
  | .box _, h => h
  | .lsl _ _ _, h => h
  | .lref _ _, h => h
theorem FP.world (hf : FP X μ L f tm w) (hm : MuLe μ μ') (hl : ∀ s cs, Eng.loc (f.get s) = some cs → w'.heap[L s]? = w.heap[L s]?) : FP X μ' L f tm w' where
  nt := hf.nt
  slots s := (hf.slots s).mono hm
  loc s cs hs := by
    obtain ⟨h0, ty, arr, h1, h2⟩ := hf.loc s cs hs
    exact ⟨h0, ty, arr, (hl s cs hs).trans h1, h2.imp fun _ _ => CR.mono hm⟩
  bsep := hf.bsep
  bty := hf.bty
  rty := hf.rty
theorem getD_set (tm : Array Value) (d s : Nat) (u x : Value) (hd : d < tm.size) : (tm.setIfInBounds d u).getD s x = if s = d then u else tm.getD s x := by
  by_cases e : s = d
  · subst e; simp [Array.getD, hd]
  · rw [if_neg e]
    by_cases hs : s < tm.size
    · simp [Array.getD, hs, Array.getElem_setIfInBounds, Ne.symm e]
    · simp [Array.getD, hs]
theorem FP.put (hf : FP X μ L f tm w) {d : Nat} {u : Value} {v : V} (hd : d < tm.size) (hb : X.I.env.lookup d ≠ some d) (hv : SRs μ L d u v) (hl : Eng.loc v = none)
    (hr : ∀ r o, v = .lref r o → X.I.env.lookup d = some r ∧ ∃ cs, f.get r = .box cs) : FP X μ L (f.set d v) (tm.setIfInBounds d u) w := by
  have hnb : ∀ cs, f.get d ≠ .box cs := fun cs e => hb (hf.bty d cs e)
  have hvb : ∀ cs, v ≠ .box cs := fun cs e => by subst e; simp [Eng.loc] at hl
  refine ⟨by simp [hf.nt], fun s => ?_, fun s cs hs => ?_, fun s t cs ds hst hs ht => ?_, fun s cs hs => ?_, fun s r o hs => ?_⟩
  · rw [Fr.get_set, getD_set _ _ _ _ _ hd]
    by_cases e : s = d
    · rw [if_pos e, if_pos e]; subst e; exact hv
    · rw [if_neg e, if_neg e]; exact hf.slots s
  · rw [Fr.get_set] at hs
    by_cases e : s = d
    · rw [if_pos e, hl] at hs; cases hs
    · rw [if_neg e] at hs; exact hf.loc s cs hs
  · rw [Fr.get_set] at hs ht
    by_cases e : s = d
    · rw [if_pos e] at hs; exact absurd hs (hvb cs)
    · rw [if_neg e] at hs
      by_cases e' : t = d
      · rw [if_pos e', hl] at ht; cases ht
      · rw [if_neg e'] at ht; exact hf.bsep s t cs ds hst hs ht
  · rw [Fr.get_set] at hs
    by_cases e : s = d
    · rw [if_pos e] at hs; exact absurd hs (hvb cs)
    · rw [if_neg e] at hs; exact hf.bty s cs hs
  · rw [Fr.get_set] at hs
    have key : X.I.env.lookup s = some r ∧ ∃ cs, f.get r = .box cs := by
      by_cases e : s = d
      · rw [if_pos e] at hs; subst e; exact hr r o hs
      · rw [if_neg e] at hs; exact hf.rty s r o hs
    obtain ⟨k1, cs, k2⟩ := key
    refine ⟨k1, cs, ?_⟩
    have hne : r ≠ d := fun e => by subst e; exact hnb cs k2
    rw [Fr.get_set_ne _ _ hne]
    exact k2
theorem INV.put (hi : INV X μ L f tm h w) {d : Nat} {u : Value} {v : V} (hd : d < tm.size) (hb : X.I.env.lookup d ≠ some d) (hv : SRs μ L d u v) (hl : loc v = none)
    (hr : ∀ r o, v = .lref r o → X.I.env.lookup d = some r ∧ ∃ cs, f.get r = .box cs) : INV X μ L (f.set d v) (tm.setIfInBounds d u) h w :=
  ⟨hi.hp, hi.fp.put hd hb hv hl hr, fun s cs id p ty ds hs => by
    rw [Fr.get_set] at hs
    by_cases e : s = d
    · rw [if_pos e, hl] at hs; cases hs
    · rw [if_neg e] at hs; exact hi.sep s cs id p ty ds hs⟩
theorem INV.putV (hi : INV X μ L f tm h w) {d : Nat} {u : Value} {g : Bool} {cs : List C} (hd : d < tm.size) (hb : X.I.env.lookup d ≠ some d) (hv : VG μ g cs u) : INV X μ L (f.set d (.val g cs)) (tm.setIfInBounds d u) h w :=
  hi.put hd hb hv rfl (fun r o e => by cases e)
theorem INV.putAny (hi : INV X μ L f tm h w) {d : Nat} (u : Value) (hd : d < tm.size) (hb : X.I.env.lookup d ≠ some d) : INV X μ L (f.set d .any) (tm.setIfInBounds d u) h w :=
  hi.put hd hb trivial rfl (fun r o e => by cases e)
theorem alloc_old (w : World) (o : Obj) {k : Nat} (hk : k < w.heap.size) : (w.alloc o).heap[k]? = w.heap[k]? := by
  show (w.heap.push o)[k]? = _
  rw [Array.getElem?_push, if_neg (by omega)]
theorem alloc_new (w : World) (o : Obj) : (w.alloc o).heap[w.heap.size]? = some o := by
  show (w.heap.push o)[w.heap.size]? = _
  simp
theorem alloc_size (w : World) (o : Obj) : (w.alloc o).heap.size = w.heap.size + 1 := by
  show (w.heap.push o).size = _
  simp
theorem lt_of_heap {w : World} {k : Nat} {o : Obj} (h : w.heap[k]? = some o) : k < w.heap.size := (Array.getElem?_eq_some_iff.1 h).1
structure Only (w w' : World) (S : Nat → Prop) : Prop where
  os : w'.os = w.os
  tape : w'.tape = w.tape
  out : w'.output = w.output
  size : w.heap.size ≤ w'.heap.size
  same : ∀ k, k < w.heap.size → ¬ S k → w'.heap[k]? = w.heap[k]?
theorem Only.refl (w : World) (S : Nat → Prop) : Only w w S := ⟨rfl, rfl, rfl, Nat.le_refl _, fun _ _ _ => rfl⟩
theorem Only.alloc (w : World) (o : Obj) (S : Nat → Prop) : Only w (w.alloc o) S := ⟨rfl, rfl, rfl, by rw [alloc_size]; omega, fun k hk _ => alloc_old w o hk⟩
theorem Only.drew (w : World) (S : Nat → Prop) : Only w w.drew S := ⟨rfl, rfl, rfl, Nat.le_refl _, fun _ _ _ => rfl⟩
theorem Only.trans {w1 w2 w3 : World} {S : Nat → Prop} (h : Only w1 w2 S) (h' : Only w2 w3 S) : Only w1 w3 S :=
  ⟨h'.os.trans h.os, h'.tape.trans h.tape, h'.out.trans h.out, Nat.le_trans h.size h'.size, fun k hk hs => (h'.same k (Nat.lt_of_lt_of_le hk h.size) hs).trans (h.same k hk hs)⟩
theorem cell_same {w w' : World} {a : Addr} (h : w'.heap[a.block]? = w.heap[a.block]?) : w'.cell? a = w.cell? a := by simp [World.cell?, h]

theorem HP.world (hh : HP X μ h w) {S : Nat → Prop} (ho : Only w w' S) (hs : ∀ k, S k → X.w0.heap.size ≤ k ∧ ∀ id p ty cs, μ id = some p → h[id]? = some (.own ty cs) → p.blk ≠ k) : HP X μ h w' where
  hos := ho.os.trans hh.hos
  htape := ho.tape.trans hh.htape
  hout := ho.out.trans hh.hout
  hsz := Nat.le_trans hh.hsz ho.size
  hb := hh.hb
  keep k hk hB := (ho.same k (Nat.lt_of_lt_of_le hk hh.hsz) (fun e => by have := (hs k e).1; omega)).trans (hh.keep k hk hB)
  dom := hh.dom
  own id p ty cs h1 h2 := by
    obtain ⟨a, b, arr, c, d, rest, e⟩ := hh.own id p ty cs h1 h2
    exact ⟨a, b, arr, (ho.same _ (lt_of_heap c) (fun e' => (hs _ e').2 id p ty cs h1 h2 rfl)).trans c, d, rest, e⟩
  ro id p cs h1 h2 := by
    obtain ⟨a, b⟩ := hh.ro id p cs h1 h2
    refine ⟨a, fun i c hc => ?_⟩
    obtain ⟨u, hu, hr⟩ := b i c hc
    refine ⟨u, ?_, hr⟩
    rw [cell_same (w := w), hu]
    refine ho.same _ ?_ (fun e => ?_)
    · have := hh.hb; have := hh.hsz; show p.blk < _; omega
    · have := (hs _ e).1; have h2 := hh.hb; dsimp only at this; omega
  ex := hh.ex
  ownb := hh.ownb
  rob := hh.rob
theorem INV.worldOnly (hi : INV X μ L f tm h w) (ho : Only w w' (fun _ => False)) : INV X μ L f tm h w' :=
  ⟨hi.hp.world ho (fun _ e => e.elim), hi.fp.world (MuLe.refl _) (fun s cs hs => by
    obtain ⟨_, ty, arr, h1, _⟩ := hi.fp.loc s cs hs
    exact ho.same _ (lt_of_heap h1) id), hi.sep⟩
theorem INV.newLoc (hi : INV X μ L f tm h w) {d : Nat} {v : V} {cs : List C} {arr : Array Value} {ty : Nat} {u : Value} (hd : d < tm.size) (hnb : ∀ ds, f.get d ≠ .box ds) (hty : (∃ ds, v = .box ds) → X.I.env.lookup d = some d) (hl : loc v = some cs)
    (hv : ∀ L', L' d = w.heap.size → SRs μ L' d u v) (hc : All2 (CR μ) cs arr.toList) :
    INV X μ (fun s => if s = d then w.heap.size else L s) (f.set d v) (tm.setIfInBounds d u) h (w.alloc (.cells arr ty (0, 0))) := by
  have ho := Only.alloc w (.cells arr ty (0, 0)) (fun _ => False)
  have hi' := hi.worldOnly ho
  have hvr : ∀ r o, v ≠ .lref r o := fun r o e => by subst e; simp [loc] at hl
  have hold : ∀ s ds, loc (f.get s) = some ds → L s < w.heap.size := fun s ds hs => by
    obtain ⟨_, ty, arr, h1, _⟩ := hi.fp.loc s ds hs
    exact lt_of_heap h1
  refine ⟨hi'.hp, ⟨by simp [hi.fp.nt], fun s => ?_, fun s ds hs => ?_, fun s t ds es hst hs ht => ?_, fun s ds hs => ?_, fun s r o hs => ?_⟩, fun s ds id p ty' es hs h1 h2 => ?_⟩
  · rw [Fr.get_set, getD_set _ _ _ _ _ hd]
    by_cases e : s = d
    · rw [if_pos e, if_pos e]; subst e; exact hv _ (if_pos rfl)
    · rw [if_neg e, if_neg e]
      have := hi.fp.slots s
      revert this
      cases hg : f.get s with
      | any => exact fun _ => trivial
      | val g cs => exact id
      | tup vs => exact id
      | box cs => intro k; simp only [SRs, if_neg e] at *; exact k
      | lsl cs n e2 => intro k; simp only [SRs, if_neg e] at *; exact k
      | lref r o =>
        intro k
        obtain ⟨_, ds, k2⟩ := hi.fp.rty s r o hg
        have : r ≠ d := fun e => by subst e; exact hnb ds k2
        simp only [SRs, if_neg this] at *
        exact k
  · rw [Fr.get_set] at hs
    by_cases e : s = d
    · rw [if_pos e, hl] at hs
      cases hs
      simp only [if_pos e]
      exact ⟨hi.hp.hsz, ty, arr, alloc_new w _, hc⟩
    · rw [if_neg e] at hs
      simp only [if_neg e]
      exact hi'.fp.loc s ds hs
  · rw [Fr.get_set] at hs ht
    by_cases e : s = d
    · have e' : t ≠ d := fun e' => hst (e.trans e'.symm)
      rw [if_neg e'] at ht
      simp only [if_pos e, if_neg e']
      have := hold t es ht
      omega
    · rw [if_neg e] at hs
      simp only [if_neg e]
      by_cases e' : t = d
      · simp only [if_pos e']
        have := hold s ds (by rw [hs]; rfl)
        omega
      · rw [if_neg e'] at ht
        simp only [if_neg e']
        exact hi.fp.bsep s t ds es hst hs ht
  · rw [Fr.get_set] at hs
    by_cases e : s = d
    · rw [if_pos e] at hs; subst e; exact hty ⟨ds, hs⟩
    · rw [if_neg e] at hs; exact hi.fp.bty s ds hs
  · rw [Fr.get_set] at hs
    by_cases e : s = d
    · rw [if_pos e] at hs; exact absurd hs (hvr r o)
    · rw [if_neg e] at hs
      obtain ⟨k1, ds, k2⟩ := hi.fp.rty s r o hs
      refine ⟨k1, ds, ?_⟩
      have hne : r ≠ d := fun e => by subst e; exact hnb ds k2
      rw [Fr.get_set_ne _ _ hne]
      exact k2
  · rw [Fr.get_set] at hs
    obtain ⟨_, _, arr2, h3, _⟩ := hi.hp.own id p ty' es h1 h2
    have h4 := lt_of_heap h3
    by_cases e : s = d
    · simp only [if_pos e]; omega
    · rw [if_neg e] at hs
      simp only [if_neg e]
      exact hi.sep s ds id p ty' es hs h1 h2
theorem INV.newId (hi : INV X μ L f tm h w) {cs : List C} {arr : Array Value} {ty : Nat} {rest : List Value} (hc : All2 (CR μ) cs (arr.toList.take cs.length)) (hr : arr.toList = arr.toList.take cs.length ++ rest) :
    INV X (fun id => if id = h.length then some ⟨w.heap.size, 0, arr.size⟩ else μ id) L f tm (h ++ [.own ty cs]) (w.alloc (.cells arr ty (0, 0))) ∧ MuLe μ (fun id => if id = h.length then some ⟨w.heap.size, 0, arr.size⟩ else μ id) := by
  have hm : MuLe μ (fun id => if id = h.length then some ⟨w.heap.size, 0, arr.size⟩ else μ id) := fun id p e => by
    have := hi.hp.dom id p e
    simp only [if_neg (show id ≠ h.length by omega)]
    exact e
  have hi' := hi.worldOnly (Only.alloc w (.cells arr ty (0, 0)) (fun _ => False))
  have hg : ∀ id, id ≠ h.length → (h ++ [Blk.own ty cs])[id]? = h[id]? ∨ (h ++ [Blk.own ty cs])[id]? = none := fun id e => by
    by_cases hlt : id < h.length
    · left; rw [List.getElem?_append_left hlt]
    · right; rw [List.getElem?_eq_none]; simp; omega
  have hgn : (h ++ [Blk.own ty cs])[h.length]? = some (.own ty cs) := by simp
  have hlt : ∀ id p ty cs, μ id = some p → h[id]? = some (.own ty cs) → p.blk < w.heap.size := fun id p ty cs h1 h2 => by
    obtain ⟨_, _, arr, h3, _⟩ := hi.hp.own id p ty cs h1 h2
    exact lt_of_heap h3
  refine ⟨⟨⟨hi'.hp.hos, hi'.hp.htape, hi'.hp.hout, hi'.hp.hsz, hi'.hp.hb, hi'.hp.keep, ?_, ?_, ?_, ?_, ?_, hi'.hp.rob⟩, hi'.fp.world hm (fun _ _ _ => rfl), ?_⟩, hm⟩
  · intro id p e
    by_cases e1 : id = h.length
    · simp [e1]
    · simp only [if_neg e1] at e; have := hi.hp.dom id p e; simp; omega
  · intro id p ty' cs' e1 e2
    by_cases e : id = h.length
    · subst e
      simp only [if_pos] at e1
      rw [hgn] at e2
      cases e1; cases e2
      exact ⟨rfl, Nat.le_trans hi.hp.hb hi.hp.hsz, arr, alloc_new w _, rfl, rest, hc.imp fun _ _ => CR.mono hm, hr⟩
    · simp only [if_neg e] at e1
      rcases hg id e with k | k
      · rw [k] at e2
        obtain ⟨a, b, arr2, c, d, rest2, q, q2⟩ := hi'.hp.own id p ty' cs' e1 e2
        exact ⟨a, b, arr2, c, d, rest2, q.imp fun _ _ => CR.mono hm, q2⟩
      · rw [k] at e2; cases e2
  · intro id p cs' e1 e2
    by_cases e : id = h.length
    · subst e; rw [hgn] at e2; cases e2
    · simp only [if_neg e] at e1
      rcases hg id e with k | k
      · rw [k] at e2
        obtain ⟨a, b⟩ := hi'.hp.ro id p cs' e1 e2
        exact ⟨a, fun i c hc => let ⟨u, hu, hr⟩ := b i c hc; ⟨u, hu, hr.mono hm⟩⟩
      · rw [k] at e2; cases e2
  · intro id id' p p' t t' c c' hne e1 e2 e3 e4
    by_cases e : id = h.length
    · have e' : id' ≠ h.length := fun k => hne (e.trans k.symm)
      simp only [if_pos e] at e1; simp only [if_neg e'] at e2
      cases e1
      rcases hg id' e' with k | k
      · rw [k] at e4; have := hlt _ _ _ _ e2 e4; show w.heap.size ≠ p'.blk; omega
      · rw [k] at e4; cases e4
    · simp only [if_neg e] at e1
      rcases hg id e with k | k
      · rw [k] at e3
        by_cases e' : id' = h.length
        · simp only [if_pos e'] at e2; cases e2
          have := hlt _ _ _ _ e1 e3; show p.blk ≠ w.heap.size; omega
        · simp only [if_neg e'] at e2
          rcases hg id' e' with k' | k'
          · rw [k'] at e4; exact hi.hp.ex id id' p p' t t' c c' hne e1 e2 e3 e4
          · rw [k'] at e4; cases e4
      · rw [k] at e3; cases e3
  · intro id p t c e1 e2
    by_cases e : id = h.length
    · simp only [if_pos e] at e1; cases e1; exact .inr hi.hp.hsz
    · simp only [if_neg e] at e1
      rcases hg id e with k | k
      · rw [k] at e2; exact hi.hp.ownb id p t c e1 e2
      · rw [k] at e2; cases e2
  · intro s cs' id p t c hs e1 e2
    by_cases e : id = h.length
    · simp only [if_pos e] at e1; cases e1
      obtain ⟨_, ty2, arr2, h3, _⟩ := hi.fp.loc s cs' hs
      have := lt_of_heap h3
      show w.heap.size ≠ L s
      omega
    · simp only [if_neg e] at e1
      rcases hg id e with k | k
      · rw [k] at e2; exact hi.sep s cs' id p t c hs e1 e2
      · rw [k] at e2; cases e2
theorem Only.setRow (w : World) (g : Nat) (cs : Array Value) : Only w (w.setRow g cs) (fun k => k = g) := ⟨rfl, rfl, rfl, by simp, fun k _ hk => setRow_other w g k cs hk⟩
theorem INV.setBox (hi : INV X μ L f tm h w) {r ty : Nat} {cs cs' : List C} {arr arr' : Array Value} (hr : f.get r = .box cs) (ha : w.heap[L r]? = some (.cells arr ty (0, 0))) (hc : All2 (CR μ) cs' arr'.toList) :
    INV X μ L (f.set r (.box cs')) tm h (w.setRow (L r) arr') := by
  have hlr : loc (f.get r) = some cs := by rw [hr]; rfl
  have ho := Only.setRow w (L r) arr'
  have h0 := (hi.fp.loc r cs hlr).1
  have hgne : ∀ s, s ≠ r → Fr.get (f.set r (.box cs')) s = f.get s := fun s e => Fr.get_set_ne _ _ e
  have hgr : Fr.get (f.set r (.box cs')) r = .box cs' := Fr.get_set_same _ _ _
  refine ⟨hi.hp.world ho (fun k e => ⟨e ▸ h0, fun id p ty cs2 h1 h2 => e ▸ hi.sep r cs id p ty cs2 hlr h1 h2⟩), ⟨hi.fp.nt, fun s => ?_, fun s ds hs => ?_, fun s t ds es hst hs ht => ?_, fun s ds hs => ?_, fun s q o hs => ?_⟩, fun s ds id p ty' es hs h1 h2 => ?_⟩
  · by_cases e : s = r
    · subst e; rw [hgr]; have := hi.fp.slots s; rw [hr] at this; exact this
    · rw [hgne s e]; exact hi.fp.slots s
  · by_cases e : s = r
    · subst e
      rw [hgr] at hs
      cases hs
      exact ⟨h0, ty, arr', setRow_heap w _ _ _ _ _ ha, hc⟩
    · rw [hgne s e] at hs
      obtain ⟨k0, ty2, arr2, k1, k2⟩ := hi.fp.loc s ds hs
      exact ⟨k0, ty2, arr2, (setRow_other w _ _ _ (hi.fp.bsep r s cs ds (Ne.symm e) hr hs)).trans k1, k2⟩
  · by_cases e : s = r
    · subst e
      rw [hgne t (Ne.symm hst)] at ht
      exact hi.fp.bsep s t cs es hst hr ht
    · rw [hgne s e] at hs
      by_cases e' : t = r
      · subst e'; exact hi.fp.bsep s t ds cs hst hs hlr
      · rw [hgne t e'] at ht; exact hi.fp.bsep s t ds es hst hs ht
  · by_cases e : s = r
    · subst e; exact hi.fp.bty s cs hr
    · rw [hgne s e] at hs; exact hi.fp.bty s ds hs
  · have e : s ≠ r := fun e => by subst e; rw [hgr] at hs; cases hs
    rw [hgne s e] at hs
    obtain ⟨k1, ds, k2⟩ := hi.fp.rty s q o hs
    by_cases e' : q = r
    · subst e'; exact ⟨k1, cs', hgr⟩
    · exact ⟨k1, ds, by rw [hgne q e']; exact k2⟩
  · by_cases e : s = r
    · subst e; exact hi.sep s cs id p ty' es hlr h1 h2
    · rw [hgne s e] at hs; exact hi.sep s ds id p ty' es hs h1 h2
theorem set_get {h : H} {id : Nat} {b : Blk} (hlt : id < h.length) : (h.set id b)[id]? = some b := by simp [hlt]
theorem set_get_ne {h : H} {id j : Nat} {b : Blk} (hne : j ≠ id) : (h.set id b)[j]? = h[j]? := by rw [List.getElem?_set]; rw [if_neg (Ne.symm hne)]
theorem INV.setOwn (hi : INV X μ L f tm h w) {id ty : Nat} {p : Pl} {cs cs' : List C} {arr arr' : Array Value} {rest : List Value} (hm : μ id = some p) (hg : h[id]? = some (.own ty cs)) (ha : w.heap[p.blk]? = some (.cells arr ty (0, 0)))
    (hsz : arr'.size = arr.size) (hc : All2 (CR μ) cs' (arr'.toList.take cs'.length)) (hr : arr'.toList = arr'.toList.take cs'.length ++ rest) : INV X μ L f tm (h.set id (.own ty cs')) (w.setRow p.blk arr') := by
  have hlt : id < h.length := hi.hp.dom id p hm
  have ho := Only.setRow w p.blk arr'
  have hne : ∀ j q t c, j ≠ id → μ j = some q → (h.set id (.own ty cs'))[j]? = some (.own t c) → q.blk ≠ p.blk := fun j q t c e h1 h2 => by
    rw [set_get_ne e] at h2
    exact hi.hp.ex j id q p t ty c cs e h1 hm h2 hg
  have hpb : X.base ≤ p.blk := (hi.hp.own id p ty cs hm hg).2.1
  have hh := hi.hp
  refine ⟨⟨hh.hos, hh.htape, hh.hout, by simpa using hh.hsz, hh.hb, fun k hk hB => ?_, fun j q h1 => by simpa using hh.dom j q h1, fun j q t c h1 h2 => ?_, fun j q c h1 h2 => ?_, fun j j' q q' t t' c c' e h1 h2 h3 h4 => ?_, fun j q t c h1 h2 => ?_, hh.rob⟩, ?_, ?_⟩
  · have : k ≠ p.blk := fun e => by
      rcases hh.ownb id p ty cs hm hg with k1 | k1
      · exact hB (e ▸ k1)
      · omega
    exact (setRow_other w _ _ _ this).trans (hh.keep k hk hB)
  · by_cases e : j = id
    · subst e
      rw [set_get hlt] at h2
      rw [hm] at h1
      cases h1; cases h2
      obtain ⟨a, b, arr2, c2, d, _⟩ := hh.own j p ty cs hm hg
      rw [ha] at c2
      cases c2
      exact ⟨a, b, arr', setRow_heap w _ _ _ _ _ ha, hsz.trans d, rest, hc, hr⟩
    · have k := hne j q t c e h1 h2
      rw [set_get_ne e] at h2
      obtain ⟨a, b, arr2, c2, d⟩ := hh.own j q t c h1 h2
      exact ⟨a, b, arr2, (setRow_other w _ _ _ k).trans c2, d⟩
  · by_cases e : j = id
    · subst e; rw [set_get hlt] at h2; cases h2
    · rw [set_get_ne e] at h2
      obtain ⟨a, b⟩ := hh.ro j q c h1 h2
      refine ⟨a, fun i x hx => ?_⟩
      obtain ⟨u, hu, hr⟩ := b i x hx
      exact ⟨u, (cell_same (a := ⟨q.blk, q.off + i, none⟩) (setRow_other w _ _ _ (by show q.blk ≠ p.blk; omega))).trans hu, hr⟩
  · by_cases e1 : j = id
    · subst e1
      have e2 : j' ≠ j := Ne.symm e
      have := hne j' q' t' c' e2 h2 h4
      rw [hm] at h1; cases h1
      exact Ne.symm this
    · by_cases e2 : j' = id
      · subst e2
        have := hne j q t c e1 h1 h3
        rw [hm] at h2; cases h2
        exact this
      · rw [set_get_ne e1] at h3; rw [set_get_ne e2] at h4
        exact hh.ex j j' q q' t t' c c' e h1 h2 h3 h4
  · by_cases e : j = id
    · subst e; rw [hm] at h1; cases h1; exact hh.ownb j p ty cs hm hg
    · rw [set_get_ne e] at h2; exact hh.ownb j q t c h1 h2
  · exact hi.fp.world (MuLe.refl _) (fun s ds hs => setRow_other w _ _ _ (fun e => hi.sep s ds id p ty cs hs hm hg e.symm))
  · intro s ds j q t c hs h1 h2
    by_cases e : j = id
    · subst e; rw [hm] at h1; cases h1; exact hi.sep s ds j p ty cs hs hm hg
    · rw [set_get_ne e] at h2; exact hi.sep s ds j q t c hs h1 h2
theorem INV.kill (hi : INV X μ L f tm h w) (id : Nat) : INV X μ L f tm (h.set id .dead) w := by
  have hh := hi.hp
  have hold : ∀ {j : Nat} {b : Blk}, (h.set id .dead)[j]? = some b → b ≠ .dead → h[j]? = some b := fun {j b} e hb => by
    by_cases e1 : j = id
    · subst e1
      by_cases hlt : j < h.length
      · rw [set_get hlt] at e; cases e; exact absurd rfl hb
      · rw [List.getElem?_eq_none (by simp; omega)] at e; cases e
    · rwa [set_get_ne e1] at e
  exact ⟨⟨hh.hos, hh.htape, hh.hout, hh.hsz, hh.hb, hh.keep, fun j q h1 => by simpa using hh.dom j q h1, fun j q t c h1 h2 => hh.own j q t c h1 (hold h2 (by simp)), fun j q c h1 h2 => hh.ro j q c h1 (hold h2 (by simp)),
    fun j j' q q' t t' c c' e h1 h2 h3 h4 => hh.ex j j' q q' t t' c c' e h1 h2 (hold h3 (by simp)) (hold h4 (by simp)), fun j q t c h1 h2 => hh.ownb j q t c h1 (hold h2 (by simp)), hh.rob⟩, hi.fp, fun s ds j q t c hs h1 h2 => hi.sep s ds j q t c hs h1 (hold h2 (by simp))⟩
theorem INV.rename (hi : INV X μ L f tm h w) {id ty : Nat} {p : Pl} {cs : List C} (hm : μ id = some p) (hg : h[id]? = some (.own ty cs)) :
    INV X (fun j => if j = h.length then some p else μ j) L f tm ((h.set id .dead) ++ [.own ty cs]) w ∧ MuLe μ (fun j => if j = h.length then some p else μ j) := by
  have hh := hi.hp
  have hlt : id < h.length := hh.dom id p hm
  have hml : MuLe μ (fun j => if j = h.length then some p else μ j) := fun j q e => by
    have := hh.dom j q e
    simp only [if_neg (show j ≠ h.length by omega)]
    exact e
  have hnew : ((h.set id .dead) ++ [Blk.own ty cs])[h.length]? = some (.own ty cs) := by
    rw [List.getElem?_append_right (by simp)]; simp
  have hold : ∀ {j : Nat} {b : Blk}, j ≠ h.length → ((h.set id .dead) ++ [Blk.own ty cs])[j]? = some b → b ≠ .dead → h[j]? = some b ∧ j ≠ id := fun {j b} e0 e hb => by
    by_cases hl : j < h.length
    · rw [List.getElem?_append_left (by simpa using hl)] at e
      by_cases e1 : j = id
      · subst e1; rw [set_get hlt] at e; cases e; exact absurd rfl hb
      · rw [set_get_ne e1] at e; exact ⟨e, e1⟩
    · rw [List.getElem?_eq_none (by simp; omega)] at e; cases e
  refine ⟨⟨⟨hh.hos, hh.htape, hh.hout, hh.hsz, hh.hb, hh.keep, fun j q h1 => ?_, fun j q t c h1 h2 => ?_, fun j q c h1 h2 => ?_, fun j j' q q' t t' c c' e h1 h2 h3 h4 => ?_, fun j q t c h1 h2 => ?_, hh.rob⟩, hi.fp.world hml (fun _ _ _ => rfl), fun s ds j q t c hs h1 h2 => ?_⟩, hml⟩
  · by_cases e : j = h.length
    · simp [e]
    · simp only [if_neg e] at h1; have := hh.dom j q h1; simp; omega
  · by_cases e : j = h.length
    · subst e
      rw [hnew] at h2
      simp only [if_pos] at h1
      cases h1; cases h2
      obtain ⟨a, b, arr, c1, d, rest, r1, r2⟩ := hh.own id p ty cs hm hg
      exact ⟨a, b, arr, c1, d, rest, r1.imp fun _ _ => CR.mono hml, r2⟩
    · simp only [if_neg e] at h1
      obtain ⟨k, _⟩ := hold e h2 (by simp)
      obtain ⟨a, b, arr, c1, d, rest, r1, r2⟩ := hh.own j q t c h1 k
      exact ⟨a, b, arr, c1, d, rest, r1.imp fun _ _ => CR.mono hml, r2⟩
  · by_cases e : j = h.length
    · subst e; rw [hnew] at h2; cases h2
    · simp only [if_neg e] at h1
      obtain ⟨k, _⟩ := hold e h2 (by simp)
      obtain ⟨a, b⟩ := hh.ro j q c h1 k
      exact ⟨a, fun i x hx => let ⟨u, hu, hr⟩ := b i x hx; ⟨u, hu, hr.mono hml⟩⟩
  · by_cases e1 : j = h.length
    · have e2 : j' ≠ h.length := fun k => e (e1.trans k.symm)
      simp only [if_pos e1] at h1; simp only [if_neg e2] at h2
      cases h1
      obtain ⟨k, k2⟩ := hold e2 h4 (by simp)
      exact hh.ex id j' p q' ty t' cs c' (Ne.symm k2) hm h2 hg k
    · simp only [if_neg e1] at h1
      obtain ⟨k, k2⟩ := hold e1 h3 (by simp)
      by_cases e2 : j' = h.length
      · simp only [if_pos e2] at h2
        cases h2
        exact hh.ex j id q p t ty c cs k2 h1 hm k hg
      · simp only [if_neg e2] at h2
        obtain ⟨k', _⟩ := hold e2 h4 (by simp)
        exact hh.ex j j' q q' t t' c c' e h1 h2 k k'
  · by_cases e : j = h.length
    · simp only [if_pos e] at h1; cases h1; exact hh.ownb id p ty cs hm hg
    · simp only [if_neg e] at h1
      exact hh.ownb j q t c h1 (hold e h2 (by simp)).1
  · by_cases e : j = h.length
    · simp only [if_pos e] at h1; cases h1; exact hi.sep s ds id p ty cs hs hm hg
    · simp only [if_neg e] at h1
      exact hi.sep s ds j q t c hs h1 (hold e h2 (by simp)).1
end
end Go.Eng
namespace Go.Eng
section
variable {T : Ctx} {μ μ' : Mu} {L : Nat → Nat} {f f' : Fr} {h h' : H} {w w' : World} {act : Act}
theorem vOf_SR (μ : Mu) (L : Nat → Nat) {v : Value} {u : V} (hv : vOf v = some u) : (∃ g cs, u = .val g cs ∧ VG μ g cs v) ∨ u = .any := by
  unfold vOf at hv
  split at hv
  · rename_i a
    cases h1 : csOf a.toList with
    | none => simp [h1] at hv
    | some cs => simp [h1] at hv; exact .inl ⟨true, cs, hv.symm, a, rfl, csOf_CR μ h1⟩
  · simp at hv; exact .inr hv.symm
  · cases h1 : cOf v with
    | none => simp [h1] at hv
    | some c => simp [h1] at hv; exact .inl ⟨false, [c], hv.symm, c, rfl, cOf_CR μ h1⟩
theorem ev_ok (hf : FP T μ L f act.tmps w) {x : Operand} {y : X} (hx : xOf x = some y) :
    (∀ g cs, ev f y = .val g cs → VG μ g cs (act.eval x)) ∧ (∀ vs, ev f y = .tup vs → TG μ vs (act.eval x)) ∧
    (∀ r o, ev f y = .lref r o → act.eval x = .pointer (some ⟨L r, o, none⟩) ∧ T.I.root x = some r ∧ ∃ cs, f.get r = .box cs) := by
  cases x with
  | tmp t =>
    simp [xOf] at hx
    subst hx
    have hs := hf.slots t
    have he : act.eval (.tmp t) = act.tmps.getD t undef := rfl
    rw [he]
    simp only [ev]
    cases hg : f.get t with
    | any => exact ⟨fun _ _ e => by simp at e, fun _ e => by simp at e, fun _ _ e => by simp at e⟩
    | val g cs => rw [hg] at hs; exact ⟨fun _ _ e => by simp at e; obtain ⟨rfl, rfl⟩ := e; exact hs, fun _ e => by simp at e, fun _ _ e => by simp at e⟩
    | tup vs => rw [hg] at hs; exact ⟨fun _ _ e => by simp at e, fun _ e => by simp at e; subst e; exact hs, fun _ _ e => by simp at e⟩
    | box cs =>
      rw [hg] at hs
      exact ⟨fun _ _ e => by simp at e, fun _ e => by simp at e, fun r o e => by simp at e; obtain ⟨rfl, rfl⟩ := e; exact ⟨hs, hf.bty t cs hg, cs, hg⟩⟩
    | lsl cs n e => exact ⟨fun _ _ e => by simp at e, fun _ e => by simp at e, fun _ _ e => by simp at e⟩
    | lref r o =>
      rw [hg] at hs
      exact ⟨fun _ _ e => by simp at e, fun _ e => by simp at e, fun r' o' e => by simp at e; obtain ⟨rfl, rfl⟩ := e; exact ⟨hs, hf.rty t r o hg⟩⟩
  | const v =>
    cases hv : vOf v with
    | none => simp [xOf, hv] at hx
    | some u =>
      simp [xOf, hv] at hx
      subst hx
      simp only [ev]
      rcases vOf_SR μ L hv with ⟨g, cs, rfl, hg⟩ | rfl
      · exact ⟨fun _ _ e => by simp at e; obtain ⟨rfl, rfl⟩ := e; exact hg, fun _ e => by simp at e, fun _ _ e => by simp at e⟩
      · exact ⟨fun _ _ e => by simp at e, fun _ e => by simp at e, fun _ _ e => by simp at e⟩
  | func g =>
    simp [xOf] at hx
    subst hx
    simp only [ev]
    exact ⟨fun _ _ e => by simp at e; obtain ⟨rfl, rfl⟩ := e; exact ⟨.fn g, rfl, rfl⟩, fun _ e => by simp at e, fun _ _ e => by simp at e⟩
  | global g => simp [xOf] at hx
theorem evp_ev {y : X} {g : Bool} {cs : List C} (he : evp f y = some (g, cs)) : ev f y = .val g cs := by
  unfold evp at he
  split at he
  · rename_i g' cs' e; simp at he; obtain ⟨rfl, rfl⟩ := he; exact e
  · simp at he
theorem ev1_ev {y : X} {c : C} (he : ev1 f y = some c) : ev f y = .val false [c] := by
  unfold ev1 at he
  split at he
  · rename_i c' e; simp at he; subst he; exact e
  · simp at he
theorem evp_ok (hf : FP T μ L f act.tmps w) {x : Operand} {y : X} (hx : xOf x = some y) {g : Bool} {cs : List C} (he : evp f y = some (g, cs)) : VG μ g cs (act.eval x) := (ev_ok hf hx).1 g cs (evp_ev he)
theorem ev1_ok (hf : FP T μ L f act.tmps w) {x : Operand} {y : X} (hx : xOf x = some y) {c : C} (he : ev1 f y = some c) : CR μ c (act.eval x) := by
  obtain ⟨c', h1, h2⟩ := (ev_ok hf hx).1 false [c] (ev1_ev he)
  simp at h1
  subst h1
  exact h2
theorem lref_ok (hf : FP T μ L f act.tmps w) {x : Operand} {y : X} (hx : xOf x = some y) {r o : Nat} (he : ev f y = .lref r o) : act.eval x = .pointer (some ⟨L r, o, none⟩) ∧ T.I.root x = some r ∧ ∃ cs, f.get r = .box cs := (ev_ok hf hx).2.2 r o he
theorem run_agg {P : Program} {t : TypeId} {g : Bool} (ha : aggOf P t = some g) (w : World) : (isAgg t).run P w = .ok g w := by
  unfold aggOf at ha
  cases hu : P.underlying t with
  | none => simp [hu] at ha
  | some d =>
    rw [hu] at ha
    cases d <;> simp at ha <;> subst ha <;> simp [isAgg, run_underlying hu]
theorem szOf_spec {P : Program} {t : TypeId} {n : Nat} {g : Bool} (hs : szOf P t = some (n, g)) : ∃ i, P.info? t = some i ∧ i.size = n ∧ aggOf P t = some g ∧ (g = true ∨ n = 1) := by
  unfold szOf at hs
  cases h1 : P.info? t with
  | none => simp [h1] at hs
  | some i =>
    cases h2 : aggOf P t with
    | none => simp [h1, h2] at hs
    | some g' =>
      simp only [h1, h2] at hs
      split at hs
      · rename_i hg
        simp at hs
        obtain ⟨rfl, rfl⟩ := hs
        exact ⟨i, rfl, rfl, rfl, hg⟩
      · simp at hs
theorem run_sz {P : Program} {t : TypeId} {i : TypeInfo} (hi : P.info? t = some i) (w : World) : (sizeOf t).run P w = .ok i.size w := by simp [sizeOf, typeInfo, hi]
theorem run_loadVar {P : Program} {t : TypeId} {n : Nat} {g : Bool} (hs : szOf P t = some (n, g)) (w : World) (a : Addr) {us : List Value} {cs : List C} (hn : cs.length = n) (hc : All2 (CR μ) cs us) (hu : ∀ j v, us[j]? = some v → w.cell? (a.add j) = some v) :
    ∃ v, (loadVar t a).run P w = .ok v w ∧ VG μ g cs v := by
  obtain ⟨i, h1, h2, h3, h4⟩ := szOf_spec hs
  have hl : us.length = n := by rw [← hc.length]; exact hn
  cases g with
  | true =>
    refine ⟨.agg us.toArray, ?_, us.toArray, rfl, by simpa using hc⟩
    have := run_loadCells_list (P := P) w a us hu
    rw [hl] at this
    simp [loadVar, run_agg h3, run_sz h1, h2, this]
  | false =>
    have h5 : n = 1 := by rcases h4 with h | h; cases h; exact h
    subst h5
    match us, cs, hl, hn, hc with
    | [u], [c], _, _, hc =>
      refine ⟨u, ?_, c, rfl, hc.1⟩
      have h0 := hu 0 u rfl
      have : a.add 0 = a := by simp [Addr.add]
      rw [this] at h0
      simp [loadVar, run_agg h3, h0]
theorem add_at (b o j : Nat) : (⟨b, o, none⟩ : Addr).add j = ⟨b, o + j, none⟩ := by unfold Addr.add; split <;> simp_all
theorem cell_at {w : World} {b i : Nat} {arr : Array Value} {ty : Nat} {fz : Nat × Nat} {v : Value} (hb : w.heap[b]? = some (.cells arr ty fz)) (hv : arr.toList[i]? = some v) : w.cell? ⟨b, i, none⟩ = some v := by
  simp only [World.cell?, hb]
  simpa using hv
theorem run_storeVar {P : Program} {t : TypeId} {n : Nat} {g : Bool} (hs : szOf P t = some (n, g)) (w : World) (b o ty : Nat) {arr : Array Value} {v : Value} (hb : w.heap[b]? = some (.cells arr ty (0, 0))) (hn : v.cells.size = n) (hl : o + n ≤ arr.size) (h1 : ∀ u ∈ v.cells.toList, u.oneCell' = true) :
    (storeVar t ⟨b, o, none⟩ v).run P w = .ok () (w.setRow b (setL arr.toList o v.cells.toList).toArray) := by
  obtain ⟨i, h2, h3, h4, h5⟩ := szOf_spec hs
  have hst := run_storeCells_at P b o ty v.cells.toList 0 arr w hb (by simp [hn]; omega) h1
  simp only [Nat.add_zero] at hst
  rw [setL_eq _ _ _ (by simp [hn]; omega)]
  have : ¬ (v.cells.size ≠ n) := by simp [hn]
  simp [storeVar, run_sz h2, h3, this, hst]
theorem wp_val {P : Program} {o : Oper} {K : Act → World → Prop} {Q : Exit → Act → World → Prop} {v : Value} (hr : (execOp act.eval o).run P w = .ok (.value v) w') (hk : K (act.put o.dst v) w') : o.wp P act w K Q := by
  unfold Oper.wp; rw [hr]; exact hk
theorem wp_skip' {P : Program} {o : Oper} {K : Act → World → Prop} {Q : Exit → Act → World → Prop} (hr : (execOp act.eval o).run P w = .ok .skip w') (hk : K (act.put o.dst undef) w') : o.wp P act w K Q := by
  unfold Oper.wp; rw [hr]; exact hk
def Goes (T : Ctx) (μ : Mu) (act : Act) (f' : Fr) (h' : H) (K : Act → World → Prop) : Prop :=
  ∀ μ' L' act' w', INV T μ' L' f' act'.tmps h' w' → MuLe μ μ' → act'.defers = act.defers → K act' w'
theorem dst_ok {I : Inf} {a : AI} {d : Nat} (hd : dstOk I a (some d) = true) : d < I.nt ∧ (a.boxes = true ∨ I.env.lookup d ≠ some d) := by
  simp only [dstOk, Bool.and_eq_true, decide_eq_true_eq, Bool.or_eq_true, bne_iff_ne] at hd
  exact hd
theorem dst_plain {I : Inf} {a : AI} {d : Nat} (hd : dstOk I a (some d) = true) (ha : a.boxes = false) : d < I.nt ∧ I.env.lookup d ≠ some d := by
  obtain ⟨h1, h2⟩ := dst_ok hd
  exact ⟨h1, h2.resolve_left (by simp [ha])⟩
section
variable {o : Oper} {K : Act → World → Prop} {Q : Exit → Act → World → Prop} {d : Nat}
theorem fin (hi : INV T μ L f act.tmps h w) (ho : o.dst = some d) (hd : d < T.I.nt ∧ T.I.env.lookup d ≠ some d) {v : Value} {g : Bool} {cs : List C} (hr : (execOp act.eval o).run T.P w = .ok (.value v) w) (hv : VG μ g cs v)
    (hk : Goes T μ act (f.set d (.val g cs)) h K) : o.wp T.P act w K Q := by
  refine wp_val hr ?_
  rw [ho]
  exact hk μ L _ w (hi.putV (by rw [hi.fp.nt]; exact hd.1) hd.2 hv) (MuLe.refl _) rfl
theorem fin1 (hi : INV T μ L f act.tmps h w) (ho : o.dst = some d) (hd : d < T.I.nt ∧ T.I.env.lookup d ≠ some d) {v : Value} {c : C} (hr : (execOp act.eval o).run T.P w = .ok (.value v) w) (hv : CR μ c v)
    (hk : Goes T μ act (f.set d (.val false [c])) h K) : o.wp T.P act w K Q := fin (g := false) (cs := [c]) hi ho hd hr ⟨c, rfl, hv⟩ hk
theorem ok_mov (hi : INV T μ L f act.tmps h w) {x : Operand} {y : X} (hx : xOf x = some y) (hh : T.I.hand d x = true) (ho : o.dst = some d) (hop : o.op = .move x ∨ o.op = .assign x) (hd : d < T.I.nt ∧ T.I.env.lookup d ≠ some d)
    (hr : ai (.mov d y) f h = some (f', h')) (hk : Goes T μ act f' h' K) : o.wp T.P act w K Q := by
  have hrun : (execOp act.eval o).run T.P w = .ok (.value (act.eval x)) w := by rcases hop with e | e <;> simp [execOp, e]
  have hdt : d < act.tmps.size := by rw [hi.fp.nt]; exact hd.1
  refine wp_val hrun ?_
  rw [ho]
  simp only [ai] at hr
  have hev := ev_ok hi.fp hx
  cases he : ev f y with
  | any => simp [he] at hr; obtain ⟨rfl, rfl⟩ := hr; exact hk μ L _ w (hi.putAny _ hdt hd.2) (MuLe.refl _) rfl
  | val g cs => simp [he] at hr; obtain ⟨rfl, rfl⟩ := hr; exact hk μ L _ w (hi.putV hdt hd.2 (hev.1 g cs he)) (MuLe.refl _) rfl
  | tup vs => simp [he] at hr; obtain ⟨rfl, rfl⟩ := hr; exact hk μ L _ w (hi.put hdt hd.2 (hev.2.1 vs he) rfl (fun _ _ e => by cases e)) (MuLe.refl _) rfl
  | box cs => simp [he] at hr
  | lsl cs n e => simp [he] at hr
  | lref r q =>
    simp [he] at hr
    obtain ⟨rfl, rfl⟩ := hr
    obtain ⟨h1, h2, h3⟩ := hev.2.2 r q he
    have h4 : T.I.env.lookup d = some r := by simpa [Inf.hand, h2] using hh
    exact hk μ L _ w (hi.put hdt hd.2 h1 rfl (fun r' o' e => by cases e; exact ⟨h4, h3⟩)) (MuLe.refl _) rfl
theorem ok_pick (hi : INV T μ L f act.tmps h w) {x a b : Operand} {y u v : X} (hx : xOf x = some y) (ha : xOf a = some u) (hb : xOf b = some v) (ho : o.dst = some d) (hop : o.op = .pick x a b) (hd : d < T.I.nt ∧ T.I.env.lookup d ≠ some d)
    (hr : ai (.pick d y u v) f h = some (f', h')) (hk : Goes T μ act f' h' K) : o.wp T.P act w K Q := by
  simp only [ai] at hr
  split at hr
  · rename_i he
    have h1 := ev1_ok hi.fp hx he
    split at hr
    · rename_i g cs h2
      simp at hr; obtain ⟨rfl, rfl⟩ := hr
      exact fin hi ho hd (by simp [execOp, hop, CR] at *; simp [h1, asBool]) (evp_ok hi.fp ha h2) hk
    · simp at hr
  · rename_i he
    have h1 := ev1_ok hi.fp hx he
    split at hr
    · rename_i g cs h2
      simp at hr; obtain ⟨rfl, rfl⟩ := hr
      exact fin hi ho hd (by simp [execOp, hop, CR] at *; simp [h1, asBool]) (evp_ok hi.fp hb h2) hk
    · simp at hr
  · simp at hr
theorem zeroOf_spec {P : Program} {t : TypeId} {cs : List C} (hz : zeroOf P t = some cs) (μ : Mu) : ∃ i z, P.info? t = some i ∧ i.zero = some z ∧ All2 (CR μ) cs z.cells.toList ∧ cs.length = i.size := by
  unfold zeroOf at hz
  cases h1 : P.info? t with
  | none => simp [h1] at hz
  | some i =>
    cases h2 : i.zero with
    | none => simp [h1, h2] at hz
    | some z =>
      cases h3 : csOf z.cells.toList with
      | none => simp [h1, h2, h3] at hz
      | some cs' =>
        simp [h1, h2, h3] at hz
        obtain ⟨h4, rfl⟩ := hz
        exact ⟨i, z, rfl, h2, csOf_CR μ h3, h4⟩
theorem take_self {α : Type} {l : List α} {n : Nat} (h : n = l.length) : l.take n = l := by subst h; simp
theorem newId_fin (hi : INV T μ L f act.tmps h w) (ho : o.dst = some d) (hd : d < T.I.nt ∧ T.I.env.lookup d ≠ some d) {v : Value} {c : C} {cs : List C} {arr : Array Value} {ty : Nat} {rest : List Value}
    (hr : (execOp act.eval o).run T.P w = .ok (.value v) (w.alloc (.cells arr ty (0, 0)))) (hc : All2 (CR μ) cs (arr.toList.take cs.length)) (hr2 : arr.toList = arr.toList.take cs.length ++ rest)
    (hv : ∀ μ', μ' h.length = some ⟨w.heap.size, 0, arr.size⟩ → CR μ' c v) (hk : Goes T μ act (f.set d (.val false [c])) (h ++ [.own ty cs]) K) : o.wp T.P act w K Q := by
  obtain ⟨h1, h2⟩ := hi.newId (cs := cs) (arr := arr) (ty := ty) hc hr2
  refine wp_val hr ?_
  rw [ho]
  exact hk _ L _ _ (h1.putV (by rw [h1.fp.nt]; exact hd.1) hd.2 ⟨c, rfl, hv _ (by simp)⟩) h2 rfl
theorem ok_alloc (hi : INV T μ L f act.tmps h w) {t : TypeId} {cs : List C} (hz : zeroOf T.P t = some cs) (ho : o.dst = some d) (hop : o.op = .alloc t) {a : AI}
    (ha : (if T.I.E.testBit d then some (AI.hal d t cs) else if T.I.env.lookup d == some d then some (AI.lal d cs) else none) = some a) (hdst : dstOk T.I a (some d) = true)
    (hr : ai a f h = some (f', h')) (hk : Goes T μ act f' h' K) : o.wp T.P act w K Q := by
  obtain ⟨i, z, h1, h2, h3, h4⟩ := zeroOf_spec hz μ
  have hrun : (execOp act.eval o).run T.P w = .ok (.value (.pointer (some ⟨w.heap.size, 0, none⟩))) (w.alloc (.cells z.cells t (0, 0))) := by
    simp [execOp, hop, Instr.alloc, zeroValue, typeInfo, h1, h2, newVar, newRow]
  split at ha
  · simp at ha
    subst ha
    simp [ai] at hr
    obtain ⟨rfl, rfl⟩ := hr
    have e := take_self h3.length
    exact newId_fin (c := .ptr h.length 0) hi ho (dst_plain hdst rfl) hrun (by rw [e]; exact h3) (by rw [e, List.append_nil]) (fun μ' hm => ⟨_, hm, rfl⟩) hk
  · split at ha
    · rename_i hl
      simp at ha
      subst ha
      simp only [ai] at hr
      have hd := (dst_ok hdst).1
      have hnb : (∀ ds, f.get d ≠ .box ds) ∧ f' = f.set d (.box cs) ∧ h' = h := by
        split at hr
        · simp at hr
        · rename_i hne; simp at hr; exact ⟨hne, hr.1.symm, hr.2.symm⟩
      obtain ⟨hnb, rfl, rfl⟩ := hnb
      refine wp_val hrun ?_
      rw [ho]
      exact hk μ _ _ _ (hi.newLoc (v := .box cs) (by rw [hi.fp.nt]; exact hd) hnb (fun _ => by simpa using hl) rfl (fun L' hL => by simp only [SRs, hL]) h3) (MuLe.refl _) rfl
    · simp at ha
theorem ok_box (hi : INV T μ L f act.tmps h w) {t : TypeId} {x : Operand} {y : X} (hx : xOf x = some y) (ho : o.dst = some d) (hop : o.op = .box t x) {a : AI}
    (ha : (if T.I.E.testBit d then some (AI.hbox d t y) else if T.I.env.lookup d == some d then some (AI.lbox d y) else none) = some a) (hdst : dstOk T.I a (some d) = true)
    (hr : ai a f h = some (f', h')) (hk : Goes T μ act f' h' K) : o.wp T.P act w K Q := by
  have hrun : (execOp act.eval o).run T.P w = .ok (.value (.pointer (some ⟨w.heap.size, 0, none⟩))) (w.alloc (.cells (act.eval x).cells t (0, 0))) := by
    simp [execOp, hop, Instr.box, newVar, newRow]
  split at ha
  · simp at ha
    subst ha
    simp only [ai] at hr
    split at hr
    · rename_i g cs he
      simp at hr
      obtain ⟨rfl, rfl⟩ := hr
      have h3 := (evp_ok hi.fp hx he).cells
      have e := take_self h3.length
      exact newId_fin (c := .ptr h.length 0) hi ho (dst_plain hdst rfl) hrun (by rw [e]; exact h3) (by rw [e, List.append_nil]) (fun μ' hm => ⟨_, hm, rfl⟩) hk
    · simp at hr
  · split at ha
    · rename_i hl
      simp at ha
      subst ha
      simp only [ai] at hr
      have hd := (dst_ok hdst).1
      have hnb : (∀ ds, f.get d ≠ .box ds) ∧ ∃ g cs, evp f y = some (g, cs) ∧ f' = f.set d (.box cs) ∧ h' = h := by
        split at hr
        · simp at hr
        · rename_i hne
          split at hr
          · rename_i g cs he; simp at hr; exact ⟨hne, g, cs, he, hr.1.symm, hr.2.symm⟩
          · simp at hr
      obtain ⟨hnb, g, cs, he, rfl, rfl⟩ := hnb
      have h3 := (evp_ok hi.fp hx he).cells
      refine wp_val hrun ?_
      rw [ho]
      exact hk μ _ _ _ (hi.newLoc (v := .box cs) (by rw [hi.fp.nt]; exact hd) hnb (fun _ => by simpa using hl) rfl (fun L' hL => by simp only [SRs, hL]) h3) (MuLe.refl _) rfl
    · simp at ha
theorem box_at (hf : FP T μ L f act.tmps w) {r : Nat} {cs : List C} (hg : f.get r = .box cs) : ∃ ty arr, w.heap[L r]? = some (.cells arr ty (0, 0)) ∧ All2 (CR μ) cs arr.toList := (hf.loc r cs (by rw [hg]; rfl)).2
theorem part_len {cs : List C} {o n : Nat} (h : o + n ≤ cs.length) : ((cs.drop o).take n).length = n := by simp; omega
theorem part_get {α : Type} {us : List α} {o n j : Nat} {v : α} (h : ((us.drop o).take n)[j]? = some v) : us[o + j]? = some v := by
  rw [List.getElem?_take] at h
  split at h
  · rwa [List.getElem?_drop] at h
  · simp at h
theorem ok_ldl (hi : INV T μ L f act.tmps h w) {t : TypeId} {n : Nat} {g : Bool} {x : Operand} {y : X} (hs : szOf T.P t = some (n, g)) (hx : xOf x = some y) {r : Nat} (ho : o.dst = some d) (hop : o.op = .load t x) (hd : d < T.I.nt ∧ T.I.env.lookup d ≠ some d)
    (hr : ai (.ldl d r y n g) f h = some (f', h')) (hk : Goes T μ act f' h' K) : o.wp T.P act w K Q := by
  simp only [ai] at hr
  split at hr
  · rename_i r' q he
    split at hr
    · rename_i cs hg
      split at hr
      · rename_i hc
        obtain ⟨rfl, hl⟩ := hc
        simp at hr
        obtain ⟨rfl, rfl⟩ := hr
        obtain ⟨h1, _, _⟩ := lref_ok hi.fp hx he
        obtain ⟨ty, arr, h2, h3⟩ := box_at hi.fp hg
        have h4 := (h3.drop q).take n
        obtain ⟨v, h5, h6⟩ := run_loadVar hs w ⟨L r', q, none⟩ (part_len hl) h4 (fun j v hj => by rw [add_at]; exact cell_at h2 (part_get hj))
        exact fin hi ho hd (by simp [execOp, hop, Instr.loadAt, h1, Instr.sureAddr, h5]) h6 hk
      · simp at hr
    · simp at hr
  · simp at hr
theorem cells_at (hh : HP T μ h w) {id : Nat} {p : Pl} {cs : List C} (hm : μ id = some p) (hc : h.cells id = some cs) : ∃ us : List Value, All2 (CR μ) cs us ∧ ∀ j v, us[j]? = some v → w.cell? ⟨p.blk, p.off + j, none⟩ = some v := by
  unfold H.cells at hc
  split at hc
  · rename_i ty cs' e
    simp at hc
    subst hc
    obtain ⟨a, b, arr, c, dd, rest, q1, q2⟩ := hh.own id p ty cs' hm e
    refine ⟨_, q1, fun j v hj => ?_⟩
    rw [a, Nat.zero_add]
    refine cell_at c ?_
    rw [List.getElem?_take] at hj
    split at hj
    · exact hj
    · simp at hj
  · rename_i cs' e
    simp at hc
    subst hc
    obtain ⟨a, b⟩ := hh.ro id p cs' hm e
    have : ∀ n, n ≤ cs'.length → ∃ us : List Value, us.length = n ∧ ∀ i, i < n → ∀ c u, cs'[i]? = some c → us[i]? = some u → CR μ c u ∧ w.cell? ⟨p.blk, p.off + i, none⟩ = some u := by
      intro n
      induction n with
      | zero => exact fun _ => ⟨[], rfl, fun i hi => by omega⟩
      | succ n ih =>
        intro hn
        obtain ⟨us, hl, hu⟩ := ih (by omega)
        obtain ⟨u, h1, h2⟩ := b n (cs'[n]'(by omega)) (List.getElem?_eq_getElem (by omega))
        refine ⟨us ++ [u], by simp [hl], fun i hi c x hc hx => ?_⟩
        by_cases e : i = n
        · subst e
          rw [List.getElem?_append_right (by omega)] at hx
          simp [hl] at hx
          subst hx
          rw [List.getElem?_eq_getElem (by omega)] at hc
          cases hc
          exact ⟨h2, h1⟩
        · rw [List.getElem?_append_left (by omega)] at hx
          exact hu i (by omega) c x hc hx
    obtain ⟨us, hl, hu⟩ := this cs'.length (Nat.le_refl _)
    refine ⟨us, All2.of_get hl.symm (fun i c x hc hx => (hu i (List.getElem?_eq_some_iff.1 hc).1 c x hc hx).1), fun j v hj => ?_⟩
    have hj' : j < cs'.length := by rw [← hl]; exact (List.getElem?_eq_some_iff.1 hj).1
    exact (hu j hj' _ v (List.getElem?_eq_getElem hj') hj).2
  · simp at hc
theorem ok_ldh (hi : INV T μ L f act.tmps h w) {t : TypeId} {n : Nat} {g : Bool} {x : Operand} {y : X} (hs : szOf T.P t = some (n, g)) (hx : xOf x = some y) (ho : o.dst = some d) (hop : o.op = .load t x) (hd : d < T.I.nt ∧ T.I.env.lookup d ≠ some d)
    (hr : ai (.ldh d y n g) f h = some (f', h')) (hk : Goes T μ act f' h' K) : o.wp T.P act w K Q := by
  simp only [ai] at hr
  split at hr
  · rename_i id q he
    split at hr
    · rename_i cs hg
      split at hr
      · rename_i hl
        simp at hr
        obtain ⟨rfl, rfl⟩ := hr
        obtain ⟨p, h1, h2⟩ := ev1_ok hi.fp hx he
        obtain ⟨us, h3, h3'⟩ := cells_at hi.hp h1 hg
        have h4 := (h3.drop q).take n
        obtain ⟨v, h5, h6⟩ := run_loadVar hs w ⟨p.blk, p.off + q, none⟩ (part_len hl) h4 (fun j v hj => by rw [add_at, Nat.add_assoc]; exact h3' _ _ (part_get hj))
        exact fin hi ho hd (by simp [execOp, hop, Instr.loadAt, h2, Instr.sureAddr, h5]) h6 hk
      · simp at hr
    · simp at hr
  · simp at hr
theorem ok_stl (hi : INV T μ L f act.tmps h w) {t : TypeId} {n : Nat} {g : Bool} {x v : Operand} {y u : X} (hs : szOf T.P t = some (n, g)) (hx : xOf x = some y) (hv : xOf v = some u) {r : Nat} (ho : o.dst = none) (hop : o.op = .store t x v)
    (hr : ai (.stl r y u n) f h = some (f', h')) (hk : Goes T μ act f' h' K) : o.wp T.P act w K Q := by
  simp only [ai] at hr
  split at hr
  · rename_i r' q g' vs he hev
    split at hr
    · rename_i cs hg
      split at hr
      · rename_i hc
        obtain ⟨rfl, hvl, hl⟩ := hc
        simp at hr
        obtain ⟨rfl, rfl⟩ := hr
        obtain ⟨h1, _, _⟩ := lref_ok hi.fp hx he
        obtain ⟨ty, arr, h2, h3⟩ := box_at hi.fp hg
        have h4 := (evp_ok hi.fp hv hev).cells
        have hsz : (act.eval v).cells.size = n := by have := h4.length; simp at this; omega
        have hal : q + n ≤ arr.size := by have := h3.length; simp at this; omega
        have h5 := run_storeVar (P := T.P) hs w (L r') q ty h2 hsz hal (CR.ones h4)
        refine wp_skip' (w' := w.setRow (L r') (setL arr.toList q (act.eval v).cells.toList).toArray) (by simp [execOp, hop, Instr.storeAt, h1, Instr.sureAddr, h5]) ?_
        rw [ho]
        exact hk μ L act _ (hi.setBox hg h2 (by simpa using All2.setL q h3 h4)) (MuLe.refl _) rfl
      · simp at hr
    · simp at hr
  · simp at hr
theorem ok_sth (hi : INV T μ L f act.tmps h w) {t : TypeId} {n : Nat} {g : Bool} {x v : Operand} {y u : X} (hs : szOf T.P t = some (n, g)) (hx : xOf x = some y) (hv : xOf v = some u) (ho : o.dst = none) (hop : o.op = .store t x v)
    (hr : ai (.sth y u n) f h = some (f', h')) (hk : Goes T μ act f' h' K) : o.wp T.P act w K Q := by
  simp only [ai] at hr
  split at hr
  · rename_i id q g' vs he hev
    split at hr
    · rename_i ty cs hg
      split at hr
      · rename_i hc
        obtain ⟨hvl, hl⟩ := hc
        simp at hr
        obtain ⟨rfl, rfl⟩ := hr
        obtain ⟨p, h1, h2⟩ := ev1_ok hi.fp hx he
        obtain ⟨a, b, arr, c, dd, rest, q1, q2⟩ := hi.hp.own id p ty cs h1 hg
        have h4 := (evp_ok hi.fp hv hev).cells
        have hsz : (act.eval v).cells.size = n := by have := h4.length; simp at this; omega
        have hla : cs.length ≤ arr.size := by have := q1.length; simp at this; omega
        have h5 := run_storeVar (P := T.P) hs w p.blk q ty c hsz (by omega) (CR.ones h4)
        have h2' : act.eval x = .pointer (some ⟨p.blk, q, none⟩) := by rw [h2, a, Nat.zero_add]
        refine wp_skip' (w' := w.setRow p.blk (setL arr.toList q (act.eval v).cells.toList).toArray) (by simp [execOp, hop, Instr.storeAt, h2', Instr.sureAddr, h5]) ?_
        rw [ho]
        have hvl2 : (act.eval v).cells.toList.length = n := by simpa using hsz
        have hlen : (setL cs q vs).length = cs.length := setL_length _ _ _
        have ht : (setL arr.toList q (act.eval v).cells.toList).take cs.length = setL (arr.toList.take cs.length) q (act.eval v).cells.toList := by
          rw [setL_eq _ _ _ (by simp [hvl2]; omega), setL_eq _ _ _ (by simp [hvl2]; omega)]
          have e0 : (arr.toList.take cs.length).take q = arr.toList.take q := by rw [List.take_take]; congr 1; omega
          rw [e0, hvl2]
          have e1 : (arr.toList.take q ++ (act.eval v).cells.toList).length = q + n := by simp [hvl2]; omega
          rw [List.take_append, e1]
          rw [List.take_of_length_le (by rw [e1]; omega)]
          congr 1
          rw [List.drop_take]
        refine hk μ L act _ (hi.setOwn h1 hg c (by simp [setL_length]) (rest := (setL arr.toList q (act.eval v).cells.toList).drop cs.length) ?_ ?_) (MuLe.refl _) rfl
        · rw [hlen]
          simp only [ht]
          exact All2.setL q q1 h4
        · rw [hlen]; simp
      · simp at hr
    · simp at hr
  · simp at hr
end
end
end Go.Eng
namespace Go.Eng
section
variable {T : Ctx} {μ μ' : Mu} {L : Nat → Nat} {f f' : Fr} {h h' : H} {w w' : World} {act : Act}
variable {o : Oper} {K : Act → World → Prop} {Q : Exit → Act → World → Prop} {d : Nat}
theorem fin_lref (hi : INV T μ L f act.tmps h w) (ho : o.dst = some d) (hd : d < T.I.nt ∧ T.I.env.lookup d ≠ some d) {x : Operand} (hh : T.I.hand d x = true) {r q : Nat} (hroot : T.I.root x = some r) (hbox : ∃ cs, f.get r = .box cs)
    (hr : (execOp act.eval o).run T.P w = .ok (.value (.pointer (some ⟨L r, q, none⟩))) w) (hk : Goes T μ act (f.set d (.lref r q)) h K) : o.wp T.P act w K Q := by
  refine wp_val hr ?_
  rw [ho]
  have h4 : T.I.env.lookup d = some r := by simpa [Inf.hand, hroot] using hh
  exact hk μ L _ w (hi.put (by rw [hi.fp.nt]; exact hd.1) hd.2 rfl rfl (fun r' o' e => by cases e; exact ⟨h4, hbox⟩)) (MuLe.refl _) rfl
theorem ok_fad (hi : INV T μ L f act.tmps h w) {t : TypeId} {fs : Array Field} {k : Nat} {fl : Field} {j : TypeInfo} (ht : T.P.underlying t = some (.struct fs)) (hf : fs[k]? = some fl) (hj : T.P.info? fl.type = some j) (hj0 : j.size ≠ 0)
    {x : Operand} {y : X} (hx : xOf x = some y) (hh : T.I.hand d x = true) (ho : o.dst = some d) (hop : o.op = .fieldAddr t x k) (hd : d < T.I.nt ∧ T.I.env.lookup d ≠ some d)
    (hr : ai (.fad d y fl.offset) f h = some (f', h')) (hk : Goes T μ act f' h' K) : o.wp T.P act w K Q := by
  simp only [ai] at hr
  split at hr
  · rename_i r q he
    simp at hr
    obtain ⟨rfl, rfl⟩ := hr
    obtain ⟨h1, h2, h3⟩ := lref_ok hi.fp hx he
    exact fin_lref hi ho hd hh h2 h3 (by simp [execOp, hop, Instr.fieldAt, run_underlying ht, hf, h1, Instr.sureAddr, fieldPlace, sizeOf, typeInfo, hj, hj0, add_at]) hk
  · rename_i id q he
    simp at hr
    obtain ⟨rfl, rfl⟩ := hr
    obtain ⟨p, h1, h2⟩ := ev1_ok hi.fp hx (by simp [ev1, he] : ev1 f y = some (.ptr id q))
    exact fin1 (c := .ptr id (q + fl.offset)) (v := .pointer (some ⟨p.blk, p.off + q + fl.offset, none⟩)) hi ho hd (by simp [execOp, hop, Instr.fieldAt, run_underlying ht, hf, h2, Instr.sureAddr, fieldPlace, sizeOf, typeInfo, hj, hj0, add_at]) ⟨p, h1, by rw [Nat.add_assoc]⟩ hk
  · simp at hr
theorem run_part {P : Program} {t : TypeId} {n : Nat} {g : Bool} (hs : szOf P t = some (n, g)) (w : World) {arr : Array Value} {cs : List C} {off : Nat} (hc : All2 (CR μ) cs arr.toList) (hl : off + n ≤ cs.length) :
    ∃ v, (part t arr off).run P w = .ok v w ∧ VG μ g ((cs.drop off).take n) v := by
  obtain ⟨i, h1, h2, h3, h4⟩ := szOf_spec hs
  have hq := (hc.drop off).take n
  cases g with
  | true =>
    refine ⟨.agg (arr.extract off (off + n)), ?_, _, rfl, ?_⟩
    · simp [part, run_agg h3, run_sz h1, h2]
    · have : (arr.extract off (off + n)).toList = (arr.toList.drop off).take n := by simp [Array.toList_extract, List.extract_eq_take_drop]
      rw [this]; exact hq
  | false =>
    have h5 : n = 1 := by rcases h4 with h | h; cases h; exact h
    subst h5
    have hlen := hc.length
    have hlt : off < arr.size := by simp at hlen; omega
    have e1 : (arr.toList.drop off).take 1 = [arr[off]] := by
      rw [List.drop_eq_getElem_cons (by simpa using hlt), List.take_succ_cons, List.take_zero]; simp
    have e2 : (cs.drop off).take 1 = [cs[off]'(by omega)] := by
      rw [List.drop_eq_getElem_cons (by omega), List.take_succ_cons, List.take_zero]
    rw [e1, e2] at hq
    refine ⟨arr[off], ?_, cs[off]'(by omega), e2, hq.1⟩
    simp [part, run_agg h3, hlt]
theorem ok_fld (hi : INV T μ L f act.tmps h w) {t : TypeId} {fs : Array Field} {k n : Nat} {g : Bool} {fl : Field} (ht : T.P.underlying t = some (.struct fs)) (hf : fs[k]? = some fl) (hs : szOf T.P fl.type = some (n, g))
    {x : Operand} {y : X} (hx : xOf x = some y) (ho : o.dst = some d) (hop : o.op = .field t x k) (hd : d < T.I.nt ∧ T.I.env.lookup d ≠ some d)
    (hr : ai (.fld d y fl.offset n g) f h = some (f', h')) (hk : Goes T μ act f' h' K) : o.wp T.P act w K Q := by
  simp only [ai] at hr
  split at hr
  · rename_i cs he
    split at hr
    · rename_i hl
      simp at hr
      obtain ⟨rfl, rfl⟩ := hr
      obtain ⟨arr, h1, h2⟩ := evp_ok hi.fp hx he
      obtain ⟨v, h3, h4⟩ := run_part hs w h2 hl
      exact fin hi ho hd (by simp [execOp, hop, Instr.field, run_underlying ht, hf, h1, asAgg, h3]) h4 hk
    · simp at hr
  · simp at hr
theorem ok_iad (hi : INV T μ L f act.tmps h w) {t e : TypeId} {j : TypeInfo} (ht : T.P.underlying t = some (.slice e)) (hj : T.P.info? e = some j)
    {x i : Operand} {y u : X} (hx : xOf x = some y) (hiu : xOf i = some u) (ho : o.dst = some d) (hop : o.op = .indexAddr t x i) (hd : d < T.I.nt ∧ T.I.env.lookup d ≠ some d)
    (hr : ai (.iad d y u j.size) f h = some (f', h')) (hk : Goes T μ act f' h' K) : o.wp T.P act w K Q := by
  simp only [ai] at hr
  split at hr
  · rename_i c kk jj he1 he2
    split at hr
    · rename_i id' o' hat
      simp at hr
      obtain ⟨rfl, rfl⟩ := hr
      unfold atC at hat
      split at hat
      · rename_i id off len e'
        split at hat
        · rename_i hc
          obtain ⟨rfl, h0, h1⟩ := hc
          simp only [Option.some.injEq, Prod.mk.injEq] at hat
          obtain ⟨rfl, rfl⟩ := hat
          obtain ⟨p, a, cap, h2, h3, h4, h5, h6⟩ := ev1_ok hi.fp hx he1
          have h7 : act.eval i = .int kk jj := ev1_ok hi.fp hiu he2
          have ha : a = ⟨p.blk, p.off + off, none⟩ := h5.resolve_left (by omega)
          subst ha
          exact fin1 (c := .ptr id (off + jj.toNat * j.size)) (v := .pointer (some ⟨p.blk, p.off + off + jj.toNat * j.size, none⟩)) hi ho hd (by simp [execOp, hop, Instr.indexAt, run_underlying ht, h3, h7, asIntOf, h0, h1, sizeOf, typeInfo, hj, add_at]) ⟨p, h2, by rw [Nat.add_assoc]⟩ hk
        · simp at hat
      · simp at hat
    · simp at hr
  · simp at hr
theorem ok_iaa (hi : INV T μ L f act.tmps h w) {t e : TypeId} {n : Nat} {j : TypeInfo} (ht : T.P.underlying t = some (.array n e)) (hj : T.P.info? e = some j) (hn : 1 < n)
    {x i : Operand} {y u : X} (hx : xOf x = some y) (hiu : xOf i = some u) (hh : T.I.hand d x = true) (ho : o.dst = some d) (hop : o.op = .indexAddr t x i) (hd : d < T.I.nt ∧ T.I.env.lookup d ≠ some d)
    (hr : ai (.iaa d y u j.size n) f h = some (f', h')) (hk : Goes T μ act f' h' K) : o.wp T.P act w K Q := by
  simp only [ai] at hr
  split at hr
  · rename_i kk jj he2
    split at hr
    · rename_i hc
      obtain ⟨h0, h1⟩ := hc
      have h7 : act.eval i = .int kk jj := ev1_ok hi.fp hiu he2
      split at hr
      · rename_i r q he
        simp at hr
        obtain ⟨rfl, rfl⟩ := hr
        obtain ⟨h2, h3, h4⟩ := lref_ok hi.fp hx he
        exact fin_lref hi ho hd hh h3 h4 (by simp [execOp, hop, Instr.indexAt, run_underlying ht, h2, h7, asIntOf, h0, h1, sizeOf, typeInfo, hj, add_at, Instr.sureAddr]) hk
      · rename_i id q he
        simp at hr
        obtain ⟨rfl, rfl⟩ := hr
        obtain ⟨p, h2, h3⟩ := ev1_ok hi.fp hx (by simp [ev1, he] : ev1 f y = some (.ptr id q))
        exact fin1 (c := .ptr id (q + jj.toNat * j.size)) (v := .pointer (some ⟨p.blk, p.off + q + jj.toNat * j.size, none⟩)) hi ho hd (by simp [execOp, hop, Instr.indexAt, run_underlying ht, h3, h7, asIntOf, h0, h1, sizeOf, typeInfo, hj, add_at, Instr.sureAddr]) ⟨p, h2, by rw [Nat.add_assoc]⟩ hk
      · simp at hr
    · simp at hr
  · simp at hr
theorem ok_idx (hi : INV T μ L f act.tmps h w) {t e : TypeId} {n m : Nat} {g : Bool} (ht : T.P.underlying t = some (.array n e)) (hs : szOf T.P e = some (m, g))
    {x i : Operand} {y u : X} (hx : xOf x = some y) (hiu : xOf i = some u) (ho : o.dst = some d) (hop : o.op = .index t x i) (hd : d < T.I.nt ∧ T.I.env.lookup d ≠ some d)
    (hr : ai (.idx d y u m n g) f h = some (f', h')) (hk : Goes T μ act f' h' K) : o.wp T.P act w K Q := by
  simp only [ai] at hr
  split at hr
  · rename_i cs kk jj he1 he2
    split at hr
    · rename_i hc
      obtain ⟨h0, h1, hl⟩ := hc
      simp at hr
      obtain ⟨rfl, rfl⟩ := hr
      have h7 : act.eval i = .int kk jj := ev1_ok hi.fp hiu he2
      obtain ⟨arr, h2, h3⟩ := evp_ok hi.fp hx he1
      obtain ⟨v, h4, h5⟩ := run_part hs w h3 hl
      obtain ⟨ii, k1, k2, _, _⟩ := szOf_spec hs
      exact fin hi ho hd (by simp [execOp, hop, Instr.index, run_underlying ht, h2, h7, asIntOf, h0, h1, run_sz k1, k2, h4]) h5 hk
    · simp at hr
  · simp at hr
theorem ok_ids (hi : INV T μ L f act.tmps h w) {t : TypeId} (ht : T.P.underlying t = some .string)
    {x i : Operand} {y u : X} (hx : xOf x = some y) (hiu : xOf i = some u) (ho : o.dst = some d) (hop : o.op = .index t x i) (hd : d < T.I.nt ∧ T.I.env.lookup d ≠ some d)
    (hr : ai (.ids d y u) f h = some (f', h')) (hk : Goes T μ act f' h' K) : o.wp T.P act w K Q := by
  simp only [ai] at hr
  split at hr
  · rename_i s kk jj he1 he2
    split at hr
    · rename_i h0
      split at hr
      · rename_i b hb
        simp at hr
        obtain ⟨rfl, rfl⟩ := hr
        have h7 : act.eval i = .int kk jj := ev1_ok hi.fp hiu he2
        have h2 : act.eval x = .string s := ev1_ok hi.fp hx he1
        have hb' : s[jj.toNat]? = some b := by
          have hlt : jj.toNat < s.data.toList.length := (List.getElem?_eq_some_iff.1 hb).1
          have hlt' : jj.toNat < s.size := by simpa using hlt
          have e : s[jj.toNat]? = some s[jj.toNat] := by exact getElem?_pos s _ hlt'
          rw [e]
          rw [List.getElem?_eq_getElem hlt] at hb
          cases hb
          rfl
        exact fin1 (c := .int .u8 (b.toNat : Int)) (v := .int .u8 (b.toNat : Int)) hi ho hd (by simp [execOp, hop, Instr.index, run_underlying ht, h2, h7, asIntOf, h0, hb']) rfl hk
      · simp at hr
    · simp at hr
  · simp at hr
theorem ok_ext (hi : INV T μ L f act.tmps h w) {i : Nat} {x : Operand} {y : X} (hx : xOf x = some y) (ho : o.dst = some d) (hop : o.op = .extract x i) (hd : d < T.I.nt ∧ T.I.env.lookup d ≠ some d)
    (hr : ai (.ext d y i) f h = some (f', h')) (hk : Goes T μ act f' h' K) : o.wp T.P act w K Q := by
  simp only [ai] at hr
  split at hr
  · rename_i vs he
    split at hr
    · rename_i g cs hg
      simp at hr
      obtain ⟨rfl, rfl⟩ := hr
      obtain ⟨arr, h1, h2⟩ := (ev_ok hi.fp hx).2.1 vs he
      obtain ⟨v, h3, h4⟩ := h2.get hg
      have h3' : arr[i]? = some v := by simpa using h3
      exact fin hi ho hd (by simp [execOp, hop, Instr.extract, h1, h3']) h4 hk
    · simp at hr
  · simp at hr
theorem ok_nch (hi : INV T μ L f act.tmps h w) {x : Operand} {y : X} (hx : xOf x = some y) (hh : T.I.hand d x = true) (ho : o.dst = some d) (hop : o.op = .nilCheck x) (hd : d < T.I.nt ∧ T.I.env.lookup d ≠ some d)
    (hr : ai (.nch d y) f h = some (f', h')) (hk : Goes T μ act f' h' K) : o.wp T.P act w K Q := by
  simp only [ai] at hr
  split at hr
  · rename_i r q he
    simp at hr
    obtain ⟨rfl, rfl⟩ := hr
    obtain ⟨h1, h2, h3⟩ := lref_ok hi.fp hx he
    exact fin_lref hi ho hd hh h2 h3 (by simp [execOp, hop, h1]) hk
  · rename_i id q he
    simp at hr
    obtain ⟨rfl, rfl⟩ := hr
    obtain ⟨p, h1, h2⟩ := ev1_ok hi.fp hx (by simp [ev1, he] : ev1 f y = some (.ptr id q))
    exact fin1 (c := .ptr id q) (v := .pointer (some ⟨p.blk, p.off + q, none⟩)) hi ho hd (by simp [execOp, hop, h2]) ⟨p, h1, rfl⟩ hk
  · rename_i g he
    simp at hr
    obtain ⟨rfl, rfl⟩ := hr
    have h2 : act.eval x = .func (.func g) #[] #[] := ev1_ok hi.fp hx (by simp [ev1, he] : ev1 f y = some (.fn g))
    exact fin1 (c := .fn g) (v := .func (.func g) #[] #[]) hi ho hd (by simp [execOp, hop, h2]) rfl hk
  · simp at hr
theorem ok_neg (hi : INV T μ L f act.tmps h w) {t : TypeId} {x : Operand} {y : X} (hx : xOf x = some y) (ho : o.dst = some d) (hop : o.op = .unOp .neg t x) (hd : d < T.I.nt ∧ T.I.env.lookup d ≠ some d)
    (hr : ai (.neg d y) f h = some (f', h')) (hk : Goes T μ act f' h' K) : o.wp T.P act w K Q := by
  simp only [ai] at hr
  split at hr
  · rename_i k n he
    simp only [Option.some.injEq, Prod.mk.injEq] at hr
    obtain ⟨rfl, rfl⟩ := hr
    have h2 : act.eval x = .int k n := ev1_ok hi.fp hx he
    exact fin1 (c := .int k (k.wrap (0 - n))) (v := .int k (k.wrap (0 - n))) hi ho hd (by simp [execOp, hop, h2, Op.unary, Op.intArith]) rfl hk
  · simp at hr
theorem ok_not (hi : INV T μ L f act.tmps h w) {t : TypeId} {x : Operand} {y : X} (hx : xOf x = some y) (ho : o.dst = some d) (hop : o.op = .unOp .not t x) (hd : d < T.I.nt ∧ T.I.env.lookup d ≠ some d)
    (hr : ai (.not d y) f h = some (f', h')) (hk : Goes T μ act f' h' K) : o.wp T.P act w K Q := by
  simp only [ai] at hr
  split at hr
  · rename_i b he
    simp at hr
    obtain ⟨rfl, rfl⟩ := hr
    have h2 : act.eval x = .bool b := ev1_ok hi.fp hx he
    exact fin1 (c := .bool (!b)) (v := .bool (!b)) hi ho hd (by simp [execOp, hop, h2, Op.unary]) rfl hk
  · simp at hr
theorem run_bin {P : Program} {t : TypeId} {x y : Operand} (op : BinOp) {a b : Value} {ca cb c : C} (ha : CR μ ca a) (hb : CR μ cb b) (hc : bin2 (b2Of op) ca cb = some c) (w : World) :
    ∃ v, (eqGuard op t x y a b).run P w = .ok () w ∧ (binOp op t a b).run P w = .ok v w ∧ CR μ c v := by
  cases ca with
  | int k a1 =>
    have ha' : a = .int k a1 := ha
    subst ha'
    cases cb with
    | int k' b1 =>
      have hb' : b = .int k' b1 := hb
      subst hb'
      have hguard : (eqGuard op t x y (.int k a1) (.int k' b1)).run P w = .ok () w := by
        cases op <;> simp [eqGuard]
      by_cases hkk : k = k'
      · subst hkk
        cases op <;> simp only [bin2, b2Of, ne_eq, not_true, if_false, Option.some.injEq] at hc
        case quo =>
          split at hc
          · simp at hc
          · rename_i h0
            simp only [Option.some.injEq] at hc
            subst hc
            exact ⟨_, hguard, by simp [binOp, Op.intDiv, h0], rfl⟩
        case rem =>
          split at hc
          · simp at hc
          · rename_i h0
            simp only [Option.some.injEq] at hc
            subst hc
            exact ⟨_, hguard, by simp [binOp, Op.intDiv, h0], rfl⟩
        case shl =>
          split at hc
          · simp at hc
          · rename_i h0
            simp only [Option.some.injEq] at hc
            subst hc
            exact ⟨_, hguard, by simp [binOp, Op.shift, h0], rfl⟩
        case shr =>
          split at hc
          · simp at hc
          · rename_i h0
            simp only [Option.some.injEq] at hc
            subst hc
            exact ⟨_, hguard, by simp [binOp, Op.shift, h0], rfl⟩
        all_goals
          subst hc
          refine ⟨_, hguard, ?_, rfl⟩
          simp [binOp, Op.intArith, Op.intCmp, Op.intBits, bits2]
      · cases op <;> simp only [bin2, b2Of, ne_eq, hkk, not_false_eq_true, if_true, reduceCtorEq] at hc
        case shl =>
          split at hc
          · simp at hc
          · rename_i h0
            simp only [Option.some.injEq] at hc
            subst hc
            exact ⟨_, hguard, by simp [binOp, Op.shift, h0], rfl⟩
        case shr =>
          split at hc
          · simp at hc
          · rename_i h0
            simp only [Option.some.injEq] at hc
            subst hc
            exact ⟨_, hguard, by simp [binOp, Op.shift, h0], rfl⟩
    | _ => cases op <;> simp [bin2, b2Of] at hc
  | str a1 =>
    have ha' : a = .string a1 := ha
    subst ha'
    cases cb with
    | str b1 =>
      have hb' : b = .string b1 := hb
      subst hb'
      have hguard : (eqGuard op t x y (.string a1) (.string b1)).run P w = .ok () w := by
        cases op <;> simp [eqGuard]
      cases op <;> simp only [bin2, b2Of, Option.some.injEq, reduceCtorEq] at hc
      case add =>
        split at hc
        · simp at hc
        · rename_i h0
          simp only [Option.some.injEq] at hc
          subst hc
          exact ⟨_, hguard, by simp only [binOp, Op.stringOp, h0, if_false]; rfl, rfl⟩
      all_goals
        subst hc
        refine ⟨_, hguard, ?_, rfl⟩
        simp [binOp, Op.stringOp]
    | _ => cases op <;> simp [bin2, b2Of] at hc
  | _ => cases cb <;> cases op <;> simp [bin2, b2Of] at hc
theorem ok_bin (hi : INV T μ L f act.tmps h w) {t u : TypeId} {op : BinOp} {x y : Operand} {a b : X} (hx : xOf x = some a) (hy : xOf y = some b) (ho : o.dst = some d) (hop : o.op = .binOp op t x y u) (hd : d < T.I.nt ∧ T.I.env.lookup d ≠ some d)
    (hr : ai (.bin d (b2Of op) a b) f h = some (f', h')) (hk : Goes T μ act f' h' K) : o.wp T.P act w K Q := by
  simp only [ai] at hr
  split at hr
  · rename_i ca cb he1 he2
    split at hr
    · rename_i c hc
      simp at hr
      obtain ⟨rfl, rfl⟩ := hr
      obtain ⟨v, h1, h2, h3⟩ := run_bin (P := T.P) (t := t) (x := x) (y := y) op (ev1_ok hi.fp hx he1) (ev1_ok hi.fp hy he2) hc w
      exact fin1 hi ho hd (by simp [execOp, hop, h1, h2]) h3 hk
    · simp at hr
  · simp at hr
theorem run_equal_bool {P : Program} {t : TypeId} (ht : P.underlying t = some .bool) (p q : Bool) (w : World) : (Op.equal t (.bool p) (.bool q)).run P w = .ok (p == q) w := by
  have : ∀ n, (Op.equalIn (n + 1) t (.bool p) (.bool q)).run P w = .ok (p == q) w := fun n => by simp [Op.equalIn, run_underlying ht]
  exact this 9999
theorem run_equal_nil {P : Program} {t e : TypeId} (ht : P.underlying t = some (.slice e)) (a : Option Addr) (n c : Nat) (w : World) : (Op.equal t (.slice a n c) (.slice none 0 0)).run P w = .ok a.isNone w := by
  have : ∀ m, (Op.equalIn (m + 1) t (.slice a n c) (.slice none 0 0)).run P w = .ok a.isNone w := fun m => by cases a <;> simp [Op.equalIn, run_underlying ht]
  exact this 9999
theorem run_eq_bool {P : Program} {t : TypeId} (ht : P.underlying t = some .bool) (x y : Operand) (p q : Bool) (w : World) : (do eqGuard .eql t x y (.bool p) (.bool q); binOp .eql t (.bool p) (.bool q)).run P w = .ok (.bool (p == q)) w := by
  simp only [eqGuard, binOp, Sem.run_bind, run_equal_bool ht]; rfl
theorem run_ne_bool {P : Program} {t : TypeId} (ht : P.underlying t = some .bool) (x y : Operand) (p q : Bool) (w : World) : (do eqGuard .neq t x y (.bool p) (.bool q); binOp .neq t (.bool p) (.bool q)).run P w = .ok (.bool (!(p == q))) w := by
  simp only [eqGuard, binOp, Sem.run_bind, run_equal_bool ht]; rfl
theorem run_eq_nil {P : Program} {t e : TypeId} (ht : P.underlying t = some (.slice e)) (x y : Operand) (a : Option Addr) (n c : Nat) (w : World) : (do eqGuard .eql t x y (.slice a n c) (.slice none 0 0); binOp .eql t (.slice a n c) (.slice none 0 0)).run P w = .ok (.bool a.isNone) w := by
  simp only [eqGuard, binOp, Sem.run_bind, run_equal_nil ht]; rfl
theorem run_ne_nil {P : Program} {t e : TypeId} (ht : P.underlying t = some (.slice e)) (x y : Operand) (a : Option Addr) (n c : Nat) (w : World) : (do eqGuard .neq t x y (.slice a n c) (.slice none 0 0); binOp .neq t (.slice a n c) (.slice none 0 0)).run P w = .ok (.bool (!a.isNone)) w := by
  simp only [eqGuard, binOp, Sem.run_bind, run_equal_nil ht]; rfl
theorem exec_bin {op : BinOp} {t u : TypeId} {x y : Operand} {P : Program} (hop : o.op = .binOp op t x y u) {v : Value} (h : (do eqGuard op t x y (act.eval x) (act.eval y); binOp op t (act.eval x) (act.eval y)).run P w = .ok v w') : (execOp act.eval o).run P w = .ok (.value v) w' := by
  simp only [execOp, hop]
  rw [Sem.run_bind, h]
  rfl
theorem ok_beq (hi : INV T μ L f act.tmps h w) {t u : TypeId} {op : BinOp} {neg : Bool} (hneg : (op = .eql ∧ neg = false) ∨ (op = .neq ∧ neg = true)) (ht : T.P.underlying t = some .bool) {x y : Operand} {a b : X} (hx : xOf x = some a) (hy : xOf y = some b) (ho : o.dst = some d) (hop : o.op = .binOp op t x y u)
    (hd : d < T.I.nt ∧ T.I.env.lookup d ≠ some d) (hr : ai (.beq d neg a b) f h = some (f', h')) (hk : Goes T μ act f' h' K) : o.wp T.P act w K Q := by
  simp only [ai] at hr
  split at hr
  · rename_i p q he1 he2
    simp only [Option.some.injEq, Prod.mk.injEq] at hr
    obtain ⟨rfl, rfl⟩ := hr
    have h1 : act.eval x = .bool p := ev1_ok hi.fp hx he1
    have h2 : act.eval y = .bool q := ev1_ok hi.fp hy he2
    rcases hneg with ⟨rfl, rfl⟩ | ⟨rfl, rfl⟩
    · exact fin1 hi ho hd (v := .bool (p == q)) (c := .bool (p == q)) (exec_bin hop (by rw [h1, h2]; exact run_eq_bool ht _ _ _ _ _)) rfl hk
    · exact fin1 hi ho hd (v := .bool (!(p == q))) (c := .bool (!(p == q))) (exec_bin hop (by rw [h1, h2]; exact run_ne_bool ht _ _ _ _ _)) rfl hk
  · simp at hr
theorem ok_snil (hi : INV T μ L f act.tmps h w) {t u e : TypeId} {op : BinOp} {neg : Bool} (hneg : (op = .eql ∧ neg = false) ∨ (op = .neq ∧ neg = true)) (ht : T.P.underlying t = some (.slice e)) {x : Operand} {a : X} (hx : xOf x = some a) (ho : o.dst = some d) (hop : o.op = .binOp op t x (.const (.slice none 0 0)) u)
    (hd : d < T.I.nt ∧ T.I.env.lookup d ≠ some d) (hr : ai (.snil d neg a) f h = some (f', h')) (hk : Goes T μ act f' h' K) : o.wp T.P act w K Q := by
  have hc : act.eval (.const (.slice none 0 0)) = .slice none 0 0 := rfl
  have key : ∀ (ad : Option Addr) (n c : Nat) (b : Bool), act.eval x = .slice ad n c → b = ad.isNone → Goes T μ act (f.set d (.val false [.bool (if neg then !b else b)])) h K → o.wp T.P act w K Q := by
    intro ad n c b h1 hb hk
    subst hb
    rcases hneg with ⟨rfl, rfl⟩ | ⟨rfl, rfl⟩
    · exact fin1 hi ho hd (v := .bool ad.isNone) (c := .bool ad.isNone) (exec_bin hop (by rw [h1, hc]; exact run_eq_nil ht _ _ _ _ _ _)) rfl hk
    · exact fin1 hi ho hd (v := .bool (!ad.isNone)) (c := .bool (!ad.isNone)) (exec_bin hop (by rw [h1, hc]; exact run_ne_nil ht _ _ _ _ _ _)) rfl hk
  simp only [ai] at hr
  split at hr
  · rename_i id off len es he
    simp only [Option.some.injEq, Prod.mk.injEq] at hr
    obtain ⟨rfl, rfl⟩ := hr
    obtain ⟨p, ad, cap, _, h1, _⟩ := ev1_ok hi.fp hx he
    exact key (some ad) len cap false h1 rfl (by cases neg <;> exact hk)
  · rename_i he
    simp only [Option.some.injEq, Prod.mk.injEq] at hr
    obtain ⟨rfl, rfl⟩ := hr
    obtain ⟨ad, h1⟩ := ev1_ok hi.fp hx he
    exact key (some ad) 0 0 false h1 rfl (by cases neg <;> exact hk)
  · rename_i he
    simp only [Option.some.injEq, Prod.mk.injEq] at hr
    obtain ⟨rfl, rfl⟩ := hr
    have h1 : act.eval x = .slice none 0 0 := ev1_ok hi.fp hx he
    exact key none 0 0 true h1 rfl (by cases neg <;> exact hk)
  · simp at hr
end
end Go.Eng
namespace Go.Eng
section
variable {T : Ctx} {μ μ' : Mu} {L : Nat → Nat} {f f' : Fr} {h h' : H} {w w' : World} {act : Act}
variable {o : Oper} {K : Act → World → Prop} {Q : Exit → Act → World → Prop} {d : Nat}
theorem ok_cvi (hi : INV T μ L f act.tmps h w) {s t : TypeId} {k k0 : IntKind} (hs : T.P.underlying s = some (.int k0)) (ht : T.P.underlying t = some (.int k)) {x : Operand} {y : X} (hx : xOf x = some y) (ho : o.dst = some d) (hop : o.op = .convert s t x) (hd : d < T.I.nt ∧ T.I.env.lookup d ≠ some d)
    (hr : ai (.cvi d k y) f h = some (f', h')) (hk : Goes T μ act f' h' K) : o.wp T.P act w K Q := by
  simp only [ai] at hr
  split at hr
  · rename_i kk n he
    simp only [Option.some.injEq, Prod.mk.injEq] at hr
    obtain ⟨rfl, rfl⟩ := hr
    have h2 : act.eval x = .int kk n := ev1_ok hi.fp hx he
    exact fin1 (c := .int k (k.wrap n)) (v := .int k (k.wrap n)) hi ho hd (by simp [execOp, hop, convert, run_underlying hs, run_underlying ht, h2, Conv.intToInt]) rfl hk
  · simp at hr
theorem slice_at (hh : HP T μ h w) {c : C} {v : Value} {cs : List C} (hc : CR μ c v) (hs : h.slice c = some cs) :
    (c = .nils ∧ v = .slice none 0 0 ∧ cs = []) ∨ ∃ a n cap us, v = .slice (some a) n cap ∧ All2 (CR μ) cs us ∧ (∀ j u, us[j]? = some u → w.cell? (a.add j) = some u) ∧ ((c = .emp ∧ n = 0 ∧ cs = []) ∨ ∃ id off e, c = .sl id off n e ∧ cs.length = n * e) := by
  cases c with
  | nils => simp [H.slice] at hs; exact .inl ⟨rfl, hc, hs⟩
  | emp =>
    obtain ⟨a, hv⟩ := hc
    simp [H.slice] at hs
    subst hs
    exact .inr ⟨a, 0, 0, [], hv, trivial, fun j u e => by simp at e, .inl ⟨rfl, rfl, rfl⟩⟩
  | sl id off len e =>
    obtain ⟨p, a, cap, hm, hv, hle, ha, hlim⟩ := hc
    simp only [H.slice] at hs
    split at hs
    · rename_i cs' hcs
      split at hs
      · rename_i hl
        simp at hs
        subst hs
        obtain ⟨us, h1, h2⟩ := cells_at hh hm hcs
        have hlen : ((cs'.drop off).take (len * e)).length = len * e := part_len hl
        refine .inr ⟨a, len, cap, (us.drop off).take (len * e), hv, (h1.drop off).take _, ?_, .inr ⟨id, off, e, rfl, hlen⟩⟩
        intro j u hj
        rcases ha with h0 | h0
        · have : len = 0 := by omega
          subst this
          simp at hj
        · rw [h0, add_at, Nat.add_assoc]
          exact h2 _ _ (part_get hj)
      · simp at hs
    · simp at hs
  | _ => simp [H.slice] at hs
theorem bytesOf_spec : ∀ {cs : List C} {b : ByteArray} {us : List Value}, bytesOf cs = some b → All2 (CR μ) cs us → ∃ xs : List Int, us = xs.map (Value.int .u8) ∧ b = strOfNums xs
  | [], b, [], h, _ => by simp [bytesOf] at h; subst h; exact ⟨[], rfl, rfl⟩
  | [], b, _ :: _, _, h => h.elim
  | _ :: _, b, [], _, h => h.elim
  | c :: cs, b, u :: us, h, hc => by
    cases c with
    | int k n =>
      cases k with
      | u8 =>
        simp only [bytesOf] at h
        split at h
        · rename_i b' hb'
          simp at h
          subst h
          obtain ⟨xs, h1, h2⟩ := bytesOf_spec hb' hc.2
          have h3 : u = .int .u8 n := hc.1
          refine ⟨n :: xs, by rw [h1, h3]; rfl, ?_⟩
          subst h2
          simp [strOfNums]
        · simp at h
      | _ => simp [bytesOf] at h
    | _ => simp [bytesOf] at h
theorem ok_cbs (hi : INV T μ L f act.tmps h w) {s t e : TypeId} (hs : T.P.underlying s = some (.slice e)) (he : T.P.underlying e = some (.int .u8)) (ht : T.P.underlying t = some .string) {x : Operand} {y : X} (hx : xOf x = some y) (ho : o.dst = some d) (hop : o.op = .convert s t x) (hd : d < T.I.nt ∧ T.I.env.lookup d ≠ some d)
    (hr : ai (.cbs d y) f h = some (f', h')) (hk : Goes T μ act f' h' K) : o.wp T.P act w K Q := by
  simp only [ai] at hr
  split at hr
  · rename_i c hc
    split at hr
    · rename_i cs hcs
      split at hr
      · rename_i b hb
        simp only [Option.some.injEq, Prod.mk.injEq] at hr
        obtain ⟨rfl, rfl⟩ := hr
        have hcs' : h.slice c = some cs := by
          unfold H.bytes at hcs
          split at hcs
          · split at hcs
            · exact hcs
            · simp at hcs
          · exact hcs
        rcases slice_at hi.hp (ev1_ok hi.fp hx hc) hcs' with ⟨_, h1, h2⟩ | ⟨a, n, cap, us, h1, h2, h3, h4⟩
        · subst h2
          simp [bytesOf] at hb
          subst hb
          exact fin1 (c := .str _) (v := .string ByteArray.empty) hi ho hd (by simp [execOp, hop, h1, run_convert_bytes_nil w s e hs he 0 0 t ht]) rfl hk
        · obtain ⟨xs, h5, h6⟩ := bytesOf_spec hb h2
          have hn : us.length = n := by
            have := h2.length
            rcases h4 with ⟨_, h7, h8⟩ | ⟨id, off, e', h7, h8⟩
            · subst h8; simp at this; omega
            · rw [← this, h8]
              subst h7
              simp only [H.bytes] at hcs
              split at hcs
              · rename_i h9; rcases h9 with h9 | h9 <;> simp [h9]
              · simp at hcs
          have hl := run_loadCells_list (P := T.P) w a us h3
          rw [hn, h5] at hl
          subst h6
          refine fin1 (c := .str (strOfNums xs)) (v := .string (strOfNums xs)) hi ho hd ?_ rfl hk
          have := run_bytesToString (P := T.P) w a n cap xs hl
          rw [foldl_push_bytes] at this
          have e2 : (⟨ByteArray.empty.data ++ (xs.map fun n => UInt8.ofNat n.toNat).toArray⟩ : ByteArray) = strOfNums xs := by simp [strOfNums, ByteArray.empty, ByteArray.emptyWithCapacity]; rfl
          rw [e2] at this
          simp [execOp, hop, h1, run_convert_bytes_string w s t e _ n cap hs he ht, this]
      · simp at hr
    · simp at hr
  · simp at hr
theorem foldl_setL (off : Nat) : ∀ (l : List Value) (k : Nat) (cs : Array Value), ((l.zipIdx k).foldl (fun cs (x : Value × Nat) => cs.setIfInBounds (off + x.2) x.1) cs).toList = setL cs.toList (off + k) l
  | [], k, cs => rfl
  | v :: l, k, cs => by
    simp only [List.zipIdx_cons, List.foldl_cons]
    rw [foldl_setL off l (k + 1)]
    simp [setL, Nat.add_assoc]
theorem fill_ok (hf : FP T μ L f act.tmps w) {place place' : Nat → Option (Nat × Nat)} (hp : ∀ i p, place i = some p → place' i = some p) : ∀ {l : List (Nat × Operand)} {qs : List (Nat × Nat × X)} {z cs : List C} {arr : Array Value},
    partsOf T.P place l = some qs → fillC f z qs = some cs → All2 (CR μ) z arr.toList → ∃ r, Instr.fill place' arr (l.map fun p => (p.1, act.eval p.2)) = some r ∧ All2 (CR μ) cs r.toList
  | [], qs, z, cs, arr, h1, h2, h3 => by
    simp [partsOf] at h1
    subst h1
    simp [fillC] at h2
    subst h2
    exact ⟨arr, rfl, h3⟩
  | (i, x) :: l, qs, z, cs, arr, h1, h2, h3 => by
    simp only [partsOf] at h1
    split at h1
    · rename_i off sz y ps e1 e2 e3
      simp at h1
      subst h1
      simp only [fillC] at h2
      split at h2
      · rename_i g vs he
        split at h2
        · rename_i hc
          have hv := (evp_ok hf e2 he).cells
          have hsz : (act.eval x).cells.size = sz := by have := hv.length; simp at this; omega
          have hal : off + sz ≤ arr.size := by have := h3.length; simp at this; omega
          have hset : ((act.eval x).cells.zipIdx.foldl (fun cs (x : Value × Nat) => cs.setIfInBounds (off + x.2) x.1) arr).toList = setL arr.toList off (act.eval x).cells.toList := by
            have := foldl_setL off (act.eval x).cells.toList 0 arr
            rw [Nat.add_zero] at this
            rw [← this]
            congr 1
            rw [← Array.foldl_toList]
            simp
          obtain ⟨r, h4, h5⟩ := fill_ok hf hp (arr := (act.eval x).cells.zipIdx.foldl (fun cs (x : Value × Nat) => cs.setIfInBounds (off + x.2) x.1) arr) e3 h2 (by rw [hset]; exact h3.setL off hv)
          refine ⟨r, ?_, h5⟩
          simp only [List.map_cons]
          unfold Instr.fill
          simp only [hp _ _ e1, hsz]
          have : ¬ ((sz ≠ sz) || off + sz > arr.size) = true := by simp; omega
          rw [if_neg (by simpa using this)]
          exact h4
        · simp at h2
      · simp at h2
    · simp at h1
theorem places_ok (P : Program) : ∀ (fs : List Field), fs.all (fun f => (P.info? f.type).isSome) = true → ∃ places, fs.mapM (fun f => (P.info? f.type).map fun i => (f.offset, i.size)) = some places ∧
    ∀ (i : Nat) (fl : Field) (j : TypeInfo), fs[i]? = some fl → P.info? fl.type = some j → places[i]? = some (fl.offset, j.size)
  | [], _ => ⟨[], rfl, fun i fl j h => by simp at h⟩
  | f :: fs, h => by
    simp only [List.all_cons, Bool.and_eq_true] at h
    obtain ⟨i, hi⟩ := Option.isSome_iff_exists.1 h.1
    obtain ⟨ps, h1, h2⟩ := places_ok P fs h.2
    refine ⟨(f.offset, i.size) :: ps, by simp [hi, h1], fun k fl j hk hj => ?_⟩
    cases k with
    | zero => simp at hk; subst hk; rw [hi] at hj; cases hj; rfl
    | succ k => exact h2 k fl j (by simpa using hk) hj
theorem parts_map (act : Act) (ps : Array (Nat × Operand)) : (ps.map fun (i, x) => (i, act.eval x)).toList = ps.toList.map fun p => (p.1, act.eval p.2) := by simp
theorem ok_bldS (hi : INV T μ L f act.tmps h w) {t : TypeId} {ps : Array (Nat × Operand)} {z : List C} {fs : Array Field} {qs : List (Nat × Nat × X)} (hz : zeroOf T.P t = some z) (ht : T.P.underlying t = some (.struct fs))
    (hq : partsOf T.P (fun i => match fs[i]? with | some f => (match T.P.info? f.type with | some j => some (f.offset, j.size) | none => none) | none => none) ps.toList = some qs) (hall : fs.toList.all (fun f => (T.P.info? f.type).isSome) = true)
    (ho : o.dst = some d) (hop : o.op = .build t ps) (hd : d < T.I.nt ∧ T.I.env.lookup d ≠ some d) (hr : ai (.bld d z qs) f h = some (f', h')) (hk : Goes T μ act f' h' K) : o.wp T.P act w K Q := by
  simp only [ai] at hr
  split at hr
  · rename_i cs hcs
    simp only [Option.some.injEq, Prod.mk.injEq] at hr
    obtain ⟨rfl, rfl⟩ := hr
    obtain ⟨it, zv, h1, h2, h3, h4⟩ := zeroOf_spec hz μ
    obtain ⟨places, h5, h6⟩ := places_ok T.P fs.toList hall
    obtain ⟨r, h7, h8⟩ := fill_ok hi.fp (place' := (places.toArray[·]?)) (by
      intro i p hp
      split at hp
      · rename_i fl hfl
        split at hp
        · rename_i j hj
          simp at hp
          subst hp
          have := h6 i fl j (by simpa using hfl) hj
          simpa using this
        · simp at hp
      · simp at hp) hq hcs h3
    have hb : T.P.built t (ps.map fun (i, x) => (i, act.eval x)).toList = some r := by
      rw [parts_map]
      simp [Program.built, h1, ht, h2, h5]
      simpa using h7
    exact fin (g := true) (cs := cs) hi ho hd (v := .agg r) (by simp only [execOp, hop, Sem.run_bind, run_build w t _ r hb, Result.andThen_ok]; rfl) ⟨r, rfl, h8⟩ hk
  · simp at hr
theorem ok_bldA (hi : INV T μ L f act.tmps h w) {t e : TypeId} {n : Nat} {j : TypeInfo} {ps : Array (Nat × Operand)} {z : List C} {qs : List (Nat × Nat × X)} (hz : zeroOf T.P t = some z) (ht : T.P.underlying t = some (.array n e)) (hj : T.P.info? e = some j)
    (hq : partsOf T.P (fun i => some (i * j.size, j.size)) ps.toList = some qs)
    (ho : o.dst = some d) (hop : o.op = .build t ps) (hd : d < T.I.nt ∧ T.I.env.lookup d ≠ some d) (hr : ai (.bld d z qs) f h = some (f', h')) (hk : Goes T μ act f' h' K) : o.wp T.P act w K Q := by
  simp only [ai] at hr
  split at hr
  · rename_i cs hcs
    simp only [Option.some.injEq, Prod.mk.injEq] at hr
    obtain ⟨rfl, rfl⟩ := hr
    obtain ⟨it, zv, h1, h2, h3, h4⟩ := zeroOf_spec hz μ
    obtain ⟨r, h7, h8⟩ := fill_ok hi.fp (place' := fun i => some (i * j.size, j.size)) (fun i p hp => hp) hq hcs h3
    have hb : T.P.built t (ps.map fun (i, x) => (i, act.eval x)).toList = some r := by
      rw [parts_map]
      simp [Program.built, h1, ht, h2, hj]
      simpa using h7
    exact fin (g := true) (cs := cs) hi ho hd (v := .agg r) (by simp only [execOp, hop, Sem.run_bind, run_build w t _ r hb, Result.andThen_ok]; rfl) ⟨r, rfl, h8⟩ hk
  · simp at hr
theorem rep_get {α : Type} (l : List α) : ∀ (n i : Nat) (x : α), (List.replicate n l).flatten[i]? = some x → l[i % l.length]? = some x
  | 0, i, x, h => by simp at h
  | n + 1, i, x, h => by
    simp only [List.replicate_succ, List.flatten_cons] at h
    by_cases hl : i < l.length
    · rw [List.getElem?_append_left hl] at h
      rwa [Nat.mod_eq_of_lt hl]
    · rw [List.getElem?_append_right (by omega)] at h
      have := rep_get l n (i - l.length) x h
      rwa [← Nat.mod_eq_sub_mod (by omega)] at this
theorem made_ok {z : List C} {zv : Array Value} (hz : All2 (CR μ) z zv.toList) (n : Nat) : All2 (CR μ) (List.replicate n z).flatten ((Array.range (n * zv.size)).map (zv[· % zv.size]!)).toList := by
  have hl := hz.length
  simp only [Array.length_toList] at hl
  refine All2.of_get (by simp [hl]) (fun i c v hc hv => ?_)
  have h1 := rep_get z n i c hc
  obtain ⟨u, h2, h3⟩ := hz.get h1
  simp only [Array.toList_map, List.getElem?_map, Array.toList_range] at hv
  by_cases hi : i < n * zv.size
  · rw [List.getElem?_range hi] at hv
    simp only [Option.map_some, Option.some.injEq] at hv
    rw [hl] at h2
    have h4 : zv[i % zv.size]? = some u := by simpa using h2
    have h5 : zv[i % zv.size]! = u := by
      rw [getElem!_def, h4]
    rw [h5] at hv
    rw [← hv]
    exact h3
  · rw [List.getElem?_eq_none (by simpa using hi)] at hv
    simp at hv
theorem lit_ok (hi : INV T μ L f act.tmps h w) {t e : TypeId} {len : Nat} {j : TypeInfo} {ps : Array (Nat × Operand)} {z : List C} {qs : List (Nat × Nat × X)} (hz : zeroOf T.P e = some z) (ht : T.P.underlying t = some (.slice e)) (hj : T.P.info? e = some j)
    (hq : partsOf T.P (fun i => some (i * j.size, j.size)) ps.toList = some qs) (hlen : len * j.size ≤ 2 ^ 24) (hj0 : 0 < j.size) (hl0 : len ≠ 0) (hop : o.op = .buildSlice t len ps) {cs : List C} (hcs : fillC f (List.replicate len z).flatten qs = some cs) :
    ∃ r, (execOp act.eval o).run T.P w = .ok (.value (.slice (some ⟨w.heap.size, 0, none⟩) len len)) (w.alloc (.cells r e (0, 0))) ∧ All2 (CR μ) cs r.toList := by
  obtain ⟨it, zv, h1, h2, h3, h4⟩ := zeroOf_spec hz μ
  rw [hj] at h1
  cases h1
  have hzs : zv.cells.size = j.size := by have := h3.length; simp at this; omega
  have hm := made_ok h3 len
  obtain ⟨r, h7, h8⟩ := fill_ok hi.fp (place' := fun i => some (i * j.size, j.size)) (fun i p hp => hp) hq hcs hm
  refine ⟨r, ?_, h8⟩
  have hpos : ¬ len * j.size = 0 := by
    intro e0
    rcases Nat.mul_eq_zero.1 e0 with e1 | e1
    · exact hl0 e1
    · omega
  have := run_buildSlice (P := T.P) w t e len (ps.map fun (i, x) => (i, act.eval x)) r j zv ht hj h2 (by omega) hpos (by
    rw [parts_map, ← hzs]
    rw [← hzs] at h7
    exact h7)
  simp only [execOp, hop, Sem.run_bind, this, Result.andThen_ok]
  rfl
theorem fillC_length : ∀ {qs : List (Nat × Nat × X)} {z cs : List C}, fillC f z qs = some cs → cs.length = z.length
  | [], z, cs, h => by simp [fillC] at h; subst h; rfl
  | (off, sz, x) :: qs, z, cs, h => by
    simp only [fillC] at h
    split at h
    · split at h
      · rw [fillC_length h, setL_length]
      · simp at h
    · simp at h
theorem ok_bsl (hi : INV T μ L f act.tmps h w) {t e : TypeId} {len : Nat} {j : TypeInfo} {ps : Array (Nat × Operand)} {z : List C} {qs : List (Nat × Nat × X)} (hz : zeroOf T.P e = some z) (ht : T.P.underlying t = some (.slice e)) (hj : T.P.info? e = some j)
    (hq : partsOf T.P (fun i => some (i * j.size, j.size)) ps.toList = some qs) (hlen : len * j.size ≤ 2 ^ 24) (hj0 : 0 < j.size) (hl0 : len ≠ 0) (ho : o.dst = some d) (hop : o.op = .buildSlice t len ps) (hd : d < T.I.nt ∧ T.I.env.lookup d ≠ some d)
    (hr : ai (.bsl d e j.size len z qs) f h = some (f', h')) (hk : Goes T μ act f' h' K) : o.wp T.P act w K Q := by
  simp only [ai] at hr
  split at hr
  · rename_i cs hcs
    simp only [Option.some.injEq, Prod.mk.injEq] at hr
    obtain ⟨rfl, rfl⟩ := hr
    obtain ⟨r, h1, h2⟩ := lit_ok hi hz ht hj hq hlen hj0 hl0 hop hcs
    have e1 := take_self h2.length
    have hzl : z.length = j.size := by obtain ⟨it, zv, k1, k2, k3, k4⟩ := zeroOf_spec hz μ; rw [hj] at k1; cases k1; exact k4
    have hsz : r.size = len * j.size := by
      have := h2.length
      rw [fillC_length hcs] at this
      simp [hzl] at this
      omega
    exact newId_fin (c := .sl h.length 0 len j.size) hi ho hd h1 (by rw [e1]; exact h2) (by rw [e1, List.append_nil]) (fun μ' hm => ⟨_, _, len, hm, rfl, Nat.le_refl _, .inr rfl, by simp only; omega⟩) hk
  · simp at hr
theorem ok_lsl (hi : INV T μ L f act.tmps h w) {t e : TypeId} {len : Nat} {j : TypeInfo} {ps : Array (Nat × Operand)} {z : List C} {qs : List (Nat × Nat × X)} (hz : zeroOf T.P e = some z) (ht : T.P.underlying t = some (.slice e)) (hj : T.P.info? e = some j)
    (hq : partsOf T.P (fun i => some (i * j.size, j.size)) ps.toList = some qs) (hlen : len * j.size ≤ 2 ^ 24) (hj0 : 0 < j.size) (hl0 : len ≠ 0) (ho : o.dst = some d) (hop : o.op = .buildSlice t len ps) (hd : d < T.I.nt ∧ T.I.env.lookup d ≠ some d)
    (hr : ai (.lsl d j.size len z qs) f h = some (f', h')) (hk : Goes T μ act f' h' K) : o.wp T.P act w K Q := by
  simp only [ai] at hr
  split at hr
  · rename_i cs hcs
    simp only [Option.some.injEq, Prod.mk.injEq] at hr
    obtain ⟨rfl, rfl⟩ := hr
    obtain ⟨r, h1, h2⟩ := lit_ok hi hz ht hj hq hlen hj0 hl0 hop hcs
    refine wp_val h1 ?_
    rw [ho]
    exact hk μ _ _ _ (hi.newLoc (v := .lsl cs len j.size) (by rw [hi.fp.nt]; exact hd.1) (fun ds e => hd.2 (hi.fp.bty d ds e)) (fun ⟨_, e⟩ => by cases e) rfl (fun L' hL => by simp only [SRs, hL]) h2) (MuLe.refl _) rfl
  · simp at hr
theorem ok_bse (hi : INV T μ L f act.tmps h w) {t e : TypeId} {j : TypeInfo} {ps : Array (Nat × Operand)} (ht : T.P.underlying t = some (.slice e)) (hj : T.P.info? e = some j) (hps : ps.toList.isEmpty = true) (ho : o.dst = some d) (hop : o.op = .buildSlice t 0 ps) (hd : d < T.I.nt ∧ T.I.env.lookup d ≠ some d)
    (hr : ai (.bse d) f h = some (f', h')) (hk : Goes T μ act f' h' K) : o.wp T.P act w K Q := by
  simp only [ai, Option.some.injEq, Prod.mk.injEq] at hr
  obtain ⟨rfl, rfl⟩ := hr
  have hps' : ps = #[] := by
    have : ps.toList = [] := by simpa using hps
    exact Array.toList_eq_nil_iff.1 this
  have hi' := hi.worldOnly (Only.alloc w (.cells #[] e (0, 0)) (fun _ => False))
  refine wp_val (v := .slice (some ⟨w.heap.size, 0, none⟩) 0 0) (w' := w.alloc (.cells #[] e (0, 0))) ?_ ?_
  · simp [execOp, hop, hps', Instr.buildSlice, run_underlying ht, sizeOf, typeInfo, hj, newRow, Instr.fill, Array.range_zero']
  · rw [ho]
    exact hk μ L _ _ (hi'.putV (g := false) (cs := [.emp]) (by rw [hi.fp.nt]; exact hd.1) hd.2 ⟨.emp, rfl, _, rfl⟩) (MuLe.refl _) rfl
end
end Go.Eng
