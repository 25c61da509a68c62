/-
  The engine, part A: the abstract machine. Cells, values, frames, a heap of numbered blocks; the instructions and what they do; the run of a body with a bound on rounds and depth; the compiler out of the program's Code.
-/
import Derived.Orders
set_option linter.unusedVariables false
set_option linter.unusedSimpArgs false
namespace Go.Eng

/-! ### Data -/
/-- What one cell holds. 'sl id off len esz': a slice of len elements of esz cells each, from cell off of block id on; 'emp': a slice that is not nil, of no capacity. -/
inductive C where
  | int (k : IntKind) (n : Int)
  | bool (b : Bool)
  | str (s : ByteArray)
  | ptr (id off : Nat)
  | nilp
  | sl (id off len esz : Nat)
  | nils
  | emp
  | fn (f : Nat)
  | nilf
  | nili
/-- What a slot holds: nothing known; a value (one cell, or the cells of a struct); several results; a variable of the call's own; a slice of the call's own that is only appended to others (n elements of e cells); the address of a part of slot r's variable. -/
inductive V where
  | any
  | val (g : Bool) (cs : List C)
  | tup (vs : List (Bool × List C))
  | box (cs : List C)
  | lsl (cs : List C) (n e : Nat)
  | lref (r o : Nat)
inductive Blk where
  | own (ty : Nat) (cs : List C)
  | ro (cs : List C)
  | dead
abbrev H := List Blk

/-! ### Frames: a tree, a slot's number as a way into it -/
inductive K where
  | z
  | o (k : K)
  | i (k : K)
  deriving DecidableEq
inductive PT where
  | leaf
  | node (l : PT) (v : V) (r : PT)
def PT.get : PT → K → V
  | .leaf, _ => .any
  | .node _ v _, .z => v
  | .node l _ _, .o k => l.get k
  | .node _ _ r, .i k => r.get k
def PT.set : PT → K → V → PT
  | .leaf, .z, v => .node .leaf v .leaf
  | .leaf, .o k, v => .node (PT.set .leaf k v) .any .leaf
  | .leaf, .i k, v => .node .leaf .any (PT.set .leaf k v)
  | .node l _ r, .z, v => .node l v r
  | .node l u r, .o k, v => .node (l.set k v) u r
  | .node l u r, .i k, v => .node l u (r.set k v)
def PT.full : Nat → PT
  | 0 => .leaf
  | d + 1 => .node (PT.full d) .any (PT.full d)
def K.ofAux : Nat → Nat → K
  | 0, _ => .z
  | d + 1, n => if n = 0 then .z else if n % 2 = 1 then .o (K.ofAux d (n / 2)) else .i (K.ofAux d (n / 2 - 1))
def K.of (n : Nat) : K := K.ofAux n n
abbrev Fr := PT
def Fr.get (f : Fr) (s : Nat) : V := PT.get f (K.of s)
def Fr.set (f : Fr) (s : Nat) (v : V) : Fr := PT.set f (K.of s) v

/-! ### Instructions -/
inductive X where
  | s (t : Nat)
  | c (v : V)
inductive B2 where
  | add | sub | mul | quo | rem | and | or | xor | andNot | shl | shr | eql | neq | lss | leq | gtr | geq
inductive AI where
  | mov (d : Nat) (x : X)
  | pick (d : Nat) (c a b : X)
  | lbox (d : Nat) (x : X)
  | lal (d : Nat) (cs : List C)
  | hbox (d ty : Nat) (x : X)
  | hal (d ty : Nat) (cs : List C)
  | bld (d : Nat) (zero : List C) (parts : List (Nat × Nat × X))
  | bsl (d ty esz len : Nat) (zero : List C) (parts : List (Nat × Nat × X))
  | bse (d : Nat)
  | lsl (d esz len : Nat) (zero : List C) (parts : List (Nat × Nat × X))
  | fad (d : Nat) (x : X) (off : Nat)
  | iad (d : Nat) (x i : X) (esz : Nat)
  | iaa (d : Nat) (x i : X) (esz len : Nat)
  | ldl (d r : Nat) (x : X) (n : Nat) (g : Bool)
  | ldh (d : Nat) (x : X) (n : Nat) (g : Bool)
  | stl (r : Nat) (x v : X) (n : Nat)
  | sth (x v : X) (n : Nat)
  | bin (d : Nat) (op : B2) (x y : X)
  | beq (d : Nat) (neg : Bool) (x y : X)
  | snil (d : Nat) (neg : Bool) (x : X)
  | geq (d : Nat) (neg : Bool) (x y : X)
  | neg (d : Nat) (x : X)
  | not (d : Nat) (x : X)
  | cvi (d : Nat) (k : IntKind) (x : X)
  | cbs (d : Nat) (x : X)
  | mks (d ty esz bytes : Nat) (zero : List C) (x : X)
  | slc (d esz : Nat) (x : X) (lo hi : Option X)
  | sls (d : Nat) (x : X) (lo hi : Option X)
  | sla (d : Nat) (x : X) (len esz : Nat)
  | fld (d : Nat) (x : X) (off n : Nat) (g : Bool)
  | idx (d : Nat) (x i : X) (esz len : Nat) (g : Bool)
  | ids (d : Nat) (x i : X)
  | ext (d : Nat) (x : X) (i : Nat)
  | nch (d : Nat) (x : X)
  | len (d : Nat) (st : Bool) (x : X)
  | app (d ty esz bytes : Nat) (x y : X)
  | cpy (d esz : Nat) (x y : X)
  | mm (d : Nat) (mx : Bool) (x y : X)
  | call (d f : Nat) (q : Bool) (xs : List X)
  | clv (d : Nat) (q : Bool) (x : X) (xs : List X)
inductive IT where
  | i (a : AI)
  | g (s : Nat) (w : Bool) (d : Nat) (a : AI)
inductive AC where
  | ops (l : List IT)
  | seq (a b : AC)
  | cond (x : X) (a b : AC)
  | block (id : Nat) (b : AC)
  | loop (ds : List Nat) (b : AC)
  | exit (id : Nat)
  | ret
  | skip
inductive RV where
  | tmp (t : Nat)
  | cell (s n : Nat) (g : Bool)
structure AF where
  np : Nat
  dep : Nat
  res : List RV
  body : AC

/-! ### What the instructions do -/
def ev (f : Fr) : X → V
  | .c v => v
  | .s t => match f.get t with
    | .box _ => .lref t 0
    | v => v
/-- Values that may be handed on. -/
def evp (f : Fr) (x : X) : Option (Bool × List C) :=
  match ev f x with
  | .val g cs => some (g, cs)
  | _ => none
def ev1 (f : Fr) (x : X) : Option C :=
  match ev f x with
  | .val false [c] => some c
  | _ => none
/-- The list with other members from place off on. -/
def setL {α : Type} (cs : List α) (off : Nat) : List α → List α
  | [] => cs
  | v :: vs => setL (cs.set off v) (off + 1) vs
def fillC (f : Fr) (cs : List C) : List (Nat × Nat × X) → Option (List C)
  | [] => some cs
  | (off, sz, x) :: r => match evp f x with
    | some (_, vs) => if vs.length = sz ∧ off + sz ≤ cs.length then fillC f (setL cs off vs) r else none
    | none => none
def bits2 (op : B2) (k : IntKind) (x y : Int) : Int :=
  let a := BitVec.ofInt k.bits x
  let b := BitVec.ofInt k.bits y
  match op with
  | .and => k.wrap (a &&& b).toNat
  | .or => k.wrap (a ||| b).toNat
  | .xor => k.wrap (a ^^^ b).toNat
  | _ => k.wrap (a &&& ~~~b).toNat
def bin2 (op : B2) (x y : C) : Option C :=
  match op, x, y with
  | .shl, .int k a, .int _ b => if b < 0 then none else some (.int k (k.wrap (a * 2 ^ (min b.toNat k.bits))))
  | .shr, .int k a, .int _ b => if b < 0 then none else some (.int k (a.fdiv (2 ^ (min b.toNat k.bits))))
  | op, .int k a, .int k' b =>
    if k ≠ k' then none else match op with
    | .add => some (.int k (k.wrap (a + b)))
    | .sub => some (.int k (k.wrap (a - b)))
    | .mul => some (.int k (k.wrap (a * b)))
    | .quo => if b = 0 then none else some (.int k (k.wrap (a.tdiv b)))
    | .rem => if b = 0 then none else some (.int k (a.tmod b))
    | .and => some (.int k (bits2 .and k a b))
    | .or => some (.int k (bits2 .or k a b))
    | .xor => some (.int k (bits2 .xor k a b))
    | .andNot => some (.int k (bits2 .andNot k a b))
    | .eql => some (.bool (a == b))
    | .neq => some (.bool (a != b))
    | .lss => some (.bool (decide (a < b)))
    | .leq => some (.bool (decide (a ≤ b)))
    | .gtr => some (.bool (decide (a > b)))
    | .geq => some (.bool (decide (a ≥ b)))
    | _ => none
  | .add, .str a, .str b => if ((a.size + b.size : Nat) : Int) > IntKind.i64.max then none else some (.str (a ++ b))
  | .eql, .str a, .str b => some (.bool (a.toList == b.toList))
  | .neq, .str a, .str b => some (.bool (!(a.toList == b.toList)))
  | _, _, _ => none
/-- '==' of two values of whole numbers, bools and strings, cell by cell. -/
def eqC : C → C → Option Bool
  | .int k a, .int k' b => if k = k' then some (a == b) else none
  | .bool a, .bool b => some (a == b)
  | .str a, .str b => some (a == b)
  | _, _ => none
def eqCs : List C → List C → Option Bool
  | [], [] => some true
  | x :: xs, y :: ys => match eqC x y, eqCs xs ys with
    | some a, some b => some (a && b)
    | _, _ => none
  | _, _ => none
def H.cells (h : H) (id : Nat) : Option (List C) :=
  match h[id]? with
  | some (.own _ cs) => some cs
  | some (.ro cs) => some cs
  | _ => none
/-- The cells of a slice. -/
def H.slice (h : H) : C → Option (List C)
  | .nils => some []
  | .emp => some []
  | .sl id off len esz => match h.cells id with
    | some cs => if off + len * esz ≤ cs.length then some ((cs.drop off).take (len * esz)) else none
    | none => none
  | _ => none
def H.bytes (h : H) (c : C) : Option (List C) :=
  match c with
  | .sl id off len e => if e = 1 ∨ len = 0 then h.slice (.sl id off len e) else none
  | c => h.slice c
def bytesOf : List C → Option ByteArray
  | [] => some ByteArray.empty
  | .int .u8 n :: r => match bytesOf r with
    | some b => some ⟨#[UInt8.ofNat n.toNat] ++ b.data⟩
    | none => none
  | _ :: _ => none
def strCells (s : ByteArray) : List C := s.data.toList.map fun b => .int .u8 (b.toNat : Int)
def inRoom (n : Nat) : Bool := n ≤ 2 ^ 46
def bound (f : Fr) (x : Option X) (dflt : Nat) : Option Int :=
  match x with
  | none => some (dflt : Int)
  | some x => match ev1 f x with
    | some (.int _ i) => some i
    | _ => none

/-- What is to be appended or copied: cells, and how many elements they are. -/
def srcC (h : H) (esz : Nat) : C → Option (List C × Nat)
  | .str s => if esz = 1 then some (strCells s, s.size) else none
  | .nils => some ([], 0)
  | .emp => some ([], 0)
  | .sl id off len e => if e = esz ∨ len = 0 then (match h.slice (.sl id off len e) with | some cs => some (cs, len) | none => none) else none
  | _ => none
def srcOf (f : Fr) (h : H) (esz : Nat) : X → Option (List C × Nat)
  | .s t => match f.get t with
    | .lsl cs n e => if e = esz ∧ cs.length = n * esz then some (cs, n) else none
    | .val false [c] => srcC h esz c
    | _ => none
  | .c (.val false [c]) => srcC h esz c
  | .c _ => none

/-- A slice's length; the place of an element. -/
def lenC : C → Option Nat
  | .sl _ _ len _ => some len
  | .nils => some 0
  | .emp => some 0
  | _ => none
def atC (c : C) (esz : Nat) (j : Int) : Option (Nat × Nat) :=
  match c with
  | .sl id off len e => if e = esz ∧ 0 ≤ j ∧ j < (len : Int) then some (id, off + j.toNat * esz) else none
  | _ => none
/-- The run of an instruction that is no call. -/
def ai (a : AI) (f : Fr) (h : H) : Option (Fr × H) :=
  match a with
  | .mov d x => match ev f x with
    | .box _ => none
    | .lsl _ _ _ => none
    | v => some (f.set d v, h)
  | .pick d c a b => match ev1 f c with
    | some (.bool true) => match evp f a with | some (g, cs) => some (f.set d (.val g cs), h) | none => none
    | some (.bool false) => match evp f b with | some (g, cs) => some (f.set d (.val g cs), h) | none => none
    | _ => none
  | .lbox d x => match f.get d with
    | .box _ => none
    | _ => match evp f x with
      | some (_, cs) => some (f.set d (.box cs), h)
      | none => none
  | .lal d cs => match f.get d with
    | .box _ => none
    | _ => some (f.set d (.box cs), h)
  | .hbox d ty x => match evp f x with
    | some (_, cs) => some (f.set d (.val false [.ptr h.length 0]), h ++ [.own ty cs])
    | none => none
  | .hal d ty cs => some (f.set d (.val false [.ptr h.length 0]), h ++ [.own ty cs])
  | .bld d z ps => match fillC f z ps with
    | some cs => some (f.set d (.val true cs), h)
    | none => none
  | .bsl d ty esz len z ps => match fillC f ((List.replicate len z).flatten) ps with
    | some cs => some (f.set d (.val false [.sl h.length 0 len esz]), h ++ [.own ty cs])
    | none => none
  | .bse d => some (f.set d (.val false [.emp]), h)
  | .lsl d esz len z ps => match fillC f ((List.replicate len z).flatten) ps with
    | some cs => some (f.set d (.lsl cs len esz), h)
    | none => none
  | .fad d x off => match ev f x with
    | .lref r o => some (f.set d (.lref r (o + off)), h)
    | .val false [.ptr id o] => some (f.set d (.val false [.ptr id (o + off)]), h)
    | _ => none
  | .iad d x i esz => match ev1 f x, ev1 f i with
    | some c, some (.int _ j) => match atC c esz j with
      | some (id, o) => some (f.set d (.val false [.ptr id o]), h)
      | none => none
    | _, _ => none
  | .iaa d x i esz len => match ev1 f i with
    | some (.int _ j) =>
      if 0 ≤ j ∧ j < (len : Int) then match ev f x with
        | .lref r o => some (f.set d (.lref r (o + j.toNat * esz)), h)
        | .val false [.ptr id o] => some (f.set d (.val false [.ptr id (o + j.toNat * esz)]), h)
        | _ => none
      else none
    | _ => none
  | .ldl d r x n g => match ev f x with
    | .lref r' o => match f.get r with
      | .box cs => if r' = r ∧ o + n ≤ cs.length then some (f.set d (.val g ((cs.drop o).take n)), h) else none
      | _ => none
    | _ => none
  | .ldh d x n g => match ev1 f x with
    | some (.ptr id o) => match h.cells id with
      | some cs => if o + n ≤ cs.length then some (f.set d (.val g ((cs.drop o).take n)), h) else none
      | none => none
    | _ => none
  | .stl r x v n => match ev f x, evp f v with
    | .lref r' o, some (_, vs) => match f.get r with
      | .box cs => if r' = r ∧ vs.length = n ∧ o + n ≤ cs.length then some (f.set r (.box (setL cs o vs)), h) else none
      | _ => none
    | _, _ => none
  | .sth x v n => match ev1 f x, evp f v with
    | some (.ptr id o), some (_, vs) => match h[id]? with
      | some (.own ty cs) => if vs.length = n ∧ o + n ≤ cs.length then some (f, h.set id (.own ty (setL cs o vs))) else none
      | _ => none
    | _, _ => none
  | .bin d op x y => match ev1 f x, ev1 f y with
    | some a, some b => match bin2 op a b with
      | some c => some (f.set d (.val false [c]), h)
      | none => none
    | _, _ => none
  | .beq d neg x y => match ev1 f x, ev1 f y with
    | some (.bool a), some (.bool b) => some (f.set d (.val false [.bool (if neg then !(a == b) else (a == b))]), h)
    | _, _ => none
  | .snil d neg x => match ev1 f x with
    | some (.sl _ _ _ _) => some (f.set d (.val false [.bool neg]), h)
    | some .emp => some (f.set d (.val false [.bool neg]), h)
    | some .nils => some (f.set d (.val false [.bool (!neg)]), h)
    | _ => none
  | .geq d neg x y => match evp f x, evp f y with
    | some (true, a), some (true, b) => match eqCs a b with
      | some r => some (f.set d (.val false [.bool (if neg then !r else r)]), h)
      | none => none
    | _, _ => none
  | .neg d x => match ev1 f x with
    | some (.int k n) => some (f.set d (.val false [.int k (k.wrap (0 - n))]), h)
    | _ => none
  | .not d x => match ev1 f x with
    | some (.bool b) => some (f.set d (.val false [.bool (!b)]), h)
    | _ => none
  | .cvi d k x => match ev1 f x with
    | some (.int _ n) => some (f.set d (.val false [.int k (k.wrap n)]), h)
    | _ => none
  | .cbs d x => match ev1 f x with
    | some c => match h.bytes c with
      | some cs => match bytesOf cs with
        | some b => some (f.set d (.val false [.str b]), h)
        | none => none
      | none => none
    | none => none
  | .mks d ty esz bytes z x => match ev1 f x with
    | some (.int .i64 n) => if 0 ≤ n ∧ inRoom (n.toNat * bytes + n.toNat) then
        some (f.set d (.val false [.sl h.length 0 n.toNat esz]), h ++ [.own ty ((List.replicate n.toNat z).flatten)]) else none
    | _ => none
  | .slc d esz x lo hi => match ev1 f x with
    | some (.sl id off len e) => match bound f lo 0, bound f hi len with
      | some l, some u => if (e = esz ∨ len = 0) ∧ 0 ≤ l ∧ l ≤ u ∧ u ≤ (len : Int) then some (f.set d (.val false [.sl id (off + l.toNat * e) (u - l).toNat e]), h) else none
      | _, _ => none
    | some .nils => match bound f lo 0, bound f hi 0 with
      | some l, some u => if l = 0 ∧ u = 0 then some (f.set d (.val false [.nils]), h) else none
      | _, _ => none
    | some .emp => match bound f lo 0, bound f hi 0 with
      | some l, some u => if l = 0 ∧ u = 0 then some (f.set d (.val false [.emp]), h) else none
      | _, _ => none
    | _ => none
  | .sls d x lo hi => match ev1 f x with
    | some (.str s) => match bound f lo 0, bound f hi s.size with
      | some l, some u => if 0 ≤ l ∧ l ≤ u ∧ u ≤ (s.size : Int) then some (f.set d (.val false [.str (s.extract l.toNat u.toNat)]), h) else none
      | _, _ => none
    | _ => none
  | .sla d x len esz => match ev1 f x with
    | some (.ptr id o) => match h[id]? with
      | some (.own _ cs) => if o + len * esz ≤ cs.length then some (f.set d (.val false [.sl id o len esz]), h) else none
      | _ => none
    | _ => none
  | .fld d x off n g => match evp f x with
    | some (true, cs) => if off + n ≤ cs.length then some (f.set d (.val g ((cs.drop off).take n)), h) else none
    | _ => none
  | .idx d x i esz len g => match evp f x, ev1 f i with
    | some (true, cs), some (.int _ j) =>
      if 0 ≤ j ∧ j < (len : Int) ∧ j.toNat * esz + esz ≤ cs.length then some (f.set d (.val g ((cs.drop (j.toNat * esz)).take esz)), h) else none
    | _, _ => none
  | .ids d x i => match ev1 f x, ev1 f i with
    | some (.str s), some (.int _ j) =>
      if 0 ≤ j then match s.data.toList[j.toNat]? with
        | some b => some (f.set d (.val false [.int .u8 (b.toNat : Int)]), h)
        | none => none
      else none
    | _, _ => none
  | .ext d x i => match ev f x with
    | .tup vs => match vs[i]? with
      | some (g, cs) => some (f.set d (.val g cs), h)
      | none => none
    | _ => none
  | .nch d x => match ev f x with
    | .lref r o => some (f.set d (.lref r o), h)
    | .val false [.ptr id o] => some (f.set d (.val false [.ptr id o]), h)
    | .val false [.fn g] => some (f.set d (.val false [.fn g]), h)
    | _ => none
  | .len d st x => match st, ev1 f x with
    | false, some c => match lenC c with
      | some n => some (f.set d (.val false [.int .i64 (n : Int)]), h)
      | none => none
    | true, some (.str s) => some (f.set d (.val false [.int .i64 (s.size : Int)]), h)
    | _, _ => none
  | .app d ty esz bytes x y => match ev1 f x, srcOf f h esz y with
    | some a, some (ys, m) => match a with
      | .nils => if m = 0 then some (f.set d (.val false [.nils]), h)
        else if inRoom (m * bytes + m) then some (f.set d (.val false [.sl h.length 0 m esz]), h ++ [.own ty ys]) else none
      | .emp => if m = 0 then some (f.set d (.val false [.emp]), h)
        else if inRoom (m * bytes + m) then some (f.set d (.val false [.sl h.length 0 m esz]), h ++ [.own ty ys]) else none
      | .sl id off len e => match h[id]? with
        | some (.own ty' cs) =>
          if off = 0 ∧ e = esz ∧ ty' = ty ∧ cs.length = len * esz ∧ inRoom ((len + m) * bytes + (len + m)) then
            some (f.set d (.val false [.sl h.length 0 (len + m) esz]), (h.set id .dead) ++ [.own ty (cs ++ ys)]) else none
        | _ => none
      | _ => none
    | _, _ => none
  | .cpy d esz x y => match ev1 f x, srcOf f h esz y with
    | some (.sl id off len e), some (ys, m) => match h[id]? with
      | some (.own ty cs) =>
        if e = esz ∧ off + len * esz ≤ cs.length then
          some (f.set d (.val false [.int .i64 ((min m len : Nat) : Int)]), h.set id (.own ty (setL cs off (ys.take (min m len * esz))))) else none
      | _ => none
    | _, _ => none
  | .mm d mx x y => match ev1 f x, ev1 f y with
    | some (.int .i64 a), some (.int .i64 b) => some (f.set d (.val false [.int .i64 (if mx then (if a < b then b else a) else (if b < a then b else a))]), h)
    | _, _ => none
  | .call .. => none
  | .clv .. => none

/-! ### The run of a body -/
inductive Ex where
  | norm
  | exit (id : Nat)
  | ret
abbrev CallF := Nat → List (Bool × List C) → H → Option (V × H)
def args (f : Fr) : List X → Option (List (Bool × List C))
  | [] => some []
  | x :: xs => match evp f x, args f xs with
    | some v, some vs => some (v :: vs)
    | _, _ => none
def setD (f : Fr) (d : Nat) (v : V) : Fr :=
  match d with
  | 0 => f
  | d + 1 => f.set d v
open Classical in
noncomputable def doCall (call : CallF) (d g : Nat) (q : Bool) (vs : List (Bool × List C)) (f : Fr) (h : H) : Option (Fr × H) :=
  match call g vs h with
  | some (v, h') => if q = true → ∃ t, h' = h ++ t then some (setD f d v, h') else none
  | none => none
noncomputable def run1 (call : CallF) (a : AI) (f : Fr) (h : H) : Option (Fr × H) :=
  match a with
  | .call d g q xs => match args f xs with
    | some vs => doCall call d g q vs f h
    | none => none
  | .clv d q x xs => match ev1 f x, args f xs with
    | some (.fn g), some vs => doCall call d g q vs f h
    | _, _ => none
  | a => ai a f h
noncomputable def runI (call : CallF) (it : IT) (f : Fr) (h : H) : Option (Fr × H) :=
  match it with
  | .i a => run1 call a f h
  | .g s w d a => match ev1 f (.s s) with
    | some (.bool b) => if b = w then run1 call a f h else some (setD f d .any, h)
    | _ => none
noncomputable def runL (call : CallF) : List IT → Fr → H → Option (Fr × H)
  | [], f, h => some (f, h)
  | it :: r, f, h => match runI call it f h with
    | some (f', h') => runL call r f' h'
    | none => none
def forget (f : Fr) : List Nat → Fr
  | [] => f
  | d :: ds => forget (f.set d .any) ds
def rounds (body : Fr → H → Option (Ex × Fr × H)) (ds : List Nat) : Nat → Fr → H → Option (Ex × Fr × H)
  | 0, _, _ => none
  | n + 1, f, h => match body (forget f ds) h with
    | some (.norm, f', h') => rounds body ds n f' h'
    | r => r
noncomputable def run (call : CallF) (lf : Nat) : AC → Fr → H → Option (Ex × Fr × H)
  | .ops l, f, h => match runL call l f h with
    | some (f', h') => some (.norm, f', h')
    | none => none
  | .seq a b, f, h => match run call lf a f h with
    | some (.norm, f', h') => run call lf b f' h'
    | r => r
  | .cond x a b, f, h => match ev1 f x with
    | some (.bool true) => run call lf a f h
    | some (.bool false) => run call lf b f h
    | _ => none
  | .block id b, f, h => match run call lf b f h with
    | some (.exit id', f', h') => if id' = id then some (.norm, f', h') else some (.exit id', f', h')
    | r => r
  | .loop ds b, f, h => rounds (run call lf b) ds lf f h
  | .exit id, f, h => some (.exit id, f, h)
  | .ret, f, h => some (.ret, f, h)
  | .skip, f, h => some (.norm, f, h)
def res1 (f : Fr) : RV → Option (Bool × List C)
  | .tmp t => evp f (.s t)
  | .cell s n g => match f.get s with
    | .box cs => if n = cs.length then some (g, cs) else none
    | _ => none
def resL (f : Fr) : List RV → Option (List (Bool × List C))
  | [] => some []
  | r :: rs => match res1 f r, resL f rs with
    | some v, some vs => some (v :: vs)
    | _, _ => none
def resV (f : Fr) (rs : List RV) : Option V :=
  match resL f rs with
  | some [(g, cs)] => some (.val g cs)
  | some vs => some (.tup vs)
  | none => none
def enter0 (f : Fr) (n : Nat) : List (Bool × List C) → Fr
  | [] => f
  | (g, cs) :: r => enter0 (f.set n (.val g cs)) (n + 1) r
noncomputable def runF (call : CallF) (lf : Nat) (a : AF) (vs : List (Bool × List C)) (h : H) : Option (V × H) :=
  if vs.length = a.np then
    match run call lf a.body (enter0 (PT.full a.dep) 0 vs) h with
    | some (.norm, f, h') | some (.ret, f, h') => match resV f a.res with
      | some v => some (v, h')
      | none => none
    | _ => none
  else none
/-- The functions' codes, by their numbers. -/
noncomputable def callN (code : Nat → Option AF) : Nat → CallF
  | 0 => fun _ _ _ => none
  | n + 1 => fun g vs h => match code g with
    | some a => runF (callN code n) n a vs h
    | none => none
end Go.Eng
