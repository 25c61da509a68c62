import Derived.Orders
import Derived.WalkKit
import Derived.Laws.Cells
import Derived.Laws.CopyRow
import Derived.Laws.AppendOwn
import Derived.Laws.MakeOwn
import Derived.Laws.BytesArg
import Derived.Great.BuildSlice
set_option linter.unusedVariables false
set_option linter.unusedSimpArgs false
namespace Go.Eng
inductive C where
 |int (k:IntKind) (n:Int)
 |bool (b:Bool)
 |str (s:ByteArray)
 |ptr (id off:Nat)
 |nilp
 |sl (id off len esz:Nat)
 |nils
 |emp
 |fn (f:Nat)
 |nilf
 |nili
inductive V where
 |any
 |val (g:Bool) (cs:List C)
 |tup (vs:List (Bool×List C))
 |box (cs:List C)
 |lsl (cs:List C) (n e:Nat)
 |lref (r o:Nat)
inductive tO where
 |own (ty:Nat) (cs:List C)
 |ro (cs:List C)
 |dead
abbrev H:=List tO
inductive K where
 |z
 |o (k:K)
 |i (k:K)
 deriving DecidableEq
inductive PT where
 |leaf
 |node (l:PT) (v:V) (r:PT)
def PT.get:PT→K→V
 | .leaf,_=> .any
 | .node _ v _, .z=>v
 | .node l _ _, .o k=>l.get k
 | .node _ _ r, .i k=>r.get k
def PT.set:PT→K→V→PT
 | .leaf, .z,v=> .node .leaf v .leaf
 | .leaf, .o k,v=> .node (PT.set .leaf k v) .any .leaf
 | .leaf, .i k,v=> .node .leaf .any (PT.set .leaf k v)
 | .node l _ r, .z,v=> .node l v r
 | .node l u r, .o k,v=> .node (l.set k v) u r
 | .node l u r, .i k,v=> .node l u (r.set k v)
def PT.full:Nat→PT
 |0=> .leaf
 |d+1=> .node (PT.full d) .any (PT.full d)
def K.lH:Nat→Nat→K
 |0,_=> .z
 |d+1,n=>if n=0 then .z else if n % 2=1 then .o (K.lH d (n / 2))else .i (K.lH d (n / 2 - 1))
def K.of (n:Nat):K:=K.lH n n
abbrev Fr:=PT
def Fr.get (f:Fr) (s:Nat):V:=PT.get f (K.of s)
def Fr.set (f:Fr) (s:Nat) (v:V):Fr:=PT.set f (K.of s) v
inductive X where
 |s (t:Nat)
 |c (v:V)
inductive B2 where
 |add|sub|mul|quo|rem|and|or|xor|andNot|shl|shr|eql|neq|lss|leq|gtr|geq
inductive AI where
 |mov (d:Nat) (x:X)
 |pick (d:Nat) (c a b:X)
 |lbox (d:Nat) (x:X)
 |lal (d:Nat) (cs:List C)
 |hbox (d ty:Nat) (x:X)
 |hal (d ty:Nat) (cs:List C)
 |bld (d:Nat) (zero:List C) (parts:List (Nat×Nat×X))
 |bsl (d ty esz len:Nat) (zero:List C) (parts:List (Nat×Nat×X))
 |bse (d:Nat)
 |lsl (d esz len:Nat) (zero:List C) (parts:List (Nat×Nat×X))
 |fad (d:Nat) (x:X) (off:Nat)
 |iad (d:Nat) (x i:X) (esz:Nat)
 |iaa (d:Nat) (x i:X) (esz len:Nat)
 |ldl (d r:Nat) (x:X) (n:Nat) (g:Bool)
 |ldh (d:Nat) (x:X) (n:Nat) (g:Bool)
 |stl (r:Nat) (x v:X) (n:Nat)
 |sth (x v:X) (n:Nat)
 |bin (d:Nat) (op:B2) (x y:X)
 |beq (d:Nat) (neg:Bool) (x y:X)
 |snil (d:Nat) (neg:Bool) (x:X)
 |geq (d n:Nat) (neg:Bool) (x y:X)
 |neg (d:Nat) (x:X)
 |not (d:Nat) (x:X)
 |cvi (d:Nat) (k:IntKind) (x:X)
 |cbs (d:Nat) (x:X)
 |mks (d ty esz bytes:Nat) (zero:List C) (x:X)
 |fb (d esz:Nat) (x:X) (lo hi:Option X)
 |sls (d:Nat) (x:X) (lo hi:Option X)
 |sla (d:Nat) (x:X) (len esz:Nat)
 |fld (d:Nat) (x:X) (off n:Nat) (g:Bool)
 |idx (d:Nat) (x i:X) (esz len:Nat) (g:Bool)
 |ids (d:Nat) (x i:X)
 |ext (d:Nat) (x:X) (i:Nat)
 |nch (d:Nat) (x:X)
 |len (d:Nat) (st:Bool) (x:X)
 |app (d ty esz bytes:Nat) (x y:X)
 |cpy (d esz:Nat) (x y:X)
 |mm (d:Nat) (mx:Bool) (x y:X)
 |call (d f:Nat) (q:Bool) (xs:List X)
 |clv (d:Nat) (q:Bool) (x:X) (xs:List X)
 |lde (d:Nat) (x:X) (n:Nat) (g:Bool) (e:Nat)
 |cle (d f e:Nat) (xs:List X)
inductive IT where
 |i (a:AI)
 |g (s:Nat) (w:Bool) (d:Nat) (a:AI)
inductive AC where
 |ops (l:List IT)
 |seq (a b:AC)
 |cond (x:X) (a b:AC)
 |block (id:Nat) (b:AC)
 |loop (ds:List Nat) (b:AC)
 |exit (id:Nat)
 |ret
 |skip
inductive RV where
 |tmp (t:Nat)
 |cell (s n:Nat) (g:Bool)
structure AF where
 np:Nat
 dep:Nat
 res:List RV
 body:AC
def ev (f:Fr):X→V
 | .c v=>v
 | .s t=>match f.get t with
   | .box _=> .lref t 0
   |v=>v
def pR (f:Fr) (x:X):Option (Bool×List C):=
 match ev f x with
 | .val g cs=>some (g,cs)
 |_=>none
def dt (f:Fr) (x:X):Option C:=
 match ev f x with
 | .val false [c]=>some c
 |_=>none
def aR {α:Type} (cs:List α) (off:Nat):List α→List α
 | []=>cs
 |v::vs=>aR (cs.set off v) (off+1) vs
def eW (f:Fr) (cs:List C):List (Nat×Nat×X)→Option (List C)
 | []=>some cs
 |(off,sz,x)::r=>match pR f x with
  |some (_,vs)=>if vs.length=sz∧off+sz≤cs.length then eW f (aR cs off vs) r else none
  |none=>none
def aH (op:B2) (k:IntKind) (x y:Int):Int:=
 let a:=BitVec.ofInt k.bits x
 let b:=BitVec.ofInt k.bits y
 match op with
 | .and=>k.wrap (a &&& b).toNat
 | .or=>k.wrap (a|||b).toNat
 | .xor=>k.wrap (a ^^^ b).toNat
 |_=>k.wrap (a &&& ~~~b).toNat
def bD (op:B2) (x y:C):Option C:=
 match op,x,y with
 | .shl, .int k a, .int _ b=>if b < 0 then none else some (.int k (k.wrap (a * 2 ^ (min b.toNat k.bits))))
 | .shr, .int k a, .int _ b=>if b < 0 then none else some (.int k (a.fdiv (2 ^ (min b.toNat k.bits))))
 |op, .int k a, .int k' b=>
  if k≠k' then none else match op with
  | .add=>some (.int k (k.wrap (a+b)))
  | .sub=>some (.int k (k.wrap (a - b)))
  | .mul=>some (.int k (k.wrap (a * b)))
  | .quo=>if b=0 then none else some (.int k (k.wrap (a.tdiv b)))
  | .rem=>if b=0 then none else some (.int k (a.tmod b))
  | .and=>some (.int k (aH .and k a b))
  | .or=>some (.int k (aH .or k a b))
  | .xor=>some (.int k (aH .xor k a b))
  | .andNot=>some (.int k (aH .andNot k a b))
  | .eql=>some (.bool (a==b))
  | .neq=>some (.bool (a !=b))
  | .lss=>some (.bool (decide (a < b)))
  | .leq=>some (.bool (decide (a≤b)))
  | .gtr=>some (.bool (decide (a > b)))
  | .geq=>some (.bool (decide (a≥b)))
  |_=>none
 | .add, .str a, .str b=>if((a.size+b.size:Nat):Int) > IntKind.i64.max then none else some (.str (a++b))
 | .eql, .str a, .str b=>some (.bool (a.toList==b.toList))
 | .neq, .str a, .str b=>some (.bool (!(a.toList==b.toList)))
 |_,_,_=>none
def OM:C→C→Option Bool
 | .int k a, .int k' b=>if k=k' then some (a==b)else none
 |_,_=>none
def uR:List C→List C→Option Bool
 | [],[]=>some true
 |x::xs,y::ys=>match OM x y,uR xs ys with
  |some a,some b=>some (a && b)
  |_,_=>none
 |_,_=>none
def H.cells (h:H) (id:Nat):Option (List C):=
 match h[id]? with
 |some (.own _ cs)=>some cs
 |some (.ro cs)=>some cs
 |_=>none
def H.slice (h:H):C→Option (List C)
 | .nils=>some []
 | .emp=>some []
 | .sl id off len esz=>match h.cells id with
   |some cs=>if off+len * esz≤cs.length then some ((cs.drop off).take (len * esz))else none
   |none=>none
 |_=>none
def H.bytes (h:H) (c:C):Option (List C):=
 match c with
 | .sl id off len e=>if e=1∨len=0 then h.slice (.sl id off len e)else none
 |c=>h.slice c
def bytesOf:List C→Option ByteArray
 | []=>some ByteArray.empty
 | .int .u8 n::r=>match bytesOf r with
   |some b=>some ⟨#[UInt8.ofNat n.toNat]++b.data⟩
   |none=>none
 |_::_=>none
def jL (s:ByteArray):List C:=s.data.toList.map fun b=> .int .u8 (b.toNat:Int)
def eb (n:Nat):Bool:=n≤2 ^ 46
def bound (f:Fr) (x:Option X) (dflt:Nat):Option Int:=
 match x with
 |none=>some (dflt:Int)
 |some x=>match dt f x with
  |some (.int _ i)=>some i
  |_=>none
def nY (h:H) (esz:Nat):C→Option (List C×Nat)
 | .str s=>if esz=1 then some (jL s,s.size)else none
 | .nils=>some ([],0)
 | .emp=>some ([],0)
 | .sl id off len e=>if e=esz∨len=0 then(match h.slice (.sl id off len e)with|some cs=>some (cs,len)|none=>none)else none
 |_=>none
def gm (f:Fr) (h:H) (esz:Nat):X→Option (List C×Nat)
 | .s t=>match f.get t with
   | .lsl cs n e=>if e=esz∧cs.length=n * esz then some (cs,n)else none
   | .val false [c]=>nY h esz c
   |_=>none
 | .c (.val false [c])=>nY h esz c
 | .c _=>none
def yx:C→Option Nat
 | .sl _ _ len _=>some len
 | .nils=>some 0
 | .emp=>some 0
 |_=>none
def CT (c:C) (esz:Nat) (j:Int):Option (Nat×Nat):=
 match c with
 | .sl id off len e=>if e=esz∧0≤j∧j < (len:Int)then some (id,off+j.toNat * esz)else none
 |_=>none
def ai (a:AI) (f:Fr) (h:H):Option (Fr×H):=
 match a with
 | .mov d x=>match ev f x with
   | .box _=>none
   | .lsl _ _ _=>none
   |v=>some (f.set d v,h)
 | .pick d c a b=>match dt f c with
   |some (.bool true)=>match pR f a with|some (g,cs)=>some (f.set d (.val g cs),h)|none=>none
   |some (.bool false)=>match pR f b with|some (g,cs)=>some (f.set d (.val g cs),h)|none=>none
   |_=>none
 | .lbox d x=>match f.get d with
   | .box _=>none
   |_=>match pR f x with
    |some (_,cs)=>some (f.set d (.box cs),h)
    |none=>none
 | .lal d cs=>match f.get d with
   | .box _=>none
   |_=>some (f.set d (.box cs),h)
 | .hbox d ty x=>match pR f x with
   |some (_,cs)=>some (f.set d (.val false [.ptr h.length 0]),h++ [.own ty cs])
   |none=>none
 | .hal d ty cs=>some (f.set d (.val false [.ptr h.length 0]),h++ [.own ty cs])
 | .bld d z ps=>match eW f z ps with
   |some cs=>some (f.set d (.val true cs),h)
   |none=>none
 | .bsl d ty esz len z ps=>match eW f ((List.replicate len z).flatten) ps with
   |some cs=>some (f.set d (.val false [.sl h.length 0 len esz]),h++ [.own ty cs])
   |none=>none
 | .bse d=>some (f.set d (.val false [.emp]),h)
 | .lsl d esz len z ps=>match eW f ((List.replicate len z).flatten) ps with
   |some cs=>some (f.set d (.lsl cs len esz),h)
   |none=>none
 | .fad d x off=>match ev f x with
   | .lref r o=>some (f.set d (.lref r (o+off)),h)
   | .val false [.ptr id o]=>some (f.set d (.val false [.ptr id (o+off)]),h)
   |_=>none
 | .iad d x i esz=>match dt f x,dt f i with
   |some c,some (.int _ j)=>match CT c esz j with
    |some (id,o)=>some (f.set d (.val false [.ptr id o]),h)
    |none=>none
   |_,_=>none
 | .iaa d x i esz len=>match dt f i with
   |some (.int _ j)=>
    if 0≤j∧j < (len:Int)then match ev f x with
     | .lref r o=>some (f.set d (.lref r (o+j.toNat * esz)),h)
     | .val false [.ptr id o]=>some (f.set d (.val false [.ptr id (o+j.toNat * esz)]),h)
     |_=>none
    else none
   |_=>none
 | .ldl d r x n g=>match ev f x with
   | .lref r' o=>match f.get r with
     | .box cs=>if r'=r∧o+n≤cs.length then some (f.set d (.val g ((cs.drop o).take n)),h)else none
     |_=>none
   |_=>none
 | .ldh d x n g=>match dt f x with
   |some (.ptr id o)=>match h.cells id with
    |some cs=>if o+n≤cs.length then some (f.set d (.val g ((cs.drop o).take n)),h)else none
    |none=>none
   |_=>none
 | .stl r x v n=>match ev f x,pR f v with
   | .lref r' o,some (_,vs)=>match f.get r with
     | .box cs=>if r'=r∧vs.length=n∧o+n≤cs.length then some (f.set r (.box (aR cs o vs)),h)else none
     |_=>none
   |_,_=>none
 | .sth x v n=>match dt f x,pR f v with
   |some (.ptr id o),some (_,vs)=>match h[id]? with
    |some (.own ty cs)=>if vs.length=n∧o+n≤cs.length then some (f,h.set id (.own ty (aR cs o vs)))else none
    |_=>none
   |_,_=>none
 | .bin d op x y=>match dt f x,dt f y with
   |some a,some b=>match bD op a b with
    |some c=>some (f.set d (.val false [c]),h)
    |none=>none
   |_,_=>none
 | .beq d neg x y=>match dt f x,dt f y with
   |some (.bool a),some (.bool b)=>some (f.set d (.val false [.bool (if neg then !(a==b)else(a==b))]),h)
   |_,_=>none
 | .snil d neg x=>match dt f x with
   |some (.sl _ _ _ _)=>some (f.set d (.val false [.bool neg]),h)
   |some .emp=>some (f.set d (.val false [.bool neg]),h)
   |some .nils=>some (f.set d (.val false [.bool (!neg)]),h)
   |_=>none
 | .geq d n neg x y=>match pR f x,pR f y with
   |some (true,a),some (true,b)=>if a.length=n then(match uR a b with
    |some r=>some (f.set d (.val false [.bool (if neg then !r else r)]),h)
    |none=>none)else none
   |_,_=>none
 | .neg d x=>match dt f x with
   |some (.int k n)=>some (f.set d (.val false [.int k (k.wrap (0 - n))]),h)
   |_=>none
 | .not d x=>match dt f x with
   |some (.bool b)=>some (f.set d (.val false [.bool (!b)]),h)
   |_=>none
 | .cvi d k x=>match dt f x with
   |some (.int _ n)=>some (f.set d (.val false [.int k (k.wrap n)]),h)
   |_=>none
 | .cbs d x=>match dt f x with
   |some c=>match h.bytes c with
    |some cs=>match bytesOf cs with
     |some b=>some (f.set d (.val false [.str b]),h)
     |none=>none
    |none=>none
   |none=>none
 | .mks d ty esz bytes z x=>match dt f x with
   |some (.int .i64 n)=>if 0≤n∧eb (n.toNat * bytes+n.toNat)then
     some (f.set d (.val false [.sl h.length 0 n.toNat esz]),h++ [.own ty ((List.replicate n.toNat z).flatten)])else none
   |_=>none
 | .fb d esz x lo hi=>match dt f x with
   |some (.sl id off len e)=>match bound f lo 0,bound f hi len with
    |some l,some u=>if(e=esz∨len=0)∧0≤l∧l≤u∧u≤(len:Int)then some (f.set d (.val false [.sl id (off+l.toNat * e) (u - l).toNat e]),h)else none
    |_,_=>none
   |some .nils=>match bound f lo 0,bound f hi 0 with
    |some l,some u=>if l=0∧u=0 then some (f.set d (.val false [.nils]),h)else none
    |_,_=>none
   |some .emp=>match bound f lo 0,bound f hi 0 with
    |some l,some u=>if l=0∧u=0 then some (f.set d (.val false [.emp]),h)else none
    |_,_=>none
   |_=>none
 | .sls d x lo hi=>match dt f x with
   |some (.str s)=>match bound f lo 0,bound f hi s.size with
    |some l,some u=>if 0≤l∧l≤u∧u≤(s.size:Int)then some (f.set d (.val false [.str (s.extract l.toNat u.toNat)]),h)else none
    |_,_=>none
   |_=>none
 | .sla d x len esz=>match dt f x with
   |some (.ptr id o)=>match h[id]? with
    |some (.own _ cs)=>if o+len * esz≤cs.length then some (f.set d (.val false [.sl id o len esz]),h)else none
    |_=>none
   |_=>none
 | .fld d x off n g=>match pR f x with
   |some (true,cs)=>if off+n≤cs.length then some (f.set d (.val g ((cs.drop off).take n)),h)else none
   |_=>none
 | .idx d x i esz len g=>match pR f x,dt f i with
   |some (true,cs),some (.int _ j)=>
    if 0≤j∧j < (len:Int)∧j.toNat * esz+esz≤cs.length then some (f.set d (.val g ((cs.drop (j.toNat * esz)).take esz)),h)else none
   |_,_=>none
 | .ids d x i=>match dt f x,dt f i with
   |some (.str s),some (.int _ j)=>
    if 0≤j then match s.data.toList[j.toNat]? with
     |some b=>some (f.set d (.val false [.int .u8 (b.toNat:Int)]),h)
     |none=>none
    else none
   |_,_=>none
 | .ext d x i=>match ev f x with
   | .tup vs=>match vs[i]? with
     |some (g,cs)=>some (f.set d (.val g cs),h)
     |none=>none
   |_=>none
 | .nch d x=>match ev f x with
   | .lref r o=>some (f.set d (.lref r o),h)
   | .val false [.ptr id o]=>some (f.set d (.val false [.ptr id o]),h)
   | .val false [.fn g]=>some (f.set d (.val false [.fn g]),h)
   |_=>none
 | .len d st x=>match st,dt f x with
   |false,some c=>match yx c with
    |some n=>some (f.set d (.val false [.int .i64 (n:Int)]),h)
    |none=>none
   |true,some (.str s)=>some (f.set d (.val false [.int .i64 (s.size:Int)]),h)
   |_,_=>none
 | .app d ty esz bytes x y=>match dt f x,gm f h esz y with
   |some a,some (ys,m)=>match a with
    | .nils=>if m=0 then some (f.set d (.val false [.nils]),h)
      else if eb (m * bytes+m)then some (f.set d (.val false [.sl h.length 0 m esz]),h++ [.own ty ys])else none
    | .emp=>if m=0 then some (f.set d (.val false [.emp]),h)
      else if eb (m * bytes+m)then some (f.set d (.val false [.sl h.length 0 m esz]),h++ [.own ty ys])else none
    | .sl id off len e=>match h[id]? with
      |some (.own ty' cs)=>
       if off=0∧e=esz∧ty'=ty∧cs.length=len * esz∧eb ((len+m) * bytes+(len+m))then
        some (f.set d (.val false [.sl h.length 0 (len+m) esz]),(h.set id .dead)++ [.own ty (cs++ys)])else none
      |_=>none
    |_=>none
   |_,_=>none
 | .cpy d esz x y=>match dt f x,gm f h esz y with
   |some (.sl id off len e),some (ys,m)=>match h[id]? with
    |some (.own ty cs)=>
     if e=esz∧off+len * esz≤cs.length then
      some (f.set d (.val false [.int .i64 ((min m len:Nat):Int)]),h.set id (.own ty (aR cs off (ys.take (min m len * esz)))))else none
    |_=>none
   |_,_=>none
 | .mm d mx x y=>match dt f x,dt f y with
   |some (.int .i64 a),some (.int .i64 b)=>some (f.set d (.val false [.int .i64 (if mx then(if a < b then b else a)else(if b < a then b else a))]),h)
   |_,_=>none
 | .call .. =>none
 | .clv .. =>none
 | .lde d x n g e=>match dt f x with
   |some (.ptr id o)=>match h[id]? with
    |some (.own ty cs)=>if ty=e∧o+n≤cs.length then some (f.set d (.val g ((cs.drop o).take n)),h)else none
    |_=>none
   |_=>none
 | .cle .. =>none
inductive Ex where
 |norm
 |exit (id:Nat)
 |ret
abbrev dP:=Nat→List (Bool×List C)→H→Option (V×H)
def args (f:Fr):List X→Option (List (Bool×List C))
 | []=>some []
 |x::xs=>match pR f x,args f xs with
  |some v,some vs=>some (v::vs)
  |_,_=>none
def eB (f:Fr) (d:Nat) (v:V):Fr:=
 match d with
 |0=>f
 |d+1=>f.set d v
open Classical in
noncomputable def el (call:dP) (d g:Nat) (q:Bool) (vs:List (Bool×List C)) (f:Fr) (h:H):Option (Fr×H):=
 match call g vs h with
 |some (v,h')=>if q=true→∃t,h'=h++t then some (eB f d v,h')else none
 |none=>none
def yh (e:Nat) (h h':H):Prop:=∀(i:Nat) (cs:List C),h[i]? =some (tO.own e cs)→h'[i]? =some (tO.own e cs)
open Classical in
noncomputable def fo (call:dP) (d g e:Nat) (vs:List (Bool×List C)) (f:Fr) (h:H):Option (Fr×H):=
 match call g vs h with
 |some (v,h')=>if yh e h h' then some (eB f d v,h')else none
 |none=>none
noncomputable def da (call:dP) (a:AI) (f:Fr) (h:H):Option (Fr×H):=
 match a with
 | .call d g q xs=>match args f xs with
   |some vs=>el call d g q vs f h
   |none=>none
 | .clv d q x xs=>match dt f x,args f xs with
   |some (.fn g),some vs=>el call d g q vs f h
   |_,_=>none
 | .cle d g e xs=>match args f xs with
   |some vs=>fo call d g e vs f h
   |none=>none
 |a=>ai a f h
def gv (f:Fr) (s:Nat) (w:Bool):Option C:=
 match f.get s with
 | .tup []=>some (.bool (!w))
 |_=>dt f (.s s)
noncomputable def cC (call:dP) (it:IT) (f:Fr) (h:H):Option (Fr×H):=
 match it with
 | .i a=>da call a f h
 | .g s w d a=>match gv f s w with
   |some (.bool b)=>if b=w then da call a f h else some (eB f d (.tup []),h)
   |_=>none
noncomputable def dS (call:dP):List IT→Fr→H→Option (Fr×H)
 | [],f,h=>some (f,h)
 |it::r,f,h=>match cC call it f h with
  |some (f',h')=>dS call r f' h'
  |none=>none
def forget (f:Fr):List Nat→Fr
 | []=>f
 |d::ds=>forget (f.set d .any) ds
def rounds (body:Fr→H→Option (Ex×Fr×H)) (ds:List Nat):Nat→Fr→H→Option (Ex×Fr×H)
 |0,_,_=>none
 |n+1,f,h=>match body (forget f ds) h with
  |some (.norm,f',h')=>rounds body ds n f' h'
  |r=>r
noncomputable def run (call:dP) (lf:Nat):AC→Fr→H→Option (Ex×Fr×H)
 | .ops l,f,h=>match dS call l f h with
   |some (f',h')=>some (.norm,f',h')
   |none=>none
 | .seq a b,f,h=>match run call lf a f h with
   |some (.norm,f',h')=>run call lf b f' h'
   |r=>r
 | .cond x a b,f,h=>match dt f x with
   |some (.bool true)=>run call lf a f h
   |some (.bool false)=>run call lf b f h
   |_=>none
 | .block id b,f,h=>match run call lf b f h with
   |some (.exit id',f',h')=>if id'=id then some (.norm,f',h')else some (.exit id',f',h')
   |r=>r
 | .loop ds b,f,h=>rounds (run call lf b) ds lf f h
 | .exit id,f,h=>some (.exit id,f,h)
 | .ret,f,h=>some (.ret,f,h)
 | .skip,f,h=>some (.norm,f,h)
def zp (f:Fr):RV→Option (Bool×List C)
 | .tmp t=>pR f (.s t)
 | .cell s n g=>match f.get s with
   | .box cs=>if n=cs.length then some (g,cs)else none
   |_=>none
def rX (f:Fr):List RV→Option (List (Bool×List C))
 | []=>some []
 |r::rs=>match zp f r,rX f rs with
  |some v,some vs=>some (v::vs)
  |_,_=>none
def kl (f:Fr) (rs:List RV):Option V:=
 match rX f rs with
 |some [(g,cs)]=>some (.val g cs)
 |some vs=>some (.tup vs)
 |none=>none
def cZ (f:Fr) (n:Nat):List (Bool×List C)→Fr
 | []=>f
 |(g,cs)::r=>cZ (f.set n (.val g cs)) (n+1) r
noncomputable def Dx (call:dP) (lf:Nat) (a:AF) (vs:List (Bool×List C)) (h:H):Option (V×H):=
 if vs.length=a.np then
  match run call lf a.body (cZ (PT.full a.dep) 0 vs) h with
  |some (.norm,f,h')|some (.ret,f,h')=>match kl f a.res with
   |some v=>some (v,h')
   |none=>none
  |_=>none
 else none
noncomputable def ep (code:Nat→Option AF):Nat→dP
 |0=>fun _ _ _=>none
 |n+1=>fun g vs h=>match code g with
  |some a=>Dx (ep code n) n a vs h
  |none=>none
end Go.Eng
namespace Go.Eng
def Ou:Value→Option C
 | .int k n=>some (.int k n)
 | .bool b=>some (.bool b)
 | .string s=>some (.str s)
 | .slice none 0 0=>some .nils
 | .pointer none=>some .nilp
 | .nilFunc=>some .nilf
 | .nilIface=>some .nili
 | .func (.func f) ⟨[]⟩ ⟨[]⟩=>some (.fn f)
 |_=>none
def Cn:List Value→Option (List C)
 | []=>some []
 |v::vs=>match Ou v,Cn vs with
  |some c,some cs=>some (c::cs)
  |_,_=>none
def Pq:Value→Option V
 | .agg a=>match Cn a.toList with
   |some cs=>some (.val true cs)
   |none=>none
 | .tuple ⟨[]⟩=>some .any
 |v=>match Ou v with
  |some c=>some (.val false [c])
  |none=>none
def cX:Operand→Option X
 | .tmp t=>some (.s t)
 | .const v=>match Pq v with
   |some u=>some (.c u)
   |none=>none
 | .func f=>some (.c (.val false [.fn f]))
 | .global _=>none
def EV:List Operand→Option (List X)
 | []=>some []
 |x::xs=>match cX x,EV xs with
  |some y,some ys=>some (y::ys)
  |_,_=>none
def zeroOf (P:Program) (t:TypeId):Option (List C):=
 match P.info? t with
 |some i=>match i.zero with
  |some z=>match Cn z.cells.toList with
   |some cs=>if cs.length=i.size then some cs else none
   |none=>none
  |none=>none
 |none=>none
def Eh (P:Program) (t:TypeId):Option Bool:=
 match P.underlying t with
 |some (.struct _)=>some true
 |some (.array _ _)=>some true
 |some _=>some false
 |none=>none
def pD (P:Program) (t:TypeId):Option (Nat×Bool):=
 match P.info? t,Eh P t with
 |some i,some g=>if g=true∨i.size=1 then some (i.size,g)else none
 |_,_=>none
def opsOf:Code→List Oper
 | .region _ ops _=>ops.toList
 | .seq a b=>opsOf a++opsOf b
 | .cond _ a b=>opsOf a++opsOf b
 | .block _ b=>opsOf b
 | .loop b=>opsOf b
 |_=> []
def iB:List Operand→Nat
 | []=>0
 | .tmp t::r=>2 ^ t|||iB r
 |_::r=>iB r
def Qa (P:Program):Op→Nat
 | .move _| .load _ _| .nilCheck _| .fieldAddr _ _ _=>0
 | .store _ _ v=>iB [v]
 | .indexAddr t x i=>match P.underlying t with
   |some (.array _ _)=>iB [i]
   |_=>iB [x,i]
 |op=>iB op.operands.toList
def Kf (P:Program):List Oper→Nat
 | []=>0
 |o::r=>Qa P o.op|||Kf P r
def oL (P:Program) (E:Nat):List Oper→Nat
 | []=>E
 |o::r=>
  match o.dst,o.op with
  |some d, .move (.tmp x)|some d, .fieldAddr _ (.tmp x) _|some d, .nilCheck (.tmp x)=>oL P (if E.testBit d then E|||2 ^ x else E) r
  |some d, .indexAddr t (.tmp x) _=>oL P (match P.underlying t with|some (.array _ _)=>if E.testBit d then E|||2 ^ x else E|_=>E) r
  |_,_=>oL P E r
def Bh:List ResultVar→Nat
 | []=>0
 | .tmp t::r=>2 ^ t|||Bh r
 |_::r=>Bh r
def IQ (P:Program) (fn:Func) (l:List Oper):Nat:=
 let r:=l.reverse
 let e:=Kf P l|||Bh fn.results.toList
 oL P (oL P (oL P e r) r) r
def pn (P:Program) (E:Nat):List (Nat×Nat)→List Oper→List (Nat×Nat)
 |env,[]=>env
 |env,o::r=>
  match o.dst,o.op with
  |some d, .alloc _|some d, .box _ _=>pn P E (if E.testBit d then env else(d,d)::env) r
  |some d, .move (.tmp x)|some d, .fieldAddr _ (.tmp x) _|some d, .nilCheck (.tmp x)=>
   pn P E (match env.lookup x with|some s=>(d,s)::env|none=>env) r
  |some d, .indexAddr t (.tmp x) _=>pn P E (match P.underlying t,env.lookup x with|some (.array _ _),some s=>(d,s)::env|_,_=>env) r
  |_,_=>pn P E env r
def NA:Op→Nat
 | .call c=>match c.callee,c.args.toList with
   | .builtin .append,[x,_]=>iB [x]
   |_,_=>iB c.operands.toList
 |op=>iB op.operands.toList
def Co:List Oper→Nat
 | []=>0
 |o::r=>NA o.op|||Co r
structure wJ where
 E:Nat
 env:List (Nat×Nat)
 N:Nat
 nt:Nat
def wJ.root (I:wJ):Operand→Option Nat
 | .tmp t=>I.env.lookup t
 |_=>none
def wJ.hand (I:wJ) (d:Nat) (x:Operand):Bool:=
 match I.root x with
 |none=>true
 |some r=>I.env.lookup d==some r
def Ab:BinOp→B2
 | .add=> .add| .sub=> .sub| .mul=> .mul| .quo=> .quo| .rem=> .rem| .and=> .and| .or=> .or| .xor=> .xor| .shl=> .shl| .shr=> .shr| .andNot=> .andNot
 | .eql=> .eql| .neq=> .neq| .lss=> .lss| .leq=> .leq| .gtr=> .gtr| .geq=> .geq
def EY:Operand→Bool
 | .const (.slice none 0 0)=>true
 |_=>false
def Dq (P:Program):Nat→List Field→Bool
 |_,[]=>true
 |i,f::r=>f.name != "_" && (match P.underlying f.type with|some (.int _)=>true|_=>false) && f.offset==i && Dq P (i+1) r
def BB (P:Program) (d:Nat) (op:BinOp) (t:TypeId) (x y:Operand):Option AI:=
 match P.underlying t with
 |some (.int _)|some .string=>match cX x,cX y with
  |some a,some b=>some (.bin d (Ab op) a b)
  |_,_=>none
 |some .bool=>match op,cX x,cX y with
  | .eql,some a,some b=>some (.beq d false a b)
  | .neq,some a,some b=>some (.beq d true a b)
  |_,_,_=>none
 |some (.slice _)=>
  if EY y then match op,cX x with
   | .eql,some a=>some (.snil d false a)
   | .neq,some a=>some (.snil d true a)
   |_,_=>none
  else none
 |some (.struct fs)=>
  if Dq P 0 fs.toList && !(P.stoodInHeld t) && !(P.eqGuardType P.depth t)then match op,cX x,cX y with
   | .eql,some a,some b=>some (.geq d fs.size false a b)
   | .neq,some a,some b=>some (.geq d fs.size true a b)
   |_,_,_=>none
  else none
 |_=>none
def partsOf (P:Program) (place:Nat→Option (Nat×Nat)):List (Nat×Operand)→Option (List (Nat×Nat×X))
 | []=>some []
 |(i,x)::r=>match place i,cX x,partsOf P place r with
  |some (off,sz),some y,some ps=>some ((off,sz,y)::ps)
  |_,_,_=>none
def yT:Option Operand→Option (Option X)
 |none=>some none
 |some x=>match cX x with
  |some y=>some (some y)
  |none=>none
def CH:Operand→Operand→Bool
 | .tmp a, .tmp b=>a==b
 | .const (.int .i64 a), .const (.int .i64 b)=>a==b
 |_,_=>false
def sN (P:Program) (q:Bool) (d:Nat) (c:Call):Option AI:=
 match c.callee with
 | .value (.func f)=>match EV c.args.toList with
   |some xs=>some (.call d f q xs)
   |none=>none
 | .value x=>match cX x,EV c.args.toList with
   |some y,some xs=>some (.clv d q y xs)
   |_,_=>none
 | .builtin b=>match d with
   |0=>none
   |d+1=>match b,c.args.toList,c.argTypes.toList with
    | .len,[x],[t]=>match P.underlying t,cX x with
      |some (.slice _),some y=>some (.len d false y)
      |some .string,some y=>some (.len d true y)
      |some (.array n _),some _=>some (.mov d (.c (.val false [.int .i64 n])))
      |_,_=>none
    | .append,[x,y],[t,u]=>match P.underlying t,P.underlying u,cX x,cX y with
      |some (.slice e),some (.slice _),some a,some b=>match P.info? e,zeroOf P e with
       |some i,some _=>if 0 < i.size then some (.app d e i.size i.bytes a b)else none
       |_,_=>none
      |some (.slice e),some .string,some a,some b=>match P.info? e,zeroOf P e with
       |some i,some _=>if 0 < i.size then some (.app d e i.size i.bytes a b)else none
       |_,_=>none
      |_,_,_,_=>none
    | .copy,[x,y],[t,_]=>match P.underlying t,cX x,cX y with
      |some (.slice e),some a,some b=>match P.info? e with
       |some i=>if 0 < i.size then some (.cpy d i.size a b)else none
       |none=>none
      |_,_,_=>none
    | .min,[x,y],_=>match cX x,cX y with
      |some a,some b=>some (.mm d false a b)
      |_,_=>none
    | .max,[x,y],_=>match cX x,cX y with
      |some a,some b=>some (.mm d true a b)
      |_,_=>none
    |_,_,_=>none
 |_=>none
def Fi (P:Program) (I:wJ) (q:Bool) (o:Oper):Option AI:=
 match o.dst,o.op with
 |some d, .move x|some d, .assign x=>match cX x with
  |some y=>if I.hand d x then some (.mov d y)else none
  |none=>none
 |some d, .pick c a b=>match cX c,cX a,cX b with
  |some c,some a,some b=>some (.pick d c a b)
  |_,_,_=>none
 |some d, .alloc t=>match zeroOf P t with
  |some cs=>if I.E.testBit d then some (.hal d t cs)else if I.env.lookup d==some d then some (.lal d cs)else none
  |none=>none
 |some d, .box t x=>match cX x with
  |some y=>if I.E.testBit d then some (.hbox d t y)else if I.env.lookup d==some d then some (.lbox d y)else none
  |none=>none
 |some d, .build t ps=>match zeroOf P t,P.underlying t with
  |some z,some (.struct fs)=>match partsOf P (fun i=>match fs[i]? with|some f=>(match P.info? f.type with|some j=>some (f.offset,j.size)|none=>none)|none=>none) ps.toList with
   |some qs=>if fs.toList.all (fun f=>(P.info? f.type).isSome)then some (.bld d z qs)else none
   |none=>none
  |some z,some (.array _ e)=>match P.info? e with
   |some j=>match partsOf P (fun i=>some (i * j.size,j.size)) ps.toList with
    |some qs=>some (.bld d z qs)
    |none=>none
   |none=>none
  |_,_=>none
 |some d, .buildSlice t len ps=>match P.underlying t with
  |some (.slice e)=>match P.info? e,zeroOf P e with
   |some j,some z=>match partsOf P (fun i=>some (i * j.size,j.size)) ps.toList with
    |some qs=>if len * j.size≤2 ^ 24∧0 < j.size then
      (if len=0 then(if ps.toList.isEmpty then some (.bse d)else none)else if I.N.testBit d then some (.bsl d e j.size len z qs)else some (.lsl d j.size len z qs))else none
    |none=>none
   |_,_=>none
  |_=>none
 |some d, .fieldAddr t x k=>match P.underlying t,cX x with
  |some (.struct fs),some y=>match fs[k]? with
   |some f=>match P.info? f.type with
    |some j=>if j.size=0 then none else if I.hand d x then some (.fad d y f.offset)else none
    |none=>none
   |none=>none
  |_,_=>none
 |some d, .indexAddr t x i=>match P.underlying t,cX x,cX i with
  |some (.slice e),some y,some j=>match P.info? e with
   |some k=>some (.iad d y j k.size)
   |none=>none
  |some (.array n e),some y,some j=>match P.info? e with
   |some k=>if 1 < n∧I.hand d x=true then some (.iaa d y j k.size n)else none
   |none=>none
  |_,_,_=>none
 |some d, .load t x=>match pD P t,cX x with
  |some (n,g),some y=>match I.root x with
   |some r=>some (.ldl d r y n g)
   |none=>some (.ldh d y n g)
  |_,_=>none
 |none, .store t x v=>match pD P t,cX x,cX v with
  |some (n,_),some y,some u=>match I.root x with
   |some r=>some (.stl r y u n)
   |none=>some (.sth y u n)
  |_,_,_=>none
 |some d, .binOp op t x y _=>BB P d op t x y
 |some d, .unOp op _ x=>match op,cX x with
  | .neg,some y=>some (.neg d y)
  | .not,some y=>some (.not d y)
  |_,_=>none
 |some d, .convert s t x=>match P.underlying s,P.underlying t,cX x with
  |some (.int _),some (.int k),some y=>some (.cvi d k y)
  |some (.slice e),some .string,some y=>match P.underlying e with
   |some (.int .u8)=>some (.cbs d y)
   |_=>none
  |_,_,_=>none
 |some d, .makeSlice t l c=>if CH l c then match P.underlying t,cX l with
   |some (.slice e),some y=>match P.info? e,zeroOf P e with
    |some j,some z=>if 0 < j.size then some (.mks d e j.size j.bytes z y)else none
    |_,_=>none
   |_,_=>none
  else none
 |some d, .slice t x lo hi none=>match P.underlying t,cX x,yT lo,yT hi with
  |some (.slice e),some y,some l,some h=>match P.info? e with
   |some j=>if 0 < j.size then some (.fb d j.size y l h)else none
   |none=>none
  |some .string,some y,some l,some h=>some (.sls d y l h)
  |some (.array n e),some y,some none,some none=>match P.info? e with
   |some j=>if 0 < j.size∧0 < n then some (.sla d y n j.size)else none
   |none=>none
  |_,_,_,_=>none
 |some d, .field t x k=>match P.underlying t,cX x with
  |some (.struct fs),some y=>match fs[k]? with
   |some f=>match pD P f.type with
    |some (n,g)=>some (.fld d y f.offset n g)
    |none=>none
   |none=>none
  |_,_=>none
 |some d, .index t x i=>match P.underlying t,cX x,cX i with
  |some (.array n e),some y,some j=>match pD P e with
   |some (m,g)=>some (.idx d y j m n g)
   |none=>none
  |some .string,some y,some j=>some (.ids d y j)
  |_,_,_=>none
 |some d, .extract x i=>match cX x with
  |some y=>some (.ext d y i)
  |none=>none
 |some d, .nilCheck x=>match cX x with
  |some y=>if I.hand d x then some (.nch d y)else none
  |none=>none
 |some d, .call c=>sN P q (d+1) c
 |none, .call c=>sN P q 0 c
 |_,_=>none
def AI.boxes:AI→Bool
 | .lbox _ _| .lal _ _=>true
 |_=>false
def kX (I:wJ) (a:AI):Option Nat→Bool
 |none=>true
 |some d=>decide (d < I.nt) && (a.boxes||I.env.lookup d !=some d)
def X.slot:X→Bool
 | .s _=>true
 | .c _=>false
def AI.My:AI→Bool
 | .ldh _ x _ _| .lde _ x _ _ _| .cbs _ x| .sla _ x _ _=>x.slot
 |_=>true
def rA (P:Program) (I:wJ) (q:Bool) (ops:Array Oper) (o:Oper):Option IT:=
 match Fi P I q o with
 |none=>none
 |some a=>if kX I a o.dst && a.My then match o.guard with
  |none=>some (.i a)
  |some (j,w)=>if a.boxes then none else match(ops[j]?).bind (·.dst)with
   |some s=>some (.g s w (match o.dst with|none=>0|some d=>d+1) a)
   |none=>none
  else none
def qQ (P:Program) (I:wJ) (q:Bool) (ops:Array Oper):List Oper→Option (List IT)
 | []=>some []
 |o::r=>match rA P I q ops o,qQ P I q ops r with
  |some a,some as=>some (a::as)
  |_,_=>none
def cS:X→Nat
 | .s t=>2 ^ t
 | .c _=>0
def rn:List X→Nat
 | []=>0
 |x::r=>cS x|||rn r
def CC:List (Nat×Nat×X)→Nat
 | []=>0
 |(_,_,x)::r=>cS x|||CC r
def CO:Option X→Nat
 |none=>0
 |some x=>cS x
def AI.rd:AI→Nat
 | .lbox d x=>2 ^ d|||cS x
 | .mov _ x| .hbox _ _ x| .fad _ x _| .ldh _ x _ _| .lde _ x _ _ _| .neg _ x| .not _ x| .cvi _ _ x| .cbs _ x| .mks _ _ _ _ _ x| .sla _ x _ _| .fld _ x _ _ _| .ext _ x _| .nch _ x| .len _ _ x| .snil _ _ x=>cS x
 | .bse _=>0
 | .pick _ c a b=>cS c|||cS a|||cS b
 | .hal _ _ _=>0
 | .lal d _=>2 ^ d
 | .bld _ _ ps| .bsl _ _ _ _ _ ps| .lsl _ _ _ _ ps=>CC ps
 | .iad _ x i _| .iaa _ x i _ _| .idx _ x i _ _ _| .ids _ x i=>cS x|||cS i
 | .ldl _ r x _ _=>2 ^ r|||cS x
 | .stl r x v _=>2 ^ r|||cS x|||cS v
 | .sth x v _=>cS x|||cS v
 | .bin _ _ x y| .beq _ _ x y| .geq _ _ _ x y| .app _ _ _ _ x y| .cpy _ _ x y| .mm _ _ x y=>cS x|||cS y
 | .fb _ _ x l h| .sls _ x l h=>cS x|||CO l|||CO h
 | .call _ _ _ xs| .cle _ _ _ xs=>rn xs
 | .clv _ _ x xs=>cS x|||rn xs
def Ap:Nat→Nat
 |0=>0
 |d+1=>2 ^ d
def AI.wr:AI→Nat
 | .mov d _| .pick d _ _ _| .lbox d _| .lal d _| .hbox d _ _| .hal d _ _| .bld d _ _| .bsl d _ _ _ _ _| .bse d| .lsl d _ _ _ _| .fad d _ _| .iad d _ _ _| .iaa d _ _ _ _| .ldl d _ _ _ _| .ldh d _ _ _| .lde d _ _ _ _
 | .bin d _ _ _| .beq d _ _ _| .snil d _ _| .geq d _ _ _ _| .neg d _| .not d _| .cvi d _ _| .cbs d _| .mks d _ _ _ _ _| .fb d _ _ _ _| .sls d _ _ _| .sla d _ _ _| .fld d _ _ _ _| .idx d _ _ _ _ _
 | .ids d _ _| .ext d _ _| .nch d _| .len d _ _| .app d _ _ _ _ _| .cpy d _ _ _| .mm d _ _ _=>2 ^ d
 | .stl r _ _ _=>2 ^ r
 | .sth _ _ _=>0
 | .call d _ _ _| .clv d _ _ _| .cle d _ _ _=>Ap d
def AI.hr:AI→Bool
 | .ldh _ _ _ _| .lde _ _ _ _ _| .cbs _ _| .sla _ _ _ _=>true
 |_=>false
def AI.sq:AI→Bool
 | .hbox .. | .hal .. | .bsl .. | .sth .. | .mks .. | .app .. | .cpy .. | .call .. | .clv .. | .cle .. =>true
 |_=>false
def AI.hw:AI→Bool
 | .sth .. | .app .. | .cpy .. | .cle .. =>true
 | .call _ _ q _| .clv _ q _ _=> !q
 |_=>false
def IT.ai:IT→AI
 | .i a=>a
 | .g _ _ _ a=>a
def IT.rd:IT→Nat
 | .i a=>a.rd
 | .g s _ _ a=>2 ^ s|||a.rd
def IT.wr:IT→Nat
 | .i a=>a.wr
 | .g _ _ d a=>Ap d|||a.wr
def AI.B8:AI→AI→Bool
 | .cle _ _ e _, .lde _ _ _ _ e'=>e==e'
 |_,_=>false
def meets (a b:IT):Bool:=
 (a.wr &&& (b.rd|||b.wr)) !=0||(b.wr &&& a.rd) !=0||(a.ai.sq && b.ai.sq)||(a.ai.hw && b.ai.hr)||(b.ai.hw && a.ai.hr && !b.ai.B8 a.ai)
def se (bs:List Nat) (o:Oper):Nat:=
 o.after.toList.foldl (fun s e=>if Region.binds .any e then(match bs[e.on]? with|some b=>s|||2 ^ e.on|||b|none=>s)else s) 0
def dE:List Nat→List Oper→List Nat
 |bs,[]=>bs
 |bs,o::r=>dE (bs++ [se bs o]) r
def mX (its:List IT) (it:IT) (b:Nat):Nat→Bool
 |0=>true
 |i+1=>(match its[i]? with|some o=> !meets o it||b.testBit i|none=>true) && mX its it b i
def nM (its:List IT) (bs:List Nat):Nat→Bool
 |0=>true
 |j+1=>(match its[j]?,bs[j]? with|some it,some b=>mX its it b j|_,_=>false) && nM its bs j
def pk:Nat→List Oper→Bool
 |_,[]=>true
 |j,o::r=>o.after.toList.all (fun e=> !(Region.binds .any e)||decide (e.on < j)) && pk (j+1) r
def AI.fN (e:Nat):AI→AI
 | .ldh d x n g=> .lde d x n g e
 | .call d f false xs=> .cle d f e xs
 |a=>a
def IT.fN (e:Nat):IT→IT
 | .i a=> .i (a.fN e)
 | .g s w d a=> .g s w d (a.fN e)
def FG (I:wJ):List Oper→Option TypeId
 | []=>none
 |o::r=>match o.op with
  | .load t x=>if(I.root x).isSome then FG I r else some t
  |_=>FG I r
def GW (P:Program):List Oper→Bool
 | []=>false
 |o::r=>(match o.op with
  | .call c=>match c.callee with
    | .value (.func f)=>match P.funcs[f]? with
      |some fn=>fn.params.toList.any fun t=>match P.underlying t with|some (.pointer _)=>true|_=>false
      |none=>false
    |_=>false
  |_=>false)||GW P r
def NC (P:Program) (I:wJ) (ops:List Oper):Option TypeId:=if GW P ops then FG I ops else none
def Ey (P:Program) (I:wJ) (ops:Array Oper) (draw:Bool):Option AC:=
 if draw then
  if P.follows .mixedOrders && pk 0 ops.toList then
   match qQ P I false ops ops.toList with
   |none=>none
   |some l=>if nM l (dE [] ops.toList) l.length then some (.ops l)else
    match NC P I ops.toList with
    |some e=>if nM (l.map (IT.fN e)) (dE [] ops.toList) (l.map (IT.fN e)).length then some (.ops (l.map (IT.fN e)))else none
    |none=>
    match qQ P I true ops ops.toList with
    |none=>none
    |some l=>if nM l (dE [] ops.toList) l.length then some (.ops l)else none
  else none
 else match qQ P I false ops ops.toList with
  |some l=>some (.ops l)
  |none=>none
def jw (l:List Oper):Nat:=l.foldl (fun s o=>match o.dst with|some d=>s|||2 ^ d|none=>s) 0
def bitsOf (m:Nat):Nat→List Nat
 |0=> []
 |n+1=>if m.testBit n then n::bitsOf m n else bitsOf m n
def gU (P:Program) (I:wJ) (nt:Nat) (out:Nat):Code→Option AC
 | .skip=>some .skip
 | .region _ ops draw=>Ey P I ops draw
 | .seq a b=>match gU P I nt (out|||jw (opsOf b)) a,gU P I nt (out|||jw (opsOf a)) b with
   |some x,some y=>some (.seq x y)
   |_,_=>none
 | .cond c a b=>match cX c,gU P I nt (out|||jw (opsOf b)) a,gU P I nt (out|||jw (opsOf a)) b with
   |some z,some x,some y=>some (.cond z x y)
   |_,_,_=>none
 | .block id b=>match gU P I nt out b with
   |some x=>some (.block id x)
   |none=>none
 | .loop b=>match gU P I nt out b with
   |some x=>
    let m:=jw (opsOf b) ^^^ (jw (opsOf b) &&& out)
    if I.env.all (fun p=> !(m.testBit p.2)||(bitsOf m nt).contains p.1)then some (.loop (bitsOf m nt) x)else none
   |none=>none
 | .exit id=>some (.exit id)
 | .ret=>some .ret
 |_=>none
def depth (n:Nat):Nat:=n.log2+1
def NB (P:Program):ResultVar→Option RV
 | .tmp t=>some (.tmp t)
 | .cell s t=>match pD P t with
   |some (n,g)=>some (.cell s n g)
   |none=>none
def A8 (P:Program):List ResultVar→Option (List RV)
 | []=>some []
 |r::rs=>match NB P r,A8 P rs with
  |some v,some vs=>some (v::vs)
  |_,_=>none
def H8 (P:Program) (fn:Func):Option AF:=
 if fn.name== "runtime.NumGoroutine" then none else
 match fn.body,A8 P fn.results.toList with
 |some b,some res=>
  let l:=opsOf b
  let E:=IQ P fn l
  let I:wJ:=⟨E,pn P E [] l,Co l,fn.ntmps⟩
  match gU P I fn.ntmps (2 ^ fn.params.size - 1) b with
  |some c=>if fn.params.size≤fn.ntmps then some ⟨fn.params.size,depth fn.ntmps,res,c⟩else none
  |none=>none
 |_,_=>none
def code (P:Program) (g:Nat):Option AF:=
 match P.funcs[g]? with
 |some fn=>H8 P fn
 |none=>none
end Go.Eng
namespace Go.Eng
theorem Qs (d:Nat):∀n,n≤d→K.lH d n=K.lH n n:=by
 induction d using Nat.strongRecOn with
 |_ d ih=>
  intro n hn
  cases d with
  |zero=>obtain rfl:n=0:=by omega
         rfl
  |succ d=>
   cases n with
   |zero=>simp[K.lH]
   |succ m=>
    have h1:=ih d (by omega) ((m+1) / 2) (by omega)
    have h2:=ih m (by omega) ((m+1) / 2) (by omega)
    have h3:=ih d (by omega) ((m+1) / 2 - 1) (by omega)
    have h4:=ih m (by omega) ((m+1) / 2 - 1) (by omega)
    simp only[K.lH,h1,h2,h3,h4]
theorem Qz (n:Nat):K.of (n+1)=if(n+1) % 2=1 then .o (K.of ((n+1) / 2))else .i (K.of ((n+1) / 2 - 1)):=by
 show(if n+1=0 then K.z else if(n+1) % 2=1 then K.o (K.lH n ((n+1) / 2))else K.i (K.lH n ((n+1) / 2 - 1)))=_
 rw[if_neg (Nat.succ_ne_zero n),Qs n ((n+1) / 2) (by omega),Qs n ((n+1) / 2 - 1) (by omega)]
 rfl
theorem ko (n:Nat):K.of (2 * n+1)= .o (K.of n):=by
 rw[Qz,if_pos (by omega),show(2 * n+1) / 2=n by omega]
theorem ki (n:Nat):K.of (2 * n+2)= .i (K.of n):=by
 rw[Qz,if_neg (by omega),show(2 * n+1+1) / 2 - 1=n by omega]
set_option maxRecDepth 100000 in
theorem O9:K.of 0= .z∧
 K.of 1= .o (K.of 0)∧
 K.of 2= .i (K.of 0)∧
 K.of 3= .o (K.of 1)∧
 K.of 4= .i (K.of 1)∧
 K.of 5= .o (K.of 2)∧
 K.of 6= .i (K.of 2)∧
 K.of 7= .o (K.of 3)∧
 K.of 8= .i (K.of 3)∧
 K.of 9= .o (K.of 4)∧
 K.of 10= .i (K.of 4)∧
 K.of 11= .o (K.of 5)∧
 K.of 12= .i (K.of 5)∧
 K.of 13= .o (K.of 6)∧
 K.of 14= .i (K.of 6)∧
 K.of 15= .o (K.of 7)∧
 K.of 16= .i (K.of 7)∧
 K.of 17= .o (K.of 8)∧
 K.of 18= .i (K.of 8)∧
 K.of 19= .o (K.of 9)∧
 K.of 20= .i (K.of 9)∧
 K.of 21= .o (K.of 10)∧
 K.of 22= .i (K.of 10)∧
 K.of 23= .o (K.of 11)∧
 K.of 24= .i (K.of 11)∧
 K.of 25= .o (K.of 12)∧
 K.of 26= .i (K.of 12)∧
 K.of 27= .o (K.of 13)∧
 K.of 28= .i (K.of 13)∧
 K.of 29= .o (K.of 14)∧
 K.of 30= .i (K.of 14)∧
 K.of 31= .o (K.of 15)∧
 K.of 32= .i (K.of 15)∧
 K.of 33= .o (K.of 16)∧
 K.of 34= .i (K.of 16)∧
 K.of 35= .o (K.of 17)∧
 K.of 36= .i (K.of 17)∧
 K.of 37= .o (K.of 18)∧
 K.of 38= .i (K.of 18)∧
 K.of 39= .o (K.of 19)∧
 K.of 40= .i (K.of 19)∧
 K.of 41= .o (K.of 20)∧
 K.of 42= .i (K.of 20)∧
 K.of 43= .o (K.of 21)∧
 K.of 44= .i (K.of 21)∧
 K.of 45= .o (K.of 22)∧
 K.of 46= .i (K.of 22)∧
 K.of 47= .o (K.of 23)∧
 K.of 48= .i (K.of 23)∧
 K.of 49= .o (K.of 24)∧
 K.of 50= .i (K.of 24)∧
 K.of 51= .o (K.of 25)∧
 K.of 52= .i (K.of 25)∧
 K.of 53= .o (K.of 26)∧
 K.of 54= .i (K.of 26)∧
 K.of 55= .o (K.of 27)∧
 K.of 56= .i (K.of 27)∧
 K.of 57= .o (K.of 28)∧
 K.of 58= .i (K.of 28)∧
 K.of 59= .o (K.of 29)∧
 K.of 60= .i (K.of 29)∧
 K.of 61= .o (K.of 30)∧
 K.of 62= .i (K.of 30)∧
 K.of 63= .o (K.of 31)∧
 K.of 64= .i (K.of 31)∧
 K.of 65= .o (K.of 32)∧
 K.of 66= .i (K.of 32)∧
 K.of 67= .o (K.of 33)∧
 K.of 68= .i (K.of 33)∧
 K.of 69= .o (K.of 34)∧
 K.of 70= .i (K.of 34)∧
 K.of 71= .o (K.of 35)∧
 K.of 72= .i (K.of 35)∧
 K.of 73= .o (K.of 36)∧
 K.of 74= .i (K.of 36)∧
 K.of 75= .o (K.of 37)∧
 K.of 76= .i (K.of 37)∧
 K.of 77= .o (K.of 38)∧
 K.of 78= .i (K.of 38)∧
 K.of 79= .o (K.of 39)∧
 K.of 80= .i (K.of 39)∧
 K.of 81= .o (K.of 40)∧
 K.of 82= .i (K.of 40)∧
 K.of 83= .o (K.of 41)∧
 K.of 84= .i (K.of 41)∧
 K.of 85= .o (K.of 42)∧
 K.of 86= .i (K.of 42)∧
 K.of 87= .o (K.of 43)∧
 K.of 88= .i (K.of 43)∧
 K.of 89= .o (K.of 44)∧
 K.of 90= .i (K.of 44)∧
 K.of 91= .o (K.of 45)∧
 K.of 92= .i (K.of 45)∧
 K.of 93= .o (K.of 46)∧
 K.of 94= .i (K.of 46)∧
 K.of 95= .o (K.of 47)∧
 K.of 96= .i (K.of 47)∧
 K.of 97= .o (K.of 48)∧
 K.of 98= .i (K.of 48)∧
 K.of 99= .o (K.of 49)∧
 K.of 100= .i (K.of 49)∧
 K.of 101= .o (K.of 50)∧
 K.of 102= .i (K.of 50)∧
 K.of 103= .o (K.of 51)∧
 K.of 104= .i (K.of 51)∧
 K.of 105= .o (K.of 52)∧
 K.of 106= .i (K.of 52)∧
 K.of 107= .o (K.of 53)∧
 K.of 108= .i (K.of 53)∧
 K.of 109= .o (K.of 54)∧
 K.of 110= .i (K.of 54)∧
 K.of 111= .o (K.of 55)∧
 K.of 112= .i (K.of 55)∧
 K.of 113= .o (K.of 56)∧
 K.of 114= .i (K.of 56)∧
 K.of 115= .o (K.of 57)∧
 K.of 116= .i (K.of 57)∧
 K.of 117= .o (K.of 58)∧
 K.of 118= .i (K.of 58)∧
 K.of 119= .o (K.of 59)∧
 K.of 120= .i (K.of 59)∧
 K.of 121= .o (K.of 60)∧
 K.of 122= .i (K.of 60)∧
 K.of 123= .o (K.of 61)∧
 K.of 124= .i (K.of 61)∧
 K.of 125= .o (K.of 62)∧
 K.of 126= .i (K.of 62)∧
 K.of 127= .o (K.of 63)∧
 K.of 128= .i (K.of 63)∧
 K.of 129= .o (K.of 64)∧
 K.of 130= .i (K.of 64)∧
 K.of 131= .o (K.of 65)∧
 K.of 132= .i (K.of 65)∧
 K.of 133= .o (K.of 66)∧
 K.of 134= .i (K.of 66)∧
 K.of 135= .o (K.of 67)∧
 K.of 136= .i (K.of 67)∧
 K.of 137= .o (K.of 68)∧
 K.of 138= .i (K.of 68)∧
 K.of 139= .o (K.of 69)∧
 K.of 140= .i (K.of 69)∧
 K.of 141= .o (K.of 70)∧
 K.of 142= .i (K.of 70)∧
 K.of 143= .o (K.of 71)∧
 K.of 144= .i (K.of 71)∧
 K.of 145= .o (K.of 72)∧
 K.of 146= .i (K.of 72)∧
 K.of 147= .o (K.of 73)∧
 K.of 148= .i (K.of 73)∧
 K.of 149= .o (K.of 74)∧
 K.of 150= .i (K.of 74)∧
 K.of 151= .o (K.of 75)∧
 K.of 152= .i (K.of 75)∧
 K.of 153= .o (K.of 76)∧
 K.of 154= .i (K.of 76)∧
 K.of 155= .o (K.of 77)∧
 K.of 156= .i (K.of 77)∧
 K.of 157= .o (K.of 78)∧
 K.of 158= .i (K.of 78)∧
 K.of 159= .o (K.of 79)∧
 K.of 160= .i (K.of 79)∧
 K.of 161= .o (K.of 80)∧
 K.of 162= .i (K.of 80)∧
 K.of 163= .o (K.of 81)∧
 K.of 164= .i (K.of 81)∧
 K.of 165= .o (K.of 82)∧
 K.of 166= .i (K.of 82)∧
 K.of 167= .o (K.of 83)∧
 K.of 168= .i (K.of 83)∧
 K.of 169= .o (K.of 84)∧
 K.of 170= .i (K.of 84)∧
 K.of 171= .o (K.of 85)∧
 K.of 172= .i (K.of 85)∧
 K.of 173= .o (K.of 86)∧
 K.of 174= .i (K.of 86)∧
 K.of 175= .o (K.of 87)∧
 K.of 176= .i (K.of 87)∧
 K.of 177= .o (K.of 88)∧
 K.of 178= .i (K.of 88)∧
 K.of 179= .o (K.of 89)∧
 K.of 180= .i (K.of 89)∧
 K.of 181= .o (K.of 90)∧
 K.of 182= .i (K.of 90)∧
 K.of 183= .o (K.of 91)∧
 K.of 184= .i (K.of 91)∧
 K.of 185= .o (K.of 92)∧
 K.of 186= .i (K.of 92)∧
 K.of 187= .o (K.of 93)∧
 K.of 188= .i (K.of 93)∧
 K.of 189= .o (K.of 94)∧
 K.of 190= .i (K.of 94)∧
 K.of 191= .o (K.of 95)∧
 K.of 192= .i (K.of 95)∧
 K.of 193= .o (K.of 96)∧
 K.of 194= .i (K.of 96)∧
 K.of 195= .o (K.of 97)∧
 K.of 196= .i (K.of 97)∧
 K.of 197= .o (K.of 98)∧
 K.of 198= .i (K.of 98)∧
 K.of 199= .o (K.of 99)∧
 K.of 200= .i (K.of 99)∧
 K.of 201= .o (K.of 100)∧
 K.of 202= .i (K.of 100)∧
 K.of 203= .o (K.of 101)∧
 K.of 204= .i (K.of 101)∧
 K.of 205= .o (K.of 102)∧
 K.of 206= .i (K.of 102)∧
 K.of 207= .o (K.of 103)∧
 K.of 208= .i (K.of 103)∧
 K.of 209= .o (K.of 104)∧
 K.of 210= .i (K.of 104)∧
 K.of 211= .o (K.of 105)∧
 K.of 212= .i (K.of 105)∧
 K.of 213= .o (K.of 106)∧
 K.of 214= .i (K.of 106)∧
 K.of 215= .o (K.of 107)∧
 K.of 216= .i (K.of 107)∧
 K.of 217= .o (K.of 108)∧
 K.of 218= .i (K.of 108)∧
 K.of 219= .o (K.of 109)∧
 K.of 220= .i (K.of 109)∧
 K.of 221= .o (K.of 110)∧
 K.of 222= .i (K.of 110)∧
 K.of 223= .o (K.of 111)∧
 K.of 224= .i (K.of 111)∧
 K.of 225= .o (K.of 112)∧
 K.of 226= .i (K.of 112)∧
 K.of 227= .o (K.of 113)∧
 K.of 228= .i (K.of 113)∧
 K.of 229= .o (K.of 114)∧
 K.of 230= .i (K.of 114)∧
 K.of 231= .o (K.of 115)∧
 K.of 232= .i (K.of 115)∧
 K.of 233= .o (K.of 116)∧
 K.of 234= .i (K.of 116)∧
 K.of 235= .o (K.of 117)∧
 K.of 236= .i (K.of 117)∧
 K.of 237= .o (K.of 118)∧
 K.of 238= .i (K.of 118)∧
 K.of 239= .o (K.of 119)∧
 K.of 240= .i (K.of 119)∧
 K.of 241= .o (K.of 120)∧
 K.of 242= .i (K.of 120)∧
 K.of 243= .o (K.of 121)∧
 K.of 244= .i (K.of 121)∧
 K.of 245= .o (K.of 122)∧
 K.of 246= .i (K.of 122)∧
 K.of 247= .o (K.of 123)∧
 K.of 248= .i (K.of 123)∧
 K.of 249= .o (K.of 124)∧
 K.of 250= .i (K.of 124)∧
 K.of 251= .o (K.of 125)∧
 K.of 252= .i (K.of 125)∧
 K.of 253= .o (K.of 126)∧
 K.of 254= .i (K.of 126)∧
 K.of 255= .o (K.of 127)∧
 K.of 256= .i (K.of 127)∧
 K.of 257= .o (K.of 128)∧
 K.of 258= .i (K.of 128)∧
 K.of 259= .o (K.of 129)∧
 K.of 260= .i (K.of 129)∧
 K.of 261= .o (K.of 130)∧
 K.of 262= .i (K.of 130)∧
 K.of 263= .o (K.of 131)∧
 K.of 264= .i (K.of 131)∧
 K.of 265= .o (K.of 132)∧
 K.of 266= .i (K.of 132)∧
 K.of 267= .o (K.of 133)∧
 K.of 268= .i (K.of 133)∧
 K.of 269= .o (K.of 134)∧
 K.of 270= .i (K.of 134)∧
 K.of 271= .o (K.of 135)∧
 K.of 272= .i (K.of 135)∧
 K.of 273= .o (K.of 136)∧
 K.of 274= .i (K.of 136)∧
 K.of 275= .o (K.of 137)∧
 K.of 276= .i (K.of 137)∧
 K.of 277= .o (K.of 138)∧
 K.of 278= .i (K.of 138)∧
 K.of 279= .o (K.of 139)∧
 K.of 280= .i (K.of 139)∧
 K.of 281= .o (K.of 140)∧
 K.of 282= .i (K.of 140)∧
 K.of 283= .o (K.of 141)∧
 K.of 284= .i (K.of 141)∧
 K.of 285= .o (K.of 142)∧
 K.of 286= .i (K.of 142)∧
 K.of 287= .o (K.of 143)∧
 K.of 288= .i (K.of 143)∧
 K.of 289= .o (K.of 144)∧
 K.of 290= .i (K.of 144)∧
 K.of 291= .o (K.of 145)∧
 K.of 292= .i (K.of 145)∧
 K.of 293= .o (K.of 146)∧
 K.of 294= .i (K.of 146)∧
 K.of 295= .o (K.of 147)∧
 K.of 296= .i (K.of 147)∧
 K.of 297= .o (K.of 148)∧
 K.of 298= .i (K.of 148)∧
 K.of 299= .o (K.of 149)∧
 K.of 300= .i (K.of 149)∧
 K.of 301= .o (K.of 150)∧
 K.of 302= .i (K.of 150)∧
 K.of 303= .o (K.of 151)∧
 K.of 304= .i (K.of 151)∧
 K.of 305= .o (K.of 152)∧
 K.of 306= .i (K.of 152)∧
 K.of 307= .o (K.of 153)∧
 K.of 308= .i (K.of 153)∧
 K.of 309= .o (K.of 154)∧
 K.of 310= .i (K.of 154)∧
 K.of 311= .o (K.of 155)∧
 K.of 312= .i (K.of 155)∧
 K.of 313= .o (K.of 156)∧
 K.of 314= .i (K.of 156)∧
 K.of 315= .o (K.of 157)∧
 K.of 316= .i (K.of 157)∧
 K.of 317= .o (K.of 158)∧
 K.of 318= .i (K.of 158)∧
 K.of 319= .o (K.of 159)∧
 K.of 320= .i (K.of 159)∧
 K.of 321= .o (K.of 160)∧
 K.of 322= .i (K.of 160)∧
 K.of 323= .o (K.of 161)∧
 K.of 324= .i (K.of 161)∧
 K.of 325= .o (K.of 162)∧
 K.of 326= .i (K.of 162)∧
 K.of 327= .o (K.of 163)∧
 K.of 328= .i (K.of 163)∧
 K.of 329= .o (K.of 164)∧
 K.of 330= .i (K.of 164)∧
 K.of 331= .o (K.of 165)∧
 K.of 332= .i (K.of 165)∧
 K.of 333= .o (K.of 166)∧
 K.of 334= .i (K.of 166)∧
 K.of 335= .o (K.of 167)∧
 K.of 336= .i (K.of 167)∧
 K.of 337= .o (K.of 168)∧
 K.of 338= .i (K.of 168)∧
 K.of 339= .o (K.of 169)∧
 K.of 340= .i (K.of 169)∧
 K.of 341= .o (K.of 170)∧
 K.of 342= .i (K.of 170)∧
 K.of 343= .o (K.of 171)∧
 K.of 344= .i (K.of 171)∧
 K.of 345= .o (K.of 172)∧
 K.of 346= .i (K.of 172)∧
 K.of 347= .o (K.of 173)∧
 K.of 348= .i (K.of 173)∧
 K.of 349= .o (K.of 174)∧
 K.of 350= .i (K.of 174)∧
 K.of 351= .o (K.of 175)∧
 K.of 352= .i (K.of 175)∧
 K.of 353= .o (K.of 176)∧
 K.of 354= .i (K.of 176)∧
 K.of 355= .o (K.of 177)∧
 K.of 356= .i (K.of 177)∧
 K.of 357= .o (K.of 178)∧
 K.of 358= .i (K.of 178)∧
 K.of 359= .o (K.of 179)∧
 K.of 360= .i (K.of 179)∧
 K.of 361= .o (K.of 180)∧
 K.of 362= .i (K.of 180)∧
 K.of 363= .o (K.of 181)∧
 K.of 364= .i (K.of 181)∧
 K.of 365= .o (K.of 182)∧
 K.of 366= .i (K.of 182)∧
 K.of 367= .o (K.of 183)∧
 K.of 368= .i (K.of 183)∧
 K.of 369= .o (K.of 184)∧
 K.of 370= .i (K.of 184)∧
 K.of 371= .o (K.of 185)∧
 K.of 372= .i (K.of 185)∧
 K.of 373= .o (K.of 186)∧
 K.of 374= .i (K.of 186)∧
 K.of 375= .o (K.of 187)∧
 K.of 376= .i (K.of 187)∧
 K.of 377= .o (K.of 188)∧
 K.of 378= .i (K.of 188)∧
 K.of 379= .o (K.of 189)∧
 K.of 380= .i (K.of 189)∧
 K.of 381= .o (K.of 190)∧
 K.of 382= .i (K.of 190)∧
 K.of 383= .o (K.of 191)∧
 K.of 384= .i (K.of 191)∧
 K.of 385= .o (K.of 192)∧
 K.of 386= .i (K.of 192)∧
 K.of 387= .o (K.of 193)∧
 K.of 388= .i (K.of 193)∧
 K.of 389= .o (K.of 194)∧
 K.of 390= .i (K.of 194)∧
 K.of 391= .o (K.of 195)∧
 K.of 392= .i (K.of 195)∧
 K.of 393= .o (K.of 196)∧
 K.of 394= .i (K.of 196)∧
 K.of 395= .o (K.of 197)∧
 K.of 396= .i (K.of 197)∧
 K.of 397= .o (K.of 198)∧
 K.of 398= .i (K.of 198)∧
 K.of 399= .o (K.of 199)∧
 K.of 400= .i (K.of 199)∧
 K.of 401= .o (K.of 200)∧
 K.of 402= .i (K.of 200)∧
 K.of 403= .o (K.of 201)∧
 K.of 404= .i (K.of 201)∧
 K.of 405= .o (K.of 202)∧
 K.of 406= .i (K.of 202)∧
 K.of 407= .o (K.of 203)∧
 K.of 408= .i (K.of 203)∧
 K.of 409= .o (K.of 204)∧
 K.of 410= .i (K.of 204)∧
 K.of 411= .o (K.of 205)∧
 K.of 412= .i (K.of 205)∧
 K.of 413= .o (K.of 206)∧
 K.of 414= .i (K.of 206)∧
 K.of 415= .o (K.of 207)∧
 K.of 416= .i (K.of 207)∧
 K.of 417= .o (K.of 208)∧
 K.of 418= .i (K.of 208)∧
 K.of 419= .o (K.of 209)∧
 K.of 420= .i (K.of 209)∧
 K.of 421= .o (K.of 210)∧
 K.of 422= .i (K.of 210)∧
 K.of 423= .o (K.of 211)∧
 K.of 424= .i (K.of 211)∧
 K.of 425= .o (K.of 212)∧
 K.of 426= .i (K.of 212)∧
 K.of 427= .o (K.of 213)∧
 K.of 428= .i (K.of 213)∧
 K.of 429= .o (K.of 214)∧
 K.of 430= .i (K.of 214)∧
 K.of 431= .o (K.of 215)∧
 K.of 432= .i (K.of 215)∧
 K.of 433= .o (K.of 216)∧
 K.of 434= .i (K.of 216)∧
 K.of 435= .o (K.of 217)∧
 K.of 436= .i (K.of 217)∧
 K.of 437= .o (K.of 218)∧
 K.of 438= .i (K.of 218)∧
 K.of 439= .o (K.of 219)∧
 K.of 440= .i (K.of 219)∧
 K.of 441= .o (K.of 220)∧
 K.of 442= .i (K.of 220)∧
 K.of 443= .o (K.of 221)∧
 K.of 444= .i (K.of 221)∧
 K.of 445= .o (K.of 222)∧
 K.of 446= .i (K.of 222)∧
 K.of 447= .o (K.of 223)∧
 K.of 448= .i (K.of 223)∧
 K.of 449= .o (K.of 224)∧
 K.of 450= .i (K.of 224)∧
 K.of 451= .o (K.of 225)∧
 K.of 452= .i (K.of 225)∧
 K.of 453= .o (K.of 226)∧
 K.of 454= .i (K.of 226)∧
 K.of 455= .o (K.of 227)∧
 K.of 456= .i (K.of 227)∧
 K.of 457= .o (K.of 228)∧
 K.of 458= .i (K.of 228)∧
 K.of 459= .o (K.of 229)∧
 K.of 460= .i (K.of 229)∧
 K.of 461= .o (K.of 230)∧
 K.of 462= .i (K.of 230)∧
 K.of 463= .o (K.of 231)∧
 K.of 464= .i (K.of 231)∧
 K.of 465= .o (K.of 232)∧
 K.of 466= .i (K.of 232)∧
 K.of 467= .o (K.of 233)∧
 K.of 468= .i (K.of 233)∧
 K.of 469= .o (K.of 234)∧
 K.of 470= .i (K.of 234)∧
 K.of 471= .o (K.of 235)∧
 K.of 472= .i (K.of 235)∧
 K.of 473= .o (K.of 236)∧
 K.of 474= .i (K.of 236)∧
 K.of 475= .o (K.of 237)∧
 K.of 476= .i (K.of 237)∧
 K.of 477= .o (K.of 238)∧
 K.of 478= .i (K.of 238)∧
 K.of 479= .o (K.of 239)∧
 K.of 480= .i (K.of 239)∧
 K.of 481= .o (K.of 240)∧
 K.of 482= .i (K.of 240)∧
 K.of 483= .o (K.of 241)∧
 K.of 484= .i (K.of 241)∧
 K.of 485= .o (K.of 242)∧
 K.of 486= .i (K.of 242)∧
 K.of 487= .o (K.of 243)∧
 K.of 488= .i (K.of 243)∧
 K.of 489= .o (K.of 244)∧
 K.of 490= .i (K.of 244)∧
 K.of 491= .o (K.of 245)∧
 K.of 492= .i (K.of 245)∧
 K.of 493= .o (K.of 246)∧
 K.of 494= .i (K.of 246)∧
 K.of 495= .o (K.of 247)∧
 K.of 496= .i (K.of 247)∧
 K.of 497= .o (K.of 248)∧
 K.of 498= .i (K.of 248)∧
 K.of 499= .o (K.of 249)∧
 K.of 500= .i (K.of 249)∧
 K.of 501= .o (K.of 250)∧
 K.of 502= .i (K.of 250)∧
 K.of 503= .o (K.of 251)∧
 K.of 504= .i (K.of 251)∧
 K.of 505= .o (K.of 252)∧
 K.of 506= .i (K.of 252)∧
 K.of 507= .o (K.of 253)∧
 K.of 508= .i (K.of 253)∧
 K.of 509= .o (K.of 254)∧
 K.of 510= .i (K.of 254)∧
 K.of 511= .o (K.of 255):=
 ⟨rfl,ko 0,ki 0,ko 1,ki 1,ko 2,ki 2,ko 3,ki 3,ko 4,ki 4,ko 5,ki 5,ko 6,ki 6,ko 7,ki 7,ko 8,ki 8,ko 9,ki 9,ko 10,ki 10,ko 11,ki 11,ko 12,ki 12,ko 13,ki 13,ko 14,ki 14,ko 15,ki 15,ko 16,ki 16,ko 17,ki 17,ko 18,ki 18,ko 19,ki 19,ko 20,ki 20,ko 21,ki 21,ko 22,ki 22,ko 23,ki 23,ko 24,ki 24,ko 25,ki 25,ko 26,ki 26,ko 27,ki 27,ko 28,ki 28,ko 29,ki 29,ko 30,ki 30,ko 31,ki 31,ko 32,ki 32,ko 33,ki 33,ko 34,ki 34,ko 35,ki 35,ko 36,ki 36,ko 37,ki 37,ko 38,ki 38,ko 39,ki 39,ko 40,ki 40,ko 41,ki 41,ko 42,ki 42,ko 43,ki 43,ko 44,ki 44,ko 45,ki 45,ko 46,ki 46,ko 47,ki 47,ko 48,ki 48,ko 49,ki 49,ko 50,ki 50,ko 51,ki 51,ko 52,ki 52,ko 53,ki 53,ko 54,ki 54,ko 55,ki 55,ko 56,ki 56,ko 57,ki 57,ko 58,ki 58,ko 59,ki 59,ko 60,ki 60,ko 61,ki 61,ko 62,ki 62,ko 63,ki 63,ko 64,ki 64,ko 65,ki 65,ko 66,ki 66,ko 67,ki 67,ko 68,ki 68,ko 69,ki 69,ko 70,ki 70,ko 71,ki 71,ko 72,ki 72,ko 73,ki 73,ko 74,ki 74,ko 75,ki 75,ko 76,ki 76,ko 77,ki 77,ko 78,ki 78,ko 79,ki 79,ko 80,ki 80,ko 81,ki 81,ko 82,ki 82,ko 83,ki 83,ko 84,ki 84,ko 85,ki 85,ko 86,ki 86,ko 87,ki 87,ko 88,ki 88,ko 89,ki 89,ko 90,ki 90,ko 91,ki 91,ko 92,ki 92,ko 93,ki 93,ko 94,ki 94,ko 95,ki 95,ko 96,ki 96,ko 97,ki 97,ko 98,ki 98,ko 99,ki 99,ko 100,ki 100,ko 101,ki 101,ko 102,ki 102,ko 103,ki 103,ko 104,ki 104,ko 105,ki 105,ko 106,ki 106,ko 107,ki 107,ko 108,ki 108,ko 109,ki 109,ko 110,ki 110,ko 111,ki 111,ko 112,ki 112,ko 113,ki 113,ko 114,ki 114,ko 115,ki 115,ko 116,ki 116,ko 117,ki 117,ko 118,ki 118,ko 119,ki 119,ko 120,ki 120,ko 121,ki 121,ko 122,ki 122,ko 123,ki 123,ko 124,ki 124,ko 125,ki 125,ko 126,ki 126,ko 127,ki 127,ko 128,ki 128,ko 129,ki 129,ko 130,ki 130,ko 131,ki 131,ko 132,ki 132,ko 133,ki 133,ko 134,ki 134,ko 135,ki 135,ko 136,ki 136,ko 137,ki 137,ko 138,ki 138,ko 139,ki 139,ko 140,ki 140,ko 141,ki 141,ko 142,ki 142,ko 143,ki 143,ko 144,ki 144,ko 145,ki 145,ko 146,ki 146,ko 147,ki 147,ko 148,ki 148,ko 149,ki 149,ko 150,ki 150,ko 151,ki 151,ko 152,ki 152,ko 153,ki 153,ko 154,ki 154,ko 155,ki 155,ko 156,ki 156,ko 157,ki 157,ko 158,ki 158,ko 159,ki 159,ko 160,ki 160,ko 161,ki 161,ko 162,ki 162,ko 163,ki 163,ko 164,ki 164,ko 165,ki 165,ko 166,ki 166,ko 167,ki 167,ko 168,ki 168,ko 169,ki 169,ko 170,ki 170,ko 171,ki 171,ko 172,ki 172,ko 173,ki 173,ko 174,ki 174,ko 175,ki 175,ko 176,ki 176,ko 177,ki 177,ko 178,ki 178,ko 179,ki 179,ko 180,ki 180,ko 181,ki 181,ko 182,ki 182,ko 183,ki 183,ko 184,ki 184,ko 185,ki 185,ko 186,ki 186,ko 187,ki 187,ko 188,ki 188,ko 189,ki 189,ko 190,ki 190,ko 191,ki 191,ko 192,ki 192,ko 193,ki 193,ko 194,ki 194,ko 195,ki 195,ko 196,ki 196,ko 197,ki 197,ko 198,ki 198,ko 199,ki 199,ko 200,ki 200,ko 201,ki 201,ko 202,ki 202,ko 203,ki 203,ko 204,ki 204,ko 205,ki 205,ko 206,ki 206,ko 207,ki 207,ko 208,ki 208,ko 209,ki 209,ko 210,ki 210,ko 211,ki 211,ko 212,ki 212,ko 213,ki 213,ko 214,ki 214,ko 215,ki 215,ko 216,ki 216,ko 217,ki 217,ko 218,ki 218,ko 219,ki 219,ko 220,ki 220,ko 221,ki 221,ko 222,ki 222,ko 223,ki 223,ko 224,ki 224,ko 225,ki 225,ko 226,ki 226,ko 227,ki 227,ko 228,ki 228,ko 229,ki 229,ko 230,ki 230,ko 231,ki 231,ko 232,ki 232,ko 233,ki 233,ko 234,ki 234,ko 235,ki 235,ko 236,ki 236,ko 237,ki 237,ko 238,ki 238,ko 239,ki 239,ko 240,ki 240,ko 241,ki 241,ko 242,ki 242,ko 243,ki 243,ko 244,ki 244,ko 245,ki 245,ko 246,ki 246,ko 247,ki 247,ko 248,ki 248,ko 249,ki 249,ko 250,ki 250,ko 251,ki 251,ko 252,ki 252,ko 253,ki 253,ko 254,ki 254,ko 255⟩
end Go.Eng
namespace Go.Eng
def LW (c c':dP):Prop:=∀g vs h r,c g vs h=some r→c' g vs h=some r
theorem vg {c c':dP} (hc:LW c c') {d g:Nat} {q:Bool} {vs:List (Bool×List C)} {f:Fr} {h:H} {r:Fr×H} (hr:el c d g q vs f h=some r):el c' d g q vs f h=some r:=by
 unfold el at *
 cases h1:c g vs h with
 |none=>simp[h1]at hr
 |some p=>rw[hc g vs h p h1];rw[h1]at hr;exact hr
theorem Bg {c c':dP} (hc:LW c c') {d g e:Nat} {vs:List (Bool×List C)} {f:Fr} {h:H} {r:Fr×H} (hr:fo c d g e vs f h=some r):fo c' d g e vs f h=some r:=by
 unfold fo at *
 cases h1:c g vs h with
 |none=>simp[h1]at hr
 |some p=>rw[hc g vs h p h1];rw[h1]at hr;exact hr
theorem AD {c c':dP} (hc:LW c c') {a:AI} {f:Fr} {h:H} {r:Fr×H} (hr:da c a f h=some r):da c' a f h=some r:=by
 cases a
 case call d g q xs=>
  simp only[da]at *
  cases ha:args f xs with
  |none=>simp[ha]at hr
  |some vs=>simp only[ha]at *;exact vg hc hr
 case clv d q x xs=>
  simp only[da]at *
  split at hr
  ·exact vg hc hr
  ·simp at hr
 case cle d g e xs=>
  simp only[da]at *
  cases ha:args f xs with
  |none=>simp[ha]at hr
  |some vs=>simp only[ha]at *;exact Bg hc hr
 all_goals exact hr
theorem Aj {c c':dP} (hc:LW c c') {a:IT} {f:Fr} {h:H} {r:Fr×H} (hr:cC c a f h=some r):cC c' a f h=some r:=by
 unfold cC at *
 split at hr
 ·exact AD hc hr
 ·split at hr
  ·split at hr
   ·rename_i hb;simp only[*,if_true];exact AD hc hr
   ·rename_i hb;simp only[*,if_false]
  ·simp at hr
theorem vc {c c':dP} (hc:LW c c'):∀ {l:List IT} {f:Fr} {h:H} {r:Fr×H},dS c l f h=some r→dS c' l f h=some r
 | [],_,_,_,hr=>hr
 |it::l,f,h,r,hr=>by
  simp only[dS]at *
  cases h1:cC c it f h with
  |none=>simp[h1]at hr
  |some p=>rw[Aj hc h1];rw[h1]at hr;exact vc hc hr
theorem m8 {b b':Fr→H→Option (Ex×Fr×H)} (hb:∀f h r,b f h=some r→b' f h=some r) (ds:List Nat):∀ {n n':Nat},n≤n'→∀ {f:Fr} {h:H} {r:Ex×Fr×H},rounds b ds n f h=some r→rounds b' ds n' f h=some r
 |0,_,_,_,_,_,hr=>by simp[rounds]at hr
 |n+1,0,hn,_,_,_,_=>by omega
 |n+1,n'+1,hn,f,h,r,hr=>by
  simp only[rounds]at *
  cases h1:b (forget f ds) h with
  |none=>simp[h1]at hr
  |some p=>
   rw[hb _ _ _ h1];rw[h1]at hr
   obtain⟨e,f',h'⟩:=p
   cases e with
   |norm=>exact m8 hb ds (by omega) hr
   |exit id=>exact hr
   |ret=>exact hr
theorem dJ {c c':dP} (hc:LW c c') {n n':Nat} (hn:n≤n'):∀(a:AC) {f:Fr} {h:H} {r:Ex×Fr×H},run c n a f h=some r→run c' n' a f h=some r
 | .ops l,f,h,r,hr=>by
   simp only[run]at *
   cases h1:dS c l f h with
   |none=>simp[h1]at hr
   |some p=>rw[vc hc h1];rw[h1]at hr;exact hr
 | .seq a b,f,h,r,hr=>by
   simp only[run]at *
   cases h1:run c n a f h with
   |none=>simp[h1]at hr
   |some p=>
    rw[dJ hc hn a h1];rw[h1]at hr
    obtain⟨e,f',h'⟩:=p
    cases e with
    |norm=>exact dJ hc hn b hr
    |exit id=>exact hr
    |ret=>exact hr
 | .cond x a b,f,h,r,hr=>by
   simp only[run]at *
   split at hr
   ·exact dJ hc hn a hr
   ·exact dJ hc hn b hr
   ·simp at hr
 | .block id b,f,h,r,hr=>by
   simp only[run]at *
   cases h1:run c n b f h with
   |none=>simp[h1]at hr
   |some p=>rw[dJ hc hn b h1];rw[h1]at hr;exact hr
 | .loop ds b,f,h,r,hr=>by
   simp only[run]at *
   exact m8 (fun f h r h1=>dJ hc hn b h1) ds hn hr
 | .exit _,_,_,_,hr=>hr
 | .ret,_,_,_,hr=>hr
 | .skip,_,_,_,hr=>hr
theorem Hh (cd:Nat→Option AF) (n g:Nat) (vs:List (Bool×List C)) (h:H):ep cd (n+1) g vs h=(match cd g with
 |some a=>Dx (ep cd n) n a vs h
 |none=>none):=rfl
theorem HF {c c':dP} (hc:LW c c') {n n':Nat} (hn:n≤n') {a:AF} {vs:List (Bool×List C)} {h:H} {r:V×H} (hr:Dx c n a vs h=some r):Dx c' n' a vs h=some r:=by
 unfold Dx at *
 split
 ·rename_i hl
  simp only[hl,if_true]at hr
  cases h1:run c n a.body (cZ (PT.full a.dep) 0 vs) h with
  |none=>simp[h1]at hr
  |some p=>rw[dJ hc hn a.body h1];rw[h1]at hr;exact hr
 ·rename_i hl;simp[hl]at hr
theorem kz (cd:Nat→Option AF):∀n,LW (ep cd n) (ep cd (n+1))
 |0=>fun _ _ _ _ hr=>by simp[ep]at hr
 |n+1=>fun g vs h r hr=>by
  rw[Hh]at *
  cases hg:cd g with
  |none=>simp[hg]at hr
  |some a=>
   simp only[hg]at *
   exact HF (kz cd n) (Nat.le_succ n) hr
theorem gC (cd:Nat→Option AF) {n n':Nat} (hn:n≤n'):LW (ep cd n) (ep cd n'):=by
 induction hn with
 |refl=>exact fun _ _ _ _ h=>h
 |step _ ih=>exact fun g vs h r hr=>kz cd _ g vs h r (ih g vs h r hr)
def WC (cd:Nat→Option AF) (g:Nat) (vs:List (Bool×List C)) (h:H) (Q:V→H→Prop):Prop:=
 ∃n v h',ep cd n g vs h=some (v,h')∧Q v h'
def W (cd:Nat→Option AF) (a:AC) (f:Fr) (h:H) (Q:Ex→Fr→H→Prop):Prop:=
 ∃n e f' h',run (ep cd n) n a f h=some (e,f',h')∧Q e f' h'
def WL (cd:Nat→Option AF) (l:List IT) (f:Fr) (h:H) (Q:Fr→H→Prop):Prop:=
 ∃n f' h',dS (ep cd n) l f h=some (f',h')∧Q f' h'
def O5 (o:Option (Fr×H)) (K:Fr→H→Prop):Prop:=
 match o with
 |some (f,h)=>K f h
 |none=>False
@[simp] theorem OG (f:Fr) (h:H) (K:Fr→H→Prop):O5 (some (f,h)) K=K f h:=rfl
@[simp] theorem Oz (K:Fr→H→Prop):O5 none K=False:=rfl
def Qp (K:Fr→H→Prop) (Q:Ex→Fr→H→Prop):Ex→Fr→H→Prop
 | .norm,f,h=>K f h
 |e,f,h=>Q e f h
def fO (id:Nat) (Q:Ex→Fr→H→Prop):Ex→Fr→H→Prop
 | .exit i,f,h=>if i=id then Q .norm f h else Q (.exit i) f h
 |e,f,h=>Q e f h
section
variable {cd:Nat→Option AF} {f:Fr} {h:H}
theorem WC.mono {g:Nat} {vs:List (Bool×List C)} {Q Q':V→H→Prop} (hw:WC cd g vs h Q) (hq:∀v h',Q v h'→Q' v h'):WC cd g vs h Q':=
 let ⟨n,v,h',hr,q⟩:=hw
 ⟨n,v,h',hr,hq _ _ q⟩
theorem W.mono {a:AC} {Q Q':Ex→Fr→H→Prop} (hw:W cd a f h Q) (hq:∀e f' h',Q e f' h'→Q' e f' h'):W cd a f h Q':=
 let ⟨n,e,f',h',hr,q⟩:=hw
 ⟨n,e,f',h',hr,hq _ _ _ q⟩
theorem lQ (l:List IT) (Q:Ex→Fr→H→Prop):W cd (.ops l) f h Q=WL cd l f h (fun f' h'=>Q .norm f' h'):=by
 apply propext
 constructor
 ·rintro⟨n,e,f',h',hr,q⟩
  simp only[run]at hr
  cases h1:dS (ep cd n) l f h with
  |none=>simp[h1]at hr
  |some p=>
   obtain⟨f1,h1'⟩:=p
   simp only[h1,Option.some.injEq,Prod.mk.injEq]at hr
   obtain⟨rfl,rfl,rfl⟩:=hr
   exact⟨n,_,_,h1,q⟩
 ·rintro⟨n,f',h',hr,q⟩
  exact⟨n,_,f',h',by simp only[run,hr],q⟩
theorem Nx (Q:Ex→Fr→H→Prop):W cd .skip f h Q=Q .norm f h:=by
 apply propext
 exact⟨fun⟨n,e,f',h',hr,q⟩=>by simp only[run,Option.some.injEq,Prod.mk.injEq]at hr;obtain⟨rfl,rfl,rfl⟩:=hr;exact q,fun q=>⟨0,_,_,_,rfl,q⟩⟩
theorem O7 (Q:Ex→Fr→H→Prop):W cd .ret f h Q=Q .ret f h:=by
 apply propext
 exact⟨fun⟨n,e,f',h',hr,q⟩=>by simp only[run,Option.some.injEq,Prod.mk.injEq]at hr;obtain⟨rfl,rfl,rfl⟩:=hr;exact q,fun q=>⟨0,_,_,_,rfl,q⟩⟩
theorem NO (id:Nat) (Q:Ex→Fr→H→Prop):W cd (.exit id) f h Q=Q (.exit id) f h:=by
 apply propext
 exact⟨fun⟨n,e,f',h',hr,q⟩=>by simp only[run,Option.some.injEq,Prod.mk.injEq]at hr;obtain⟨rfl,rfl,rfl⟩:=hr;exact q,fun q=>⟨0,_,_,_,rfl,q⟩⟩
theorem O2 (a b:AC) (Q:Ex→Fr→H→Prop):W cd (.seq a b) f h Q=W cd a f h (Qp (fun f' h'=>W cd b f' h' Q) Q):=by
 apply propext
 constructor
 ·rintro⟨n,e,f',h',hr,q⟩
  simp only[run]at hr
  cases h1:run (ep cd n) n a f h with
  |none=>simp[h1]at hr
  |some p=>
   obtain⟨e1,f1,h1'⟩:=p
   refine⟨n,e1,f1,h1',h1,?_⟩
   cases e1 with
   |norm=>exact⟨n,e,f',h',by simpa[h1]using hr,q⟩
   |exit i=>simp[h1]at hr;obtain⟨rfl,rfl,rfl⟩:=hr;exact q
   |ret=>simp[h1]at hr;obtain⟨rfl,rfl,rfl⟩:=hr;exact q
 ·rintro⟨n,e,f1,h1',h1,q⟩
  cases e with
  |norm=>
   obtain⟨m,e,f',h',h2,q⟩:=q
   refine⟨max n m,e,f',h',?_,q⟩
   simp only[run]
   rw[dJ (gC cd (Nat.le_max_left n m)) (Nat.le_max_left n m) a h1]
   exact dJ (gC cd (Nat.le_max_right n m)) (Nat.le_max_right n m) b h2
  |exit i=>exact⟨n,_,_,_,by simp only[run,h1],q⟩
  |ret=>exact⟨n,_,_,_,by simp only[run,h1],q⟩
def Hn (c:Option C) (A B:Prop):Prop:=
 match c with
 |some (.bool true)=>A
 |some (.bool false)=>B
 |_=>False
theorem Nq (x:X) (a b:AC) (Q:Ex→Fr→H→Prop):W cd (.cond x a b) f h Q=Hn (dt f x) (W cd a f h Q) (W cd b f h Q):=by
 apply propext
 unfold W
 constructor
 ·rintro⟨n,e,f',h',hr,q⟩
  simp only[run]at hr
  split at hr
  ·rename_i hx;simp only[hx,Hn];exact⟨n,e,f',h',hr,q⟩
  ·rename_i hx;simp only[hx,Hn];exact⟨n,e,f',h',hr,q⟩
  ·simp at hr
 ·intro hw
  unfold Hn at hw
  split at hw
  ·rename_i hx;obtain⟨n,e,f',h',hr,q⟩:=hw;exact⟨n,e,f',h',by simp only[run,hx];exact hr,q⟩
  ·rename_i hx;obtain⟨n,e,f',h',hr,q⟩:=hw;exact⟨n,e,f',h',by simp only[run,hx];exact hr,q⟩
  ·exact hw.elim
theorem Mc (id:Nat) (b:AC) (Q:Ex→Fr→H→Prop):W cd (.block id b) f h Q=W cd b f h (fO id Q):=by
 apply propext
 constructor
 ·rintro⟨n,e,f',h',hr,q⟩
  simp only[run]at hr
  cases h1:run (ep cd n) n b f h with
  |none=>simp[h1]at hr
  |some p=>
   obtain⟨e1,f1,h1'⟩:=p
   refine⟨n,e1,f1,h1',h1,?_⟩
   cases e1 with
   |norm=>simp[h1]at hr;obtain⟨rfl,rfl,rfl⟩:=hr;exact q
   |ret=>simp[h1]at hr;obtain⟨rfl,rfl,rfl⟩:=hr;exact q
   |exit i=>
    simp only[h1]at hr
    unfold fO
    split at hr
    ·rename_i hi;simp at hr;obtain⟨rfl,rfl,rfl⟩:=hr;simp only[hi,if_true];exact q
    ·rename_i hi;simp at hr;obtain⟨rfl,rfl,rfl⟩:=hr;simp only[hi,if_false];exact q
 ·rintro⟨n,e,f',h',hr,q⟩
  cases e with
  |norm=>exact⟨n,_,_,_,by simp only[run,hr],q⟩
  |ret=>exact⟨n,_,_,_,by simp only[run,hr],q⟩
  |exit i=>
   simp only[fO]at q
   by_cases hi:i=id
   ·rw[if_pos hi]at q;exact⟨n,_,_,_,by simp only[run,hr,if_pos hi],q⟩
   ·rw[if_neg hi]at q;exact⟨n,_,_,_,by simp only[run,hr,if_neg hi],q⟩
theorem M4 (Q:Fr→H→Prop):WL cd [] f h Q=Q f h:=by
 apply propext
 exact⟨fun⟨n,f',h',hr,q⟩=>by simp only[dS,Option.some.injEq,Prod.mk.injEq]at hr;obtain⟨rfl,rfl⟩:=hr;exact q,fun q=>⟨0,_,_,rfl,q⟩⟩
theorem xa (it:IT) (l:List IT) (Q:Fr→H→Prop):WL cd (it::l) f h Q=WL cd [it] f h (fun f' h'=>WL cd l f' h' Q):=by
 apply propext
 constructor
 ·rintro⟨n,f',h',hr,q⟩
  simp only[dS]at hr
  cases h1:cC (ep cd n) it f h with
  |none=>simp[h1]at hr
  |some p=>
   refine⟨n,p.1,p.2,by simp only[dS,h1],n,f',h',by simpa[h1]using hr,q⟩
 ·rintro⟨n,f1,h1,hr,m,f',h',h2,q⟩
  refine⟨max n m,f',h',?_,q⟩
  simp only[dS]at *
  cases h3:cC (ep cd n) it f h with
  |none=>simp[h3]at hr
  |some p=>
   obtain⟨p1,p2⟩:=p
   simp only[h3,Option.some.injEq,Prod.mk.injEq]at hr
   obtain⟨rfl,rfl⟩:=hr
   rw[Aj (gC cd (Nat.le_max_left n m)) h3]
   exact vc (gC cd (Nat.le_max_right n m)) h2
def AI.plain:AI→Bool
 | .call .. | .clv .. | .cle .. =>false
 |_=>true
theorem xe {c:dP} {a:AI} (ha:a.plain=true):da c a f h=ai a f h:=by
 cases a <;>first|rfl|simp[AI.plain]at ha
theorem JD (a:AI) (ha:a.plain=true) (l:List IT) (Q:Fr→H→Prop):WL cd (.i a::l) f h Q=O5 (ai a f h) (fun f' h'=>WL cd l f' h' Q):=by
 rw[xa]
 apply propext
 constructor
 ·rintro⟨n,f1,h1,hr,q⟩
  simp only[dS,cC,xe ha]at hr
  cases h3:ai a f h with
  |none=>simp[h3]at hr
  |some p=>obtain⟨p1,p2⟩:=p;simp only[h3,Option.some.injEq,Prod.mk.injEq]at hr;obtain⟨rfl,rfl⟩:=hr;exact q
 ·intro hw
  cases h3:ai a f h with
  |none=>simp[h3,O5]at hw
  |some p=>obtain⟨f1,h1⟩:=p;rw[h3]at hw;exact⟨0,f1,h1,by simp only[dS,cC,xe ha,h3],hw⟩
def HV (o:Option (List (Bool×List C))) (K:List (Bool×List C)→Prop):Prop:=
 match o with
 |some vs=>K vs
 |none=>False
theorem Ll (d g:Nat) (xs:List X) (l:List IT) (Q:Fr→H→Prop):
 WL cd (.i (.call d g false xs)::l) f h Q=HV (args f xs) (fun vs=>WC cd g vs h (fun v h'=>WL cd l (eB f d v) h' Q)):=by
 rw[xa]
 apply propext
 constructor
 ·rintro⟨n,f1,h1,hr,q⟩
  simp only[dS,cC,da]at hr
  cases ha:args f xs with
  |none=>simp[ha]at hr
  |some vs=>
   simp only[ha,el]at hr
   cases h3:ep cd n g vs h with
   |none=>simp[h3]at hr
   |some p=>
    obtain⟨v,h'⟩:=p
    simp[h3]at hr
    obtain⟨rfl,rfl⟩:=hr
    exact⟨n,v,h',h3,q⟩
 ·intro hw
  cases ha:args f xs with
  |none=>simp[ha,HV]at hw
  |some vs=>
   simp only[ha,HV]at hw
   obtain⟨n,v,h',hr,q⟩:=hw
   exact⟨n,_,_,by simp[dS,cC,da,ha,el,hr],q⟩
theorem Ie (d g:Nat) (xs:List X) (l:List IT) (Q:Fr→H→Prop):
 WL cd (.i (.call d g true xs)::l) f h Q=HV (args f xs) (fun vs=>WC cd g vs h (fun v h'=>(∃t,h'=h++t)∧WL cd l (eB f d v) h' Q)):=by
 rw[xa]
 apply propext
 constructor
 ·rintro⟨n,f1,h1,hr,q⟩
  simp only[dS,cC,da]at hr
  cases ha:args f xs with
  |none=>simp[ha]at hr
  |some vs=>
   simp only[ha,el]at hr
   cases h3:ep cd n g vs h with
   |none=>simp[h3]at hr
   |some p=>
    obtain⟨v,h'⟩:=p
    by_cases hx:∃t,h'=h++t
    ·have hx':(true=true→∃t,h'=h++t):=fun _=>hx
     simp only[h3,if_pos hx',Option.some.injEq,Prod.mk.injEq]at hr
     obtain⟨rfl,rfl⟩:=hr
     exact⟨n,v,h',h3,hx,q⟩
    ·have hx':¬(true=true→∃t,h'=h++t):=fun k=>hx (k rfl)
     simp[h3,if_neg hx']at hr
 ·intro hw
  cases ha:args f xs with
  |none=>simp[ha,HV]at hw
  |some vs=>
   simp only[ha,HV]at hw
   obtain⟨n,v,h',hr,hx,q⟩:=hw
   have hx':(true=true→∃t,h'=h++t):=fun _=>hx
   exact⟨n,eB f d v,h',by simp only[dS,cC,da,ha,el,hr,if_pos hx'],q⟩
theorem N3 (d g e:Nat) (xs:List X) (l:List IT) (Q:Fr→H→Prop):
 WL cd (.i (.cle d g e xs)::l) f h Q=HV (args f xs) (fun vs=>WC cd g vs h (fun v h'=>yh e h h'∧WL cd l (eB f d v) h' Q)):=by
 rw[xa]
 apply propext
 constructor
 ·rintro⟨n,f1,h1,hr,q⟩
  simp only[dS,cC,da]at hr
  cases ha:args f xs with
  |none=>simp[ha]at hr
  |some vs=>
   simp only[ha,fo]at hr
   cases h3:ep cd n g vs h with
   |none=>simp[h3]at hr
   |some p=>
    obtain⟨v,h'⟩:=p
    by_cases hx:yh e h h'
    ·simp only[h3,if_pos hx,Option.some.injEq,Prod.mk.injEq]at hr
     obtain⟨rfl,rfl⟩:=hr
     exact⟨n,v,h',h3,hx,q⟩
    ·simp[h3,if_neg hx]at hr
 ·intro hw
  cases ha:args f xs with
  |none=>simp[ha,HV]at hw
  |some vs=>
   simp only[ha,HV]at hw
   obtain⟨n,v,h',hr,hx,q⟩:=hw
   exact⟨n,eB f d v,h',by simp only[dS,cC,da,ha,fo,hr,if_pos hx],q⟩
theorem Oq (d:Nat) (q:Bool) (x:X) (xs:List X) (l:List IT) (Q:Fr→H→Prop) (g:Nat) (hx:dt f x=some (.fn g)):
 WL cd (.i (.clv d q x xs)::l) f h Q=WL cd (.i (.call d g q xs)::l) f h Q:=by
 have e:∀c,da c (.clv d q x xs) f h=da c (.call d g q xs) f h:=by
  intro c
  simp only[da,hx]
  cases args f xs <;>rfl
 unfold WL
 simp only[dS,cC,e]
theorem PV (s d:Nat) (w:Bool) (a:AI) (l:List IT) (Q:Fr→H→Prop):
 WL cd (.g s w d a::l) f h Q=Hn (gv f s w) (if w=true then WL cd (.i a::l) f h Q else WL cd l (eB f d (.tup [])) h Q) (if w=true then WL cd l (eB f d (.tup [])) h Q else WL cd (.i a::l) f h Q):=by
 apply propext
 constructor
 ·rintro⟨n,f1,h1,hr,q⟩
  simp only[dS,cC]at hr
  split at hr
  ·rename_i p hp
   split at hp
   ·rename_i b hb
    simp only[hb]
    split at hp
    ·rename_i he
     subst he
     cases b <;>simp only[Hn,if_true] <;>exact⟨n,f1,h1,by simp only[dS,cC,hp];exact hr,q⟩
    ·rename_i he
     simp only[Option.some.injEq,Prod.mk.injEq]at hp
     obtain⟨rfl,rfl⟩:=hp
     cases b <;>cases w <;>simp_all [Hn] <;>exact⟨n,f1,h1,hr,q⟩
   ·simp at hp
  ·simp at hr
 ·intro hw
  unfold Hn at hw
  split at hw
  ·rename_i hb
   split at hw
   ·rename_i he;subst he
    obtain⟨n,f1,h1,hr,q⟩:=hw
    exact⟨n,f1,h1,by simp only[dS,cC,hb,if_true]at *;exact hr,q⟩
   ·rename_i he
    obtain⟨n,f1,h1,hr,q⟩:=hw
    have:w=false:=by simpa using he
    subst this
    exact⟨n,f1,h1,by simp[dS,cC,hb];exact hr,q⟩
  ·rename_i hb
   split at hw
   ·rename_i he;subst he
    obtain⟨n,f1,h1,hr,q⟩:=hw
    exact⟨n,f1,h1,by simp[dS,cC,hb];exact hr,q⟩
   ·rename_i he
    have:w=false:=by simpa using he
    subst this
    obtain⟨n,f1,h1,hr,q⟩:=hw
    exact⟨n,f1,h1,by simp only[dS,cC,hb,if_true]at *;exact hr,q⟩
  ·exact hw.elim
theorem JJ {g:Nat} {a:AF} (hg:cd g=some a) {vs:List (Bool×List C)} (hl:vs.length=a.np) {Q:V→H→Prop}
 (hw:W cd a.body (cZ (PT.full a.dep) 0 vs) h (fun e f' h'=>match e with| .exit _=>False|_=>match kl f' a.res with|some v=>Q v h'|none=>False)):WC cd g vs h Q:=by
 obtain⟨n,e,f',h',hr,q⟩:=hw
 have key:(match kl f' a.res with|some v=>Q v h'|none=>False)→(e= .norm∨e= .ret)→WC cd g vs h Q:=by
  intro q he
  cases hv:kl f' a.res with
  |none=>simp[hv]at q
  |some v=>
   simp only[hv]at q
   refine⟨n+1,v,h',?_,q⟩
   simp only[ep,hg,Dx,hl,if_true]
   rcases he with rfl|rfl <;>simp only[hr,hv]
 cases e with
 |exit i=>exact q.elim
 |norm=>exact key q (.inl rfl)
 |ret=>exact key q (.inr rfl)
theorem M6 {ds:List Nat} {b:AC} {Q:Ex→Fr→H→Prop} (I:Nat→Fr→H→Prop) (g0:Nat) (h0:I g0 f h)
 (round:∀g f h,I g f h→W cd b (forget f ds) h (Qp (fun f' h'=>∃g',g' < g∧I g' f' h') Q)):W cd (.loop ds b) f h Q:=by
 have key:∀g f h,I g f h→∃n e f' h',rounds (run (ep cd n) n b) ds n f h=some (e,f',h')∧Q e f' h':=by
  intro g
  induction g using Nat.strongRecOn with
  |_ g ih=>
   intro f h hI
   obtain⟨n,e,f1,h1,hr,q⟩:=round g f h hI
   cases e with
   |norm=>
    obtain⟨g',hlt,hI'⟩:=q
    obtain⟨m,e,f',h',h2,q⟩:=ih g' hlt f1 h1 hI'
    refine⟨max n m+1,e,f',h',?_,q⟩
    simp only[rounds]
    rw[dJ (gC cd (show n≤max n m+1 by omega)) (show n≤max n m+1 by omega) b hr]
    exact m8 (fun f h r hx=>dJ (gC cd (show m≤max n m+1 by omega)) (show m≤max n m+1 by omega) b hx) ds (by omega) h2
   |exit i=>
    refine⟨n+1,_,f1,h1,?_,q⟩
    simp only[rounds]
    rw[dJ (kz cd n) (Nat.le_succ n) b hr]
   |ret=>
    refine⟨n+1,_,f1,h1,?_,q⟩
    simp only[rounds]
    rw[dJ (kz cd n) (Nat.le_succ n) b hr]
 obtain⟨n,e,f',h',hr,q⟩:=key g0 f h h0
 exact⟨n,e,f',h',by simpa only[run]using hr,q⟩
end
theorem Kg (A B:Prop):Hn (some (.bool true)) A B=A:=rfl
theorem HA (A B:Prop):Hn (some (.bool false)) A B=B:=rfl
theorem Mh {p:Prop} {_:Decidable p} {A B:Prop} (ht:p→A) (hf:¬p→B):Hn (some (.bool (decide p))) A B:=by
 by_cases hp:p
 ·simp only[hp,decide_true,Kg];exact ht hp
 ·simp only[hp,decide_false,HA];exact hf hp
inductive KI where
 |c (a:AC)
 |b (id:Nat)
 |stop (P:Fr→H→Prop)
def FN (o:Option V) (Q:V→H→Prop) (h:H):Prop:=
 match o with
 |some v=>Q v h
 |none=>False
def cont (cd:Nat→Option AF) (R:List RV) (Q:V→H→Prop):List KI→Ex→Fr→H→Prop
 | [], .exit _,_,_=>False
 | [],_,f,h=>FN (kl f R) Q h
 | .b _::k, .norm,f,h=>cont cd R Q k .norm f h
 | .b i::k, .exit id,f,h=>if id=i then cont cd R Q k .norm f h else cont cd R Q k (.exit id) f h
 | .stop P::_, .norm,f,h=>P f h
 | .c a::k, .norm,f,h=>W cd a f h (cont cd R Q k)
 |_::k,e,f,h=>cont cd R Q k e f h
def WS (cd:Nat→Option AF) (k:List KI) (f:Fr) (h:H) (R:List RV) (Q:V→H→Prop):Prop:=cont cd R Q k .norm f h
def EX (cd:Nat→Option AF) (id:Nat) (k:List KI) (f:Fr) (h:H) (R:List RV) (Q:V→H→Prop):Prop:=cont cd R Q k (.exit id) f h
def BR (cd:Nat→Option AF) (c:Option C) (a b:AC) (k:List KI) (f:Fr) (h:H) (R:List RV) (Q:V→H→Prop):Prop:=
 Hn c (WS cd (.c a::k) f h R Q) (WS cd (.c b::k) f h R Q)
def GB (cd:Nat→Option AF) (c:Option C) (w:Bool) (d:Nat) (a:AI) (l:List IT) (k:List KI) (f:Fr) (h:H) (R:List RV) (Q:V→H→Prop):Prop:=
 match c with
 |some (.bool b)=>if b=w then WS cd (.c (.ops (.i a::l))::k) f h R Q else WS cd (.c (.ops l)::k) (eB f d (.tup [])) h R Q
 |_=>False
def ST (cd:Nat→Option AF) (o:Option (Fr×H)) (l:List IT) (k:List KI) (R:List RV) (Q:V→H→Prop):Prop:=
 match o with
 |some (f,h)=>WS cd (.c (.ops l)::k) f h R Q
 |none=>False
def KC (cd:Nat→Option AF) (d:Nat) (l:List IT) (k:List KI) (f:Fr) (R:List RV) (Q:V→H→Prop) (v:V) (h:H):Prop:=WS cd (.c (.ops l)::k) (eB f d v) h R Q
def KQ (cd:Nat→Option AF) (h0:H) (d:Nat) (l:List IT) (k:List KI) (f:Fr) (R:List RV) (Q:V→H→Prop) (v:V) (h:H):Prop:=(∃t,h=h0++t)∧KC cd d l k f R Q v h
def KE (cd:Nat→Option AF) (h0:H) (d e:Nat) (l:List IT) (k:List KI) (f:Fr) (R:List RV) (Q:V→H→Prop) (v:V) (h:H):Prop:=yh e h0 h∧KC cd d l k f R Q v h
def CA (cd:Nat→Option AF) (g:Nat) (o:Option (List (Bool×List C))) (h:H) (K:V→H→Prop):Prop:=
 match o with
 |some vs=>WC cd g vs h K
 |none=>False
def CV (cd:Nat→Option AF) (c:Option C) (q:Bool) (d:Nat) (xs:List X) (l:List IT) (k:List KI) (f:Fr) (h:H) (R:List RV) (Q:V→H→Prop):Prop:=
 match c with
 |some (.fn g)=>WS cd (.c (.ops (.i (.call d g q xs)::l))::k) f h R Q
 |_=>False
section
variable {cd:Nat→Option AF} {f:Fr} {h:H} {R:List RV} {Q:V→H→Prop} {k:List KI}
theorem sE:∀(k:List KI),cont cd R Q k .ret f h=FN (kl f R) Q h
 | []=>rfl
 | .b _::k=>sE k
 | .c _::k=>sE k
 | .stop _::k=>sE k
theorem JZ:WS cd [] f h R Q=FN (kl f R) Q h:=rfl
theorem NL (i:Nat):WS cd (.b i::k) f h R Q=WS cd k f h R Q:=rfl
theorem BQ (P:Fr→H→Prop):WS cd (.stop P::k) f h R Q=P f h:=rfl
theorem oV:WS cd (.c .skip::k) f h R Q=WS cd k f h R Q:=by simp only[WS,cont,Nx]
theorem E5:WS cd (.c .ret::k) f h R Q=FN (kl f R) Q h:=by simp only[WS,cont,O7,sE]
theorem Cr (id:Nat):WS cd (.c (.exit id)::k) f h R Q=EX cd id k f h R Q:=by simp only[WS,EX,cont,NO]
theorem Nj (id i:Nat):EX cd id (.b i::k) f h R Q=if id=i then WS cd k f h R Q else EX cd id k f h R Q:=rfl
theorem Nu (id:Nat) (a:AC):EX cd id (.c a::k) f h R Q=EX cd id k f h R Q:=rfl
theorem Ct (id:Nat) (P:Fr→H→Prop):EX cd id (.stop P::k) f h R Q=EX cd id k f h R Q:=rfl
theorem hU (a b:AC):WS cd (.c (.seq a b)::k) f h R Q=WS cd (.c a:: .c b::k) f h R Q:=by
 simp only[WS,cont,O2]
 congr 1
 funext e f' h'
 cases e <;>rfl
theorem sJ (id:Nat) (b:AC):WS cd (.c (.block id b)::k) f h R Q=WS cd (.c b:: .b id::k) f h R Q:=by
 simp only[WS,cont,Mc]
 congr 1
 funext e f' h'
 cases e with
 |norm=>rfl
 |ret=>simp only[fO,cont]
 |exit i=>rfl
theorem sk (x:X) (a b:AC):WS cd (.c (.cond x a b)::k) f h R Q=BR cd (dt f x) a b k f h R Q:=by simp only[WS,BR,cont,Nq]
theorem Gw (a b:AC):BR cd (some (.bool true)) a b k f h R Q=WS cd (.c a::k) f h R Q:=rfl
theorem sD (a b:AC):BR cd (some (.bool false)) a b k f h R Q=WS cd (.c b::k) f h R Q:=rfl
theorem cv:WS cd (.c (.ops [])::k) f h R Q=WS cd k f h R Q:=by simp only[WS,cont,lQ,M4]
theorem eh (a:AI) (ha:a.plain=true) (l:List IT):WS cd (.c (.ops (.i a::l))::k) f h R Q=ST cd (ai a f h) l k R Q:=by
 simp only[WS,cont,lQ,JD a ha]
 cases ai a f h with
 |none=>rfl
 |some p=>simp only[O5,ST,WS,cont,lQ]
theorem Gx (f:Fr) (h:H) (l:List IT):ST cd (some (f,h)) l k R Q=WS cd (.c (.ops l)::k) f h R Q:=rfl
theorem M7 (s d:Nat) (w:Bool) (a:AI) (l:List IT):WS cd (.c (.ops (.g s w d a::l))::k) f h R Q=GB cd (gv f s w) w d a l k f h R Q:=by
 simp only[WS,cont,lQ,PV,GB]
 rcases gv f s w with _|c
 ·rfl
 ·cases c <;>try rfl
  rename_i b
  cases b <;>cases w <;>simp[Hn]
theorem Pe (d:Nat) (a:AI) (l:List IT):GB cd (some (.bool true)) true d a l k f h R Q=WS cd (.c (.ops (.i a::l))::k) f h R Q:=rfl
theorem OZ (d:Nat) (a:AI) (l:List IT):GB cd (some (.bool false)) false d a l k f h R Q=WS cd (.c (.ops (.i a::l))::k) f h R Q:=rfl
theorem OO (d:Nat) (a:AI) (l:List IT):GB cd (some (.bool true)) false d a l k f h R Q=WS cd (.c (.ops l)::k) (eB f d (.tup [])) h R Q:=rfl
theorem OC (d:Nat) (a:AI) (l:List IT):GB cd (some (.bool false)) true d a l k f h R Q=WS cd (.c (.ops l)::k) (eB f d (.tup [])) h R Q:=rfl
theorem tD (d g:Nat) (xs:List X) (l:List IT):WS cd (.c (.ops (.i (.call d g false xs)::l))::k) f h R Q=CA cd g (args f xs) h (KC cd d l k f R Q):=by
 simp only[WS,cont,lQ,Ll]
 cases args f xs with
 |none=>rfl
 |some vs=>
  simp only[HV,CA]
  congr 1
  funext v h'
  simp only[KC,WS,cont,lQ]
theorem Ob (d g e:Nat) (xs:List X) (l:List IT):WS cd (.c (.ops (.i (.cle d g e xs)::l))::k) f h R Q=CA cd g (args f xs) h (KE cd h d e l k f R Q):=by
 simp only[WS,cont,lQ,N3]
 cases args f xs with
 |none=>rfl
 |some vs=>
  simp only[HV,CA]
  congr 1
  funext v h'
  simp only[KE,KC,WS,cont,lQ]
theorem Em (d g:Nat) (xs:List X) (l:List IT):WS cd (.c (.ops (.i (.call d g true xs)::l))::k) f h R Q=CA cd g (args f xs) h (KQ cd h d l k f R Q):=by
 simp only[WS,cont,lQ,Ie]
 cases args f xs with
 |none=>rfl
 |some vs=>
  simp only[HV,CA]
  congr 1
  funext v h'
  simp only[KQ,KC,WS,cont,lQ]
theorem kG (g:Nat) (vs:List (Bool×List C)) (K:V→H→Prop):CA cd g (some vs) h K=WC cd g vs h K:=rfl
theorem zY {c:dP} {d:Nat} {q:Bool} {x:X} {xs:List X} (hx:∀g,dt f x≠some (.fn g)):da c (.clv d q x xs) f h=none:=by
 simp only[da]
 split
 ·rename_i g vs h1 h2;exact absurd h1 (hx g)
 ·rfl
theorem IU (d:Nat) (q:Bool) (x:X) (xs:List X) (l:List IT):WS cd (.c (.ops (.i (.clv d q x xs)::l))::k) f h R Q=CV cd (dt f x) q d xs l k f h R Q:=by
 by_cases hx:∃g,dt f x=some (.fn g)
 ·obtain⟨g,hg⟩:=hx
  simp only[hg,CV,WS,cont,lQ]
  exact Oq d q x xs l _ g hg
 ·have hx':∀g,dt f x≠some (.fn g):=fun g e=>hx ⟨g,e⟩
  have e1:CV cd (dt f x) q d xs l k f h R Q=False:=by
   unfold CV
   split
   ·rename_i g hg;exact absurd hg (hx' g)
   ·rfl
  rw[e1]
  simp only[WS,cont,lQ,eq_iff_iff,iff_false]
  rintro⟨n,f',h',hr,_⟩
  simp[dS,cC,zY hx']at hr
theorem Ms (g:Nat) (q:Bool) (d:Nat) (xs:List X) (l:List IT):CV cd (some (.fn g)) q d xs l k f h R Q=WS cd (.c (.ops (.i (.call d g q xs)::l))::k) f h R Q:=rfl
theorem KR (v:V):FN (some v) Q h=Q v h:=rfl
theorem ae (d:Nat) (l:List IT) (v:V):KC cd d l k f R Q v h=WS cd (.c (.ops l)::k) (eB f d v) h R Q:=rfl
theorem aV {p:Prop} {_:Decidable p} {a b:AC} (ht:p→WS cd (.c a::k) f h R Q) (hf:¬p→WS cd (.c b::k) f h R Q):BR cd (some (.bool (decide p))) a b k f h R Q:=Mh ht hf
theorem bW {g:Nat} {vs:List (Bool×List C)} {P K:V→H→Prop} (hc:WC cd g vs h P) (hk:∀v h',P v h'→K v h'):WC cd g vs h K:=hc.mono hk
theorem CL {ds:List Nat} {b:AC} (I:Nat→Fr→H→Prop) (g0:Nat) (h0:I g0 f h)
 (round:∀g f h,I g f h→WS cd (.c b:: .stop (fun f' h'=>∃g',g' < g∧I g' f' h')::k) (forget f ds) h R Q):WS cd (.c (.loop ds b)::k) f h R Q:=by
 simp only[WS,cont]
 refine M6 I g0 h0 (fun g f h hI=> ?_)
 have:=round g f h hI
 simp only[WS,cont]at this
 refine this.mono (fun e f' h' he=> ?_)
 cases e <;>exact he
theorem aZ {g:Nat} {a:AF} (hg:cd g=some a) {vs:List (Bool×List C)} (hl:vs.length=a.np)
 (hw:WS cd [.c a.body] (cZ (PT.full a.dep) 0 vs) h a.res Q):WC cd g vs h Q:=by
 refine JJ hg hl ?_
 simp only[WS,cont]at hw
 refine hw.mono (fun e f' h' he=> ?_)
 cases e with
 |exit i=>exact he
 |norm=>exact he
 |ret=>exact he
end
theorem RR:(∀(f:Fr) (s:Nat) (w:Bool),gv f s w=(match f.get s with| .tup []=>some (.bool (!w))|_=>dt f (.s s)))∧
 (∀(cd:Nat→Option AF) (f:Fr) (h:H) (R:List RV) (Q:V→H→Prop),WS cd [] f h R Q=FN (kl f R) Q h)∧
 (∀(cd:Nat→Option AF) (k:List KI) (f:Fr) (h:H) (R:List RV) (Q:V→H→Prop) (i:Nat),WS cd (.b i::k) f h R Q=WS cd k f h R Q)∧
 (∀(cd:Nat→Option AF) (k:List KI) (f:Fr) (h:H) (R:List RV) (Q:V→H→Prop) (P:Fr→H→Prop),WS cd (.stop P::k) f h R Q=P f h)∧
 (∀(cd:Nat→Option AF) (k:List KI) (f:Fr) (h:H) (R:List RV) (Q:V→H→Prop),WS cd (.c .skip::k) f h R Q=WS cd k f h R Q)∧
 (∀(cd:Nat→Option AF) (k:List KI) (f:Fr) (h:H) (R:List RV) (Q:V→H→Prop),WS cd (.c .ret::k) f h R Q=FN (kl f R) Q h)∧
 (∀(cd:Nat→Option AF) (k:List KI) (f:Fr) (h:H) (R:List RV) (Q:V→H→Prop) (id:Nat),WS cd (.c (.exit id)::k) f h R Q=EX cd id k f h R Q)∧
 (∀(cd:Nat→Option AF) (k:List KI) (f:Fr) (h:H) (R:List RV) (Q:V→H→Prop) (id:Nat) (i:Nat),EX cd id (.b i::k) f h R Q=if id=i then WS cd k f h R Q else EX cd id k f h R Q)∧
 (∀(cd:Nat→Option AF) (k:List KI) (f:Fr) (h:H) (R:List RV) (Q:V→H→Prop) (id:Nat) (a:AC),EX cd id (.c a::k) f h R Q=EX cd id k f h R Q)∧
 (∀(cd:Nat→Option AF) (k:List KI) (f:Fr) (h:H) (R:List RV) (Q:V→H→Prop) (id:Nat) (P:Fr→H→Prop),EX cd id (.stop P::k) f h R Q=EX cd id k f h R Q)∧
 (∀(cd:Nat→Option AF) (k:List KI) (f:Fr) (h:H) (R:List RV) (Q:V→H→Prop) (a:AC) (b:AC),WS cd (.c (.seq a b)::k) f h R Q=WS cd (.c a:: .c b::k) f h R Q)∧
 (∀(cd:Nat→Option AF) (k:List KI) (f:Fr) (h:H) (R:List RV) (Q:V→H→Prop) (id:Nat) (b:AC),WS cd (.c (.block id b)::k) f h R Q=WS cd (.c b:: .b id::k) f h R Q)∧
 (∀(cd:Nat→Option AF) (k:List KI) (f:Fr) (h:H) (R:List RV) (Q:V→H→Prop) (x:X) (a:AC) (b:AC),WS cd (.c (.cond x a b)::k) f h R Q=BR cd (dt f x) a b k f h R Q)∧
 (∀(cd:Nat→Option AF) (k:List KI) (f:Fr) (h:H) (R:List RV) (Q:V→H→Prop) (a:AC) (b:AC),BR cd (some (.bool true)) a b k f h R Q=WS cd (.c a::k) f h R Q)∧
 (∀(cd:Nat→Option AF) (k:List KI) (f:Fr) (h:H) (R:List RV) (Q:V→H→Prop) (a:AC) (b:AC),BR cd (some (.bool false)) a b k f h R Q=WS cd (.c b::k) f h R Q)∧
 (∀(cd:Nat→Option AF) (k:List KI) (f:Fr) (h:H) (R:List RV) (Q:V→H→Prop),WS cd (.c (.ops [])::k) f h R Q=WS cd k f h R Q)∧
 (∀(cd:Nat→Option AF) (k:List KI) (f:Fr) (h:H) (R:List RV) (Q:V→H→Prop) (l:List IT),ST cd (some (f,h)) l k R Q=WS cd (.c (.ops l)::k) f h R Q)∧
 (∀(cd:Nat→Option AF) (k:List KI) (f:Fr) (h:H) (R:List RV) (Q:V→H→Prop) (s:Nat) (d:Nat) (w:Bool) (a:AI) (l:List IT),WS cd (.c (.ops (.g s w d a::l))::k) f h R Q=GB cd (gv f s w) w d a l k f h R Q)∧
 (∀(cd:Nat→Option AF) (k:List KI) (f:Fr) (h:H) (R:List RV) (Q:V→H→Prop) (d:Nat) (a:AI) (l:List IT),GB cd (some (.bool true)) true d a l k f h R Q=WS cd (.c (.ops (.i a::l))::k) f h R Q)∧
 (∀(cd:Nat→Option AF) (k:List KI) (f:Fr) (h:H) (R:List RV) (Q:V→H→Prop) (d:Nat) (a:AI) (l:List IT),GB cd (some (.bool false)) false d a l k f h R Q=WS cd (.c (.ops (.i a::l))::k) f h R Q)∧
 (∀(cd:Nat→Option AF) (k:List KI) (f:Fr) (h:H) (R:List RV) (Q:V→H→Prop) (d:Nat) (a:AI) (l:List IT),GB cd (some (.bool true)) false d a l k f h R Q=WS cd (.c (.ops l)::k) (eB f d (.tup [])) h R Q)∧
 (∀(cd:Nat→Option AF) (k:List KI) (f:Fr) (h:H) (R:List RV) (Q:V→H→Prop) (d:Nat) (a:AI) (l:List IT),GB cd (some (.bool false)) true d a l k f h R Q=WS cd (.c (.ops l)::k) (eB f d (.tup [])) h R Q)∧
 (∀(cd:Nat→Option AF) (k:List KI) (f:Fr) (h:H) (R:List RV) (Q:V→H→Prop) (d:Nat) (g:Nat) (xs:List X) (l:List IT),WS cd (.c (.ops (.i (.call d g false xs)::l))::k) f h R Q=CA cd g (args f xs) h (KC cd d l k f R Q))∧
 (∀(cd:Nat→Option AF) (k:List KI) (f:Fr) (h:H) (R:List RV) (Q:V→H→Prop) (d:Nat) (g:Nat) (xs:List X) (l:List IT),WS cd (.c (.ops (.i (.call d g true xs)::l))::k) f h R Q=CA cd g (args f xs) h (KQ cd h d l k f R Q))∧
 (∀(cd:Nat→Option AF) (h:H) (g:Nat) (vs:List (Bool×List C)) (K:V→H→Prop),CA cd g (some vs) h K=WC cd g vs h K)∧
 (∀(cd:Nat→Option AF) (k:List KI) (f:Fr) (h:H) (R:List RV) (Q:V→H→Prop) (d:Nat) (q:Bool) (x:X) (xs:List X) (l:List IT),WS cd (.c (.ops (.i (.clv d q x xs)::l))::k) f h R Q=CV cd (dt f x) q d xs l k f h R Q)∧
 (∀(cd:Nat→Option AF) (k:List KI) (f:Fr) (h:H) (R:List RV) (Q:V→H→Prop) (g:Nat) (q:Bool) (d:Nat) (xs:List X) (l:List IT),CV cd (some (.fn g)) q d xs l k f h R Q=WS cd (.c (.ops (.i (.call d g q xs)::l))::k) f h R Q)∧
 (∀(Q:V→H→Prop) (h:H) (v:V),FN (some v) Q h=Q v h)∧
 (∀(cd:Nat→Option AF) (k:List KI) (f:Fr) (h:H) (R:List RV) (Q:V→H→Prop) (d:Nat) (l:List IT) (v:V),KC cd d l k f R Q v h=WS cd (.c (.ops l)::k) (eB f d v) h R Q):=
 ⟨fun _ _ _=>rfl,fun _ _ _ _ _=>JZ,fun _ _ _ _ _ _ i=>NL i,fun _ _ _ _ _ _ P=>BQ P,fun _ _ _ _ _ _=>oV,fun _ _ _ _ _ _=>E5,fun _ _ _ _ _ _ id=>Cr id,fun _ _ _ _ _ _ id i=>Nj id i,fun _ _ _ _ _ _ id a=>Nu id a,fun _ _ _ _ _ _ id P=>Ct id P,fun _ _ _ _ _ _ a b=>hU a b,fun _ _ _ _ _ _ id b=>sJ id b,fun _ _ _ _ _ _ x a b=>sk x a b,fun _ _ _ _ _ _ a b=>Gw a b,fun _ _ _ _ _ _ a b=>sD a b,fun _ _ _ _ _ _=>cv,fun _ _ f h _ _ l=>Gx f h l,fun _ _ _ _ _ _ s d w a l=>M7 s d w a l,fun _ _ _ _ _ _ d a l=>Pe d a l,fun _ _ _ _ _ _ d a l=>OZ d a l,fun _ _ _ _ _ _ d a l=>OO d a l,fun _ _ _ _ _ _ d a l=>OC d a l,fun _ _ _ _ _ _ d g xs l=>tD d g xs l,fun _ _ _ _ _ _ d g xs l=>Em d g xs l,fun _ _ g vs K=>kG g vs K,fun _ _ _ _ _ _ d q x xs l=>IU d q x xs l,fun _ _ _ _ _ _ g q d xs l=>Ms g q d xs l,fun _ _ v=>KR v,fun _ _ _ _ _ _ d l v=>ae d l v⟩
theorem RP:(∀(cd:Nat→Option AF) (k:List KI) (f:Fr) (h:H) (R:List RV) (Q:V→H→Prop) (l:List IT) d_ e_ n_ z_ ps_,WS cd (.c (.ops (.i (.lsl d_ e_ n_ z_ ps_)::l))::k) f h R Q=ST cd (ai (.lsl d_ e_ n_ z_ ps_) f h) l k R Q)∧
 (∀(cd:Nat→Option AF) (k:List KI) (f:Fr) (h:H) (R:List RV) (Q:V→H→Prop) (l:List IT) d_,WS cd (.c (.ops (.i (.bse d_)::l))::k) f h R Q=ST cd (ai (.bse d_) f h) l k R Q)∧
 (∀(cd:Nat→Option AF) (k:List KI) (f:Fr) (h:H) (R:List RV) (Q:V→H→Prop) (l:List IT) d_ x_,WS cd (.c (.ops (.i (.mov d_ x_)::l))::k) f h R Q=ST cd (ai (.mov d_ x_) f h) l k R Q)∧
 (∀(cd:Nat→Option AF) (k:List KI) (f:Fr) (h:H) (R:List RV) (Q:V→H→Prop) (l:List IT) d_ c_ a_ b_,WS cd (.c (.ops (.i (.pick d_ c_ a_ b_)::l))::k) f h R Q=ST cd (ai (.pick d_ c_ a_ b_) f h) l k R Q)∧
 (∀(cd:Nat→Option AF) (k:List KI) (f:Fr) (h:H) (R:List RV) (Q:V→H→Prop) (l:List IT) d_ x_,WS cd (.c (.ops (.i (.lbox d_ x_)::l))::k) f h R Q=ST cd (ai (.lbox d_ x_) f h) l k R Q)∧
 (∀(cd:Nat→Option AF) (k:List KI) (f:Fr) (h:H) (R:List RV) (Q:V→H→Prop) (l:List IT) d_ cs_,WS cd (.c (.ops (.i (.lal d_ cs_)::l))::k) f h R Q=ST cd (ai (.lal d_ cs_) f h) l k R Q)∧
 (∀(cd:Nat→Option AF) (k:List KI) (f:Fr) (h:H) (R:List RV) (Q:V→H→Prop) (l:List IT) d_ ty_ x_,WS cd (.c (.ops (.i (.hbox d_ ty_ x_)::l))::k) f h R Q=ST cd (ai (.hbox d_ ty_ x_) f h) l k R Q)∧
 (∀(cd:Nat→Option AF) (k:List KI) (f:Fr) (h:H) (R:List RV) (Q:V→H→Prop) (l:List IT) d_ ty_ cs_,WS cd (.c (.ops (.i (.hal d_ ty_ cs_)::l))::k) f h R Q=ST cd (ai (.hal d_ ty_ cs_) f h) l k R Q)∧
 (∀(cd:Nat→Option AF) (k:List KI) (f:Fr) (h:H) (R:List RV) (Q:V→H→Prop) (l:List IT) d_ z_ ps_,WS cd (.c (.ops (.i (.bld d_ z_ ps_)::l))::k) f h R Q=ST cd (ai (.bld d_ z_ ps_) f h) l k R Q)∧
 (∀(cd:Nat→Option AF) (k:List KI) (f:Fr) (h:H) (R:List RV) (Q:V→H→Prop) (l:List IT) d_ ty_ e_ n_ z_ ps_,WS cd (.c (.ops (.i (.bsl d_ ty_ e_ n_ z_ ps_)::l))::k) f h R Q=ST cd (ai (.bsl d_ ty_ e_ n_ z_ ps_) f h) l k R Q)∧
 (∀(cd:Nat→Option AF) (k:List KI) (f:Fr) (h:H) (R:List RV) (Q:V→H→Prop) (l:List IT) d_ x_ o_,WS cd (.c (.ops (.i (.fad d_ x_ o_)::l))::k) f h R Q=ST cd (ai (.fad d_ x_ o_) f h) l k R Q)∧
 (∀(cd:Nat→Option AF) (k:List KI) (f:Fr) (h:H) (R:List RV) (Q:V→H→Prop) (l:List IT) d_ x_ i_ e_,WS cd (.c (.ops (.i (.iad d_ x_ i_ e_)::l))::k) f h R Q=ST cd (ai (.iad d_ x_ i_ e_) f h) l k R Q)∧
 (∀(cd:Nat→Option AF) (k:List KI) (f:Fr) (h:H) (R:List RV) (Q:V→H→Prop) (l:List IT) d_ x_ i_ e_ n_,WS cd (.c (.ops (.i (.iaa d_ x_ i_ e_ n_)::l))::k) f h R Q=ST cd (ai (.iaa d_ x_ i_ e_ n_) f h) l k R Q)∧
 (∀(cd:Nat→Option AF) (k:List KI) (f:Fr) (h:H) (R:List RV) (Q:V→H→Prop) (l:List IT) d_ r_ x_ n_ g_,WS cd (.c (.ops (.i (.ldl d_ r_ x_ n_ g_)::l))::k) f h R Q=ST cd (ai (.ldl d_ r_ x_ n_ g_) f h) l k R Q)∧
 (∀(cd:Nat→Option AF) (k:List KI) (f:Fr) (h:H) (R:List RV) (Q:V→H→Prop) (l:List IT) d_ x_ n_ g_,WS cd (.c (.ops (.i (.ldh d_ x_ n_ g_)::l))::k) f h R Q=ST cd (ai (.ldh d_ x_ n_ g_) f h) l k R Q)∧
 (∀(cd:Nat→Option AF) (k:List KI) (f:Fr) (h:H) (R:List RV) (Q:V→H→Prop) (l:List IT) r_ x_ v_ n_,WS cd (.c (.ops (.i (.stl r_ x_ v_ n_)::l))::k) f h R Q=ST cd (ai (.stl r_ x_ v_ n_) f h) l k R Q)∧
 (∀(cd:Nat→Option AF) (k:List KI) (f:Fr) (h:H) (R:List RV) (Q:V→H→Prop) (l:List IT) x_ v_ n_,WS cd (.c (.ops (.i (.sth x_ v_ n_)::l))::k) f h R Q=ST cd (ai (.sth x_ v_ n_) f h) l k R Q)∧
 (∀(cd:Nat→Option AF) (k:List KI) (f:Fr) (h:H) (R:List RV) (Q:V→H→Prop) (l:List IT) d_ op_ x_ y_,WS cd (.c (.ops (.i (.bin d_ op_ x_ y_)::l))::k) f h R Q=ST cd (ai (.bin d_ op_ x_ y_) f h) l k R Q)∧
 (∀(cd:Nat→Option AF) (k:List KI) (f:Fr) (h:H) (R:List RV) (Q:V→H→Prop) (l:List IT) d_ n_ x_ y_,WS cd (.c (.ops (.i (.beq d_ n_ x_ y_)::l))::k) f h R Q=ST cd (ai (.beq d_ n_ x_ y_) f h) l k R Q)∧
 (∀(cd:Nat→Option AF) (k:List KI) (f:Fr) (h:H) (R:List RV) (Q:V→H→Prop) (l:List IT) d_ n_ x_,WS cd (.c (.ops (.i (.snil d_ n_ x_)::l))::k) f h R Q=ST cd (ai (.snil d_ n_ x_) f h) l k R Q)∧
 (∀(cd:Nat→Option AF) (k:List KI) (f:Fr) (h:H) (R:List RV) (Q:V→H→Prop) (l:List IT) d_ m_ n_ x_ y_,WS cd (.c (.ops (.i (.geq d_ m_ n_ x_ y_)::l))::k) f h R Q=ST cd (ai (.geq d_ m_ n_ x_ y_) f h) l k R Q)∧
 (∀(cd:Nat→Option AF) (k:List KI) (f:Fr) (h:H) (R:List RV) (Q:V→H→Prop) (l:List IT) d_ x_,WS cd (.c (.ops (.i (.neg d_ x_)::l))::k) f h R Q=ST cd (ai (.neg d_ x_) f h) l k R Q)∧
 (∀(cd:Nat→Option AF) (k:List KI) (f:Fr) (h:H) (R:List RV) (Q:V→H→Prop) (l:List IT) d_ x_,WS cd (.c (.ops (.i (.not d_ x_)::l))::k) f h R Q=ST cd (ai (.not d_ x_) f h) l k R Q)∧
 (∀(cd:Nat→Option AF) (k:List KI) (f:Fr) (h:H) (R:List RV) (Q:V→H→Prop) (l:List IT) d_ k_ x_,WS cd (.c (.ops (.i (.cvi d_ k_ x_)::l))::k) f h R Q=ST cd (ai (.cvi d_ k_ x_) f h) l k R Q)∧
 (∀(cd:Nat→Option AF) (k:List KI) (f:Fr) (h:H) (R:List RV) (Q:V→H→Prop) (l:List IT) d_ x_,WS cd (.c (.ops (.i (.cbs d_ x_)::l))::k) f h R Q=ST cd (ai (.cbs d_ x_) f h) l k R Q)∧
 (∀(cd:Nat→Option AF) (k:List KI) (f:Fr) (h:H) (R:List RV) (Q:V→H→Prop) (l:List IT) d_ ty_ e_ b_ z_ x_,WS cd (.c (.ops (.i (.mks d_ ty_ e_ b_ z_ x_)::l))::k) f h R Q=ST cd (ai (.mks d_ ty_ e_ b_ z_ x_) f h) l k R Q)∧
 (∀(cd:Nat→Option AF) (k:List KI) (f:Fr) (h:H) (R:List RV) (Q:V→H→Prop) (l:List IT) d_ e_ x_ lo_ hi_,WS cd (.c (.ops (.i (.fb d_ e_ x_ lo_ hi_)::l))::k) f h R Q=ST cd (ai (.fb d_ e_ x_ lo_ hi_) f h) l k R Q)∧
 (∀(cd:Nat→Option AF) (k:List KI) (f:Fr) (h:H) (R:List RV) (Q:V→H→Prop) (l:List IT) d_ x_ lo_ hi_,WS cd (.c (.ops (.i (.sls d_ x_ lo_ hi_)::l))::k) f h R Q=ST cd (ai (.sls d_ x_ lo_ hi_) f h) l k R Q)∧
 (∀(cd:Nat→Option AF) (k:List KI) (f:Fr) (h:H) (R:List RV) (Q:V→H→Prop) (l:List IT) d_ x_ n_ e_,WS cd (.c (.ops (.i (.sla d_ x_ n_ e_)::l))::k) f h R Q=ST cd (ai (.sla d_ x_ n_ e_) f h) l k R Q)∧
 (∀(cd:Nat→Option AF) (k:List KI) (f:Fr) (h:H) (R:List RV) (Q:V→H→Prop) (l:List IT) d_ x_ o_ n_ g_,WS cd (.c (.ops (.i (.fld d_ x_ o_ n_ g_)::l))::k) f h R Q=ST cd (ai (.fld d_ x_ o_ n_ g_) f h) l k R Q)∧
 (∀(cd:Nat→Option AF) (k:List KI) (f:Fr) (h:H) (R:List RV) (Q:V→H→Prop) (l:List IT) d_ x_ i_ e_ n_ g_,WS cd (.c (.ops (.i (.idx d_ x_ i_ e_ n_ g_)::l))::k) f h R Q=ST cd (ai (.idx d_ x_ i_ e_ n_ g_) f h) l k R Q)∧
 (∀(cd:Nat→Option AF) (k:List KI) (f:Fr) (h:H) (R:List RV) (Q:V→H→Prop) (l:List IT) d_ x_ i_,WS cd (.c (.ops (.i (.ids d_ x_ i_)::l))::k) f h R Q=ST cd (ai (.ids d_ x_ i_) f h) l k R Q)∧
 (∀(cd:Nat→Option AF) (k:List KI) (f:Fr) (h:H) (R:List RV) (Q:V→H→Prop) (l:List IT) d_ x_ i_,WS cd (.c (.ops (.i (.ext d_ x_ i_)::l))::k) f h R Q=ST cd (ai (.ext d_ x_ i_) f h) l k R Q)∧
 (∀(cd:Nat→Option AF) (k:List KI) (f:Fr) (h:H) (R:List RV) (Q:V→H→Prop) (l:List IT) d_ x_,WS cd (.c (.ops (.i (.nch d_ x_)::l))::k) f h R Q=ST cd (ai (.nch d_ x_) f h) l k R Q)∧
 (∀(cd:Nat→Option AF) (k:List KI) (f:Fr) (h:H) (R:List RV) (Q:V→H→Prop) (l:List IT) d_ s_ x_,WS cd (.c (.ops (.i (.len d_ s_ x_)::l))::k) f h R Q=ST cd (ai (.len d_ s_ x_) f h) l k R Q)∧
 (∀(cd:Nat→Option AF) (k:List KI) (f:Fr) (h:H) (R:List RV) (Q:V→H→Prop) (l:List IT) d_ ty_ e_ b_ x_ y_,WS cd (.c (.ops (.i (.app d_ ty_ e_ b_ x_ y_)::l))::k) f h R Q=ST cd (ai (.app d_ ty_ e_ b_ x_ y_) f h) l k R Q)∧
 (∀(cd:Nat→Option AF) (k:List KI) (f:Fr) (h:H) (R:List RV) (Q:V→H→Prop) (l:List IT) d_ e_ x_ y_,WS cd (.c (.ops (.i (.cpy d_ e_ x_ y_)::l))::k) f h R Q=ST cd (ai (.cpy d_ e_ x_ y_) f h) l k R Q)∧
 (∀(cd:Nat→Option AF) (k:List KI) (f:Fr) (h:H) (R:List RV) (Q:V→H→Prop) (l:List IT) d_ m_ x_ y_,WS cd (.c (.ops (.i (.mm d_ m_ x_ y_)::l))::k) f h R Q=ST cd (ai (.mm d_ m_ x_ y_) f h) l k R Q):=
 by(repeat' apply And.intro) <;>intros <;>exact eh _ rfl _
end Go.Eng
namespace Go.Eng
def ah {α β:Type} (R:α→β→Prop):List α→List β→Prop
 | [],[]=>True
 |x::xs,y::ys=>R x y∧ah R xs ys
 |_,_=>False
section
variable {α β:Type} {R R':α→β→Prop}
theorem ah.length:∀ {xs:List α} {ys:List β},ah R xs ys→xs.length=ys.length
 | [],[],_=>rfl
 |x::xs,y::ys,h=>by simp[ah.length h.2]
 | [],_::_,h=>h.elim
 |_::_,[],h=>h.elim
theorem ah.imp (hr:∀x y,R x y→R' x y):∀ {xs:List α} {ys:List β},ah R xs ys→ah R' xs ys
 | [],[],_=>trivial
 |_::_,_::_,h=>⟨hr _ _ h.1,ah.imp hr h.2⟩
 | [],_::_,h=>h.elim
 |_::_,[],h=>h.elim
theorem ah.get:∀ {xs:List α} {ys:List β},ah R xs ys→∀ {i:Nat} {x:α},xs[i]? =some x→∃y,ys[i]? =some y∧R x y
 | [],[],_,i,x,h=>by simp at h
 |a::xs,b::ys,h,0,x,hx=>by simp at hx;subst hx;exact⟨b,by simp,h.1⟩
 |a::xs,b::ys,h,i+1,x,hx=>by
  obtain⟨y,hy,r⟩:=ah.get h.2 (i:=i) (by simpa using hx)
  exact⟨y,by simpa using hy,r⟩
 | [],_::_,h,_,_,_=>h.elim
 |_::_,[],h,_,_,_=>h.elim
theorem ah.get':∀ {xs:List α} {ys:List β},ah R xs ys→∀ {i:Nat} {y:β},ys[i]? =some y→∃x,xs[i]? =some x∧R x y
 | [],[],_,i,x,h=>by simp at h
 |a::xs,b::ys,h,0,x,hx=>by simp at hx;subst hx;exact⟨a,by simp,h.1⟩
 |a::xs,b::ys,h,i+1,x,hx=>by
  obtain⟨y,hy,r⟩:=ah.get' h.2 (i:=i) (by simpa using hx)
  exact⟨y,by simpa using hy,r⟩
 | [],_::_,h,_,_,_=>h.elim
 |_::_,[],h,_,_,_=>h.elim
theorem ah.Fk:∀ {xs:List α} {ys:List β},xs.length=ys.length→(∀(i:Nat) (x:α) (y:β),xs[i]? =some x→ys[i]? =some y→R x y)→ah R xs ys
 | [],[],_,_=>trivial
 |x::xs,y::ys,hl,h=>⟨h 0 x y rfl rfl,ah.Fk (by simpa using hl) (fun i a b ha hb=>h (i+1) a b (by simpa using ha) (by simpa using hb))⟩
 | [],_::_,hl,_=>by simp at hl
 |_::_,[],hl,_=>by simp at hl
theorem ah.append:∀ {xs:List α} {ys:List β} {xs':List α} {ys':List β},ah R xs ys→ah R xs' ys'→ah R (xs++xs') (ys++ys')
 | [],[],_,_,_,h'=>h'
 |_::_,_::_,_,_,h,h'=>⟨h.1,ah.append h.2 h'⟩
 | [],_::_,_,_,h,_=>h.elim
 |_::_,[],_,_,h,_=>h.elim
theorem ah.take:∀ {xs:List α} {ys:List β} (n:Nat),ah R xs ys→ah R (xs.take n) (ys.take n)
 | [],[],n,_=>by simp[ah]
 |_::_,_::_,0,_=>by simp[ah]
 |_::_,_::_,n+1,h=>by simp only[List.take_succ_cons];exact⟨h.1,ah.take n h.2⟩
 | [],_::_,_,h=>h.elim
 |_::_,[],_,h=>h.elim
theorem ah.drop:∀ {xs:List α} {ys:List β} (n:Nat),ah R xs ys→ah R (xs.drop n) (ys.drop n)
 | [],[],n,_=>by simp[ah]
 |_::_,_::_,0,h=>by simpa using h
 |_::_,_::_,n+1,h=>by simp only[List.drop_succ_cons];exact ah.drop n h.2
 | [],_::_,_,h=>h.elim
 |_::_,[],_,h=>h.elim
theorem ah.set:∀ {xs:List α} {ys:List β} (i:Nat) {x:α} {y:β},ah R xs ys→R x y→ah R (xs.set i x) (ys.set i y)
 | [],[],_,_,_,_,_=>by simp[ah]
 |_::_,_::_,0,_,_,h,hr=>by simp only[List.set_cons_zero];exact⟨hr,h.2⟩
 |_::_,_::_,i+1,_,_,h,hr=>by simp only[List.set_cons_succ];exact⟨h.1,ah.set i h.2 hr⟩
 | [],_::_,_,_,_,h,_=>h.elim
 |_::_,[],_,_,_,h,_=>h.elim
theorem ah.aR:∀ {vs:List α} {us:List β} {xs:List α} {ys:List β} (o:Nat),ah R xs ys→ah R vs us→ah R (aR xs o vs) (aR ys o us)
 | [],[],_,_,_,h,_=>h
 |_::_,_::_,_,_,o,h,hv=>ah.aR (o+1) (ah.set o h hv.1) hv.2
 | [],_::_,_,_,_,_,hv=>hv.elim
 |_::_,[],_,_,_,_,hv=>hv.elim
theorem ah.replicate {x:α} {y:β} (h:R x y):∀n,ah R (List.replicate n x) (List.replicate n y)
 |0=>trivial
 |n+1=>⟨h,ah.replicate h n⟩
theorem ah.flatten {xs:List α} {ys:List β} (h:ah R xs ys):∀n,ah R (List.replicate n xs).flatten (List.replicate n ys).flatten
 |0=>trivial
 |n+1=>by simp only[List.replicate_succ,List.flatten_cons];exact ah.append h (ah.flatten h n)
end
theorem cM {α:Type}:∀(vs cs:List α) (o:Nat),(aR cs o vs).length=cs.length
 | [],_,_=>rfl
 |v::vs,cs,o=>by simp[aR,cM vs]
theorem du {α:Type}:∀(vs cs:List α) (o:Nat),o+vs.length≤cs.length→aR cs o vs=cs.take o++vs++cs.drop (o+vs.length)
 | [],cs,o,_=>by simp[aR]
 |v::vs,cs,o,h=>by
  simp only[List.length_cons]at h
  rw[aR,du vs _ _ (by simp;omega)]
  have e1:(cs.set o v).take (o+1)=cs.take o++ [v]:=by
   rw[List.take_succ_eq_append_getElem (by simp;omega)]
   simp[List.take_set_of_le (Nat.le_refl o)]
  have e2:(cs.set o v).drop (o+1+vs.length)=cs.drop (o+(vs.length+1)):=by
   rw[List.drop_set_of_lt (by omega)]
   congr 1
   omega
  rw[e1,e2]
  simp
theorem PT.bL (k:K):PT.leaf.get k= .any:=by cases k <;>rfl
theorem PT.bp:∀(k k':K) (f:PT) (v:V),(f.set k v).get k'=if k'=k then v else f.get k'
 | .z, .z, .leaf,v=>rfl
 | .z, .o k', .leaf,v=>by simp[PT.set,PT.get,PT.bL]
 | .z, .i k', .leaf,v=>by simp[PT.set,PT.get,PT.bL]
 | .z, .z, .node _ _ _,v=>rfl
 | .z, .o k', .node _ _ _,v=>by simp[PT.set,PT.get]
 | .z, .i k', .node _ _ _,v=>by simp[PT.set,PT.get]
 | .o k, .z, .leaf,v=>by simp[PT.set,PT.get]
 | .o k, .o k', .leaf,v=>by
   have:=PT.bp k k' .leaf v
   simp only[PT.bL]at this
   simp[PT.set,PT.get,this]
 | .o k, .i k', .leaf,v=>by simp[PT.set,PT.get,PT.bL]
 | .o k, .z, .node _ _ _,v=>by simp[PT.set,PT.get]
 | .o k, .o k', .node l _ _,v=>by simp[PT.set,PT.get,PT.bp k k' l v]
 | .o k, .i k', .node _ _ _,v=>by simp[PT.set,PT.get]
 | .i k, .z, .leaf,v=>by simp[PT.set,PT.get]
 | .i k, .i k', .leaf,v=>by
   have:=PT.bp k k' .leaf v
   simp only[PT.bL]at this
   simp[PT.set,PT.get,this]
 | .i k, .o k', .leaf,v=>by simp[PT.set,PT.get,PT.bL]
 | .i k, .z, .node _ _ _,v=>by simp[PT.set,PT.get]
 | .i k, .i k', .node _ _ r,v=>by simp[PT.set,PT.get,PT.bp k k' r v]
 | .i k, .o k', .node _ _ _,v=>by simp[PT.set,PT.get]
def K.idx:K→Nat
 | .z=>0
 | .o k=>2 * k.idx+1
 | .i k=>2 * k.idx+2
theorem K.oW:∀(d n:Nat),n≤d→(K.lH d n).idx=n
 |0,n,h=>by simp[K.lH,K.idx];omega
 |d+1,n,h=>by
  unfold K.lH
  split
  ·simp[K.idx];omega
  ·split
   ·simp only[K.idx];rw[K.oW d (n / 2) (by omega)];omega
   ·simp only[K.idx];rw[K.oW d (n / 2 - 1) (by omega)];omega
theorem K.IW {a b:Nat} (h:K.of a=K.of b):a=b:=by
 have:=congrArg K.idx h
 rwa [K.of,K.of,K.oW _ _ (Nat.le_refl _),K.oW _ _ (Nat.le_refl _)]at this
theorem Fr.bp (f:Fr) (s t:Nat) (v:V):Fr.get (Fr.set f s v) t=if t=s then v else Fr.get f t:=by
 unfold Fr.get Fr.set
 rw[PT.bp]
 by_cases h:t=s
 ·simp[h]
 ·rw[if_neg h,if_neg (fun e=>h (K.IW e))]
theorem Fr.bB (f:Fr) (s:Nat) (v:V):Fr.get (Fr.set f s v) s=v:=by rw[Fr.bp,if_pos rfl]
theorem Fr.eH (f:Fr) {s t:Nat} (v:V) (h:t≠s):Fr.get (Fr.set f s v) t=Fr.get f t:=by rw[Fr.bp,if_neg h]
theorem PT.fg:∀(d:Nat) (k:K),(PT.full d).get k= .any
 |0,k=>PT.bL k
 |d+1, .z=>rfl
 |d+1, .o k=>PT.fg d k
 |d+1, .i k=>PT.fg d k
theorem Fr.fg (d s:Nat):Fr.get (PT.full d) s= .any:=PT.fg d _
structure Pl where
 fO:Nat
 off:Nat
 lim:Nat
abbrev Mu:=Nat→Option Pl
def CR (μ:Mu):C→Value→Prop
 | .int k n,v=>v= .int k n
 | .bool b,v=>v= .bool b
 | .str s,v=>v= .string s
 | .ptr id o,v=>∃p,μ id=some p∧v= .pointer (some ⟨p.fO,p.off+o,none⟩)
 | .nilp,v=>v= .pointer none
 | .sl id o len e,v=>∃p a cap,μ id=some p∧v= .slice (some a) len cap∧len≤cap∧(cap=0∨a=⟨p.fO,p.off+o,none⟩)∧o+cap * e≤p.lim
 | .nils,v=>v= .slice none 0 0
 | .emp,v=>∃a,v= .slice (some a) 0 0
 | .fn f,v=>v= .func (.func f) #[] #[]
 | .nilf,v=>v= .nilFunc
 | .nili,v=>v= .nilIface
def VG (μ:Mu) (g:Bool) (cs:List C) (v:Value):Prop:=
 match g with
 |true=>∃arr,v= .agg arr∧ah (CR μ) cs arr.toList
 |false=>∃c,cs= [c]∧CR μ c v
def TG (μ:Mu) (vs:List (Bool×List C)) (v:Value):Prop:=∃arr,v= .tuple arr∧ah (fun p u=>VG μ p.1 p.2 u) vs arr.toList
def cf (μ μ':Mu):Prop:=∀id p,μ id=some p→μ' id=some p
theorem cf.refl (μ:Mu):cf μ μ:=fun _ _ h=>h
theorem cf.trans {a b c:Mu} (h:cf a b) (h':cf b c):cf a c:=fun id p e=>h' id p (h id p e)
theorem CR.mono {μ μ':Mu} (hm:cf μ μ'):∀ {c:C} {v:Value},CR μ c v→CR μ' c v
 | .int ..,_,h| .bool _,_,h| .str _,_,h| .nilp,_,h| .nils,_,h| .emp,_,h| .fn _,_,h| .nilf,_,h| .nili,_,h=>h
 | .ptr id o,_,⟨p,h1,h2⟩=>⟨p,hm _ _ h1,h2⟩
 | .sl ..,_,⟨p,a,cap,h1,h2⟩=>⟨p,a,cap,hm _ _ h1,h2⟩
theorem CR.one {μ:Mu}:∀ {c:C} {v:Value},CR μ c v→v.oneCell'=true
 | .int ..,_,h| .bool _,_,h| .str _,_,h| .nilp,_,h| .nils,_,h| .fn _,_,h| .nilf,_,h| .nili,_,h=>by cases h;rfl
 | .ptr ..,_,⟨_,_,h⟩=>by cases h;rfl
 | .emp,_,⟨_,h⟩=>by cases h;rfl
 | .sl ..,_,⟨_,_,_,_,h,_⟩=>by cases h;rfl
theorem CR.uK {μ:Mu}:∀ {cs:List C} {vs:List Value},ah (CR μ) cs vs→∀v∈vs,v.oneCell'=true
 | [],[],_,v,hv=>by simp at hv
 |_::_,_::_,h,v,hv=>by
  rcases List.mem_cons.1 hv with rfl|hv
  ·exact h.1.one
  ·exact CR.uK h.2 v hv
 | [],_::_,h,_,_=>h.elim
 |_::_,[],h,_,_=>h.elim
theorem VG.mono {μ μ':Mu} (hm:cf μ μ') {g:Bool} {cs:List C} {v:Value} (h:VG μ g cs v):VG μ' g cs v:=by
 cases g with
 |true=>obtain⟨arr,e,h⟩:=h;exact⟨arr,e,h.imp fun _ _=>CR.mono hm⟩
 |false=>obtain⟨c,e,h⟩:=h;exact⟨c,e,h.mono hm⟩
theorem TG.mono {μ μ':Mu} (hm:cf μ μ') {vs:List (Bool×List C)} {v:Value} (h:TG μ vs v):TG μ' vs v:=by
 obtain⟨arr,e,h⟩:=h
 exact⟨arr,e,h.imp fun _ _=>VG.mono hm⟩
theorem Cz {v:Value} (h:v.oneCell'=true):v.cells= #[v]:=by cases v <;>simp[Value.oneCell']at h <;>rfl
theorem VG.cells {μ:Mu} {g:Bool} {cs:List C} {v:Value} (h:VG μ g cs v):ah (CR μ) cs v.cells.toList:=by
 cases g with
 |true=>obtain⟨arr,rfl,h⟩:=h;exact h
 |false=>obtain⟨c,rfl,h⟩:=h;rw[Cz h.one];exact⟨h,trivial⟩
theorem JK (μ:Mu) {v:Value} {c:C} (h:Ou v=some c):CR μ c v:=by
 unfold Ou at h
 split at h <;>simp only[Option.some.injEq,reduceCtorEq]at h <;>subst h <;>first|rfl|exact rfl
theorem Cc (μ:Mu):∀ {vs:List Value} {cs:List C},Cn vs=some cs→ah (CR μ) cs vs
 | [],cs,h=>by simp[Cn]at h;subst h;trivial
 |v::vs,cs,h=>by
  simp only[Cn]at h
  cases h1:Ou v with
  |none=>simp[h1]at h
  |some c=>
   cases h2:Cn vs with
   |none=>simp[h1,h2]at h
   |some cs'=>simp[h1,h2]at h;subst h;exact⟨JK μ h1,Cc μ h2⟩
end Go.Eng
namespace Go.Eng
structure Ctx where
 P:Program
 I:wJ
 base:Nat
 w0:World
 B0:Nat→Prop
def HJ (μ:Mu) (L:Nat→Nat) (s:Nat) (v:Value):V→Prop
 | .any=>True
 | .val g cs=>VG μ g cs v
 | .tup vs=>TG μ vs v
 | .box _=>v= .pointer (some ⟨L s,0,none⟩)
 | .lsl _ n _=>v= .slice (some ⟨L s,0,none⟩) n n
 | .lref r o=>v= .pointer (some ⟨L r,o,none⟩)
def loc:V→Option (List C)
 | .box cs=>some cs
 | .lsl cs _ _=>some cs
 |_=>none
structure HP (X:Ctx) (μ:Mu) (h:H) (w:World):Prop where
 hos:w.os=X.w0.os
 htape:w.tape=X.w0.tape
 hout:w.output=X.w0.output
 hsz:X.w0.heap.size≤w.heap.size
 hb:X.base≤X.w0.heap.size
 fN:∀k,k < X.w0.heap.size→¬X.B0 k→w.heap[k]? =X.w0.heap[k]?
 dom:∀id p,μ id=some p→id < h.length
 own:∀id p ty cs,μ id=some p→h[id]? =some (.own ty cs)→p.off=0∧X.base≤p.fO∧∃arr,w.heap[p.fO]? =some (.cells arr ty (0,0))∧arr.size=p.lim∧∃rest,ah (CR μ) cs (arr.toList.take cs.length)∧arr.toList=arr.toList.take cs.length++rest
 ro:∀id p cs,μ id=some p→h[id]? =some (.ro cs)→p.fO < X.base∧∀i c,cs[i]? =some c→∃u,w.cell? ⟨p.fO,p.off+i,none⟩=some u∧CR μ c u
 ex:∀id id' p p' ty ty' cs cs',id≠id'→μ id=some p→μ id'=some p'→h[id]? =some (.own ty cs)→h[id']? =some (.own ty' cs')→p.fO≠p'.fO
 ownb:∀id p ty cs,μ id=some p→h[id]? =some (.own ty cs)→X.B0 p.fO∨X.w0.heap.size≤p.fO
 rob:∀k,X.B0 k→X.base≤k
structure FP (X:Ctx) (μ:Mu) (L:Nat→Nat) (f:Fr) (tm:Array Value) (w:World):Prop where
 nt:tm.size=X.I.nt
 slots:∀s,HJ μ L s (tm.getD s undef) (f.get s)
 loc:∀s cs,loc (f.get s)=some cs→X.w0.heap.size≤L s∧∃ty arr,w.heap[L s]? =some (.cells arr ty (0,0))∧ah (CR μ) cs arr.toList
 bsep:∀s t cs ds,s≠t→f.get s= .box cs→Eng.loc (f.get t)=some ds→L t≠L s
 bty:∀s cs,f.get s= .box cs→X.I.env.lookup s=some s
 rty:∀s r o,f.get s= .lref r o→X.I.env.lookup s=some r∧∃cs,f.get r= .box cs
structure cO (X:Ctx) (μ:Mu) (L:Nat→Nat) (f:Fr) (tm:Array Value) (h:H) (w:World):Prop where
 hp:HP X μ h w
 fp:FP X μ L f tm w
 sep:∀s cs id p ty ds,loc (f.get s)=some cs→μ id=some p→h[id]? =some (.own ty ds)→p.fO≠L s
section
variable {X:Ctx} {μ μ':Mu} {L:Nat→Nat} {f:Fr} {tm:Array Value} {h h':H} {w w':World}
theorem HJ.mono (hm:cf μ μ') {s:Nat} {v:Value}:∀ {u:V},HJ μ L s v u→HJ μ' L s v u
 | .any,_=>trivial
 | .val g cs,h=>VG.mono hm h
 | .tup vs,h=>TG.mono hm h
 | .box _,h=>h
 | .lsl _ _ _,h=>h
 | .lref _ _,h=>h
theorem FP.world (hf:FP X μ L f tm w) (hm:cf μ μ') (hl:∀s cs,Eng.loc (f.get s)=some cs→w'.heap[L s]? =w.heap[L s]?):FP X μ' L f tm w' where
 nt:=hf.nt
 slots s:=(hf.slots s).mono hm
 loc s cs hs:=by
  obtain⟨h0,ty,arr,h1,h2⟩:=hf.loc s cs hs
  exact⟨h0,ty,arr,(hl s cs hs).trans h1,h2.imp fun _ _=>CR.mono hm⟩
 bsep:=hf.bsep
 bty:=hf.bty
 rty:=hf.rty
theorem De (tm:Array Value) (d s:Nat) (u x:Value) (hd:d < tm.size):(tm.setIfInBounds d u).getD s x=if s=d then u else tm.getD s x:=by
 by_cases e:s=d
 ·subst e;simp[Array.getD,hd]
 ·rw[if_neg e]
  by_cases hs:s < tm.size
  ·simp[Array.getD,hs,Array.getElem_setIfInBounds,Ne.symm e]
  ·simp[Array.getD,hs]
theorem FP.put (hf:FP X μ L f tm w) {d:Nat} {u:Value} {v:V} (hd:d < tm.size) (hb:X.I.env.lookup d≠some d) (hv:HJ μ L d u v) (hl:Eng.loc v=none)
 (hr:∀r o,v= .lref r o→X.I.env.lookup d=some r∧∃cs,f.get r= .box cs):FP X μ L (f.set d v) (tm.setIfInBounds d u) w:=by
 have hnb:∀cs,f.get d≠ .box cs:=fun cs e=>hb (hf.bty d cs e)
 have hvb:∀cs,v≠ .box cs:=fun cs e=>by subst e;simp[Eng.loc]at hl
 refine⟨by simp[hf.nt],fun s=> ?_,fun s cs hs=> ?_,fun s t cs ds hst hs ht=> ?_,fun s cs hs=> ?_,fun s r o hs=> ?_⟩
 ·rw[Fr.bp,De _ _ _ _ _ hd]
  by_cases e:s=d
  ·rw[if_pos e,if_pos e];subst e;exact hv
  ·rw[if_neg e,if_neg e];exact hf.slots s
 ·rw[Fr.bp]at hs
  by_cases e:s=d
  ·rw[if_pos e,hl]at hs;cases hs
  ·rw[if_neg e]at hs;exact hf.loc s cs hs
 ·rw[Fr.bp]at hs ht
  by_cases e:s=d
  ·rw[if_pos e]at hs;exact absurd hs (hvb cs)
  ·rw[if_neg e]at hs
   by_cases e':t=d
   ·rw[if_pos e',hl]at ht;cases ht
   ·rw[if_neg e']at ht;exact hf.bsep s t cs ds hst hs ht
 ·rw[Fr.bp]at hs
  by_cases e:s=d
  ·rw[if_pos e]at hs;exact absurd hs (hvb cs)
  ·rw[if_neg e]at hs;exact hf.bty s cs hs
 ·rw[Fr.bp]at hs
  have key:X.I.env.lookup s=some r∧∃cs,f.get r= .box cs:=by
   by_cases e:s=d
   ·rw[if_pos e]at hs;subst e;exact hr r o hs
   ·rw[if_neg e]at hs;exact hf.rty s r o hs
  obtain⟨k1,cs,k2⟩:=key
  refine⟨k1,cs,?_⟩
  have hne:r≠d:=fun e=>by subst e;exact hnb cs k2
  rw[Fr.eH _ _ hne]
  exact k2
theorem cO.put (hi:cO X μ L f tm h w) {d:Nat} {u:Value} {v:V} (hd:d < tm.size) (hb:X.I.env.lookup d≠some d) (hv:HJ μ L d u v) (hl:loc v=none)
 (hr:∀r o,v= .lref r o→X.I.env.lookup d=some r∧∃cs,f.get r= .box cs):cO X μ L (f.set d v) (tm.setIfInBounds d u) h w:=
 ⟨hi.hp,hi.fp.put hd hb hv hl hr,fun s cs id p ty ds hs=>by
   rw[Fr.bp]at hs
   by_cases e:s=d
   ·rw[if_pos e,hl]at hs;cases hs
   ·rw[if_neg e]at hs;exact hi.sep s cs id p ty ds hs⟩
theorem cO.Er (hi:cO X μ L f tm h w) {d:Nat} {u:Value} {g:Bool} {cs:List C} (hd:d < tm.size) (hb:X.I.env.lookup d≠some d) (hv:VG μ g cs u):cO X μ L (f.set d (.val g cs)) (tm.setIfInBounds d u) h w:=
 hi.put hd hb hv rfl (fun r o e=>by cases e)
theorem cO.IM (hi:cO X μ L f tm h w) {d:Nat} (u:Value) (hd:d < tm.size) (hb:X.I.env.lookup d≠some d):cO X μ L (f.set d .any) (tm.setIfInBounds d u) h w:=
 hi.put hd hb trivial rfl (fun r o e=>by cases e)
theorem HS (w:World) (o:Obj) {k:Nat} (hk:k < w.heap.size):(w.alloc o).heap[k]? =w.heap[k]? :=by
 show(w.heap.push o)[k]? =_
 rw[Array.getElem?_push,if_neg (by omega)]
theorem Ad (w:World) (o:Obj):(w.alloc o).heap[w.heap.size]? =some o:=by
 show(w.heap.push o)[w.heap.size]? =_
 simp
theorem E3 (w:World) (o:Obj):(w.alloc o).heap.size=w.heap.size+1:=by
 show(w.heap.push o).size=_
 simp
theorem fA {w:World} {k:Nat} {o:Obj} (h:w.heap[k]? =some o):k < w.heap.size:=(Array.getElem?_eq_some_iff.1 h).1
structure jA (w w':World) (S:Nat→Prop):Prop where
 os:w'.os=w.os
 tape:w'.tape=w.tape
 out:w'.output=w.output
 size:w.heap.size≤w'.heap.size
 same:∀k,k < w.heap.size→¬S k→w'.heap[k]? =w.heap[k]?
theorem jA.refl (w:World) (S:Nat→Prop):jA w w S:=⟨rfl,rfl,rfl,Nat.le_refl _,fun _ _ _=>rfl⟩
theorem jA.alloc (w:World) (o:Obj) (S:Nat→Prop):jA w (w.alloc o) S:=⟨rfl,rfl,rfl,by rw[E3];omega,fun k hk _=>HS w o hk⟩
theorem jA.drew (w:World) (S:Nat→Prop):jA w w.drew S:=⟨rfl,rfl,rfl,Nat.le_refl _,fun _ _ _=>rfl⟩
theorem jA.trans {w1 w2 w3:World} {S:Nat→Prop} (h:jA w1 w2 S) (h':jA w2 w3 S):jA w1 w3 S:=
 ⟨h'.os.trans h.os,h'.tape.trans h.tape,h'.out.trans h.out,Nat.le_trans h.size h'.size,fun k hk hs=>(h'.same k (Nat.lt_of_lt_of_le hk h.size) hs).trans (h.same k hk hs)⟩
theorem Ax {w w':World} {a:Addr} (h:w'.heap[a.block]? =w.heap[a.block]?):w'.cell? a=w.cell? a:=by simp[World.cell?,h]
theorem HP.world (hh:HP X μ h w) {S:Nat→Prop} (ho:jA w w' S) (hs:∀k,S k→X.w0.heap.size≤k∧∀id p ty cs,μ id=some p→h[id]? =some (.own ty cs)→p.fO≠k):HP X μ h w' where
 hos:=ho.os.trans hh.hos
 htape:=ho.tape.trans hh.htape
 hout:=ho.out.trans hh.hout
 hsz:=Nat.le_trans hh.hsz ho.size
 hb:=hh.hb
 fN k hk hB:=(ho.same k (Nat.lt_of_lt_of_le hk hh.hsz) (fun e=>by have:=(hs k e).1;omega)).trans (hh.fN k hk hB)
 dom:=hh.dom
 own id p ty cs h1 h2:=by
  obtain⟨a,b,arr,c,d,rest,e⟩:=hh.own id p ty cs h1 h2
  exact⟨a,b,arr,(ho.same _ (fA c) (fun e'=>(hs _ e').2 id p ty cs h1 h2 rfl)).trans c,d,rest,e⟩
 ro id p cs h1 h2:=by
  obtain⟨a,b⟩:=hh.ro id p cs h1 h2
  refine⟨a,fun i c hc=> ?_⟩
  obtain⟨u,hu,hr⟩:=b i c hc
  refine⟨u,?_,hr⟩
  rw[Ax (w:=w),hu]
  refine ho.same _ ?_ (fun e=> ?_)
  ·have:=hh.hb;have:=hh.hsz;show p.fO < _;omega
  ·have:=(hs _ e).1;have h2:=hh.hb;dsimp only at this;omega
 ex:=hh.ex
 ownb:=hh.ownb
 rob:=hh.rob
theorem cO.jG (hi:cO X μ L f tm h w) (ho:jA w w' (fun _=>False)):cO X μ L f tm h w':=
 ⟨hi.hp.world ho (fun _ e=>e.elim),hi.fp.world (cf.refl _) (fun s cs hs=>by
   obtain⟨_,ty,arr,h1,_⟩:=hi.fp.loc s cs hs
   exact ho.same _ (fA h1) id),hi.sep⟩
theorem cO.Fe (hi:cO X μ L f tm h w) {d:Nat} {v:V} {cs:List C} {arr:Array Value} {ty:Nat} {u:Value} (hd:d < tm.size) (hnb:∀ds,f.get d≠ .box ds) (hty:(∃ds,v= .box ds)→X.I.env.lookup d=some d) (hl:loc v=some cs)
 (hv:∀L',L' d=w.heap.size→HJ μ L' d u v) (hc:ah (CR μ) cs arr.toList):
 cO X μ (fun s=>if s=d then w.heap.size else L s) (f.set d v) (tm.setIfInBounds d u) h (w.alloc (.cells arr ty (0,0))):=by
 have ho:=jA.alloc w (.cells arr ty (0,0)) (fun _=>False)
 have hi':=hi.jG ho
 have hvr:∀r o,v≠ .lref r o:=fun r o e=>by subst e;simp[loc]at hl
 have hold:∀s ds,loc (f.get s)=some ds→L s < w.heap.size:=fun s ds hs=>by
  obtain⟨_,ty,arr,h1,_⟩:=hi.fp.loc s ds hs
  exact fA h1
 refine⟨hi'.hp,⟨by simp[hi.fp.nt],fun s=> ?_,fun s ds hs=> ?_,fun s t ds es hst hs ht=> ?_,fun s ds hs=> ?_,fun s r o hs=> ?_⟩,fun s ds id p ty' es hs h1 h2=> ?_⟩
 ·rw[Fr.bp,De _ _ _ _ _ hd]
  by_cases e:s=d
  ·rw[if_pos e,if_pos e];subst e;exact hv _ (if_pos rfl)
  ·rw[if_neg e,if_neg e]
   have:=hi.fp.slots s
   revert this
   cases hg:f.get s with
   |any=>exact fun _=>trivial
   |val g cs=>exact id
   |tup vs=>exact id
   |box cs=>intro k;simp only[HJ,if_neg e]at *;exact k
   |lsl cs n e2=>intro k;simp only[HJ,if_neg e]at *;exact k
   |lref r o=>
    intro k
    obtain⟨_,ds,k2⟩:=hi.fp.rty s r o hg
    have:r≠d:=fun e=>by subst e;exact hnb ds k2
    simp only[HJ,if_neg this]at *
    exact k
 ·rw[Fr.bp]at hs
  by_cases e:s=d
  ·rw[if_pos e,hl]at hs
   cases hs
   simp only[if_pos e]
   exact⟨hi.hp.hsz,ty,arr,Ad w _,hc⟩
  ·rw[if_neg e]at hs
   simp only[if_neg e]
   exact hi'.fp.loc s ds hs
 ·rw[Fr.bp]at hs ht
  by_cases e:s=d
  ·have e':t≠d:=fun e'=>hst (e.trans e'.symm)
   rw[if_neg e']at ht
   simp only[if_pos e,if_neg e']
   have:=hold t es ht
   omega
  ·rw[if_neg e]at hs
   simp only[if_neg e]
   by_cases e':t=d
   ·simp only[if_pos e']
    have:=hold s ds (by rw[hs];rfl)
    omega
   ·rw[if_neg e']at ht
    simp only[if_neg e']
    exact hi.fp.bsep s t ds es hst hs ht
 ·rw[Fr.bp]at hs
  by_cases e:s=d
  ·rw[if_pos e]at hs;subst e;exact hty ⟨ds,hs⟩
  ·rw[if_neg e]at hs;exact hi.fp.bty s ds hs
 ·rw[Fr.bp]at hs
  by_cases e:s=d
  ·rw[if_pos e]at hs;exact absurd hs (hvr r o)
  ·rw[if_neg e]at hs
   obtain⟨k1,ds,k2⟩:=hi.fp.rty s r o hs
   refine⟨k1,ds,?_⟩
   have hne:r≠d:=fun e=>by subst e;exact hnb ds k2
   rw[Fr.eH _ _ hne]
   exact k2
 ·rw[Fr.bp]at hs
  obtain⟨_,_,arr2,h3,_⟩:=hi.hp.own id p ty' es h1 h2
  have h4:=fA h3
  by_cases e:s=d
  ·simp only[if_pos e];omega
  ·rw[if_neg e]at hs
   simp only[if_neg e]
   exact hi.sep s ds id p ty' es hs h1 h2
theorem cO.Mk (hi:cO X μ L f tm h w) {cs:List C} {arr:Array Value} {ty:Nat} {rest:List Value} (hc:ah (CR μ) cs (arr.toList.take cs.length)) (hr:arr.toList=arr.toList.take cs.length++rest):
 cO X (fun id=>if id=h.length then some ⟨w.heap.size,0,arr.size⟩else μ id) L f tm (h++ [.own ty cs]) (w.alloc (.cells arr ty (0,0)))∧cf μ (fun id=>if id=h.length then some ⟨w.heap.size,0,arr.size⟩else μ id):=by
 have hm:cf μ (fun id=>if id=h.length then some ⟨w.heap.size,0,arr.size⟩else μ id):=fun id p e=>by
  have:=hi.hp.dom id p e
  simp only[if_neg (show id≠h.length by omega)]
  exact e
 have hi':=hi.jG (jA.alloc w (.cells arr ty (0,0)) (fun _=>False))
 have hg:∀id,id≠h.length→(h++ [tO.own ty cs])[id]? =h[id]? ∨(h++ [tO.own ty cs])[id]? =none:=fun id e=>by
  by_cases hlt:id < h.length
  ·left;rw[List.getElem?_append_left hlt]
  ·right;rw[List.getElem?_eq_none];simp;omega
 have hgn:(h++ [tO.own ty cs])[h.length]? =some (.own ty cs):=by simp
 have hlt:∀id p ty cs,μ id=some p→h[id]? =some (.own ty cs)→p.fO < w.heap.size:=fun id p ty cs h1 h2=>by
  obtain⟨_,_,arr,h3,_⟩:=hi.hp.own id p ty cs h1 h2
  exact fA h3
 refine⟨⟨⟨hi'.hp.hos,hi'.hp.htape,hi'.hp.hout,hi'.hp.hsz,hi'.hp.hb,hi'.hp.fN,?_,?_,?_,?_,?_,hi'.hp.rob⟩,hi'.fp.world hm (fun _ _ _=>rfl),?_⟩,hm⟩
 ·intro id p e
  by_cases e1:id=h.length
  ·simp[e1]
  ·simp only[if_neg e1]at e;have:=hi.hp.dom id p e;simp;omega
 ·intro id p ty' cs' e1 e2
  by_cases e:id=h.length
  ·subst e
   simp only[if_pos]at e1
   rw[hgn]at e2
   cases e1;cases e2
   exact⟨rfl,Nat.le_trans hi.hp.hb hi.hp.hsz,arr,Ad w _,rfl,rest,hc.imp fun _ _=>CR.mono hm,hr⟩
  ·simp only[if_neg e]at e1
   rcases hg id e with k|k
   ·rw[k]at e2
    obtain⟨a,b,arr2,c,d,rest2,q,q2⟩:=hi'.hp.own id p ty' cs' e1 e2
    exact⟨a,b,arr2,c,d,rest2,q.imp fun _ _=>CR.mono hm,q2⟩
   ·rw[k]at e2;cases e2
 ·intro id p cs' e1 e2
  by_cases e:id=h.length
  ·subst e;rw[hgn]at e2;cases e2
  ·simp only[if_neg e]at e1
   rcases hg id e with k|k
   ·rw[k]at e2
    obtain⟨a,b⟩:=hi'.hp.ro id p cs' e1 e2
    exact⟨a,fun i c hc=>let ⟨u,hu,hr⟩:=b i c hc;⟨u,hu,hr.mono hm⟩⟩
   ·rw[k]at e2;cases e2
 ·intro id id' p p' t t' c c' hne e1 e2 e3 e4
  by_cases e:id=h.length
  ·have e':id'≠h.length:=fun k=>hne (e.trans k.symm)
   simp only[if_pos e]at e1;simp only[if_neg e']at e2
   cases e1
   rcases hg id' e' with k|k
   ·rw[k]at e4;have:=hlt _ _ _ _ e2 e4;show w.heap.size≠p'.fO;omega
   ·rw[k]at e4;cases e4
  ·simp only[if_neg e]at e1
   rcases hg id e with k|k
   ·rw[k]at e3
    by_cases e':id'=h.length
    ·simp only[if_pos e']at e2;cases e2
     have:=hlt _ _ _ _ e1 e3;show p.fO≠w.heap.size;omega
    ·simp only[if_neg e']at e2
     rcases hg id' e' with k'|k'
     ·rw[k']at e4;exact hi.hp.ex id id' p p' t t' c c' hne e1 e2 e3 e4
     ·rw[k']at e4;cases e4
   ·rw[k]at e3;cases e3
 ·intro id p t c e1 e2
  by_cases e:id=h.length
  ·simp only[if_pos e]at e1;cases e1;exact .inr hi.hp.hsz
  ·simp only[if_neg e]at e1
   rcases hg id e with k|k
   ·rw[k]at e2;exact hi.hp.ownb id p t c e1 e2
   ·rw[k]at e2;cases e2
 ·intro s cs' id p t c hs e1 e2
  by_cases e:id=h.length
  ·simp only[if_pos e]at e1;cases e1
   obtain⟨_,ty2,arr2,h3,_⟩:=hi.fp.loc s cs' hs
   have:=fA h3
   show w.heap.size≠L s
   omega
  ·simp only[if_neg e]at e1
   rcases hg id e with k|k
   ·rw[k]at e2;exact hi.sep s cs' id p t c hs e1 e2
   ·rw[k]at e2;cases e2
theorem jA.setRow (w:World) (g:Nat) (cs:Array Value):jA w (w.setRow g cs) (fun k=>k=g):=⟨rfl,rfl,rfl,by simp,fun k _ hk=>setRow_other w g k cs hk⟩
theorem cO.NT (hi:cO X μ L f tm h w) {r ty:Nat} {cs cs':List C} {arr arr':Array Value} (hr:f.get r= .box cs) (ha:w.heap[L r]? =some (.cells arr ty (0,0))) (hc:ah (CR μ) cs' arr'.toList):
 cO X μ L (f.set r (.box cs')) tm h (w.setRow (L r) arr'):=by
 have hlr:loc (f.get r)=some cs:=by rw[hr];rfl
 have ho:=jA.setRow w (L r) arr'
 have h0:=(hi.fp.loc r cs hlr).1
 have hgne:∀s,s≠r→Fr.get (f.set r (.box cs')) s=f.get s:=fun s e=>Fr.eH _ _ e
 have hgr:Fr.get (f.set r (.box cs')) r= .box cs':=Fr.bB _ _ _
 refine⟨hi.hp.world ho (fun k e=>⟨e▸h0,fun id p ty cs2 h1 h2=>e▸hi.sep r cs id p ty cs2 hlr h1 h2⟩),⟨hi.fp.nt,fun s=> ?_,fun s ds hs=> ?_,fun s t ds es hst hs ht=> ?_,fun s ds hs=> ?_,fun s q o hs=> ?_⟩,fun s ds id p ty' es hs h1 h2=> ?_⟩
 ·by_cases e:s=r
  ·subst e;rw[hgr];have:=hi.fp.slots s;rw[hr]at this;exact this
  ·rw[hgne s e];exact hi.fp.slots s
 ·by_cases e:s=r
  ·subst e
   rw[hgr]at hs
   cases hs
   exact⟨h0,ty,arr',setRow_heap w _ _ _ _ _ ha,hc⟩
  ·rw[hgne s e]at hs
   obtain⟨k0,ty2,arr2,k1,k2⟩:=hi.fp.loc s ds hs
   exact⟨k0,ty2,arr2,(setRow_other w _ _ _ (hi.fp.bsep r s cs ds (Ne.symm e) hr hs)).trans k1,k2⟩
 ·by_cases e:s=r
  ·subst e
   rw[hgne t (Ne.symm hst)]at ht
   exact hi.fp.bsep s t cs es hst hr ht
  ·rw[hgne s e]at hs
   by_cases e':t=r
   ·subst e';exact hi.fp.bsep s t ds cs hst hs hlr
   ·rw[hgne t e']at ht;exact hi.fp.bsep s t ds es hst hs ht
 ·by_cases e:s=r
  ·subst e;exact hi.fp.bty s cs hr
  ·rw[hgne s e]at hs;exact hi.fp.bty s ds hs
 ·have e:s≠r:=fun e=>by subst e;rw[hgr]at hs;cases hs
  rw[hgne s e]at hs
  obtain⟨k1,ds,k2⟩:=hi.fp.rty s q o hs
  by_cases e':q=r
  ·subst e';exact⟨k1,cs',hgr⟩
  ·exact⟨k1,ds,by rw[hgne q e'];exact k2⟩
 ·by_cases e:s=r
  ·subst e;exact hi.sep s cs id p ty' es hlr h1 h2
  ·rw[hgne s e]at hs;exact hi.sep s ds id p ty' es hs h1 h2
theorem gQ {h:H} {id:Nat} {b:tO} (hlt:id < h.length):(h.set id b)[id]? =some b:=by simp[hlt]
theorem cj {h:H} {id j:Nat} {b:tO} (hne:j≠id):(h.set id b)[j]? =h[j]? :=by rw[List.getElem?_set];rw[if_neg (Ne.symm hne)]
theorem cO.E8 (hi:cO X μ L f tm h w) {id ty:Nat} {p:Pl} {cs cs':List C} {arr arr':Array Value} {rest:List Value} (hm:μ id=some p) (hg:h[id]? =some (.own ty cs)) (ha:w.heap[p.fO]? =some (.cells arr ty (0,0)))
 (hsz:arr'.size=arr.size) (hc:ah (CR μ) cs' (arr'.toList.take cs'.length)) (hr:arr'.toList=arr'.toList.take cs'.length++rest):cO X μ L f tm (h.set id (.own ty cs')) (w.setRow p.fO arr'):=by
 have hlt:id < h.length:=hi.hp.dom id p hm
 have ho:=jA.setRow w p.fO arr'
 have hne:∀j q t c,j≠id→μ j=some q→(h.set id (.own ty cs'))[j]? =some (.own t c)→q.fO≠p.fO:=fun j q t c e h1 h2=>by
  rw[cj e]at h2
  exact hi.hp.ex j id q p t ty c cs e h1 hm h2 hg
 have hpb:X.base≤p.fO:=(hi.hp.own id p ty cs hm hg).2.1
 have hh:=hi.hp
 refine⟨⟨hh.hos,hh.htape,hh.hout,by simpa using hh.hsz,hh.hb,fun k hk hB=> ?_,fun j q h1=>by simpa using hh.dom j q h1,fun j q t c h1 h2=> ?_,fun j q c h1 h2=> ?_,fun j j' q q' t t' c c' e h1 h2 h3 h4=> ?_,fun j q t c h1 h2=> ?_,hh.rob⟩,?_,?_⟩
 ·have:k≠p.fO:=fun e=>by
   rcases hh.ownb id p ty cs hm hg with k1|k1
   ·exact hB (e▸k1)
   ·omega
  exact(setRow_other w _ _ _ this).trans (hh.fN k hk hB)
 ·by_cases e:j=id
  ·subst e
   rw[gQ hlt]at h2
   rw[hm]at h1
   cases h1;cases h2
   obtain⟨a,b,arr2,c2,d,_⟩:=hh.own j p ty cs hm hg
   rw[ha]at c2
   cases c2
   exact⟨a,b,arr',setRow_heap w _ _ _ _ _ ha,hsz.trans d,rest,hc,hr⟩
  ·have k:=hne j q t c e h1 h2
   rw[cj e]at h2
   obtain⟨a,b,arr2,c2,d⟩:=hh.own j q t c h1 h2
   exact⟨a,b,arr2,(setRow_other w _ _ _ k).trans c2,d⟩
 ·by_cases e:j=id
  ·subst e;rw[gQ hlt]at h2;cases h2
  ·rw[cj e]at h2
   obtain⟨a,b⟩:=hh.ro j q c h1 h2
   refine⟨a,fun i x hx=> ?_⟩
   obtain⟨u,hu,hr⟩:=b i x hx
   exact⟨u,(Ax (a:=⟨q.fO,q.off+i,none⟩) (setRow_other w _ _ _ (by show q.fO≠p.fO;omega))).trans hu,hr⟩
 ·by_cases e1:j=id
  ·subst e1
   have e2:j'≠j:=Ne.symm e
   have:=hne j' q' t' c' e2 h2 h4
   rw[hm]at h1;cases h1
   exact Ne.symm this
  ·by_cases e2:j'=id
   ·subst e2
    have:=hne j q t c e1 h1 h3
    rw[hm]at h2;cases h2
    exact this
   ·rw[cj e1]at h3;rw[cj e2]at h4
    exact hh.ex j j' q q' t t' c c' e h1 h2 h3 h4
 ·by_cases e:j=id
  ·subst e;rw[hm]at h1;cases h1;exact hh.ownb j p ty cs hm hg
  ·rw[cj e]at h2;exact hh.ownb j q t c h1 h2
 ·exact hi.fp.world (cf.refl _) (fun s ds hs=>setRow_other w _ _ _ (fun e=>hi.sep s ds id p ty cs hs hm hg e.symm))
 ·intro s ds j q t c hs h1 h2
  by_cases e:j=id
  ·subst e;rw[hm]at h1;cases h1;exact hi.sep s ds j p ty cs hs hm hg
  ·rw[cj e]at h2;exact hi.sep s ds j q t c hs h1 h2
theorem cO.kill (hi:cO X μ L f tm h w) (id:Nat):cO X μ L f tm (h.set id .dead) w:=by
 have hh:=hi.hp
 have hold:∀ {j:Nat} {b:tO},(h.set id .dead)[j]? =some b→b≠ .dead→h[j]? =some b:=fun {j b} e hb=>by
  by_cases e1:j=id
  ·subst e1
   by_cases hlt:j < h.length
   ·rw[gQ hlt]at e;cases e;exact absurd rfl hb
   ·rw[List.getElem?_eq_none (by simp;omega)]at e;cases e
  ·rwa [cj e1]at e
 exact⟨⟨hh.hos,hh.htape,hh.hout,hh.hsz,hh.hb,hh.fN,fun j q h1=>by simpa using hh.dom j q h1,fun j q t c h1 h2=>hh.own j q t c h1 (hold h2 (by simp)),fun j q c h1 h2=>hh.ro j q c h1 (hold h2 (by simp)),
  fun j j' q q' t t' c c' e h1 h2 h3 h4=>hh.ex j j' q q' t t' c c' e h1 h2 (hold h3 (by simp)) (hold h4 (by simp)),fun j q t c h1 h2=>hh.ownb j q t c h1 (hold h2 (by simp)),hh.rob⟩,hi.fp,fun s ds j q t c hs h1 h2=>hi.sep s ds j q t c hs h1 (hold h2 (by simp))⟩
theorem cO.rename (hi:cO X μ L f tm h w) {id ty:Nat} {p:Pl} {cs:List C} (hm:μ id=some p) (hg:h[id]? =some (.own ty cs)):
 cO X (fun j=>if j=h.length then some p else μ j) L f tm ((h.set id .dead)++ [.own ty cs]) w∧cf μ (fun j=>if j=h.length then some p else μ j):=by
 have hh:=hi.hp
 have hlt:id < h.length:=hh.dom id p hm
 have hml:cf μ (fun j=>if j=h.length then some p else μ j):=fun j q e=>by
  have:=hh.dom j q e
  simp only[if_neg (show j≠h.length by omega)]
  exact e
 have hnew:((h.set id .dead)++ [tO.own ty cs])[h.length]? =some (.own ty cs):=by
  rw[List.getElem?_append_right (by simp)];simp
 have hold:∀ {j:Nat} {b:tO},j≠h.length→((h.set id .dead)++ [tO.own ty cs])[j]? =some b→b≠ .dead→h[j]? =some b∧j≠id:=fun {j b} e0 e hb=>by
  by_cases hl:j < h.length
  ·rw[List.getElem?_append_left (by simpa using hl)]at e
   by_cases e1:j=id
   ·subst e1;rw[gQ hlt]at e;cases e;exact absurd rfl hb
   ·rw[cj e1]at e;exact⟨e,e1⟩
  ·rw[List.getElem?_eq_none (by simp;omega)]at e;cases e
 refine⟨⟨⟨hh.hos,hh.htape,hh.hout,hh.hsz,hh.hb,hh.fN,fun j q h1=> ?_,fun j q t c h1 h2=> ?_,fun j q c h1 h2=> ?_,fun j j' q q' t t' c c' e h1 h2 h3 h4=> ?_,fun j q t c h1 h2=> ?_,hh.rob⟩,hi.fp.world hml (fun _ _ _=>rfl),fun s ds j q t c hs h1 h2=> ?_⟩,hml⟩
 ·by_cases e:j=h.length
  ·simp[e]
  ·simp only[if_neg e]at h1;have:=hh.dom j q h1;simp;omega
 ·by_cases e:j=h.length
  ·subst e
   rw[hnew]at h2
   simp only[if_pos]at h1
   cases h1;cases h2
   obtain⟨a,b,arr,c1,d,rest,r1,r2⟩:=hh.own id p ty cs hm hg
   exact⟨a,b,arr,c1,d,rest,r1.imp fun _ _=>CR.mono hml,r2⟩
  ·simp only[if_neg e]at h1
   obtain⟨k,_⟩:=hold e h2 (by simp)
   obtain⟨a,b,arr,c1,d,rest,r1,r2⟩:=hh.own j q t c h1 k
   exact⟨a,b,arr,c1,d,rest,r1.imp fun _ _=>CR.mono hml,r2⟩
 ·by_cases e:j=h.length
  ·subst e;rw[hnew]at h2;cases h2
  ·simp only[if_neg e]at h1
   obtain⟨k,_⟩:=hold e h2 (by simp)
   obtain⟨a,b⟩:=hh.ro j q c h1 k
   exact⟨a,fun i x hx=>let ⟨u,hu,hr⟩:=b i x hx;⟨u,hu,hr.mono hml⟩⟩
 ·by_cases e1:j=h.length
  ·have e2:j'≠h.length:=fun k=>e (e1.trans k.symm)
   simp only[if_pos e1]at h1;simp only[if_neg e2]at h2
   cases h1
   obtain⟨k,k2⟩:=hold e2 h4 (by simp)
   exact hh.ex id j' p q' ty t' cs c' (Ne.symm k2) hm h2 hg k
  ·simp only[if_neg e1]at h1
   obtain⟨k,k2⟩:=hold e1 h3 (by simp)
   by_cases e2:j'=h.length
   ·simp only[if_pos e2]at h2
    cases h2
    exact hh.ex j id q p t ty c cs k2 h1 hm k hg
   ·simp only[if_neg e2]at h2
    obtain⟨k',_⟩:=hold e2 h4 (by simp)
    exact hh.ex j j' q q' t t' c c' e h1 h2 k k'
 ·by_cases e:j=h.length
  ·simp only[if_pos e]at h1;cases h1;exact hh.ownb id p ty cs hm hg
  ·simp only[if_neg e]at h1
   exact hh.ownb j q t c h1 (hold e h2 (by simp)).1
 ·by_cases e:j=h.length
  ·simp only[if_pos e]at h1;cases h1;exact hi.sep s ds id p ty cs hs hm hg
  ·simp only[if_neg e]at h1
   exact hi.sep s ds j q t c hs h1 (hold e h2 (by simp)).1
end
end Go.Eng
namespace Go.Eng
section
variable {T:Ctx} {μ μ':Mu} {L:Nat→Nat} {f f':Fr} {h h':H} {w w':World} {act:Act}
theorem M1 (μ:Mu) (L:Nat→Nat) {v:Value} {u:V} (hv:Pq v=some u):(∃g cs,u= .val g cs∧VG μ g cs v)∨u= .any:=by
 unfold Pq at hv
 split at hv
 ·rename_i a
  cases h1:Cn a.toList with
  |none=>simp[h1]at hv
  |some cs=>simp[h1]at hv;exact .inl ⟨true,cs,hv.symm,a,rfl,Cc μ h1⟩
 ·simp at hv;exact .inr hv.symm
 ·cases h1:Ou v with
  |none=>simp[h1]at hv
  |some c=>simp[h1]at hv;exact .inl ⟨false,[c],hv.symm,c,rfl,JK μ h1⟩
theorem DS (hf:FP T μ L f act.tmps w) {x:Operand} {y:X} (hx:cX x=some y):
 (∀g cs,ev f y= .val g cs→VG μ g cs (act.eval x))∧(∀vs,ev f y= .tup vs→TG μ vs (act.eval x))∧
 (∀r o,ev f y= .lref r o→act.eval x= .pointer (some ⟨L r,o,none⟩)∧T.I.root x=some r∧∃cs,f.get r= .box cs):=by
 cases x with
 |tmp t=>
  simp[cX]at hx
  subst hx
  have hs:=hf.slots t
  have he:act.eval (.tmp t)=act.tmps.getD t undef:=rfl
  rw[he]
  simp only[ev]
  cases hg:f.get t with
  |any=>exact⟨fun _ _ e=>by simp at e,fun _ e=>by simp at e,fun _ _ e=>by simp at e⟩
  |val g cs=>rw[hg]at hs;exact⟨fun _ _ e=>by simp at e;obtain⟨rfl,rfl⟩:=e;exact hs,fun _ e=>by simp at e,fun _ _ e=>by simp at e⟩
  |tup vs=>rw[hg]at hs;exact⟨fun _ _ e=>by simp at e,fun _ e=>by simp at e;subst e;exact hs,fun _ _ e=>by simp at e⟩
  |box cs=>
   rw[hg]at hs
   exact⟨fun _ _ e=>by simp at e,fun _ e=>by simp at e,fun r o e=>by simp at e;obtain⟨rfl,rfl⟩:=e;exact⟨hs,hf.bty t cs hg,cs,hg⟩⟩
  |lsl cs n e=>exact⟨fun _ _ e=>by simp at e,fun _ e=>by simp at e,fun _ _ e=>by simp at e⟩
  |lref r o=>
   rw[hg]at hs
   exact⟨fun _ _ e=>by simp at e,fun _ e=>by simp at e,fun r' o' e=>by simp at e;obtain⟨rfl,rfl⟩:=e;exact⟨hs,hf.rty t r o hg⟩⟩
 |const v=>
  cases hv:Pq v with
  |none=>simp[cX,hv]at hx
  |some u=>
   simp[cX,hv]at hx
   subst hx
   simp only[ev]
   rcases M1 μ L hv with⟨g,cs,rfl,hg⟩|rfl
   ·exact⟨fun _ _ e=>by simp at e;obtain⟨rfl,rfl⟩:=e;exact hg,fun _ e=>by simp at e,fun _ _ e=>by simp at e⟩
   ·exact⟨fun _ _ e=>by simp at e,fun _ e=>by simp at e,fun _ _ e=>by simp at e⟩
 |func g=>
  simp[cX]at hx
  subst hx
  simp only[ev]
  exact⟨fun _ _ e=>by simp at e;obtain⟨rfl,rfl⟩:=e;exact⟨.fn g,rfl,rfl⟩,fun _ e=>by simp at e,fun _ _ e=>by simp at e⟩
 |global g=>simp[cX]at hx
theorem Nt {y:X} {g:Bool} {cs:List C} (he:pR f y=some (g,cs)):ev f y= .val g cs:=by
 unfold pR at he
 split at he
 ·rename_i g' cs' e;simp at he;obtain⟨rfl,rfl⟩:=he;exact e
 ·simp at he
theorem N0 {y:X} {c:C} (he:dt f y=some c):ev f y= .val false [c]:=by
 unfold dt at he
 split at he
 ·rename_i c' e;simp at he;subst he;exact e
 ·simp at he
theorem gx (hf:FP T μ L f act.tmps w) {x:Operand} {y:X} (hx:cX x=some y) {g:Bool} {cs:List C} (he:pR f y=some (g,cs)):VG μ g cs (act.eval x):=(DS hf hx).1 g cs (Nt he)
theorem bb (hf:FP T μ L f act.tmps w) {x:Operand} {y:X} (hx:cX x=some y) {c:C} (he:dt f y=some c):CR μ c (act.eval x):=by
 obtain⟨c',h1,h2⟩:=(DS hf hx).1 false [c] (N0 he)
 simp at h1
 subst h1
 exact h2
theorem tj (hf:FP T μ L f act.tmps w) {x:Operand} {y:X} (hx:cX x=some y) {r o:Nat} (he:ev f y= .lref r o):act.eval x= .pointer (some ⟨L r,o,none⟩)∧T.I.root x=some r∧∃cs,f.get r= .box cs:=(DS hf hx).2.2 r o he
theorem wG {P:Program} {t:TypeId} {g:Bool} (ha:Eh P t=some g) (w:World):(isAgg t).run P w= .ok g w:=by
 unfold Eh at ha
 cases hu:P.underlying t with
 |none=>simp[hu]at ha
 |some d=>
  rw[hu]at ha
  cases d <;>simp at ha <;>subst ha <;>simp[isAgg,run_underlying hu]
theorem oU {P:Program} {t:TypeId} {n:Nat} {g:Bool} (hs:pD P t=some (n,g)):∃i,P.info? t=some i∧i.size=n∧Eh P t=some g∧(g=true∨n=1):=by
 unfold pD at hs
 cases h1:P.info? t with
 |none=>simp[h1]at hs
 |some i=>
  cases h2:Eh P t with
  |none=>simp[h1,h2]at hs
  |some g'=>
   simp only[h1,h2]at hs
   split at hs
   ·rename_i hg
    simp at hs
    obtain⟨rfl,rfl⟩:=hs
    exact⟨i,rfl,rfl,rfl,hg⟩
   ·simp at hs
theorem Bo {P:Program} {t:TypeId} {i:TypeInfo} (hi:P.info? t=some i) (w:World):(sizeOf t).run P w= .ok i.size w:=by simp[sizeOf,typeInfo,hi]
theorem od {P:Program} {t:TypeId} {n:Nat} {g:Bool} (hs:pD P t=some (n,g)) (w:World) (a:Addr) {us:List Value} {cs:List C} (hn:cs.length=n) (hc:ah (CR μ) cs us) (hu:∀j v,us[j]? =some v→w.cell? (a.add j)=some v):
 ∃v,(loadVar t a).run P w= .ok v w∧VG μ g cs v:=by
 obtain⟨i,h1,h2,h3,h4⟩:=oU hs
 have hl:us.length=n:=by rw[←hc.length];exact hn
 cases g with
 |true=>
  refine⟨.agg us.toArray,?_,us.toArray,rfl,by simpa using hc⟩
  have:=run_loadCells_list (P:=P) w a us hu
  rw[hl]at this
  simp[loadVar,wG h3,Bo h1,h2,this]
 |false=>
  have h5:n=1:=by rcases h4 with h|h;cases h;exact h
  subst h5
  match us,cs,hl,hn,hc with
  | [u],[c],_,_,hc=>
    refine⟨u,?_,c,rfl,hc.1⟩
    have h0:=hu 0 u rfl
    have:a.add 0=a:=by simp[Addr.add]
    rw[this]at h0
    simp[loadVar,wG h3,h0]
theorem fZ (b o j:Nat):(⟨b,o,none⟩:Addr).add j=⟨b,o+j,none⟩:=by unfold Addr.add;split <;>simp_all
theorem sc {w:World} {b i:Nat} {arr:Array Value} {ty:Nat} {fz:Nat×Nat} {v:Value} (hb:w.heap[b]? =some (.cells arr ty fz)) (hv:arr.toList[i]? =some v):w.cell? ⟨b,i,none⟩=some v:=by
 simp only[World.cell?,hb]
 simpa using hv
theorem tp {P:Program} {t:TypeId} {n:Nat} {g:Bool} (hs:pD P t=some (n,g)) (w:World) (b o ty:Nat) {arr:Array Value} {v:Value} (hb:w.heap[b]? =some (.cells arr ty (0,0))) (hn:v.cells.size=n) (hl:o+n≤arr.size) (h1:∀u∈v.cells.toList,u.oneCell'=true):
 (storeVar t ⟨b,o,none⟩ v).run P w= .ok () (w.setRow b (aR arr.toList o v.cells.toList).toArray):=by
 obtain⟨i,h2,h3,h4,h5⟩:=oU hs
 have hst:=run_storeCells_at P b o ty v.cells.toList 0 arr w hb (by simp[hn];omega) h1
 simp only[Nat.add_zero]at hst
 rw[du _ _ _ (by simp[hn];omega)]
 have:¬(v.cells.size≠n):=by simp[hn]
 simp[storeVar,Bo h2,h3,this,hst]
theorem iF {P:Program} {o:Oper} {K:Act→World→Prop} {Q:Exit→Act→World→Prop} {v:Value} (hr:(execOp act.eval o).run P w= .ok (.value v) w') (hk:K (act.put o.dst v) w'):o.wp P act w K Q:=by
 unfold Oper.wp;rw[hr];exact hk
theorem EH {P:Program} {o:Oper} {K:Act→World→Prop} {Q:Exit→Act→World→Prop} (hr:(execOp act.eval o).run P w= .ok .skip w') (hk:K (act.put o.dst undef) w'):o.wp P act w K Q:=by
 unfold Oper.wp;rw[hr];exact hk
def bR (T:Ctx) (μ:Mu) (act:Act) (f':Fr) (h':H) (K:Act→World→Prop):Prop:=
 ∀μ' L' act' w',cO T μ' L' f' act'.tmps h' w'→cf μ μ'→act'.defers=act.defers→K act' w'
theorem E7 {I:wJ} {a:AI} {d:Nat} (hd:kX I a (some d)=true):d < I.nt∧(a.boxes=true∨I.env.lookup d≠some d):=by
 simp only[kX,Bool.and_eq_true,decide_eq_true_eq,Bool.or_eq_true,bne_iff_ne]at hd
 exact hd
theorem au {I:wJ} {a:AI} {d:Nat} (hd:kX I a (some d)=true) (ha:a.boxes=false):d < I.nt∧I.env.lookup d≠some d:=by
 obtain⟨h1,h2⟩:=E7 hd
 exact⟨h1,h2.resolve_left (by simp[ha])⟩
section
variable {o:Oper} {K:Act→World→Prop} {Q:Exit→Act→World→Prop} {d:Nat}
theorem fin (hi:cO T μ L f act.tmps h w) (ho:o.dst=some d) (hd:d < T.I.nt∧T.I.env.lookup d≠some d) {v:Value} {g:Bool} {cs:List C} (hr:(execOp act.eval o).run T.P w= .ok (.value v) w) (hv:VG μ g cs v)
 (hk:bR T μ act (f.set d (.val g cs)) h K):o.wp T.P act w K Q:=by
 refine iF hr ?_
 rw[ho]
 exact hk μ L _ w (hi.Er (by rw[hi.fp.nt];exact hd.1) hd.2 hv) (cf.refl _) rfl
theorem gd (hi:cO T μ L f act.tmps h w) (ho:o.dst=some d) (hd:d < T.I.nt∧T.I.env.lookup d≠some d) {v:Value} {c:C} (hr:(execOp act.eval o).run T.P w= .ok (.value v) w) (hv:CR μ c v)
 (hk:bR T μ act (f.set d (.val false [c])) h K):o.wp T.P act w K Q:=fin (g:=false) (cs:= [c]) hi ho hd hr ⟨c,rfl,hv⟩ hk
theorem Iw (hi:cO T μ L f act.tmps h w) {x:Operand} {y:X} (hx:cX x=some y) (hh:T.I.hand d x=true) (ho:o.dst=some d) (hop:o.op= .move x∨o.op= .assign x) (hd:d < T.I.nt∧T.I.env.lookup d≠some d)
 (hr:ai (.mov d y) f h=some (f',h')) (hk:bR T μ act f' h' K):o.wp T.P act w K Q:=by
 have hrun:(execOp act.eval o).run T.P w= .ok (.value (act.eval x)) w:=by rcases hop with e|e <;>simp[execOp,e]
 have hdt:d < act.tmps.size:=by rw[hi.fp.nt];exact hd.1
 refine iF hrun ?_
 rw[ho]
 simp only[ai]at hr
 have hev:=DS hi.fp hx
 cases he:ev f y with
 |any=>simp[he]at hr;obtain⟨rfl,rfl⟩:=hr;exact hk μ L _ w (hi.IM _ hdt hd.2) (cf.refl _) rfl
 |val g cs=>simp[he]at hr;obtain⟨rfl,rfl⟩:=hr;exact hk μ L _ w (hi.Er hdt hd.2 (hev.1 g cs he)) (cf.refl _) rfl
 |tup vs=>simp[he]at hr;obtain⟨rfl,rfl⟩:=hr;exact hk μ L _ w (hi.put hdt hd.2 (hev.2.1 vs he) rfl (fun _ _ e=>by cases e)) (cf.refl _) rfl
 |box cs=>simp[he]at hr
 |lsl cs n e=>simp[he]at hr
 |lref r q=>
  simp[he]at hr
  obtain⟨rfl,rfl⟩:=hr
  obtain⟨h1,h2,h3⟩:=hev.2.2 r q he
  have h4:T.I.env.lookup d=some r:=by simpa[wJ.hand,h2]using hh
  exact hk μ L _ w (hi.put hdt hd.2 h1 rfl (fun r' o' e=>by cases e;exact⟨h4,h3⟩)) (cf.refl _) rfl
theorem Lz (hi:cO T μ L f act.tmps h w) {x a b:Operand} {y u v:X} (hx:cX x=some y) (ha:cX a=some u) (hb:cX b=some v) (ho:o.dst=some d) (hop:o.op= .pick x a b) (hd:d < T.I.nt∧T.I.env.lookup d≠some d)
 (hr:ai (.pick d y u v) f h=some (f',h')) (hk:bR T μ act f' h' K):o.wp T.P act w K Q:=by
 simp only[ai]at hr
 split at hr
 ·rename_i he
  have h1:=bb hi.fp hx he
  split at hr
  ·rename_i g cs h2
   simp at hr;obtain⟨rfl,rfl⟩:=hr
   exact fin hi ho hd (by simp[execOp,hop,CR]at *;simp[h1,asBool]) (gx hi.fp ha h2) hk
  ·simp at hr
 ·rename_i he
  have h1:=bb hi.fp hx he
  split at hr
  ·rename_i g cs h2
   simp at hr;obtain⟨rfl,rfl⟩:=hr
   exact fin hi ho hd (by simp[execOp,hop,CR]at *;simp[h1,asBool]) (gx hi.fp hb h2) hk
  ·simp at hr
 ·simp at hr
theorem eL {P:Program} {t:TypeId} {cs:List C} (hz:zeroOf P t=some cs) (μ:Mu):∃i z,P.info? t=some i∧i.zero=some z∧ah (CR μ) cs z.cells.toList∧cs.length=i.size:=by
 unfold zeroOf at hz
 cases h1:P.info? t with
 |none=>simp[h1]at hz
 |some i=>
  cases h2:i.zero with
  |none=>simp[h1,h2]at hz
  |some z=>
   cases h3:Cn z.cells.toList with
   |none=>simp[h1,h2,h3]at hz
   |some cs'=>
    simp[h1,h2,h3]at hz
    obtain⟨h4,rfl⟩:=hz
    exact⟨i,z,rfl,h2,Cc μ h3,h4⟩
theorem oX {α:Type} {l:List α} {n:Nat} (h:n=l.length):l.take n=l:=by subst h;simp
theorem oZ (hi:cO T μ L f act.tmps h w) (ho:o.dst=some d) (hd:d < T.I.nt∧T.I.env.lookup d≠some d) {v:Value} {c:C} {cs:List C} {arr:Array Value} {ty:Nat} {rest:List Value}
 (hr:(execOp act.eval o).run T.P w= .ok (.value v) (w.alloc (.cells arr ty (0,0)))) (hc:ah (CR μ) cs (arr.toList.take cs.length)) (hr2:arr.toList=arr.toList.take cs.length++rest)
 (hv:∀μ',μ' h.length=some ⟨w.heap.size,0,arr.size⟩→CR μ' c v) (hk:bR T μ act (f.set d (.val false [c])) (h++ [.own ty cs]) K):o.wp T.P act w K Q:=by
 obtain⟨h1,h2⟩:=hi.Mk (cs:=cs) (arr:=arr) (ty:=ty) hc hr2
 refine iF hr ?_
 rw[ho]
 exact hk _ L _ _ (h1.Er (by rw[h1.fp.nt];exact hd.1) hd.2 ⟨c,rfl,hv _ (by simp)⟩) h2 rfl
theorem Ic (hi:cO T μ L f act.tmps h w) {t:TypeId} {cs:List C} (hz:zeroOf T.P t=some cs) (ho:o.dst=some d) (hop:o.op= .alloc t) {a:AI}
 (ha:(if T.I.E.testBit d then some (AI.hal d t cs)else if T.I.env.lookup d==some d then some (AI.lal d cs)else none)=some a) (hdst:kX T.I a (some d)=true)
 (hr:ai a f h=some (f',h')) (hk:bR T μ act f' h' K):o.wp T.P act w K Q:=by
 obtain⟨i,z,h1,h2,h3,h4⟩:=eL hz μ
 have hrun:(execOp act.eval o).run T.P w= .ok (.value (.pointer (some ⟨w.heap.size,0,none⟩))) (w.alloc (.cells z.cells t (0,0))):=by
  simp[execOp,hop,Instr.alloc,zeroValue,typeInfo,h1,h2,newVar,newRow]
 split at ha
 ·simp at ha
  subst ha
  simp[ai]at hr
  obtain⟨rfl,rfl⟩:=hr
  have e:=oX h3.length
  exact oZ (c:= .ptr h.length 0) hi ho (au hdst rfl) hrun (by rw[e];exact h3) (by rw[e,List.append_nil]) (fun μ' hm=>⟨_,hm,rfl⟩) hk
 ·split at ha
  ·rename_i hl
   simp at ha
   subst ha
   simp only[ai]at hr
   have hd:=(E7 hdst).1
   have hnb:(∀ds,f.get d≠ .box ds)∧f'=f.set d (.box cs)∧h'=h:=by
    split at hr
    ·simp at hr
    ·rename_i hne;simp at hr;exact⟨hne,hr.1.symm,hr.2.symm⟩
   obtain⟨hnb,rfl,rfl⟩:=hnb
   refine iF hrun ?_
   rw[ho]
   exact hk μ _ _ _ (hi.Fe (v:= .box cs) (by rw[hi.fp.nt];exact hd) hnb (fun _=>by simpa using hl) rfl (fun L' hL=>by simp only[HJ,hL]) h3) (cf.refl _) rfl
  ·simp at ha
theorem N6 (hi:cO T μ L f act.tmps h w) {t:TypeId} {x:Operand} {y:X} (hx:cX x=some y) (ho:o.dst=some d) (hop:o.op= .box t x) {a:AI}
 (ha:(if T.I.E.testBit d then some (AI.hbox d t y)else if T.I.env.lookup d==some d then some (AI.lbox d y)else none)=some a) (hdst:kX T.I a (some d)=true)
 (hr:ai a f h=some (f',h')) (hk:bR T μ act f' h' K):o.wp T.P act w K Q:=by
 have hrun:(execOp act.eval o).run T.P w= .ok (.value (.pointer (some ⟨w.heap.size,0,none⟩))) (w.alloc (.cells (act.eval x).cells t (0,0))):=by
  simp[execOp,hop,Instr.box,newVar,newRow]
 split at ha
 ·simp at ha
  subst ha
  simp only[ai]at hr
  split at hr
  ·rename_i g cs he
   simp at hr
   obtain⟨rfl,rfl⟩:=hr
   have h3:=(gx hi.fp hx he).cells
   have e:=oX h3.length
   exact oZ (c:= .ptr h.length 0) hi ho (au hdst rfl) hrun (by rw[e];exact h3) (by rw[e,List.append_nil]) (fun μ' hm=>⟨_,hm,rfl⟩) hk
  ·simp at hr
 ·split at ha
  ·rename_i hl
   simp at ha
   subst ha
   simp only[ai]at hr
   have hd:=(E7 hdst).1
   have hnb:(∀ds,f.get d≠ .box ds)∧∃g cs,pR f y=some (g,cs)∧f'=f.set d (.box cs)∧h'=h:=by
    split at hr
    ·simp at hr
    ·rename_i hne
     split at hr
     ·rename_i g cs he;simp at hr;exact⟨hne,g,cs,he,hr.1.symm,hr.2.symm⟩
     ·simp at hr
   obtain⟨hnb,g,cs,he,rfl,rfl⟩:=hnb
   have h3:=(gx hi.fp hx he).cells
   refine iF hrun ?_
   rw[ho]
   exact hk μ _ _ _ (hi.Fe (v:= .box cs) (by rw[hi.fp.nt];exact hd) hnb (fun _=>by simpa using hl) rfl (fun L' hL=>by simp only[HJ,hL]) h3) (cf.refl _) rfl
  ·simp at ha
theorem ES (hf:FP T μ L f act.tmps w) {r:Nat} {cs:List C} (hg:f.get r= .box cs):∃ty arr,w.heap[L r]? =some (.cells arr ty (0,0))∧ah (CR μ) cs arr.toList:=(hf.loc r cs (by rw[hg];rfl)).2
theorem yK {cs:List C} {o n:Nat} (h:o+n≤cs.length):((cs.drop o).take n).length=n:=by simp;omega
theorem yt {α:Type} {us:List α} {o n j:Nat} {v:α} (h:((us.drop o).take n)[j]? =some v):us[o+j]? =some v:=by
 rw[List.getElem?_take]at h
 split at h
 ·rwa [List.getElem?_drop]at h
 ·simp at h
theorem NG (hi:cO T μ L f act.tmps h w) {t:TypeId} {n:Nat} {g:Bool} {x:Operand} {y:X} (hs:pD T.P t=some (n,g)) (hx:cX x=some y) {r:Nat} (ho:o.dst=some d) (hop:o.op= .load t x) (hd:d < T.I.nt∧T.I.env.lookup d≠some d)
 (hr:ai (.ldl d r y n g) f h=some (f',h')) (hk:bR T μ act f' h' K):o.wp T.P act w K Q:=by
 simp only[ai]at hr
 split at hr
 ·rename_i r' q he
  split at hr
  ·rename_i cs hg
   split at hr
   ·rename_i hc
    obtain⟨rfl,hl⟩:=hc
    simp at hr
    obtain⟨rfl,rfl⟩:=hr
    obtain⟨h1,_,_⟩:=tj hi.fp hx he
    obtain⟨ty,arr,h2,h3⟩:=ES hi.fp hg
    have h4:=(h3.drop q).take n
    obtain⟨v,h5,h6⟩:=od hs w ⟨L r',q,none⟩ (yK hl) h4 (fun j v hj=>by rw[fZ];exact sc h2 (yt hj))
    exact fin hi ho hd (by simp[execOp,hop,Instr.loadAt,h1,Instr.sureAddr,h5]) h6 hk
   ·simp at hr
  ·simp at hr
 ·simp at hr
theorem Du (hh:HP T μ h w) {id:Nat} {p:Pl} {cs:List C} (hm:μ id=some p) (hc:h.cells id=some cs):∃us:List Value,ah (CR μ) cs us∧∀j v,us[j]? =some v→w.cell? ⟨p.fO,p.off+j,none⟩=some v:=by
 unfold H.cells at hc
 split at hc
 ·rename_i ty cs' e
  simp at hc
  subst hc
  obtain⟨a,b,arr,c,dd,rest,q1,q2⟩:=hh.own id p ty cs' hm e
  refine⟨_,q1,fun j v hj=> ?_⟩
  rw[a,Nat.zero_add]
  refine sc c ?_
  rw[List.getElem?_take]at hj
  split at hj
  ·exact hj
  ·simp at hj
 ·rename_i cs' e
  simp at hc
  subst hc
  obtain⟨a,b⟩:=hh.ro id p cs' hm e
  have:∀n,n≤cs'.length→∃us:List Value,us.length=n∧∀i,i < n→∀c u,cs'[i]? =some c→us[i]? =some u→CR μ c u∧w.cell? ⟨p.fO,p.off+i,none⟩=some u:=by
   intro n
   induction n with
   |zero=>exact fun _=>⟨[],rfl,fun i hi=>by omega⟩
   |succ n ih=>
    intro hn
    obtain⟨us,hl,hu⟩:=ih (by omega)
    obtain⟨u,h1,h2⟩:=b n (cs'[n]'(by omega)) (List.getElem?_eq_getElem (by omega))
    refine⟨us++ [u],by simp[hl],fun i hi c x hc hx=> ?_⟩
    by_cases e:i=n
    ·subst e
     rw[List.getElem?_append_right (by omega)]at hx
     simp[hl]at hx
     subst hx
     rw[List.getElem?_eq_getElem (by omega)]at hc
     cases hc
     exact⟨h2,h1⟩
    ·rw[List.getElem?_append_left (by omega)]at hx
     exact hu i (by omega) c x hc hx
  obtain⟨us,hl,hu⟩:=this cs'.length (Nat.le_refl _)
  refine⟨us,ah.Fk hl.symm (fun i c x hc hx=>(hu i (List.getElem?_eq_some_iff.1 hc).1 c x hc hx).1),fun j v hj=> ?_⟩
  have hj':j < cs'.length:=by rw[←hl];exact(List.getElem?_eq_some_iff.1 hj).1
  exact(hu j hj' _ v (List.getElem?_eq_getElem hj') hj).2
 ·simp at hc
theorem NJ (hi:cO T μ L f act.tmps h w) {t:TypeId} {n:Nat} {g:Bool} {x:Operand} {y:X} (hs:pD T.P t=some (n,g)) (hx:cX x=some y) (ho:o.dst=some d) (hop:o.op= .load t x) (hd:d < T.I.nt∧T.I.env.lookup d≠some d)
 (hr:ai (.ldh d y n g) f h=some (f',h')) (hk:bR T μ act f' h' K):o.wp T.P act w K Q:=by
 simp only[ai]at hr
 split at hr
 ·rename_i id q he
  split at hr
  ·rename_i cs hg
   split at hr
   ·rename_i hl
    simp at hr
    obtain⟨rfl,rfl⟩:=hr
    obtain⟨p,h1,h2⟩:=bb hi.fp hx he
    obtain⟨us,h3,h3'⟩:=Du hi.hp h1 hg
    have h4:=(h3.drop q).take n
    obtain⟨v,h5,h6⟩:=od hs w ⟨p.fO,p.off+q,none⟩ (yK hl) h4 (fun j v hj=>by rw[fZ,Nat.add_assoc];exact h3' _ _ (yt hj))
    exact fin hi ho hd (by simp[execOp,hop,Instr.loadAt,h2,Instr.sureAddr,h5]) h6 hk
   ·simp at hr
  ·simp at hr
 ·simp at hr
theorem M0 (hi:cO T μ L f act.tmps h w) {t:TypeId} {n:Nat} {g:Bool} {x v:Operand} {y u:X} (hs:pD T.P t=some (n,g)) (hx:cX x=some y) (hv:cX v=some u) {r:Nat} (ho:o.dst=none) (hop:o.op= .store t x v)
 (hr:ai (.stl r y u n) f h=some (f',h')) (hk:bR T μ act f' h' K):o.wp T.P act w K Q:=by
 simp only[ai]at hr
 split at hr
 ·rename_i r' q g' vs he hev
  split at hr
  ·rename_i cs hg
   split at hr
   ·rename_i hc
    obtain⟨rfl,hvl,hl⟩:=hc
    simp at hr
    obtain⟨rfl,rfl⟩:=hr
    obtain⟨h1,_,_⟩:=tj hi.fp hx he
    obtain⟨ty,arr,h2,h3⟩:=ES hi.fp hg
    have h4:=(gx hi.fp hv hev).cells
    have hsz:(act.eval v).cells.size=n:=by have:=h4.length;simp at this;omega
    have hal:q+n≤arr.size:=by have:=h3.length;simp at this;omega
    have h5:=tp (P:=T.P) hs w (L r') q ty h2 hsz hal (CR.uK h4)
    refine EH (w':=w.setRow (L r') (aR arr.toList q (act.eval v).cells.toList).toArray) (by simp[execOp,hop,Instr.storeAt,h1,Instr.sureAddr,h5]) ?_
    rw[ho]
    exact hk μ L act _ (hi.NT hg h2 (by simpa using ah.aR q h3 h4)) (cf.refl _) rfl
   ·simp at hr
  ·simp at hr
 ·simp at hr
theorem N4 (hi:cO T μ L f act.tmps h w) {t:TypeId} {n:Nat} {g:Bool} {x v:Operand} {y u:X} (hs:pD T.P t=some (n,g)) (hx:cX x=some y) (hv:cX v=some u) (ho:o.dst=none) (hop:o.op= .store t x v)
 (hr:ai (.sth y u n) f h=some (f',h')) (hk:bR T μ act f' h' K):o.wp T.P act w K Q:=by
 simp only[ai]at hr
 split at hr
 ·rename_i id q g' vs he hev
  split at hr
  ·rename_i ty cs hg
   split at hr
   ·rename_i hc
    obtain⟨hvl,hl⟩:=hc
    simp at hr
    obtain⟨rfl,rfl⟩:=hr
    obtain⟨p,h1,h2⟩:=bb hi.fp hx he
    obtain⟨a,b,arr,c,dd,rest,q1,q2⟩:=hi.hp.own id p ty cs h1 hg
    have h4:=(gx hi.fp hv hev).cells
    have hsz:(act.eval v).cells.size=n:=by have:=h4.length;simp at this;omega
    have hla:cs.length≤arr.size:=by have:=q1.length;simp at this;omega
    have h5:=tp (P:=T.P) hs w p.fO q ty c hsz (by omega) (CR.uK h4)
    have h2':act.eval x= .pointer (some ⟨p.fO,q,none⟩):=by rw[h2,a,Nat.zero_add]
    refine EH (w':=w.setRow p.fO (aR arr.toList q (act.eval v).cells.toList).toArray) (by simp[execOp,hop,Instr.storeAt,h2',Instr.sureAddr,h5]) ?_
    rw[ho]
    have hvl2:(act.eval v).cells.toList.length=n:=by simpa using hsz
    have hlen:(aR cs q vs).length=cs.length:=cM _ _ _
    have ht:(aR arr.toList q (act.eval v).cells.toList).take cs.length=aR (arr.toList.take cs.length) q (act.eval v).cells.toList:=by
     rw[du _ _ _ (by simp[hvl2];omega),du _ _ _ (by simp[hvl2];omega)]
     have e0:(arr.toList.take cs.length).take q=arr.toList.take q:=by rw[List.take_take];congr 1;omega
     rw[e0,hvl2]
     have e1:(arr.toList.take q++(act.eval v).cells.toList).length=q+n:=by simp[hvl2];omega
     rw[List.take_append,e1]
     rw[List.take_of_length_le (by rw[e1];omega)]
     congr 1
     rw[List.drop_take]
    refine hk μ L act _ (hi.E8 h1 hg c (by simp[cM]) (rest:=(aR arr.toList q (act.eval v).cells.toList).drop cs.length) ?_ ?_) (cf.refl _) rfl
    ·rw[hlen]
     simp only[ht]
     exact ah.aR q q1 h4
    ·rw[hlen];simp
   ·simp at hr
  ·simp at hr
 ·simp at hr
end
end
end Go.Eng
namespace Go.Eng
section
variable {T:Ctx} {μ μ':Mu} {L:Nat→Nat} {f f':Fr} {h h':H} {w w':World} {act:Act}
variable {o:Oper} {K:Act→World→Prop} {Q:Exit→Act→World→Prop} {d:Nat}
theorem yb (hi:cO T μ L f act.tmps h w) (ho:o.dst=some d) (hd:d < T.I.nt∧T.I.env.lookup d≠some d) {x:Operand} (hh:T.I.hand d x=true) {r q:Nat} (hroot:T.I.root x=some r) (hbox:∃cs,f.get r= .box cs)
 (hr:(execOp act.eval o).run T.P w= .ok (.value (.pointer (some ⟨L r,q,none⟩))) w) (hk:bR T μ act (f.set d (.lref r q)) h K):o.wp T.P act w K Q:=by
 refine iF hr ?_
 rw[ho]
 have h4:T.I.env.lookup d=some r:=by simpa[wJ.hand,hroot]using hh
 exact hk μ L _ w (hi.put (by rw[hi.fp.nt];exact hd.1) hd.2 rfl rfl (fun r' o' e=>by cases e;exact⟨h4,hbox⟩)) (cf.refl _) rfl
theorem NR (hi:cO T μ L f act.tmps h w) {t:TypeId} {fs:Array Field} {k:Nat} {fl:Field} {j:TypeInfo} (ht:T.P.underlying t=some (.struct fs)) (hf:fs[k]? =some fl) (hj:T.P.info? fl.type=some j) (hj0:j.size≠0)
 {x:Operand} {y:X} (hx:cX x=some y) (hh:T.I.hand d x=true) (ho:o.dst=some d) (hop:o.op= .fieldAddr t x k) (hd:d < T.I.nt∧T.I.env.lookup d≠some d)
 (hr:ai (.fad d y fl.offset) f h=some (f',h')) (hk:bR T μ act f' h' K):o.wp T.P act w K Q:=by
 simp only[ai]at hr
 split at hr
 ·rename_i r q he
  simp at hr
  obtain⟨rfl,rfl⟩:=hr
  obtain⟨h1,h2,h3⟩:=tj hi.fp hx he
  exact yb hi ho hd hh h2 h3 (by simp[execOp,hop,Instr.fieldAt,run_underlying ht,hf,h1,Instr.sureAddr,fieldPlace,sizeOf,typeInfo,hj,hj0,fZ]) hk
 ·rename_i id q he
  simp at hr
  obtain⟨rfl,rfl⟩:=hr
  obtain⟨p,h1,h2⟩:=bb hi.fp hx (by simp[dt,he]:dt f y=some (.ptr id q))
  exact gd (c:= .ptr id (q+fl.offset)) (v:= .pointer (some ⟨p.fO,p.off+q+fl.offset,none⟩)) hi ho hd (by simp[execOp,hop,Instr.fieldAt,run_underlying ht,hf,h2,Instr.sureAddr,fieldPlace,sizeOf,typeInfo,hj,hj0,fZ]) ⟨p,h1,by rw[Nat.add_assoc]⟩ hk
 ·simp at hr
theorem Et {P:Program} {t:TypeId} {n:Nat} {g:Bool} (hs:pD P t=some (n,g)) (w:World) {arr:Array Value} {cs:List C} {off:Nat} (hc:ah (CR μ) cs arr.toList) (hl:off+n≤cs.length):
 ∃v,(part t arr off).run P w= .ok v w∧VG μ g ((cs.drop off).take n) v:=by
 obtain⟨i,h1,h2,h3,h4⟩:=oU hs
 have hq:=(hc.drop off).take n
 cases g with
 |true=>
  refine⟨.agg (arr.extract off (off+n)),?_,_,rfl,?_⟩
  ·simp[part,wG h3,Bo h1,h2]
  ·have:(arr.extract off (off+n)).toList=(arr.toList.drop off).take n:=by simp[Array.toList_extract,List.extract_eq_take_drop]
   rw[this];exact hq
 |false=>
  have h5:n=1:=by rcases h4 with h|h;cases h;exact h
  subst h5
  have hlen:=hc.length
  have hlt:off < arr.size:=by simp at hlen;omega
  have e1:(arr.toList.drop off).take 1= [arr[off]]:=by
   rw[List.drop_eq_getElem_cons (by simpa using hlt),List.take_succ_cons,List.take_zero];simp
  have e2:(cs.drop off).take 1= [cs[off]'(by omega)]:=by
   rw[List.drop_eq_getElem_cons (by omega),List.take_succ_cons,List.take_zero]
  rw[e1,e2]at hq
  refine⟨arr[off],?_,cs[off]'(by omega),e2,hq.1⟩
  simp[part,wG h3,hlt]
theorem Nc (hi:cO T μ L f act.tmps h w) {t:TypeId} {fs:Array Field} {k n:Nat} {g:Bool} {fl:Field} (ht:T.P.underlying t=some (.struct fs)) (hf:fs[k]? =some fl) (hs:pD T.P fl.type=some (n,g))
 {x:Operand} {y:X} (hx:cX x=some y) (ho:o.dst=some d) (hop:o.op= .field t x k) (hd:d < T.I.nt∧T.I.env.lookup d≠some d)
 (hr:ai (.fld d y fl.offset n g) f h=some (f',h')) (hk:bR T μ act f' h' K):o.wp T.P act w K Q:=by
 simp only[ai]at hr
 split at hr
 ·rename_i cs he
  split at hr
  ·rename_i hl
   simp at hr
   obtain⟨rfl,rfl⟩:=hr
   obtain⟨arr,h1,h2⟩:=gx hi.fp hx he
   obtain⟨v,h3,h4⟩:=Et hs w h2 hl
   exact fin hi ho hd (by simp[execOp,hop,Instr.field,run_underlying ht,hf,h1,asAgg,h3]) h4 hk
  ·simp at hr
 ·simp at hr
theorem On (hi:cO T μ L f act.tmps h w) {t e:TypeId} {j:TypeInfo} (ht:T.P.underlying t=some (.slice e)) (hj:T.P.info? e=some j)
 {x i:Operand} {y u:X} (hx:cX x=some y) (hiu:cX i=some u) (ho:o.dst=some d) (hop:o.op= .indexAddr t x i) (hd:d < T.I.nt∧T.I.env.lookup d≠some d)
 (hr:ai (.iad d y u j.size) f h=some (f',h')) (hk:bR T μ act f' h' K):o.wp T.P act w K Q:=by
 simp only[ai]at hr
 split at hr
 ·rename_i c kk jj he1 he2
  split at hr
  ·rename_i id' o' hat
   simp at hr
   obtain⟨rfl,rfl⟩:=hr
   unfold CT at hat
   split at hat
   ·rename_i id off len e'
    split at hat
    ·rename_i hc
     obtain⟨rfl,h0,h1⟩:=hc
     simp only[Option.some.injEq,Prod.mk.injEq]at hat
     obtain⟨rfl,rfl⟩:=hat
     obtain⟨p,a,cap,h2,h3,h4,h5,h6⟩:=bb hi.fp hx he1
     have h7:act.eval i= .int kk jj:=bb hi.fp hiu he2
     have ha:a=⟨p.fO,p.off+off,none⟩:=h5.resolve_left (by omega)
     subst ha
     exact gd (c:= .ptr id (off+jj.toNat * j.size)) (v:= .pointer (some ⟨p.fO,p.off+off+jj.toNat * j.size,none⟩)) hi ho hd (by simp[execOp,hop,Instr.indexAt,run_underlying ht,h3,h7,asIntOf,h0,h1,sizeOf,typeInfo,hj,fZ]) ⟨p,h2,by rw[Nat.add_assoc]⟩ hk
    ·simp at hat
   ·simp at hat
  ·simp at hr
 ·simp at hr
theorem MW (hi:cO T μ L f act.tmps h w) {t e:TypeId} {n:Nat} {j:TypeInfo} (ht:T.P.underlying t=some (.array n e)) (hj:T.P.info? e=some j) (hn:1 < n)
 {x i:Operand} {y u:X} (hx:cX x=some y) (hiu:cX i=some u) (hh:T.I.hand d x=true) (ho:o.dst=some d) (hop:o.op= .indexAddr t x i) (hd:d < T.I.nt∧T.I.env.lookup d≠some d)
 (hr:ai (.iaa d y u j.size n) f h=some (f',h')) (hk:bR T μ act f' h' K):o.wp T.P act w K Q:=by
 simp only[ai]at hr
 split at hr
 ·rename_i kk jj he2
  split at hr
  ·rename_i hc
   obtain⟨h0,h1⟩:=hc
   have h7:act.eval i= .int kk jj:=bb hi.fp hiu he2
   split at hr
   ·rename_i r q he
    simp at hr
    obtain⟨rfl,rfl⟩:=hr
    obtain⟨h2,h3,h4⟩:=tj hi.fp hx he
    exact yb hi ho hd hh h3 h4 (by simp[execOp,hop,Instr.indexAt,run_underlying ht,h2,h7,asIntOf,h0,h1,sizeOf,typeInfo,hj,fZ,Instr.sureAddr]) hk
   ·rename_i id q he
    simp at hr
    obtain⟨rfl,rfl⟩:=hr
    obtain⟨p,h2,h3⟩:=bb hi.fp hx (by simp[dt,he]:dt f y=some (.ptr id q))
    exact gd (c:= .ptr id (q+jj.toNat * j.size)) (v:= .pointer (some ⟨p.fO,p.off+q+jj.toNat * j.size,none⟩)) hi ho hd (by simp[execOp,hop,Instr.indexAt,run_underlying ht,h3,h7,asIntOf,h0,h1,sizeOf,typeInfo,hj,fZ,Instr.sureAddr]) ⟨p,h2,by rw[Nat.add_assoc]⟩ hk
   ·simp at hr
  ·simp at hr
 ·simp at hr
theorem Nn (hi:cO T μ L f act.tmps h w) {t e:TypeId} {n m:Nat} {g:Bool} (ht:T.P.underlying t=some (.array n e)) (hs:pD T.P e=some (m,g))
 {x i:Operand} {y u:X} (hx:cX x=some y) (hiu:cX i=some u) (ho:o.dst=some d) (hop:o.op= .index t x i) (hd:d < T.I.nt∧T.I.env.lookup d≠some d)
 (hr:ai (.idx d y u m n g) f h=some (f',h')) (hk:bR T μ act f' h' K):o.wp T.P act w K Q:=by
 simp only[ai]at hr
 split at hr
 ·rename_i cs kk jj he1 he2
  split at hr
  ·rename_i hc
   obtain⟨h0,h1,hl⟩:=hc
   simp at hr
   obtain⟨rfl,rfl⟩:=hr
   have h7:act.eval i= .int kk jj:=bb hi.fp hiu he2
   obtain⟨arr,h2,h3⟩:=gx hi.fp hx he1
   obtain⟨v,h4,h5⟩:=Et hs w h3 hl
   obtain⟨ii,k1,k2,_,_⟩:=oU hs
   exact fin hi ho hd (by simp[execOp,hop,Instr.index,run_underlying ht,h2,h7,asIntOf,h0,h1,Bo k1,k2,h4]) h5 hk
  ·simp at hr
 ·simp at hr
theorem Nd (hi:cO T μ L f act.tmps h w) {t:TypeId} (ht:T.P.underlying t=some .string)
 {x i:Operand} {y u:X} (hx:cX x=some y) (hiu:cX i=some u) (ho:o.dst=some d) (hop:o.op= .index t x i) (hd:d < T.I.nt∧T.I.env.lookup d≠some d)
 (hr:ai (.ids d y u) f h=some (f',h')) (hk:bR T μ act f' h' K):o.wp T.P act w K Q:=by
 simp only[ai]at hr
 split at hr
 ·rename_i s kk jj he1 he2
  split at hr
  ·rename_i h0
   split at hr
   ·rename_i b hb
    simp at hr
    obtain⟨rfl,rfl⟩:=hr
    have h7:act.eval i= .int kk jj:=bb hi.fp hiu he2
    have h2:act.eval x= .string s:=bb hi.fp hx he1
    have hb':s[jj.toNat]? =some b:=by
     have hlt:jj.toNat < s.data.toList.length:=(List.getElem?_eq_some_iff.1 hb).1
     have hlt':jj.toNat < s.size:=by simpa using hlt
     have e:s[jj.toNat]? =some s[jj.toNat]:=by exact getElem?_pos s _ hlt'
     rw[e]
     rw[List.getElem?_eq_getElem hlt]at hb
     cases hb
     rfl
    exact gd (c:= .int .u8 (b.toNat:Int)) (v:= .int .u8 (b.toNat:Int)) hi ho hd (by simp[execOp,hop,Instr.index,run_underlying ht,h2,h7,asIntOf,h0,hb']) rfl hk
   ·simp at hr
  ·simp at hr
 ·simp at hr
theorem N8 (hi:cO T μ L f act.tmps h w) {i:Nat} {x:Operand} {y:X} (hx:cX x=some y) (ho:o.dst=some d) (hop:o.op= .extract x i) (hd:d < T.I.nt∧T.I.env.lookup d≠some d)
 (hr:ai (.ext d y i) f h=some (f',h')) (hk:bR T μ act f' h' K):o.wp T.P act w K Q:=by
 simp only[ai]at hr
 split at hr
 ·rename_i vs he
  split at hr
  ·rename_i g cs hg
   simp at hr
   obtain⟨rfl,rfl⟩:=hr
   obtain⟨arr,h1,h2⟩:=(DS hi.fp hx).2.1 vs he
   obtain⟨v,h3,h4⟩:=h2.get hg
   have h3':arr[i]? =some v:=by simpa using h3
   exact fin hi ho hd (by simp[execOp,hop,Instr.extract,h1,h3']) h4 hk
  ·simp at hr
 ·simp at hr
theorem Ny (hi:cO T μ L f act.tmps h w) {x:Operand} {y:X} (hx:cX x=some y) (hh:T.I.hand d x=true) (ho:o.dst=some d) (hop:o.op= .nilCheck x) (hd:d < T.I.nt∧T.I.env.lookup d≠some d)
 (hr:ai (.nch d y) f h=some (f',h')) (hk:bR T μ act f' h' K):o.wp T.P act w K Q:=by
 simp only[ai]at hr
 split at hr
 ·rename_i r q he
  simp at hr
  obtain⟨rfl,rfl⟩:=hr
  obtain⟨h1,h2,h3⟩:=tj hi.fp hx he
  exact yb hi ho hd hh h2 h3 (by simp[execOp,hop,h1]) hk
 ·rename_i id q he
  simp at hr
  obtain⟨rfl,rfl⟩:=hr
  obtain⟨p,h1,h2⟩:=bb hi.fp hx (by simp[dt,he]:dt f y=some (.ptr id q))
  exact gd (c:= .ptr id q) (v:= .pointer (some ⟨p.fO,p.off+q,none⟩)) hi ho hd (by simp[execOp,hop,h2]) ⟨p,h1,rfl⟩ hk
 ·rename_i g he
  simp at hr
  obtain⟨rfl,rfl⟩:=hr
  have h2:act.eval x= .func (.func g) #[] #[]:=bb hi.fp hx (by simp[dt,he]:dt f y=some (.fn g))
  exact gd (c:= .fn g) (v:= .func (.func g) #[] #[]) hi ho hd (by simp[execOp,hop,h2]) rfl hk
 ·simp at hr
theorem NK (hi:cO T μ L f act.tmps h w) {t:TypeId} {x:Operand} {y:X} (hx:cX x=some y) (ho:o.dst=some d) (hop:o.op= .unOp .neg t x) (hd:d < T.I.nt∧T.I.env.lookup d≠some d)
 (hr:ai (.neg d y) f h=some (f',h')) (hk:bR T μ act f' h' K):o.wp T.P act w K Q:=by
 simp only[ai]at hr
 split at hr
 ·rename_i k n he
  simp only[Option.some.injEq,Prod.mk.injEq]at hr
  obtain⟨rfl,rfl⟩:=hr
  have h2:act.eval x= .int k n:=bb hi.fp hx he
  exact gd (c:= .int k (k.wrap (0 - n))) (v:= .int k (k.wrap (0 - n))) hi ho hd (by simp[execOp,hop,h2,Op.unary,Op.intArith]) rfl hk
 ·simp at hr
theorem M9 (hi:cO T μ L f act.tmps h w) {t:TypeId} {x:Operand} {y:X} (hx:cX x=some y) (ho:o.dst=some d) (hop:o.op= .unOp .not t x) (hd:d < T.I.nt∧T.I.env.lookup d≠some d)
 (hr:ai (.not d y) f h=some (f',h')) (hk:bR T μ act f' h' K):o.wp T.P act w K Q:=by
 simp only[ai]at hr
 split at hr
 ·rename_i b he
  simp at hr
  obtain⟨rfl,rfl⟩:=hr
  have h2:act.eval x= .bool b:=bb hi.fp hx he
  exact gd (c:= .bool (!b)) (v:= .bool (!b)) hi ho hd (by simp[execOp,hop,h2,Op.unary]) rfl hk
 ·simp at hr
theorem KG {P:Program} {t:TypeId} {x y:Operand} (op:BinOp) {a b:Value} {ca cb c:C} (ha:CR μ ca a) (hb:CR μ cb b) (hc:bD (Ab op) ca cb=some c) (w:World):
 ∃v,(eqGuard op t x y a b).run P w= .ok () w∧(binOp op t a b).run P w= .ok v w∧CR μ c v:=by
 cases ca with
 |int k a1=>
  have ha':a= .int k a1:=ha
  subst ha'
  cases cb with
  |int k' b1=>
   have hb':b= .int k' b1:=hb
   subst hb'
   have hguard:(eqGuard op t x y (.int k a1) (.int k' b1)).run P w= .ok () w:=by
    cases op <;>simp[eqGuard]
   by_cases hkk:k=k'
   ·subst hkk
    cases op <;>simp only[bD,Ab,ne_eq,not_true,if_false,Option.some.injEq]at hc
    case quo=>
     split at hc
     ·simp at hc
     ·rename_i h0
      simp only[Option.some.injEq]at hc
      subst hc
      exact⟨_,hguard,by simp[binOp,Op.intDiv,h0],rfl⟩
    case rem=>
     split at hc
     ·simp at hc
     ·rename_i h0
      simp only[Option.some.injEq]at hc
      subst hc
      exact⟨_,hguard,by simp[binOp,Op.intDiv,h0],rfl⟩
    case shl=>
     split at hc
     ·simp at hc
     ·rename_i h0
      simp only[Option.some.injEq]at hc
      subst hc
      exact⟨_,hguard,by simp[binOp,Op.shift,h0],rfl⟩
    case shr=>
     split at hc
     ·simp at hc
     ·rename_i h0
      simp only[Option.some.injEq]at hc
      subst hc
      exact⟨_,hguard,by simp[binOp,Op.shift,h0],rfl⟩
    all_goals
     subst hc
     refine⟨_,hguard,?_,rfl⟩
     simp[binOp,Op.intArith,Op.intCmp,Op.intBits,aH]
   ·cases op <;>simp only[bD,Ab,ne_eq,hkk,not_false_eq_true,if_true,reduceCtorEq]at hc
    case shl=>
     split at hc
     ·simp at hc
     ·rename_i h0
      simp only[Option.some.injEq]at hc
      subst hc
      exact⟨_,hguard,by simp[binOp,Op.shift,h0],rfl⟩
    case shr=>
     split at hc
     ·simp at hc
     ·rename_i h0
      simp only[Option.some.injEq]at hc
      subst hc
      exact⟨_,hguard,by simp[binOp,Op.shift,h0],rfl⟩
  |_=>cases op <;>simp[bD,Ab]at hc
 |str a1=>
  have ha':a= .string a1:=ha
  subst ha'
  cases cb with
  |str b1=>
   have hb':b= .string b1:=hb
   subst hb'
   have hguard:(eqGuard op t x y (.string a1) (.string b1)).run P w= .ok () w:=by
    cases op <;>simp[eqGuard]
   cases op <;>simp only[bD,Ab,Option.some.injEq,reduceCtorEq]at hc
   case add=>
    split at hc
    ·simp at hc
    ·rename_i h0
     simp only[Option.some.injEq]at hc
     subst hc
     exact⟨_,hguard,by simp only[binOp,Op.stringOp,h0,if_false];rfl,rfl⟩
   all_goals
    subst hc
    refine⟨_,hguard,?_,rfl⟩
    simp[binOp,Op.stringOp]
  |_=>cases op <;>simp[bD,Ab]at hc
 |_=>cases cb <;>cases op <;>simp[bD,Ab]at hc
theorem Om (hi:cO T μ L f act.tmps h w) {t u:TypeId} {op:BinOp} {x y:Operand} {a b:X} (hx:cX x=some a) (hy:cX y=some b) (ho:o.dst=some d) (hop:o.op= .binOp op t x y u) (hd:d < T.I.nt∧T.I.env.lookup d≠some d)
 (hr:ai (.bin d (Ab op) a b) f h=some (f',h')) (hk:bR T μ act f' h' K):o.wp T.P act w K Q:=by
 simp only[ai]at hr
 split at hr
 ·rename_i ca cb he1 he2
  split at hr
  ·rename_i c hc
   simp at hr
   obtain⟨rfl,rfl⟩:=hr
   obtain⟨v,h1,h2,h3⟩:=KG (P:=T.P) (t:=t) (x:=x) (y:=y) op (bb hi.fp hx he1) (bb hi.fp hy he2) hc w
   exact gd hi ho hd (by simp[execOp,hop,h1,h2]) h3 hk
  ·simp at hr
 ·simp at hr
theorem run_equal_bool {P:Program} {t:TypeId} (ht:P.underlying t=some .bool) (p q:Bool) (w:World):(Op.equal t (.bool p) (.bool q)).run P w= .ok (p==q) w:=by
 have:∀n,(Op.equalIn (n+1) t (.bool p) (.bool q)).run P w= .ok (p==q) w:=fun n=>by simp[Op.equalIn,run_underlying ht]
 exact this 9999
theorem rb {P:Program} {t e:TypeId} (ht:P.underlying t=some (.slice e)) (a:Option Addr) (n c:Nat) (w:World):(Op.equal t (.slice a n c) (.slice none 0 0)).run P w= .ok a.isNone w:=by
 have:∀m,(Op.equalIn (m+1) t (.slice a n c) (.slice none 0 0)).run P w= .ok a.isNone w:=fun m=>by cases a <;>simp[Op.equalIn,run_underlying ht]
 exact this 9999
theorem Ef {P:Program} {t:TypeId} (ht:P.underlying t=some .bool) (x y:Operand) (p q:Bool) (w:World):(do eqGuard .eql t x y (.bool p) (.bool q);binOp .eql t (.bool p) (.bool q)).run P w= .ok (.bool (p==q)) w:=by
 simp only[eqGuard,binOp,Sem.run_bind,run_equal_bool ht];rfl
theorem Ec {P:Program} {t:TypeId} (ht:P.underlying t=some .bool) (x y:Operand) (p q:Bool) (w:World):(do eqGuard .neq t x y (.bool p) (.bool q);binOp .neq t (.bool p) (.bool q)).run P w= .ok (.bool (!(p==q))) w:=by
 simp only[eqGuard,binOp,Sem.run_bind,run_equal_bool ht];rfl
theorem Fa {P:Program} {t e:TypeId} (ht:P.underlying t=some (.slice e)) (x y:Operand) (a:Option Addr) (n c:Nat) (w:World):(do eqGuard .eql t x y (.slice a n c) (.slice none 0 0);binOp .eql t (.slice a n c) (.slice none 0 0)).run P w= .ok (.bool a.isNone) w:=by
 simp only[eqGuard,binOp,Sem.run_bind,rb ht];rfl
theorem Fm {P:Program} {t e:TypeId} (ht:P.underlying t=some (.slice e)) (x y:Operand) (a:Option Addr) (n c:Nat) (w:World):(do eqGuard .neq t x y (.slice a n c) (.slice none 0 0);binOp .neq t (.slice a n c) (.slice none 0 0)).run P w= .ok (.bool (!a.isNone)) w:=by
 simp only[eqGuard,binOp,Sem.run_bind,rb ht];rfl
theorem jY {op:BinOp} {t u:TypeId} {x y:Operand} {P:Program} (hop:o.op= .binOp op t x y u) {v:Value} (h:(do eqGuard op t x y (act.eval x) (act.eval y);binOp op t (act.eval x) (act.eval y)).run P w= .ok v w'):(execOp act.eval o).run P w= .ok (.value v) w':=by
 simp only[execOp,hop]
 rw[Sem.run_bind,h]
 rfl
theorem JG (hi:cO T μ L f act.tmps h w) {t u:TypeId} {op:BinOp} {neg:Bool} (hneg:(op= .eql∧neg=false)∨(op= .neq∧neg=true)) (ht:T.P.underlying t=some .bool) {x y:Operand} {a b:X} (hx:cX x=some a) (hy:cX y=some b) (ho:o.dst=some d) (hop:o.op= .binOp op t x y u)
 (hd:d < T.I.nt∧T.I.env.lookup d≠some d) (hr:ai (.beq d neg a b) f h=some (f',h')) (hk:bR T μ act f' h' K):o.wp T.P act w K Q:=by
 simp only[ai]at hr
 split at hr
 ·rename_i p q he1 he2
  simp only[Option.some.injEq,Prod.mk.injEq]at hr
  obtain⟨rfl,rfl⟩:=hr
  have h1:act.eval x= .bool p:=bb hi.fp hx he1
  have h2:act.eval y= .bool q:=bb hi.fp hy he2
  rcases hneg with⟨rfl,rfl⟩|⟨rfl,rfl⟩
  ·exact gd hi ho hd (v:= .bool (p==q)) (c:= .bool (p==q)) (jY hop (by rw[h1,h2];exact Ef ht _ _ _ _ _)) rfl hk
  ·exact gd hi ho hd (v:= .bool (!(p==q))) (c:= .bool (!(p==q))) (jY hop (by rw[h1,h2];exact Ec ht _ _ _ _ _)) rfl hk
 ·simp at hr
theorem GH (hi:cO T μ L f act.tmps h w) {t u e:TypeId} {op:BinOp} {neg:Bool} (hneg:(op= .eql∧neg=false)∨(op= .neq∧neg=true)) (ht:T.P.underlying t=some (.slice e)) {x:Operand} {a:X} (hx:cX x=some a) (ho:o.dst=some d) (hop:o.op= .binOp op t x (.const (.slice none 0 0)) u)
 (hd:d < T.I.nt∧T.I.env.lookup d≠some d) (hr:ai (.snil d neg a) f h=some (f',h')) (hk:bR T μ act f' h' K):o.wp T.P act w K Q:=by
 have hc:act.eval (.const (.slice none 0 0))= .slice none 0 0:=rfl
 have key:∀(ad:Option Addr) (n c:Nat) (b:Bool),act.eval x= .slice ad n c→b=ad.isNone→bR T μ act (f.set d (.val false [.bool (if neg then !b else b)])) h K→o.wp T.P act w K Q:=by
  intro ad n c b h1 hb hk
  subst hb
  rcases hneg with⟨rfl,rfl⟩|⟨rfl,rfl⟩
  ·exact gd hi ho hd (v:= .bool ad.isNone) (c:= .bool ad.isNone) (jY hop (by rw[h1,hc];exact Fa ht _ _ _ _ _ _)) rfl hk
  ·exact gd hi ho hd (v:= .bool (!ad.isNone)) (c:= .bool (!ad.isNone)) (jY hop (by rw[h1,hc];exact Fm ht _ _ _ _ _ _)) rfl hk
 simp only[ai]at hr
 split at hr
 ·rename_i id off len es he
  simp only[Option.some.injEq,Prod.mk.injEq]at hr
  obtain⟨rfl,rfl⟩:=hr
  obtain⟨p,ad,cap,_,h1,_⟩:=bb hi.fp hx he
  exact key (some ad) len cap false h1 rfl (by cases neg <;>exact hk)
 ·rename_i he
  simp only[Option.some.injEq,Prod.mk.injEq]at hr
  obtain⟨rfl,rfl⟩:=hr
  obtain⟨ad,h1⟩:=bb hi.fp hx he
  exact key (some ad) 0 0 false h1 rfl (by cases neg <;>exact hk)
 ·rename_i he
  simp only[Option.some.injEq,Prod.mk.injEq]at hr
  obtain⟨rfl,rfl⟩:=hr
  have h1:act.eval x= .slice none 0 0:=bb hi.fp hx he
  exact key none 0 0 true h1 rfl (by cases neg <;>exact hk)
 ·simp at hr
end
end Go.Eng
namespace Go.Eng
section
variable {T:Ctx} {μ μ':Mu} {L:Nat→Nat} {f f':Fr} {h h':H} {w w':World} {act:Act}
variable {o:Oper} {K:Act→World→Prop} {Q:Exit→Act→World→Prop} {d:Nat}
theorem NY (hi:cO T μ L f act.tmps h w) {s t:TypeId} {k k0:IntKind} (hs:T.P.underlying s=some (.int k0)) (ht:T.P.underlying t=some (.int k)) {x:Operand} {y:X} (hx:cX x=some y) (ho:o.dst=some d) (hop:o.op= .convert s t x) (hd:d < T.I.nt∧T.I.env.lookup d≠some d)
 (hr:ai (.cvi d k y) f h=some (f',h')) (hk:bR T μ act f' h' K):o.wp T.P act w K Q:=by
 simp only[ai]at hr
 split at hr
 ·rename_i kk n he
  simp only[Option.some.injEq,Prod.mk.injEq]at hr
  obtain⟨rfl,rfl⟩:=hr
  have h2:act.eval x= .int kk n:=bb hi.fp hx he
  exact gd (c:= .int k (k.wrap n)) (v:= .int k (k.wrap n)) hi ho hd (by simp[execOp,hop,convert,run_underlying hs,run_underlying ht,h2,Conv.intToInt]) rfl hk
 ·simp at hr
theorem EK (hh:HP T μ h w) {c:C} {v:Value} {cs:List C} (hc:CR μ c v) (hs:h.slice c=some cs):
 (c= .nils∧v= .slice none 0 0∧cs= [])∨∃a n cap us,v= .slice (some a) n cap∧ah (CR μ) cs us∧(∀j u,us[j]? =some u→w.cell? (a.add j)=some u)∧((c= .emp∧n=0∧cs= [])∨∃id off e,c= .sl id off n e∧cs.length=n * e):=by
 cases c with
 |nils=>simp[H.slice]at hs;exact .inl ⟨rfl,hc,hs⟩
 |emp=>
  obtain⟨a,hv⟩:=hc
  simp[H.slice]at hs
  subst hs
  exact .inr ⟨a,0,0,[],hv,trivial,fun j u e=>by simp at e, .inl ⟨rfl,rfl,rfl⟩⟩
 |sl id off len e=>
  obtain⟨p,a,cap,hm,hv,hle,ha,hlim⟩:=hc
  simp only[H.slice]at hs
  split at hs
  ·rename_i cs' hcs
   split at hs
   ·rename_i hl
    simp at hs
    subst hs
    obtain⟨us,h1,h2⟩:=Du hh hm hcs
    have hlen:((cs'.drop off).take (len * e)).length=len * e:=yK hl
    refine .inr ⟨a,len,cap,(us.drop off).take (len * e),hv,(h1.drop off).take _,?_, .inr ⟨id,off,e,rfl,hlen⟩⟩
    intro j u hj
    rcases ha with h0|h0
    ·have:len=0:=by omega
     subst this
     simp at hj
    ·rw[h0,fZ,Nat.add_assoc]
     exact h2 _ _ (yt hj)
   ·simp at hs
  ·simp at hs
 |_=>simp[H.slice]at hs
theorem sY:∀ {cs:List C} {b:ByteArray} {us:List Value},bytesOf cs=some b→ah (CR μ) cs us→∃xs:List Int,us=xs.map (Value.int .u8)∧b=strOfNums xs
 | [],b,[],h,_=>by simp[bytesOf]at h;subst h;exact⟨[],rfl,rfl⟩
 | [],b,_::_,_,h=>h.elim
 |_::_,b,[],_,h=>h.elim
 |c::cs,b,u::us,h,hc=>by
  cases c with
  |int k n=>
   cases k with
   |u8=>
    simp only[bytesOf]at h
    split at h
    ·rename_i b' hb'
     simp at h
     subst h
     obtain⟨xs,h1,h2⟩:=sY hb' hc.2
     have h3:u= .int .u8 n:=hc.1
     refine⟨n::xs,by rw[h1,h3];rfl,?_⟩
     subst h2
     simp[strOfNums]
    ·simp at h
   |_=>simp[bytesOf]at h
  |_=>simp[bytesOf]at h
theorem Ok (hi:cO T μ L f act.tmps h w) {s t e:TypeId} (hs:T.P.underlying s=some (.slice e)) (he:T.P.underlying e=some (.int .u8)) (ht:T.P.underlying t=some .string) {x:Operand} {y:X} (hx:cX x=some y) (ho:o.dst=some d) (hop:o.op= .convert s t x) (hd:d < T.I.nt∧T.I.env.lookup d≠some d)
 (hr:ai (.cbs d y) f h=some (f',h')) (hk:bR T μ act f' h' K):o.wp T.P act w K Q:=by
 simp only[ai]at hr
 split at hr
 ·rename_i c hc
  split at hr
  ·rename_i cs hcs
   split at hr
   ·rename_i b hb
    simp only[Option.some.injEq,Prod.mk.injEq]at hr
    obtain⟨rfl,rfl⟩:=hr
    have hcs':h.slice c=some cs:=by
     unfold H.bytes at hcs
     split at hcs
     ·split at hcs
      ·exact hcs
      ·simp at hcs
     ·exact hcs
    rcases EK hi.hp (bb hi.fp hx hc) hcs' with⟨_,h1,h2⟩|⟨a,n,cap,us,h1,h2,h3,h4⟩
    ·subst h2
     simp[bytesOf]at hb
     subst hb
     exact gd (c:= .str _) (v:= .string ByteArray.empty) hi ho hd (by simp[execOp,hop,h1,run_convert_bytes_nil w s e hs he 0 0 t ht]) rfl hk
    ·obtain⟨xs,h5,h6⟩:=sY hb h2
     have hn:us.length=n:=by
      have:=h2.length
      rcases h4 with⟨_,h7,h8⟩|⟨id,off,e',h7,h8⟩
      ·subst h8;simp at this;omega
      ·rw[←this,h8]
       subst h7
       simp only[H.bytes]at hcs
       split at hcs
       ·rename_i h9;rcases h9 with h9|h9 <;>simp[h9]
       ·simp at hcs
     have hl:=run_loadCells_list (P:=T.P) w a us h3
     rw[hn,h5]at hl
     subst h6
     refine gd (c:= .str (strOfNums xs)) (v:= .string (strOfNums xs)) hi ho hd ?_ rfl hk
     have:=run_bytesToString (P:=T.P) w a n cap xs hl
     rw[foldl_push_bytes]at this
     have e2:(⟨ByteArray.empty.data++(xs.map fun n=>UInt8.ofNat n.toNat).toArray⟩:ByteArray)=strOfNums xs:=by simp[strOfNums,ByteArray.empty,ByteArray.emptyWithCapacity];rfl
     rw[e2]at this
     simp[execOp,hop,h1,run_convert_bytes_string w s t e _ n cap hs he ht,this]
   ·simp at hr
  ·simp at hr
 ·simp at hr
theorem x4 (off:Nat):∀(l:List Value) (k:Nat) (cs:Array Value),((l.zipIdx k).foldl (fun cs (x:Value×Nat)=>cs.setIfInBounds (off+x.2) x.1) cs).toList=aR cs.toList (off+k) l
 | [],k,cs=>rfl
 |v::l,k,cs=>by
  simp only[List.zipIdx_cons,List.foldl_cons]
  rw[x4 off l (k+1)]
  simp[aR,Nat.add_assoc]
theorem wV (hf:FP T μ L f act.tmps w) {place place':Nat→Option (Nat×Nat)} (hp:∀i p,place i=some p→place' i=some p):∀ {l:List (Nat×Operand)} {qs:List (Nat×Nat×X)} {z cs:List C} {arr:Array Value},
 partsOf T.P place l=some qs→eW f z qs=some cs→ah (CR μ) z arr.toList→∃r,Instr.fill place' arr (l.map fun p=>(p.1,act.eval p.2))=some r∧ah (CR μ) cs r.toList
 | [],qs,z,cs,arr,h1,h2,h3=>by
   simp[partsOf]at h1
   subst h1
   simp[eW]at h2
   subst h2
   exact⟨arr,rfl,h3⟩
 |(i,x)::l,qs,z,cs,arr,h1,h2,h3=>by
  simp only[partsOf]at h1
  split at h1
  ·rename_i off sz y ps e1 e2 e3
   simp at h1
   subst h1
   simp only[eW]at h2
   split at h2
   ·rename_i g vs he
    split at h2
    ·rename_i hc
     have hv:=(gx hf e2 he).cells
     have hsz:(act.eval x).cells.size=sz:=by have:=hv.length;simp at this;omega
     have hal:off+sz≤arr.size:=by have:=h3.length;simp at this;omega
     have hset:((act.eval x).cells.zipIdx.foldl (fun cs (x:Value×Nat)=>cs.setIfInBounds (off+x.2) x.1) arr).toList=aR arr.toList off (act.eval x).cells.toList:=by
      have:=x4 off (act.eval x).cells.toList 0 arr
      rw[Nat.add_zero]at this
      rw[←this]
      congr 1
      rw[←Array.foldl_toList]
      simp
     obtain⟨r,h4,h5⟩:=wV hf hp (arr:=(act.eval x).cells.zipIdx.foldl (fun cs (x:Value×Nat)=>cs.setIfInBounds (off+x.2) x.1) arr) e3 h2 (by rw[hset];exact h3.aR off hv)
     refine⟨r,?_,h5⟩
     simp only[List.map_cons]
     unfold Instr.fill
     simp only[hp _ _ e1,hsz]
     have:¬((sz≠sz)||off+sz > arr.size)=true:=by simp;omega
     rw[if_neg (by simpa using this)]
     exact h4
    ·simp at h2
   ·simp at h2
  ·simp at h1
theorem Av (P:Program):∀(fs:List Field),fs.all (fun f=>(P.info? f.type).isSome)=true→∃places,fs.mapM (fun f=>(P.info? f.type).map fun i=>(f.offset,i.size))=some places∧
 ∀(i:Nat) (fl:Field) (j:TypeInfo),fs[i]? =some fl→P.info? fl.type=some j→places[i]? =some (fl.offset,j.size)
 | [],_=>⟨[],rfl,fun i fl j h=>by simp at h⟩
 |f::fs,h=>by
  simp only[List.all_cons,Bool.and_eq_true]at h
  obtain⟨i,hi⟩:=Option.isSome_iff_exists.1 h.1
  obtain⟨ps,h1,h2⟩:=Av P fs h.2
  refine⟨(f.offset,i.size)::ps,by simp[hi,h1],fun k fl j hk hj=> ?_⟩
  cases k with
  |zero=>simp at hk;subst hk;rw[hi]at hj;cases hj;rfl
  |succ k=>exact h2 k fl j (by simpa using hk) hj
theorem ud (act:Act) (ps:Array (Nat×Operand)):(ps.map fun(i,x)=>(i,act.eval x)).toList=ps.toList.map fun p=>(p.1,act.eval p.2):=by simp
theorem Ku (hi:cO T μ L f act.tmps h w) {t:TypeId} {ps:Array (Nat×Operand)} {z:List C} {fs:Array Field} {qs:List (Nat×Nat×X)} (hz:zeroOf T.P t=some z) (ht:T.P.underlying t=some (.struct fs))
 (hq:partsOf T.P (fun i=>match fs[i]? with|some f=>(match T.P.info? f.type with|some j=>some (f.offset,j.size)|none=>none)|none=>none) ps.toList=some qs) (hall:fs.toList.all (fun f=>(T.P.info? f.type).isSome)=true)
 (ho:o.dst=some d) (hop:o.op= .build t ps) (hd:d < T.I.nt∧T.I.env.lookup d≠some d) (hr:ai (.bld d z qs) f h=some (f',h')) (hk:bR T μ act f' h' K):o.wp T.P act w K Q:=by
 simp only[ai]at hr
 split at hr
 ·rename_i cs hcs
  simp only[Option.some.injEq,Prod.mk.injEq]at hr
  obtain⟨rfl,rfl⟩:=hr
  obtain⟨it,zv,h1,h2,h3,h4⟩:=eL hz μ
  obtain⟨places,h5,h6⟩:=Av T.P fs.toList hall
  obtain⟨r,h7,h8⟩:=wV hi.fp (place':=(places.toArray[·]?)) (by
   intro i p hp
   split at hp
   ·rename_i fl hfl
    split at hp
    ·rename_i j hj
     simp at hp
     subst hp
     have:=h6 i fl j (by simpa using hfl) hj
     simpa using this
    ·simp at hp
   ·simp at hp) hq hcs h3
  have hb:T.P.built t (ps.map fun(i,x)=>(i,act.eval x)).toList=some r:=by
   rw[ud]
   simp[Program.built,h1,ht,h2,h5]
   simpa using h7
  exact fin (g:=true) (cs:=cs) hi ho hd (v:= .agg r) (by simp only[execOp,hop,Sem.run_bind,run_build w t _ r hb,Result.andThen_ok];rfl) ⟨r,rfl,h8⟩ hk
 ·simp at hr
theorem Le (hi:cO T μ L f act.tmps h w) {t e:TypeId} {n:Nat} {j:TypeInfo} {ps:Array (Nat×Operand)} {z:List C} {qs:List (Nat×Nat×X)} (hz:zeroOf T.P t=some z) (ht:T.P.underlying t=some (.array n e)) (hj:T.P.info? e=some j)
 (hq:partsOf T.P (fun i=>some (i * j.size,j.size)) ps.toList=some qs)
 (ho:o.dst=some d) (hop:o.op= .build t ps) (hd:d < T.I.nt∧T.I.env.lookup d≠some d) (hr:ai (.bld d z qs) f h=some (f',h')) (hk:bR T μ act f' h' K):o.wp T.P act w K Q:=by
 simp only[ai]at hr
 split at hr
 ·rename_i cs hcs
  simp only[Option.some.injEq,Prod.mk.injEq]at hr
  obtain⟨rfl,rfl⟩:=hr
  obtain⟨it,zv,h1,h2,h3,h4⟩:=eL hz μ
  obtain⟨r,h7,h8⟩:=wV hi.fp (place':=fun i=>some (i * j.size,j.size)) (fun i p hp=>hp) hq hcs h3
  have hb:T.P.built t (ps.map fun(i,x)=>(i,act.eval x)).toList=some r:=by
   rw[ud]
   simp[Program.built,h1,ht,h2,hj]
   simpa using h7
  exact fin (g:=true) (cs:=cs) hi ho hd (v:= .agg r) (by simp only[execOp,hop,Sem.run_bind,run_build w t _ r hb,Result.andThen_ok];rfl) ⟨r,rfl,h8⟩ hk
 ·simp at hr
theorem FY {α:Type} (l:List α):∀(n i:Nat) (x:α),(List.replicate n l).flatten[i]? =some x→l[i % l.length]? =some x
 |0,i,x,h=>by simp at h
 |n+1,i,x,h=>by
  simp only[List.replicate_succ,List.flatten_cons]at h
  by_cases hl:i < l.length
  ·rw[List.getElem?_append_left hl]at h
   rwa [Nat.mod_eq_of_lt hl]
  ·rw[List.getElem?_append_right (by omega)]at h
   have:=FY l n (i - l.length) x h
   rwa [←Nat.mod_eq_sub_mod (by omega)]at this
theorem Gv {z:List C} {zv:Array Value} (hz:ah (CR μ) z zv.toList) (n:Nat):ah (CR μ) (List.replicate n z).flatten ((Array.range (n * zv.size)).map (zv[· % zv.size]!)).toList:=by
 have hl:=hz.length
 simp only[Array.length_toList]at hl
 refine ah.Fk (by simp[hl]) (fun i c v hc hv=> ?_)
 have h1:=FY z n i c hc
 obtain⟨u,h2,h3⟩:=hz.get h1
 simp only[Array.toList_map,List.getElem?_map,Array.toList_range]at hv
 by_cases hi:i < n * zv.size
 ·rw[List.getElem?_range hi]at hv
  simp only[Option.map_some,Option.some.injEq]at hv
  rw[hl]at h2
  have h4:zv[i % zv.size]? =some u:=by simpa using h2
  have h5:zv[i % zv.size]! =u:=by
   rw[getElem!_def,h4]
  rw[h5]at hv
  rw[←hv]
  exact h3
 ·rw[List.getElem?_eq_none (by simpa using hi)]at hv
  simp at hv
theorem Jq (hi:cO T μ L f act.tmps h w) {t e:TypeId} {len:Nat} {j:TypeInfo} {ps:Array (Nat×Operand)} {z:List C} {qs:List (Nat×Nat×X)} (hz:zeroOf T.P e=some z) (ht:T.P.underlying t=some (.slice e)) (hj:T.P.info? e=some j)
 (hq:partsOf T.P (fun i=>some (i * j.size,j.size)) ps.toList=some qs) (hlen:len * j.size≤2 ^ 24) (hj0:0 < j.size) (hl0:len≠0) (hop:o.op= .buildSlice t len ps) {cs:List C} (hcs:eW f (List.replicate len z).flatten qs=some cs):
 ∃r,(execOp act.eval o).run T.P w= .ok (.value (.slice (some ⟨w.heap.size,0,none⟩) len len)) (w.alloc (.cells r e (0,0)))∧ah (CR μ) cs r.toList:=by
 obtain⟨it,zv,h1,h2,h3,h4⟩:=eL hz μ
 rw[hj]at h1
 cases h1
 have hzs:zv.cells.size=j.size:=by have:=h3.length;simp at this;omega
 have hm:=Gv h3 len
 obtain⟨r,h7,h8⟩:=wV hi.fp (place':=fun i=>some (i * j.size,j.size)) (fun i p hp=>hp) hq hcs hm
 refine⟨r,?_,h8⟩
 have hpos:¬len * j.size=0:=by
  intro e0
  rcases Nat.mul_eq_zero.1 e0 with e1|e1
  ·exact hl0 e1
  ·omega
 have:=run_buildSlice (P:=T.P) w t e len (ps.map fun(i,x)=>(i,act.eval x)) r j zv ht hj h2 (by omega) hpos (by
  rw[ud,←hzs]
  rw[←hzs]at h7
  exact h7)
 simp only[execOp,hop,Sem.run_bind,this,Result.andThen_ok]
 rfl
theorem sA:∀ {qs:List (Nat×Nat×X)} {z cs:List C},eW f z qs=some cs→cs.length=z.length
 | [],z,cs,h=>by simp[eW]at h;subst h;rfl
 |(off,sz,x)::qs,z,cs,h=>by
  simp only[eW]at h
  split at h
  ·split at h
   ·rw[sA h,cM]
   ·simp at h
  ·simp at h
theorem Nf (hi:cO T μ L f act.tmps h w) {t e:TypeId} {len:Nat} {j:TypeInfo} {ps:Array (Nat×Operand)} {z:List C} {qs:List (Nat×Nat×X)} (hz:zeroOf T.P e=some z) (ht:T.P.underlying t=some (.slice e)) (hj:T.P.info? e=some j)
 (hq:partsOf T.P (fun i=>some (i * j.size,j.size)) ps.toList=some qs) (hlen:len * j.size≤2 ^ 24) (hj0:0 < j.size) (hl0:len≠0) (ho:o.dst=some d) (hop:o.op= .buildSlice t len ps) (hd:d < T.I.nt∧T.I.env.lookup d≠some d)
 (hr:ai (.bsl d e j.size len z qs) f h=some (f',h')) (hk:bR T μ act f' h' K):o.wp T.P act w K Q:=by
 simp only[ai]at hr
 split at hr
 ·rename_i cs hcs
  simp only[Option.some.injEq,Prod.mk.injEq]at hr
  obtain⟨rfl,rfl⟩:=hr
  obtain⟨r,h1,h2⟩:=Jq hi hz ht hj hq hlen hj0 hl0 hop hcs
  have e1:=oX h2.length
  have hzl:z.length=j.size:=by obtain⟨it,zv,k1,k2,k3,k4⟩:=eL hz μ;rw[hj]at k1;cases k1;exact k4
  have hsz:r.size=len * j.size:=by
   have:=h2.length
   rw[sA hcs]at this
   simp[hzl]at this
   omega
  exact oZ (c:= .sl h.length 0 len j.size) hi ho hd h1 (by rw[e1];exact h2) (by rw[e1,List.append_nil]) (fun μ' hm=>⟨_,_,len,hm,rfl,Nat.le_refl _, .inr rfl,by simp only;omega⟩) hk
 ·simp at hr
theorem NU (hi:cO T μ L f act.tmps h w) {t e:TypeId} {len:Nat} {j:TypeInfo} {ps:Array (Nat×Operand)} {z:List C} {qs:List (Nat×Nat×X)} (hz:zeroOf T.P e=some z) (ht:T.P.underlying t=some (.slice e)) (hj:T.P.info? e=some j)
 (hq:partsOf T.P (fun i=>some (i * j.size,j.size)) ps.toList=some qs) (hlen:len * j.size≤2 ^ 24) (hj0:0 < j.size) (hl0:len≠0) (ho:o.dst=some d) (hop:o.op= .buildSlice t len ps) (hd:d < T.I.nt∧T.I.env.lookup d≠some d)
 (hr:ai (.lsl d j.size len z qs) f h=some (f',h')) (hk:bR T μ act f' h' K):o.wp T.P act w K Q:=by
 simp only[ai]at hr
 split at hr
 ·rename_i cs hcs
  simp only[Option.some.injEq,Prod.mk.injEq]at hr
  obtain⟨rfl,rfl⟩:=hr
  obtain⟨r,h1,h2⟩:=Jq hi hz ht hj hq hlen hj0 hl0 hop hcs
  refine iF h1 ?_
  rw[ho]
  exact hk μ _ _ _ (hi.Fe (v:= .lsl cs len j.size) (by rw[hi.fp.nt];exact hd.1) (fun ds e=>hd.2 (hi.fp.bty d ds e)) (fun⟨_,e⟩=>by cases e) rfl (fun L' hL=>by simp only[HJ,hL]) h2) (cf.refl _) rfl
 ·simp at hr
theorem NM (hi:cO T μ L f act.tmps h w) {t e:TypeId} {j:TypeInfo} {ps:Array (Nat×Operand)} (ht:T.P.underlying t=some (.slice e)) (hj:T.P.info? e=some j) (hps:ps.toList.isEmpty=true) (ho:o.dst=some d) (hop:o.op= .buildSlice t 0 ps) (hd:d < T.I.nt∧T.I.env.lookup d≠some d)
 (hr:ai (.bse d) f h=some (f',h')) (hk:bR T μ act f' h' K):o.wp T.P act w K Q:=by
 simp only[ai,Option.some.injEq,Prod.mk.injEq]at hr
 obtain⟨rfl,rfl⟩:=hr
 have hps':ps= #[]:=by
  have:ps.toList= []:=by simpa using hps
  exact Array.toList_eq_nil_iff.1 this
 have hi':=hi.jG (jA.alloc w (.cells #[] e (0,0)) (fun _=>False))
 refine iF (v:= .slice (some ⟨w.heap.size,0,none⟩) 0 0) (w':=w.alloc (.cells #[] e (0,0))) ?_ ?_
 ·simp[execOp,hop,hps',Instr.buildSlice,run_underlying ht,sizeOf,typeInfo,hj,newRow,Instr.fill,Array.range_zero']
 ·rw[ho]
  exact hk μ L _ _ (hi'.Er (g:=false) (cs:= [.emp]) (by rw[hi.fp.nt];exact hd.1) hd.2 ⟨.emp,rfl,_,rfl⟩) (cf.refl _) rfl
end
end Go.Eng
