import Derived.Test.YtfackchfbefaiaaGreatGb
set_option linter.unusedVariables false
set_option linter.unusedSimpArgs false
namespace Go.Eng
inductive D where
 |int (k:IntKind) (n:Int)
 |bool (b:Bool)
 |str (s:ByteArray)
 |fn (f:Nat)
 |nilf
 |nili
 |nilp
 |nils
 |sl (xs:List (List D))
 |ow (k v:Nat)
 |pt (k v o:Nat)
 |pe (x:List D) (o:Nat)
 |px (k v j o:Nat)
 |sa (k v o n e:Nat)
inductive U where
 |any
 |val (g:Bool) (ds:List D)
 |tup (vs:List (Bool×List D))
 |box (ds:List D)
 |lsl (ds:List D) (n e:Nat)
 |lref (r o:Nat)
inductive En where
 |sl (v:Nat) (own deep:Bool) (ty:Option (Nat×Nat)) (xs:List (List D))
 |pt (v ty:Nat) (ds:List D)
structure St where
 nx:Nat
 es:List (Nat×En)
inductive UT where
 |leaf
 |node (l:UT) (v:U) (r:UT)
def UT.get:UT→K→U
 | .leaf,_=> .any
 | .node _ v _, .z=>v
 | .node l _ _, .o k=>l.get k
 | .node _ _ r, .i k=>r.get k
def UT.set:UT→K→U→UT
 | .leaf, .z,v=> .node .leaf v .leaf
 | .leaf, .o k,v=> .node (UT.set .leaf k v) .any .leaf
 | .leaf, .i k,v=> .node .leaf .any (UT.set .leaf k v)
 | .node l _ r, .z,v=> .node l v r
 | .node l u r, .o k,v=> .node (l.set k v) u r
 | .node l u r, .i k,v=> .node l u (r.set k v)
def UT.full:Nat→UT
 |0=> .leaf
 |d+1=> .node (UT.full d) .any (UT.full d)
def UF (f:UT) (s:Nat):U:=UT.get f (K.of s)
def UW (f:UT) (s:Nat) (v:U):UT:=UT.set f (K.of s) v
def lk (k:Nat):List (Nat×En)→Option En
 | []=>none
 |(k',e)::r=>if k=k' then some e else lk k r
def St.fb (st:St) (k v:Nat):Option (Bool×Bool×Option (Nat×Nat)×List (List D)):=
 match lk k st.es with
 |some (.sl v' o d t xs)=>if v'=v then some (o,d,t,xs)else none
 |_=>none
def St.ptr (st:St) (k v:Nat):Option (Nat×List D):=
 match lk k st.es with
 |some (.pt v' ty ds)=>if v'=v then some (ty,ds)else none
 |_=>none
def St.put (st:St) (k:Nat) (e:En):St:=⟨st.nx,(k,e)::st.es⟩
def St.news (st:St) (k:Nat) (own deep:Bool) (ty:Option (Nat×Nat)) (xs:List (List D)):St:=⟨st.nx+1,(k, .sl st.nx own deep ty xs)::st.es⟩
def St.G9 (st:St) (k ty:Nat) (ds:List D):St:=⟨st.nx+1,(k, .pt st.nx ty ds)::st.es⟩
def cD:C→Option D
 | .int k n=>some (.int k n)
 | .bool b=>some (.bool b)
 | .str s=>some (.str s)
 | .fn f=>some (.fn f)
 | .nilf=>some .nilf
 | .nili=>some .nili
 | .nilp=>some .nilp
 | .nils=>some .nils
 | .emp=>some (.sl [])
 |_=>none
def zD:C→Option D
 | .int k n=>some (.int k n)
 | .bool b=>some (.bool b)
 | .str s=>some (.str s)
 | .fn f=>some (.fn f)
 | .nilf=>some .nilf
 | .nili=>some .nili
 | .nils=>some (.sl [])
 | .emp=>some (.sl [])
 |_=>none
def L8:List C→Option (List D)
 | []=>some []
 |c::cs=>match zD c,L8 cs with
  |some d,some ds=>some (d::ds)
  |_,_=>none
def Cm:List C→Option (List D)
 | []=>some []
 |c::cs=>match cD c,Cm cs with
  |some d,some ds=>some (d::ds)
  |_,_=>none
def dC:D→Option C
 | .int k n=>some (.int k n)
 | .bool b=>some (.bool b)
 | .str s=>some (.str s)
 | .fn f=>some (.fn f)
 |_=>none
def JN:List D→Option (List C)
 | []=>some []
 |d::ds=>match dC d,JN ds with
  |some c,some cs=>some (c::cs)
  |_,_=>none
def D.leaf:D→Bool
 | .int _ _=>true
 | .bool _=>true
 | .str _=>true
 | .fn _=>true
 | .nilf=>true
 | .nili=>true
 |_=>false
def cB:List D→Bool
 | []=>true
 |d::ds=>d.leaf && cB ds
def flat:List (List D)→Bool
 | []=>true
 |x::xs=>cB x && flat xs
def wid (e:Nat):List (List D)→Bool
 | []=>true
 |x::xs=>(x.length==e) && wid e xs
def chunks (e:Nat):Nat→List D→List (List D)
 |0,_=> []
 |n+1,ds=>ds.take e::chunks e n (ds.drop e)
def cU:V→U
 | .val g cs=>match Cm cs with
   |some ds=> .val g ds
   |none=> .any
 |_=> .any
def wy (f:UT):X→U
 | .c v=>cU v
 | .s t=>match UF f t with
   | .box _=> .lref t 0
   |v=>v
def sd (f:UT) (x:X):Option (Bool×List D):=
 match wy f x with
 | .val g ds=>some (g,ds)
 |_=>none
def eO (f:UT) (x:X):Option D:=
 match wy f x with
 | .val false [d]=>some d
 |_=>none
def jF (f:UT) (ds:List D):List (Nat×Nat×X)→Option (List D)
 | []=>some ds
 |(off,sz,x)::r=>match sd f x with
  |some (_,vs)=>if vs.length=sz∧off+sz≤ds.length then jF f (aR ds off vs) r else none
  |none=>none
def St.dp (st:St):D→Option (D×St×Bool)
 | .nils=>some (.sl [],st,true)
 | .sl xs=>some (.sl xs,st,false)
 | .ow k v=>match st.fb k v with
   |some (o,d,t,xs)=>some (.sl xs,st.put k (.sl v false false t xs),o && d)
   |none=>none
 | .int k n=>some (.int k n,st,true)
 | .bool b=>some (.bool b,st,true)
 | .str s=>some (.str s,st,true)
 | .fn g=>some (.fn g,st,true)
 | .nilf=>some (.nilf,st,true)
 | .nili=>some (.nili,st,true)
 |_=>none
def St.EM (st:St):List D→Option (List D×St×Bool)
 | []=>some ([],st,true)
 |d::ds=>match st.dp d with
  |some (d',st',b)=>match st'.EM ds with
   |some (ds',st'',b')=>some (d'::ds',st'',b && b')
   |none=>none
  |none=>none
def St.zq (st:St):D→Option (List (List D))
 | .nils=>some []
 | .sl xs=>some xs
 | .ow k v=>match st.fb k v with
   |some (_,_,_,xs)=>some xs
   |none=>none
 | .sa k v o n e=>match st.ptr k v with
   |some (_,ds)=>if o+n * e≤ds.length∧cB ((ds.drop o).take (n * e))=true then some (chunks e n ((ds.drop o).take (n * e)))else none
   |none=>none
 |_=>none
def JR (s:ByteArray):List (List D):=s.data.toList.map fun b=> [.int .u8 (b.toNat:Int)]
def vV:List (List D)→Option ByteArray
 | []=>some ByteArray.empty
 | [.int .u8 n]::r=>match vV r with
   |some b=>some ⟨#[UInt8.ofNat n.toNat]++b.data⟩
   |none=>none
 |_::_=>none
def cN (f:UT) (x:Option X) (dflt:Nat):Option Int:=
 match x with
 |none=>some (dflt:Int)
 |some x=>match eO f x with
  |some (.int _ i)=>some i
  |_=>none
def u9 (st:St) (esz:Nat) (d:D):Option (List (List D)×St×Bool):=
 match d with
 | .str s=>if esz=1 then some (JR s,st,true)else none
 |d=>match st.zq d with
  |some ys=>if wid esz ys=true then
    (if flat ys=true then some (ys,st,true)else match d with
      | .ow k v=>match st.fb k v with
        |some (o,dp,t,xs)=>some (ys,st.put k (.sl v o false t xs),o && dp)
        |none=>none
      |_=>some (ys,st,false))else none
  |none=>none
def uQ (f:UT) (st:St) (esz:Nat):X→Option (List (List D)×St×Bool)
 | .s t=>match UF f t with
   | .lsl ds n e=>if e=esz∧ds.length=n * esz then(match st.EM ds with
      |some (ds',st',b)=>some (chunks esz n ds',st',b)
      |none=>none)else none
   | .val false [d]=>u9 st esz d
   |_=>none
 | .c (.val false [c])=>match cD c with
   |some d=>u9 st esz d
   |none=>none
 | .c _=>none
def LP (op:B2) (x y:D):Option D:=
 match dC x,dC y with
 |some a,some b=>match bD op a b with
  |some c=>cD c
  |none=>none
 |_,_=>none
def IB (t:Option (Nat×Nat)) (ty e:Nat):Bool:=
 match t with
 |none=>true
 |some p=>decide (p=(ty,e))
def bk (a:AI) (f:UT) (st:St):Option (UT×St):=
 match a with
 | .mov d x=>match wy f x with
   | .box _=>none
   | .lsl _ _ _=>none
   | .any=>none
   |v=>some (UW f d v,st)
 | .pick d c a b=>match eO f c with
   |some (.bool true)=>match sd f a with|some (g,cs)=>some (UW f d (.val g cs),st)|none=>none
   |some (.bool false)=>match sd f b with|some (g,cs)=>some (UW f d (.val g cs),st)|none=>none
   |_=>none
 | .lbox d x=>match UF f d with
   | .box _=>none
   |_=>match sd f x with
    |some (_,cs)=>some (UW f d (.box cs),st)
    |none=>none
 | .lal d cs=>match UF f d with
   | .box _=>none
   |_=>match Cm cs with
    |some ds=>some (UW f d (.box ds),st)
    |none=>none
 | .hbox d ty x=>match sd f x with
   |some (_,ds)=>some (UW f d (.val false [.pt d st.nx 0]),st.G9 d ty ds)
   |none=>none
 | .hal d ty cs=>match Cm cs with
   |some ds=>some (UW f d (.val false [.pt d st.nx 0]),st.G9 d ty ds)
   |none=>none
 | .bld d z ps=>match Cm z with
   |some z=>match jF f z ps with
    |some ds=>some (UW f d (.val true ds),st)
    |none=>none
   |none=>none
 | .bsl d ty esz len z ps=>match Cm z with
   |some z=>match jF f ((List.replicate len z).flatten) ps with
    |some ds=>match st.EM ds with
     |some (ds',st',b)=>if ds'.length=len * esz then some (UW f d (.val false [.ow d st'.nx]),st'.news d true b (some (ty,esz)) (chunks esz len ds'))else none
     |none=>none
    |none=>none
   |none=>none
 | .bse d=>some (UW f d (.val false [.ow d st.nx]),st.news d true true none [])
 | .lsl d esz len z ps=>match Cm z with
   |some z=>match jF f ((List.replicate len z).flatten) ps with
    |some ds=>some (UW f d (.lsl ds len esz),st)
    |none=>none
   |none=>none
 | .fad d x off=>match wy f x with
   | .lref r o=>some (UW f d (.lref r (o+off)),st)
   | .val false [.pt k v o]=>match st.ptr k v with
     |some _=>some (UW f d (.val false [.pt k v (o+off)]),st)
     |none=>none
   | .val false [.pe x o]=>some (UW f d (.val false [.pe x (o+off)]),st)
   | .val false [.px k v j o]=>match st.fb k v with
     |some (true,_)=>some (UW f d (.val false [.px k v j (o+off)]),st)
     |_=>none
   |_=>none
 | .iad d x i esz=>match eO f x,eO f i with
   |some c,some (.int _ j)=>if 0≤j then(match c with
    | .sl xs=>match xs[j.toNat]? with
      |some x=>if x.length=esz then some (UW f d (.val false [.pe x 0]),st)else none
      |none=>none
    | .ow k v=>match st.fb k v with
      |some (o,_,_,xs)=>match xs[j.toNat]? with
       |some x=>if x.length=esz then some (UW f d (.val false [if o then .px k v j.toNat 0 else .pe x 0]),st)else none
       |none=>none
      |none=>none
    | .sa k v o n e=>match st.ptr k v with
      |some _=>if e=esz∧j < (n:Int)then some (UW f d (.val false [.pt k v (o+j.toNat * esz)]),st)else none
      |none=>none
    |_=>none)else none
   |_,_=>none
 | .iaa d x i esz len=>match eO f i with
   |some (.int _ j)=>
    if 0≤j∧j < (len:Int)then match wy f x with
     | .lref r o=>some (UW f d (.lref r (o+j.toNat * esz)),st)
     | .val false [.pt k v o]=>match st.ptr k v with
       |some _=>some (UW f d (.val false [.pt k v (o+j.toNat * esz)]),st)
       |none=>none
     |_=>none
    else none
   |_=>none
 | .ldl d r x n g=>match wy f x with
   | .lref r' o=>match UF f r with
     | .box ds=>if r'=r∧o+n≤ds.length then some (UW f d (.val g ((ds.drop o).take n)),st)else none
     |_=>none
   |_=>none
 | .ldh d x n g=>match eO f x with
   |some (.pt k v o)=>match st.ptr k v with
    |some (_,ds)=>if o+n≤ds.length then some (UW f d (.val g ((ds.drop o).take n)),st)else none
    |none=>none
   |some (.pe x o)=>if o+n≤x.length then some (UW f d (.val g ((x.drop o).take n)),st)else none
   |some (.px k v j o)=>match st.fb k v with
    |some (true,_,_,xs)=>match xs[j]? with
     |some x=>if o+n≤x.length then some (UW f d (.val g ((x.drop o).take n)),st)else none
     |none=>none
    |_=>none
   |_=>none
 | .stl r x v n=>match wy f x,sd f v with
   | .lref r' o,some (_,vs)=>match UF f r with
     | .box ds=>if r'=r∧vs.length=n∧o+n≤ds.length then some (UW f r (.box (aR ds o vs)),st)else none
     |_=>none
   |_,_=>none
 | .sth x v n=>match eO f x,sd f v with
   |some (.pt k w o),some (_,vs)=>match st.ptr k w with
    |some (ty,ds)=>if vs.length=n∧o+n≤ds.length then some (f,st.put k (.pt w ty (aR ds o vs)))else none
    |none=>none
   |some (.px k w j o),some (_,vs)=>match st.EM vs with
    |some (vs',st',b)=>match st'.fb k w with
     |some (true,dp,t,xs)=>match xs[j]? with
      |some x=>if vs.length=n∧o+n≤x.length then some (f,st'.put k (.sl w true (dp && cB vs && cB x) t (xs.set j (aR x o vs'))))else none
      |none=>none
     |_=>none
    |none=>none
   |_,_=>none
 | .bin d op x y=>match eO f x,eO f y with
   |some a,some b=>match LP op a b with
    |some c=>some (UW f d (.val false [c]),st)
    |none=>none
   |_,_=>none
 | .beq d neg x y=>match eO f x,eO f y with
   |some (.bool a),some (.bool b)=>some (UW f d (.val false [.bool (if neg then !(a==b)else(a==b))]),st)
   |_,_=>none
 | .snil d neg x=>match eO f x with
   |some .nils=>some (UW f d (.val false [.bool (!neg)]),st)
   |some c=>match st.zq c with
    |some xs=>if xs.isEmpty then none else some (UW f d (.val false [.bool neg]),st)
    |none=>none
   |_=>none
 | .geq d n neg x y=>match sd f x,sd f y with
   |some (true,a),some (true,b)=>if a.length=n then(match JN a,JN b with
    |some a,some b=>match uR a b with
     |some r=>some (UW f d (.val false [.bool (if neg then !r else r)]),st)
     |none=>none
    |_,_=>none)else none
   |_,_=>none
 | .neg d x=>match eO f x with
   |some (.int k n)=>some (UW f d (.val false [.int k (k.wrap (0 - n))]),st)
   |_=>none
 | .not d x=>match eO f x with
   |some (.bool b)=>some (UW f d (.val false [.bool (!b)]),st)
   |_=>none
 | .cvi d k x=>match eO f x with
   |some (.int _ n)=>some (UW f d (.val false [.int k (k.wrap n)]),st)
   |_=>none
 | .cbs d x=>match eO f x with
   |some c=>match st.zq c with
    |some xs=>match vV xs with
     |some b=>some (UW f d (.val false [.str b]),st)
     |none=>none
    |none=>none
   |none=>none
 | .mks d ty esz bytes z x=>match eO f x with
   |some (.int .i64 n)=>match L8 z with
    |some z'=>if 0≤n∧eb (n.toNat * bytes+n.toNat)=true∧z'.length=esz then
      some (UW f d (.val false [.ow d st.nx]),st.news d true true (some (ty,esz)) (List.replicate n.toNat z'))else none
    |none=>none
   |_=>none
 | .fb d esz x lo hi=>match eO f x with
   |some .nils=>match cN f lo 0,cN f hi 0 with
    |some l,some u=>if l=0∧u=0 then some (UW f d (.val false [.nils]),st)else none
    |_,_=>none
   |some (.sl xs)=>match cN f lo 0,cN f hi xs.length with
    |some l,some u=>if wid esz xs=true∧0≤l∧l≤u∧u≤(xs.length:Int)then some (UW f d (.val false [.sl ((xs.drop l.toNat).take (u - l).toNat)]),st)else none
    |_,_=>none
   |some (.ow k v)=>match st.fb k v with
    |some (_,_,t,xs)=>match cN f lo 0,cN f hi xs.length with
     |some l,some u=>if wid esz xs=true∧0≤l∧l≤u∧u≤(xs.length:Int)then
       some (UW f d (.val false [.sl ((xs.drop l.toNat).take (u - l).toNat)]),st.put k (.sl v false false t xs))else none
     |_,_=>none
    |none=>none
   |some (.sa k v o n e)=>match st.ptr k v with
    |some _=>match cN f lo 0,cN f hi n with
     |some l,some u=>if e=esz∧0≤l∧l≤u∧u≤(n:Int)then some (UW f d (.val false [.sa k v (o+l.toNat * e) (u - l).toNat e]),st)else none
     |_,_=>none
    |none=>none
   |_=>none
 | .sls d x lo hi=>match eO f x with
   |some (.str s)=>match cN f lo 0,cN f hi s.size with
    |some l,some u=>if 0≤l∧l≤u∧u≤(s.size:Int)then some (UW f d (.val false [.str (s.extract l.toNat u.toNat)]),st)else none
    |_,_=>none
   |_=>none
 | .sla d x len esz=>match eO f x with
   |some (.pt k v o)=>match st.ptr k v with
    |some (_,ds)=>if o+len * esz≤ds.length then some (UW f d (.val false [.sa k v o len esz]),st)else none
    |none=>none
   |_=>none
 | .fld d x off n g=>match sd f x with
   |some (true,ds)=>if off+n≤ds.length then some (UW f d (.val g ((ds.drop off).take n)),st)else none
   |_=>none
 | .idx d x i esz len g=>match sd f x,eO f i with
   |some (true,ds),some (.int _ j)=>
    if 0≤j∧j < (len:Int)∧j.toNat * esz+esz≤ds.length then some (UW f d (.val g ((ds.drop (j.toNat * esz)).take esz)),st)else none
   |_,_=>none
 | .ids d x i=>match eO f x,eO f i with
   |some (.str s),some (.int _ j)=>
    if 0≤j then match s.data.toList[j.toNat]? with
     |some b=>some (UW f d (.val false [.int .u8 (b.toNat:Int)]),st)
     |none=>none
    else none
   |_,_=>none
 | .ext d x i=>match wy f x with
   | .tup vs=>match vs[i]? with
     |some (g,ds)=>some (UW f d (.val g ds),st)
     |none=>none
   |_=>none
 | .nch d x=>match wy f x with
   | .lref r o=>some (UW f d (.lref r o),st)
   | .val false [.pt k v o]=>match st.ptr k v with
     |some _=>some (UW f d (.val false [.pt k v o]),st)
     |none=>none
   | .val false [.pe x o]=>some (UW f d (.val false [.pe x o]),st)
   | .val false [.px k v j o]=>match st.fb k v with
     |some (true,_)=>some (UW f d (.val false [.px k v j o]),st)
     |_=>none
   | .val false [.fn g]=>some (UW f d (.val false [.fn g]),st)
   |_=>none
 | .len d s x=>match s,eO f x with
   |false,some c=>match st.zq c with
    |some xs=>some (UW f d (.val false [.int .i64 (xs.length:Int)]),st)
    |none=>none
   |true,some (.str s)=>some (UW f d (.val false [.int .i64 (s.size:Int)]),st)
   |_,_=>none
 | .app d ty esz bytes x y=>match eO f x,uQ f st esz y with
   |some a,some (ys,st',b)=>match a with
    | .nils=>if eb (ys.length * bytes+ys.length)=true then some (UW f d (.val false [.ow d st'.nx]),st'.news d true b (some (ty,esz)) ys)else none
    | .ow k v=>match st'.fb k v with
      |some (true,dp,t,xs)=>if IB t ty esz=true∧eb ((xs.length+ys.length) * bytes+(xs.length+ys.length))=true then
        some (UW f d (.val false [.ow k st'.nx]),st'.news k true (dp && b) (some (ty,esz)) (xs++ys))else none
      |_=>none
    |_=>none
   |_,_=>none
 | .cpy d esz x y=>match eO f x,uQ f st esz y with
   |some (.ow k v),some (ys,_,_)=>match st.fb k v with
    |some (true,dp,t,xs)=>if flat ys=true∧flat xs=true∧xs.isEmpty=false∧wid esz xs=true∧wid esz ys=true then
      some (UW f d (.val false [.int .i64 ((min ys.length xs.length:Nat):Int)]),st.put k (.sl v true dp t (ys.take (min ys.length xs.length)++xs.drop (min ys.length xs.length))))else none
    |_=>none
   |some (.sa k v o n e),some (ys,_,_)=>match st.ptr k v with
    |some (ty,ds)=>if flat ys=true∧e=esz∧wid esz ys=true∧o+n * e≤ds.length then
      some (UW f d (.val false [.int .i64 ((min ys.length n:Nat):Int)]),st.put k (.pt v ty (aR ds o (ys.take (min ys.length n)).flatten)))else none
    |none=>none
   |_,_=>none
 | .mm d mx x y=>match eO f x,eO f y with
   |some (.int .i64 a),some (.int .i64 b)=>some (UW f d (.val false [.int .i64 (if mx then(if a < b then b else a)else(if b < a then b else a))]),st)
   |_,_=>none
 | .call .. =>none
 | .clv .. =>none
 | .lde d x n g e=>match eO f x with
   |some (.px k v j o)=>match st.fb k v with
    |some (true,_,some (ty,_),xs)=>match xs[j]? with
     |some x=>if ty=e∧o+n≤x.length then some (UW f d (.val g ((x.drop o).take n)),st)else none
     |none=>none
    |_=>none
   |_=>none
 | .cle .. =>none
end Go.Eng
namespace Go.Eng
mutual
def RD (h:H):D→C→List Nat→Prop
 | .int k n,c,S=>c= .int k n∧S= []
 | .bool b,c,S=>c= .bool b∧S= []
 | .str s,c,S=>c= .str s∧S= []
 | .fn f,c,S=>c= .fn f∧S= []
 | .nilf,c,S=>c= .nilf∧S= []
 | .nili,c,S=>c= .nili∧S= []
 | .nilp,c,S=>c= .nilp∧S= []
 | .nils,c,S=>c= .nils∧S= []
 | .sl xs,c,S=>(xs= []∧S= []∧(c= .nils∨c= .emp))∨
    ∃id off e bs S',c= .sl id off xs.length e∧h.cells id=some bs∧off+xs.length * e≤bs.length∧S=id::S'∧aG h xs e ((bs.drop off).take (xs.length * e)) S'
 | .ow _ _,_,_=>False
 | .pt _ _ _,_,_=>False
 | .pe _ _,_,_=>False
 | .px _ _ _ _,_,_=>False
 | .sa _ _ _ _ _,_,_=>False
def bT (h:H):List D→List C→List Nat→Prop
 | [],cs,S=>cs= []∧S= []
 |d::ds,cs,S=>∃c cr S1 S2,cs=c::cr∧S=S1++S2∧RD h d c S1∧bT h ds cr S2
def aG (h:H):List (List D)→Nat→List C→List Nat→Prop
 | [],e,cs,S=>cs= []∧S= []
 |x::xs,e,cs,S=>∃c1 c2 S1 S2,cs=c1++c2∧S=S1++S2∧c1.length=e∧bT h x c1 S1∧aG h xs e c2 S2
end
theorem jO {h:H} {xs:List (List D)} {c:C} {S:List Nat}:RD h (.sl xs) c S↔((xs= []∧S= []∧(c= .nils∨c= .emp))∨
 ∃id off e bs S',c= .sl id off xs.length e∧h.cells id=some bs∧off+xs.length * e≤bs.length∧S=id::S'∧aG h xs e ((bs.drop off).take (xs.length * e)) S'):=by
 conv=>lhs;unfold RD
mutual
theorem RD.frame {h h':H}:∀(d:D) {c:C} {S:List Nat},RD h d c S→(∀i∈S,h'.cells i=h.cells i)→RD h' d c S
 | .int _ _,_,_,hr,_=>by simpa only[RD]using hr
 | .bool _,_,_,hr,_=>by simpa only[RD]using hr
 | .str _,_,_,hr,_=>by simpa only[RD]using hr
 | .fn _,_,_,hr,_=>by simpa only[RD]using hr
 | .nilf,_,_,hr,_=>by simpa only[RD]using hr
 | .nili,_,_,hr,_=>by simpa only[RD]using hr
 | .nilp,_,_,hr,_=>by simpa only[RD]using hr
 | .nils,_,_,hr,_=>by simpa only[RD]using hr
 | .sl xs,c,S,hr,hs=>by
   simp only[RD]at hr⊢
   rcases hr with hr|⟨id,off,e,bs,S',h1,h2,h3,h4,h5⟩
   ·exact .inl hr
   ·exact .inr ⟨id,off,e,bs,S',h1,(hs id (by rw[h4];simp)).trans h2,h3,h4,aG.frame xs h5 fun i hi=>hs i (by rw[h4];simp[hi])⟩
 | .ow _ _,_,_,hr,_=>by simp only[RD]at hr
 | .pt _ _ _,_,_,hr,_=>by simp only[RD]at hr
 | .pe _ _,_,_,hr,_=>by simp only[RD]at hr
 | .px _ _ _ _,_,_,hr,_=>by simp only[RD]at hr
 | .sa _ _ _ _ _,_,_,hr,_=>by simp only[RD]at hr
theorem bT.frame {h h':H}:∀(ds:List D) {cs:List C} {S:List Nat},bT h ds cs S→(∀i∈S,h'.cells i=h.cells i)→bT h' ds cs S
 | [],_,_,hr,_=>by simpa only[bT]using hr
 |d::ds,cs,S,hr,hs=>by
  simp only[bT]at hr⊢
  obtain⟨c,cr,S1,S2,h1,h2,h3,h4⟩:=hr
  exact⟨c,cr,S1,S2,h1,h2,RD.frame d h3 fun i hi=>hs i (by rw[h2];simp[hi]),bT.frame ds h4 fun i hi=>hs i (by rw[h2];simp[hi])⟩
theorem aG.frame {h h':H}:∀(xs:List (List D)) {e:Nat} {cs:List C} {S:List Nat},aG h xs e cs S→(∀i∈S,h'.cells i=h.cells i)→aG h' xs e cs S
 | [],_,_,_,hr,_=>by simpa only[aG]using hr
 |x::xs,e,cs,S,hr,hs=>by
  simp only[aG]at hr⊢
  obtain⟨c1,c2,S1,S2,h1,h2,h3,h4,h5⟩:=hr
  exact⟨c1,c2,S1,S2,h1,h2,h3,bT.frame x h4 fun i hi=>hs i (by rw[h2];simp[hi]),aG.frame xs h5 fun i hi=>hs i (by rw[h2];simp[hi])⟩
end
mutual
theorem RD.lt {h:H}:∀(d:D) {c:C} {S:List Nat},RD h d c S→∀i∈S,i < h.length
 | .int _ _,_,_,hr,i,hi=>by simp only[RD]at hr;rw[hr.2]at hi;cases hi
 | .bool _,_,_,hr,i,hi=>by simp only[RD]at hr;rw[hr.2]at hi;cases hi
 | .str _,_,_,hr,i,hi=>by simp only[RD]at hr;rw[hr.2]at hi;cases hi
 | .fn _,_,_,hr,i,hi=>by simp only[RD]at hr;rw[hr.2]at hi;cases hi
 | .nilf,_,_,hr,i,hi=>by simp only[RD]at hr;rw[hr.2]at hi;cases hi
 | .nili,_,_,hr,i,hi=>by simp only[RD]at hr;rw[hr.2]at hi;cases hi
 | .nilp,_,_,hr,i,hi=>by simp only[RD]at hr;rw[hr.2]at hi;cases hi
 | .nils,_,_,hr,i,hi=>by simp only[RD]at hr;rw[hr.2]at hi;cases hi
 | .sl xs,c,S,hr,i,hi=>by
   simp only[RD]at hr
   rcases hr with⟨_,e,_⟩|⟨id,off,e,bs,S',h1,h2,h3,h4,h5⟩
   ·rw[e]at hi;cases hi
   ·rw[h4]at hi
    rcases List.mem_cons.1 hi with rfl|hi
    ·exact fH h2
    ·exact aG.lt xs h5 i hi
 | .ow _ _,_,_,hr,_,_=>by simp only[RD]at hr
 | .pt _ _ _,_,_,hr,_,_=>by simp only[RD]at hr
 | .pe _ _,_,_,hr,_,_=>by simp only[RD]at hr
 | .px _ _ _ _,_,_,hr,_,_=>by simp only[RD]at hr
 | .sa _ _ _ _ _,_,_,hr,_,_=>by simp only[RD]at hr
theorem bT.lt {h:H}:∀(ds:List D) {cs:List C} {S:List Nat},bT h ds cs S→∀i∈S,i < h.length
 | [],_,_,hr,i,hi=>by simp only[bT]at hr;rw[hr.2]at hi;cases hi
 |d::ds,cs,S,hr,i,hi=>by
  simp only[bT]at hr
  obtain⟨c,cr,S1,S2,h1,h2,h3,h4⟩:=hr
  rw[h2]at hi
  rcases List.mem_append.1 hi with hi|hi
  ·exact RD.lt d h3 i hi
  ·exact bT.lt ds h4 i hi
theorem aG.lt {h:H}:∀(xs:List (List D)) {e:Nat} {cs:List C} {S:List Nat},aG h xs e cs S→∀i∈S,i < h.length
 | [],_,_,_,hr,i,hi=>by simp only[aG]at hr;rw[hr.2]at hi;cases hi
 |x::xs,e,cs,S,hr,i,hi=>by
  simp only[aG]at hr
  obtain⟨c1,c2,S1,S2,h1,h2,h3,h4,h5⟩:=hr
  rw[h2]at hi
  rcases List.mem_append.1 hi with hi|hi
  ·exact bT.lt x h4 i hi
  ·exact aG.lt xs h5 i hi
end
mutual
theorem RD.uniq {h:H}:∀(d:D) {c:C} {S S':List Nat},RD h d c S→RD h d c S'→S=S'
 | .int _ _,_,_,_,hr,hr'=>by simp only[RD]at hr hr';rw[hr.2,hr'.2]
 | .bool _,_,_,_,hr,hr'=>by simp only[RD]at hr hr';rw[hr.2,hr'.2]
 | .str _,_,_,_,hr,hr'=>by simp only[RD]at hr hr';rw[hr.2,hr'.2]
 | .fn _,_,_,_,hr,hr'=>by simp only[RD]at hr hr';rw[hr.2,hr'.2]
 | .nilf,_,_,_,hr,hr'=>by simp only[RD]at hr hr';rw[hr.2,hr'.2]
 | .nili,_,_,_,hr,hr'=>by simp only[RD]at hr hr';rw[hr.2,hr'.2]
 | .nilp,_,_,_,hr,hr'=>by simp only[RD]at hr hr';rw[hr.2,hr'.2]
 | .nils,_,_,_,hr,hr'=>by simp only[RD]at hr hr';rw[hr.2,hr'.2]
 | .sl xs,c,S,T,hr,hr'=>by
   simp only[RD]at hr hr'
   rcases hr with⟨_,h2,h3⟩|⟨id,off,e,bs,S',h1,h2,h3,h4,h5⟩
   ·rcases hr' with⟨_,k2,_⟩|⟨id',off',e',bs',T',k1,_⟩
    ·rw[h2,k2]
    ·rcases h3 with h3|h3 <;>rw[h3]at k1 <;>cases k1
   ·rcases hr' with⟨_,_,k3⟩|⟨id',off',e',bs',T',k1,k2,k3,k4,k5⟩
    ·rcases k3 with k3|k3 <;>rw[k3]at h1 <;>cases h1
    ·rw[h1]at k1
     cases k1
     rw[h2]at k2
     cases k2
     rw[h4,k4,aG.uniq xs h5 k5]
 | .ow _ _,_,_,_,hr,_=>by simp only[RD]at hr
 | .pt _ _ _,_,_,_,hr,_=>by simp only[RD]at hr
 | .pe _ _,_,_,_,hr,_=>by simp only[RD]at hr
 | .px _ _ _ _,_,_,_,hr,_=>by simp only[RD]at hr
 | .sa _ _ _ _ _,_,_,_,hr,_=>by simp only[RD]at hr
theorem bT.uniq {h:H}:∀(ds:List D) {cs:List C} {S S':List Nat},bT h ds cs S→bT h ds cs S'→S=S'
 | [],_,_,_,hr,hr'=>by simp only[bT]at hr hr';rw[hr.2,hr'.2]
 |d::ds,cs,S,T,hr,hr'=>by
  simp only[bT]at hr hr'
  obtain⟨c,cr,S1,S2,h1,h2,h3,h4⟩:=hr
  obtain⟨c',cr',T1,T2,k1,k2,k3,k4⟩:=hr'
  rw[h1]at k1
  cases k1
  rw[h2,k2,RD.uniq d h3 k3,bT.uniq ds h4 k4]
theorem aG.uniq {h:H}:∀(xs:List (List D)) {e:Nat} {cs:List C} {S S':List Nat},aG h xs e cs S→aG h xs e cs S'→S=S'
 | [],_,_,_,_,hr,hr'=>by simp only[aG]at hr hr';rw[hr.2,hr'.2]
 |x::xs,e,cs,S,T,hr,hr'=>by
  simp only[aG]at hr hr'
  obtain⟨c1,c2,S1,S2,h1,h2,h3,h4,h5⟩:=hr
  obtain⟨d1,d2,T1,T2,k1,k2,k3,k4,k5⟩:=hr'
  rw[h1]at k1
  obtain⟨rfl,rfl⟩:=List.append_inj k1 (by rw[h3,k3])
  rw[h2,k2,bT.uniq x h4 k4,aG.uniq xs h5 k5]
end
section
variable {h:H}
theorem bT.len:∀ {ds:List D} {cs:List C} {S:List Nat},bT h ds cs S→cs.length=ds.length
 | [],_,_,hr=>by simp only[bT]at hr;rw[hr.1];rfl
 |d::ds,_,_,hr=>by
  simp only[bT]at hr
  obtain⟨c,cr,S1,S2,h1,_,_,h4⟩:=hr
  rw[h1,List.length_cons,h4.len,List.length_cons]
theorem aG.len:∀ {xs:List (List D)} {e:Nat} {cs:List C} {S:List Nat},aG h xs e cs S→cs.length=xs.length * e
 | [],e,_,_,hr=>by simp only[aG]at hr;rw[hr.1];simp
 |x::xs,e,_,_,hr=>by
  simp only[aG]at hr
  obtain⟨c1,c2,S1,S2,h1,_,h3,_,h5⟩:=hr
  rw[h1,List.length_append,h3,h5.len,List.length_cons,Nat.add_mul,Nat.one_mul,Nat.add_comm]
theorem aG.wid:∀ {xs:List (List D)} {e:Nat} {cs:List C} {S:List Nat},aG h xs e cs S→∀x∈xs,x.length=e
 | [],_,_,_,_,x,hx=>by cases hx
 |y::xs,e,_,_,hr,x,hx=>by
  simp only[aG]at hr
  obtain⟨c1,c2,S1,S2,h1,_,h3,h4,h5⟩:=hr
  rcases List.mem_cons.1 hx with rfl|hx
  ·rw[←h4.len,h3]
  ·exact h5.wid x hx
theorem Dg {e:Nat}:∀ {xs:List (List D)},wid e xs=true→∀x∈xs,x.length=e
 | [],_,x,hx=>by cases hx
 |y::xs,hw,x,hx=>by
  simp only[Eng.wid,Bool.and_eq_true,beq_iff_eq]at hw
  rcases List.mem_cons.1 hx with rfl|hx
  ·exact hw.1
  ·exact Dg hw.2 x hx
theorem aG.same {xs:List (List D)} {e e':Nat} {cs:List C} {S:List Nat} (hr:aG h xs e cs S) (hw:Eng.wid e' xs=true):e=e'∨xs.length=0:=by
 cases xs with
 |nil=>exact .inr rfl
 |cons x xs=>exact .inl ((hr.wid x (by simp)).symm.trans (Dg hw x (by simp)))
theorem aG.join:∀ {xs ys:List (List D)} {e:Nat} {cs ds:List C} {S S':List Nat},aG h xs e cs S→aG h ys e ds S'→aG h (xs++ys) e (cs++ds) (S++S')
 | [],ys,e,_,ds,_,S',hr,h2=>by simp only[aG]at hr;rw[hr.1,hr.2];exact h2
 |x::xs,ys,e,cs,ds,S,S',hr,h2=>by
  simp only[aG]at hr
  obtain⟨c1,c2,S1,S2,h1,h3,h4,h5,h6⟩:=hr
  simp only[List.cons_append,aG]
  exact⟨c1,c2++ds,S1,S2++S',by rw[h1,List.append_assoc],by rw[h3,List.append_assoc],h4,h5,h6.join h2⟩
theorem bT.join:∀ {xs ys:List D} {cs ds:List C} {S S':List Nat},bT h xs cs S→bT h ys ds S'→bT h (xs++ys) (cs++ds) (S++S')
 | [],ys,_,ds,_,S',hr,h2=>by simp only[bT]at hr;rw[hr.1,hr.2];exact h2
 |x::xs,ys,cs,ds,S,S',hr,h2=>by
  simp only[bT]at hr
  obtain⟨c,cr,S1,S2,h1,h3,h5,h6⟩:=hr
  simp only[List.cons_append,bT]
  exact⟨c,cr++ds,S1,S2++S',by rw[h1];rfl,by rw[h3,List.append_assoc],h5,h6.join h2⟩
theorem bT.cut:∀ {xs:List D} {cs:List C} {S:List Nat},bT h xs cs S→∀n,∃S1 S2,S=S1++S2∧bT h (xs.take n) (cs.take n) S1∧bT h (xs.drop n) (cs.drop n) S2
 |xs,cs,S,hr,0=>⟨[],S,rfl,by simp[bT],by simpa using hr⟩
 | [],_,_,hr,n+1=>by simp only[bT]at hr;obtain⟨rfl,rfl⟩:=hr;exact⟨[],[],rfl,by simp[bT],by simp[bT]⟩
 |x::xs,cs,S,hr,n+1=>by
  simp only[bT]at hr
  obtain⟨c,cr,S1,S2,h1,h3,h5,h6⟩:=hr
  obtain⟨T1,T2,k1,k2,k3⟩:=h6.cut n
  subst h1 h3 k1
  refine⟨S1++T1,T2,by simp,?_,by simpa using k3⟩
  simp only[List.take_succ_cons,bT]
  exact⟨c,_,S1,T1,rfl,rfl,h5,k2⟩
theorem aG.cut:∀ {xs:List (List D)} {e:Nat} {cs:List C} {S:List Nat},aG h xs e cs S→∀n,∃S1 S2,S=S1++S2∧aG h (xs.take n) e (cs.take (n * e)) S1∧aG h (xs.drop n) e (cs.drop (n * e)) S2
 |xs,e,cs,S,hr,0=>⟨[],S,rfl,by simp[aG],by simpa using hr⟩
 | [],e,_,_,hr,n+1=>by simp only[aG]at hr;obtain⟨rfl,rfl⟩:=hr;exact⟨[],[],rfl,by simp[aG],by simp[aG]⟩
 |x::xs,e,cs,S,hr,n+1=>by
  simp only[aG]at hr
  obtain⟨c1,c2,S1,S2,h1,h3,h4,h5,h6⟩:=hr
  obtain⟨T1,T2,k1,k2,k3⟩:=h6.cut n
  subst h1 h3 k1
  have e1:(n+1) * e=c1.length+n * e:=by rw[Nat.add_mul,Nat.one_mul,h4,Nat.add_comm]
  refine⟨S1++T1,T2,by simp,?_,?_⟩
  ·rw[e1,List.take_length_add_append]
   simp only[List.take_succ_cons,aG]
   exact⟨c1,_,S1,T1,rfl,rfl,h4,h5,k2⟩
  ·rw[e1,List.drop_append]
   simpa[List.drop_eq_nil_of_le]using k3
theorem aG.at {xs:List (List D)} {e:Nat} {cs:List C} {S:List Nat} (hr:aG h xs e cs S) {j:Nat} {x:List D} (hx:xs[j]? =some x):
 ∃S1 Sj S2,S=S1++(Sj++S2)∧aG h (xs.take j) e (cs.take (j * e)) S1∧bT h x ((cs.drop (j * e)).take e) Sj∧aG h (xs.drop (j+1)) e (cs.drop ((j+1) * e)) S2:=by
 obtain⟨S1,S2,h1,h2,h3⟩:=hr.cut j
 have hlt:=(List.getElem?_eq_some_iff.1 hx).1
 have hd:xs.drop j=x::xs.drop (j+1):=by
  rw[List.drop_eq_getElem_cons hlt]
  congr 1
  exact(List.getElem?_eq_some_iff.1 hx).2
 rw[hd]at h3
 simp only[aG]at h3
 obtain⟨c1,c2,T1,T2,k1,k2,k3,k4,k5⟩:=h3
 refine⟨S1,T1,T2,by rw[h1,k2],h2,?_,?_⟩
 ·rw[k1,←k3,List.take_left];exact k4
 ·have e1:cs.drop ((j+1) * e)=(cs.drop (j * e)).drop e:=by rw[List.drop_drop];congr 1;rw[Nat.add_mul,Nat.one_mul]
  rw[e1,k1,←k3,List.drop_left];rw[k3];exact k5
theorem aG.Q7 {x:List D} {e:Nat} {cs:List C} {S:List Nat} (hr:bT h x cs S) (hl:cs.length=e):aG h [x] e cs S:=by
 simp only[aG]
 exact⟨cs,[],S,[],by simp,by simp,hl,hr,rfl,rfl⟩
theorem oP {e:Nat}:∀ {n:Nat} {ds:List D} {cs:List C} {S:List Nat},bT h ds cs S→ds.length=n * e→aG h (chunks e n ds) e cs S
 |0,ds,cs,S,hr,hl=>by
  have:ds= []:=List.eq_nil_of_length_eq_zero (by simpa using hl)
  subst this
  simp only[bT]at hr
  simp only[chunks,aG]
  exact hr
 |n+1,ds,cs,S,hr,hl=>by
  obtain⟨S1,S2,h1,h2,h3⟩:=hr.cut e
  have hcl:=hr.len
  have hle:e≤ds.length:=by rw[hl,Nat.add_mul,Nat.one_mul];exact Nat.le_add_left _ _
  simp only[chunks,aG]
  exact⟨cs.take e,cs.drop e,S1,S2,(List.take_append_drop _ _).symm,h1,by simp;omega,h2,oP h3 (by simp[hl,Nat.add_mul])⟩
theorem gL {e:Nat}:∀ {n:Nat} {ds:List D},(chunks e n ds).length=n
 |0,_=>rfl
 |n+1,_=>by simp[chunks,gL]
theorem RD.AV {d:D} {c:C} {S:List Nat} (hr:RD h d c S) (hl:d.leaf=true):S= []:=by
 cases d <;>simp[D.leaf]at hl <;>simp only[RD]at hr <;>exact hr.2
theorem RD.Oy {h':H} {d:D} {c:C} {S:List Nat} (hr:RD h d c S) (hl:d.leaf=true):RD h' d c []:=by
 cases d <;>simp[D.leaf]at hl <;>simp only[RD]at hr⊢ <;>first|exact⟨hr.1,trivial⟩|exact⟨hr.1,rfl⟩
theorem bT.AV:∀ {ds:List D} {cs:List C} {S:List Nat},bT h ds cs S→cB ds=true→S= []
 | [],_,_,hr,_=>by simp only[bT]at hr;exact hr.2
 |d::ds,_,_,hr,hl=>by
  simp only[bT]at hr
  simp only[cB,Bool.and_eq_true]at hl
  obtain⟨c,cr,S1,S2,_,h2,h3,h4⟩:=hr
  rw[h2,h3.AV hl.1,h4.AV hl.2];rfl
theorem aG.y0:∀ {xs:List (List D)} {e:Nat} {cs:List C} {S:List Nat},aG h xs e cs S→flat xs=true→S= []
 | [],_,_,_,hr,_=>by simp only[aG]at hr;exact hr.2
 |x::xs,_,_,_,hr,hl=>by
  simp only[aG]at hr
  simp only[flat,Bool.and_eq_true]at hl
  obtain⟨c1,c2,S1,S2,_,h2,_,h3,h4⟩:=hr
  rw[h2,h3.AV hl.1,h4.y0 hl.2];rfl
theorem LK {c:C} {d:D} (hc:cD c=some d):RD h d c []:=by
 cases c <;>simp[cD]at hc <;>subst hc <;>simp[RD]
theorem Lp {c:C} {d:D} (hc:zD c=some d):RD h d c []:=by
 cases c <;>simp[zD]at hc <;>subst hc <;>simp[RD]
theorem DB:∀ {cs:List C} {ds:List D},L8 cs=some ds→bT h ds cs []
 | [],ds,hc=>by simp[L8]at hc;subst hc;simp[bT]
 |c::cs,ds,hc=>by
  simp only[L8]at hc
  split at hc
  ·rename_i d ds' h1 h2
   simp at hc
   subst hc
   simp only[bT]
   exact⟨c,cs,[],[],rfl,rfl,Lp h1,DB h2⟩
  ·simp at hc
end
structure Gh where
 c:Nat→C
 w:Nat→List Nat
 u:Nat→List Nat
structure Cx where
 hb:H
 ar:Nat→Prop
 bs:List Nat
 pin:List (Nat×Nat×Nat)
def PR (Γ:Cx) (γ:Gh) (st:St) (i:Nat):Prop:=(Γ.ar i∨Γ.hb.length≤i∨i∈Γ.bs)∧∀k e,lk k st.es=some e→i∉γ.w k
def DC (Γ:Cx) (γ:Gh) (st:St) (h:H) (c:C) (d:D):Prop:=
 match d with
 | .ow k v=>v < st.nx∧∀o dp t xs,lk k st.es=some (.sl v o dp t xs)→c=γ.c k
 | .pt k v o=>v < st.nx∧∀ty ds,lk k st.es=some (.pt v ty ds)→∃id,γ.c k= .ptr id 0∧c= .ptr id o
 | .pe x o=>∃id p bs S,c= .ptr id (p+o)∧h.cells id=some bs∧p+x.length≤bs.length∧bT h x ((bs.drop p).take x.length) S∧PR Γ γ st id∧∀i∈S,PR Γ γ st i
 | .px k v j o=>v < st.nx∧∀dp t xs,lk k st.es=some (.sl v true dp t xs)→∃id e,γ.c k= .sl id 0 xs.length e∧c= .ptr id (j * e+o)∧j < xs.length
 | .sa k v o n e=>v < st.nx∧∀ty ds,lk k st.es=some (.pt v ty ds)→∃id,γ.c k= .ptr id 0∧c= .sl id o n e
 |d=>∃S,RD h d c S∧∀i∈S,PR Γ γ st i
def UR (Γ:Cx) (γ:Gh) (st:St) (h:H) (v:V) (u:U):Prop:=
 match u with
 | .any=>∀cs,v≠ .box cs
 | .val g ds=>∃cs,v= .val g cs∧ah (DC Γ γ st h) cs ds
 | .tup vs=>∃ws,v= .tup ws∧ah (fun(w:Bool×List C) (v:Bool×List D)=>w.1=v.1∧ah (DC Γ γ st h) w.2 v.2) ws vs
 | .box ds=>∃cs,v= .box cs∧ah (DC Γ γ st h) cs ds
 | .lsl ds n e=>∃cs,v= .lsl cs n e∧ah (DC Γ γ st h) cs ds
 | .lref r o=>v= .lref r o
def ER (Γ:Cx) (γ:Gh) (st:St) (h:H) (k:Nat) (e:En):Prop:=
 match e with
 | .sl v true dp t xs=>v < st.nx∧((xs= []∧γ.w k= []∧γ.u k= []∧(γ.c k= .nils∨γ.c k= .emp))∨
    ∃id ty ez bs S,t=some (ty,ez)∧γ.c k= .sl id 0 xs.length ez∧γ.w k= [id]∧h[id]? =some (.own ty bs)∧bs.length=xs.length * ez∧aG h xs ez bs S∧(∀i∈S,PR Γ γ st i)∧γ.u k=(if dp=true then S else []))
 | .sl v false dp t xs=>v < st.nx∧γ.w k= []∧γ.u k= []∧∃S,RD h (.sl xs) (γ.c k) S∧∀i∈S,PR Γ γ st i
 | .pt v ty ds=>v < st.nx∧γ.u k= []∧∃id bs,γ.c k= .ptr id 0∧γ.w k= [id]∧h[id]? =some (.own ty bs)∧ah (DC Γ γ st h) bs ds
def pH (Γ:Cx) (i:Nat):Prop:=i∈Γ.bs∨Γ.hb.length≤i
def hH (Γ:Cx) (γ:Gh) (st:St) (S:List Nat):Prop:=
 S.Nodup∧(∀i∈S,pH Γ i)∧∀k e,lk k st.es=some e→∀i∈S,i∉γ.w k++γ.u k
structure aB (Γ:Cx) (γ:Gh) (f:UT) (st:St) (mf:Fr) (h:H):Prop where
 fr:∀k:K,UR Γ γ st h (PT.get mf k) (UT.get f k)
 en:∀k e,lk k st.es=some e→ER Γ γ st h k e
 nd:∀k e,lk k st.es=some e→(γ.w k++γ.u k).Nodup∧∀i∈γ.w k++γ.u k,pH Γ i
 dj:∀k k' e e',k≠k'→lk k st.es=some e→lk k' st.es=some e'→∀i∈γ.w k++γ.u k,i∉γ.w k'++γ.u k'
 len:Γ.hb.length≤h.length
 base:∀i,i < Γ.hb.length→i∉Γ.bs→h[i]? =Γ.hb[i]?
 arb:∀i,Γ.ar i→i < Γ.hb.length
 pin:∀p∈Γ.pin,p.2.1 < st.nx∧∀ty ds,lk p.1 st.es=some (.pt p.2.1 ty ds)→γ.c p.1= .ptr p.2.2 0
 own:∀i cs,pH Γ i→h[i]? ≠some (.ro cs)
def Rel (Γ:Cx) (f:UT) (st:St) (mf:Fr) (h:H):Prop:=∃γ,aB Γ γ f st mf h
end Go.Eng
namespace Go.Eng
theorem UT.bL (k:K):UT.leaf.get k= .any:=by cases k <;>rfl
theorem UT.bp:∀(k k':K) (f:UT) (v:U),(f.set k v).get k'=if k'=k then v else f.get k'
 | .z, .z, .leaf,_=>rfl
 | .z, .o _, .leaf,_=>by simp[UT.set,UT.get,UT.bL]
 | .z, .i _, .leaf,_=>by simp[UT.set,UT.get,UT.bL]
 | .o _, .z, .leaf,_=>by simp[UT.set,UT.get]
 | .o k, .o k', .leaf,v=>by simp[UT.set,UT.get,UT.bp k k' .leaf v,UT.bL]
 | .o _, .i _, .leaf,_=>by simp[UT.set,UT.get,UT.bL]
 | .i _, .z, .leaf,_=>by simp[UT.set,UT.get]
 | .i _, .o _, .leaf,_=>by simp[UT.set,UT.get,UT.bL]
 | .i k, .i k', .leaf,v=>by simp[UT.set,UT.get,UT.bp k k' .leaf v,UT.bL]
 | .z, .z, .node _ _ _,_=>rfl
 | .z, .o _, .node _ _ _,_=>by simp[UT.set,UT.get]
 | .z, .i _, .node _ _ _,_=>by simp[UT.set,UT.get]
 | .o _, .z, .node _ _ _,_=>by simp[UT.set,UT.get]
 | .o k, .o k', .node l _ _,v=>by simp[UT.set,UT.get,UT.bp k k' l v]
 | .o _, .i _, .node _ _ _,_=>by simp[UT.set,UT.get]
 | .i _, .z, .node _ _ _,_=>by simp[UT.set,UT.get]
 | .i _, .o _, .node _ _ _,_=>by simp[UT.set,UT.get]
 | .i k, .i k', .node _ _ r,v=>by simp[UT.set,UT.get,UT.bp k k' r v]
theorem UT.fg:∀(d:Nat) (k:K),(UT.full d).get k= .any
 |0,k=>UT.bL k
 |d+1, .z=>rfl
 |d+1, .o k=>UT.fg d k
 |d+1, .i k=>UT.fg d k
section
variable {Γ:Cx} {γ γ':Gh} {f f':UT} {st st':St} {mf mf':Fr} {h h':H}
theorem aB.set (hr:aB Γ γ f st mf h) {d:Nat} {mv:V} {uv:U} (hv:UR Γ γ st h mv uv):aB Γ γ (UW f d uv) st (mf.set d mv) h:=by
 refine {hr with fr:=fun k=> ?_}
 unfold UW Fr.set
 rw[UT.bp,PT.bp]
 split
 ·exact hv
 ·exact hr.fr k
theorem aB.slot (hr:aB Γ γ f st mf h) (s:Nat):UR Γ γ st h (mf.get s) (UF f s):=hr.fr (K.of s)
structure Mo (Γ:Cx) (γ:Gh) (st:St) (h:H) (γ':Gh) (st':St) (h':H):Prop where
 nx:st.nx≤st'.nx
 len:h.length≤h'.length
 cell:∀i,i < h.length→PR Γ γ st i→h'.cells i=h.cells i∧PR Γ γ' st' i
 sl:∀k v o dp t xs,v < st.nx→lk k st'.es=some (.sl v o dp t xs)→∃o' dp' t' xs',lk k st.es=some (.sl v o' dp' t' xs')∧γ'.c k=γ.c k∧(o=true→o'=true∧xs.length=xs'.length)
 pt:∀k v ty ds,v < st.nx→lk k st'.es=some (.pt v ty ds)→∃ty' ds',lk k st.es=some (.pt v ty' ds')∧γ'.c k=γ.c k
theorem Mo.refl:Mo Γ γ st h γ st h:=⟨Nat.le_refl _,Nat.le_refl _,fun i _ hp=>⟨rfl,hp⟩,fun k v o dp t xs _ hl=>⟨o,dp,t,xs,hl,rfl,fun h=>⟨h,rfl⟩⟩,fun k v ty ds _ hl=>⟨ty,ds,hl,rfl⟩⟩
theorem Mo.trans {γ'':Gh} {st'':St} {h'':H} (hm:Mo Γ γ st h γ' st' h') (hn:Mo Γ γ' st' h' γ'' st'' h''):Mo Γ γ st h γ'' st'' h'':=by
 refine⟨Nat.le_trans hm.nx hn.nx,Nat.le_trans hm.len hn.len,fun i hi hp=> ?_,fun k v o dp t xs hv hl=> ?_,fun k v ty ds hv hl=> ?_⟩
 ·obtain⟨h1,h2⟩:=hm.cell i hi hp
  obtain⟨h3,h4⟩:=hn.cell i (Nat.lt_of_lt_of_le hi hm.len) h2
  exact⟨h3.trans h1,h4⟩
 ·obtain⟨o1,d1,t1,x1,k1,k2,k3⟩:=hn.sl k v o dp t xs (Nat.lt_of_lt_of_le hv hm.nx) hl
  obtain⟨o2,d2,t2,x2,q1,q2,q3⟩:=hm.sl k v o1 d1 t1 x1 hv k1
  exact⟨o2,d2,t2,x2,q1,k2.trans q2,fun e=>⟨(q3 (k3 e).1).1,(k3 e).2.trans (q3 (k3 e).1).2⟩⟩
 ·obtain⟨t1,x1,k1,k2⟩:=hn.pt k v ty ds (Nat.lt_of_lt_of_le hv hm.nx) hl
  obtain⟨t2,x2,q1,q2⟩:=hm.pt k v t1 x1 hv k1
  exact⟨t2,x2,q1,k2.trans q2⟩
theorem RD.mo (hm:Mo Γ γ st h γ' st' h') {d:D} {c:C} (hr:∃S,RD h d c S∧∀i∈S,PR Γ γ st i):∃S,RD h' d c S∧∀i∈S,PR Γ γ' st' i:=by
 obtain⟨S,h1,h2⟩:=hr
 exact⟨S,RD.frame d h1 fun i hi=>(hm.cell i (RD.lt d h1 i hi) (h2 i hi)).1,fun i hi=>(hm.cell i (RD.lt d h1 i hi) (h2 i hi)).2⟩
theorem DC.mo (hm:Mo Γ γ st h γ' st' h') {c:C} {d:D} (hr:DC Γ γ st h c d):DC Γ γ' st' h' c d:=by
 cases d
 case ow k v=>
  obtain⟨h1,h2⟩:=hr
  refine⟨Nat.lt_of_lt_of_le h1 hm.nx,fun o dp t xs hl=> ?_⟩
  obtain⟨o',dp',t',xs',k1,k2,_⟩:=hm.sl k v o dp t xs h1 hl
  rw[k2]
  exact h2 _ _ _ _ k1
 case pt k v o=>
  obtain⟨h1,h2⟩:=hr
  refine⟨Nat.lt_of_lt_of_le h1 hm.nx,fun ty ds hl=> ?_⟩
  obtain⟨ty',ds',k1,k2⟩:=hm.pt k v ty ds h1 hl
  rw[k2]
  exact h2 _ _ k1
 case sa k v o n e=>
  obtain⟨h1,h2⟩:=hr
  refine⟨Nat.lt_of_lt_of_le h1 hm.nx,fun ty ds hl=> ?_⟩
  obtain⟨ty',ds',k1,k2⟩:=hm.pt k v ty ds h1 hl
  rw[k2]
  exact h2 _ _ k1
 case px k v j o=>
  obtain⟨h1,h2⟩:=hr
  refine⟨Nat.lt_of_lt_of_le h1 hm.nx,fun dp t xs hl=> ?_⟩
  obtain⟨o',dp',t',xs',k1,k2,k3⟩:=hm.sl k v true dp t xs h1 hl
  obtain⟨rfl,k4⟩:=k3 rfl
  rw[k2,k4]
  exact h2 _ _ _ k1
 case pe x o=>
  obtain⟨id,p,bs,S,h1,h2,h3,h4,h5,h6⟩:=hr
  exact⟨id,p,bs,S,h1,(hm.cell id (fH h2) h5).1.trans h2,h3,bT.frame x h4 fun i hi=>(hm.cell i (bT.lt x h4 i hi) (h6 i hi)).1,(hm.cell id (fH h2) h5).2,fun i hi=>(hm.cell i (bT.lt x h4 i hi) (h6 i hi)).2⟩
 all_goals exact RD.mo hm hr
theorem UR.mo (hm:Mo Γ γ st h γ' st' h') {v:V} {u:U} (hr:UR Γ γ st h v u):UR Γ γ' st' h' v u:=by
 cases u with
 |any=>exact hr
 |val g ds=>obtain⟨cs,h1,h2⟩:=hr;exact⟨cs,h1,h2.imp fun _ _=>DC.mo hm⟩
 |tup vs=>obtain⟨ws,h1,h2⟩:=hr;exact⟨ws,h1,h2.imp fun _ _ hx=>⟨hx.1,hx.2.imp fun _ _=>DC.mo hm⟩⟩
 |box ds=>obtain⟨cs,h1,h2⟩:=hr;exact⟨cs,h1,h2.imp fun _ _=>DC.mo hm⟩
 |lsl ds n e=>obtain⟨cs,h1,h2⟩:=hr;exact⟨cs,h1,h2.imp fun _ _=>DC.mo hm⟩
 |lref r o=>exact hr
theorem ER.mo (hm:Mo Γ γ st h γ' st' h') {k:Nat} {e:En} (hc:γ'.c k=γ.c k) (hw:γ'.w k=γ.w k) (hu:γ'.u k=γ.u k) (hb:∀i∈γ.w k,h'[i]? =h[i]?) (hr:ER Γ γ st h k e):ER Γ γ' st' h' k e:=by
 match e,hr with
 | .sl v true dp t xs,⟨h0,hr⟩=>
   refine⟨Nat.lt_of_lt_of_le h0 hm.nx,?_⟩
   rw[hc,hw,hu]
   rcases hr with hr|⟨id,ty,ez,bs,S,h1,h2,h3,h4,h5,h6,h7,h8⟩
   ·exact .inl hr
   ·exact .inr ⟨id,ty,ez,bs,S,h1,h2,h3,by rw[hb id (by rw[h3];simp),h4],h5,aG.frame xs h6 fun i hi=>(hm.cell i (aG.lt xs h6 i hi) (h7 i hi)).1,fun i hi=>(hm.cell i (aG.lt xs h6 i hi) (h7 i hi)).2,h8⟩
 | .sl v false dp t xs,⟨h0,h1,h2,h3⟩=>
   refine⟨Nat.lt_of_lt_of_le h0 hm.nx,by rw[hw,h1],by rw[hu,h2],?_⟩
   rw[hc]
   exact RD.mo hm h3
 | .pt v ty ds,⟨h0,h1,id,bs,h2,h3,h4,h5⟩=>
   exact⟨Nat.lt_of_lt_of_le h0 hm.nx,by rw[hu,h1],id,bs,by rw[hc,h2],by rw[hw,h3],by rw[hb id (by rw[h3];simp),h4],h5.imp fun _ _=>DC.mo hm⟩
def En.nZ:En→Nat
 | .sl v _ _ _ _=>v
 | .pt v _ _=>v
theorem ER.nZ {k:Nat} {e:En} (hr:ER Γ γ st h k e):e.nZ < st.nx:=by
 match e,hr with
 | .sl v true dp t xs,⟨h0,_⟩=>exact h0
 | .sl v false dp t xs,⟨h0,_⟩=>exact h0
 | .pt v ty ds,⟨h0,_⟩=>exact h0
def Kc (st:St) (k:Nat) (e':En):Prop:=
 match e' with
 | .sl v o dp t xs=>∃o' dp' t' xs',lk k st.es=some (.sl v o' dp' t' xs')∧(o=true→o'=true∧xs.length=xs'.length)
 | .pt v ty ds=>∃ty' ds',lk k st.es=some (.pt v ty' ds')
def Gh.up (γ:Gh) (k:Nat) (c:C) (w u:List Nat):Gh:=⟨fun k'=>if k'=k then c else γ.c k',fun k'=>if k'=k then w else γ.w k',fun k'=>if k'=k then u else γ.u k'⟩
@[simp] theorem Gh.Hq (γ:Gh) (k:Nat) (c:C) (w u:List Nat):(γ.up k c w u).c k=c:=by simp[Gh.up]
@[simp] theorem Gh.xD (γ:Gh) (k:Nat) (c:C) (w u:List Nat):(γ.up k c w u).w k=w:=by simp[Gh.up]
@[simp] theorem Gh.zI (γ:Gh) (k:Nat) (c:C) (w u:List Nat):(γ.up k c w u).u k=u:=by simp[Gh.up]
theorem Gh.FZ (γ:Gh) {k k':Nat} (c:C) (w u:List Nat) (hk:k'≠k):(γ.up k c w u).c k'=γ.c k':=by simp[Gh.up,hk]
theorem Gh.jW (γ:Gh) {k k':Nat} (c:C) (w u:List Nat) (hk:k'≠k):(γ.up k c w u).w k'=γ.w k':=by simp[Gh.up,hk]
theorem Gh.mQ (γ:Gh) {k k':Nat} (c:C) (w u:List Nat) (hk:k'≠k):(γ.up k c w u).u k'=γ.u k':=by simp[Gh.up,hk]
theorem ay (k k':Nat) (e:En) (r:List (Nat×En)):lk k ((k',e)::r)=if k=k' then some e else lk k r:=rfl
theorem aB.E2 (hr:aB Γ γ f st mf h) (hm:Mo Γ γ st h γ' st' h'):∀p∈Γ.pin,p.2.1 < st'.nx∧∀ty ds,lk p.1 st'.es=some (.pt p.2.1 ty ds)→γ'.c p.1= .ptr p.2.2 0:=fun p hp=>by
 obtain⟨h1,h2⟩:=hr.pin p hp
 refine⟨Nat.lt_of_lt_of_le h1 hm.nx,fun ty ds hl=> ?_⟩
 obtain⟨ty',ds',k1,k2⟩:=hm.pt _ _ _ _ h1 hl
 rw[k2]
 exact h2 _ _ k1
theorem aB.jc (hr:aB Γ γ f st mf h) {k nx':Nat} {e':En} {c:C} {w u:List Nat} {h':H} (hnx:st.nx≤nx')
 (hv:st.nx≤e'.nZ∨(c=γ.c k∧Kc st k e'))
 (hcells:∀i,i < h.length→PR Γ γ st i→h'.cells i=h.cells i)
 (hw:∀i∈w,i < h.length→¬PR Γ γ st i)
 (hoth:∀k' e,k'≠k→lk k' st.es=some e→∀i∈γ.w k',h'[i]? =h[i]?)
 (hnd:(w++u).Nodup∧∀i∈w++u,pH Γ i)
 (hdj:∀k' e,k'≠k→lk k' st.es=some e→∀i∈w++u,i∉γ.w k'++γ.u k')
 (hlen:h.length≤h'.length) (hbase:∀i,i < Γ.hb.length→i∉Γ.bs→h'[i]? =h[i]?)
 (hk:Mo Γ γ st h (γ.up k c w u) ⟨nx',(k,e')::st.es⟩ h'→ER Γ (γ.up k c w u) ⟨nx',(k,e')::st.es⟩ h' k e') (hown:∀i cs,pH Γ i→h'[i]? ≠some (.ro cs)):
 aB Γ (γ.up k c w u) f ⟨nx',(k,e')::st.es⟩ mf h'∧Mo Γ γ st h (γ.up k c w u) ⟨nx',(k,e')::st.es⟩ h':=by
 have hm:Mo Γ γ st h (γ.up k c w u) ⟨nx',(k,e')::st.es⟩ h':=by
  refine⟨hnx,hlen,fun i hi hp=>⟨hcells i hi hp,hp.1,fun k' e hl=> ?_⟩,fun k' v o dp t xs hlt hl=> ?_,fun k' v ty ds hlt hl=> ?_⟩
  ·simp only[ay]at hl
   by_cases hkk:k'=k
   ·subst hkk;rw[Gh.xD];exact fun hiw=>hw i hiw hi hp
   ·rw[if_neg hkk]at hl;rw[Gh.jW _ _ _ _ hkk];exact hp.2 k' e hl
  ·simp only[ay]at hl
   by_cases hkk:k'=k
   ·subst hkk
    rw[if_pos rfl]at hl
    cases hl
    rcases hv with hv|⟨hc,o',dp',t',xs',h1,h2⟩
    ·simp only[En.nZ]at hv;omega
    ·exact⟨o',dp',t',xs',h1,by rw[Gh.Hq,hc],h2⟩
   ·rw[if_neg hkk]at hl
    exact⟨o,dp,t,xs,hl,Gh.FZ _ _ _ _ hkk,fun h=>⟨h,rfl⟩⟩
  ·simp only[ay]at hl
   by_cases hkk:k'=k
   ·subst hkk
    rw[if_pos rfl]at hl
    cases hl
    rcases hv with hv|⟨hc,ty',ds',h1⟩
    ·simp only[En.nZ]at hv;omega
    ·exact⟨ty',ds',h1,by rw[Gh.Hq,hc]⟩
   ·rw[if_neg hkk]at hl
    exact⟨ty,ds,hl,Gh.FZ _ _ _ _ hkk⟩
 refine⟨⟨fun s=>(hr.fr s).mo hm,fun k' e hl=> ?_,fun k' e hl=> ?_,fun k1 k2 e1 e2 hne hl1 hl2=> ?_,Nat.le_trans hr.len hlen,fun i h1 h2=>(hbase i h1 h2).trans (hr.base i h1 h2),hr.arb,hr.E2 hm,hown⟩,hm⟩
 ·simp only[ay]at hl
  by_cases hkk:k'=k
  ·subst hkk;rw[if_pos rfl]at hl;cases hl;exact hk hm
  ·rw[if_neg hkk]at hl
   exact ER.mo hm (Gh.FZ _ _ _ _ hkk) (Gh.jW _ _ _ _ hkk) (Gh.mQ _ _ _ _ hkk) (hoth k' e hkk hl) (hr.en k' e hl)
 ·simp only[ay]at hl
  by_cases hkk:k'=k
  ·subst hkk;rw[Gh.xD,Gh.zI];exact hnd
  ·rw[if_neg hkk]at hl;rw[Gh.jW _ _ _ _ hkk,Gh.mQ _ _ _ _ hkk];exact hr.nd k' e hl
 ·simp only[ay]at hl1 hl2
  by_cases hk1:k1=k
  ·subst hk1
   have hk2:k2≠k1:=fun e=>hne e.symm
   rw[if_neg hk2]at hl2
   rw[Gh.xD,Gh.zI,Gh.jW _ _ _ _ hk2,Gh.mQ _ _ _ _ hk2]
   exact hdj k2 e2 hk2 hl2
  ·rw[if_neg hk1]at hl1
   by_cases hk2:k2=k
   ·subst hk2
    rw[Gh.xD,Gh.zI,Gh.jW _ _ _ _ hk1,Gh.mQ _ _ _ _ hk1]
    exact fun i hi hi'=>hdj k1 e1 hk1 hl1 i hi' hi
   ·rw[if_neg hk2]at hl2
    rw[Gh.jW _ _ _ _ hk1,Gh.mQ _ _ _ _ hk1,Gh.jW _ _ _ _ hk2,Gh.mQ _ _ _ _ hk2]
    exact hr.dj k1 k2 e1 e2 hne hl1 hl2
theorem hH.jc {k nx':Nat} {e':En} {c:C} {w u S:List Nat} (hf:hH Γ γ st S) (hd:∀i∈S,i∉w++u):hH Γ (γ.up k c w u) ⟨nx',(k,e')::st.es⟩ S:=by
 refine⟨hf.1,hf.2.1,fun k' e hl i hi=> ?_⟩
 simp only[ay]at hl
 by_cases hkk:k'=k
 ·subst hkk;rw[Gh.xD,Gh.zI];exact hd i hi
 ·rw[if_neg hkk]at hl;rw[Gh.jW _ _ _ _ hkk,Gh.mQ _ _ _ _ hkk];exact hf.2.2 k' e hl i hi
theorem DC.dC {c c':C} {d:D} (hr:DC Γ γ st h c d) (hd:dC d=some c'):c=c':=by
 cases d <;>simp[Eng.dC]at hd <;>subst hd <;>obtain⟨S,hr,_⟩:=hr <;>simp only[RD]at hr <;>exact hr.1
theorem DC.cD {c c':C} {d:D} (hd:cD c'=some d) (hc:c=c'):DC Γ γ st h c d:=by
 subst hc
 have:=LK (h:=h) hd
 cases c <;>simp[Eng.cD]at hd <;>subst hd <;>exact⟨[],this,fun i hi=>by cases hi⟩
theorem rR:∀ {cs:List C} {ds:List D},Cm cs=some ds→ah (DC Γ γ st h) cs ds
 | [],ds,hc=>by simp[Cm]at hc;subst hc;trivial
 |c::cs,ds,hc=>by
  simp only[Cm]at hc
  split at hc
  ·rename_i d ds' h1 h2
   simp at hc
   subst hc
   exact⟨DC.cD h1 rfl,rR h2⟩
  ·simp at hc
theorem ie (hr:aB Γ γ f st mf h) {x:X} {u:U} (hu:wy f x=u) (hne:u≠ .any):UR Γ γ st h (ev mf x) u∧∀ds,u≠ .box ds:=by
 cases x with
 |s t=>
  have hs:=hr.slot t
  simp only[wy]at hu
  split at hu
  ·rename_i ds he
   subst hu
   rw[he]at hs
   obtain⟨cs,h1,_⟩:=hs
   exact⟨by simp only[ev,h1];rfl,fun _ e=>by cases e⟩
  ·rename_i hnb
   subst hu
   refine⟨?_,fun ds e=>hnb ds e⟩
   simp only[ev]
   split
   ·rename_i cs he
    rw[he]at hs
    revert hs hne hnb
    cases UF f t <;>intro hs hnb hne <;>simp[UR]at hs hnb hne⊢
   ·exact hs
 |c v=>
  simp only[wy]at hu
  cases v with
  |val g cs=>
   simp only[cU]at hu
   split at hu
   ·rename_i ds hd
    subst hu
    exact⟨⟨cs,rfl,rR hd⟩,fun _ e=>by cases e⟩
   ·exact absurd hu.symm hne
  |_=>simp only[cU]at hu;exact absurd hu.symm hne
theorem fV (hr:aB Γ γ f st mf h) {x:X} {g:Bool} {ds:List D} (hx:sd f x=some (g,ds)):∃cs,pR mf x=some (g,cs)∧ah (DC Γ γ st h) cs ds:=by
 unfold sd at hx
 split at hx
 ·rename_i g' ds' he
  simp at hx
  obtain⟨rfl,rfl⟩:=hx
  obtain⟨⟨cs,h1,h2⟩,_⟩:=ie hr he (by simp)
  exact⟨cs,by simp only[pR,h1],h2⟩
 ·simp at hx
theorem dM (hr:aB Γ γ f st mf h) {x:X} {d:D} (hx:eO f x=some d):∃c,dt mf x=some c∧DC Γ γ st h c d:=by
 unfold eO at hx
 split at hx
 ·rename_i d' he
  simp at hx
  subst hx
  obtain⟨⟨cs,h1,h2⟩,_⟩:=ie hr he (by simp)
  match cs,h2 with
  | [c],h2=>exact⟨c,by simp only[dt,h1],h2.1⟩
 ·simp at hx
theorem de (hr:aB Γ γ f st mf h) {x:X} {d:D} {c:C} (hx:eO f x=some d) (hd:dC d=some c):dt mf x=some c:=by
 obtain⟨c',h1,h2⟩:=dM hr hx
 rw[h1,h2.dC hd]
theorem ta (hr:aB Γ γ f st mf h):∀ {ps:List (Nat×Nat×X)} {ds ds':List D} {cs:List C},jF f ds ps=some ds'→ah (DC Γ γ st h) cs ds→∃cs',eW mf cs ps=some cs'∧ah (DC Γ γ st h) cs' ds'
 | [],ds,ds',cs,hf,ha=>by simp[jF]at hf;subst hf;exact⟨cs,rfl,ha⟩
 |(off,sz,x)::r,ds,ds',cs,hf,ha=>by
  simp only[jF]at hf
  split at hf
  ·rename_i g vs hv
   split at hf
   ·rename_i hc
    obtain⟨ws,h1,h2⟩:=fV hr hv
    obtain⟨cs',h3,h4⟩:=ta hr hf (ah.aR off ha h2)
    refine⟨cs',?_,h4⟩
    simp only[eW,h1]
    rw[if_pos ⟨by rw[h2.length];exact hc.1,by rw[ha.length];exact hc.2⟩]
    exact h3
   ·simp at hf
  ·simp at hf
theorem fM (hr:aB Γ γ f st mf h) {x:Option X} {n:Nat} {i:Int} (hx:cN f x n=some i):bound mf x n=some i:=by
 unfold cN at hx
 unfold bound
 cases x with
 |none=>exact hx
 |some x=>
  simp only at hx⊢
  split at hx
  ·rename_i k j he
   simp at hx
   subst hx
   rw[de hr he (c:= .int k j) rfl]
  ·simp at hx
theorem St.cL {k v:Nat} {o d:Bool} {t:Option (Nat×Nat)} {xs:List (List D)} (hs:st.fb k v=some (o,d,t,xs)):lk k st.es=some (.sl v o d t xs):=by
 unfold St.fb at hs
 split at hs
 ·rename_i v' o' d' t' xs' he
  split at hs
  ·rename_i hv
   subst hv
   simp at hs
   obtain⟨rfl,rfl,rfl,rfl⟩:=hs
   exact he
  ·simp at hs
 ·simp at hs
theorem St.fh {k v ty:Nat} {ds:List D} (hs:st.ptr k v=some (ty,ds)):lk k st.es=some (.pt v ty ds):=by
 unfold St.ptr at hs
 split at hs
 ·rename_i v' ty' ds' he
  split at hs
  ·rename_i hv
   subst hv
   simp at hs
   obtain⟨rfl,rfl⟩:=hs
   exact he
  ·simp at hs
 ·simp at hs
theorem DC.cB {h':H}:∀ {cs:List C} {ds:List D},ah (DC Γ γ st h) cs ds→cB ds=true→bT h' ds cs []
 | [],[],_,_=>by simp[bT]
 |c::cs,d::ds,ha,hl=>by
  simp only[Eng.cB,Bool.and_eq_true]at hl
  simp only[bT]
  refine⟨c,cs,[],[],rfl,rfl,?_,DC.cB ha.2 hl.2⟩
  have h1:=ha.1
  have h2:=hl.1
  cases d <;>simp[D.leaf]at h2 <;>obtain⟨S,h1,_⟩:=h1 <;>simp only[RD]at h1⊢ <;>first|exact⟨h1.1,trivial⟩|exact⟨h1.1,rfl⟩
theorem ru (hr:aB Γ γ f st mf h) {c:C} {d:D} (hd:DC Γ γ st h c d) {xs:List (List D)} (hx:st.zq d=some xs):∃S,RD h (.sl xs) c S∧∀i∈S.tail,PR Γ γ st i:=by
 cases d <;>simp only[St.zq]at hx
 case nils=>
  simp at hx
  subst hx
  obtain⟨S,hd,_⟩:=hd
  simp only[RD]at hd
  exact⟨[],jO.2 (.inl ⟨rfl,rfl, .inl hd.1⟩),fun i hi=>by cases hi⟩
 case sl ys=>
  simp at hx
  subst hx
  obtain⟨S,h1,h2⟩:=hd
  exact⟨S,h1,fun i hi=>h2 i (List.mem_of_mem_tail hi)⟩
 case ow k v=>
  split at hx
  ·rename_i o dp t ys hs
   simp at hx
   subst hx
   have hl:=St.cL hs
   have he:=hr.en k _ hl
   have hc:=hd.2 _ _ _ _ hl
   subst hc
   cases o with
   |true=>
    obtain⟨_,he⟩:=he
    rcases he with⟨rfl,_,_,h3⟩|⟨id,ty,ez,bs,S,h1,h2,h3,h4,h5,h6,h7,h8⟩
    ·exact⟨[],jO.2 (.inl ⟨rfl,rfl,h3⟩),fun i hi=>by cases hi⟩
    ·refine⟨id::S,?_,fun i hi=>h7 i hi⟩
     simp only[RD]
     refine .inr ⟨id,0,ez,bs,S,h2,cu h4,by omega,rfl,?_⟩
     rw[List.drop_zero,←h5,List.take_length]
     exact h6
   |false=>
    obtain⟨_,_,_,S,h1,h2⟩:=he
    exact⟨S,h1,fun i hi=>h2 i (List.mem_of_mem_tail hi)⟩
  ·simp at hx
 case sa k v o n e=>
  split at hx
  ·rename_i ty ds hs
   split at hx
   ·rename_i hc
    simp at hx
    subst hx
    have hl:=St.fh hs
    obtain⟨_,hu,id,bs,h1,h2,h3,h4⟩:=hr.en k _ hl
    obtain⟨id',k1,k2⟩:=hd.2 _ _ hl
    rw[h1]at k1
    cases k1
    have hbl:=h4.length
    have h5:=DC.cB (h':=h) ((h4.drop o).take (n * e)) hc.2
    have h6:=oP (e:=e) (n:=n) h5 (by simp;omega)
    refine⟨[id],?_,fun i hi=>by cases hi⟩
    simp only[RD]
    exact .inr ⟨id,o,e,bs,[],by rw[k2,gL],cu h3,by rw[gL];omega,rfl,by rw[gL];exact h6⟩
   ·simp at hx
  ·simp at hx
 all_goals simp at hx
theorem RD.yx {xs:List (List D)} {c:C} {S:List Nat} (hr:RD h (.sl xs) c S):yx c=some xs.length:=by
 simp only[RD]at hr
 rcases hr with⟨rfl,_,rfl|rfl⟩|⟨id,off,e,bs,S',rfl,_⟩ <;>rfl
theorem RD.nY {xs:List (List D)} {c:C} {S:List Nat} (hr:RD h (.sl xs) c S) {esz:Nat} (hw:wid esz xs=true):∃ys,nY h esz c=some (ys,xs.length)∧aG h xs esz ys S.tail:=by
 simp only[RD]at hr
 rcases hr with⟨rfl,rfl,rfl|rfl⟩|⟨id,off,e,bs,S',rfl,h2,h3,rfl,h5⟩
 ·exact⟨[],rfl,by simp[aG]⟩
 ·exact⟨[],rfl,by simp[aG]⟩
 ·have hs:=h5.same hw
  refine⟨_,by simp only[Eng.nY,H.slice,h2,if_pos h3,if_pos hs];rfl,?_⟩
  rcases hs with rfl|hs
  ·exact h5
  ·cases xs with
   |nil=>simp only[aG]at h5⊢;exact h5
   |cons x xs=>simp at hs
end
end Go.Eng
namespace Go.Eng
section
variable {Γ:Cx} {γ γ':Gh} {f f':UT} {st st':St} {mf mf':Fr} {h h':H}
theorem yk {k i:Nat} {e:En} (hl:lk k st.es=some e) (hi:i∈γ.w k):¬PR Γ γ st i:=fun hp=>hp.2 k e hl hi
theorem aB.freeze (hr:aB Γ γ f st mf h) {k v:Nat} {o dp dp':Bool} {t:Option (Nat×Nat)} {xs:List (List D)} (hl:lk k st.es=some (.sl v o dp t xs)):
 ∃γ',aB Γ γ' f (st.put k (.sl v false dp' t xs)) mf h∧Mo Γ γ st h γ' (st.put k (.sl v false dp' t xs)) h∧(∃S,RD h (.sl xs) (γ.c k) S∧(∀i∈S,PR Γ γ' (st.put k (.sl v false dp' t xs)) i)∧((o && dp)=true→hH Γ γ' (st.put k (.sl v false dp' t xs)) S∧∀i∈S,i∈γ.w k++γ.u k))∧
  ∀T,hH Γ γ st T→hH Γ γ' (st.put k (.sl v false dp' t xs)) T:=by
 obtain⟨S,h1,h2⟩:=ru hr (d:= .ow k v) (c:=γ.c k) ⟨(hr.en k _ hl).nZ,fun _ _ _ _ _=>rfl⟩ (xs:=xs) (by simp[St.zq,St.fb,hl])
 have hpr:∀i∈S,PR Γ (γ.up k (γ.c k) [] []) (st.put k (.sl v false dp' t xs)) i:=by
  intro i hi
  have hold:(Γ.ar i∨Γ.hb.length≤i∨i∈Γ.bs)∧∀k' e,k'≠k→lk k' st.es=some e→i∉γ.w k':=by
   by_cases hp:PR Γ γ st i
   ·exact⟨hp.1,fun k' e _ hl'=>hp.2 k' e hl'⟩
   ·have he:=hr.en k _ hl
    cases o with
    |true=>
     obtain⟨_,he⟩:=he
     have hiw:i∈γ.w k:=by
      rcases he with⟨rfl,_,_,h3⟩|⟨id,ty,ez,bs,S',k1,k2,k3,k4,k5,k6,k7,k8⟩
      ·simp only[RD]at h1
       rcases h1 with⟨_,rfl,_⟩|⟨id,off,e,bs,S',h4,_⟩
       ·cases hi
       ·rcases h3 with h3|h3 <;>rw[h3]at h4 <;>cases h4
      ·simp only[RD]at h1
       rcases h1 with⟨rfl,rfl,h4⟩|⟨id',off,e,bs',S2,h4,_,_,rfl,_⟩
       ·cases hi
       ·rw[k2]at h4
        cases h4
        rw[k3]
        rcases List.mem_cons.1 hi with rfl|hi
        ·simp
        ·exact absurd (h2 i hi) hp
     have:=hr.nd k _ hl
     refine⟨?_,fun k' e hne hl' hi'=>hr.dj k k' _ e (fun e=>hne e.symm) hl hl' i (by simp[hiw]) (by simp[hi'])⟩
     rcases this.2 i (by simp[hiw])with h9|h9
     ·exact .inr (.inr h9)
     ·exact .inr (.inl h9)
    |false=>
     obtain⟨_,_,_,S2,k1,k2⟩:=he
     exfalso
     apply hp
     simp only[RD]at h1 k1
     rcases h1 with⟨_,rfl,_⟩|⟨id,off,e,bs,S',h4,_,_,rfl,_⟩
     ·cases hi
     ·rcases k1 with⟨_,_,k4|k4⟩|⟨id',off',e',bs',S3,k4,_,_,k5,_⟩
      ·rw[k4]at h4;cases h4
      ·rw[k4]at h4;cases h4
      ·rw[h4]at k4
       cases k4
       rcases List.mem_cons.1 hi with rfl|hi
       ·exact k2 _ (by rw[k5];simp)
       ·exact h2 i hi
  refine⟨hold.1,fun k' e hl'=> ?_⟩
  simp only[St.put,ay]at hl'
  by_cases hkk:k'=k
  ·subst hkk;simp
  ·rw[if_neg hkk]at hl'
   rw[Gh.jW _ _ _ _ hkk]
   exact hold.2 k' e hkk hl'
 obtain⟨q1,q2⟩:=hr.jc (k:=k) (nx':=st.nx) (e':= .sl v false dp' t xs) (c:=γ.c k) (w:= []) (u:= []) (h':=h) (Nat.le_refl _) (.inr ⟨rfl,o,dp,t,xs,hl,fun e=>by cases e⟩) (fun _ _ _=>rfl) (fun i hi=>by cases hi) (fun _ _ _ _ _ _=>rfl)
  ⟨by simp,fun i hi=>by simp at hi⟩ (fun _ _ _ _ i hi=>by simp at hi) (Nat.le_refl _) (fun _ _ _=>rfl) (fun hm=>⟨Nat.lt_of_lt_of_le (hr.en k _ hl).nZ hm.nx,by simp,by simp,S,by simpa using h1,hpr⟩) hr.own
 refine⟨_,q1,q2,⟨S,h1,hpr,fun hod=> ?_⟩,fun T hT=>hT.jc (fun i _=>by simp)⟩
 simp only[Bool.and_eq_true]at hod
 obtain⟨rfl,rfl⟩:=hod
 have hS:∀i∈S,i∈γ.w k++γ.u k:=by
  obtain⟨_,he⟩:=hr.en k _ hl
  rcases he with⟨rfl,_,_,h3⟩|⟨id,ty,ez,bs,S',k1,k2,k3,k4,k5,k6,k7,k8⟩
  ·simp only[RD]at h1
   rcases h1 with⟨_,rfl,_⟩|⟨id,off,e,bs,S',h4,_⟩
   ·intro i hi;cases hi
   ·rcases h3 with h3|h3 <;>rw[h3]at h4 <;>cases h4
  ·simp only[RD]at h1
   rcases h1 with⟨rfl,rfl,h4⟩|⟨id',off,e,bs',S2,h4,h5,_,rfl,h6⟩
   ·intro i hi;cases hi
   ·rw[k2]at h4
    cases h4
    rw[cu k4]at h5
    cases h5
    rw[List.drop_zero,←k5,List.take_length]at h6
    rw[k3,k8,if_pos rfl]
    have:S2=S':=aG.uniq xs h6 k6
    rw[this]
    intro i hi
    simpa using hi
 have hSS:S.Nodup:=by
  obtain⟨_,he⟩:=hr.en k _ hl
  have hn:=(hr.nd k _ hl).1
  rcases he with⟨rfl,_,_,h3⟩|⟨id,ty,ez,bs,S',k1,k2,k3,k4,k5,k6,k7,k8⟩
  ·simp only[RD]at h1
   rcases h1 with⟨_,rfl,_⟩|⟨id,off,e,bs,S',h4,_⟩
   ·simp
   ·rcases h3 with h3|h3 <;>rw[h3]at h4 <;>cases h4
  ·simp only[RD]at h1
   rcases h1 with⟨rfl,rfl,h4⟩|⟨id',off,e,bs',S2,h4,h5,_,rfl,h6⟩
   ·simp
   ·rw[k2]at h4
    cases h4
    rw[cu k4]at h5
    cases h5
    rw[List.drop_zero,←k5,List.take_length]at h6
    rw[k3,k8,if_pos rfl]at hn
    have:S2=S':=aG.uniq xs h6 k6
    rw[this]
    simpa using hn
 refine⟨⟨hSS,fun i hi=>(hr.nd k _ hl).2 i (hS i hi),fun k' e hl' i hi=> ?_⟩,hS⟩
 simp only[St.put,ay]at hl'
 by_cases hkk:k'=k
 ·subst hkk;simp
 ·rw[if_neg hkk]at hl'
  rw[Gh.jW _ _ _ _ hkk,Gh.mQ _ _ _ _ hkk]
  exact hr.dj k k' _ e (fun e=>hkk e.symm) hl hl' i (hS i hi)
theorem hH.nil:hH Γ γ st []:=⟨by simp,fun i hi=>by simp at hi,fun k e _ i hi=>by simp at hi⟩
theorem Pk (hr:aB Γ γ f st mf h) {c:C} {d d':D} {b:Bool} (hd:DC Γ γ st h c d) (he:st.dp d=some (d',st',b)):
 ∃γ' S,aB Γ γ' f st' mf h∧Mo Γ γ st h γ' st' h∧RD h d' c S∧(∀i∈S,PR Γ γ' st' i)∧(b=true→hH Γ γ' st' S)∧∀T,hH Γ γ st T→hH Γ γ' st' T∧(b=true→∀i∈S,i∉T):=by
 cases d <;>simp only[St.dp]at he
 case ow k v=>
  split at he
  ·rename_i o dp t xs hs
   simp at he
   obtain⟨rfl,rfl,rfl⟩:=he
   have hl:=St.cL hs
   have hc:=hd.2 _ _ _ _ hl
   subst hc
   obtain⟨γ',h1,h2,⟨S,h3,h4,h5⟩,h6⟩:=hr.freeze (dp':=false) hl
   exact⟨γ',S,h1,h2,h3,h4,fun e=>(h5 (by simpa using e)).1,fun T hT=>⟨h6 T hT,fun e i hi hiT=>hT.2.2 k _ hl i hiT ((h5 (by simpa using e)).2 i hi)⟩⟩
  ·simp at he
 case nils=>
  simp at he
  obtain⟨rfl,rfl,rfl⟩:=he
  obtain⟨S,hd,_⟩:=hd
  simp only[RD]at hd
  exact⟨γ,[],hr,Mo.refl,jO.2 (.inl ⟨rfl,rfl, .inl hd.1⟩),fun i hi=>by simp at hi,fun _=>hH.nil,fun T hT=>⟨hT,fun _ i hi=>by simp at hi⟩⟩
 case sl xs=>
  simp at he
  obtain⟨rfl,rfl,rfl⟩:=he
  obtain⟨S,h1,h2⟩:=hd
  exact⟨γ,S,hr,Mo.refl,h1,h2,fun e=>by simp at e,fun T hT=>⟨hT,fun e=>by simp at e⟩⟩
 all_goals first
  |(simp at he;done)
  |(simp at he
    obtain⟨rfl,rfl,rfl⟩:=he
    obtain⟨S,h1,h2⟩:=hd
    have hS:S= []:=by simp only[RD]at h1;exact h1.2
    subst hS
    exact⟨γ,[],hr,Mo.refl,h1,h2,fun _=>hH.nil,fun T hT=>⟨hT,fun _ i hi=>by simp at hi⟩⟩)
theorem Bw:∀ {ds:List D} {γ:Gh} {st st':St} (hr:aB Γ γ f st mf h) {cs:List C} {ds':List D} {b:Bool} (hd:ah (DC Γ γ st h) cs ds) (he:st.EM ds=some (ds',st',b)),
 ∃γ' S,aB Γ γ' f st' mf h∧Mo Γ γ st h γ' st' h∧bT h ds' cs S∧(∀i∈S,PR Γ γ' st' i)∧(b=true→hH Γ γ' st' S)∧∀T,hH Γ γ st T→hH Γ γ' st' T∧(b=true→∀i∈S,i∉T)
 | [],γ,st,st',hr,[],ds',b,_,he=>by
   simp[St.EM]at he
   obtain⟨rfl,rfl,rfl⟩:=he
   exact⟨γ,[],hr,Mo.refl,by simp[bT],fun i hi=>by simp at hi,fun _=>hH.nil,fun T hT=>⟨hT,fun _ i hi=>by simp at hi⟩⟩
 |d::ds,γ,st,st',hr,c::cs,ds',b,hd,he=>by
  simp only[St.EM]at he
  split at he
  ·rename_i d1 st1 b1 h1
   split at he
   ·rename_i ds2 st2 b2 h2
    simp at he
    obtain⟨rfl,rfl,rfl⟩:=he
    obtain⟨γ1,S1,k1,k2,k3,k4,k5,k6⟩:=Pk hr hd.1 h1
    obtain⟨γ2,S2,q1,q2,q3,q4,q5,q6⟩:=Bw k1 (hd.2.imp fun _ _=>DC.mo k2) h2
    refine⟨γ2,S1++S2,q1,k2.trans q2,?_,fun i hi=> ?_,fun hb=> ?_,fun T hT=> ?_⟩
    ·simp only[bT]
     exact⟨c,cs,S1,S2,rfl,rfl,k3,q3⟩
    ·rcases List.mem_append.1 hi with hi|hi
     ·exact(q2.cell i (RD.lt d1 k3 i hi) (k4 i hi)).2
     ·exact q4 i hi
    ·simp only[Bool.and_eq_true]at hb
     obtain⟨r1,r2⟩:=q6 S1 (k5 hb.1)
     have r3:=q5 hb.2
     refine⟨List.nodup_append.2 ⟨r1.1,r3.1,fun a ha b hb' e=>r2 hb.2 b hb' (e▸ha)⟩,fun i hi=> ?_,fun k e hl i hi=> ?_⟩
     ·rcases List.mem_append.1 hi with hi|hi
      ·exact r1.2.1 i hi
      ·exact r3.2.1 i hi
     ·rcases List.mem_append.1 hi with hi|hi
      ·exact r1.2.2 k e hl i hi
      ·exact r3.2.2 k e hl i hi
    ·obtain⟨r1,r2⟩:=k6 T hT
     obtain⟨r3,r4⟩:=q6 T r1
     refine⟨r3,fun hb i hi=> ?_⟩
     simp only[Bool.and_eq_true]at hb
     rcases List.mem_append.1 hi with hi|hi
     ·exact r2 hb.1 i hi
     ·exact r4 hb.2 i hi
   ·simp at he
  ·simp at he
theorem HC (s:ByteArray):aG h (JR s) 1 (jL s) []:=by
 unfold JR jL
 induction s.data.toList with
 |nil=>simp[aG]
 |cons b l ih=>
  simp only[List.map_cons,aG,bT]
  exact⟨[.int .u8 (b.toNat:Int)],_,[],[],rfl,rfl,rfl,⟨_,_,[],[],rfl,rfl,by simp[RD],rfl,rfl⟩,ih⟩
theorem Gp (hr:aB Γ γ f st mf h) {c:C} {d:D} {esz:Nat} {ys:List (List D)} {b:Bool} (hd:DC Γ γ st h c d) (he:u9 st esz d=some (ys,st',b)):
 ∃γ' cs S,aB Γ γ' f st' mf h∧Mo Γ γ st h γ' st' h∧nY h esz c=some (cs,ys.length)∧aG h ys esz cs S∧(∀i∈S,PR Γ γ' st' i)∧(b=true→hH Γ γ' st' S):=by
 have key:∀xs,st.zq d=some xs→(if wid esz xs=true then
  (if flat xs=true then some (xs,st,true)else match d with
    | .ow k v=>match st.fb k v with
      |some (o,dp,t,ys)=>some (xs,st.put k (.sl v o false t ys),o && dp)
      |none=>none
    |_=>some (xs,st,false))else none)=some (ys,st',b)→∃γ' cs S,aB Γ γ' f st' mf h∧Mo Γ γ st h γ' st' h∧nY h esz c=some (cs,ys.length)∧aG h ys esz cs S∧(∀i∈S,PR Γ γ' st' i)∧(b=true→hH Γ γ' st' S):=by
  intro xs hx he
  obtain⟨S,h1,h2⟩:=ru hr hd hx
  split at he
  ·rename_i hw
   obtain⟨cs,h3,h4⟩:=h1.nY hw
   split at he
   ·rename_i hf
    simp at he
    obtain⟨rfl,rfl,rfl⟩:=he
    have hS:=h4.y0 hf
    rw[hS]at h4
    exact⟨γ,cs,[],hr,Mo.refl,h3,h4,fun i hi=>by simp at hi,fun _=>hH.nil⟩
   ·rename_i hnf
    by_cases hd0:∃k v,d= .ow k v
    ·obtain⟨k,v,rfl⟩:=hd0
     simp only at he
     split at he
     ·rename_i o dp t zs hs
      simp at he
      obtain⟨rfl,rfl,rfl⟩:=he
      have hl:=St.cL hs
      have hxz:xs=zs:=by simp only[St.zq,hs]at hx;simpa using hx.symm
      subst hxz
      have hc:=hd.2 _ _ _ _ hl
      subst hc
      have hen:=hr.en k _ hl
      obtain⟨q1,q2⟩:=hr.jc (k:=k) (nx':=st.nx) (e':= .sl v o false t xs) (c:=γ.c k) (w:=γ.w k) (u:= []) (h':=h) (Nat.le_refl _) (.inr ⟨rfl,o,dp,t,xs,hl,fun e=>⟨e,rfl⟩⟩) (fun _ _ _=>rfl) (fun i hi _=>yk hl hi) (fun _ _ _ _ _ _=>rfl)
       ⟨by have:=(hr.nd k _ hl).1;rw[List.append_nil];exact(List.nodup_append.1 this).1,fun i hi=>(hr.nd k _ hl).2 i (by simp at hi;simp[hi])⟩ (fun k' e hne hl' i hi=>hr.dj k k' _ e (fun e=>hne e.symm) hl hl' i (by simp at hi;simp[hi])) (Nat.le_refl _) (fun _ _ _=>rfl) (fun hm=>by
         cases o with
         |true=>
          obtain⟨h0,hen⟩:=hen
          refine⟨Nat.lt_of_lt_of_le h0 hm.nx,?_⟩
          rcases hen with⟨k1,k2,k3,k4⟩|⟨id,ty,ez,bs,S',k1,k2,k3,k4,k5,k6,k7,k8⟩
          ·exact .inl ⟨k1,by simpa using k2,by simp,by simpa using k4⟩
          ·exact .inr ⟨id,ty,ez,bs,S',k1,by simpa using k2,by simpa using k3,k4,k5,k6,fun i hi=>(hm.cell i (aG.lt xs k6 i hi) (k7 i hi)).2,by simp⟩
         |false=>
          obtain⟨h0,k1,k2,k3⟩:=hen
          exact⟨Nat.lt_of_lt_of_le h0 hm.nx,by simpa using k1,by simp,by simpa using RD.mo hm k3⟩) hr.own
      refine⟨_,cs,S.tail,q1,q2,h3,h4,fun i hi=>(q2.cell i (aG.lt xs h4 i hi) (h2 i hi)).2,fun hb=> ?_⟩
      simp only[Bool.and_eq_true]at hb
      obtain⟨rfl,rfl⟩:=hb
      obtain⟨h0,hen⟩:=hen
      have hu:S.tail=γ.u k:=by
       rcases hen with⟨k1,k2,k3,k4⟩|⟨id,ty,ez,bs,S',k1,k2,k3,k4,k5,k6,k7,k8⟩
       ·subst k1
        simp[Eng.flat]at hnf
       ·rw[k8,if_pos rfl]
        have:cs=bs∧esz=ez:=by
         rw[k2]at h3
         simp only[Eng.nY,H.slice,cu k4]at h3
         have hes:ez=esz:=by
          rcases k6.same hw with e|e
          ·exact e
          ·exfalso;cases xs with|nil=>simp[Eng.flat]at hnf|cons _ _=>simp at e
         subst hes
         simp only[true_or,if_true]at h3
         rw[if_pos (by omega)]at h3
         simp at h3
         refine⟨?_,rfl⟩
         rw[←h3,←k5,List.take_length]
        obtain⟨rfl,rfl⟩:=this
        exact aG.uniq xs h4 k6
      have hn:=hr.nd k _ hl
      rw[hu]
      refine⟨(List.nodup_append.1 hn.1).2.1,fun i hi=>hn.2 i (by simp[hi]),fun k' e hl' i hi=> ?_⟩
      simp only[St.put,ay]at hl'
      by_cases hkk:k'=k
      ·subst hkk
       simp only[Gh.xD,Gh.zI,List.append_nil]
       exact fun hiw=>(List.nodup_append.1 hn.1).2.2 i hiw i hi rfl
      ·rw[if_neg hkk]at hl'
       rw[Gh.jW _ _ _ _ hkk,Gh.mQ _ _ _ _ hkk]
       exact hr.dj k k' _ e (fun e=>hkk e.symm) hl hl' i (by simp[hi])
     ·simp at he
    ·have he2:some (xs,st,false)=some (ys,st',b):=by
      cases d <;>first|exact he|exact absurd ⟨_,_,rfl⟩ hd0
     simp at he2
     obtain⟨rfl,rfl,rfl⟩:=he2
     exact⟨γ,cs,S.tail,hr,Mo.refl,h3,h4,h2,fun e=>by simp at e⟩
  ·simp at he
 cases d
 case str s=>
  simp only[u9]at he
  split at he
  ·rename_i h1
   subst h1
   simp at he
   obtain⟨rfl,rfl,rfl⟩:=he
   obtain⟨S,hd,_⟩:=hd
   simp only[RD]at hd
   obtain⟨rfl,_⟩:=hd
   exact⟨γ,jL s,[],hr,Mo.refl,by simp[nY,JR],HC s,fun i hi=>by simp at hi,fun _=>hH.nil⟩
  ·simp at he
 all_goals
  simp only[u9]at he
  split at he
  ·rename_i xs hx
   exact key xs hx he
  ·simp at he
theorem B7 (hr:aB Γ γ f st mf h) {x:X} {esz:Nat} {ys:List (List D)} {b:Bool} (he:uQ f st esz x=some (ys,st',b)):
 ∃γ' cs S,aB Γ γ' f st' mf h∧Mo Γ γ st h γ' st' h∧gm mf h esz x=some (cs,ys.length)∧aG h ys esz cs S∧(∀i∈S,PR Γ γ' st' i)∧(b=true→hH Γ γ' st' S):=by
 cases x with
 |s t=>
  simp only[uQ]at he
  have hs:=hr.slot t
  split at he
  ·rename_i ds n e hu
   rw[hu]at hs
   obtain⟨cs,h1,h2⟩:=hs
   split at he
   ·rename_i hc
    split at he
    ·rename_i ds' st1 b1 hd
     simp at he
     obtain⟨rfl,rfl,rfl⟩:=he
     obtain⟨γ',S,k1,k2,k3,k4,k5,_⟩:=Bw hr h2 hd
     have hl:=k3.len
     have hl2:=h2.length
     exact⟨γ',cs,S,k1,k2,by simp only[gm,h1];rw[if_pos ⟨hc.1,by omega⟩,gL],oP k3 (by omega),k4,k5⟩
    ·simp at he
   ·simp at he
  ·rename_i d hu
   rw[hu]at hs
   obtain⟨cs,h1,h2⟩:=hs
   match cs,h2 with
   | [c],h2=>
     obtain⟨γ',ws,S,k1,k2,k3,k4⟩:=Gp hr h2.1 he
     exact⟨γ',ws,S,k1,k2,by simp only[gm,h1,k3],k4⟩
  ·simp at he
 |c v=>
  cases v with
  |val g cs=>
   cases g with
   |false=>
    match cs,he with
    | [c],he=>
      simp only[uQ]at he
      split at he
      ·rename_i d hd
       obtain⟨γ',ws,S,k1,k2,k3,k4⟩:=Gp hr (DC.cD hd rfl) he
       exact⟨γ',ws,S,k1,k2,by simp only[gm,k3],k4⟩
      ·simp at he
    | [],he=>simp[uQ]at he
    |_::_::_,he=>simp[uQ]at he
   |true=>simp[uQ]at he
  |_=>simp[uQ]at he
end
end Go.Eng
namespace Go.Eng
section
variable {Γ:Cx} {γ γ':Gh} {f f':UT} {st st':St} {mf mf':Fr} {h h':H}
theorem aB.blt (hr:aB Γ γ f st mf h) {k:Nat} {e:En} (hl:lk k st.es=some e):∀i∈γ.w k++γ.u k,i < h.length:=by
 have he:=hr.en k e hl
 have own:∀ {id ty:Nat} {bs:List C},h[id]? =some (.own ty bs)→id < h.length:=fun e=>(List.getElem?_eq_some_iff.1 e).1
 match e,he with
 | .sl v true dp t xs,⟨_,he⟩=>
   rcases he with⟨_,h2,h3,_⟩|⟨id,ty,ez,bs,S,h1,h2,h3,h4,h5,h6,h7,h8⟩
   ·intro i hi;rw[h2,h3]at hi;simp at hi
   ·intro i hi
    rw[h3,h8]at hi
    rcases List.mem_append.1 hi with hi|hi
    ·simp at hi;subst hi;exact own h4
    ·split at hi
     ·exact aG.lt xs h6 i hi
     ·simp at hi
 | .sl v false dp t xs,⟨_,h1,h2,_⟩=>intro i hi;rw[h1,h2]at hi;simp at hi
 | .pt v ty ds,⟨_,h1,id,bs,h2,h3,h4,_⟩=>intro i hi;rw[h1,h3]at hi;simp at hi;subst hi;exact own h4
theorem Ks {P:Nat→Prop} {id ty:Nat} {cs':List C} (ho:∀i cs,P i→h[i]? ≠some (.ro cs)):∀i cs,P i→(h.set id (.own ty cs'):H)[i]? ≠some (.ro cs):=fun i cs hi=>by
 rw[List.getElem?_set]
 split
 ·split <;>simp
 ·exact ho i cs hi
theorem Jl {P:Nat→Prop} {id:Nat} (ho:∀i cs,P i→h[i]? ≠some (.ro cs)):∀i cs,P i→(h.set id .dead:H)[i]? ≠some (.ro cs):=fun i cs hi=>by
 rw[List.getElem?_set]
 split
 ·split <;>simp
 ·exact ho i cs hi
theorem aB.JI (hr:aB Γ γ f st mf h) {k:Nat} {e':En} {b:tO} {c:C} {u:List Nat} {h0:H} (hve:e'.nZ=st.nx) (hl0:h0.length=h.length)
 (hc0:∀i,i < h.length→PR Γ γ st i→h0.cells i=h.cells i)
 (ho0:∀k' e,k'≠k→lk k' st.es=some e→∀i∈γ.w k',h0[i]? =h[i]?)
 (hb0:∀i,i < Γ.hb.length→i∉Γ.bs→h0[i]? =h[i]?)
 (hu:u.Nodup∧(∀i∈u,pH Γ i∧i < h.length)∧∀k' e,k'≠k→lk k' st.es=some e→∀i∈u,i∉γ.w k'++γ.u k')
 (hk:Mo Γ γ st h (γ.up k c [h.length] u) ⟨st.nx+1,(k,e')::st.es⟩ (h0++ [b])→ER Γ (γ.up k c [h.length] u) ⟨st.nx+1,(k,e')::st.es⟩ (h0++ [b]) k e') (hr0:∀i cs,pH Γ i→h0[i]? ≠some (.ro cs)) (hbr:∀cs,b≠ .ro cs):
 aB Γ (γ.up k c [h.length] u) f ⟨st.nx+1,(k,e')::st.es⟩ mf (h0++ [b])∧Mo Γ γ st h (γ.up k c [h.length] u) ⟨st.nx+1,(k,e')::st.es⟩ (h0++ [b]):=by
 have hap:∀i,i < h.length→(h0++ [b]:H)[i]? =h0[i]? :=fun i hi=>List.getElem?_append_left (by omega)
 refine hr.jc (by omega) (.inl (by omega)) (fun i hi hp=> ?_) (fun i hi hlt=> ?_) (fun k' e hne hl i hi=> ?_) ⟨?_,fun i hi=> ?_⟩ (fun k' e hne hl i hi=> ?_) (by simp;omega) (fun i hi hn=> ?_) hk (fun i cs hi=> ?_)
 ·rw[uZ (by omega)];exact hc0 i hi hp
 ·simp at hi;omega
 ·rw[hap i (hr.blt hl i (by simp[hi]))];exact ho0 k' e hne hl i hi
 ·refine List.nodup_append.2 ⟨by simp,hu.1,fun a ha b hb e=> ?_⟩
  simp at ha
  subst ha e
  exact Nat.lt_irrefl _ (hu.2.1 _ hb).2
 ·rcases List.mem_append.1 hi with hi|hi
  ·simp at hi;subst hi;exact .inr hr.len
  ·exact(hu.2.1 i hi).1
 ·rcases List.mem_append.1 hi with hi|hi
  ·simp at hi;subst hi;exact fun hi'=>Nat.lt_irrefl _ (hr.blt hl _ hi')
  ·exact hu.2.2 k' e hne hl i hi
 ·rw[hap i (Nat.lt_of_lt_of_le hi hr.len)];exact hb0 i hi hn
 ·by_cases hlt:i < h.length
  ·rw[hap i hlt];exact hr0 i cs hi
  ·rw[List.getElem?_append_right (by omega)]
   intro he
   cases hx:i - h0.length with
   |zero=>rw[hx]at he;simp at he;exact hbr cs he
   |succ n=>rw[hx]at he;simp at he
theorem D2 {h:H} {n:Nat} (hl:h.length=n) (b:tO):(h++ [b]:H)[n]? =some b:=by subst hl;exact iK h b []
theorem JB {z:List C} {z':List D} {e:Nat} (hz:bT h z' z []) (hl:z'.length=e):∀n,aG h (List.replicate n z') e (List.replicate n z).flatten []
 |0=>by simp[aG]
 |n+1=>by
  simp only[List.replicate_succ,List.flatten_cons,aG]
  exact⟨z,_,[],[],rfl,rfl,by rw[hz.len,hl],hz,JB hz hl n⟩
theorem bT.aR:∀ {vs:List D} {ws:List C} {x:List D} {cx:List C} {S T:List Nat} {o:Nat},bT h x cx S→bT h vs ws T→∃S',bT h (Eng.aR x o vs) (Eng.aR cx o ws) S'∧∀i∈S',i∈S∨i∈T
 | [],ws,x,cx,S,T,o,hx,hv=>by
   simp only[bT]at hv
   obtain⟨rfl,rfl⟩:=hv
   exact⟨S,hx,fun i hi=> .inl hi⟩
 |d::vs,ws,x,cx,S,T,o,hx,hv=>by
  simp only[bT]at hv
  obtain⟨c,cr,S1,S2,rfl,rfl,h3,h4⟩:=hv
  have hset:∃S',bT h (x.set o d) (cx.set o c) S'∧∀i∈S',i∈S∨i∈S1:=by
   clear h4
   induction x generalizing cx S o with
   |nil=>simp only[bT]at hx;obtain⟨rfl,rfl⟩:=hx;exact⟨[],by simp[bT],fun i hi=>by simp at hi⟩
   |cons y ys ih=>
    simp only[bT]at hx
    obtain⟨cy,cys,T1,T2,rfl,rfl,k3,k4⟩:=hx
    cases o with
    |zero=>exact⟨S1++T2,by simp only[List.set_cons_zero,bT];exact⟨c,cys,S1,T2,rfl,rfl,h3,k4⟩,fun i hi=>by rcases List.mem_append.1 hi with hi|hi <;>simp[hi]⟩
    |succ o=>
     obtain⟨S',q1,q2⟩:=ih (o:=o) (cx:=cys) (S:=T2) k4
     refine⟨T1++S',by simp only[List.set_cons_succ,bT];exact⟨cy,_,T1,S',rfl,rfl,k3,q1⟩,fun i hi=> ?_⟩
     rcases List.mem_append.1 hi with hi|hi
     ·simp[hi]
     ·rcases q2 i hi with hi|hi <;>simp[hi]
  obtain⟨S',q1,q2⟩:=hset
  obtain⟨S'',q3,q4⟩:=bT.aR (o:=o+1) q1 h4
  refine⟨S'',q3,fun i hi=> ?_⟩
  rcases q4 i hi with hi|hi
  ·rcases q2 i hi with hi|hi <;>simp[hi]
  ·simp[hi]
theorem Hd {α:Type} {bs ws:List α} {p e o:Nat} (ho:o+ws.length≤e) (hp:p+e≤bs.length):aR bs (p+o) ws=bs.take p++(aR ((bs.drop p).take e) o ws++bs.drop (p+e)):=by
 have h1:((bs.drop p).take e).length=e:=by simp;omega
 rw[du _ _ _ (by omega),du _ _ _ (by omega),List.take_take,List.drop_take,List.drop_drop]
 have e1:min o e=o:=by omega
 rw[e1,List.take_add,List.append_assoc,List.append_assoc,List.append_assoc,List.append_assoc]
 congr 2
 congr 1
 have e2:p+o+ws.length=p+(o+ws.length):=by omega
 rw[e2]
 have e3:bs.drop (p+e)=(bs.drop (p+(o+ws.length))).drop (e - (o+ws.length)):=by rw[List.drop_drop];congr 1;omega
 rw[e3,List.take_append_drop]
theorem RD.PK {xs:List (List D)} {c:C} {S:List Nat} {esz:Nat} {l u:Int} (hr:RD h (.sl xs) c S) (hw:wid esz xs=true) (h0:0≤l) (h1:l≤u) (h2:u≤(xs.length:Int)):
 ∃c' S',RD h (.sl ((xs.drop l.toNat).take (u - l).toNat)) c' S'∧(∀i∈S',i∈S)∧((c= .nils∧l=0∧u=0∧c'= .nils)∨(c= .emp∧l=0∧u=0∧c'= .emp)∨
  ∃id off e,c= .sl id off xs.length e∧(e=esz∨xs.length=0)∧c'= .sl id (off+l.toNat * e) (u - l).toNat e):=by
 simp only[RD]at hr
 rcases hr with⟨rfl,rfl,rfl|rfl⟩|⟨id,off,e,bs,S',rfl,h3,h4,rfl,h5⟩
 ·simp at h2
  exact⟨.nils,[],by simp[RD],fun i hi=>by simp at hi, .inl ⟨rfl,by omega,by omega,rfl⟩⟩
 ·simp at h2
  exact⟨.emp,[],by simp[RD],fun i hi=>by simp at hi, .inr (.inl ⟨rfl,by omega,by omega,rfl⟩)⟩
 ·obtain⟨S1,S2,k1,k2,k3⟩:=h5.cut l.toNat
  obtain⟨T1,T2,q1,q2,q3⟩:=k3.cut (u - l).toNat
  have hlen:((xs.drop l.toNat).take (u - l).toNat).length=(u - l).toNat:=by simp;omega
  have hle:(l.toNat+(u - l).toNat) * e≤xs.length * e:=Nat.mul_le_mul_right _ (by omega)
  rw[Nat.add_mul]at hle
  refine⟨.sl id (off+l.toNat * e) (u - l).toNat e,id::T1,?_,fun i hi=> ?_, .inr (.inr ⟨id,off,e,rfl,h5.same hw,rfl⟩)⟩
  ·simp only[RD]
   refine .inr ⟨id,off+l.toNat * e,e,bs,T1,by rw[hlen],h3,by rw[hlen];omega,rfl,?_⟩
   rw[hlen]
   have:((((bs.drop off).take (xs.length * e)).drop (l.toNat * e)).take ((u - l).toNat * e))=(bs.drop (off+l.toNat * e)).take ((u - l).toNat * e):=by
    rw[List.drop_take,List.take_take,List.drop_drop]
    congr 1
    omega
   rw[←this]
   exact q2
  ·rcases List.mem_cons.1 hi with rfl|hi
   ·simp
   ·simp[k1,q1,hi]
theorem FW:∀ {xs:List (List D)} {b:ByteArray} {cs:List C} {S:List Nat} {e:Nat},vV xs=some b→aG h xs e cs S→bytesOf cs=some b
 | [],b,cs,S,e,hb,hr=>by simp only[aG]at hr;simp[vV]at hb;subst hb;rw[hr.1];rfl
 |x::xs,b,cs,S,e,hb,hr=>by
  unfold vV at hb
  split at hb
  ·rename_i he;cases he
  ·rename_i n r he
   cases he
   split at hb
   ·rename_i b' hb'
    simp at hb
    subst hb
    simp only[aG,bT,RD]at hr
    obtain⟨c1,c2,S1,S2,rfl,rfl,_,⟨c,cr,T1,T2,rfl,rfl,⟨rfl,rfl⟩,rfl,rfl⟩,h5⟩:=hr
    simp only[List.cons_append,List.nil_append,bytesOf,FW hb' h5]
   ·simp at hb
  ·simp at hb
theorem EJ:∀ {xs:List (List D)} {b:ByteArray},vV xs=some b→wid 1 xs=true
 | [],_,_=>rfl
 |x::xs,b,hb=>by
  unfold vV at hb
  split at hb
  ·rename_i he;cases he
  ·rename_i n r he
   cases he
   split at hb
   ·rename_i b' hb'
    simp[wid,EJ hb']
   ·simp at hb
  ·simp at hb
theorem FC:∀ {ds:List D} {cs cs':List C},JN ds=some cs'→ah (DC Γ γ st h) cs ds→cs=cs'
 | [],[],cs',hd,_=>by simp[JN]at hd;exact hd.symm
 |d::ds,c::cs,cs',hd,ha=>by
  simp only[JN]at hd
  split at hd
  ·rename_i a b h1 h2
   simp at hd
   subst hd
   rw[ha.1.dC h1,FC h2 ha.2]
  ·simp at hd
theorem DC.B4 {k v:Nat} {o dp:Bool} {t:Option (Nat×Nat)} {xs:List (List D)} {c:C} (hd:DC Γ γ st h c (.ow k v)) (hl:lk k st.es=some (.sl v o dp t xs)):c=γ.c k:=hd.2 _ _ _ _ hl
theorem DC.FA {k v nx:Nat} {es:List (Nat×En)} {c:C} {e:En} {w u:List Nat} (hv:v < nx):DC Γ (γ.up k c w u) ⟨nx,(k,e)::es⟩ h c (.ow k v):=⟨hv,fun _ _ _ _ _=>by simp⟩
end
end Go.Eng
namespace Go.Eng
def i2 (Γ:Cx) (a:AI) (mf:Fr) (h:H) (f':UT) (st':St):Prop:=∃mf' h',ai a mf h=some (mf',h')∧Rel Γ f' st' mf' h'
section
variable {Γ:Cx} {γ γ':Gh} {f f':UT} {st st':St} {mf mf':Fr} {h h':H}
theorem br (hr:aB Γ γ f st mf h) {a:AI} {d:Nat} {mv:V} {uv:U} (ha:ai a mf h=some (mf.set d mv,h)) (hv:UR Γ γ st h mv uv):i2 Γ a mf h (UW f d uv) st:=
 ⟨_,_,ha,γ,hr.set hv⟩
theorem Ao {a:AI} {d:Nat} {mv:V} {uv:U} (hr:aB Γ γ' f st' mf h') (ha:ai a mf h=some (mf.set d mv,h')) (hv:UR Γ γ' st' h' mv uv):i2 Γ a mf h (UW f d uv) st':=
 ⟨_,_,ha,γ',hr.set hv⟩
theorem UR.v1 {c:C} {d:D} (hd:DC Γ γ st h c d):UR Γ γ st h (.val false [c]) (.val false [d]):=⟨[c],rfl,hd,trivial⟩
theorem UR.int {k:IntKind} {n:Int}:UR Γ γ st h (.val false [.int k n]) (.val false [.int k n]):=UR.v1 ⟨[],by simp[RD],fun i hi=>by simp at hi⟩
theorem UR.bool {b:Bool}:UR Γ γ st h (.val false [.bool b]) (.val false [.bool b]):=UR.v1 ⟨[],by simp[RD],fun i hi=>by simp at hi⟩
theorem UR.str {b:ByteArray}:UR Γ γ st h (.val false [.str b]) (.val false [.str b]):=UR.v1 ⟨[],by simp[RD],fun i hi=>by simp at hi⟩
theorem LX (hr:aB Γ γ f st mf h) {d:Nat} {x:X} (hv:bk (.mov d x) f st=some (f',st')):i2 Γ (.mov d x) mf h f' st':=by
 simp only[bk]at hv
 cases hu:wy f x with
 |any=>simp[hu]at hv
 |box ds=>simp[hu]at hv
 |lsl ds n e=>simp[hu]at hv
 |val g ds=>
  simp[hu]at hv
  obtain⟨rfl,rfl⟩:=hv
  obtain⟨⟨cs,h1,h2⟩,_⟩:=ie hr hu (by simp)
  exact br hr (by simp only[ai,h1]) ⟨cs,rfl,h2⟩
 |tup vs=>
  simp[hu]at hv
  obtain⟨rfl,rfl⟩:=hv
  obtain⟨⟨ws,h1,h2⟩,_⟩:=ie hr hu (by simp)
  exact br hr (by simp only[ai,h1]) ⟨ws,rfl,h2⟩
 |lref r o=>
  simp[hu]at hv
  obtain⟨rfl,rfl⟩:=hv
  obtain⟨h1,_⟩:=ie hr hu (by simp)
  exact br (mv:= .lref r o) hr (by simp only[ai,show ev mf x= .lref r o from h1]) rfl
theorem Iq (hr:aB Γ γ f st mf h) {d:Nat} {c a b:X} (hv:bk (.pick d c a b) f st=some (f',st')):i2 Γ (.pick d c a b) mf h f' st':=by
 simp only[bk]at hv
 split at hv
 ·rename_i hc
  split at hv
  ·rename_i g ds hu
   simp at hv
   obtain⟨rfl,rfl⟩:=hv
   obtain⟨cs,h1,h2⟩:=fV hr hu
   exact br hr (by simp only[ai,de hr hc rfl,h1]) ⟨cs,rfl,h2⟩
  ·simp at hv
 ·rename_i hc
  split at hv
  ·rename_i g ds hu
   simp at hv
   obtain⟨rfl,rfl⟩:=hv
   obtain⟨cs,h1,h2⟩:=fV hr hu
   exact br hr (by simp only[ai,de hr hc rfl,h1]) ⟨cs,rfl,h2⟩
  ·simp at hv
 ·simp at hv
theorem UR.MI {v:V} {u:U} (hu:UR Γ γ st h v u) (hn:∀ds,u≠ .box ds):∀cs,v≠ .box cs:=by
 cases u with
 |any=>exact hu
 |val g ds=>obtain⟨cs,h1,_⟩:=hu;simp[h1]
 |tup vs=>obtain⟨cs,h1,_⟩:=hu;simp[h1]
 |box ds=>exact absurd rfl (hn ds)
 |lsl ds n e=>obtain⟨cs,h1,_⟩:=hu;simp[h1]
 |lref r o=>have:v= .lref r o:=hu;simp[this]
theorem JU (hr:aB Γ γ f st mf h) {d:Nat} {x:X} (hv:bk (.lbox d x) f st=some (f',st')):i2 Γ (.lbox d x) mf h f' st':=by
 simp only[bk]at hv
 split at hv
 ·simp at hv
 ·rename_i hn
  have hb:=(hr.slot d).MI hn
  split at hv
  ·rename_i g ds hu
   simp at hv
   obtain⟨rfl,rfl⟩:=hv
   obtain⟨cs,h1,h2⟩:=fV hr hu
   refine br (mv:= .box cs) hr ?_ ⟨cs,rfl,h2⟩
   simp only[ai,h1]
  ·simp at hv
theorem KX (hr:aB Γ γ f st mf h) {d:Nat} {cs:List C} (hv:bk (.lal d cs) f st=some (f',st')):i2 Γ (.lal d cs) mf h f' st':=by
 simp only[bk]at hv
 split at hv
 ·simp at hv
 ·rename_i hn
  have hb:=(hr.slot d).MI hn
  split at hv
  ·rename_i ds hu
   simp at hv
   obtain⟨rfl,rfl⟩:=hv
   refine br (mv:= .box cs) hr ?_ ⟨cs,rfl,rR hu⟩
   simp only[ai]
  ·simp at hv
theorem Mj (hr:aB Γ γ f st mf h) {d ty:Nat} {cs:List C} {ds:List D} (ha:ah (DC Γ γ st h) cs ds) {a:AI} (hai:ai a mf h=some (mf.set d (.val false [.ptr h.length 0]),h++ [.own ty cs])):
 i2 Γ a mf h (UW f d (.val false [.pt d st.nx 0])) (st.G9 d ty ds):=by
 obtain⟨q1,q2⟩:=hr.JI (k:=d) (e':= .pt st.nx ty ds) (b:= .own ty cs) (c:= .ptr h.length 0) (u:= []) (h0:=h) rfl rfl (fun _ _ _=>rfl) (fun _ _ _ _ _ _=>rfl) (fun _ _ _=>rfl) ⟨by simp,fun i hi=>by simp at hi,fun _ _ _ _ i hi=>by simp at hi⟩
  (fun hm=>⟨Nat.lt_succ_self _,by simp,h.length,cs,by simp,by simp,D2 rfl _,ha.imp fun _ _=>DC.mo hm⟩) hr.own (fun _ e=>by cases e)
 exact⟨_,_,hai,_,q1.set (UR.v1 ⟨Nat.lt_succ_self _,fun ty' ds' hl=>⟨h.length,by simp,rfl⟩⟩)⟩
theorem JM (hr:aB Γ γ f st mf h) {d ty:Nat} {x:X} (hv:bk (.hbox d ty x) f st=some (f',st')):i2 Γ (.hbox d ty x) mf h f' st':=by
 simp only[bk]at hv
 split at hv
 ·rename_i g ds hu
  simp at hv
  obtain⟨rfl,rfl⟩:=hv
  obtain⟨cs,h1,h2⟩:=fV hr hu
  exact Mj hr h2 (by simp only[ai,h1])
 ·simp at hv
theorem Ma (hr:aB Γ γ f st mf h) {d ty:Nat} {cs:List C} (hv:bk (.hal d ty cs) f st=some (f',st')):i2 Γ (.hal d ty cs) mf h f' st':=by
 simp only[bk]at hv
 split at hv
 ·rename_i ds hu
  simp at hv
  obtain⟨rfl,rfl⟩:=hv
  exact Mj hr (rR hu) rfl
 ·simp at hv
theorem KA (hr:aB Γ γ f st mf h) {d:Nat} {z:List C} {ps:List (Nat×Nat×X)} (hv:bk (.bld d z ps) f st=some (f',st')):i2 Γ (.bld d z ps) mf h f' st':=by
 simp only[bk]at hv
 split at hv
 ·rename_i z' hz
  split at hv
  ·rename_i ds hf
   simp at hv
   obtain⟨rfl,rfl⟩:=hv
   obtain⟨cs,h1,h2⟩:=ta hr hf (rR hz)
   exact br hr (by simp only[ai,h1]) ⟨cs,rfl,h2⟩
  ·simp at hv
 ·simp at hv
theorem Lg (hr:aB Γ γ f st mf h) {d e n:Nat} {z:List C} {ps:List (Nat×Nat×X)} (hv:bk (.lsl d e n z ps) f st=some (f',st')):i2 Γ (.lsl d e n z ps) mf h f' st':=by
 simp only[bk]at hv
 split at hv
 ·rename_i z' hz
  split at hv
  ·rename_i ds hf
   simp at hv
   obtain⟨rfl,rfl⟩:=hv
   obtain⟨cs,h1,h2⟩:=ta hr hf (ah.flatten (rR hz) n)
   exact br hr (by simp only[ai,h1]) ⟨cs,rfl,h2⟩
  ·simp at hv
 ·simp at hv
theorem GX (hr:aB Γ γ f st mf h) {k ty ez:Nat} {b:Bool} {xs:List (List D)} {bs:List C} {S u:List Nat} {h0:H} (hl0:h0.length=h.length)
 (hc0:∀i,i < h.length→PR Γ γ st i→h0.cells i=h.cells i)
 (ho0:∀k' e,k'≠k→lk k' st.es=some e→∀i∈γ.w k',h0[i]? =h[i]?)
 (hb0:∀i,i < Γ.hb.length→i∉Γ.bs→h0[i]? =h[i]?)
 (hr0:∀i cs,pH Γ i→h0[i]? ≠some (.ro cs)) (hx:aG h xs ez bs S) (hS:∀i∈S,PR Γ γ st i) (hu:u=if b=true then S else [])
 (hf:b=true→S.Nodup∧(∀i∈S,pH Γ i)∧∀k' e,k'≠k→lk k' st.es=some e→∀i∈S,i∉γ.w k'++γ.u k'):
 aB Γ (γ.up k (.sl h.length 0 xs.length ez) [h.length] u) f (st.news k true b (some (ty,ez)) xs) mf (h0++ [.own ty bs]):=by
 refine(hr.JI (k:=k) (e':= .sl st.nx true b (some (ty,ez)) xs) (b:= .own ty bs) (c:= .sl h.length 0 xs.length ez) (u:=u) (h0:=h0) rfl hl0 hc0 ho0 hb0 ⟨?_,fun i hi=> ?_,fun k' e hne hl i hi=> ?_⟩
  (fun hm=>⟨Nat.lt_succ_self _, .inr ⟨h.length,ty,ez,bs,S,rfl,by simp,by simp,D2 hl0 _,hx.len,aG.frame xs hx fun i hi=>(hm.cell i (aG.lt xs hx i hi) (hS i hi)).1,fun i hi=>(hm.cell i (aG.lt xs hx i hi) (hS i hi)).2,by simp[hu]⟩⟩) hr0 (fun _ e=>by cases e)).1
 ·rw[hu];split
  ·rename_i hb;exact(hf hb).1
  ·simp
 ·rw[hu]at hi
  split at hi
  ·rename_i hb;exact⟨(hf hb).2.1 i hi,aG.lt xs hx i hi⟩
  ·simp at hi
 ·rw[hu]at hi
  split at hi
  ·rename_i hb;exact(hf hb).2.2 k' e hne hl i hi
  ·simp at hi
theorem hH.ne {S:List Nat} (hf:hH Γ γ st S) (k:Nat):S.Nodup∧(∀i∈S,pH Γ i)∧∀k' e,k'≠k→lk k' st.es=some e→∀i∈S,i∉γ.w k'++γ.u k':=⟨hf.1,hf.2.1,fun k' e _ hl=>hf.2.2 k' e hl⟩
theorem IJ (hr:aB Γ γ f st mf h) {k:Nat} {b:Bool} {t:Option (Nat×Nat)} {c:C} (hc:c= .nils∨c= .emp):aB Γ (γ.up k c [] []) f (st.news k true b t []) mf h:=
 (hr.jc (k:=k) (nx':=st.nx+1) (e':= .sl st.nx true b t []) (c:=c) (w:= []) (u:= []) (h':=h) (Nat.le_succ _) (.inl (Nat.le_refl _)) (fun _ _ _=>rfl) (fun i hi=>by simp at hi) (fun _ _ _ _ _ _=>rfl) ⟨by simp,fun i hi=>by simp at hi⟩ (fun _ _ _ _ i hi=>by simp at hi) (Nat.le_refl _) (fun _ _ _=>rfl)
   (fun hm=>⟨Nat.lt_succ_self _, .inl ⟨rfl,by simp,by simp,by simpa using hc⟩⟩) hr.own).1
theorem KM (hr:aB Γ γ f st mf h) {d:Nat} (hv:bk (.bse d) f st=some (f',st')):i2 Γ (.bse d) mf h f' st':=by
 simp only[bk,Option.some.injEq,Prod.mk.injEq]at hv
 obtain⟨rfl,rfl⟩:=hv
 exact⟨_,_,rfl,_,(IJ hr (.inr rfl)).set (UR.v1 (DC.FA (Nat.lt_succ_self _)))⟩
theorem LL (hr:aB Γ γ f st mf h) {d ty e n:Nat} {z:List C} {ps:List (Nat×Nat×X)} (hv:bk (.bsl d ty e n z ps) f st=some (f',st')):i2 Γ (.bsl d ty e n z ps) mf h f' st':=by
 simp only[bk]at hv
 split at hv
 ·rename_i z' hz
  split at hv
  ·rename_i ds hf
   split at hv
   ·rename_i ds' st1 b hd
    split at hv
    ·rename_i hl
     simp at hv
     obtain⟨rfl,rfl⟩:=hv
     obtain⟨cs,h1,h2⟩:=ta hr hf (ah.flatten (rR hz) n)
     obtain⟨γ1,S,k1,k2,k3,k4,k5,_⟩:=Bw hr h2 hd
     have hc:=oP k3 hl
     have:=GX k1 (k:=d) (ty:=ty) (b:=b) (h0:=h) rfl (fun _ _ _=>rfl) (fun _ _ _ _ _ _=>rfl) (fun _ _ _=>rfl) k1.own hc k4 rfl (fun hb=>(k5 hb).ne d)
     rw[gL]at this
     exact Ao (mv:= .val false [.sl h.length 0 n e]) this (by simp only[ai,h1]) (UR.v1 ⟨Nat.lt_succ_self _,fun _ _ _ _ _=>by simp⟩)
    ·simp at hv
   ·simp at hv
  ·simp at hv
 ·simp at hv
theorem KK (hr:aB Γ γ f st mf h) {d ty e by_:Nat} {z:List C} {x:X} (hv:bk (.mks d ty e by_ z x) f st=some (f',st')):i2 Γ (.mks d ty e by_ z x) mf h f' st':=by
 simp only[bk]at hv
 split at hv
 ·rename_i n hx
  split at hv
  ·rename_i z' hz
   split at hv
   ·rename_i hc
    simp at hv
    obtain⟨rfl,rfl⟩:=hv
    have:=GX hr (k:=d) (ty:=ty) (b:=true) (h0:=h) rfl (fun _ _ _=>rfl) (fun _ _ _ _ _ _=>rfl) (fun _ _ _=>rfl) hr.own (JB (DB (h:=h) hz) hc.2.2 n.toNat) (fun i hi=>by simp at hi) rfl (fun _=>hH.nil.ne d)
    rw[List.length_replicate]at this
    exact Ao (mv:= .val false [.sl h.length 0 n.toNat e]) this (by simp only[ai,de hr hx rfl];rw[if_pos ⟨hc.1,hc.2.1⟩]) (UR.v1 ⟨Nat.lt_succ_self _,fun _ _ _ _ _=>by simp⟩)
   ·simp at hv
  ·simp at hv
 ·simp at hv
theorem UR.one {v:V} {d:D} (hu:UR Γ γ st h v (.val false [d])):∃c,v= .val false [c]∧DC Γ γ st h c d:=by
 obtain⟨cs,h1,h2⟩:=hu
 match cs,h2 with
 | [c],h2=>exact⟨c,h1,h2.1⟩
theorem jl (hr:aB Γ γ f st mf h) {x:X} {d:D} (hu:wy f x= .val false [d]):∃c,ev mf x= .val false [c]∧DC Γ γ st h c d:=UR.one (ie hr hu (by simp)).1
theorem DC.AN {c:C} {k v o:Nat} {p:Nat×List D} (hd:DC Γ γ st h c (.pt k v o)) (hs:st.ptr k v=some p):∃id,γ.c k= .ptr id 0∧c= .ptr id o:=hd.2 p.1 p.2 (St.fh hs)
theorem DC.Jk {id k v o:Nat} (hv:v < st.nx) (hc:γ.c k= .ptr id 0):DC Γ γ st h (.ptr id o) (.pt k v o):=⟨hv,fun _ _ _=>⟨id,hc,rfl⟩⟩
theorem LN (hr:aB Γ γ f st mf h) {d off:Nat} {x:X} (hv:bk (.fad d x off) f st=some (f',st')):i2 Γ (.fad d x off) mf h f' st':=by
 simp only[bk]at hv
 split at hv
 ·rename_i r o hu
  simp at hv
  obtain⟨rfl,rfl⟩:=hv
  have h1:ev mf x= .lref r o:=(ie hr hu (by simp)).1
  exact br (mv:= .lref r (o+off)) hr (by simp only[ai,h1]) rfl
 ·rename_i k v o hu
  split at hv
  ·rename_i p hp
   simp at hv
   obtain⟨rfl,rfl⟩:=hv
   obtain⟨c,h1,h2⟩:=jl hr hu
   obtain⟨id,q1,rfl⟩:=h2.AN hp
   exact br (mv:= .val false [.ptr id (o+off)]) hr (by simp only[ai,h1]) (UR.v1 (DC.Jk h2.1 q1))
  ·simp at hv
 ·rename_i y o hu
  simp at hv
  obtain⟨rfl,rfl⟩:=hv
  obtain⟨c,h1,id,p,bs,S,rfl,h2⟩:=jl hr hu
  exact br (mv:= .val false [.ptr id (p+o+off)]) hr (by simp only[ai,h1]) (UR.v1 ⟨id,p,bs,S,by rw[Nat.add_assoc],h2⟩)
 ·rename_i k v j o hu
  split at hv
  ·rename_i q hq
   simp at hv
   obtain⟨rfl,rfl⟩:=hv
   obtain⟨c,h1,h2⟩:=jl hr hu
   obtain⟨id,e,k1,rfl,k3⟩:=h2.2 _ _ _ (St.cL hq)
   refine br (mv:= .val false [.ptr id (j * e+o+off)]) hr (by simp only[ai,h1]) (UR.v1 ⟨h2.1,fun dp t xs hl=> ?_⟩)
   have h9:=St.cL hq
   rw[h9]at hl
   cases hl
   exact⟨id,e,k1,by rw[Nat.add_assoc],k3⟩
  ·simp at hv
 ·simp at hv
theorem Lm (hr:aB Γ γ f st mf h) {d:Nat} {x:X} (hv:bk (.nch d x) f st=some (f',st')):i2 Γ (.nch d x) mf h f' st':=by
 simp only[bk]at hv
 split at hv
 ·rename_i r o hu
  simp at hv
  obtain⟨rfl,rfl⟩:=hv
  have h1:ev mf x= .lref r o:=(ie hr hu (by simp)).1
  exact br (mv:= .lref r o) hr (by simp only[ai,h1]) rfl
 ·rename_i k v o hu
  split at hv
  ·rename_i p hp
   simp at hv
   obtain⟨rfl,rfl⟩:=hv
   obtain⟨c,h1,h2⟩:=jl hr hu
   obtain⟨id,q1,rfl⟩:=h2.AN hp
   exact br (mv:= .val false [.ptr id o]) hr (by simp only[ai,h1]) (UR.v1 h2)
  ·simp at hv
 ·rename_i y o hu
  simp at hv
  obtain⟨rfl,rfl⟩:=hv
  obtain⟨c,h1,id,p,bs,S,rfl,h2⟩:=jl hr hu
  exact br (mv:= .val false [.ptr id (p+o)]) hr (by simp only[ai,h1]) (UR.v1 ⟨id,p,bs,S,rfl,h2⟩)
 ·rename_i k v j o hu
  split at hv
  ·rename_i q hq
   simp at hv
   obtain⟨rfl,rfl⟩:=hv
   obtain⟨c,h1,h2⟩:=jl hr hu
   obtain⟨id,e,k1,rfl,k3⟩:=h2.2 _ _ _ (St.cL hq)
   exact br (mv:= .val false [.ptr id (j * e+o)]) hr (by simp only[ai,h1]) (UR.v1 h2)
  ·simp at hv
 ·rename_i g hu
  simp at hv
  obtain⟨rfl,rfl⟩:=hv
  obtain⟨c,h1,h2⟩:=jl hr hu
  have:=h2.dC (c':= .fn g) rfl
  subst this
  exact br (mv:= .val false [.fn g]) hr (by simp only[ai,h1]) (UR.v1 h2)
 ·simp at hv
theorem Kt (hr:aB Γ γ f st mf h) {d e:Nat} {x i:X} (hv:bk (.iad d x i e) f st=some (f',st')):i2 Γ (.iad d x i e) mf h f' st':=by
 simp only[bk]at hv
 split at hv
 ·rename_i dx k j hx hi
  obtain⟨c,c1,c2⟩:=dM hr hx
  have c3:=de hr hi (c:= .int k j) rfl
  have pure:∀(xs:List (List D)) (S:List Nat) (y:List D),RD h (.sl xs) c S→(∀i∈S,PR Γ γ st i)→xs[j.toNat]? =some y→y.length=e→0≤j→i2 Γ (.iad d x i e) mf h (UW f d (.val false [.pe y 0])) st:=by
   intro xs S y hS hp hy hl hj
   have hlt:=(List.getElem?_eq_some_iff.1 hy).1
   simp only[RD]at hS
   rcases hS with⟨rfl,_⟩|⟨id,off,e',bs,S',rfl,h2,h3,rfl,h5⟩
   ·simp at hy
   ·have he:e'=e:=by rw[←hl];exact(h5.wid y (List.mem_of_getElem? hy)).symm
    subst he
    obtain⟨S1,Sj,S2,q1,q2,q3,q4⟩:=h5.at hy
    have hle:(j.toNat+1) * e'≤xs.length * e':=Nat.mul_le_mul_right _ hlt
    rw[Nat.add_mul,Nat.one_mul]at hle
    refine br (mv:= .val false [.ptr id (off+j.toNat * e')]) hr ?_ (UR.v1 ⟨id,off+j.toNat * e',bs,Sj,by simp,h2,by omega,?_,hp id (by simp),fun i hi=>hp i (by simp[q1,hi])⟩)
    ·simp only[ai,c1,c3,CT]
     rw[if_pos ⟨trivial,hj,by omega⟩]
    ·rw[hl,←kj hlt]
     exact q3
  split at hv
  ·rename_i hj
   split at hv
   ·rename_i xs
    split at hv
    ·rename_i y hy
     split at hv
     ·rename_i hl
      simp at hv
      obtain⟨rfl,rfl⟩:=hv
      obtain⟨S,s1,s2⟩:=c2
      exact pure xs S y s1 s2 hy hl hj
     ·simp at hv
    ·simp at hv
   ·rename_i k' v
    split at hv
    ·rename_i o dp t xs hs
     split at hv
     ·rename_i y hy
      split at hv
      ·rename_i hl
       simp at hv
       obtain⟨rfl,rfl⟩:=hv
       have hlk:=St.cL hs
       have hc:=c2.B4 hlk
       cases o with
       |false=>
        obtain⟨_,_,_,S,s1,s2⟩:=hr.en _ _ hlk
        rw[←hc]at s1
        exact pure xs S y s1 s2 hy hl hj
       |true=>
        have hlt:=(List.getElem?_eq_some_iff.1 hy).1
        obtain⟨_,he⟩:=hr.en _ _ hlk
        rcases he with⟨rfl,_⟩|⟨id,ty,ez,bs,S,k1,k2,k3,k4,k5,k6,k7,k8⟩
        ·simp at hy
        ·have he:ez=e:=by rw[←hl];exact(k6.wid y (List.mem_of_getElem? hy)).symm
         subst he
         rw[k2]at hc
         subst hc
         refine br (mv:= .val false [.ptr id (0+j.toNat * ez)]) hr ?_ (UR.v1 ⟨c2.1,fun dp' t' xs' hl'=> ?_⟩)
         ·simp only[ai,c1,c3,CT]
          rw[if_pos ⟨trivial,hj,by omega⟩]
         ·rw[hlk]at hl'
          cases hl'
          exact⟨id,ez,k2,by simp,hlt⟩
      ·simp at hv
     ·simp at hv
    ·simp at hv
   ·rename_i k' v o n e'
    split at hv
    ·rename_i p hp
     split at hv
     ·rename_i hc
      simp at hv
      obtain⟨rfl,rfl⟩:=hv
      obtain⟨rfl,hjn⟩:=hc
      obtain⟨id,q1,rfl⟩:=c2.2 p.1 p.2 (St.fh hp)
      refine br (mv:= .val false [.ptr id (o+j.toNat * e')]) hr ?_ (UR.v1 (DC.Jk c2.1 q1))
      simp only[ai,c1,c3,CT]
      rw[if_pos ⟨trivial,hj,hjn⟩]
     ·simp at hv
    ·simp at hv
   ·simp at hv
  ·simp at hv
 ·simp at hv
theorem KT (hr:aB Γ γ f st mf h) {d e n:Nat} {x i:X} (hv:bk (.iaa d x i e n) f st=some (f',st')):i2 Γ (.iaa d x i e n) mf h f' st':=by
 simp only[bk]at hv
 split at hv
 ·rename_i k j hi
  have c3:=de hr hi (c:= .int k j) rfl
  split at hv
  ·rename_i hj
   split at hv
   ·rename_i r o hu
    simp at hv
    obtain⟨rfl,rfl⟩:=hv
    have h1:ev mf x= .lref r o:=(ie hr hu (by simp)).1
    exact br (mv:= .lref r (o+j.toNat * e)) hr (by simp only[ai,c3,if_pos hj,h1]) rfl
   ·rename_i k v o hu
    split at hv
    ·rename_i p hp
     simp at hv
     obtain⟨rfl,rfl⟩:=hv
     obtain⟨c,h1,h2⟩:=jl hr hu
     obtain⟨id,q1,rfl⟩:=h2.AN hp
     exact br (mv:= .val false [.ptr id (o+j.toNat * e)]) hr (by simp only[ai,c3,if_pos hj,h1]) (UR.v1 (DC.Jk h2.1 q1))
    ·simp at hv
   ·simp at hv
  ·simp at hv
 ·simp at hv
theorem Lt (hr:aB Γ γ f st mf h) {d r n:Nat} {g:Bool} {x:X} (hv:bk (.ldl d r x n g) f st=some (f',st')):i2 Γ (.ldl d r x n g) mf h f' st':=by
 simp only[bk]at hv
 split at hv
 ·rename_i r' o hu
  have h1:ev mf x= .lref r' o:=(ie hr hu (by simp)).1
  split at hv
  ·rename_i ds hb
   split at hv
   ·rename_i hc
    simp at hv
    obtain⟨rfl,rfl⟩:=hv
    have hs:=hr.slot r
    rw[hb]at hs
    obtain⟨cs,h2,h3⟩:=hs
    have hl:=h3.length
    exact br hr (by simp only[ai,h1,h2];rw[if_pos ⟨hc.1,by omega⟩]) ⟨_,rfl,(h3.drop o).take n⟩
   ·simp at hv
  ·simp at hv
 ·simp at hv
theorem KP (hr:aB Γ γ f st mf h) {r n:Nat} {x v:X} (hv:bk (.stl r x v n) f st=some (f',st')):i2 Γ (.stl r x v n) mf h f' st':=by
 simp only[bk]at hv
 split at hv
 ·rename_i r' o g vs hu hvs
  have h1:ev mf x= .lref r' o:=(ie hr hu (by simp)).1
  obtain⟨ws,w1,w2⟩:=fV hr hvs
  split at hv
  ·rename_i ds hb
   split at hv
   ·rename_i hc
    simp at hv
    obtain⟨rfl,rfl⟩:=hv
    have hs:=hr.slot r
    rw[hb]at hs
    obtain⟨cs,h2,h3⟩:=hs
    have hl:=h3.length
    have hwl:=w2.length
    exact br hr (by simp only[ai,h1,w1,h2];rw[if_pos ⟨hc.1,by omega,by omega⟩]) ⟨_,rfl,ah.aR o h3 w2⟩
   ·simp at hv
  ·simp at hv
 ·simp at hv
theorem bT.all {x:List D} {cs:List C} {S:List Nat} (hr:bT h x cs S) (hp:∀i∈S,PR Γ γ st i):ah (DC Γ γ st h) cs x:=by
 induction x generalizing cs S with
 |nil=>simp only[bT]at hr;rw[hr.1];trivial
 |cons d ds ih=>
  simp only[bT]at hr
  obtain⟨c,cr,S1,S2,rfl,rfl,h3,h4⟩:=hr
  refine⟨?_,ih h4 fun i hi=>hp i (by simp[hi])⟩
  have:∃S,RD h d c S∧∀i∈S,PR Γ γ st i:=⟨S1,h3,fun i hi=>hp i (by simp[hi])⟩
  cases d <;>first|exact this|(simp only[RD]at h3)
theorem Lb (hr:aB Γ γ f st mf h) {d n:Nat} {g:Bool} {x:X} (hv:bk (.ldh d x n g) f st=some (f',st')):i2 Γ (.ldh d x n g) mf h f' st':=by
 simp only[bk]at hv
 split at hv
 ·rename_i k v o hx
  obtain⟨c,c1,c2⟩:=dM hr hx
  split at hv
  ·rename_i ty ds hp
   split at hv
   ·rename_i hc
    simp at hv
    obtain⟨rfl,rfl⟩:=hv
    obtain⟨id,q1,rfl⟩:=c2.AN hp
    obtain⟨_,_,id',bs,k2,k3,k4,k5⟩:=hr.en _ _ (St.fh hp)
    rw[q1]at k2
    cases k2
    have hl:=k5.length
    exact br hr (by simp only[ai,c1,cu k4];rw[if_pos (by omega)]) ⟨_,rfl,(k5.drop o).take n⟩
   ·simp at hv
  ·simp at hv
 ·rename_i y o hx
  obtain⟨c,c1,id,p,bs,S,rfl,h2,h3,h4,h5,h6⟩:=dM hr hx
  split at hv
  ·rename_i hc
   simp at hv
   obtain⟨rfl,rfl⟩:=hv
   have h7:=((h4.all h6).drop o).take n
   have e1:(((bs.drop p).take y.length).drop o).take n=(bs.drop (p+o)).take n:=by
    rw[List.drop_take,List.take_take,List.drop_drop]
    congr 1
    omega
   rw[e1]at h7
   exact br hr (by simp only[ai,c1,h2];rw[if_pos (by omega)]) ⟨_,rfl,h7⟩
  ·simp at hv
 ·rename_i k v j o hx
  obtain⟨c,c1,c2⟩:=dM hr hx
  split at hv
  ·rename_i dp t xs hs
   split at hv
   ·rename_i y hy
    split at hv
    ·rename_i hc
     simp at hv
     obtain⟨rfl,rfl⟩:=hv
     have hlk:=St.cL hs
     obtain⟨id,e,q1,rfl,q3⟩:=c2.2 _ _ _ hlk
     obtain⟨_,he⟩:=hr.en _ _ hlk
     rcases he with⟨rfl,_⟩|⟨id',ty,ez,bs,S,k1,k2,k3,k4,k5,k6,k7,k8⟩
     ·simp at hy
     ·rw[q1]at k2
      cases k2
      obtain⟨S1,Sj,S2,r1,r2,r3,r4⟩:=k6.at hy
      have hyl:y.length=e:=k6.wid y (List.mem_of_getElem? hy)
      have hle:(j+1) * e≤xs.length * e:=Nat.mul_le_mul_right _ q3
      rw[Nat.add_mul,Nat.one_mul]at hle
      have h7:=((r3.all (Γ:=Γ) (γ:=γ) (st:=st) fun i hi=>k7 i (by simp[r1,hi])).drop o).take n
      have e1:((((bs.drop (j * e)).take e)).drop o).take n=(bs.drop (j * e+o)).take n:=by
       rw[List.drop_take,List.take_take,List.drop_drop]
       congr 1
       omega
      rw[e1]at h7
      exact br hr (by simp only[ai,c1,cu k4];rw[if_pos (by omega)]) ⟨_,rfl,h7⟩
    ·simp at hv
   ·simp at hv
  ·simp at hv
 ·simp at hv
theorem Ly (hr:aB Γ γ f st mf h) {d n e:Nat} {g:Bool} {x:X} (hv:bk (.lde d x n g e) f st=some (f',st')):i2 Γ (.lde d x n g e) mf h f' st':=by
 simp only[bk]at hv
 split at hv
 ·rename_i k v j o hx
  obtain⟨c,c1,c2⟩:=dM hr hx
  split at hv
  ·rename_i dp ty0 ez0 xs hs
   split at hv
   ·rename_i y hy
    split at hv
    ·rename_i hc
     simp at hv
     obtain⟨rfl,rfl⟩:=hv
     obtain⟨hc0,hc⟩:=hc
     have hlk:=St.cL hs
     obtain⟨id,e1,q1,rfl,q3⟩:=c2.2 _ _ _ hlk
     obtain⟨_,he⟩:=hr.en _ _ hlk
     rcases he with⟨rfl,_⟩|⟨id',ty,ez,bs,S,k1,k2,k3,k4,k5,k6,k7,k8⟩
     ·simp at hy
     ·rw[q1]at k2
      cases k2
      cases k1
      obtain⟨S1,Sj,S2,r1,r2,r3,r4⟩:=k6.at hy
      have hyl:y.length=ez0:=k6.wid y (List.mem_of_getElem? hy)
      have hle:(j+1) * ez0≤xs.length * ez0:=Nat.mul_le_mul_right _ q3
      rw[Nat.add_mul,Nat.one_mul]at hle
      have h7:=((r3.all (Γ:=Γ) (γ:=γ) (st:=st) fun i hi=>k7 i (by simp[r1,hi])).drop o).take n
      have e1:((((bs.drop (j * ez0)).take ez0)).drop o).take n=(bs.drop (j * ez0+o)).take n:=by
       rw[List.drop_take,List.take_take,List.drop_drop]
       congr 1
       omega
      rw[e1]at h7
      exact br hr (by simp only[ai,c1,k4];rw[if_pos ⟨hc0,by omega⟩]) ⟨_,rfl,h7⟩
    ·simp at hv
   ·simp at hv
  ·simp at hv
 ·simp at hv
end
end Go.Eng
namespace Go.Eng
section
variable {Γ:Cx} {γ γ':Gh} {f f':UT} {st st':St} {mf mf':Fr} {h h':H}
theorem BP {h:H} {id:Nat} {b:tO} (hl:id < h.length):(h.set id b:H)[id]? =some b:=by rw[List.getElem?_set];simp[hl]
theorem j4 {h:H} {id i:Nat} {b:tO} (hn:i≠id):(h.set id b:H)[i]? =h[i]? :=by rw[List.getElem?_set];simp[Ne.symm hn]
theorem rU {h:H} {id i:Nat} {b:tO} (hn:i≠id):H.cells (h.set id b) i=H.cells h i:=cg (j4 hn)
theorem aB.wr (hr:aB Γ γ f st mf h) {k id ty:Nat} {e e':En} {bs bs':List C} (hl:lk k st.es=some e) (hw:γ.w k= [id]) (hg:h[id]? =some (.own ty bs)) (ho:Kc st k e')
 {u:List Nat} (hu:∀i∈u,i∈γ.u k) (hun:u.Nodup)
 (hk:Mo Γ γ st h (γ.up k (γ.c k) [id] u) ⟨st.nx,(k,e')::st.es⟩ (h.set id (.own ty bs'))→(h.set id (.own ty bs'):H)[id]? =some (.own ty bs')→ER Γ (γ.up k (γ.c k) [id] u) ⟨st.nx,(k,e')::st.es⟩ (h.set id (.own ty bs')) k e'):
 aB Γ (γ.up k (γ.c k) [id] u) f ⟨st.nx,(k,e')::st.es⟩ mf (h.set id (.own ty bs'))∧Mo Γ γ st h (γ.up k (γ.c k) [id] u) ⟨st.nx,(k,e')::st.es⟩ (h.set id (.own ty bs')):=by
 have hlt:id < h.length:=(List.getElem?_eq_some_iff.1 hg).1
 have hn:=hr.nd k e hl
 have hmine:=hn.2 id (by simp[hw])
 refine hr.jc (Nat.le_refl _) (.inr ⟨rfl,ho⟩) (fun i hi hp=> ?_) (fun i hi _=> ?_) (fun k' e1 hne hl' i hi=> ?_) ⟨?_,fun i hi=> ?_⟩ (fun k' e1 hne hl' i hi=> ?_) (by simp) (fun i hi hni=> ?_) (fun hm=>hk hm (BP hlt)) (Ks hr.own)
 ·refine rU (fun e1=> ?_)
  subst e1
  exact hp.2 k e hl (by simp[hw])
 ·simp at hi;subst hi;exact yk hl (by simp[hw])
 ·refine j4 (fun e2=> ?_)
  subst e2
  exact hr.dj k k' e e1 (fun e=>hne e.symm) hl hl' i (by simp[hw]) (by simp[hi])
 ·refine List.nodup_append.2 ⟨by simp,hun,fun a ha b hb e1=> ?_⟩
  subst e1
  exact(List.nodup_append.1 hn.1).2.2 a (by rw[hw];exact ha) a (hu a hb) rfl
 ·rcases List.mem_append.1 hi with hi|hi
  ·exact hn.2 i (by simp at hi;simp[hw,hi])
  ·exact hn.2 i (by simp[hu i hi])
 ·refine hr.dj k k' e e1 (fun e=>hne e.symm) hl hl' i ?_
  rcases List.mem_append.1 hi with hi|hi
  ·simp at hi;simp[hw,hi]
  ·simp[hu i hi]
 ·refine j4 (fun e2=> ?_)
  subst e2
  rcases hmine with h9|h9
  ·exact hni h9
  ·omega
theorem KH (hr:aB Γ γ f st mf h) {n:Nat} {x v:X} (hv:bk (.sth x v n) f st=some (f',st')):i2 Γ (.sth x v n) mf h f' st':=by
 simp only[bk]at hv
 split at hv
 ·rename_i k w o g vs hx hvs
  obtain⟨c,c1,c2⟩:=dM hr hx
  obtain⟨ws,w1,w2⟩:=fV hr hvs
  split at hv
  ·rename_i ty ds hp
   split at hv
   ·rename_i hc
    simp at hv
    obtain⟨rfl,rfl⟩:=hv
    have hl:=St.fh hp
    obtain⟨id,q1,rfl⟩:=c2.AN hp
    obtain⟨hver,hu0,id',bs,k2,k3,k4,k5⟩:=hr.en _ _ hl
    rw[q1]at k2
    cases k2
    have hwl:=w2.length
    have hbl:=k5.length
    obtain⟨r1,r2⟩:=hr.wr (e':= .pt w ty (Eng.aR ds o vs)) (bs':=Eng.aR bs o ws) (u:= []) hl k3 k4 ⟨ty,ds,hl⟩ (fun i hi=>by simp at hi) (by simp)
     (fun hm hg=>⟨hver,by simp,id,_,by simpa using q1,by simp,hg,(ah.aR o k5 w2).imp fun _ _=>DC.mo hm⟩)
    exact⟨_,_,by simp only[ai,c1,w1,k4];rw[if_pos ⟨by omega,by omega⟩],_,r1⟩
   ·simp at hv
  ·simp at hv
 ·rename_i k w j o g vs hx hvs
  obtain⟨c,c1,c2⟩:=dM hr hx
  obtain⟨ws,w1,w2⟩:=fV hr hvs
  split at hv
  ·rename_i vs' st1 b hd
   obtain⟨γ1,T,t1,t2,t3,t4,t5,_⟩:=Bw hr w2 hd
   split at hv
   ·rename_i dp t xs hs
    split at hv
    ·rename_i y hy
     split at hv
     ·rename_i hc
      simp at hv
      obtain⟨rfl,rfl⟩:=hv
      have hl:=St.cL hs
      have c2:=c2.mo t2
      obtain⟨id,e,q1,rfl,q3⟩:=c2.2 _ _ _ hl
      obtain⟨hver,he⟩:=t1.en _ _ hl
      rcases he with⟨rfl,_⟩|⟨id',ty,ez,bs,S,k1,k2,k3,k4,k5,k6,k7,k8⟩
      ·simp at hy
      ·rw[q1]at k2
       cases k2
       obtain⟨S1,Sj,S2,r1,r2,r3,r4⟩:=k6.at hy
       have hyl:y.length=e:=k6.wid y (List.mem_of_getElem? hy)
       have hle:(j+1) * e≤xs.length * e:=Nat.mul_le_mul_right _ q3
       rw[Nat.add_mul,Nat.one_mul]at hle
       have hwl:=w2.length
       have hvl:=t3.len
       obtain⟨S',s1,s2⟩:=bT.aR (o:=o) r3 t3
       have hpart:=Hd (bs:=bs) (ws:=ws) (p:=j * e) (e:=e) (o:=o) (by omega) (by omega)
       have hlen1:(Eng.aR ((bs.drop (j * e)).take e) o ws).length=e:=by rw[cM];simp;omega
       have hnew:aG h (xs.set j (Eng.aR y o vs')) e (Eng.aR bs (j * e+o) ws) (S1++(S'++S2)):=by
        have hx3:xs.set j (Eng.aR y o vs')=xs.take j++([Eng.aR y o vs']++xs.drop (j+1)):=by
         rw[List.set_eq_take_append_cons_drop,if_pos q3];rfl
        rw[hx3,hpart]
        refine r2.join ((aG.Q7 s1 hlen1).join ?_)
        have:j * e+e=(j+1) * e:=by rw[Nat.add_mul,Nat.one_mul]
        rw[this]
        exact r4
       have hSS:(dp && cB vs && cB y)=true→S'= []∧Sj= []:=by
        intro hb
        simp only[Bool.and_eq_true]at hb
        have h1:Sj= []:=r3.AV hb.2
        refine⟨?_,h1⟩
        have h2:T= []:=by
         have hT:∀ {l l':List D} {s s':St} {b:Bool},cB l=true→s.EM l=some (l',s',b)→cB l'=true:=by
          intro l
          induction l with
          |nil=>intro l' s s' b _ he;simp[St.EM]at he;rw[he.1];rfl
          |cons a l ih=>
           intro l' s s' b hlf he
           simp only[cB,Bool.and_eq_true]at hlf
           simp only[St.EM]at he
           split at he
           ·rename_i a' s1 b1 ha
            split at he
            ·rename_i l2 s2 b2 hl2
             simp at he
             obtain⟨rfl,_,_⟩:=he
             simp only[cB,Bool.and_eq_true]
             refine⟨?_,ih hlf.2 hl2⟩
             have:=hlf.1
             cases a <;>simp[D.leaf]at this <;>simp[St.dp]at ha <;>obtain⟨rfl,_⟩:=ha <;>rfl
            ·simp at he
           ·simp at he
         exact t3.AV (hT hb.1.2 hd)
        rw[List.eq_nil_iff_forall_not_mem]
        intro i hi
        rcases s2 i hi with hi|hi
        ·rw[h1]at hi;cases hi
        ·rw[h2]at hi;cases hi
       have hpp:∀i∈S1++(S'++S2),PR Γ γ1 st1 i:=by
        intro i hi
        rcases List.mem_append.1 hi with hi|hi
        ·exact k7 i (by simp[r1,hi])
        ·rcases List.mem_append.1 hi with hi|hi
         ·rcases s2 i hi with hi|hi
          ·exact k7 i (by simp[r1,hi])
          ·exact t4 i hi
         ·exact k7 i (by simp[r1,hi])
       have huu:(if(dp && cB vs && cB y)=true then S else [])=if(dp && cB vs && cB y)=true then S1++(S'++S2)else []:=by
        split
        ·rename_i hb
         obtain⟨e1,e2⟩:=hSS hb
         rw[r1,e1,e2]
        ·rfl
       obtain⟨r5,r6⟩:=t1.wr (e':= .sl w true (dp && cB vs && cB y) t (xs.set j (Eng.aR y o vs'))) (bs':=Eng.aR bs (j * e+o) ws) (u:=if(dp && cB vs && cB y)=true then S else []) hl k3 k4
        ⟨true,dp,t,xs,hl,fun _=>⟨rfl,by simp⟩⟩ (fun i hi=>by
          split at hi
          ·rename_i hb
           simp only[Bool.and_eq_true]at hb
           rw[k8,if_pos hb.1.1];exact hi
          ·cases hi) (by
          split
          ·rename_i hb
           simp only[Bool.and_eq_true]at hb
           have:=(t1.nd _ _ hl).1
           rw[k3,k8,if_pos hb.1.1]at this
           exact(List.nodup_append.1 this).2.1
          ·simp)
        (fun hm hg=>⟨hver, .inr ⟨id,ty,e,_,S1++(S'++S2),k1,by simpa using q1,by simp,hg,by rw[cM,k5];simp,aG.frame _ hnew (fun i hi=>(hm.cell i (aG.lt _ hnew i hi) (hpp i hi)).1),fun i hi=>(hm.cell i (aG.lt _ hnew i hi) (hpp i hi)).2,by rw[Gh.zI];exact huu⟩⟩)
       exact⟨_,_,by simp only[ai,c1,w1,k4];rw[if_pos ⟨by omega,by omega⟩],_,r5⟩
     ·simp at hv
    ·simp at hv
   ·simp at hv
  ·simp at hv
 ·simp at hv
theorem KY (hr:aB Γ γ f st mf h) {d:Nat} {op:B2} {x y:X} (hv:bk (.bin d op x y) f st=some (f',st')):i2 Γ (.bin d op x y) mf h f' st':=by
 simp only[bk]at hv
 split at hv
 ·rename_i a b ha hb
  split at hv
  ·rename_i c hc
   simp at hv
   obtain⟨rfl,rfl⟩:=hv
   unfold LP at hc
   split at hc
   ·rename_i a' b' h1 h2
    split at hc
    ·rename_i r h3
     exact br (mv:= .val false [r]) hr (by simp only[ai,de hr ha h1,de hr hb h2,h3]) (UR.v1 (DC.cD hc rfl))
    ·simp at hc
   ·simp at hc
  ·simp at hv
 ·simp at hv
theorem KW (hr:aB Γ γ f st mf h) {d:Nat} {n:Bool} {x y:X} (hv:bk (.beq d n x y) f st=some (f',st')):i2 Γ (.beq d n x y) mf h f' st':=by
 simp only[bk]at hv
 split at hv
 ·rename_i a b ha hb
  simp only[Option.some.injEq,Prod.mk.injEq]at hv
  obtain⟨rfl,rfl⟩:=hv
  exact br hr (by simp only[ai,de hr ha rfl,de hr hb rfl]) UR.bool
 ·simp at hv
theorem Kb (hr:aB Γ γ f st mf h) {d:Nat} {n:Bool} {x:X} (hv:bk (.snil d n x) f st=some (f',st')):i2 Γ (.snil d n x) mf h f' st':=by
 simp only[bk]at hv
 split at hv
 ·rename_i hx
  simp only[Option.some.injEq,Prod.mk.injEq]at hv
  obtain⟨rfl,rfl⟩:=hv
  obtain⟨c,c1,S,c2,_⟩:=dM hr hx
  simp only[RD]at c2
  exact br hr (by simp only[ai,c1,c2.1]) UR.bool
 ·rename_i d' hx hn
  obtain⟨c,c1,c2⟩:=dM hr hn
  split at hv
  ·rename_i xs he
   split at hv
   ·simp at hv
   ·rename_i hne
    simp only[Option.some.injEq,Prod.mk.injEq]at hv
    obtain⟨rfl,rfl⟩:=hv
    obtain⟨S,h1,_⟩:=ru hr c2 he
    simp only[RD]at h1
    rcases h1 with⟨rfl,_⟩|⟨id,off,e,bs,S',rfl,_⟩
    ·simp at hne
    ·exact br hr (by simp only[ai,c1]) UR.bool
  ·simp at hv
 ·simp at hv
theorem Mi (hr:aB Γ γ f st mf h) {d m:Nat} {n:Bool} {x y:X} (hv:bk (.geq d m n x y) f st=some (f',st')):i2 Γ (.geq d m n x y) mf h f' st':=by
 simp only[bk]at hv
 split at hv
 ·rename_i a b ha hb
  obtain⟨ca,a1,a2⟩:=fV hr ha
  obtain⟨cb,b1,b2⟩:=fV hr hb
  split at hv
  ·rename_i hl
   split at hv
   ·rename_i a' b' h1 h2
    split at hv
    ·rename_i r h3
     simp only[Option.some.injEq,Prod.mk.injEq]at hv
     obtain⟨rfl,rfl⟩:=hv
     have hln:ca.length=m:=by rw[a2.length];exact hl
     have e1:=FC h1 a2
     have e2:=FC h2 b2
     subst e1 e2
     exact br hr (by simp only[ai,a1,b1,h3,hln,if_true]) UR.bool
    ·simp at hv
   ·simp at hv
  ·simp at hv
 ·simp at hv
theorem Ls (hr:aB Γ γ f st mf h) {d:Nat} {x:X} (hv:bk (.neg d x) f st=some (f',st')):i2 Γ (.neg d x) mf h f' st':=by
 simp only[bk]at hv
 split at hv
 ·rename_i k n hx
  simp only[Option.some.injEq,Prod.mk.injEq]at hv
  obtain⟨rfl,rfl⟩:=hv
  exact br hr (by simp only[ai,de hr hx rfl]) UR.int
 ·simp at hv
theorem LA (hr:aB Γ γ f st mf h) {d:Nat} {x:X} (hv:bk (.not d x) f st=some (f',st')):i2 Γ (.not d x) mf h f' st':=by
 simp only[bk]at hv
 split at hv
 ·rename_i b hx
  simp only[Option.some.injEq,Prod.mk.injEq]at hv
  obtain⟨rfl,rfl⟩:=hv
  exact br hr (by simp only[ai,de hr hx rfl]) UR.bool
 ·simp at hv
theorem K9 (hr:aB Γ γ f st mf h) {d:Nat} {k:IntKind} {x:X} (hv:bk (.cvi d k x) f st=some (f',st')):i2 Γ (.cvi d k x) mf h f' st':=by
 simp only[bk]at hv
 split at hv
 ·rename_i k' n hx
  simp only[Option.some.injEq,Prod.mk.injEq]at hv
  obtain⟨rfl,rfl⟩:=hv
  exact br hr (by simp only[ai,de hr hx rfl]) UR.int
 ·simp at hv
theorem KL (hr:aB Γ γ f st mf h) {d:Nat} {x:X} (hv:bk (.cbs d x) f st=some (f',st')):i2 Γ (.cbs d x) mf h f' st':=by
 simp only[bk]at hv
 split at hv
 ·rename_i dx hx
  obtain⟨c,c1,c2⟩:=dM hr hx
  split at hv
  ·rename_i xs he
   split at hv
   ·rename_i b hb
    simp only[Option.some.injEq,Prod.mk.injEq]at hv
    obtain⟨rfl,rfl⟩:=hv
    obtain⟨S,h1,_⟩:=ru hr c2 he
    have hw:=EJ hb
    simp only[RD]at h1
    rcases h1 with⟨rfl,_,rfl|rfl⟩|⟨id,off,e,bs,S',rfl,h2,h3,h4,h5⟩
    ·simp[vV]at hb
     subst hb
     exact br hr (by simp only[ai,c1,H.bytes,H.slice];rfl) UR.str
    ·simp[vV]at hb
     subst hb
     exact br hr (by simp only[ai,c1,H.bytes,H.slice];rfl) UR.str
    ·refine br hr (mv:= .val false [.str b]) ?_ UR.str
     simp only[ai,c1,H.bytes,if_pos (h5.same hw),H.slice,h2,if_pos h3,FW hb h5]
   ·simp at hv
  ·simp at hv
 ·simp at hv
theorem K5 (hr:aB Γ γ f st mf h) {d e:Nat} {x:X} {lo hi:Option X} (hv:bk (.fb d e x lo hi) f st=some (f',st')):i2 Γ (.fb d e x lo hi) mf h f' st':=by
 simp only[bk]at hv
 have key:∀ {γ1:Gh} {st1:St} (hr1:aB Γ γ1 f st1 mf h) (xs:List (List D)) (c:C) (S:List Nat) (l u:Int),dt mf x=some c→RD h (.sl xs) c S→(∀i∈S,PR Γ γ1 st1 i)→cN f lo 0=some l→cN f hi xs.length=some u→wid e xs=true→0≤l→l≤u→u≤(xs.length:Int)→
  i2 Γ (.fb d e x lo hi) mf h (UW f d (.val false [.sl ((xs.drop l.toNat).take (u - l).toNat)])) st1:=by
  intro γ1 st1 hr1 xs c S l u hc hS hp hl hu hw h0 h1 h2
  obtain⟨c',S',k1,k2,k3⟩:=hS.PK hw h0 h1 h2
  have b1:=fM hr1 hl
  have b2:=fM hr1 hu
  have hx0:(c= .nils∨c= .emp)→xs.length=0:=by
   simp only[RD]at hS
   rintro(rfl|rfl) <;>rcases hS with⟨rfl,_⟩|⟨_,_,_,_,_,h9,_⟩ <;>first|rfl|cases h9
  refine br (mv:= .val false [c']) hr1 ?_ (UR.v1 ⟨S',k1,fun i hi=>hp i (k2 i hi)⟩)
  rcases k3 with⟨rfl,rfl,rfl,rfl⟩|⟨rfl,rfl,rfl,rfl⟩|⟨id,off,e',rfl,he,rfl⟩
  ·rw[hx0 (.inl rfl)]at b2
   simp only[ai,hc,b1,b2];rfl
  ·rw[hx0 (.inr rfl)]at b2
   simp only[ai,hc,b1,b2];rfl
  ·simp only[ai,hc,b1,b2]
   rw[if_pos ⟨he,h0,h1,h2⟩]
 split at hv
 ·rename_i hx
  obtain⟨c,c1,S,c2,c3⟩:=dM hr hx
  simp only[RD]at c2
  split at hv
  ·rename_i l u hl hu
   split at hv
   ·rename_i hc
    simp only[Option.some.injEq,Prod.mk.injEq]at hv
    obtain⟨rfl,rfl⟩:=hv
    exact br (mv:= .val false [.nils]) hr (by simp only[ai,c1,c2.1,fM hr hl,fM hr hu,if_pos hc]) (UR.v1 ⟨[],by simp[RD],fun i hi=>by simp at hi⟩)
   ·simp at hv
  ·simp at hv
 ·rename_i xs hx
  obtain⟨c,c1,S,c2,c3⟩:=dM hr hx
  split at hv
  ·rename_i l u hl hu
   split at hv
   ·rename_i hc
    simp only[Option.some.injEq,Prod.mk.injEq]at hv
    obtain⟨rfl,rfl⟩:=hv
    exact key hr xs c S l u c1 c2 c3 hl hu hc.1 hc.2.1 hc.2.2.1 hc.2.2.2
   ·simp at hv
  ·simp at hv
 ·rename_i k v hx
  obtain⟨c,c1,c2⟩:=dM hr hx
  split at hv
  ·rename_i o dp t xs hs
   split at hv
   ·rename_i l u hl hu
    split at hv
    ·rename_i hc
     simp only[Option.some.injEq,Prod.mk.injEq]at hv
     obtain⟨rfl,rfl⟩:=hv
     have hlk:=St.cL hs
     have hcc:=c2.B4 hlk
     subst hcc
     obtain⟨γ1,q1,q2,⟨S,q3,q4,_⟩,_⟩:=hr.freeze (dp':=false) hlk
     exact key q1 xs _ S l u c1 q3 q4 hl hu hc.1 hc.2.1 hc.2.2.1 hc.2.2.2
    ·simp at hv
   ·simp at hv
  ·simp at hv
 ·rename_i k v o n e' hx
  obtain⟨c,c1,c2⟩:=dM hr hx
  split at hv
  ·rename_i p hp
   split at hv
   ·rename_i l u hl hu
    split at hv
    ·rename_i hc
     simp only[Option.some.injEq,Prod.mk.injEq]at hv
     obtain⟨rfl,rfl⟩:=hv
     obtain⟨id,q1,rfl⟩:=c2.2 p.1 p.2 (St.fh hp)
     refine br (mv:= .val false [.sl id (o+l.toNat * e') (u - l).toNat e']) hr ?_ (UR.v1 ⟨c2.1,fun _ _ _=>⟨id,q1,rfl⟩⟩)
     simp only[ai,c1,fM hr hl,fM hr hu]
     rw[if_pos ⟨.inl hc.1,hc.2.1,hc.2.2.1,hc.2.2.2⟩]
    ·simp at hv
   ·simp at hv
  ·simp at hv
 ·simp at hv
theorem LV (hr:aB Γ γ f st mf h) {d:Nat} {x:X} {lo hi:Option X} (hv:bk (.sls d x lo hi) f st=some (f',st')):i2 Γ (.sls d x lo hi) mf h f' st':=by
 simp only[bk]at hv
 split at hv
 ·rename_i s hx
  split at hv
  ·rename_i l u hl hu
   split at hv
   ·rename_i hc
    simp only[Option.some.injEq,Prod.mk.injEq]at hv
    obtain⟨rfl,rfl⟩:=hv
    exact br hr (by simp only[ai,de hr hx rfl,fM hr hl,fM hr hu,if_pos hc]) UR.str
   ·simp at hv
  ·simp at hv
 ·simp at hv
theorem LS (hr:aB Γ γ f st mf h) {d n e:Nat} {x:X} (hv:bk (.sla d x n e) f st=some (f',st')):i2 Γ (.sla d x n e) mf h f' st':=by
 simp only[bk]at hv
 split at hv
 ·rename_i k v o hx
  obtain⟨c,c1,c2⟩:=dM hr hx
  split at hv
  ·rename_i ty ds hp
   split at hv
   ·rename_i hc
    simp only[Option.some.injEq,Prod.mk.injEq]at hv
    obtain⟨rfl,rfl⟩:=hv
    obtain⟨id,q1,rfl⟩:=c2.AN hp
    obtain⟨_,_,id',bs,k2,k3,k4,k5⟩:=hr.en _ _ (St.fh hp)
    rw[q1]at k2
    cases k2
    have hl:=k5.length
    exact br (mv:= .val false [.sl id o n e]) hr (by simp only[ai,c1,k4];rw[if_pos (by omega)]) (UR.v1 ⟨c2.1,fun _ _ _=>⟨id,q1,rfl⟩⟩)
   ·simp at hv
  ·simp at hv
 ·simp at hv
theorem Kr (hr:aB Γ γ f st mf h) {d o n:Nat} {g:Bool} {x:X} (hv:bk (.fld d x o n g) f st=some (f',st')):i2 Γ (.fld d x o n g) mf h f' st':=by
 simp only[bk]at hv
 split at hv
 ·rename_i ds hx
  obtain⟨cs,c1,c2⟩:=fV hr hx
  split at hv
  ·rename_i hc
   simp only[Option.some.injEq,Prod.mk.injEq]at hv
   obtain⟨rfl,rfl⟩:=hv
   have hl:=c2.length
   exact br hr (by simp only[ai,c1];rw[if_pos (by omega)]) ⟨_,rfl,(c2.drop o).take n⟩
  ·simp at hv
 ·simp at hv
theorem Lr (hr:aB Γ γ f st mf h) {d e n:Nat} {g:Bool} {x i:X} (hv:bk (.idx d x i e n g) f st=some (f',st')):i2 Γ (.idx d x i e n g) mf h f' st':=by
 simp only[bk]at hv
 split at hv
 ·rename_i ds k j hx hi
  obtain⟨cs,c1,c2⟩:=fV hr hx
  have c3:=de hr hi (c:= .int k j) rfl
  split at hv
  ·rename_i hc
   simp only[Option.some.injEq,Prod.mk.injEq]at hv
   obtain⟨rfl,rfl⟩:=hv
   have hl:=c2.length
   exact br hr (by simp only[ai,c1,c3];rw[if_pos ⟨hc.1,hc.2.1,by omega⟩]) ⟨_,rfl,(c2.drop (j.toNat * e)).take e⟩
  ·simp at hv
 ·simp at hv
theorem KN (hr:aB Γ γ f st mf h) {d:Nat} {x i:X} (hv:bk (.ids d x i) f st=some (f',st')):i2 Γ (.ids d x i) mf h f' st':=by
 simp only[bk]at hv
 split at hv
 ·rename_i s k j hx hi
  have c3:=de hr hi (c:= .int k j) rfl
  split at hv
  ·rename_i hj
   split at hv
   ·rename_i b hb
    simp only[Option.some.injEq,Prod.mk.injEq]at hv
    obtain⟨rfl,rfl⟩:=hv
    exact br hr (by simp only[ai,de hr hx rfl,c3,if_pos hj,hb]) UR.int
   ·simp at hv
  ·simp at hv
 ·simp at hv
theorem Kv (hr:aB Γ γ f st mf h) {d i:Nat} {x:X} (hv:bk (.ext d x i) f st=some (f',st')):i2 Γ (.ext d x i) mf h f' st':=by
 simp only[bk]at hv
 split at hv
 ·rename_i vs hu
  obtain⟨⟨ws,h1,h2⟩,_⟩:=ie hr hu (by simp)
  split at hv
  ·rename_i g ds hi
   simp only[Option.some.injEq,Prod.mk.injEq]at hv
   obtain⟨rfl,rfl⟩:=hv
   obtain⟨⟨g',cs⟩,k1,k2,k3⟩:=h2.get' hi
   simp only at k2 k3
   subst k2
   exact br hr (by simp only[ai,h1,k1]) ⟨cs,rfl,k3⟩
  ·simp at hv
 ·simp at hv
theorem Lk (hr:aB Γ γ f st mf h) {d:Nat} {s:Bool} {x:X} (hv:bk (.len d s x) f st=some (f',st')):i2 Γ (.len d s x) mf h f' st':=by
 simp only[bk]at hv
 split at hv
 ·rename_i dx hx
  obtain⟨c,c1,c2⟩:=dM hr hx
  split at hv
  ·rename_i xs he
   simp only[Option.some.injEq,Prod.mk.injEq]at hv
   obtain⟨rfl,rfl⟩:=hv
   obtain⟨S,h1,_⟩:=ru hr c2 he
   exact br hr (by simp only[ai,c1,h1.yx]) UR.int
  ·simp at hv
 ·rename_i s hx
  simp only[Option.some.injEq,Prod.mk.injEq]at hv
  obtain⟨rfl,rfl⟩:=hv
  exact br hr (by simp only[ai,de hr hx rfl]) UR.int
 ·simp at hv
theorem Nw (hr:aB Γ γ f st mf h) {d:Nat} {m:Bool} {x y:X} (hv:bk (.mm d m x y) f st=some (f',st')):i2 Γ (.mm d m x y) mf h f' st':=by
 simp only[bk]at hv
 split at hv
 ·rename_i a b ha hb
  simp only[Option.some.injEq,Prod.mk.injEq]at hv
  obtain⟨rfl,rfl⟩:=hv
  exact br hr (by simp only[ai,de hr ha rfl,de hr hb rfl]) UR.int
 ·simp at hv
theorem L9 (hr:aB Γ γ f st mf h) {d ty e by_:Nat} {x y:X} (hv:bk (.app d ty e by_ x y) f st=some (f',st')):i2 Γ (.app d ty e by_ x y) mf h f' st':=by
 simp only[bk]at hv
 split at hv
 ·rename_i a ys st1 b ha hs
  obtain⟨c,c1,c2⟩:=dM hr ha
  obtain⟨γ1,cs,S,t1,t2,t3,t4,t5,t6⟩:=B7 hr hs
  have c2:=c2.mo t2
  have fresh:∀(k:Nat) (dp:Bool) (t:Option (Nat×Nat)),(c= .nils∨c= .emp)→eb (ys.length * by_+ys.length)=true→(dp=true→b=true)→(∀v o dp t xs,lk k st1.es=some (.sl v o dp t xs)→True)→
   i2 Γ (.app d ty e by_ x y) mf h (UW f d (.val false [.ow k st1.nx])) (st1.news k true dp (some (ty,e)) ys):=by
   intro k dp t hc hroom hb _
   by_cases h0:ys.length=0
   ·have hys:ys= []:=List.eq_nil_of_length_eq_zero h0
    subst hys
    refine⟨mf.set d (.val false [c]),h,?_,_,(IJ t1 (k:=k) (b:=dp) (t:=some (ty,e)) hc).set (UR.v1 (DC.FA (Nat.lt_succ_self _)))⟩
    rcases hc with rfl|rfl <;>simp only[ai,c1,t3,List.length_nil,if_true]
   ·have:=GX t1 (k:=k) (ty:=ty) (b:=dp) (h0:=h) rfl (fun _ _ _=>rfl) (fun _ _ _ _ _ _=>rfl) (fun _ _ _=>rfl) t1.own t4 t5 rfl (fun hdp=>(t6 (hb hdp)).ne k)
    refine Ao (mv:= .val false [.sl h.length 0 ys.length e]) this ?_ (UR.v1 ⟨Nat.lt_succ_self _,fun _ _ _ _ _=>by simp⟩)
    rcases hc with rfl|rfl <;>simp only[ai,c1,t3,if_neg h0,if_pos hroom]
  cases a <;>simp only at hv <;>try (simp at hv;done)
  case nils=>
   split at hv
   ·rename_i hroom
    simp only[Option.some.injEq,Prod.mk.injEq]at hv
    obtain⟨rfl,rfl⟩:=hv
    obtain⟨S0,c3,_⟩:=c2
    simp only[RD]at c3
    exact fresh d b none (.inl c3.1) hroom (fun h=>h) (fun _ _ _ _ _ _=>trivial)
   ·simp at hv
  case ow k v c2a=>
   split at hv
   ·rename_i dp t xs hsl
    split at hv
    ·rename_i hc
     simp only[Option.some.injEq,Prod.mk.injEq]at hv
     obtain⟨rfl,rfl⟩:=hv
     have hl:=St.cL hsl
     have hcc:=c2.B4 hl
     obtain⟨hver,he⟩:=t1.en _ _ hl
     rcases he with⟨rfl,k2,k3,k4⟩|⟨id,ty',ez,bs,S0,k1,k2,k3,k4,k5,k6,k7,k8⟩
     ·rw[←hcc]at k4
      have hroom:=hc.2
      simp only[List.length_nil,Nat.zero_add]at hroom
      rw[List.nil_append]
      exact fresh k (dp && b) none k4 hroom (fun hb=>by simp at hb;exact hb.2) (fun _ _ _ _ _ _=>trivial)
     ·rw[k2]at hcc
      subst hcc
      have hty:(ty',ez)=(ty,e):=by
       have h1:=hc.1
       rw[k1]at h1
       simpa[IB]using h1
      cases hty
      have hlt:id < h.length:=(List.getElem?_eq_some_iff.1 k4).1
      have hidw:id∈γ1.w k:=by rw[k3];simp
      have hmine:=(t1.nd _ _ hl).2 id (by simp[hidw])
      have hcut:xs.length * e=bs.length:=k5.symm
      have:=GX t1 (k:=k) (ty:=ty) (b:=dp && b) (h0:=h.set id .dead) (u:=if(dp && b)=true then S0++S else []) (by simp)
       (fun i hi hp=>rU (fun e1=>by subst e1;exact yk hl hidw hp))
       (fun k' e1 hne hl' i hi=>j4 (fun e2=>by subst e2;exact t1.dj k k' _ e1 (fun e=>hne e.symm) hl hl' i (by simp[hidw]) (by simp[hi])))
       (fun i hi hni=>j4 (fun e2=>by
         subst e2
         rcases hmine with h9|h9
         ·exact hni h9
         ·omega))
       (Jl t1.own) (k6.join t4) (fun i hi=>by
         rcases List.mem_append.1 hi with hi|hi
         ·exact k7 i hi
         ·exact t5 i hi) rfl (fun hb=>by
         simp only[Bool.and_eq_true]at hb
         have hn:=t1.nd _ _ hl
         rw[k3,k8,if_pos hb.1]at hn
         have hf:=t6 hb.2
         refine⟨List.nodup_append.2 ⟨(List.nodup_append.1 hn.1).2.1,hf.1,fun a ha b' hb' e1=> ?_⟩,fun i hi=> ?_,fun k' e1 hne hl' i hi=> ?_⟩
         ·subst e1
          exact hf.2.2 k _ hl a hb' (by rw[k8,if_pos hb.1];simp[ha])
         ·rcases List.mem_append.1 hi with hi|hi
          ·exact hn.2 i (by simp[hi])
          ·exact hf.2.1 i hi
         ·rcases List.mem_append.1 hi with hi|hi
          ·exact t1.dj k k' _ e1 (fun e=>hne e.symm) hl hl' i (by rw[k8,if_pos hb.1];simp[hi])
          ·exact hf.2.2 k' e1 hl' i hi)
      rw[List.length_append]at this
      refine Ao (mv:= .val false [.sl h.length 0 (xs.length+ys.length) e]) this ?_ (UR.v1 ⟨Nat.lt_succ_self _,fun _ _ _ _ _=>by simp⟩)
      simp only[ai,c1,t3,k4]
      rw[if_pos ⟨trivial,trivial,trivial,k5,hc.2⟩]
    ·simp at hv
   ·simp at hv
 ·simp at hv
theorem aG.all {xs:List (List D)} {e:Nat} {cs:List C} {S:List Nat} (hr:aG h xs e cs S) (hp:∀i∈S,PR Γ γ st i):ah (DC Γ γ st h) cs xs.flatten:=by
 induction xs generalizing cs S with
 |nil=>simp only[aG]at hr;rw[hr.1];trivial
 |cons x xs ih=>
  simp only[aG]at hr
  obtain⟨c1,c2,S1,S2,rfl,rfl,_,h4,h5⟩:=hr
  rw[List.flatten_cons]
  exact(h4.all fun i hi=>hp i (by simp[hi])).append (ih h5 fun i hi=>hp i (by simp[hi]))
theorem K6 (hr:aB Γ γ f st mf h) {d e:Nat} {x y:X} (hv:bk (.cpy d e x y) f st=some (f',st')):i2 Γ (.cpy d e x y) mf h f' st':=by
 simp only[bk]at hv
 split at hv
 ·rename_i k v ys st1 b ha hs
  obtain⟨c,c1,c2⟩:=dM hr ha
  obtain⟨γ1,cs,S,t1,t2,t3,t4,t5,t6⟩:=B7 hr hs
  split at hv
  ·rename_i dp t xs hsl
   split at hv
   ·rename_i hc
    obtain⟨hf1,hf2,hne,hw1,hw2⟩:=hc
    simp only[Option.some.injEq,Prod.mk.injEq]at hv
    obtain⟨rfl,rfl⟩:=hv
    have hl:=St.cL hsl
    have hcc:=c2.B4 hl
    obtain⟨hver,he⟩:=hr.en _ _ hl
    have hS:=t4.y0 hf1
    subst hS
    rcases he with⟨rfl,_⟩|⟨id,ty,ez,bs,S0,k1,k2,k3,k4,k5,k6,k7,k8⟩
    ·simp at hne
    ·have hez:ez=e:=by
      rcases k6.same hw1 with h9|h9
      ·exact h9
      ·cases xs with|nil=>simp at hne|cons _ _=>simp at h9
     subst hez
     rw[k2]at hcc
     subst hcc
     have hS0:=k6.y0 hf2
     subst hS0
     let m:=min ys.length xs.length
     have hm1:m≤ys.length:=Nat.min_le_left _ _
     have hm2:m≤xs.length:=Nat.min_le_right _ _
     obtain⟨A1,A2,q1,q2,_⟩:=t4.cut m
     obtain⟨B1,B2,r1,_,r3⟩:=k6.cut m
     have hA:A1= []:=(List.append_eq_nil_iff.1 q1.symm).1
     have hB:B2= []:=(List.append_eq_nil_iff.1 r1.symm).2
     subst hA hB
     have hcl:=t4.len
     have hmul1:m * ez≤ys.length * ez:=Nat.mul_le_mul_right _ hm1
     have hmul2:m * ez≤xs.length * ez:=Nat.mul_le_mul_right _ hm2
     have hlen:(cs.take (m * ez)).length=m * ez:=by simp;omega
     have hset:aR bs 0 (cs.take (m * ez))=cs.take (m * ez)++bs.drop (m * ez):=by
      rw[du _ _ _ (by omega),hlen];simp
     have hnew:=q2.join r3
     rw[←hset]at hnew
     have hlx:(ys.take m++xs.drop m).length=xs.length:=by simp;omega
     obtain⟨r5,r6⟩:=hr.wr (e':= .sl v true dp t (ys.take m++xs.drop m)) (bs':=aR bs 0 (cs.take (m * ez))) (u:= []) hl k3 k4
      ⟨true,dp,t,xs,hl,fun _=>⟨rfl,hlx⟩⟩ (fun i hi=>by cases hi) (by simp)
      (fun hm hg=>⟨hver, .inr ⟨id,ty,ez,_,[],k1,by rw[Gh.Hq,k2,hlx],by simp,hg,by rw[cM,k5,hlx],aG.frame _ hnew (fun i hi=>by simp at hi),fun i hi=>by simp at hi,by simp⟩⟩)
     refine Ao (mv:= .val false [.int .i64 ((m:Nat):Int)]) r5 ?_ UR.int
     simp only[ai,c1,t3,k4]
     rw[if_pos ⟨trivial,by omega⟩]
   ·simp at hv
  ·simp at hv
 ·rename_i k v o n e' ys st1 b ha hs
  obtain⟨c,c1,c2⟩:=dM hr ha
  obtain⟨γ1,cs,S,t1,t2,t3,t4,t5,t6⟩:=B7 hr hs
  split at hv
  ·rename_i ty ds hp
   split at hv
   ·rename_i hc
    obtain⟨hf1,rfl,hw2,hlen0⟩:=hc
    simp only[Option.some.injEq,Prod.mk.injEq]at hv
    obtain⟨rfl,rfl⟩:=hv
    have hl:=St.fh hp
    have hS:=t4.y0 hf1
    subst hS
    obtain⟨hver,hu0,id,bs,k2,k3,k4,k5⟩:=hr.en _ _ hl
    obtain⟨id',q1,rfl⟩:=c2.2 _ _ hl
    rw[k2]at q1
    cases q1
    let m:=min ys.length n
    have hm1:m≤ys.length:=Nat.min_le_left _ _
    have hm2:m≤n:=Nat.min_le_right _ _
    obtain⟨A1,A2,q1,q2,_⟩:=t4.cut m
    have hA:A1= []:=(List.append_eq_nil_iff.1 q1.symm).1
    subst hA
    have hbl:=k5.length
    have hall:=q2.all (Γ:=Γ) (γ:=γ) (st:=st) (fun i hi=>by simp at hi)
    obtain⟨r1,r2⟩:=hr.wr (e':= .pt v ty (Eng.aR ds o (ys.take m).flatten)) (bs':=Eng.aR bs o (cs.take (m * e'))) (u:= []) hl k3 k4 ⟨ty,ds,hl⟩ (fun i hi=>by simp at hi) (by simp)
     (fun hm hg=>⟨hver,by simp,id,_,by simpa using k2,by simp,hg,(ah.aR o k5 hall).imp fun _ _=>DC.mo hm⟩)
    refine Ao (mv:= .val false [.int .i64 ((m:Nat):Int)]) r1 ?_ UR.int
    simp only[ai,c1,t3,k4]
    rw[if_pos ⟨trivial,by omega⟩]
   ·simp at hv
  ·simp at hv
 ·simp at hv
theorem MZ {a:AI} (hr:Rel Γ f st mf h) (hv:bk a f st=some (f',st')):i2 Γ a mf h f' st':=by
 obtain⟨γ,hr⟩:=hr
 cases a with
 |mov=>exact LX hr hv
 |pick=>exact Iq hr hv
 |lbox=>exact JU hr hv
 |lal=>exact KX hr hv
 |hbox=>exact JM hr hv
 |hal=>exact Ma hr hv
 |bld=>exact KA hr hv
 |bsl=>exact LL hr hv
 |bse=>exact KM hr hv
 |lsl=>exact Lg hr hv
 |fad=>exact LN hr hv
 |iad=>exact Kt hr hv
 |iaa=>exact KT hr hv
 |ldl=>exact Lt hr hv
 |ldh=>exact Lb hr hv
 |stl=>exact KP hr hv
 |sth=>exact KH hr hv
 |bin=>exact KY hr hv
 |beq=>exact KW hr hv
 |snil=>exact Kb hr hv
 |geq=>exact Mi hr hv
 |neg=>exact Ls hr hv
 |not=>exact LA hr hv
 |cvi=>exact K9 hr hv
 |cbs=>exact KL hr hv
 |mks=>exact KK hr hv
 |fb=>exact K5 hr hv
 |sls=>exact LV hr hv
 |sla=>exact LS hr hv
 |fld=>exact Kr hr hv
 |idx=>exact Lr hr hv
 |ids=>exact KN hr hv
 |ext=>exact Kv hr hv
 |nch=>exact Lm hr hv
 |len=>exact Lk hr hv
 |app=>exact L9 hr hv
 |cpy=>exact K6 hr hv
 |mm=>exact Nw hr hv
 |call=>simp[bk]at hv
 |clv=>simp[bk]at hv
 |lde=>exact Ly hr hv
 |cle=>simp[bk]at hv
end
end Go.Eng
namespace Go.Eng
inductive E0 where
 |p (d:D)
 |o (deep:Bool) (ty:Option (Nat×Nat)) (xs:List (List D))
inductive E where
 |e (x:E0)
 |pt (ty:Nat) (xs:List E0)
@[match_pattern] abbrev E.p (d:D):E:= .e (.p d)
@[match_pattern] abbrev E.o (deep:Bool) (ty:Option (Nat×Nat)) (xs:List (List D)):E:= .e (.o deep ty xs)
def aW:Nat→Nat→List E0→List D×List (Nat×En)
 |_,_,[]=>([],[])
 |k,v, .p d::r=>(d::(aW (k+1) (v+1) r).1,(aW (k+1) (v+1) r).2)
 |k,v, .o dp t xs::r=>(.ow k v::(aW (k+1) (v+1) r).1,(k, .sl v true dp t xs)::(aW (k+1) (v+1) r).2)
def cA:List E→Nat
 | []=>0
 | .e _::r=>1+cA r
 | .pt _ xs::r=>1+xs.length+cA r
def aQ:Nat→Nat→List E→List D×List (Nat×En)
 |_,_,[]=>([],[])
 |k,v, .e (.p d)::r=>(d::(aQ (k+1) (v+1) r).1,(aQ (k+1) (v+1) r).2)
 |k,v, .e (.o dp t xs)::r=>(.ow k v::(aQ (k+1) (v+1) r).1,(k, .sl v true dp t xs)::(aQ (k+1) (v+1) r).2)
 |k,v, .pt ty xs::r=>(.pt k v 0::(aQ (k+(1+xs.length)) (v+(1+xs.length)) r).1,(k, .pt v ty (aW (k+1) (v+1) xs).1)::((aW (k+1) (v+1) xs).2++(aQ (k+(1+xs.length)) (v+(1+xs.length)) r).2))
def cT:List (Bool×List E)→Nat
 | []=>0
 |(_,es)::r=>cA es+cT r
def bd:Nat→Nat→List (Bool×List E)→List (Bool×List D)×List (Nat×En)
 |_,_,[]=>([],[])
 |k,v,(g,es)::r=>((g,(aQ k v es).1)::(bd (k+cA es) (v+cA es) r).1,(aQ k v es).2++(bd (k+cA es) (v+cA es) r).2)
def c6 (st:St):List D→List Nat→Option (List E0×List Nat)
 | [],us=>some ([],us)
 | .ow k v::r,us=>match st.fb k v with
   |some (true,dp,t,xs)=>if us.elem k then none else match c6 st r (k::us)with
    |some (es,us')=>some (.o dp t xs::es,us')
    |none=>none
   |some (false,_,_,xs)=>match c6 st r us with
    |some (es,us')=>some (.p (.sl xs)::es,us')
    |none=>none
   |none=>none
 | .pt _ _ _::_,_=>none
 | .pe _ _::_,_=>none
 | .px _ _ _ _::_,_=>none
 | .sa _ _ _ _ _::_,_=>none
 |d::r,us=>match c6 st r us with
  |some (es,us')=>some (.p d::es,us')
  |none=>none
def dq (st:St):List D→List Nat→Option (List E×List Nat)
 | [],us=>some ([],us)
 | .pt k v o::r,us=>match st.ptr k v with
   |some (ty,ds)=>if us.elem k||o !=0 then none else match c6 st ds (k::us)with
    |some (xs,us')=>match dq st r us' with
     |some (es,us'')=>some (.pt ty xs::es,us'')
     |none=>none
    |none=>none
   |none=>none
 |d::r,us=>match c6 st [d] us with
  |some ([x],us')=>match dq st r us' with
   |some (es,us'')=>some (.e x::es,us'')
   |none=>none
  |_=>none
def gf (st:St):List (Bool×List D)→List Nat→Option (List (Bool×List E)×List Nat)
 | [],us=>some ([],us)
 |(g,ds)::r,us=>match dq st ds us with
  |some (es,us')=>match gf st r us' with
   |some (rs,us'')=>some ((g,es)::rs,us'')
   |none=>none
  |none=>none
def DG (Γ:Cx) (γ:Gh) (st:St) (h:H) (w:Bool×List C) (a:Bool×List D):Prop:=w.1=a.1∧ah (DC Γ γ st h) w.2 a.2
def EZ (Γ:Cx) (h:H) (K v:Nat) (gs:List (Bool×List E)) (css:List (Bool×List C)):Prop:=
 ∃γ,aB Γ γ UT.leaf ⟨v+cT gs,(bd K v gs).2⟩ PT.leaf h∧ah (DG Γ γ ⟨v+cT gs,(bd K v gs).2⟩ h) css (bd K v gs).1
section
variable {Γ:Cx} {γ γ':Gh} {f f':UT} {st st':St} {mf mf':Fr} {h h':H}
theorem aB.ND (hr:aB Γ γ f st mf h) {N:Nat→Prop} {γ':Gh} {st':St} {h':H} (hnx:st.nx≤st'.nx)
 (hsame:∀k,¬N k→lk k st'.es=lk k st.es∧γ'.c k=γ.c k∧γ'.w k=γ.w k∧γ'.u k=γ.u k)
 (hv:∀k e,N k→lk k st'.es=some e→st.nx≤e.nZ∨(γ'.c k=γ.c k∧Kc st k e))
 (hcells:∀i,i < h.length→PR Γ γ st i→h'.cells i=h.cells i)
 (hw:∀k e,N k→lk k st'.es=some e→∀i∈γ'.w k,i < h.length→¬PR Γ γ st i)
 (hoth:∀k e,¬N k→lk k st.es=some e→∀i∈γ.w k,h'[i]? =h[i]?)
 (hnd:∀k e,N k→lk k st'.es=some e→(γ'.w k++γ'.u k).Nodup∧∀i∈γ'.w k++γ'.u k,pH Γ i)
 (hdj:∀k e k' e',N k→k'≠k→lk k st'.es=some e→lk k' st'.es=some e'→∀i∈γ'.w k++γ'.u k,i∉γ'.w k'++γ'.u k')
 (hlen:h.length≤h'.length) (hbase:∀i,i < Γ.hb.length→i∉Γ.bs→h'[i]? =h[i]?)
 (hk:Mo Γ γ st h γ' st' h'→∀k e,N k→lk k st'.es=some e→ER Γ γ' st' h' k e) (hown:∀i cs,pH Γ i→h'[i]? ≠some (.ro cs)):
 aB Γ γ' f st' mf h'∧Mo Γ γ st h γ' st' h':=by
 have hm:Mo Γ γ st h γ' st' h':=by
  refine⟨hnx,hlen,fun i hi hp=>⟨hcells i hi hp,hp.1,fun k e hl=> ?_⟩,fun k v o dp t xs hlt hl=> ?_,fun k v ty ds hlt hl=> ?_⟩
  ·by_cases hn:N k
   ·exact fun hiw=>hw k e hn hl i hiw hi hp
   ·obtain⟨h1,h2,h3,h4⟩:=hsame k hn
    rw[h3];exact hp.2 k e (h1▸hl)
  ·by_cases hn:N k
   ·rcases hv k _ hn hl with hv|⟨hc,o',dp',t',xs',h1,h2⟩
    ·simp only[En.nZ]at hv;omega
    ·exact⟨o',dp',t',xs',h1,hc,h2⟩
   ·obtain⟨h1,h2,h3,h4⟩:=hsame k hn
    exact⟨o,dp,t,xs,h1▸hl,h2,fun h=>⟨h,rfl⟩⟩
  ·by_cases hn:N k
   ·rcases hv k _ hn hl with hv|⟨hc,ty',ds',h1⟩
    ·simp only[En.nZ]at hv;omega
    ·exact⟨ty',ds',h1,hc⟩
   ·obtain⟨h1,h2,h3,h4⟩:=hsame k hn
    exact⟨ty,ds,h1▸hl,h2⟩
 refine⟨⟨fun s=>(hr.fr s).mo hm,fun k e hl=> ?_,fun k e hl=> ?_,fun k1 k2 e1 e2 hne hl1 hl2=> ?_,Nat.le_trans hr.len hlen,fun i h1 h2=>(hbase i h1 h2).trans (hr.base i h1 h2),hr.arb,hr.E2 hm,hown⟩,hm⟩
 ·by_cases hn:N k
  ·exact hk hm k e hn hl
  ·obtain⟨h1,h2,h3,h4⟩:=hsame k hn
   exact ER.mo hm h2 h3 h4 (hoth k e hn (h1▸hl)) (hr.en k e (h1▸hl))
 ·by_cases hn:N k
  ·exact hnd k e hn hl
  ·obtain⟨h1,h2,h3,h4⟩:=hsame k hn
   rw[h3,h4];exact hr.nd k e (h1▸hl)
 ·by_cases hn1:N k1
  ·exact hdj k1 e1 k2 e2 hn1 (fun e=>hne e.symm) hl1 hl2
  ·by_cases hn2:N k2
   ·exact fun i hi hi'=>hdj k2 e2 k1 e1 hn2 hne hl2 hl1 i hi' hi
   ·obtain⟨h1,h2,h3,h4⟩:=hsame k1 hn1
    obtain⟨q1,q2,q3,q4⟩:=hsame k2 hn2
    rw[h3,h4,q3,q4]
    exact hr.dj k1 k2 e1 e2 hne (h1▸hl1) (q1▸hl2)
theorem bO (k:Nat):∀(a b:List (Nat×En)),lk k (a++b)=(match lk k a with|some e=>some e|none=>lk k b)
 | [],b=>rfl
 |(k',e)::a,b=>by
  simp only[List.cons_append,ay]
  split
  ·rfl
  ·exact bO k a b
def KD (st:St) (κ:Nat→Nat) (L:List (Nat×En)) (vb:Nat) (d d':D):Prop:=
 match d,d' with
 | .ow k v, .ow k' v'=>κ k'=k∧v' < vb∧∃dp t xs,lk k st.es=some (.sl v true dp t xs)∧lk k' L=some (.sl v' true dp t xs)
 | .ow k v, .sl xs=>∃dp t,lk k st.es=some (.sl v false dp t xs)
 | .pt k v o, .pt k' v' o'=>κ k'=k∧v' < vb∧o=0∧o'=0∧∃ty ds ds',lk k st.es=some (.pt v ty ds)∧lk k' L=some (.pt v' ty ds')
 | .ow _ _,_=>False
 | .pt _ _ _,_=>False
 | .pe _ _,_=>False
 | .px _ _ _ _,_=>False
 | .sa _ _ _ _ _,_=>False
 |d,d'=>d'=d
structure Rk (st:St) (κ:Nat→Nat) (L:List (Nat×En)) (K vb n:Nat) (us us':List Nat):Prop where
 dom:∀k' e',lk k' L=some e'→K≤k'∧k' < K+n
 ent:∀k' e',lk k' L=some e'→e'.nZ < vb∧κ k'∈us'∧κ k'∉us∧(
  (∃v v' dp t xs,e'= .sl v' true dp t xs∧lk (κ k') st.es=some (.sl v true dp t xs))∨
  (∃v v' ty ds ds',e'= .pt v' ty ds'∧lk (κ k') st.es=some (.pt v ty ds)∧ah (KD st κ L vb) ds ds'))
 inj:∀k1 k2 e1 e2,lk k1 L=some e1→lk k2 L=some e2→κ k1=κ k2→k1=k2
 sub:∀k∈us,k∈us'
theorem KD.ext {κ κ':Nat→Nat} {L L':List (Nat×En)} {vb vb':Nat} {d d':D} (hk:KD st κ L vb d d') (hv:vb≤vb') (hL:∀k e,lk k L=some e→lk k L'=some e∧κ' k=κ k):KD st κ' L' vb' d d':=by
 cases d <;>cases d' <;>simp only[KD]at hk⊢ <;>try exact hk
 ·obtain⟨h1,h2,dp,t,xs,h3,h4⟩:=hk
  obtain⟨q1,q2⟩:=hL _ _ h4
  exact⟨q2.trans h1,by omega,dp,t,xs,h3,q1⟩
 ·obtain⟨h1,h2,h3,h4,ty,ds,ds',h5,h6⟩:=hk
  obtain⟨q1,q2⟩:=hL _ _ h6
  exact⟨q2.trans h1,by omega,h3,h4,ty,ds,ds',h5,q1⟩
theorem Rk.join {κ1 κ2:Nat→Nat} {L1 L2:List (Nat×En)} {K vb1 vb2 n1 n2:Nat} {u0 u1 u2:List Nat} (h1:Rk st κ1 L1 K vb1 n1 u0 u1) (h2:Rk st κ2 L2 (K+n1) vb2 n2 u1 u2) (hv:vb1≤vb2):
 Rk st (fun k=>if k < K+n1 then κ1 k else κ2 k) (L1++L2) K vb2 (n1+n2) u0 u2∧(∀k e,lk k L1=some e→lk k (L1++L2)=some e∧(if k < K+n1 then κ1 k else κ2 k)=κ1 k)∧(∀k e,lk k L2=some e→lk k (L1++L2)=some e∧(if k < K+n1 then κ1 k else κ2 k)=κ2 k):=by
 have e1:∀k e,lk k L1=some e→lk k (L1++L2)=some e∧(if k < K+n1 then κ1 k else κ2 k)=κ1 k:=fun k e hl=>by
  rw[bO,hl,if_pos (h1.dom k e hl).2];exact⟨rfl,rfl⟩
 have e2:∀k e,lk k L2=some e→lk k (L1++L2)=some e∧(if k < K+n1 then κ1 k else κ2 k)=κ2 k:=fun k e hl=>by
  have hd:=h2.dom k e hl
  have:lk k L1=none:=by
   cases hx:lk k L1 with
   |none=>rfl
   |some e'=>have:=h1.dom k e' hx;omega
  rw[bO,this,if_neg (by omega)];exact⟨hl,rfl⟩
 have cs:∀k e,lk k (L1++L2)=some e→lk k L1=some e∨lk k L2=some e:=fun k e hl=>by
  rw[bO]at hl
  cases hx:lk k L1 with
  |none=>rw[hx]at hl;exact .inr hl
  |some e'=>rw[hx]at hl;exact .inl hl
 refine⟨⟨fun k e hl=> ?_,fun k e hl=> ?_,fun k1 k2 a1 a2 hl1 hl2 he=> ?_,fun k hk=>h2.sub k (h1.sub k hk)⟩,e1,e2⟩
 ·rcases cs k e hl with hl|hl
  ·have:=h1.dom k e hl;omega
  ·have:=h2.dom k e hl;omega
 ·rcases cs k e hl with hl|hl
  ·obtain⟨q0,q1,q2,q3⟩:=h1.ent k e hl
   rw[(e1 k e hl).2]
   refine⟨by omega,h2.sub _ q1,q2,?_⟩
   rcases q3 with q3|⟨v,v',ty,ds,ds',r1,r2,r3⟩
   ·exact .inl q3
   ·exact .inr ⟨v,v',ty,ds,ds',r1,r2,r3.imp fun _ _ hk=>hk.ext hv e1⟩
  ·obtain⟨q0,q1,q2,q3⟩:=h2.ent k e hl
   rw[(e2 k e hl).2]
   refine⟨q0,q1,fun hu=>q2 (h1.sub _ hu),?_⟩
   rcases q3 with q3|⟨v,v',ty,ds,ds',r1,r2,r3⟩
   ·exact .inl q3
   ·exact .inr ⟨v,v',ty,ds,ds',r1,r2,r3.imp fun _ _ hk=>hk.ext (Nat.le_refl _) e2⟩
 ·rcases cs k1 a1 hl1 with hl1|hl1 <;>rcases cs k2 a2 hl2 with hl2|hl2
  ·rw[(e1 _ _ hl1).2,(e1 _ _ hl2).2]at he;exact h1.inj k1 k2 a1 a2 hl1 hl2 he
  ·rw[(e1 _ _ hl1).2,(e2 _ _ hl2).2]at he
   exact absurd (he▸(h1.ent _ _ hl1).2.1) (h2.ent _ _ hl2).2.2.1
  ·rw[(e2 _ _ hl1).2,(e1 _ _ hl2).2]at he
   exact absurd (he▸(h1.ent _ _ hl2).2.1) (h2.ent _ _ hl1).2.2.1
  ·rw[(e2 _ _ hl1).2,(e2 _ _ hl2).2]at he;exact h2.inj k1 k2 a1 a2 hl1 hl2 he
theorem Rk.nil {K vb:Nat} {us:List Nat}:Rk st id [] K vb 0 us us:=⟨fun k e hl=>by simp[lk]at hl,fun k e hl=>by simp[lk]at hl,fun k1 k2 e1 e2 hl=>by simp[lk]at hl,fun k hk=>hk⟩
theorem Rk.none {K vb:Nat} {us:List Nat}:Rk st id [] K vb 1 us us:=⟨fun k e hl=>by simp[lk]at hl,fun k e hl=>by simp[lk]at hl,fun k1 k2 e1 e2 hl=>by simp[lk]at hl,fun k hk=>hk⟩
theorem Rk.one {K v k w:Nat} {dp:Bool} {t:Option (Nat×Nat)} {xs:List (List D)} {us:List Nat} (hl:lk k st.es=some (.sl w true dp t xs)) (hu:k∉us):Rk st (fun _=>k) [(K, .sl v true dp t xs)] K (v+1) 1 us (k::us):=by
 refine⟨fun k' e hl=> ?_,fun k' e hl'=> ?_,fun k1 k2 e1 e2 h1 h2 _=> ?_,fun k hk=>by simp[hk]⟩
 ·simp only[ay,lk]at hl;split at hl
  ·omega
  ·simp at hl
 ·simp only[ay,lk]at hl';split at hl'
  ·simp at hl';subst hl';exact⟨by simp[En.nZ],by simp,hu, .inl ⟨w,v,dp,t,xs,rfl,hl⟩⟩
  ·simp at hl'
 ·simp only[ay,lk]at h1 h2
  split at h1
  ·split at h2
   ·omega
   ·simp at h2
  ·simp at h1
theorem wU:∀(ds:List D) {us us':List Nat} {xs:List E0},c6 st ds us=some (xs,us')→∀K v,∃κ,Rk st κ (aW K v xs).2 K (v+xs.length) xs.length us us'∧ah (KD st κ (aW K v xs).2 (v+xs.length)) ds (aW K v xs).1
 | [],us,us',xs,he,K,v=>by
   simp[c6]at he
   obtain⟨rfl,rfl⟩:=he
   exact⟨id,Rk.nil,trivial⟩
 |d::r,us,us',xs,he,K,v=>by
  have plain:∀(x:D),(match c6 st r us with|some (es,us')=>some (E0.p x::es,us')|Option.none=>Option.none)=some (xs,us')→(∀κ L vb,KD st κ L vb d x)→
   ∃κ,Rk st κ (aW K v xs).2 K (v+xs.length) xs.length us us'∧ah (KD st κ (aW K v xs).2 (v+xs.length)) (d::r) (aW K v xs).1:=by
   intro x he hx
   split at he
   ·rename_i es u2 h2
    simp at he
    obtain⟨rfl,rfl⟩:=he
    obtain⟨κ,q1,q2⟩:=wU r h2 (K+1) (v+1)
    simp only[aW,List.length_cons]
    have hj:=(Rk.none (st:=st) (K:=K) (vb:=v+1) (us:=us)).join q1 (by omega)
    refine⟨_,by have:=hj.1;rw[List.nil_append,Nat.add_comm 1]at this;rw[show v+(es.length+1)=v+1+es.length by omega];exact this,hx _ _ _,q2.imp fun _ _ hk=>hk.ext (by omega) (fun k e hl=>by have:=hj.2.2 k e hl;rwa [List.nil_append]at this)⟩
   ·simp at he
  cases d with
  |ow k w=>
   simp only[c6]at he
   split at he
   ·rename_i dp t ys hs
    split at he
    ·simp at he
    ·rename_i hu
     split at he
     ·rename_i es u2 h2
      simp at he
      obtain⟨rfl,rfl⟩:=he
      have hl:=St.cL hs
      obtain⟨κ,q1,q2⟩:=wU r h2 (K+1) (v+1)
      simp only[aW,List.length_cons]
      have hj:=(Rk.one (st:=st) (K:=K) (v:=v) hl (by simpa using hu)).join q1 (by omega)
      refine⟨_,by have:=hj.1;rw[List.singleton_append,Nat.add_comm 1]at this;rw[show v+(es.length+1)=v+1+es.length by omega];exact this,⟨by simp,by omega,dp,t,ys,hl,by simp[ay]⟩,q2.imp fun _ _ hk=>hk.ext (by omega) (fun k e hl=>by have:=hj.2.2 k e hl;rwa [List.singleton_append]at this)⟩
     ·simp at he
   ·rename_i dp t ys hs
    exact plain _ he (fun κ L vb=>⟨dp,t,St.cL hs⟩)
   ·simp at he
  |pt k v o=>simp[c6]at he
  |pe x o=>simp[c6]at he
  |px k v j o=>simp[c6]at he
  |sa k v o n e=>simp[c6]at he
  |_=>simp only[c6]at he;exact plain _ he (fun κ L vb=>rfl)
end
end Go.Eng
namespace Go.Eng
theorem ah.comp {α β δ:Type} {R:α→β→Prop} {S:β→δ→Prop} {T:α→δ→Prop} (hT:∀x y z,R x y→S y z→T x z):∀ {xs:List α} {ys:List β} {zs:List δ},ah R xs ys→ah S ys zs→ah T xs zs
 | [],[],[],_,_=>trivial
 |_::_,_::_,_::_,h1,h2=>⟨hT _ _ _ h1.1 h2.1,ah.comp hT h1.2 h2.2⟩
 | [],_::_,_,h1,_=>h1.elim
 |_::_,[],_,h1,_=>h1.elim
 |_,[],_::_,_,h2=>h2.elim
 |_,_::_,[],_,h2=>h2.elim
section
variable {Γ Γ':Cx} {γ γ':Gh} {f f':UT} {st st':St} {mf mf':Fr} {h h':H}
theorem iS (k v:Nat) (x:E0) (r:List E):aQ k v (.e x::r)=((aW k v [x]).1++(aQ (k+1) (v+1) r).1,(aW k v [x]).2++(aQ (k+1) (v+1) r).2):=by
 cases x <;>simp[aQ,aW]
theorem Bn:∀(ds:List D) {us us':List Nat} {es:List E},dq st ds us=some (es,us')→∀K v,∃κ,Rk st κ (aQ K v es).2 K (v+cA es) (cA es) us us'∧ah (KD st κ (aQ K v es).2 (v+cA es)) ds (aQ K v es).1
 | [],us,us',xs,he,K,v=>by
   simp[dq]at he
   obtain⟨rfl,rfl⟩:=he
   exact⟨id,Rk.nil,trivial⟩
 |d::r,us,us',es,he,K,v=>by
  have plain:(match c6 st [d] us with
   |some ([x],us')=>match dq st r us' with
    |some (es,us'')=>some (E.e x::es,us'')
    |none=>none
   |_=>none)=some (es,us')→∃κ,Rk st κ (aQ K v es).2 K (v+cA es) (cA es) us us'∧ah (KD st κ (aQ K v es).2 (v+cA es)) (d::r) (aQ K v es).1:=by
   intro he
   split at he
   ·rename_i x u1 h1
    split at he
    ·rename_i es2 u2 h2
     simp at he
     obtain⟨rfl,rfl⟩:=he
     obtain⟨κ1,p1,p2⟩:=wU [d] h1 K v
     obtain⟨κ2,q1,q2⟩:=Bn r h2 (K+1) (v+1)
     simp only[List.length_cons,List.length_nil,Nat.zero_add]at p1 p2
     rw[iS]
     have hj:=p1.join q1 (by omega)
     have e1:v+cA (.e x::es2)=v+1+cA es2:=by simp[cA];omega
     have e2:cA (.e x::es2)=1+cA es2:=rfl
     rw[e1,e2]
     match hx:(aW K v [x]).1,p2 with
     | [d'],p2=>
       exact⟨_,hj.1,p2.1.ext (by omega) hj.2.1,q2.imp fun _ _ hk=>hk.ext (by omega) hj.2.2⟩
    ·simp at he
   ·simp at he
  cases d with
  |pt k w o=>
   simp only[dq]at he
   split at he
   ·rename_i ty ds hp
    split at he
    ·simp at he
    ·rename_i hu
     simp only[Bool.or_eq_true,not_or,Bool.not_eq_true,bne_eq_false_iff_eq]at hu
     split at he
     ·rename_i xs u1 h1
      split at he
      ·rename_i es2 u2 h2
       simp at he
       obtain⟨rfl,rfl⟩:=he
       have hl:=St.fh hp
       obtain⟨κ0,p1,p2⟩:=wU ds h1 (K+1) (v+1)
       obtain⟨κ2,q1,q2⟩:=Bn r h2 (K+(1+xs.length)) (v+(1+xs.length))
       have hku:k∉us:=by have:=hu.1;simpa using this
       have hL0:∀k' e',lk k' (aW (K+1) (v+1) xs).2=some e'→lk k' ((K, .pt v ty (aW (K+1) (v+1) xs).1)::(aW (K+1) (v+1) xs).2)=some e'∧(if k'=K then k else κ0 k')=κ0 k':=fun k' e' hx=>by
        have:=p1.dom k' e' hx
        rw[ay,if_neg (by omega),if_neg (by omega)];exact⟨hx,rfl⟩
       have hcs:∀k' e',lk k' ((K, .pt v ty (aW (K+1) (v+1) xs).1)::(aW (K+1) (v+1) xs).2)=some e'→(k'=K∧e'= .pt v ty (aW (K+1) (v+1) xs).1)∨(k'≠K∧lk k' (aW (K+1) (v+1) xs).2=some e'):=fun k' e' hx=>by
        rw[ay]at hx
        split at hx
        ·rename_i hk;simp at hx;exact .inl ⟨hk,hx.symm⟩
        ·rename_i hk;exact .inr ⟨hk,hx⟩
       have hpt:Rk st (fun k'=>if k'=K then k else κ0 k') ((K, .pt v ty (aW (K+1) (v+1) xs).1)::(aW (K+1) (v+1) xs).2) K (v+1+xs.length) (1+xs.length) us u1:=by
        refine⟨fun k' e' hx=> ?_,fun k' e' hx=> ?_,fun k1 k2 e1 e2 hx1 hx2 he=> ?_,fun k' hk=>p1.sub k' (by simp[hk])⟩
        ·rcases hcs k' e' hx with⟨rfl,_⟩|⟨_,hx⟩
         ·omega
         ·have:=p1.dom k' e' hx;omega
        ·rcases hcs k' e' hx with⟨rfl,rfl⟩|⟨hne,hx⟩
         ·rw[if_pos rfl]
          exact⟨by simp only[En.nZ];omega,p1.sub k (by simp),hku, .inr ⟨w,v,ty,ds,_,rfl,hl,p2.imp fun _ _ hk=>hk.ext (Nat.le_refl _) hL0⟩⟩
         ·rw[if_neg hne]
          obtain⟨a0,a1,a2,a3⟩:=p1.ent k' e' hx
          refine⟨a0,a1,fun hh=>a2 (by simp[hh]),?_⟩
          rcases a3 with a3|⟨v1,v2,ty',ds1,ds2,b1,b2,b3⟩
          ·exact .inl a3
          ·exact .inr ⟨v1,v2,ty',ds1,ds2,b1,b2,b3.imp fun _ _ hk=>hk.ext (Nat.le_refl _) hL0⟩
        ·rcases hcs k1 e1 hx1 with⟨rfl,_⟩|⟨hne1,hx1⟩ <;>rcases hcs k2 e2 hx2 with⟨rfl,_⟩|⟨hne2,hx2⟩
         ·rfl
         ·simp only[if_true,if_neg hne2]at he
          exact absurd (he▸(by simp:k∈k::us)) (p1.ent k2 e2 hx2).2.2.1
         ·simp only[if_true,if_neg hne1]at he
          exact absurd (he.symm▸(by simp:k∈k::us)) (p1.ent k1 e1 hx1).2.2.1
         ·simp only[if_neg hne1,if_neg hne2]at he
          exact p1.inj k1 k2 e1 e2 hx1 hx2 he
       have hj:=hpt.join q1 (by omega)
       simp only[aQ,cA]
       have e1:v+(1+xs.length+cA es2)=v+(1+xs.length)+cA es2:=by omega
       rw[e1]
       refine⟨_,by simpa using hj.1,⟨by simp,by omega,hu.2,rfl,ty,ds,_,hl,by simp[ay];rfl⟩,q2.imp fun _ _ hk=>hk.ext (by omega) (by simpa using hj.2.2)⟩
      ·simp at he
     ·simp at he
   ·simp at he
  |_=>simp only[dq]at he;exact plain he
theorem FT:∀(gs:List (Bool×List D)) {us us':List Nat} {rs:List (Bool×List E)},gf st gs us=some (rs,us')→∀K v,∃κ,Rk st κ (bd K v rs).2 K (v+cT rs) (cT rs) us us'∧ah (fun(a a':Bool×List D)=>a.1=a'.1∧ah (KD st κ (bd K v rs).2 (v+cT rs)) a.2 a'.2) gs (bd K v rs).1
 | [],us,us',rs,he,K,v=>by
   simp[gf]at he
   obtain⟨rfl,rfl⟩:=he
   exact⟨id,Rk.nil,trivial⟩
 |(g,ds)::r,us,us',rs,he,K,v=>by
  simp only[gf]at he
  split at he
  ·rename_i es u1 h1
   split at he
   ·rename_i rs2 u2 h2
    simp at he
    obtain⟨rfl,rfl⟩:=he
    obtain⟨κ1,p1,p2⟩:=Bn ds h1 K v
    obtain⟨κ2,q1,q2⟩:=FT r h2 (K+cA es) (v+cA es)
    have hj:=p1.join q1 (by omega)
    simp only[bd,cT]
    have e1:v+(cA es+cT rs2)=v+cA es+cT rs2:=by omega
    rw[e1]
    exact⟨_,hj.1,⟨rfl,p2.imp fun _ _ hk=>hk.ext (by omega) hj.2.1⟩,q2.imp fun _ _ hk=>⟨hk.1,hk.2.imp fun _ _ hk=>hk.ext (by omega) hj.2.2⟩⟩
   ·simp at he
  ·simp at he
theorem aB.out (hr:aB Γ γ f st mf h) {gs:List (Bool×List D)} {css:List (Bool×List C)} {rs:List (Bool×List E)} {us:List Nat} (he:gf st gs []=some (rs,us)) (hc:ah (DG Γ γ st h) css gs)
 (hpr:∀i,i < h.length→PR Γ γ st i→Γ'.ar i∨Γ'.hb.length≤i∨i∈Γ'.bs) (hmine:∀k∈us,∀e,lk k st.es=some e→∀i∈γ.w k++γ.u k,pH Γ' i)
 (hlen:Γ'.hb.length≤h.length) (hbase:∀i,i < Γ'.hb.length→i∉Γ'.bs→h[i]? =Γ'.hb[i]?) (harb:∀i,Γ'.ar i→i < Γ'.hb.length) (hpin:Γ'.pin= []) (hown:∀i cs,pH Γ' i→h[i]? ≠some (.ro cs)) (K v:Nat):EZ Γ' h K v rs css:=by
 obtain⟨κ,q1,q2⟩:=FT gs he K v
 let γb:Gh:=⟨fun k=>γ.c (κ k),fun k=>γ.w (κ k),fun k=>γ.u (κ k)⟩
 let sb:St:=⟨v+cT rs,(bd K v rs).2⟩
 have hlk:∀k e,lk k sb.es=some e→∃e0,lk (κ k) st.es=some e0:=fun k e hl=>by
  obtain⟨_,_,_,h1|h1⟩:=q1.ent k e hl
  ·obtain⟨_,_,_,_,_,_,h2⟩:=h1;exact⟨_,h2⟩
  ·obtain⟨_,_,_,_,_,_,h2,_⟩:=h1;exact⟨_,h2⟩
 have hPR:∀i,i < h.length→PR Γ γ st i→PR Γ' γb sb i:=fun i hi hp=>⟨hpr i hi hp,fun k e hl=>by
  obtain⟨e0,h0⟩:=hlk k e hl
  exact hp.2 _ e0 h0⟩
 have hRD:∀ {d:D} {c:C},(∃S,RD h d c S∧∀i∈S,PR Γ γ st i)→∃S,RD h d c S∧∀i∈S,PR Γ' γb sb i:=fun {d c} ⟨S,h1,h2⟩=>⟨S,h1,fun i hi=>hPR i (RD.lt d h1 i hi) (h2 i hi)⟩
 have hDC:∀ {c:C} {d d':D},DC Γ γ st h c d→KD st κ sb.es sb.nx d d'→DC Γ' γb sb h c d':=by
  intro c d d' hd hk
  cases d
  case ow k w=>
   cases d' <;>simp only[KD]at hk
   case ow k' w'=>
    obtain⟨h1,h2,dp,t,xs,h3,h4⟩:=hk
    refine⟨h2,fun _ _ _ _ _=> ?_⟩
    show c=γ.c (κ k')
    rw[h1]
    exact hd.2 _ _ _ _ h3
   case sl xs=>
    obtain⟨dp,t,h3⟩:=hk
    obtain⟨_,_,_,h4⟩:=hr.en _ _ h3
    rw[hd.2 _ _ _ _ h3]
    exact hRD h4
  case pt k w o=>
   cases d' <;>simp only[KD]at hk
   case pt k' w' o'=>
    obtain⟨h1,h2,rfl,rfl,ty,ds,ds',h5,h6⟩:=hk
    refine⟨h2,fun _ _ _=> ?_⟩
    obtain⟨id,k1,k2⟩:=hd.2 _ _ h5
    exact⟨id,by show γ.c (κ k')=_;rw[h1,k1],k2⟩
  case pe x o=>cases d' <;>simp only[KD]at hk
  case px k w j o=>cases d' <;>simp only[KD]at hk
  case sa k w o n e=>cases d' <;>simp only[KD]at hk
  all_goals
   have hk':=hk
   simp only[KD]at hk'
   subst hk'
   exact hRD hd
 refine⟨γb,⟨fun k=>(by rw[PT.bL,UT.bL];intro cs e;cases e),fun k e hl=> ?_,fun k e hl=> ?_,fun k1 k2 e1 e2 hne hl1 hl2=> ?_,hlen,hbase,harb,fun p hp=>(by rw[hpin]at hp;cases hp),hown⟩,?_⟩
 ·obtain⟨h0,h1,h2,h3|h3⟩:=q1.ent k e hl
  ·obtain⟨w,w',dp,t,xs,rfl,h5⟩:=h3
   obtain⟨_,he⟩:=hr.en _ _ h5
   refine⟨h0,?_⟩
   rcases he with he|⟨id,ty,ez,bs,S,k1,k2,k3,k4,k5,k6,k7,k8⟩
   ·exact .inl he
   ·exact .inr ⟨id,ty,ez,bs,S,k1,k2,k3,k4,k5,k6,fun i hi=>hPR i (aG.lt xs k6 i hi) (k7 i hi),k8⟩
  ·obtain⟨w,w',ty,ds,ds',rfl,h5,h6⟩:=h3
   obtain⟨_,k1,id,bs,k2,k3,k4,k5⟩:=hr.en _ _ h5
   refine⟨h0,k1,id,bs,k2,k3,k4,?_⟩
   exact ah.comp (S:=KD st κ (bd K v rs).2 (v+cT rs)) (T:=DC Γ' γb sb h) (fun _ _ _ h1 h2=>hDC h1 h2) k5 h6
 ·obtain⟨e0,h0⟩:=hlk k e hl
  exact⟨(hr.nd _ _ h0).1,hmine _ (q1.ent k e hl).2.1 e0 h0⟩
 ·obtain⟨a1,b1⟩:=hlk k1 e1 hl1
  obtain⟨a2,b2⟩:=hlk k2 e2 hl2
  exact hr.dj _ _ _ _ (fun e=>hne (q1.inj k1 k2 e1 e2 hl1 hl2 e)) b1 b2
 ·exact ah.comp (fun _ _ _ h1 h2=>⟨h1.1.trans h2.1,ah.comp (S:=KD st κ (bd K v rs).2 (v+cT rs)) (T:=DC Γ' γb sb h) (fun _ _ _ h1 h2=>hDC h1 h2) h1.2 h2.2⟩) hc q2
end
end Go.Eng
namespace Go.Eng
def sr:List C→List E→List C
 |c::cs, .pt _ _::es=>c::sr cs es
 |_::cs, .e _::es=>sr cs es
 |_,_=> []
def sm:List (Bool×List C)→List (Bool×List E)→List C
 |(_,cs)::ms,(_,es)::as=>sr cs es++sm ms as
 |_,_=> []
def K0:Nat:=4096
def cW (css:List (Bool×List C)):V:=
 match css with
 | [(g,cs)]=> .val g cs
 |l=> .tup l
def Hb (css:List (Bool×List D)):U:=
 match css with
 | [(g,cs)]=> .val g cs
 |l=> .tup l
def HQ:D→Bool
 | .ow _ _=>false
 | .pt _ _ _=>false
 | .pe _ _=>false
 | .px _ _ _ _=>false
 | .sa _ _ _ _ _=>false
 |_=>true
def zd:List E0→Bool
 | []=>true
 | .p d::r=>HQ d && zd r
 | .o _ _ _::r=>zd r
def lI:List E→Bool
 | []=>true
 | .e x::r=>zd [x] && lI r
 | .pt _ xs::r=>zd xs && lI r
def qF:List (Bool×List E)→Bool
 | []=>true
 |(_,es)::r=>lI es && qF r
def M8 (Γ:Cx) (pc:List C) (Q:List (Bool×List E)→List E→Prop) (r:V) (h':H):Prop:=
 ∃rs ps css,Q rs ps∧qF (rs++ [(true,ps)])=true∧r=cW css∧∀K v,EZ Γ h' K v (rs++ [(true,ps)]) (css++ [(true,pc)])
def VC (cd:Nat→Option AF) (g:Nat) (as:List (Bool×List E)) (Q:List (Bool×List E)→List E→Prop):Prop:=
 ∀(Γ:Cx) (ms:List (Bool×List C)),Γ.pin= []→EZ Γ Γ.hb K0 0 as ms→WC cd g ms Γ.hb (M8 Γ (sm ms as) Q)
theorem VC.mono {cd:Nat→Option AF} {g:Nat} {as:List (Bool×List E)} {Q Q':List (Bool×List E)→List E→Prop} (hc:VC cd g as Q) (hq:∀rs ps,Q rs ps→Q' rs ps):VC cd g as Q':=
 fun Γ ms h1 h2=>(hc Γ ms h1 h2).mono fun v h' ⟨rs,ps,css,k1,k2⟩=>⟨rs,ps,css,hq rs ps k1,k2⟩
def sn (f:UT) (d:Nat) (u:U):UT:=
 match d with
 |0=>f
 |d+1=>UW f d u
def cI (f:UT):List Nat→UT
 | []=>f
 |d::ds=>cI (UW f d .any) ds
def dD (f:UT) (st:St) (f':UT) (st':St):Prop:=∀Γ mf h,Rel Γ f st mf h→Rel Γ f' st' mf h
def Eg (e e':En):Prop:=
 match e,e' with
 | .sl v o dp t xs, .sl v' o' dp' t' xs'=>v'=v∧xs'=xs∧((o'=o∧dp'=dp∧t'=t)∨(o=true∧o'=true∧xs= []∧t=none))
 | .pt v ty ds, .pt v' ty' ds'=>v'=v∧ty'=ty∧ds'=ds
 |_,_=>False
def kD (st:St):List (Nat×En)→Prop
 | []=>True
 |(k,e')::r=>(match lk k st.es with|some e=>Eg e e'|none=>False)∧kD st r
theorem Eg.refl (e:En):Eg e e:=by cases e <;>simp[Eg]
section
variable {Γ:Cx} {γ γ':Gh} {f f':UT} {st st':St} {mf mf':Fr} {h h':H}
theorem jr:∀ {es:List (Nat×En)},kD st es→∀ {k:Nat} {e':En},lk k es=some e'→∃e,lk k st.es=some e∧Eg e e'
 | [],_,_,_,hl=>by simp[lk]at hl
 |(k',e0)::r,hs,k,e',hl=>by
  rw[ay]at hl
  split at hl
  ·rename_i hk
   subst hk
   simp at hl
   subst hl
   have:=hs.1
   split at this
   ·rename_i e he;exact⟨e,he,this⟩
   ·exact this.elim
  ·exact jr hs.2 hl
theorem dD.sub (hn:st.nx≤st'.nx) (hs:kD st st'.es):dD f st f st':=by
 rintro Γ mf h ⟨γ,hr⟩
 have hPR:∀i,PR Γ γ st i→PR Γ γ st' i:=fun i hp=>⟨hp.1,fun k e' hl=>by
  obtain⟨e,he,_⟩:=jr hs hl
  exact hp.2 k e he⟩
 have hm:Mo Γ γ st h γ st' h:=by
  refine⟨hn,Nat.le_refl _,fun i _ hp=>⟨rfl,hPR i hp⟩,fun k v o dp t xs hv hl=> ?_,fun k v ty ds hv hl=> ?_⟩
  ·obtain⟨e,he,hle⟩:=jr hs hl
   cases e with
   |sl v0 o0 dp0 t0 xs0=>
    obtain⟨rfl,rfl,h1⟩:=hle
    refine⟨o0,dp0,t0,xs,he,rfl,fun ho=>⟨?_,rfl⟩⟩
    rcases h1 with⟨h1,_,_⟩|⟨h1,_⟩
    ·rw[←h1];exact ho
    ·exact h1
   |pt=>exact hle.elim
  ·obtain⟨e,he,hle⟩:=jr hs hl
   cases e with
   |sl=>exact hle.elim
   |pt v0 ty0 ds0=>obtain⟨rfl,rfl,rfl⟩:=hle;exact⟨_,_,he,rfl⟩
 refine⟨γ,fun k=>(hr.fr k).mo hm,fun k e' hl=> ?_,fun k e' hl=> ?_,fun k1 k2 e1 e2 hne h1 h2=> ?_,hr.len,hr.base,hr.arb,hr.E2 hm,hr.own⟩
 ·obtain⟨e,he,hle⟩:=jr hs hl
  have her:=ER.mo hm rfl rfl rfl (fun _ _=>rfl) (hr.en k e he)
  cases e with
  |sl v0 o0 dp0 t0 xs0=>
   cases e' with
   |sl v1 o1 dp1 t1 xs1=>
    obtain⟨rfl,rfl,h1⟩:=hle
    rcases h1 with⟨rfl,rfl,rfl⟩|⟨rfl,rfl,rfl,rfl⟩
    ·exact her
    ·obtain⟨hv,her⟩:=her
     refine⟨hv,?_⟩
     rcases her with her|⟨id,ty,ez,bs,S,k1,_⟩
     ·exact .inl her
     ·cases k1
   |pt=>exact hle.elim
  |pt v0 ty0 ds0=>
   cases e' with
   |sl=>exact hle.elim
   |pt v1 ty1 ds1=>obtain⟨rfl,rfl,rfl⟩:=hle;exact her
 ·obtain⟨e,he,_⟩:=jr hs hl
  exact hr.nd k e he
 ·obtain⟨a1,b1,_⟩:=jr hs h1
  obtain⟨a2,b2,_⟩:=jr hs h2
  exact hr.dj k1 k2 a1 a2 hne b1 b2
theorem dD.refl:dD f st f st:=fun _ _ _ h=>h
theorem dD.trans {f'':UT} {st'':St} (h1:dD f st f' st') (h2:dD f' st' f'' st''):dD f st f'' st'':=fun Γ mf h hr=>h2 Γ mf h (h1 Γ mf h hr)
theorem dD.zg {s k i:Nat} {ds:List D} (hs:UF f s= .box ds) (hi:ds[i]? =some .nils):dD f st (UW f s (.box (ds.set i (.ow k st.nx)))) (st.news k true true none []):=by
 rintro Γ mf h ⟨γ,hr⟩
 have hsl:=hr.slot s
 rw[hs]at hsl
 obtain⟨cs,h1,h2⟩:=hsl
 obtain⟨c,hc,S,h3,_⟩:=h2.get' hi
 simp only[RD]at h3
 obtain⟨rfl,_⟩:=h3
 have hn:=IJ hr (k:=k) (b:=true) (t:=none) (c:= .nils) (.inl rfl)
 refine⟨_,{hn with fr:=fun k'=> ?_}⟩
 unfold UW
 rw[UT.bp]
 split
 ·rename_i hk
  subst hk
  have hb:=hn.slot s
  rw[hs]at hb
  obtain⟨cs',q1,q2⟩:=hb
  have:PT.get mf (K.of s)= .box cs:=h1
  have e1:(mf.get s)= .box cs:=h1
  rw[e1]at q1
  cases q1
  rw[this]
  refine⟨cs,rfl,?_⟩
  have h5:=q2.set i (x:= .nils) (y:= .ow k st.nx) (DC.FA (Nat.lt_succ_self _))
  have h6:cs.set i .nils=cs:=by
   apply List.ext_getElem?
   intro j
   rw[List.getElem?_set]
   split
   ·rename_i hj;subst hj;split
    ·exact hc.symm
    ·rename_i hlt;rw[List.getElem?_eq_none (by omega)]
   ·rfl
  rw[h6]at h5
  exact h5
 ·exact hn.fr k'
theorem Rel.forget:∀(ds:List Nat) {f:UT} {mf:Fr},Rel Γ f st mf h→Rel Γ (cI f ds) st (forget mf ds) h
 | [],_,_,hr=>hr
 |d::ds,f,mf,⟨γ,hr⟩=>Rel.forget ds ⟨γ,hr.set (mv:= .any) (uv:= .any) (fun _ e=>by cases e)⟩
inductive VK where
 |c (a:AC)
 |b (id:Nat)
 |stop (P:UT→St→Prop)
def tr (Γ:Cx):VK→KI
 | .c a=> .c a
 | .b i=> .b i
 | .stop P=> .stop (fun mf h=>∃f st,Rel Γ f st mf h∧P f st)
def xB (id:Nat):List VK→Option (List VK)
 | []=>none
 | .b i::k=>if id=i then some k else xB id k
 |_::k=>xB id k
def CZ (f:UT):RV→Option (Bool×List D)
 | .tmp t=>sd f (.s t)
 | .cell s n g=>match UF f s with
   | .box ds=>if n=ds.length then some (g,ds)else none
   |_=>none
def th (f:UT):List RV→Option (List (Bool×List D))
 | []=>some []
 |r::rs=>match CZ f r,th f rs with
  |some v,some vs=>some (v::vs)
  |_,_=>none
def Da (pd:List (Nat×Nat)):List D:=pd.map fun p=> .pt p.1 p.2 0
def yW (f:UT) (st:St) (R:List RV) (pd:List (Nat×Nat)):Option (List (Bool×List E)×List E):=
 match th f R with
 |some ds=>match gf st ds []with
  |some (rs,us)=>match dq st (Da pd) us with
   |some (ps,_)=>some (rs,ps)
   |none=>none
  |none=>none
 |none=>none
theorem uB:∀ {gs:List (Bool×List D)} {us us' us'':List Nat} {rs:List (Bool×List E)} {ds:List D} {es:List E},gf st gs us=some (rs,us')→dq st ds us'=some (es,us'')→gf st (gs++ [(true,ds)]) us=some (rs++ [(true,es)],us'')
 | [],us,us',us'',rs,ds,es,h1,h2=>by simp[gf]at h1;obtain⟨rfl,rfl⟩:=h1;simp[gf,h2]
 |(g,d0)::gs,us,us',us'',rs,ds,es,h1,h2=>by
  simp only[gf]at h1
  split at h1
  ·rename_i e0 u1 hE
   split at h1
   ·rename_i r1 u2 hR
    simp at h1
    obtain⟨rfl,rfl⟩:=h1
    simp only[List.cons_append,gf,hE,uB hR h2]
   ·simp at h1
  ·simp at h1
theorem wS:∀ {ds:List D} {us us':List Nat} {xs:List E0},c6 st ds us=some (xs,us')→zd xs=true
 | [],us,us',xs,he=>by simp[c6]at he;rw[he.1];rfl
 |d::r,us,us',xs,he=>by
  have plain:∀(x:D),HQ x=true→(match c6 st r us with|some (es,us')=>some (E0.p x::es,us')|none=>none)=some (xs,us')→zd xs=true:=by
   intro x hx he
   split at he
   ·rename_i es u2 h2
    simp at he
    obtain⟨rfl,rfl⟩:=he
    simp only[zd,hx,wS h2,Bool.and_self]
   ·simp at he
  cases d with
  |ow k w=>
   simp only[c6]at he
   split at he
   ·split at he
    ·simp at he
    ·split at he
     ·rename_i es u2 h2
      simp at he
      obtain⟨rfl,rfl⟩:=he
      simp only[zd,wS h2]
     ·simp at he
   ·exact plain _ rfl he
   ·simp at he
  |pt k v o=>simp[c6]at he
  |pe x o=>simp[c6]at he
  |px k v j o=>simp[c6]at he
  |sa k v o n e=>simp[c6]at he
  |_=>simp only[c6]at he;exact plain _ rfl he
theorem Cq:∀ {ds:List D} {us us':List Nat} {es:List E},dq st ds us=some (es,us')→lI es=true
 | [],us,us',es,he=>by simp[dq]at he;rw[he.1];rfl
 |d::r,us,us',es,he=>by
  have plain:(match c6 st [d] us with
   |some ([x],us')=>match dq st r us' with
    |some (es,us'')=>some (E.e x::es,us'')
    |none=>none
   |_=>none)=some (es,us')→lI es=true:=by
   intro he
   split at he
   ·rename_i x u1 h1
    split at he
    ·rename_i es2 u2 h2
     simp at he
     obtain⟨rfl,rfl⟩:=he
     simp only[lI,wS h1,Cq h2,Bool.and_self]
    ·simp at he
   ·simp at he
  cases d with
  |pt k w o=>
   simp only[dq]at he
   split at he
   ·split at he
    ·simp at he
    ·split at he
     ·rename_i xs u1 h1
      split at he
      ·rename_i es2 u2 h2
       simp at he
       obtain⟨rfl,rfl⟩:=he
       simp only[lI,wS h1,Cq h2,Bool.and_self]
      ·simp at he
     ·simp at he
   ·simp at he
  |_=>simp only[dq]at he;exact plain he
theorem G2:∀ {gs:List (Bool×List D)} {us us':List Nat} {rs:List (Bool×List E)},gf st gs us=some (rs,us')→qF rs=true
 | [],us,us',es,he=>by simp[gf]at he;rw[he.1];rfl
 |(g,ds)::r,us,us',es,he=>by
  simp only[gf]at he
  split at he
  ·rename_i e1 u1 h1
   split at he
   ·rename_i e2 u2 h2
    simp at he
    obtain⟨rfl,rfl⟩:=he
    simp only[qF,Cq h1,G2 h2,Bool.and_self]
   ·simp at he
  ·simp at he
theorem ED (hr:aB Γ γ f st mf h):∀ {R:List RV} {ds:List (Bool×List D)},th f R=some ds→∃css,rX mf R=some css∧ah (DG Γ γ st h) css ds
 | [],ds,he=>by simp[th]at he;subst he;exact⟨[],rfl,trivial⟩
 |r::R,ds,he=>by
  simp only[th]at he
  split at he
  ·rename_i v vs h1 h2
   simp at he
   subst he
   obtain⟨css,k1,k2⟩:=ED hr h2
   have:∃c,zp mf r=some c∧DG Γ γ st h c v:=by
    cases r with
    |tmp t=>
     obtain⟨g,d⟩:=v
     obtain⟨cs,q1,q2⟩:=fV hr h1
     exact⟨(g,cs),q1,rfl,q2⟩
    |cell s n g=>
     simp only[CZ]at h1
     split at h1
     ·rename_i d hu
      split at h1
      ·rename_i hn
       simp at h1
       subst h1
       have hs:=hr.slot s
       rw[hu]at hs
       obtain⟨cs,q1,q2⟩:=hs
       have:=q2.length
       exact⟨(g,cs),by simp only[zp,q1];rw[if_pos (by omega)],rfl,q2⟩
      ·simp at h1
     ·simp at h1
   obtain⟨c,q1,q2⟩:=this
   exact⟨c::css,by simp only[rX,q1,k1],q2,k2⟩
  ·simp at he
theorem Hx {R:List RV} {css:List (Bool×List C)} (hr:rX mf R=some css):kl mf R=some (cW css):=by
 unfold kl cW
 rw[hr]
 match css with
 | []=>rfl
 | [(g,cs)]=>rfl
 |_::_::_=>rfl
def Cx.un (Γ:Cx):Cx:=⟨Γ.hb,Γ.ar,Γ.bs,[]⟩
def Hp (Γ:Cx):List C:=Γ.pin.map fun p=> .ptr p.2.2 0
def IF (Γ:Cx):List (Nat×Nat):=Γ.pin.map fun p=>(p.1,p.2.1)
theorem IL {R:List RV} {Q:List (Bool×List E)→List E→Prop} {rs:List (Bool×List E)} {ps:List E} (hr:Rel Γ f st mf h) (hf:yW f st R (IF Γ)=some (rs,ps)) (hq:Q rs ps):FN (kl mf R) (M8 Γ.un (Hp Γ) Q) h:=by
 obtain⟨γ,hr⟩:=hr
 unfold yW at hf
 split at hf
 ·rename_i ds hd
  split at hf
  ·rename_i rs0 us hR
   split at hf
   ·rename_i ps0 us' hE
    simp at hf
    obtain⟨rfl,rfl⟩:=hf
    obtain⟨css,k1,k2⟩:=ED hr hd
    rw[Hx k1]
    refine⟨rs0,ps0,css,hq,G2 (uB hR hE),rfl,fun K v=> ?_⟩
    refine hr.out (Γ':=Γ.un) (uB hR hE) ?_ (fun i _ hp=>hp.1) (fun k _ e hl=>(hr.nd k e hl).2) hr.len hr.base hr.arb rfl hr.own K v
    have hpin:ah (DC Γ γ st h) (Hp Γ) (Da (IF Γ)):=by
     unfold Hp Da IF
     rw[List.map_map]
     have hp:=hr.pin
     revert hp
     induction Γ.pin with
     |nil=>intro _;trivial
     |cons p l ih=>
      intro hp
      exact⟨⟨(hp p (by simp)).1,fun ty ds hl=>⟨p.2.2,(hp p (by simp)).2 ty ds hl,rfl⟩⟩,ih fun q hq=>hp q (by simp[hq])⟩
    exact k2.append ⟨⟨rfl,hpin⟩,trivial⟩
   ·simp at hf
  ·simp at hf
 ·simp at hf
end
end Go.Eng
namespace Go.Eng
def dk (d:Nat):Nat:=8192 * (d+1)
def m7 (f:UT) (st:St) (d:Nat) (rs:List (Bool×List E)):UT:=sn f d (Hb (bd (dk d) st.nx rs).1)
def kR (st:St) (d:Nat) (rs:List (Bool×List E)):St:=⟨st.nx+cT rs,(bd (dk d) st.nx rs).2++st.es⟩
theorem eE {k:Nat} {a b:List (Nat×En)} {e:En} (h:lk k (a++b)=some e):lk k a=some e∨lk k b=some e:=by
 rw[bO]at h
 cases hx:lk k a with
 |none=>rw[hx]at h;exact .inr h
 |some e'=>rw[hx]at h;exact .inl h
def Oh (P:D→Prop):List E0→Prop
 | []=>True
 | .p d::r=>P d∧Oh P r
 | .o _ _ _::r=>Oh P r
def AE (P:D→Prop):List E→Prop
 | []=>True
 | .e x::r=>Oh P [x]∧AE P r
 | .pt _ xs::r=>Oh P xs∧AE P r
def AR (P:D→Prop):List (Bool×List E)→Prop
 | []=>True
 |(_,es)::r=>AE P es∧AR P r
def K4 (P:D→Prop):En→Prop
 | .sl _ _ _ _ _=>True
 | .pt _ _ ds=>∀d∈ds,P d
theorem mM {P:D→Prop} {v0:Nat} (ho:∀k w,v0≤w→P (.ow k w)):∀ {xs:List E0} {k v:Nat},v0≤v→Oh P xs→(∀d∈(aW k v xs).1,P d)∧∀k' e,lk k' (aW k v xs).2=some e→K4 P e
 | [],k,v,_,_=>by simp[aW,lk]
 | .p d::r,k,v,hv,hs=>by
   obtain⟨h1,h2⟩:=mM ho (k:=k+1) (v:=v+1) (by omega) hs.2
   simp only[aW]
   exact⟨fun d' hd=>by rcases List.mem_cons.1 hd with rfl|hd;exact hs.1;exact h1 d' hd,h2⟩
 | .o dp t xs::r,k,v,hv,hs=>by
   obtain⟨h1,h2⟩:=mM ho (xs:=r) (k:=k+1) (v:=v+1) (by omega) hs
   simp only[aW]
   refine⟨fun d' hd=>by rcases List.mem_cons.1 hd with rfl|hd;exact ho k v hv;exact h1 d' hd,fun k' e hl=> ?_⟩
   rw[ay]at hl
   split at hl
   ·simp at hl;subst hl;trivial
   ·exact h2 k' e hl
theorem xr {P:D→Prop} {v0:Nat} (ho:∀k w,v0≤w→P (.ow k w)) (hp:∀k w o,v0≤w→P (.pt k w o)):∀ {es:List E} {k v:Nat},v0≤v→AE P es→(∀d∈(aQ k v es).1,P d)∧∀k' e,lk k' (aQ k v es).2=some e→K4 P e
 | [],k,v,_,_=>by simp[aQ,lk]
 | .e x::r,k,v,hv,hs=>by
   obtain⟨h1,h2⟩:=xr ho hp (k:=k+1) (v:=v+1) (by omega) hs.2
   obtain⟨q1,q2⟩:=mM ho (k:=k) (v:=v) hv hs.1
   rw[iS]
   refine⟨fun d hd=> ?_,fun k' e hl=> ?_⟩
   ·rcases List.mem_append.1 hd with hd|hd
    ·exact q1 d hd
    ·exact h1 d hd
   ·rcases eE hl with hl|hl
    ·exact q2 k' e hl
    ·exact h2 k' e hl
 | .pt ty xs::r,k,v,hv,hs=>by
   obtain⟨h1,h2⟩:=xr ho hp (k:=k+(1+xs.length)) (v:=v+(1+xs.length)) (by omega) hs.2
   obtain⟨q1,q2⟩:=mM ho (k:=k+1) (v:=v+1) (by omega) hs.1
   simp only[aQ]
   refine⟨fun d hd=> ?_,fun k' e hl=> ?_⟩
   ·rcases List.mem_cons.1 hd with rfl|hd
    ·exact hp k v 0 hv
    ·exact h1 d hd
   ·rw[ay]at hl
    split at hl
    ·simp at hl;subst hl;exact q1
    ·rcases eE hl with hl|hl
     ·exact q2 k' e hl
     ·exact h2 k' e hl
theorem xL {P:D→Prop} {v0:Nat} (ho:∀k w,v0≤w→P (.ow k w)) (hp:∀k w o,v0≤w→P (.pt k w o)):∀ {rs:List (Bool×List E)} {k v:Nat},v0≤v→AR P rs→(∀a∈(bd k v rs).1,∀d∈a.2,P d)∧∀k' e,lk k' (bd k v rs).2=some e→K4 P e
 | [],k,v,_,_=>by simp[bd,lk]
 |(g,es)::r,k,v,hv,hs=>by
  obtain⟨h1,h2⟩:=xL ho hp (k:=k+cA es) (v:=v+cA es) (by omega) hs.2
  obtain⟨q1,q2⟩:=xr ho hp (k:=k) (v:=v) hv hs.1
  simp only[bd]
  refine⟨fun a ha=> ?_,fun k' e hl=> ?_⟩
  ·rcases List.mem_cons.1 ha with rfl|ha
   ·exact q1
   ·exact h1 a ha
  ·rcases eE hl with hl|hl
   ·exact q2 k' e hl
   ·exact h2 k' e hl
def VD (v:Nat):D→Prop
 | .ow _ w=>v≤w
 | .pt _ w _=>v≤w
 | .pe _ _=>False
 | .px _ _ _ _=>False
 | .sa _ _ _ _ _=>False
 |_=>True
theorem yr {v:Nat}:∀ {xs:List E0},zd xs=true→Oh (VD v) xs
 | [],_=>trivial
 | .p d::r,h=>by simp only[zd,Bool.and_eq_true]at h;exact⟨by cases d <;>simp[HQ]at h <;>trivial,yr h.2⟩
 | .o _ _ _::r,h=>yr (xs:=r) h
theorem Fy {v:Nat}:∀ {xs:List E},lI xs=true→AE (VD v) xs
 | [],_=>trivial
 | .e x::r,h=>by simp only[lI,Bool.and_eq_true]at h;exact⟨yr h.1,Fy h.2⟩
 | .pt _ xs::r,h=>by simp only[lI,Bool.and_eq_true]at h;exact⟨yr h.1,Fy h.2⟩
theorem Jj {v:Nat}:∀ {xs:List (Bool×List E)},qF xs=true→AR (VD v) xs
 | [],_=>trivial
 |(_,es)::r,h=>by simp only[qF,Bool.and_eq_true]at h;exact⟨Fy h.1,Jj h.2⟩
theorem Br {rs:List (Bool×List E)} (hc:qF rs=true) (k v:Nat):(∀a∈(bd k v rs).1,∀d∈a.2,VD v d)∧∀k' e,lk k' (bd k v rs).2=some e→K4 (VD v) e:=
 xL (v0:=v) (fun _ _ h=>h) (fun _ _ _ h=>h) (Nat.le_refl _) (Jj hc)
def KZ:D→Bool
 | .sl _=>false
 | .pe _ _=>false
 | .px _ _ _ _=>false
 | .sa _ _ _ _ _=>false
 |_=>true
def Kn:List E0→Bool
 | []=>true
 | .p d::r=>KZ d && Kn r
 | .o dp t xs::r=>(dp||flat xs) && Kn r
def KJ:List E→Bool
 | []=>true
 | .e x::r=>Kn [x] && KJ r
 | .pt _ xs::r=>Kn xs && KJ r
def C1:List (Bool×List E)→Bool
 | []=>true
 |(_,es)::r=>KJ es && C1 r
theorem G1:∀ {xs:List E0},Kn xs=true→Oh (fun d=>KZ d=true) xs
 | [],_=>trivial
 | .p d::r,h=>by simp only[Kn,Bool.and_eq_true]at h;exact⟨h.1,G1 h.2⟩
 | .o _ _ _::r,h=>by simp only[Kn,Bool.and_eq_true]at h;exact G1 (xs:=r) h.2
theorem Ir:∀ {xs:List E},KJ xs=true→AE (fun d=>KZ d=true) xs
 | [],_=>trivial
 | .e x::r,h=>by simp only[KJ,Bool.and_eq_true]at h;exact⟨G1 h.1,Ir h.2⟩
 | .pt _ xs::r,h=>by simp only[KJ,Bool.and_eq_true]at h;exact⟨G1 h.1,Ir h.2⟩
theorem MN:∀ {xs:List (Bool×List E)},C1 xs=true→AR (fun d=>KZ d=true) xs
 | [],_=>trivial
 |(_,es)::r,h=>by simp only[C1,Bool.and_eq_true]at h;exact⟨Ir h.1,MN h.2⟩
def Lf:En→Prop
 | .sl _ _ dp _ xs=>dp=true∨flat xs=true
 | .pt _ _ _=>True
theorem wW:∀ {xs:List E0} {k v:Nat},Kn xs=true→∀k' e,lk k' (aW k v xs).2=some e→Lf e
 | [],k,v,_=>by simp[aW,lk]
 | .p d::r,k,v,hs=>by simp only[Kn,Bool.and_eq_true]at hs;simp only[aW];exact wW hs.2
 | .o dp t xs::r,k,v,hs=>by
   simp only[Kn,Bool.and_eq_true]at hs
   simp only[aW]
   intro k' e hl
   rw[ay]at hl
   split at hl
   ·simp at hl;subst hl;simpa[Lf]using hs.1
   ·exact wW hs.2 k' e hl
theorem Bi:∀ {es:List E} {k v:Nat},KJ es=true→∀k' e,lk k' (aQ k v es).2=some e→Lf e
 | [],k,v,_=>by simp[aQ,lk]
 | .e x::r,k,v,hs=>by
   simp only[KJ,Bool.and_eq_true]at hs
   rw[iS]
   intro k' e hl
   rcases eE hl with hl|hl
   ·exact wW hs.1 k' e hl
   ·exact Bi hs.2 k' e hl
 | .pt ty xs::r,k,v,hs=>by
   simp only[KJ,Bool.and_eq_true]at hs
   simp only[aQ]
   intro k' e hl
   rw[ay]at hl
   split at hl
   ·simp at hl;subst hl;trivial
   ·rcases eE hl with hl|hl
    ·exact wW hs.1 k' e hl
    ·exact Bi hs.2 k' e hl
theorem GQ:∀ {rs:List (Bool×List E)} {k v:Nat},C1 rs=true→∀k' e,lk k' (bd k v rs).2=some e→Lf e
 | [],k,v,_=>by simp[bd,lk]
 |(g,es)::r,k,v,hs=>by
  simp only[C1,Bool.and_eq_true]at hs
  simp only[bd]
  intro k' e hl
  rcases eE hl with hl|hl
  ·exact Bi hs.1 k' e hl
  ·exact GQ hs.2 k' e hl
theorem iM:∀ {xs:List E0} {k v k':Nat} {e:En},lk k' (aW k v xs).2=some e→v≤e.nZ∧k≤k'∧k' < k+xs.length
 | [],_,_,_,_,hl=>by simp[aW,lk]at hl
 | .p d::r,k,v,k',e,hl=>by simp only[aW]at hl;have:=iM hl;simp only[List.length_cons];omega
 | .o dp t xs::r,k,v,k',e,hl=>by
   simp only[aW,ay]at hl
   simp only[List.length_cons]
   split at hl
   ·simp at hl;subst hl;simp only[En.nZ];omega
   ·have:=iM hl;omega
theorem ka:∀ {es:List E} {k v k':Nat} {e:En},lk k' (aQ k v es).2=some e→v≤e.nZ∧k≤k'∧k' < k+cA es
 | [],_,_,_,_,hl=>by simp[aQ,lk]at hl
 | .e x::r,k,v,k',e,hl=>by
   rw[iS]at hl
   simp only[cA]
   rcases eE hl with hl|hl
   ·have:=iM hl;simp only[List.length_cons,List.length_nil]at this;omega
   ·have:=ka hl;omega
 | .pt ty xs::r,k,v,k',e,hl=>by
   simp only[aQ,ay]at hl
   simp only[cA]
   split at hl
   ·simp at hl;subst hl;simp only[En.nZ];omega
   ·rcases eE hl with hl|hl
    ·have:=iM hl;omega
    ·have:=ka hl;omega
theorem oH:∀ {rs:List (Bool×List E)} {k v k':Nat} {e:En},lk k' (bd k v rs).2=some e→v≤e.nZ∧k≤k'∧k' < k+cT rs
 | [],_,_,_,_,hl=>by simp[bd,lk]at hl
 |(g,es)::r,k,v,k',e,hl=>by
  simp only[bd]at hl
  simp only[cT]
  rcases eE hl with hl|hl
  ·have:=ka hl;omega
  ·have:=oH hl;omega
theorem yQ (rs:List (Bool×List E)) (ps:List E):cT (rs++ [(true,ps)])=cT rs+cA ps:=by
 induction rs with
 |nil=>simp[cT]
 |cons a r ih=>obtain⟨g,es⟩:=a;simp only[List.cons_append,cT,ih];omega
theorem jQ (rs:List (Bool×List E)) (ps:List E):∀k v,bd k v (rs++ [(true,ps)])=((bd k v rs).1++ [(true,(aQ (k+cT rs) (v+cT rs) ps).1)],(bd k v rs).2++(aQ (k+cT rs) (v+cT rs) ps).2):=by
 induction rs with
 |nil=>intro k v;simp[bd,cT]
 |cons a r ih=>
  intro k v
  obtain⟨g,es⟩:=a
  simp only[List.cons_append,bd,ih,cT,List.append_assoc,Prod.mk.injEq,List.cons.injEq,true_and]
  rw[show k+cA es+cT r=k+(cA es+cT r)by omega,show v+cA es+cT r=v+(cA es+cT r)by omega]
  exact⟨rfl,rfl⟩
section
variable {Γ Γ':Cx} {γ γ':Gh} {f f':UT} {st st':St} {mf mf':Fr} {h h':H}
theorem RD.QK {d:D} {c:C} {S:List Nat} (hr:RD h d c S) (hn:KZ d=true):S= []:=by
 cases d <;>simp[KZ]at hn <;>simp only[RD]at hr <;>exact hr.2
theorem ah.snoc {α β:Type} {R:α→β→Prop}:∀ {xs:List α} {ys:List β} {x:α} {y:β},ah R (xs++ [x]) (ys++ [y])→ah R xs ys∧R x y
 | [],[],_,_,h=>⟨trivial,h.1⟩
 | [],_::ys,_,_,h=>by cases ys <;>exact h.2.elim
 |_::xs,[],_,_,h=>by cases xs <;>exact h.2.elim
 |_::xs,_::ys,_,_,h=>⟨⟨h.1,(ah.snoc h.2).1⟩,(ah.snoc h.2).2⟩
theorem UR.eB (hr:aB Γ γ f st mf h) {d:Nat} {v:V} {u:U} (hu:UR Γ γ st h v u):aB Γ γ (sn f d u) st (eB mf d v) h:=by
 cases d with
 |zero=>exact hr
 |succ d=>exact hr.set hu
theorem Gd {css:List (Bool×List C)} {ds:List (Bool×List D)} (hc:ah (DG Γ γ st h) css ds):UR Γ γ st h (cW css) (Hb ds):=by
 match css,ds,hc with
 | [],[],_=>exact⟨[],rfl,trivial⟩
 | [(g,cs)],[(g',d)],hc=>
   obtain⟨⟨h1,h2⟩,_⟩:=hc
   simp only at h1
   subst h1
   exact⟨cs,rfl,h2⟩
 |a::b::l,a'::b'::l',hc=>exact⟨a::b::l,rfl,hc⟩
 | [_],_::_::_,hc=>exact hc.2.elim
 |_::_::_,[_],hc=>exact hc.2.elim
theorem ah.mem {α β:Type} {R T:α→β→Prop}:∀ {xs:List α} {ys:List β},(∀x y,y∈ys→R x y→T x y)→ah R xs ys→ah T xs ys
 | [],[],_,_=>trivial
 |_::_,_::_,h,hr=>⟨h _ _ (by simp) hr.1,ah.mem (fun x y hy=>h x y (by simp[hy])) hr.2⟩
theorem aB.Qe (hr:aB Γ γ f st mf h) {ar:Nat→Prop} {rs:List (Bool×List E)} {css:List (Bool×List C)} (d:Nat) (hb:EZ ⟨h,ar,[],[]⟩ h' (dk d) st.nx (rs++ [(true,[])]) (css++ [(true,[])])) (hcl:qF rs=true)
 (hsh:C1 rs=true∨∀i,ar i→PR Γ γ st i):∃γ',aB Γ γ' (m7 f st d rs) (kR st d rs) (eB mf d (cW css)) h'∧Mo Γ γ st h γ' (kR st d rs) h':=by
 obtain⟨γb,hB,hc⟩:=hb
 rw[jQ,yQ]at hB hc
 simp only[aQ,List.append_nil,cA,Nat.add_zero]at hB hc
 have hc:=(ah.snoc hc).1
 obtain⟨v1,v2⟩:=Br hcl (dk d) st.nx
 have n1:=fun hs:C1 rs=true=>xL (P:=fun d=>KZ d=true) (v0:=st.nx) (fun _ _ _=>rfl) (fun _ _ _ _=>rfl) (k:=dk d) (Nat.le_refl _) (MN hs)
 have n2:=fun hs:C1 rs=true=>GQ (k:=dk d) (v:=st.nx) hs
 let L:=(bd (dk d) st.nx rs).2
 let sb:St:=⟨st.nx+cT rs,L⟩
 let γ':Gh:=⟨fun k=>if(lk k L).isSome then γb.c k else γ.c k,fun k=>if(lk k L).isSome then γb.w k else γ.w k,fun k=>if(lk k L).isSome then γb.u k else γ.u k⟩
 have hN:∀k e,lk k L=some e→γ'.c k=γb.c k∧γ'.w k=γb.w k∧γ'.u k=γb.u k:=fun k e hl=>by simp[γ',hl]
 have hNn:∀k,lk k L=none→γ'.c k=γ.c k∧γ'.w k=γ.w k∧γ'.u k=γ.u k:=fun k hl=>by simp[γ',hl]
 have hlkS:∀k,lk k (kR st d rs).es=(match lk k L with|some e=>some e|none=>lk k st.es):=fun k=>bO k L st.es
 have hge:∀k e,lk k L=some e→∀i∈γb.w k++γb.u k,h.length≤i:=fun k e hl i hi=>by
  rcases(hB.nd k e hl).2 i hi with h1|h1
  ·cases h1
  ·exact h1
 have hPR:∀i,PR ⟨h,ar,[],[]⟩ γb sb i→(h.length≤i∨PR Γ γ st i)→PR Γ γ' (kR st d rs) i:=by
  intro i hp hi
  refine⟨?_,fun k e hl=> ?_⟩
  ·rcases hi with hi|hi
   ·exact .inr (.inl (Nat.le_trans hr.len hi))
   ·exact hi.1
  ·rw[hlkS]at hl
   cases hx:lk k L with
   |some e'=>rw[(hN k e' hx).2.1];exact hp.2 k e' hx
   |none=>
    rw[hx]at hl
    rw[(hNn k hx).2.1]
    rcases hi with hi|hi
    ·exact fun hw=>by have:=hr.blt hl i (by simp[hw]);omega
    ·exact hi.2 k e hl
 have hok:∀ {i:Nat},PR ⟨h,ar,[],[]⟩ γb sb i→(C1 rs=true→h.length≤i)→PR Γ γ' (kR st d rs) i:=by
  intro i hp hn
  refine hPR i hp ?_
  rcases hsh with hsh|hsh
  ·exact .inl (hn hsh)
  ·rcases hp.1 with h1|h1|h1
   ·exact .inr (hsh i h1)
   ·exact .inl h1
   ·cases h1
 have hRD:∀ {c:C} {d0:D},(∃S,RD h' d0 c S∧∀i∈S,PR ⟨h,ar,[],[]⟩ γb sb i)→(C1 rs=true→KZ d0=true)→∃S,RD h' d0 c S∧∀i∈S,PR Γ γ' (kR st d rs) i:=by
  rintro c d0 ⟨S,h1,h2⟩ hn
  refine⟨S,h1,fun i hi=>hok (h2 i hi) fun hs=> ?_⟩
  rw[h1.QK (hn hs)]at hi
  cases hi
 have hDC:∀ {c:C} {d0:D},DC ⟨h,ar,[],[]⟩ γb sb h' c d0→(C1 rs=true→KZ d0=true)→VD st.nx d0→DC Γ γ' (kR st d rs) h' c d0:=by
  intro c d0 hd hn hvd
  cases d0
  case ow k v=>
   refine⟨hd.1,fun o dp t xs hl=> ?_⟩
   rw[hlkS]at hl
   cases hx:lk k L with
   |some e'=>
    rw[hx]at hl
    simp only[Option.some.injEq]at hl
    rw[(hN k e' hx).1]
    exact hd.2 o dp t xs (by show lk k L=_;rw[hx,hl])
   |none=>
    rw[hx]at hl
    have h1:=(hr.en k _ hl).nZ
    have h2:st.nx≤v:=hvd
    simp only[En.nZ]at h1
    omega
  case pt k v o=>
   refine⟨hd.1,fun ty ds hl=> ?_⟩
   rw[hlkS]at hl
   cases hx:lk k L with
   |some e'=>
    rw[hx]at hl
    simp only[Option.some.injEq]at hl
    rw[(hN k e' hx).1]
    exact hd.2 ty ds (by show lk k L=_;rw[hx,hl])
   |none=>
    rw[hx]at hl
    have h1:=(hr.en k _ hl).nZ
    have h2:st.nx≤v:=hvd
    simp only[En.nZ]at h1
    omega
  case pe x o=>exact hvd.elim
  case px k v j o=>exact hvd.elim
  case sa k v o n e=>exact hvd.elim
  all_goals exact hRD hd hn
 have hmain:aB Γ γ' f (kR st d rs) mf h'∧Mo Γ γ st h γ' (kR st d rs) h':=by
  refine hr.ND (N:=fun k=>∃e,lk k L=some e) (γ':=γ') (st':=kR st d rs) (h':=h') (Nat.le_add_right _ _) (fun k hn=> ?_) (fun k e hn hl=> ?_) (fun i hi _=> ?_) (fun k e hn hl i hi hlt=> ?_) (fun k e _ hl i hi=> ?_)
   (fun k e hn hl=> ?_) (fun k e k' e' hn hne hl hl' i hi=> ?_) hB.len (fun i hi hn=> ?_) (fun hm k e hn hl=> ?_) (fun i cs hi=>(if hlt:i < h.length then(by rw[hB.base i hlt (by simp)];exact hr.own i cs hi)else hB.own i cs (.inr (Nat.le_of_not_lt hlt))))
  ·have hx:lk k L=none:=by
    cases hx:lk k L with
    |none=>rfl
    |some e=>exact absurd ⟨e,hx⟩ hn
   exact⟨by rw[hlkS,hx],hNn k hx⟩
  ·obtain⟨e',he'⟩:=hn
   rw[hlkS,he']at hl
   simp only[Option.some.injEq]at hl
   subst hl
   exact .inl (oH he').1
  ·unfold H.cells
   rw[hB.base i hi (by simp)]
  ·obtain⟨e',he'⟩:=hn
   rw[(hN k e' he').2.1]at hi
   have:=hge k e' he' i (by simp[hi])
   omega
  ·exact hB.base i (hr.blt hl i (by simp[hi])) (by simp)
  ·obtain⟨e',he'⟩:=hn
   rw[(hN k e' he').2.1,(hN k e' he').2.2]
   exact⟨(hB.nd k e' he').1,fun i hi=> .inr (Nat.le_trans hr.len (hge k e' he' i hi))⟩
  ·obtain⟨e0,he0⟩:=hn
   rw[(hN k e0 he0).2.1,(hN k e0 he0).2.2]at hi
   rw[hlkS]at hl'
   cases hx:lk k' L with
   |some e1=>
    rw[(hN k' e1 hx).2.1,(hN k' e1 hx).2.2]
    exact hB.dj k k' e0 e1 (fun e=>hne e.symm) he0 hx i hi
   |none=>
    rw[hx]at hl'
    rw[(hNn k' hx).2.1,(hNn k' hx).2.2]
    have h1:=hge k e0 he0 i hi
    exact fun h2=>by have:=hr.blt hl' i h2;omega
  ·have h1:i < h.length:=Nat.lt_of_lt_of_le hi hr.len
   exact hB.base i h1 (by simp)
  ·obtain⟨e',he'⟩:=hn
   rw[hlkS,he']at hl
   simp only[Option.some.injEq]at hl
   subst hl
   have he:=hB.en k e' he'
   obtain⟨g1,g2,g3⟩:=hN k e' he'
   match e',he' with
   | .sl v true dp t xs,he'=>
     obtain⟨hv,he⟩:=he
     refine⟨hv,?_⟩
     rw[g1,g2,g3]
     rcases he with he|⟨id,ty,ez,bs,S,k1,k2,k3,k4,k5,k6,k7,k8⟩
     ·exact .inl he
     ·refine .inr ⟨id,ty,ez,bs,S,k1,k2,k3,k4,k5,k6,fun i hi=>hok (k7 i hi) fun hs=> ?_,k8⟩
      rcases n2 hs k _ he' with hdp|hfl
      ·rw[if_pos hdp]at k8
       exact hge k _ he' i (by rw[k8];simp[hi])
      ·rw[k6.y0 hfl]at hi;cases hi
   | .sl v false dp t xs,he'=>
     exfalso
     have:∀ {rs:List (Bool×List E)} {k v k' w:Nat} {dp t xs},lk k' (bd k v rs).2≠some (.sl w false dp t xs):=by
      have h0:∀ {xs:List E0} {k v k' w:Nat} {dp t ys},lk k' (aW k v xs).2≠some (.sl w false dp t ys):=by
       intro xs
       induction xs with
       |nil=>intro k v k' w dp t ys hl;simp[aW,lk]at hl
       |cons x r ih=>
        intro k v k' w dp t ys hl
        cases x with
        |p d=>simp only[aW]at hl;exact ih hl
        |o dp' t' xs'=>
         simp only[aW,ay]at hl
         split at hl
         ·simp at hl
         ·exact ih hl
      have h1:∀ {es:List E} {k v k' w:Nat} {dp t ys},lk k' (aQ k v es).2≠some (.sl w false dp t ys):=by
       intro es
       induction es with
       |nil=>intro k v k' w dp t ys hl;simp[aQ,lk]at hl
       |cons x r ih=>
        intro k v k' w dp t ys hl
        cases x with
        |e x=>
         rw[iS]at hl
         rcases eE hl with hl|hl
         ·exact h0 hl
         ·exact ih hl
        |pt ty xs'=>
         simp only[aQ,ay]at hl
         split at hl
         ·simp at hl
         ·rcases eE hl with hl|hl
          ·exact h0 hl
          ·exact ih hl
      intro rs
      induction rs with
      |nil=>intro k v k' w dp t ys hl;simp[bd,lk]at hl
      |cons x r ih=>
       intro k v k' w dp t ys hl
       obtain⟨g,es⟩:=x
       simp only[bd]at hl
       rcases eE hl with hl|hl
       ·exact h1 hl
       ·exact ih hl
     exact this he'
   | .pt v ty ds,he'=>
     obtain⟨hv,k1,id,bs,k2,k3,k4,k5⟩:=he
     refine⟨hv,by rw[g3,k1],id,bs,by rw[g1,k2],by rw[g2,k3],k4,?_⟩
     exact ah.mem (fun c d0 hd0 hd=>hDC hd (fun hs=>(n1 hs).2 k _ he' d0 hd0) (v2 k _ he' d0 hd0)) k5
 obtain⟨r1,r2⟩:=hmain
 refine⟨γ',?_,r2⟩
 refine UR.eB r1 (Gd ?_)
 refine ah.mem (fun a b hb ⟨k1,k2⟩=>⟨k1,?_⟩) hc
 exact ah.mem (fun c d0 hd0 hd=>hDC hd (fun hs=>(n1 hs).1 b hb d0 hd0) (v1 b hb d0 hd0)) k2
end
end Go.Eng
