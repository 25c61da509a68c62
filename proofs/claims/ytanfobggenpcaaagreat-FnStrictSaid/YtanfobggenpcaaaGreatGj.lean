import Derived.Test.YtanfobggenpcaaaGreatGb
import Derived.Test.YtanfobggenpcaaaGreatGg
import Derived.Test.YtanfobggenpcaaaGreatGi
set_option maxRecDepth 100000
set_option linter.unusedSimpArgs false
set_option linter.unusedVariables false
namespace Go.Eng.F
end Go.Eng.F
namespace Go.Eng.F
def xD:Nat→Bytes→List (Bool×List E)
 |0,x=> [(false,[.p (.sl (bytes x))])]
 |_+1,x=> [(false,[.o true (some (5,1)) (bytes x)])]
theorem sC (f:Nat) (x:Bytes):cq (xD f x)=1:=by cases f <;>rfl
theorem Kz (x:Bytes) (j:Nat) (y z:Int):(bytes x).set j [.int .u8 (aH .xor .u8 y z)]=bytes (x.set j (b8 ((BitVec.ofInt IntKind.u8.bits y ^^^ BitVec.ofInt IntKind.u8.bits z).toNat:Int))):=gk x j _
abbrev oX:Nat:=136
def po:AF:=⟨2,6,[.tmp 4],(.seq (.ops [.i (.mov 4 (.c (.val false [.nils])))]) (.seq (.ops [qm 7 1,qk 9 143 7,qm 5 8]) (.seq (.seq (.ops [qm 9 5,qn 10 9, .i (.bin 11 .eql (.s 10) (qi 0))]) (.cond (.s 11) (.seq (.ops [qm 12 0, .i (.call 14 138 false [(.s 12),(qi 3)]),qm 4 13]) .ret) .skip)) (.seq (.seq (.ops [qm 14 0, .i (.call 16 97 false [(.s 14),(qi 6)])]) (.block 0 (.seq (.ops [.i (.bin 17 .eql (.s 15) (qi 0)),qm 16 17]) (.cond (.s 16) (.seq (.ops [qm 18 5,qm 19 0,qm 20 5,qn 21 20, .i (.call 23 97 false [(.s 19),(.s 21)]), .i (.fq 23 1 (.s 18) none (some (.s 22))),qm 4 23]) .ret) (.seq (.ops [.i (.bin 25 .eql (.s 15) (qi 1)),qm 24 25]) (.cond (.s 24) (.ops [qm 26 5,qm 27 0,qm 28 5,qn 29 28, .i (.call 31 97 false [(.s 27),(.s 29)]),qm 31 0,qk 33 162 31, .i (.cvi 33 .u8 (.s 32)), .i (.iad 34 (.s 26) (.s 30) 1), .i (.sth (.s 34) (.s 33) 1)]) (.seq (.ops [.i (.bin 36 .eql (.s 15) (qi 2)),qm 35 36]) (.cond (.s 35) (.seq (.ops [qm 37 0,qm 38 5,qn 39 38, .i (.call 41 97 false [(.s 37),(.s 39)]),qm 6 40]) (.ops [qm 41 5,qm 42 6,qm 43 5,qm 44 6, .i (.iad 45 (.s 43) (.s 44) 1), .i (.lde 46 (.s 45) 1 false 5),qm 47 0, .i (.cle 49 97 5 [(.s 47),(qi 8)]), .i (.bin 49 .shl (.c (.val false [.int .u8 1])) (.s 48)),qd 50 .xor 46 49, .i (.iad 51 (.s 41) (.s 42) 1), .i (.sth (.s 51) (.s 50) 1)])) (.seq (.ops [.i (.bin 53 .eql (.s 15) (qi 3)),qm 52 53]) (.cond (.s 52) (.seq (.ops [qm 54 5,qm 55 0,qk 57 162 55, .i (.cvi 57 .u8 (.s 56)), .i (.lsl 58 1 1 [.int .u8 0] [(0,1,(.s 57))]), .i (.app 59 5 1 1 (.s 54) (.s 58)),qm 4 59]) .ret) .skip)))))))))) (.seq (.ops [qm 60 5,qm 4 60]) .ret)))))⟩
theorem BP:cd oX=some po:=by kernel_rfl
theorem vg (b:Bytes) (i:Nat) (h:Int) (s:Bytes) (hs:s.length≤1073741824) (hi:i≤b.length) (hb:b.length≤1073741824):VC cd oX (ji [] 133 (cur b i h) [(false,[.sl (bytes s)])]) (fun r p=>∃x:(Nat×Bytes)×Nat×Int,(x.1.2.length≤s.length+3∧x.2.1≤b.length)∧r=xD x.1.1 x.1.2∧p= [.pt 133 (cur b x.2.1 x.2.2)]):=by
 refine ay BP rfl ?_
 simp(disch:=omega) [po,cur,VZ]
 refine ao (cc s (by omega)) ?_
 simp(disch:=omega) [aj,VZ]
 by_cases h0:s= []
 case pos=>
  subst h0
  simp(disch:=omega) [VZ]
  refine dD (gG b i h 3 (by omega) hi hb) ?_
  rintro⟨x1,i1,h1⟩ ⟨g1,j1⟩
  simp only at g1 j1
  simp(disch:=omega) [cur,VZ]
  exact⟨1,x1,i1,⟨by simpa using g1,j1⟩,rfl,rfl⟩
 have hp:=List.length_pos_iff.2 h0
 simp(disch:=omega) [h0,VZ]
 refine dD (aw b i h 6 (by omega) hi hb) ?_
 rintro⟨k1,i1,h1⟩ ⟨g1,j1⟩
 simp only at g1 j1
 have hk:k1=0∨k1=1∨k1=2∨k1=3∨k1=4∨k1=5:=by omega
 rcases hk with rfl|rfl|rfl|rfl|rfl|rfl
 ·simp(disch:=omega) [cur,aj,VZ]
  refine dD (aw b i1 h1 s.length (by omega) j1 hb) ?_
  rintro⟨k2,i2,h2⟩ ⟨g2,j2⟩
  simp only at g2 j2
  have hk2:k2 < s.length:=by omega
  have et:List.take k2 (bytes s)=bytes (s.take k2):=by simp[bytes]
  simp(disch:=omega) [cur,aj,show k2≤s.length by omega,et,VZ]
  exact⟨0,s.take k2,i2,⟨by rw[List.length_take];omega,j2⟩,rfl,rfl⟩
 ·simp(disch:=omega) [cur,aj,VZ]
  refine dD (aw b i1 h1 s.length (by omega) j1 hb) ?_
  rintro⟨k2,i2,h2⟩ ⟨g2,j2⟩
  simp only at g2 j2
  have hk2:k2 < s.length:=by omega
  simp(disch:=omega) [cur,aj,VZ]
  refine dD (dV b i2 h2 j2 hb) ?_
  rintro⟨k3,i3,h3⟩ ⟨g3,j3⟩
  simp only at g3 j3
  simp(disch:=omega) [cur,aj,cf hk2,gk,VZ]
  exact⟨1,_,i3,⟨by simp,j3⟩,rfl,rfl⟩
 ·simp(disch:=omega) [cur,aj,VZ]
  refine dD (aw b i1 h1 s.length (by omega) j1 hb) ?_
  rintro⟨k2,i2,h2⟩ ⟨g2,j2⟩
  simp only at g2 j2
  have hk2:k2 < s.length:=by omega
  simp(disch:=omega) [cur,aj,cf hk2,VZ]
  simp(disch:=omega) [cf hk2,P0,Ot,PC,VZ]
  refine Sq (aw b i2 h2 8 (by omega) j2 hb) ?_
  rintro⟨k4,i4,h4⟩ ⟨g4,j4⟩
  simp only at g4 j4
  have n4:¬(k4:Int) < 0:=by omega
  simp(disch:=omega) [cur,aj,cf hk2,n4,Kz,VZ]
  exact⟨1,_,i4,⟨by simp,j4⟩,rfl,rfl⟩
 ·simp(disch:=omega) [cur,aj,VZ]
  refine dD (dV b i1 h1 j1 hb) ?_
  rintro⟨k3,i3,h3⟩ ⟨g3,j3⟩
  simp only at g3 j3
  simp(disch:=omega) [cur,aj,Kb,VZ]
  exact⟨1,_,i3,⟨by simp,j3⟩,rfl,rfl⟩
 ·simp(disch:=omega) [cur,VZ]
  exact⟨1,s,i1,⟨by simp,j1⟩,rfl,rfl⟩
 ·simp(disch:=omega) [cur,VZ]
  exact⟨1,s,i1,⟨by simp,j1⟩,rfl,rfl⟩
end Go.Eng.F
namespace Go.Eng.F
end Go.Eng.F
namespace Go.Eng.F
end Go.Eng.F
namespace Go.Eng.F
theorem law_code {n:Nat} (hc:∀b:Bytes,VC cd n (aE [(false,[.sl (bytes b)])]) (fun rs _=>rs=bl true)):∀h vs,Gy h [.sl (.int .u8)] vs→WC cd n vs h (fun r _=>r= .val false [.bool true]):=by
 intro h vs ha
 obtain⟨cs,v,S,r,rfl,hv,hr⟩:=ha
 obtain⟨x,rfl⟩:=gS hv.ok
 have e:Kl [(.sl (.int .u8),Dg x)]= [(false,[.sl (bytes x)])]:=by simp only[Kl,List.map,gU,Ty.agg]
 have hc:=hc x
 rw[←e]at hc
 have ha:mj h [(.sl (.int .u8),Dg x)] ((Ty.agg (.sl (.int .u8)),cs)::r):=⟨cs,r,rfl,⟨S,hv⟩,hr⟩
 refine(hc.wc ha (ts:= [(.bool, .b true)]) fun rs q=>by rw[q];exact RB true).mono ?_
 rintro r' h' ⟨t,css,S',rfl,rfl,hres,_⟩
 obtain⟨cs',cr,S1,S2,rfl,rfl,h1,h2⟩:=hres
 obtain⟨rfl,rfl⟩:=h2
 obtain⟨b,rfl,e2,_⟩:=h1.bool
 simp only[Tv.b.injEq]at e2
 subst e2
 rfl
end Go.Eng.F
namespace Go.Eng.F
end Go.Eng.F
namespace Go.Eng.F
theorem NP.wf {v:bB} (s:NP v):v.wf:=by
 have h1:=s.block
 have h2:=s.tag
 exact⟨dr s.view,dr s.height,by unfold Sz;omega,dr s.who,by unfold Sz;omega⟩
theorem sK {l:ah} {h:Head} (w:bp l h=true):h.wc:=by
 obtain⟨w1,w2,w3,w4,w5,w6,w7,w8,w9⟩:=KZ w
 have q:=(im w8).wc
 exact⟨⟨dr w1,dr w2,dr w3,by unfold Sz;omega,by unfold Sz;omega,q.1⟩,q.2⟩
theorem Jp {l:ah} {x:Block} (h:bg l x=true):x.wx:=by
 obtain⟨w1,w2,w3,w4,w5⟩:=I4 h
 have hL:=fC w2
 have h1:=hL.2.1
 have h2:=hL.2.2.1
 exact⟨⟨sK w1,⟨by unfold Sz;omega,fun y hy=>by have:=w4 y hy;unfold Sz;omega⟩⟩,fun t ht=>by have:=w4 t ht;omega⟩
theorem Oq {l:ah} {t:Tc} (h:fS l t=true):t.wf:=by
 obtain⟨w1,w2,w3,w4⟩:=NI h
 have hL:=fC w1
 have h1:=hL.1
 refine⟨dr w2,by unfold Sz;omega,fun r hr=> ?_⟩
 obtain⟨i,hi,rfl⟩:=List.getElem_of_mem hr
 obtain⟨a1,a2,a3,_⟩:=ym _ _ w4 i _ (List.getElem?_eq_getElem hi)
 have hv:=dG w2
 exact⟨⟨by omega,by omega⟩,⟨by omega,by omega⟩,by unfold Sz;omega⟩
theorem Js {l:ah} {p:Proof} (h:b9 l p=true):p.wc:=by
 obtain⟨w1,w2,w3,w4,w5⟩:=IM h
 have hL:=fC w1
 have h1:=hL.2.2.2
 have q:=(im w4).wc
 exact⟨⟨⟨by unfold Sz;omega,fun x hx=>(sK (w3 x hx)).1⟩,q.1⟩,fun x hx=>sK (w3 x hx),q⟩
theorem Ew {l:ah} {x:aU} (h:dM l x=true):x.wc∧x.tx.length≤100000000:=by
 obtain⟨w1,w2,w3,w4,w5,w6,w7⟩:=KR h
 have hL:=fC w1
 have h1:=hL.2.1
 have h2:=hL.2.2.1
 have h6:=cB x.n.toNat x.idx.toNat
 exact⟨⟨dr w2,⟨by omega,by omega⟩,⟨by omega,by omega⟩,by unfold Sz;omega,⟨by unfold Sz;omega,fun y hy=>by have:=w7 y hy;unfold Sz;omega⟩⟩,by omega⟩
theorem My {l:ah} {m:aJ} (h:aV l m=true):m.wc:=by
 have hp:=lX h
 rw[IK h]
 rcases gH hp with e|e|e|e|e|e|e
 ·obtain⟨p1,_,p3,_⟩:=MP (l:=l) e
  rw[p1]at hp;rw[p3]
  exact {dW with kind:=⟨by simp only;omega,by simp only;omega⟩,vote:=(AA hp).wf}
 ·obtain⟨p1,_,p3,_⟩:=Ld (l:=l) e
  rw[p1]at hp;rw[p3]
  exact {dW with kind:=⟨by simp only;omega,by simp only;omega⟩,qc:=(im hp).wc}
 ·obtain⟨p1,_,p3,_⟩:=MC (l:=l) e
  rw[p1]at hp;rw[p3]
  exact {dW with kind:=⟨by simp only;omega,by simp only;omega⟩,head:=sK hp}
 ·obtain⟨p1,_,p3,_⟩:=Md (l:=l) e
  rw[p1]at hp;rw[p3]
  exact {dW with kind:=⟨by simp only;omega,by simp only;omega⟩,block:=Jp hp}
 ·obtain⟨p1,_,p3,_⟩:=L4 (l:=l) e
  rw[p1]at hp;rw[p3]
  exact {dW with kind:=⟨by simp only;omega,by simp only;omega⟩,tc:=Oq hp}
 ·obtain⟨p1,_,p3,_⟩:=Lr (l:=l) e
  rw[p1]at hp;rw[p3]
  exact {dW with kind:=⟨by simp only;omega,by simp only;omega⟩,proof:=Js hp}
 ·obtain⟨p1,_,p3,_⟩:=Lh (l:=l) e
  rw[p1]at hp;rw[p3]
  exact {dW with kind:=⟨by simp only;omega,by simp only;omega⟩,incl:=(Ew hp).1,tx:=(Ew hp).2}
structure Ev.P5 (l:ah) (k:Nat) (e:Ev):Prop where
 kind:e.kind=1∨e.kind=2∨e.kind=3
 n:e.kind=1→0≤e.n∧e.n≤k
 msg:e.kind=3→aV l e.msg=true
 wc:e.msg.wc
theorem Ev.P5.up {l:ah} {k k':Nat} {e:Ev} (h:e.P5 l k) (hk:k≤k'):e.P5 l k':= {h with n:=fun x=>by have:=h.n x;omega}
end Go.Eng.F
namespace Go.Eng.F
theorem Ag (l:ah) (m:aJ) (hw:m.wc):VC cd jS (aE [(true,l.c),(true,m.c)]) (fun rs _=>rs= [(false,[.o true (some (5,1)) (bytes (KU l m))]),(false,[.p (.bool (aV l m))])]):=by
 refine VC.xb ((Ch l m hw).mono fun rs ps h=> ?_)
 subst h
 refine⟨_,?_,rfl⟩
 by_cases h:aV l m=true
 ·rw[bQ h];simp[KU,h,a9,bk,bz]
 ·have h':aV l m=false:=by simpa using h
  rw[c4 h'];simp[KU,h',a9,bk,bz,ag]
def fr (l:ah) (b:Bytes):Bytes:=if OM l b=true then QB b else []
end Go.Eng.F
namespace Go.Eng.F
abbrev m7:Nat:=56
def oj:AF:=⟨2,6,[.tmp 4],(.seq (.ops [.i (.lbox 3 (.s 1)), .i (.mov 4 (.c (.val false [.nils])))]) (.seq (.ops [qm 8 0,qk 10 88 8,qm 5 9]) (.seq (.ops [ql 11 3 3 5 true,qm 12 5,ql 13 3 3 5 true, .i (.call 15 134 false [(.s 12),(.s 13)]), .i (.call 16 133 false [(.s 11),(.s 14)]),qm 10 15, .i (.ext 16 (.s 10) 0), .i (.ext 17 (.s 10) 1),qm 6 16,qm 7 17]) (.seq (.seq (.ops [qm 18 6,qn 19 18, .i (.bin 20 .gtr (.s 19) (qi 8)),qm 21 20, .g 21 true 23 (.mov 22 (.s 5)), .g 21 true 24 (.call 24 135 false [(.s 22),(qi 2)]), .i (.pick 24 (.s 21) (.s 23) (qb false))]) (.cond (.s 24) (.ops [qm 25 6,qm 26 5, .i (.call 28 97 false [(.s 26),(qi 8)]),qm 28 5, .i (.call 30 97 false [(.s 28),(qi 14)]), .i (.cvi 30 .u8 (.s 29)), .i (.iad 31 (.s 25) (.s 27) 1), .i (.sth (.s 31) (.s 30) 1)]) .skip)) (.seq (.ops [qm 32 5,qm 33 6, .i (.call 35 136 false [(.s 32),(.s 33)]),qm 4 34]) .ret)))))⟩
theorem zJ:cd m7=some oj:=by kernel_rfl
theorem H6 (b:Bytes) (l:ah) (hl:l.ok=true) (hb:b.length≤1073741824):VC cd m7 (aE [(false,[.sl (bytes b)]),(true,l.c)]) (fun r _=>∃x:Nat×Bytes,x.2.length≤20004∧r=xD x.1 x.2):=by
 have hL:=fC hl
 refine aa zJ rfl ?_
 simp(disch:=omega) [oj,ah.c,VY]
 refine R3 (EL b hb) ?_
 intro h _
 simp(disch:=omega) [cur,Kg,VZ]
 refine dD (Jc b 0 h l hL (Nat.zero_le _) hb) ?_ (n1:=by intro _;simp(disch:=omega) [ah.c,aJ.o,VZ]) (n3:=by intro _;simp(disch:=omega) [ah.c,aJ.o,VZ])
 rintro⟨m,i1,h1⟩ ⟨g1,j1⟩
 simp only at g1 j1
 simp(disch:=omega) [cur,aJ.o,VZ]
 refine ao (Ag l m g1) ?_ (ha:=by first|rfl|(simp[ah.c,aJ.c,VY] <;>repeat' constructor))
 have n1:=Mp l m
 generalize KU l m=x at n1
 simp(disch:=omega) [aj,VZ]
 refine ab (fun h8=> ?_) (fun h8=> ?_)
 rotate_left
 ·have h8':¬8 < x.length:=by omega
  simp(disch:=omega) [cur,aj,h8,h8',VZ]
  refine dD (vg b i1 h1 x (by omega) j1 hb) ?_ (n1:=by intro _;simp(disch:=omega) [sC,VZ]) (n3:=by intro _;simp(disch:=omega) [sC,VZ])
  rintro⟨⟨fl,z⟩,i9,h9⟩ ⟨g9,j9⟩
  simp only at g9 j9
  cases fl
  ·simp(disch:=omega) [cur,xD,VZ]
   exact⟨0,z,by omega,rfl⟩
  ·simp(disch:=omega) [cur,xD,VZ]
   exact⟨1,z,by omega,rfl⟩
 have h8':8 < x.length:=by omega
 simp(disch:=omega) [cur,h8,h8',VZ]
 refine dD (vC b i1 h1 2 (by omega) j1 hb) ?_
 rintro⟨o,i2,h2⟩ j2
 simp only at j2
 cases o
 ·simp(disch:=omega) [cur,aj,h8,h8',VZ]
  refine dD (vg b i2 h2 x (by omega) j2 hb) ?_ (n1:=by intro _;simp(disch:=omega) [sC,VZ]) (n3:=by intro _;simp(disch:=omega) [sC,VZ])
  rintro⟨⟨fl,z⟩,i9,h9⟩ ⟨g9,j9⟩
  simp only at g9 j9
  cases fl
  ·simp(disch:=omega) [cur,xD,VZ]
   exact⟨0,z,by omega,rfl⟩
  ·simp(disch:=omega) [cur,xD,VZ]
   exact⟨1,z,by omega,rfl⟩
 ·simp(disch:=omega) [cur,h8,h8',VZ]
  refine dD (aw b i2 h2 8 (by omega) j2 hb) ?_
  rintro⟨k1,i3,h3⟩ ⟨g3,j3⟩
  simp only at g3 j3
  simp(disch:=omega) [cur,VZ]
  refine dD (aw b i3 h3 14 (by omega) j3 hb) ?_
  rintro⟨k2,i4,h4⟩ ⟨g4,j4⟩
  simp only at g4 j4
  have hk1:k1 < x.length:=by omega
  simp(disch:=omega) [cur,aj,cf hk1,gk,VZ]
  refine dD (vg b i4 h4 (x.set k1 (b8 (k2:Int))) (by simp;omega) j4 hb) ?_ (n1:=by intro _;simp(disch:=omega) [sC,VZ]) (n3:=by intro _;simp(disch:=omega) [sC,VZ])
  rintro⟨⟨fl,z⟩,i9,h9⟩ ⟨g9,j9⟩
  simp only at g9 j9
  cases fl
  ·simp(disch:=omega) [cur,xD,VZ]
   exact⟨0,z,by simp at g9;omega,rfl⟩
  ·simp(disch:=omega) [cur,xD,VZ]
   exact⟨1,z,by simp at g9;omega,rfl⟩
end Go.Eng.F
namespace Go.Eng.F
end Go.Eng.F
namespace Go.Eng.F
def R5:List ByteArray:= [⟨#[111,107]⟩,⟨#[115,104,111,114,116]⟩,⟨#[118,97,114]⟩,⟨#[108,111,110,103]⟩,⟨#[112,97,100]⟩,⟨#[118,97,108,117,101]⟩,⟨#[111,114,100,101,114]⟩,⟨#[114,111,111,116]⟩,⟨#[107,105,110,100]⟩,⟨#[108,101,102,116]⟩]
def Ja (k:Nat):ByteArray:=(R5[k]?).getD ByteArray.empty
abbrev uF:Nat:=57
def uW:AF:=⟨1,3,[.tmp 2],(.seq (.ops [.i (.mov 2 (.c (.val false [.str ByteArray.empty])))]) (.seq (.ops [qm 3 0, .i (.bsl 4 9 1 10 [.str ByteArray.empty] [(0,1,(.c (.val false [.str ⟨#[111,107]⟩]))),(1,1,(.c (.val false [.str ⟨#[115,104,111,114,116]⟩]))),(2,1,(.c (.val false [.str ⟨#[118,97,114]⟩]))),(3,1,(.c (.val false [.str ⟨#[108,111,110,103]⟩]))),(4,1,(.c (.val false [.str ⟨#[112,97,100]⟩]))),(5,1,(.c (.val false [.str ⟨#[118,97,108,117,101]⟩]))),(6,1,(.c (.val false [.str ⟨#[111,114,100,101,114]⟩]))),(7,1,(.c (.val false [.str ⟨#[114,111,111,116]⟩]))),(8,1,(.c (.val false [.str ⟨#[107,105,110,100]⟩]))),(9,1,(.c (.val false [.str ⟨#[108,101,102,116]⟩])))]), .i (.call 6 132 false [(.s 3),(.s 4)]),qm 2 5]) .ret))⟩
theorem Dn:cd uF=some uW:=by kernel_rfl
theorem Ei (k:Nat):VC cd uF (aE [(false,[.int .i64 (k:Int)])]) (fun rs _=>rs= [(false,[.p (.str (Ja k))])]):=by
 refine aa Dn rfl ?_
 simp(disch:=omega) [uW,VY]
 refine ao (ED R5 k (by simp[R5])) ?_
 simp(disch:=omega) [Ja,VY]
theorem Ko {k:Nat} (h:k≤9):¬Ja k=ByteArray.empty:=by
 have ne:∀s:ByteArray,s.size≠0→s≠ByteArray.empty:=fun s h1 h2=>h1 (by rw[h2];rfl)
 have hk:k=0∨k=1∨k=2∨k=3∨k=4∨k=5∨k=6∨k=7∨k=8∨k=9:=by omega
 rcases hk with rfl|rfl|rfl|rfl|rfl|rfl|rfl|rfl|rfl|rfl
 all_goals exact fun e=>absurd e (ne _ (by decide))
abbrev nH:Nat:=7
def nu:AF:=⟨1,6,[.tmp 2],(.seq (.ops [.i (.mov 2 (qb false))]) (.seq (.seq (.ops [qm 9 0,qn 10 9, .i (.bin 11 .gtr (.s 10) (qi 1048576))]) (.cond (.s 11) (.seq (.ops [.i (.mov 2 (qb true))]) .ret) .skip)) (.seq (.ops [qm 12 0,qk 14 14 12, .i (.lal 3 [.int .i64 0, .int .i64 0, .int .i64 0, .int .i64 0, .int .i64 0]),qs 3 3 13 5]) (.seq (.ops [qm 14 0,ql 15 3 3 5 true, .i (.call 17 56 false [(.s 14),(.s 15)]),qm 4 16]) (.seq (.ops [ql 18 3 3 5 true,qm 19 4, .i (.call 21 53 false [(.s 18),(.s 19)]),qm 17 20, .i (.ext 21 (.s 17) 0), .i (.ext 22 (.s 17) 1), .i (.lal 5 [.int .i64 0, .int .i64 0, .int .i64 0, .nils, .int .i64 0, .nils, .int .i64 0, .int .i64 0, .nils, .nils, .nils, .int .i64 0, .int .i64 0, .int .i64 0, .nils, .nils, .int .i64 0, .int .i64 0, .nils, .nils, .nils, .int .i64 0, .int .i64 0, .int .i64 0, .nils, .nils, .int .i64 0, .int .i64 0, .nils, .nils, .nils, .nils, .int .i64 0, .nils, .nils, .int .i64 0, .int .i64 0, .nils, .nils, .nils, .int .i64 0, .int .i64 0, .int .i64 0, .nils, .nils]),qs 5 5 21 45,qm 6 22]) (.seq (.seq (.ops [qm 23 6, .i (.bin 24 .neq (.s 23) (qi 0))]) (.cond (.s 24) (.seq (.ops [qm 25 6, .i (.bin 26 .gtr (.s 25) (qi 0)),qm 27 26, .g 27 true 29 (.mov 28 (.s 6)), .g 27 true 30 (.bin 29 .leq (.s 28) (qi 9)), .i (.pick 30 (.s 27) (.s 29) (qb false)),qm 31 30, .g 31 true 33 (.mov 32 (.s 6)), .g 31 true 34 (.call 34 57 false [(.s 32)]), .g 31 true 35 (.bin 34 .neq (.s 33) (.c (.val false [.str ByteArray.empty]))), .i (.pick 35 (.s 31) (.s 34) (qb false)),qm 36 35, .g 36 true 38 (.fad 37 (.s 5) 0), .g 36 true 39 (.ldl 38 5 (.s 37) 1 false), .g 36 true 40 (.bin 39 .eql (.s 38) (qi 0)), .i (.pick 40 (.s 36) (.s 39) (qb false)),qm 2 40]) .ret) .skip)) (.seq (.ops [ql 42 3 3 5 true,ql 43 5 5 45 true, .i (.call 45 52 false [(.s 42),(.s 43)]),qm 41 44, .i (.ext 45 (.s 41) 0), .i (.ext 46 (.s 41) 1),qm 7 45,qm 8 46]) (.seq (.ops [qm 47 8,qm 48 47, .g 48 true 50 (.ldl 49 3 (.s 3) 5 true), .g 48 true 51 (.ldl 50 5 (.s 5) 45 true), .g 48 true 52 (.call 52 58 false [(.s 49),(.s 50)]), .i (.pick 52 (.s 48) (.s 51) (qb false)),qm 53 52, .g 53 true 55 (.mov 54 (.s 7)), .g 53 true 56 (.mov 55 (.s 4)), .g 53 true 57 (.call 57 21 false [(.s 54),(.s 55)]), .i (.pick 57 (.s 53) (.s 56) (qb false)),qm 2 57]) .ret))))))))⟩
theorem zK:cd nH=some nu:=by kernel_rfl
theorem FnStrict_ok (b:Bytes):VC cd nH (aE [(false,[.sl (bytes b)])]) (fun rs _=>rs=bl true):=by
 refine aa zK rfl ?_
 simp(disch:=omega) [nu,aj,VZ]
 refine ab (fun h0=> ?_) (fun h0=> ?_)
 ·simp(disch:=omega) [VZ]
 have hb:b.length≤1048576:=by omega
 simp(disch:=omega) [VZ]
 refine Sv (DR b (by omega)) ?_
 rintro l ⟨hl,hf⟩
 simp(disch:=omega) [ah.e,VZ]
 refine R3 (H6 b l hl (by omega)) ?_ (ha:=by first|rfl|(simp[ah.c,VY] <;>repeat' constructor))
 rintro⟨fl,x⟩ hx
 simp only at hx
 have hd:=BT x l (by omega)
 have hle:=Pd l x
 have hgot:=OO (l:=l) (b:=x)
 have hno:=PS (l:=l) (b:=x)
 generalize dec l x=d at hd hle hgot hno
 obtain⟨m,c⟩:=d
 simp only at hle hgot hno
 by_cases hc:c=0
 ·subst hc
  obtain⟨m',e1,e2,e3⟩:=hgot rfl
  cases e1
  have hw:=My e2
  simp only[gw]at hd
  have he:=(B6 l m hw).re (bQ e2)
  rw[e3]at he
  cases fl
  ·simp(disch:=omega) [xD,VZ]
   refine ao (hd) ?_ (ha:=by first|rfl|(simp[ah.c,VY] <;>repeat' constructor))
   simp(disch:=omega) [aJ.o,VZ]
   refine ao (he) ?_ (ha:=by first|rfl|(simp[ah.c,aJ.c,VY] <;>repeat' constructor))
   simp(disch:=omega) [VZ]
   refine ao (jV l m hw) ?_ (ha:=by first|rfl|(simp[ah.c,aJ.c,VY] <;>repeat' constructor))
   simp(disch:=omega) [e2,VZ]
   refine ao (aD x x) ?_
   simp(disch:=omega) [VZ]
  ·simp(disch:=omega) [xD,VZ]
   refine ao (hd) ?_ (ha:=by first|rfl|(simp[ah.c,VY] <;>repeat' constructor))
   simp(disch:=omega) [aJ.o,VZ]
   refine ao (he) ?_ (ha:=by first|rfl|(simp[ah.c,aJ.c,VY] <;>repeat' constructor))
   simp(disch:=omega) [VZ]
   refine ao (jV l m hw) ?_ (ha:=by first|rfl|(simp[ah.c,aJ.c,VY] <;>repeat' constructor))
   simp(disch:=omega) [e2,VZ]
   refine ao (aD x x) ?_
   simp(disch:=omega) [VZ]
 ·have hz:=hno hc
  subst hz
  have hn:=Ko hle
  have c1:0 < c:=by omega
  have c2:(0:Int) < (c:Int):=by omega
  have c3:(c:Int)≤9:=by omega
  have hc':¬(c:Int)=0:=by omega
  simp only[gw]at hd
  cases fl
  ·simp(disch:=omega) [xD,VZ]
   refine ao (hd) ?_ (ha:=by first|rfl|(simp[ah.c,VY] <;>repeat' constructor))
   simp(disch:=omega) [aJ.o,av,c1,c2,c3,hc,hc',VZ]
   refine ao (Ei c) ?_
   simp(disch:=omega) [hn,av,aJ.o,VZ]
  ·simp(disch:=omega) [xD,VZ]
   refine ao (hd) ?_ (ha:=by first|rfl|(simp[ah.c,VY] <;>repeat' constructor))
   simp(disch:=omega) [aJ.o,av,c1,c2,c3,hc,hc',VZ]
   refine ao (Ei c) ?_
   simp(disch:=omega) [hn,av,aJ.o,VZ]
end Go.Eng.F
