import Derived.Test.YtanfobggenpcaaaGreatGb
import Derived.Test.YtanfobggenpcaaaGreatGg
import Derived.Test.YtanfobggenpcaaaGreatGh
set_option maxRecDepth 100000
set_option linter.unusedSimpArgs false
set_option linter.unusedVariables false
namespace Go.Eng.F
theorem Kd.wc {q:Qc} (h:Kd q):q.wc:=by
 have h1:=cX h.view
 have h2:=cX h.height
 have h3:=h.block
 have h4:=h.bits
 have h5:=h.tags
 refine⟨⟨⟨by omega,by omega⟩,⟨by omega,by omega⟩,?_,?_,?_⟩,fun x hx=> ?_⟩ <;>unfold Sz
 ·omega
 ·omega
 ·omega
 ·have:=h.tag x hx;omega
theorem jh (l:ah) (h:Head) (hw:h.wf):VC cd gV (aE [(true,l.c),(true,h.c)]) (fun rs _=>rs= [(false,[.o true (some (5,1)) (bytes (nK l h))])]):=
 (yj l h hw).own fun rs ps q=>by
   rw[q,Gm,nK]
   by_cases h0:bG l h=true
   ·rw[if_pos h0,if_pos h0]
    exact⟨_,by simp[aG,aL,aR],rfl⟩
   ·rw[if_neg h0,if_neg h0]
    exact⟨_,by simp[aG,aL,aR,ag],rfl⟩
theorem Ei (l:ah) (h:Head):(nK l h).length≤32:=by
 unfold nK
 split
 ·rw[Ac];omega
 ·simp
abbrev pS:Nat:=187
def nY:AF:=⟨2,6,[.cell 4 10 true],(.seq (.ops [.i (.lbox 3 (.s 1)), .i (.lal 4 qz)]) (.seq (.ops [qm 6 0, .i (.call 8 97 false [(.s 6),(qi 200)]), .i (.bin 8 .add (qi 2) (.s 7)),qm 9 0, .i (.call 11 97 false [(.s 9),(qi 200)]), .i (.bin 11 .add (qi 1) (.s 10)),qm 12 0,qf 13 3 0,ql 14 3 13 1 false, .i (.call 16 97 false [(.s 12),(.s 14)]),qm 16 0,qk 18 242 16,qm 18 0,qk 20 242 18,qm 20 0,ql 21 3 3 5 true, .i (.call 23 185 false [(.s 20),(.s 21)]), .i (.bld 23 qz [(0,1,(.s 8)),(1,1,(.s 11)),(2,1,(.s 15)),(3,1,(.s 17)),(4,1,(.s 19)),(5,5,(.s 22))]), .i (.lal 5 qz),qs 5 5 23 10]) (.seq (.ops [qm 24 0,qf 25 5 0,ql 26 5 25 1 false, .i (.call 28 97 false [(.s 24),(.s 26)]),qf 28 5 5,qf 29 28 0,qs 5 29 27 1]) (.seq (.ops [qf 30 5 1,ql 31 5 30 1 false, .i (.bin 32 .sub (.s 31) (qi 1)),qf 33 5 5,qf 34 33 1,qs 5 34 32 1]) (.seq (.ops [qf 35 5 3,ql 36 5 35 1 false,qk 38 143 36,qf 38 5 5,qf 39 38 2,qs 5 39 37 1]) (.seq (.ops [ql 40 5 5 10 true,qs 4 4 40 10]) .ret))))))⟩
theorem Ci:cd pS=some nY:=by kernel_rfl
theorem lW (b:Bytes) (i:Nat) (h:Int) (l:ah) (hl:1≤l.n∧l.n≤10) (hi:i≤b.length) (hb:b.length≤1073741824):VC cd pS (iX [] 133 (cur b i h) [(true,l.c)]) (fun r p=>∃x:Head×Nat×Int,(x.1.wc∧x.2.1≤b.length)∧r= [(true,x.1.o)]∧p= [.pt 133 (cur b x.2.1 x.2.2)]):=by
 obtain⟨m,hm⟩:∃m:Nat,l.n=(m:Int):=⟨l.n.toNat,by omega⟩
 refine ay Ci rfl ?_
 simp(disch:=omega) [nY,cur,ah.c,VZ]
 refine cN (ao b i h 200 (by omega) hi hb) ?_
 rintro⟨k1,i1,h1⟩ ⟨g1,j1⟩
 simp only at g1 j1
 simp(disch:=omega) [cur,VZ]
 refine cN (ao b i1 h1 200 (by omega) j1 hb) ?_
 rintro⟨k2,i2,h2⟩ ⟨g2,j2⟩
 simp only at g2 j2
 simp(disch:=omega) [cur,hm,VZ]
 refine cN (ao b i2 h2 m (by omega) j2 hb) ?_
 rintro⟨k3,i3,h3⟩ ⟨g3,j3⟩
 simp only at g3 j3
 simp(disch:=omega) [cur,VZ]
 refine cN (cY b i3 h3 j3 hb) ?_
 rintro⟨x4,i4,h4⟩ ⟨g4,j4⟩
 simp only at g4 j4
 simp(disch:=omega) [cur,VZ]
 refine cN (cY b i4 h4 j4 hb) ?_
 rintro⟨x5,i5,h5⟩ ⟨g5,j5⟩
 simp only at g5 j5
 simp(disch:=omega) [cur,VZ]
 refine cN (uL b i5 h5 ⟨(m:Int),l.tx,l.txs,l.frame,l.heads⟩ (by simp only;omega) j5 hb) ?_ (n1:=by intro _;simp(disch:=omega) [ah.c,Qc.o,hm,VZ]) (n3:=by intro _;simp(disch:=omega) [ah.c,Qc.o,hm,VZ])
 rintro⟨q6,i6,h6⟩ ⟨g6,j6⟩
 simp only at g6 j6
 obtain⟨⟨_,_,w3,w4,w5⟩,w6⟩:=g6.wc
 simp(disch:=omega) [cur,Qc.o,VZ]
 refine cN (ao b i6 h6 (2+k1) (by omega) j6 hb) ?_
 rintro⟨k7,i7,h7⟩ ⟨g7,j7⟩
 simp only at g7 j7
 simp(disch:=omega) [cur,VZ]
 refine av (bb x4 (by omega)) ?_
 simp(disch:=omega) [cur,VZ]
 refine⟨⟨2+k1,1+k2,k3,x4,x5,⟨k7,k2,x4,q6.bits,q6.tags⟩⟩,i7,⟨?_,j7⟩,?_,rfl⟩
 ·refine⟨⟨⟨by simp only;omega,by simp only;omega⟩,⟨by simp only;omega,by simp only;omega⟩,⟨by simp only;omega,by simp only;omega⟩,?_,?_,⟨⟨by simp only;omega,by simp only;omega⟩,⟨by simp only;omega,by simp only;omega⟩,?_,w4,w5⟩⟩,w6⟩
  ·unfold Sz;simp only;omega
  ·unfold Sz;simp only;omega
  ·unfold Sz;simp only;omega
 ·have e1:(1+(k2:Int) - 1)=k2:=by omega
  rw[e1]
  rfl
abbrev mA:Nat:=273
def mO:AF:=⟨3,6,[.tmp 6],(.seq (.ops [.i (.lbox 4 (.s 1)), .i (.mov 6 (.c (.val false [.nils])))]) (.seq (.ops [qm 10 0,ql 11 4 4 5 true, .i (.call 13 187 false [(.s 10),(.s 11)]), .i (.bsl 13 45 10 1 qz [(0,10,(.s 12))]),qm 7 13]) (.seq (.block 0 (.loop [59,58,57,56,55,54,53,52,51,50,49,48,47,46,45,44,43,42,41,40,39,38,37,36,35,34,33,32,31,30,29,28,27,26,25,24,23,22,21,20,19,18,17,16,15,14,9,8] (.seq (.seq (.ops [qm 14 7,qn 15 14,qm 16 2,qd 17 .lss 15 16]) (.cond (.s 17) .skip (.exit 0))) (.block 1 (.seq (.ops [qm 18 7,qm 19 7,qn 20 19, .i (.bin 21 .sub (.s 20) (qi 1)), .i (.iad 22 (.s 18) (.s 21) 10), .i (.ldh 23 (.s 22) 10 true), .i (.lal 8 qz),qs 8 8 23 10]) (.seq (.ops [qm 24 0,ql 25 4 4 5 true, .i (.call 27 187 false [(.s 24),(.s 25)]), .i (.lal 9 qz),qs 9 9 26 10]) (.seq (.ops [qf 27 8 0,ql 28 8 27 1 false, .i (.bin 29 .add (.s 28) (qi 1)),qm 30 0, .i (.call 32 97 false [(.s 30),(qi 6)]), .i (.bin 32 .quo (.s 31) (qi 5)),qd 33 .add 29 32,qf 34 9 0,qs 9 34 33 1]) (.seq (.ops [qf 35 8 1,ql 36 8 35 1 false, .i (.bin 37 .add (.s 36) (qi 1)),qf 38 9 1,qs 9 38 37 1]) (.seq (.ops [ql 39 4 4 5 true,ql 40 8 8 10 true, .i (.call 42 274 false [(.s 39),(.s 40)]),qf 42 9 3,qs 9 42 41 1]) (.seq (.ops [qf 43 8 0,ql 44 8 43 1 false,qf 45 9 5,qf 46 45 0,qs 9 46 44 1]) (.seq (.ops [qf 47 8 1,ql 48 8 47 1 false,qf 49 9 5,qf 50 49 1,qs 9 50 48 1]) (.seq (.ops [qf 51 9 3,ql 52 9 51 1 false,qk 54 143 52,qf 54 9 5,qf 55 54 2,qs 9 55 53 1]) (.ops [qm 56 7,ql 57 9 9 10 true, .i (.lsl 58 10 1 qz [(0,10,(.s 57))]), .i (.app 59 45 10 160 (.s 56) (.s 58)),qm 7 59]))))))))))))) (.seq (.ops [qm 60 7,qm 6 60]) .ret))))⟩
theorem y4:cd mA=some mO:=by kernel_rfl
theorem Gp (b:Bytes) (i:Nat) (h:Int) (l:ah) (n:Nat) (hl:1≤l.n∧l.n≤10) (hn:1≤n∧n≤10) (hi:i≤b.length) (hb:b.length≤1073741824):VC cd mA (iX [] 133 (cur b i h) [(true,l.c),(false,[.int .i64 (n:Int)])]) (fun r p=>∃x:List Head×Nat×Int,((x.1.length=n∧∀y∈x.1,y.wc)∧x.2.1≤b.length)∧r= [(false,[.o true (some (45,10)) (f6 x.1)])]∧p= [.pt 133 (cur b x.2.1 x.2.2)]):=by
 refine ay y4 rfl ?_
 simp(disch:=omega) [mO,cur,ah.c,VZ]
 refine cN (lW b i h l hl hi hb) ?_ (n1:=by intro _;simp(disch:=omega) [ah.c,Head.o,VZ]) (n3:=by intro _;simp(disch:=omega) [ah.c,Head.o,VZ])
 rintro⟨x1,i1,h1⟩ ⟨g1,j1⟩
 simp only at g1 j1
 simp(disch:=omega) [cur,Head.o,ah.c,VZ]
 have e0: [[D.int .i64 x1.view, .int .i64 x1.height, .int .i64 x1.proposer, .sl (bytes x1.parent), .sl (bytes x1.root), .int .i64 x1.qc.view, .int .i64 x1.qc.height, .sl (bytes x1.qc.block), .sl (bytes x1.qc.bits), .sl (bH x1.qc.tags)]]=f6 [x1]:=rfl
 rw[e0]
 refine bx (σ:=Nat×Nat×Int×List Head) (f1:=_) (es0:=_) (by simp(disch:=omega) [VZ];rfl) (by simp(disch:=omega) [VZ];rfl) (fun p=> [(7, .val false [.ow 13 p.1])]) (fun p=> [(4096, .pt 0 133 [.sl (bytes b), .int .i64 (p.2.1:Int), .int .i64 p.2.2.1]),(13, .sl p.1 true true (some (45,10)) (f6 p.2.2.2))])
  (fun p g=>g+p.2.2.2.length=n∧1≤p.2.2.2.length∧p.2.1≤b.length∧∀y∈p.2.2.2,y.wc) (_,i1,h1,[x1]) (n - 1) (by simp(disch:=omega) [VZ];rfl) (by simp(disch:=omega) [VZ]) ⟨by simp;omega,by simp,j1,by simpa using g1⟩ ?_
 rintro⟨v,i2,h2,x⟩ nx g ⟨hg,h5,h6,h7⟩ P hP
 simp only at hg h5 h6 h7
 have hx:(f6 x).length=x.length:=di x
 simp(disch:=omega) [hx,VZ]
 refine ab (fun h8=> ?_) (fun h8=> ?_)
 ·have e1:IntKind.i64.wrap ((x.length:Int) - 1)=((x.length - 1:Nat):Int):=by rw[yu (by omega) (by omega)];omega
  obtain⟨a,e2,hw⟩:∃a:Head,(∀hq:x.length - 1 < (f6 x).length,(f6 x)[x.length - 1]'hq=a.c)∧a.wc:=⟨x[x.length - 1]'(by omega),fun hq=>by simp[f6],h7 _ (List.getElem_mem _)⟩
  simp(disch:=omega) [hx,e1,e2,Head.c,VZ]
  refine cN (lW b i2 h2 l hl h6 hb) ?_ (n1:=by intro _;simp(disch:=omega) [ah.c,Head.o,VZ]) (n3:=by intro _;simp(disch:=omega) [ah.c,Head.o,VZ])
  rintro⟨y,i3,h3⟩ ⟨g3,j3⟩
  simp only at g3 j3
  simp(disch:=omega) [cur,Head.o,VZ]
  refine cN (ao b i3 h3 6 (by omega) j3 hb) ?_
  rintro⟨k4,i4,h4⟩ ⟨g4,j4⟩
  simp only at g4 j4
  simp(disch:=omega) [cur,VZ]
  refine av (jh l a hw.1) ?_ (ha:=by first|rfl|(simp[ah.c,Head.c,VY] <;>repeat' constructor))
  have hhl:=Ei l a
  simp(disch:=omega) [cur,VZ]
  refine av (bb (nK l a) (by omega)) ?_
  have ez:=Jn x ⟨IntKind.i64.wrap (IntKind.i64.wrap (a.view+1)+(k4:Int) / 5),IntKind.i64.wrap (a.height+1),y.proposer,nK l a,y.root,⟨a.view,a.height,nK l a,y.qc.bits,y.qc.tags⟩⟩
  simp only at ez
  simp(disch:=omega) [cur,hx,ez,VZ]
  refine hP (_,i4,h4,x++ [⟨IntKind.i64.wrap (IntKind.i64.wrap (a.view+1)+(k4:Int) / 5),IntKind.i64.wrap (a.height+1),y.proposer,nK l a,y.root,⟨a.view,a.height,nK l a,y.qc.bits,y.qc.tags⟩⟩]) (g - 1) _ _ (by omega) ⟨by simp;omega,by simp,j4,fun z hz=> ?_⟩ (by simp(disch:=omega) [VZ];rfl) (by simp(disch:=omega) [VZ])
  rcases List.mem_append.1 hz with hz|hz
  ·exact h7 z hz
  ·simp only[List.mem_singleton]at hz
   subst hz
   obtain⟨⟨w1,w2,w3,w4,w5,⟨q1,q2,q3,q4,q5⟩⟩,w7⟩:=g3
   have hs:Sz (nK l a).length:=by unfold Sz;omega
   exact⟨⟨QP _,QP _,w3,hs,w5,⟨hw.1.1,hw.1.2.1,hs,q4,q5⟩⟩,w7⟩
 ·simp(disch:=omega) [cur,VZ]
  exact⟨x,i2,⟨⟨by omega,h7⟩,h6⟩,rfl,rfl⟩
abbrev td:Nat:=270
def sK:AF:=⟨2,5,[.tmp 4],(.seq (.ops [.i (.lbox 3 (.s 1)), .i (.mov 4 (.c (.val false [.nils])))]) (.seq (.ops [.i (.bse 8),qm 5 8]) (.seq (.seq (.ops [qm 9 0,qf 10 3 2,ql 11 3 10 1 false, .i (.bin 12 .add (.s 11) (qi 1)), .i (.call 14 97 false [(.s 9),(.s 12)]),qm 6 13]) (.block 0 (.loop [27,26,25,24,23,22,21,20,19,18,17,16,15,14,7] (.seq (.seq (.ops [qm 14 6, .i (.bin 15 .gtr (.s 14) (qi 0))]) (.cond (.s 15) .skip (.exit 0))) (.seq (.block 1 (.seq (.ops [qf 18 3 1,ql 19 3 18 1 false,qm 7 19]) (.seq (.seq (.ops [qm 20 7, .i (.bin 21 .gtr (.s 20) (qi 6))]) (.cond (.s 21) (.ops [.i (.mov 7 (qi 6))]) .skip)) (.ops [qm 22 5,qm 23 0,qm 24 7, .i (.call 26 138 false [(.s 23),(.s 24)]), .i (.lsl 26 1 1 [.nils] [(0,1,(.s 25))]), .i (.app 27 22 1 24 (.s 22) (.s 26)),qm 5 27])))) (.ops [qm 16 6, .i (.bin 17 .sub (.s 16) (qi 1)),qm 6 17])))))) (.seq (.ops [qm 28 5,qm 4 28]) .ret))))⟩
theorem Dl:cd td=some sK:=by kernel_rfl
theorem Ke (b:Bytes) (i:Nat) (h:Int) (l:ah) (hl:l.rd) (hi:i≤b.length) (hb:b.length≤1073741824):VC cd td (iX [] 133 (cur b i h) [(true,l.c)]) (fun r p=>∃x:List Bytes×Nat×Int,((x.1.length≤8∧∀y∈x.1,y.length≤6)∧x.2.1≤b.length)∧r= [(false,[.o true (some (22,1)) (bH x.1)])]∧p= [.pt 133 (cur b x.2.1 x.2.2)]):=by
 have hl1:=hl.2.1
 have hl2:=hl.2.2.1
 obtain⟨m,hm⟩:∃m:Nat,l.txs=(m:Int):=⟨l.txs.toNat,by omega⟩
 obtain⟨t,ht⟩:∃t:Nat,l.tx=(t:Int):=⟨l.tx.toNat,by omega⟩
 refine ay Dl rfl ?_
 simp(disch:=omega) [sK,cur,ah.c,hm,ht,VZ]
 refine cN (ao b i h (m+1) (by omega) hi hb) ?_
 rintro⟨k1,i1,h1⟩ ⟨g1,j1⟩
 simp only at g1 j1
 simp(disch:=omega) [cur,VZ]
 refine bx (σ:=Nat×Nat×Nat×Int×List Bytes) (f1:=_) (es0:=_) (by simp(disch:=omega) [VZ];rfl) (by simp(disch:=omega) [VZ];rfl) (fun p=> [(6, .val false [.int .i64 (p.1:Int)]),(5, .val false [.ow 8 p.2.1])]) (fun p=> [(4096, .pt 0 133 [.sl (bytes b), .int .i64 (p.2.2.1:Int), .int .i64 p.2.2.2.1]),(8, .sl p.2.1 true true (some (22,1)) (bH p.2.2.2.2))])
  (fun p g=>g=p.1∧p.2.2.1≤b.length∧p.2.2.2.2.length+p.1≤8∧∀y∈p.2.2.2.2,y.length≤6) (k1,_,i1,h1,[]) k1 (by simp(disch:=omega) [VZ];rfl) (by simp(disch:=omega) [bH,VZ]) ⟨rfl,j1,by simp;omega,by simp⟩ ?_
 rintro⟨n,v,i2,h2,x⟩ nx g ⟨hg,h5,h6,h7⟩ P hP
 simp only at hg h5 h6 h7
 simp(disch:=omega) [VZ]
 refine ab (fun h8=> ?_) (fun h8=> ?_)
 ·have e1:IntKind.i64.wrap ((n:Int) - 1)=((n - 1:Nat):Int):=by rw[yu (by omega) (by omega)];omega
  have hlx:(bH x).length=x.length:=aC x
  simp(disch:=omega) [VZ]
  refine ab (fun h9=> ?_) (fun h9=> ?_)
  ·simp(disch:=omega) [VZ]
   refine cN (dE b i2 h2 6 (by omega) h5 hb) ?_
   rintro⟨y,i3,h3⟩ ⟨g3,j3⟩
   simp only at g3 j3
   simp(disch:=omega) [cur,e1,hlx,eE,VZ]
   refine hP (n - 1,_,i3,h3,x++ [y]) (g - 1) _ _ (by omega) ⟨by simp only;omega,j3,by simp;omega,fun z hz=> ?_⟩ (by simp(disch:=omega) [VZ];rfl) (by simp(disch:=omega) [VZ])
   rcases List.mem_append.1 hz with hz|hz
   ·exact h7 z hz
   ·simp only[List.mem_singleton]at hz;subst hz;omega
  ·simp(disch:=omega) [VZ]
   refine cN (dE b i2 h2 t (by omega) h5 hb) ?_
   rintro⟨y,i3,h3⟩ ⟨g3,j3⟩
   simp only at g3 j3
   simp(disch:=omega) [cur,e1,hlx,eE,VZ]
   refine hP (n - 1,_,i3,h3,x++ [y]) (g - 1) _ _ (by omega) ⟨by simp only;omega,j3,by simp;omega,fun z hz=> ?_⟩ (by simp(disch:=omega) [VZ];rfl) (by simp(disch:=omega) [VZ])
   rcases List.mem_append.1 hz with hz|hz
   ·exact h7 z hz
   ·simp only[List.mem_singleton]at hz;subst hz;omega
 ·simp(disch:=omega) [cur,VZ]
  exact⟨x,i2,⟨⟨by omega,h7⟩,h5⟩,rfl,rfl⟩
theorem Cg:bm.wc:=by
 refine⟨⟨⟨by decide,by decide⟩,⟨by decide,by decide⟩,⟨by decide,by decide⟩,by simp[bm,Sz],by simp[bm,Sz],⟨⟨by decide,by decide⟩,⟨by decide,by decide⟩,by simp[bm,gm,Sz],by simp[bm,gm,Sz],by simp[bm,gm,Sz]⟩⟩,fun x hx=>by simp[bm,gm]at hx⟩
def BD (l:ah) (h:Head) (t:List Bytes):Block:=if bF l (fh h t)=true then fh h t else aF
theorem Kk {l:ah} {h:Head} {t:List Bytes} (hw:h.wc) (ht:t.length≤8∧∀y∈t,y.length≤6):(BD l h t).wx:=by
 have hb:rk t:=⟨by unfold Sz;omega,fun x hx=>by have:=ht.2 x hx;unfold Sz;omega⟩
 unfold BD
 split
 ·exact⟨yE hw hb,fun x hx=>by have:=ht.2 x hx;omega⟩
 ·exact⟨⟨Cg,by simp[aF,rk,Sz]⟩,by simp[aF]⟩
theorem x9 (l:ah) (h:Head) (t:List Bytes) (hw:h.wc) (ht:t.length≤8∧∀y∈t,y.length≤6):VC cd iQ (aE [(true,l.c),(true,h.c),(false,[.sl (bH t)])]) (fun rs _=>rs= [(true,(BD l h t).o),(false,[.p (.bool (bF l (fh h t)))])]):=
 (y9 l h t hw ⟨by unfold Sz;omega,fun x hx=>by have:=ht.2 x hx;unfold Sz;omega⟩ (fun x hx=>by have:=ht.2 x hx;omega)).own fun rs ps q=>by
   rw[q,BV,BD]
   by_cases h0:bF l (fh h t)=true
   ·rw[if_pos h0,if_pos h0,h0]
    exact⟨_,by simp[aG,aL,aR,fh,Block.o],rfl⟩
   ·have h1:bF l (fh h t)=false:=by simpa using h0
    rw[if_neg h0,if_neg h0,h1]
    exact⟨_,by simp[aG,aL,aR,Block.o,aF,bm,gm,ag,bH],rfl⟩
abbrev pV:Nat:=189
def oS:AF:=⟨2,5,[.cell 4 11 true],(.seq (.ops [.i (.lbox 3 (.s 1)), .i (.lal 4 [.int .i64 0, .int .i64 0, .int .i64 0, .nils, .nils, .int .i64 0, .int .i64 0, .nils, .nils, .nils, .nils])]) (.seq (.ops [ql 8 3 3 5 true,qm 9 0,ql 10 3 3 5 true, .i (.call 12 187 false [(.s 9),(.s 10)]),qm 12 0,ql 13 3 3 5 true, .i (.call 15 270 false [(.s 12),(.s 13)]), .i (.call 16 269 false [(.s 8),(.s 11),(.s 14)]),qm 7 15, .i (.ext 16 (.s 7) 0), .i (.ext 17 (.s 7) 1), .i (.lal 5 [.int .i64 0, .int .i64 0, .int .i64 0, .nils, .nils, .int .i64 0, .int .i64 0, .nils, .nils, .nils, .nils]),qs 5 5 16 11,qm 6 17]) (.seq (.ops [ql 18 5 5 11 true,qs 4 4 18 11]) .ret)))⟩
theorem CE:cd pV=some oS:=by kernel_rfl
theorem Im (b:Bytes) (i:Nat) (h:Int) (l:ah) (hl:l.rd) (hi:i≤b.length) (hb:b.length≤1073741824):VC cd pV (iX [] 133 (cur b i h) [(true,l.c)]) (fun r p=>∃x:Block×Nat×Int,(x.1.wx∧x.2.1≤b.length)∧r= [(true,x.1.o)]∧p= [.pt 133 (cur b x.2.1 x.2.2)]):=by
 refine ay CE rfl ?_
 simp(disch:=omega) [oS,cur,ah.c,VZ]
 refine cN (lW b i h l hl.1 hi hb) ?_ (n1:=by intro _;simp(disch:=omega) [ah.c,Head.o,VZ]) (n3:=by intro _;simp(disch:=omega) [ah.c,Head.o,VZ])
 rintro⟨x1,i1,h1⟩ ⟨g1,j1⟩
 simp only at g1 j1
 simp(disch:=omega) [cur,Head.o,VZ]
 refine cN (Ke b i1 h1 l hl j1 hb) ?_ (n1:=by intro _;simp(disch:=omega) [ah.c,VZ]) (n3:=by intro _;simp(disch:=omega) [ah.c,VZ])
 rintro⟨x2,i2,h2⟩ ⟨g2,j2⟩
 simp only at g2 j2
 simp(disch:=omega) [cur,VZ]
 refine av (x9 l x1 x2 g1 g2) ?_ (ha:=by first|rfl|(simp[ah.c,Head.c,VY] <;>repeat' constructor))
 have hw:=Kk (l:=l) g1 g2
 generalize BD l x1 x2=y at hw
 simp(disch:=omega) [cur,Block.o,VZ]
 exact⟨y,i2,⟨hw,j2⟩,by simp,rfl⟩
end Go.Eng.F
namespace Go.Eng.F
abbrev nU:Nat:=191
def o6:AF:=⟨2,6,[.cell 4 2 true],(.seq (.ops [.i (.lbox 3 (.s 1)), .i (.lal 4 [.int .i64 0, .nils])]) (.seq (.ops [qm 7 0, .i (.call 9 97 false [(.s 7),(qi 200)]), .i (.bin 9 .add (qi 1) (.s 8)), .i (.bld 10 [.int .i64 0, .nils] [(0,1,(.s 9))]), .i (.lal 5 [.int .i64 0, .nils]),qs 5 5 10 2]) (.seq (.seq (.ops [.i (.mov 6 (qi 0))]) (.block 0 (.loop [32,31,30,29,28,27,26,25,24,23,22,21,20,19,18,17,16,15,14,13,12,11] (.seq (.seq (.ops [qm 11 6,qf 12 3 0,ql 13 3 12 1 false,qd 14 .lss 11 13]) (.cond (.s 14) .skip (.exit 0))) (.seq (.block 1 (.seq (.ops [qm 17 0, .i (.call 19 135 false [(.s 17),(qi 3)]), .i (.not 19 (.s 18))]) (.cond (.s 19) (.ops [qf 20 5 1,ql 21 5 20 1 false,qm 22 6,qm 23 0,qf 24 5 0,ql 25 5 24 1 false, .i (.call 27 97 false [(.s 23),(.s 25)]),qm 27 0,qk 29 242 27, .i (.bld 29 [.int .i64 0, .int .i64 0, .nils] [(0,1,(.s 22)),(1,1,(.s 26)),(2,1,(.s 28))]), .i (.lsl 30 3 1 [.int .i64 0, .int .i64 0, .nils] [(0,3,(.s 29))]), .i (.app 31 165 3 40 (.s 21) (.s 30)),qf 32 5 1,qs 5 32 31 1]) .skip))) (.ops [qm 15 6, .i (.bin 16 .add (.s 15) (qi 1)),qm 6 16])))))) (.seq (.ops [ql 33 5 5 2 true,qs 4 4 33 2]) .ret))))⟩
theorem BZ:cd nU=some o6:=by kernel_rfl
theorem Jd (b:Bytes) (i:Nat) (h:Int) (l:ah) (hl:1≤l.n∧l.n≤10) (hi:i≤b.length) (hb:b.length≤1073741824):VC cd nU (iX [] 133 (cur b i h) [(true,l.c)]) (fun r p=>∃x:Tc×Nat×Int,(x.1.wf∧x.2.1≤b.length)∧r= [(true,x.1.o)]∧p= [.pt 133 (cur b x.2.1 x.2.2)]):=by
 refine ay BZ rfl ?_
 simp(disch:=omega) [o6,cur,ah.c,VZ]
 refine cN (ao b i h 200 (by omega) hi hb) ?_
 rintro⟨k1,i1,h1⟩ ⟨g1,j1⟩
 simp only at g1 j1
 simp(disch:=omega) [cur,VZ]
 refine dr (σ:=Nat×Nat×Nat×Int×List Entry) (f0:=_) (by simp(disch:=omega) [VZ];rfl) (de.zq (s:=5) (k:=5) (i:=1) rfl rfl) (f1:=_) (es0:=_) (by simp(disch:=omega) [VZ];rfl) (by simp(disch:=omega) [VZ];rfl) (fun p=> [(6, .val false [.int .i64 (p.1:Int)]),(5, .box [.int .i64 (1+(k1:Int)), .ow 5 p.2.1])]) (fun p=> [(4096, .pt 0 133 [.sl (bytes b), .int .i64 (p.2.2.1:Int), .int .i64 p.2.2.2.1]),(5, .sl p.2.1 true true (some (165,3)) (lU p.2.2.2.2))])
  (fun p g=>(g:Int)+p.1=l.n∧p.2.2.1≤b.length∧p.2.2.2.2.length≤p.1∧∀r∈p.2.2.2.2,r.wf) (0,_,i1,h1,[]) l.n.toNat (by simp(disch:=omega) [VZ];rfl) (by simp(disch:=omega) [lU,VZ]) ⟨by simp only;omega,j1,by simp,by simp⟩ ?_
 rintro⟨n,v,i2,h2,x⟩ nx g ⟨hg,a5,a6,a7⟩ P hP
 simp only at hg a5 a6 a7
 have hlx:(lU x).length=x.length:=dG x
 simp(disch:=omega) [VZ]
 refine ab (fun h8=> ?_) (fun h8=> ?_)
 ·simp(disch:=omega) [VZ]
  refine cN (gh b i2 h2 3 (by omega) a5 hb) ?_
  rintro⟨y,i3,h3⟩ j3
  simp only at j3
  cases y with
  |true=>
   simp(disch:=omega) [cur,VZ]
   exact hP (n+1,v,i3,h3,x) (g - 1) _ _ (by omega) ⟨by simp only;omega,j3,by simp only;omega,a7⟩ (by simp(disch:=omega) [VZ] <;>rfl) (by simp(disch:=omega) [VZ])
  |false=>
   simp(disch:=omega) [cur,VZ]
   refine cN (ao b i3 h3 (1+k1) (by omega) j3 hb) ?_
   rintro⟨k4,i4,h4⟩ ⟨g4,j4⟩
   simp only at g4 j4
   simp(disch:=omega) [cur,VZ]
   refine cN (cY b i4 h4 j4 hb) ?_
   rintro⟨x5,i5,h5⟩ ⟨g5,j5⟩
   simp only at g5 j5
   simp(disch:=omega) [cur,hlx,J3,VZ]
   refine hP (n+1,_,i5,h5,x++ [⟨n,k4,x5⟩]) (g - 1) _ _ (by omega) ⟨by simp only;omega,j5,by simp;omega,fun z hz=> ?_⟩ (by simp(disch:=omega) [VZ] <;>rfl) (by simp(disch:=omega) [VZ])
   rcases List.mem_append.1 hz with hz|hz
   ·exact a7 z hz
   ·simp only[List.mem_singleton]at hz
    subst hz
    exact⟨⟨by simp only;omega,by simp only;omega⟩,⟨by simp only;omega,by simp only;omega⟩,by unfold Sz;simp only;omega⟩
 ·simp(disch:=omega) [cur,VZ]
  refine⟨⟨1+k1,x⟩,i2,⟨⟨⟨by simp only;omega,by simp only;omega⟩,by unfold Sz;simp only;omega,a7⟩,a5⟩,rfl,rfl⟩
abbrev rH:Nat:=193
def pB:AF:=⟨2,6,[.cell 4 6 true],(.seq (.ops [.i (.lbox 3 (.s 1)), .i (.lal 4 [.nils, .int .i64 0, .int .i64 0, .nils, .nils, .nils])]) (.seq (.ops [qm 7 0,ql 8 3 3 5 true,qm 9 0,qf 10 3 4,ql 11 3 10 1 false, .i (.bin 12 .sub (.s 11) (qi 2)), .i (.call 14 97 false [(.s 9),(.s 12)]), .i (.bin 14 .add (qi 3) (.s 13)), .i (.call 16 273 false [(.s 7),(.s 8),(.s 14)]),qm 16 0,ql 17 3 3 5 true, .i (.call 19 185 false [(.s 16),(.s 17)]), .i (.bld 19 [.nils, .int .i64 0, .int .i64 0, .nils, .nils, .nils] [(0,1,(.s 15)),(1,5,(.s 18))]), .i (.lal 5 [.nils, .int .i64 0, .int .i64 0, .nils, .nils, .nils]),qs 5 5 19 6]) (.seq (.ops [qf 20 5 0,ql 21 5 20 1 false,qf 22 5 0,ql 23 5 22 1 false,qn 24 23, .i (.bin 25 .sub (.s 24) (qi 1)), .i (.iad 26 (.s 21) (.s 25) 10), .i (.ldh 27 (.s 26) 10 true), .i (.lal 6 qz),qs 6 6 27 10]) (.seq (.ops [qf 28 6 0,ql 29 6 28 1 false,qf 30 5 1,qf 31 30 0,qs 5 31 29 1]) (.seq (.ops [qf 32 6 1,ql 33 6 32 1 false,qf 34 5 1,qf 35 34 1,qs 5 35 33 1]) (.seq (.ops [ql 36 3 3 5 true,ql 37 6 6 10 true, .i (.call 39 274 false [(.s 36),(.s 37)]),qf 39 5 1,qf 40 39 2,qs 5 40 38 1]) (.seq (.ops [ql 41 5 5 6 true,qs 4 4 41 6]) .ret)))))))⟩
theorem Be:cd rH=some pB:=by kernel_rfl
theorem IJ (b:Bytes) (i:Nat) (h:Int) (l:ah) (hl:l.rd) (hi:i≤b.length) (hb:b.length≤1073741824):VC cd rH (iX [] 133 (cur b i h) [(true,l.c)]) (fun r p=>∃x:Proof×Nat×Int,(x.1.wc∧x.2.1≤b.length)∧r= [(true,x.1.o)]∧p= [.pt 133 (cur b x.2.1 x.2.2)]):=by
 have hl4:=hl.2.2.2
 obtain⟨m,hm⟩:∃m:Nat,l.heads=(m:Int):=⟨l.heads.toNat,by omega⟩
 have em:(m:Int) - 2=((m - 2:Nat):Int):=by omega
 refine ay Be rfl ?_
 simp(disch:=omega) [pB,cur,ah.c,hm,em,VZ]
 refine cN (ao b i h (m - 2) (by omega) hi hb) ?_
 rintro⟨k1,i1,h1⟩ ⟨g1,j1⟩
 simp only at g1 j1
 simp(disch:=omega) [cur,VZ]
 refine cN (Gp b i1 h1 ⟨l.n,l.tx,l.txs,l.frame,(m:Int)⟩ (3+k1) hl.1 (by omega) j1 hb) ?_ (n1:=by intro _;simp(disch:=omega) [ah.c,VZ]) (n3:=by intro _;simp(disch:=omega) [ah.c,VZ])
 rintro⟨x2,i2,h2⟩ ⟨⟨g2,w2⟩,j2⟩
 simp only at g2 w2 j2
 simp(disch:=omega) [cur,VZ]
 refine cN (uL b i2 h2 ⟨l.n,l.tx,l.txs,l.frame,(m:Int)⟩ hl.1 j2 hb) ?_ (n1:=by intro _;simp(disch:=omega) [ah.c,Qc.o,VZ]) (n3:=by intro _;simp(disch:=omega) [ah.c,Qc.o,VZ])
 rintro⟨x3,i3,h3⟩ ⟨g3,j3⟩
 simp only at g3 j3
 have w3:=g3.wc
 have hx:(f6 x2).length=x2.length:=di x2
 have e1:IntKind.i64.wrap ((x2.length:Int) - 1)=((x2.length - 1:Nat):Int):=by rw[yu (by omega) (by omega)];omega
 obtain⟨a,e2,hw⟩:∃a:Head,(∀hq:x2.length - 1 < (f6 x2).length,(f6 x2)[x2.length - 1]'hq=a.c)∧a.wc:=⟨x2[x2.length - 1]'(by omega),fun hq=>by simp[f6],w2 _ (List.getElem_mem _)⟩
 have hhl:=Ei ⟨l.n,l.tx,l.txs,l.frame,(m:Int)⟩ a
 simp(disch:=omega) [cur,Qc.o,hx,e1,e2,Head.c,VZ]
 refine av (jh ⟨l.n,l.tx,l.txs,l.frame,(m:Int)⟩ a hw.1) ?_ (ha:=by first|rfl|(simp[ah.c,Head.c,VY] <;>repeat' constructor))
 generalize nK ⟨l.n,l.tx,l.txs,l.frame,(m:Int)⟩ a=y at hhl
 simp(disch:=omega) [cur,Proof.o,VZ]
 refine⟨⟨x2,⟨a.view,a.height,y,x3.bits,x3.tags⟩⟩,i3,⟨?_,j3⟩,?_,rfl⟩
 ·obtain⟨⟨q1,q2,q3,q4,q5⟩,q6⟩:=w3
  have hs:Sz y.length:=by unfold Sz;omega
  exact⟨⟨⟨by unfold Sz;simp only;omega,fun z hz=>(w2 z hz).1⟩,⟨hw.1.1,hw.1.2.1,hs,q4,q5⟩⟩,w2,⟨hw.1.1,hw.1.2.1,hs,q4,q5⟩,q6⟩
 ·simp
end Go.Eng.F
namespace Go.Eng.F
structure Ev where
 kind:Int
 n:Int
 msg:aW
def Ev.c (e:Ev):List D:= .int .i64 e.kind:: .int .i64 e.n::e.msg.c
def km (l:List Ev):List (List D):=l.map Ev.c
theorem ij (l:List Ev):(km l).length=l.length:=by simp[km]
theorem ET:km []= []:=rfl
theorem Jo (l:List Ev) (k n:Int) (m:aW):km l++ [[.int .i64 k, .int .i64 n, .int .i64 m.kind, .int .i64 m.vote.view, .int .i64 m.vote.height, .sl (bytes m.vote.block), .int .i64 m.vote.who, .sl (bytes m.vote.tag), .int .i64 m.qc.view, .int .i64 m.qc.height, .sl (bytes m.qc.block), .sl (bytes m.qc.bits), .sl (bH m.qc.tags), .int .i64 m.head.view, .int .i64 m.head.height, .int .i64 m.head.proposer, .sl (bytes m.head.parent), .sl (bytes m.head.root), .int .i64 m.head.qc.view, .int .i64 m.head.qc.height, .sl (bytes m.head.qc.block), .sl (bytes m.head.qc.bits), .sl (bH m.head.qc.tags), .int .i64 m.block.head.view, .int .i64 m.block.head.height, .int .i64 m.block.head.proposer, .sl (bytes m.block.head.parent), .sl (bytes m.block.head.root), .int .i64 m.block.head.qc.view, .int .i64 m.block.head.qc.height, .sl (bytes m.block.head.qc.block), .sl (bytes m.block.head.qc.bits), .sl (bH m.block.head.qc.tags), .sl (bH m.block.txs), .int .i64 m.tc.view, .sl (lU m.tc.entries), .sl (f6 m.proof.heads), .int .i64 m.proof.qc.view, .int .i64 m.proof.qc.height, .sl (bytes m.proof.qc.block), .sl (bytes m.proof.qc.bits), .sl (bH m.proof.qc.tags), .int .i64 m.incl.height, .int .i64 m.incl.n, .int .i64 m.incl.idx, .sl (bytes m.incl.tx), .sl (bH m.incl.path)]]=km (l++ [⟨k,n,m⟩]):=by simp[km,Ev.c,aW.c]
theorem FI (l:List Ev) (k n:Int):km l++ [[.int .i64 k, .int .i64 n, .int .i64 0, .int .i64 0, .int .i64 0, .sl [], .int .i64 0, .sl [], .int .i64 0, .int .i64 0, .sl [], .sl [], .sl [], .int .i64 0, .int .i64 0, .int .i64 0, .sl [], .sl [], .int .i64 0, .int .i64 0, .sl [], .sl [], .sl [], .int .i64 0, .int .i64 0, .int .i64 0, .sl [], .sl [], .int .i64 0, .int .i64 0, .sl [], .sl [], .sl [], .sl [], .int .i64 0, .sl [], .sl [], .int .i64 0, .int .i64 0, .sl [], .sl [], .sl [], .int .i64 0, .int .i64 0, .int .i64 0, .sl [], .sl []]]=km (l++ [⟨k,n,au⟩]):=by simp[km,Ev.c,aW.c,au,bI,gm,bm,aF,iW,aK,bD,bytes,bH,f6,lU]
def d4 (s:Bytes) (a n:Nat):Bytes:=(s.drop (a+8)).take (n - 8)
def d7 (k:Nat):List Ev:=if k=0 then []else [⟨1,k,au⟩]
def rM (l:ah) (d:Bytes):Ev:=if(dec l d).2=0 then⟨3,0,(dec l d).1⟩else⟨2,(dec l d).2,au⟩
def dF (l:ah) (s:Bytes) (cl:Bool):Nat→Nat→Nat→List Ev→List Ev×Nat×Nat
 |0,a,k,e=>(e,k,a)
 |g+1,a,k,e=>
  if a < s.length then
   if(aq l s a).1=1∧cl=false then(e,k,a)
   else if(aq l s a).1≠3 then dF l s cl g (a+1) (k+1) e
   else dF l s cl g (a+(aq l s a).2.toNat) 0 (e++(d7 k++ [rM l (d4 s a (aq l s a).2.toNat)]))
  else(e,k,a)
def fw (l:ah) (s:Bytes) (cl:Bool) (k:Nat):List Ev×Nat×Nat:=
 let r:=dF l s cl s.length 0 k []
 (r.1++(if cl=true then d7 r.2.1 else []),r.2)
theorem Kp {l:ah} {s:Bytes} {cl:Bool} {g a k:Nat} {e:List Ev} (h:¬a < s.length):dF l s cl g a k e=(e,k,a):=by
 cases g
 ·rfl
 ·rw[dF,if_neg h]
theorem ig {l:ah} {s:Bytes} {a:Nat} (h:(aq l s a).1=3):∃n:Nat,aq l s a=(3,(n:Int))∧9≤n∧a+n≤s.length∧l.ok=true:=by
 unfold aq at h⊢
 split at h
 ·rename_i h1
  rw[if_pos h1]
  split at h
  ·rename_i h2
   rw[if_pos h2]
   split at h
   ·simp at h
   ·rename_i h3
    rw[if_neg h3]
    split at h
    ·simp at h
    ·rename_i h4
     rw[if_neg h4]
     split at h
     ·simp at h
     ·rename_i h5
      rw[if_neg h5]
      split at h
      ·simp at h
      ·rename_i h6
       rw[if_neg h6]
       split at h
       ·rename_i h7
        rw[if_pos h7]
        have h8:cf (wW s a) 1 l.frame=true:=by simpa using h5
        have h9:=cX h8
        exact⟨8+wW s a,by simp,by omega,by omega,h1.1⟩
       ·simp at h
  ·simp at h
 ·simp at h
theorem DN (l:ah) (s:Bytes) (a:Nat):(aq l s a).1=0∨(aq l s a).1=1∨(aq l s a).1=2∨(aq l s a).1=3:=by
 unfold aq
 repeat' split
 all_goals simp
theorem Ek {s:Bytes} {a n:Nat}:(d4 s a n).length≤s.length:=by simp[d4];omega
abbrev kb:Nat:=157
def jS:AF:=⟨3,5,[.tmp 6, .tmp 7],(.seq (.ops [.i (.lbox 3 (.s 0)), .i (.mov 6 (.c (.val false [.nils]))), .i (.mov 7 (qb false))]) (.seq (.ops [ql 11 3 3 5 true,qm 12 1,qm 13 2, .i (.call 15 128 false [(.s 11),(.s 12),(.s 13)]),qm 10 14, .i (.ext 15 (.s 10) 0), .i (.ext 16 (.s 10) 1),qm 8 15,qm 9 16]) (.seq (.seq (.ops [qm 17 8, .i (.bin 18 .neq (.s 17) (qi 3))]) (.cond (.s 18) (.seq (.ops [.i (.mov 6 (.c (.val false [.nils]))), .i (.mov 7 (qb false))]) .ret) .skip)) (.seq (.ops [qm 19 1,qm 20 2, .i (.bin 21 .add (.s 20) (qi 8)),qm 22 2,qm 23 9,qd 24 .add 22 23, .i (.eA 25 1 (.s 19) (some (.s 21)) (some (.s 24))),qk 27 93 25,qm 6 26, .i (.mov 7 (qb true))]) .ret))))⟩
theorem wX:cd kb=some jS:=by kernel_rfl
theorem qq (l:ah) (s:Bytes) (a n:Nat) (hs:s.length≤1073741824) (h:aq l s a=(3,(n:Int))) (h9:9≤n) (hn:a+n≤s.length):VC cd kb (aE [(true,l.c),(false,[.sl (bytes s)]),(false,[.int .i64 (a:Int)])]) (fun rs _=>rs= [(false,[.o true (some (5,1)) (bytes (d4 s a n))]),(false,[.p (.bool true)])]):=by
 have h0:=gW l s a hs (by omega)
 rw[h]at h0
 simp only[fq]at h0
 have e1:List.take ((a:Int)+(n:Int) - ((a:Int)+8)).toNat (List.drop ((a:Int)+8).toNat (bytes s))=bytes (d4 s a n):=by
  rw[show((a:Int)+8).toNat=a+8 by omega,show((a:Int)+(n:Int) - ((a:Int)+8)).toNat=n - 8 by omega,d4]
  simp only[bytes,←List.map_take,←List.map_drop]
 have f1:0≤(a:Int)+8:=by omega
 have f2:8≤(n:Int):=by omega
 have f3:(a:Int)+(n:Int)≤(s.length:Int):=by omega
 refine aa wX rfl ?_
 simp(disch:=omega) [jS,ah.c,VY]
 refine av (h0) ?_ (ha:=by first|rfl|(simp[ah.c,VY] <;>repeat' constructor))
 simp(disch:=omega) [f1,f2,f3,e1,VY]
 refine av (eb (d4 s a n) (by have:=Ek (s:=s) (a:=a) (n:=n);omega)) ?_
 simp(disch:=omega) [VY]
theorem H0 {l:ah} {s:Bytes} {cl:Bool} {g a k:Nat} {e:List Ev} (h:a < s.length) (h1:(aq l s a).1=1) (h2:cl=false):dF l s cl (g+1) a k e=(e,k,a):=by
 rw[dF,if_pos h,if_pos ⟨h1,h2⟩]
theorem BP {l:ah} {s:Bytes} {cl:Bool} {g a k:Nat} {e:List Ev} (h:a < s.length) (h1:¬((aq l s a).1=1∧cl=false)) (h2:(aq l s a).1≠3):dF l s cl (g+1) a k e=dF l s cl g (a+1) (k+1) e:=by
 rw[dF,if_pos h,if_neg h1,if_pos h2]
theorem Iz {l:ah} {s:Bytes} {cl:Bool} {g a k n:Nat} {e:List Ev} (h:a < s.length) (h1:aq l s a=(3,(n:Int))):dF l s cl (g+1) a k e=dF l s cl g (a+n) 0 (e++(d7 k++ [rM l (d4 s a n)])):=by
 rw[dF,if_pos h,if_neg (by simp[h1]),if_neg (by simp[h1])]
 simp[h1]
def yG (r:List Ev×Nat×Nat):List (Bool×List E):= [(false,[.o true (some (107,47)) (km r.1)]),(false,[.p (.int .i64 (r.2.1:Int))]),(false,[.p (.int .i64 (r.2.2:Int))])]
abbrev yp:Nat:=94
def yP:AF:=⟨4,7,[.tmp 8, .tmp 9, .tmp 10],(.seq (.ops [.i (.lbox 4 (.s 0)), .i (.mov 8 (.c (.val false [.nils]))), .i (.mov 9 (qi 0)), .i (.mov 10 (qi 0))]) (.seq (.ops [.i (.bse 19),qm 11 19, .i (.mov 12 (qi 0))]) (.seq (.block 0 (.loop [80,79,78,77,76,75,74,73,72,71,70,69,68,67,66,65,64,63,62,61,60,59,58,57,56,55,54,53,52,51,50,49,48,47,46,45,44,43,42,41,40,39,38,37,36,35,34,33,32,31,30,29,28,27,26,25,24,23,22,21,20,18,17,16,15,14,13] (.seq (.seq (.ops [qm 20 12,qm 21 1,qn 22 21,qd 23 .lss 20 22]) (.cond (.s 23) .skip (.exit 0))) (.block 1 (.seq (.ops [ql 25 4 4 5 true,qm 26 1,qm 27 12, .i (.call 29 128 false [(.s 25),(.s 26),(.s 27)]),qm 24 28, .i (.ext 29 (.s 24) 0), .i (.ext 30 (.s 24) 1),qm 13 29,qm 14 30]) (.seq (.seq (.ops [qm 31 13, .i (.bin 32 .eql (.s 31) (qi 1)),qm 33 32, .g 33 true 35 (.mov 34 (.s 2)), .g 33 true 36 (.not 35 (.s 34)), .i (.pick 36 (.s 33) (.s 35) (qb false))]) (.cond (.s 36) (.seq (.ops [qm 37 11,qm 38 3,qm 39 12,qm 8 37,qm 9 38,qm 10 39]) .ret) .skip)) (.seq (.seq (.ops [qm 40 13, .i (.bin 41 .neq (.s 40) (qi 3))]) (.cond (.s 41) (.seq (.ops [qm 42 12, .i (.bin 43 .add (.s 42) (qi 1)),qm 12 43]) (.seq (.ops [qm 44 3, .i (.bin 45 .add (.s 44) (qi 1)),qm 3 45]) (.exit 1))) .skip)) (.seq (.seq (.ops [qm 46 3, .i (.bin 47 .neq (.s 46) (qi 0))]) (.cond (.s 47) (.ops [qm 48 11,qm 49 3, .i (.bld 50 [.int .i64 0, .int .i64 0, .int .i64 0, .int .i64 0, .int .i64 0, .nils, .int .i64 0, .nils, .int .i64 0, .int .i64 0, .nils, .nils, .nils, .int .i64 0, .int .i64 0, .int .i64 0, .nils, .nils, .int .i64 0, .int .i64 0, .nils, .nils, .nils, .int .i64 0, .int .i64 0, .int .i64 0, .nils, .nils, .int .i64 0, .int .i64 0, .nils, .nils, .nils, .nils, .int .i64 0, .nils, .nils, .int .i64 0, .int .i64 0, .nils, .nils, .nils, .int .i64 0, .int .i64 0, .int .i64 0, .nils, .nils] [(0,1,(qi 1)),(1,1,(.s 49))]), .i (.lsl 51 47 1 [.int .i64 0, .int .i64 0, .int .i64 0, .int .i64 0, .int .i64 0, .nils, .int .i64 0, .nils, .int .i64 0, .int .i64 0, .nils, .nils, .nils, .int .i64 0, .int .i64 0, .int .i64 0, .nils, .nils, .int .i64 0, .int .i64 0, .nils, .nils, .nils, .int .i64 0, .int .i64 0, .int .i64 0, .nils, .nils, .int .i64 0, .int .i64 0, .nils, .nils, .nils, .nils, .int .i64 0, .nils, .nils, .int .i64 0, .int .i64 0, .nils, .nils, .nils, .int .i64 0, .int .i64 0, .int .i64 0, .nils, .nils] [(0,47,(.s 50))]), .i (.app 52 107 47 744 (.s 48) (.s 51)),qm 11 52]) .skip)) (.seq (.ops [ql 54 4 4 5 true,qm 55 1,qm 56 12, .i (.call 58 157 false [(.s 54),(.s 55),(.s 56)]),qm 53 57, .i (.ext 58 (.s 53) 0), .i (.ext 59 (.s 53) 1),qm 15 58,qm 16 59]) (.seq (.seq (.ops [ql 61 4 4 5 true,qm 62 15, .i (.call 64 53 false [(.s 61),(.s 62)]),qm 60 63, .i (.ext 64 (.s 60) 0), .i (.ext 65 (.s 60) 1), .i (.lal 17 [.int .i64 0, .int .i64 0, .int .i64 0, .nils, .int .i64 0, .nils, .int .i64 0, .int .i64 0, .nils, .nils, .nils, .int .i64 0, .int .i64 0, .int .i64 0, .nils, .nils, .int .i64 0, .int .i64 0, .nils, .nils, .nils, .int .i64 0, .int .i64 0, .int .i64 0, .nils, .nils, .int .i64 0, .int .i64 0, .nils, .nils, .nils, .nils, .int .i64 0, .nils, .nils, .int .i64 0, .int .i64 0, .nils, .nils, .nils, .int .i64 0, .int .i64 0, .int .i64 0, .nils, .nils]),qs 17 17 64 45,qm 18 65]) (.seq (.ops [qm 66 18, .i (.bin 67 .eql (.s 66) (qi 0))]) (.cond (.s 67) (.ops [qm 68 11,ql 69 17 17 45 true, .i (.bld 70 [.int .i64 0, .int .i64 0, .int .i64 0, .int .i64 0, .int .i64 0, .nils, .int .i64 0, .nils, .int .i64 0, .int .i64 0, .nils, .nils, .nils, .int .i64 0, .int .i64 0, .int .i64 0, .nils, .nils, .int .i64 0, .int .i64 0, .nils, .nils, .nils, .int .i64 0, .int .i64 0, .int .i64 0, .nils, .nils, .int .i64 0, .int .i64 0, .nils, .nils, .nils, .nils, .int .i64 0, .nils, .nils, .int .i64 0, .int .i64 0, .nils, .nils, .nils, .int .i64 0, .int .i64 0, .int .i64 0, .nils, .nils] [(0,1,(qi 3)),(2,45,(.s 69))]), .i (.lsl 71 47 1 [.int .i64 0, .int .i64 0, .int .i64 0, .int .i64 0, .int .i64 0, .nils, .int .i64 0, .nils, .int .i64 0, .int .i64 0, .nils, .nils, .nils, .int .i64 0, .int .i64 0, .int .i64 0, .nils, .nils, .int .i64 0, .int .i64 0, .nils, .nils, .nils, .int .i64 0, .int .i64 0, .int .i64 0, .nils, .nils, .int .i64 0, .int .i64 0, .nils, .nils, .nils, .nils, .int .i64 0, .nils, .nils, .int .i64 0, .int .i64 0, .nils, .nils, .nils, .int .i64 0, .int .i64 0, .int .i64 0, .nils, .nils] [(0,47,(.s 70))]), .i (.app 72 107 47 744 (.s 68) (.s 71)),qm 11 72]) (.ops [qm 73 11,qm 74 18, .i (.bld 75 [.int .i64 0, .int .i64 0, .int .i64 0, .int .i64 0, .int .i64 0, .nils, .int .i64 0, .nils, .int .i64 0, .int .i64 0, .nils, .nils, .nils, .int .i64 0, .int .i64 0, .int .i64 0, .nils, .nils, .int .i64 0, .int .i64 0, .nils, .nils, .nils, .int .i64 0, .int .i64 0, .int .i64 0, .nils, .nils, .int .i64 0, .int .i64 0, .nils, .nils, .nils, .nils, .int .i64 0, .nils, .nils, .int .i64 0, .int .i64 0, .nils, .nils, .nils, .int .i64 0, .int .i64 0, .int .i64 0, .nils, .nils] [(0,1,(qi 2)),(1,1,(.s 74))]), .i (.lsl 76 47 1 [.int .i64 0, .int .i64 0, .int .i64 0, .int .i64 0, .int .i64 0, .nils, .int .i64 0, .nils, .int .i64 0, .int .i64 0, .nils, .nils, .nils, .int .i64 0, .int .i64 0, .int .i64 0, .nils, .nils, .int .i64 0, .int .i64 0, .nils, .nils, .nils, .int .i64 0, .int .i64 0, .int .i64 0, .nils, .nils, .int .i64 0, .int .i64 0, .nils, .nils, .nils, .nils, .int .i64 0, .nils, .nils, .int .i64 0, .int .i64 0, .nils, .nils, .nils, .int .i64 0, .int .i64 0, .int .i64 0, .nils, .nils] [(0,47,(.s 75))]), .i (.app 77 107 47 744 (.s 73) (.s 76)),qm 11 77])))) (.ops [qm 78 12,qm 79 14,qd 80 .add 78 79,qm 12 80, .i (.mov 3 (qi 0))]))))))))))) (.seq (.seq (.ops [qm 81 2,qm 82 81, .g 82 true 84 (.mov 83 (.s 3)), .g 82 true 85 (.bin 84 .neq (.s 83) (qi 0)), .i (.pick 85 (.s 82) (.s 84) (qb false))]) (.cond (.s 85) (.ops [qm 86 11,qm 87 3, .i (.bld 88 [.int .i64 0, .int .i64 0, .int .i64 0, .int .i64 0, .int .i64 0, .nils, .int .i64 0, .nils, .int .i64 0, .int .i64 0, .nils, .nils, .nils, .int .i64 0, .int .i64 0, .int .i64 0, .nils, .nils, .int .i64 0, .int .i64 0, .nils, .nils, .nils, .int .i64 0, .int .i64 0, .int .i64 0, .nils, .nils, .int .i64 0, .int .i64 0, .nils, .nils, .nils, .nils, .int .i64 0, .nils, .nils, .int .i64 0, .int .i64 0, .nils, .nils, .nils, .int .i64 0, .int .i64 0, .int .i64 0, .nils, .nils] [(0,1,(qi 1)),(1,1,(.s 87))]), .i (.lsl 89 47 1 [.int .i64 0, .int .i64 0, .int .i64 0, .int .i64 0, .int .i64 0, .nils, .int .i64 0, .nils, .int .i64 0, .int .i64 0, .nils, .nils, .nils, .int .i64 0, .int .i64 0, .int .i64 0, .nils, .nils, .int .i64 0, .int .i64 0, .nils, .nils, .nils, .int .i64 0, .int .i64 0, .int .i64 0, .nils, .nils, .int .i64 0, .int .i64 0, .nils, .nils, .nils, .nils, .int .i64 0, .nils, .nils, .int .i64 0, .int .i64 0, .nils, .nils, .nils, .int .i64 0, .int .i64 0, .int .i64 0, .nils, .nils] [(0,47,(.s 88))]), .i (.app 90 107 47 744 (.s 86) (.s 89)),qm 11 90]) .skip)) (.seq (.ops [qm 91 11,qm 92 3,qm 93 12,qm 8 91,qm 9 92,qm 10 93]) .ret)))))⟩
theorem Gr:cd yp=some yP:=by kernel_rfl
theorem lA (l:ah) (s:Bytes) (cl:Bool) (k0:Nat) (hs:s.length≤1073741824) (hk:k0≤1152921504606846975):VC cd yp (aE [(true,l.c),(false,[.sl (bytes s)]),(false,[.bool cl]),(false,[.int .i64 (k0:Int)])]) (fun rs _=>rs=yG (fw l s cl k0)):=by
 refine aa Gr rfl ?_
 simp(disch:=omega) [yP,ah.c,VZ]
 refine bx (σ:=Nat×Nat×Nat×List Ev) (f1:=_) (es0:=_) (by simp(disch:=omega) [VZ];rfl) (by simp(disch:=omega) [VZ];rfl) (fun p=> [(12, .val false [.int .i64 (p.1:Int)]),(3, .val false [.int .i64 (p.2.1:Int)]),(11, .val false [.ow 19 p.2.2.1])]) (fun p=> [(19, .sl p.2.2.1 true true (some (107,47)) (km p.2.2.2))])
  (fun p g=>s.length≤g+p.1∧p.1≤s.length∧p.2.1≤k0+p.1∧p.2.2.2.length≤2 * p.1∧dF l s cl s.length 0 k0 []=dF l s cl g p.1 p.2.1 p.2.2.2) (0,k0,_,[]) s.length (by simp(disch:=omega) [VZ];rfl) (by simp(disch:=omega) [km,VZ]) ⟨by simp,by simp,by simp,by simp,rfl⟩ ?_
 rintro⟨a,k,v,x⟩ nx g ⟨hg,h5,h6,h7,h8⟩ P hP
 simp only at hg h5 h6 h7 h8
 have hl:(km x).length=x.length:=ij x
 simp(disch:=omega) [VZ]
 refine ab (fun h9=> ?_) (fun h9=> ?_)
 ·obtain⟨g1,rfl⟩:∃g1,g=g1+1:=⟨g - 1,by omega⟩
  have h0:=gW l s a hs (by omega)
  have hc:=DN l s a
  rcases hf:aq l s a with⟨st,n⟩
  rw[hf]at h0 hc
  simp only[fq]at h0
  simp only at hc
  simp(disch:=omega) [VZ]
  refine av (h0) ?_ (ha:=by first|rfl|(simp[ah.c,VY] <;>repeat' constructor))
  rcases hc with rfl|rfl|rfl|rfl
  case inr.inl=>
   cases cl with
   |false=>
    rw[H0 h9 (by rw[hf]) rfl]at h8
    simp(disch:=omega) [fw,yG,h8,VZ]
   |true=>
    rw[BP h9 (by simp) (by rw[hf];simp)]at h8
    simp(disch:=omega) [VZ]
    exact hP (a+1,k+1,v,x) g1 _ _ (by omega) ⟨by simp only;omega,by simp only;omega,by simp only;omega,by simp only;omega,h8⟩ (by simp(disch:=omega) [VZ] <;>rfl) (by simp(disch:=omega) [VZ])
  case inr.inr.inr=>
   obtain⟨n',hf',n9,nl,hok⟩:=ig (by rw[hf]:(aq l s a).1=3)
   rw[hf]at hf'
   obtain rfl:n=(n':Int):=by simpa using hf'
   rw[Iz h9 hf]at h8
   have hfl:=Ek (s:=s) (a:=a) (n:=n')
   have hd:=BI (d4 s a n') l (by omega)
   have he:rM l (d4 s a n')=if(dec l (d4 s a n')).2=0 then⟨3,0,(dec l (d4 s a n')).1⟩else⟨2,(dec l (d4 s a n')).2,au⟩:=rfl
   rw[he]at h8
   clear he
   generalize dec l (d4 s a n')=d at hd h8
   obtain⟨dm,dc⟩:=d
   simp only[gF,aW.o]at hd h8
   by_cases k1:k=0
   ·subst k1
    simp(disch:=omega) [VZ]
    refine av (qq l s a n' hs hf n9 nl) ?_ (ha:=by first|rfl|(simp[ah.c,VY] <;>repeat' constructor))
    simp(disch:=omega) [VZ]
    refine av (hd) ?_ (ha:=by first|rfl|(simp[ah.c,VY] <;>repeat' constructor))
    by_cases d0:dc=0
    ·subst d0
     simp(disch:=omega) [Jo,hl,VZ]
     exact hP (a+n',0,_,x++ [⟨3,0,dm⟩]) g1 _ _ (by omega) ⟨by simp only;omega,by simp only;omega,by simp only;omega,by simp only[List.length_append,List.length_cons,List.length_nil];omega,by rw[h8];simp[d7]⟩ (by simp(disch:=omega) [VZ] <;>rfl) (by simp(disch:=omega) [VZ])
    ·simp(disch:=omega) [d0,FI,hl,VZ]
     exact hP (a+n',0,_,x++ [⟨2,dc,au⟩]) g1 _ _ (by omega) ⟨by simp only;omega,by simp only;omega,by simp only;omega,by simp only[List.length_append,List.length_cons,List.length_nil];omega,by rw[h8];simp[d7,d0]⟩ (by simp(disch:=omega) [VZ] <;>rfl) (by simp(disch:=omega) [VZ])
   ·simp(disch:=omega) [k1,FI,hl,VZ]
    refine av (qq l s a n' hs hf n9 nl) ?_ (ha:=by first|rfl|(simp[ah.c,VY] <;>repeat' constructor))
    have hl3:(km (x++ [⟨1,(k:Int),au⟩])).length=x.length+1:=by simp[ij]
    simp(disch:=omega) [VZ]
    refine av (hd) ?_ (ha:=by first|rfl|(simp[ah.c,VY] <;>repeat' constructor))
    by_cases d0:dc=0
    ·subst d0
     simp(disch:=omega) [Jo,hl3,VZ]
     exact hP (a+n',0,_,x++ [⟨1,(k:Int),au⟩]++ [⟨3,0,dm⟩]) g1 _ _ (by omega) ⟨by simp only;omega,by simp only;omega,by simp only;omega,by simp only[List.length_append,List.length_cons,List.length_nil];omega,by rw[h8];simp[d7,k1]⟩ (by simp(disch:=omega) [VZ] <;>rfl) (by simp(disch:=omega) [VZ])
    ·simp(disch:=omega) [d0,FI,hl3,VZ]
     exact hP (a+n',0,_,x++ [⟨1,(k:Int),au⟩]++ [⟨2,dc,au⟩]) g1 _ _ (by omega) ⟨by simp only;omega,by simp only;omega,by simp only;omega,by simp only[List.length_append,List.length_cons,List.length_nil];omega,by rw[h8];simp[d7,k1,d0]⟩ (by simp(disch:=omega) [VZ] <;>rfl) (by simp(disch:=omega) [VZ])
  all_goals
   rw[BP h9 (by rw[hf];simp) (by rw[hf];simp)]at h8
   simp(disch:=omega) [VZ]
   exact hP (a+1,k+1,v,x) g1 _ _ (by omega) ⟨by simp only;omega,by simp only;omega,by simp only;omega,by simp only;omega,h8⟩ (by simp(disch:=omega) [VZ] <;>rfl) (by simp(disch:=omega) [VZ])
 ·rw[Kp h9]at h8
  cases cl with
  |false=>simp(disch:=omega) [fw,yG,h8,VZ]
  |true=>
   by_cases k1:k=0
   ·simp(disch:=omega) [k1,fw,yG,h8,d7,VZ]
   ·simp(disch:=omega) [k1,fw,yG,h8,d7,FI,hl,VZ]
end Go.Eng.F
namespace Go.Eng.F
theorem A9 {l:ah} {s:Bytes} {cl:Bool}:∀(g a k:Nat) (e:List Ev),a≤s.length→(dF l s cl g a k e).2.2≤s.length∧(dF l s cl g a k e).2.1+a≤k+(dF l s cl g a k e).2.2∧a≤(dF l s cl g a k e).2.2
 |0,a,k,e,h=>⟨h,by simp only[dF];omega,by simp only[dF];omega⟩
 |g+1,a,k,e,h=>by
  rw[dF]
  split
  ·rename_i h1
   split
   ·exact⟨h,by simp only;omega,by simp only;omega⟩
   ·split
    ·have:=A9 (l:=l) (s:=s) (cl:=cl) g (a+1) (k+1) e (by omega)
     omega
    ·rename_i h3
     obtain⟨n,hn,h9,hl,_⟩:=ig (Decidable.not_not.1 h3)
     have e1:(aq l s a).2.toNat=n:=by rw[hn];rfl
     rw[e1]
     have:=A9 (l:=l) (s:=s) (cl:=cl) g (a+n) 0 (e++(d7 k++ [rM l (d4 s a n)])) (by omega)
     omega
  ·exact⟨h,by simp only;omega,by simp only;omega⟩
def parse (l:ah) (s:Bytes) (cl:Bool):List Ev:=if l.ok=true then(fw l s cl 0).1 else []
def tail (l:ah) (s:Bytes):Nat×Nat:=if l.ok=true then((fw l s false 0).2.1,s.length - (fw l s false 0).2.2)else(0,0)
abbrev wu:Nat:=50
def wm:AF:=⟨3,5,[.tmp 6],(.seq (.ops [.i (.lbox 3 (.s 0)), .i (.mov 6 (.c (.val false [.nils])))]) (.seq (.seq (.ops [ql 10 3 3 5 true,qk 12 95 10, .i (.not 12 (.s 11))]) (.cond (.s 12) (.seq (.ops [.i (.mov 6 (.c (.val false [.nils])))]) .ret) .skip)) (.seq (.ops [ql 14 3 3 5 true,qm 15 1,qm 16 2, .i (.call 18 94 false [(.s 14),(.s 15),(.s 16),(qi 0)]),qm 13 17, .i (.ext 18 (.s 13) 0), .i (.ext 19 (.s 13) 1), .i (.ext 20 (.s 13) 2),qm 7 18,qm 8 19,qm 9 20]) (.seq (.ops [qm 21 7,qm 6 21]) .ret))))⟩
theorem FC:cd wu=some wm:=by kernel_rfl
theorem ug (l:ah) (s:Bytes) (cl:Bool) (hs:s.length≤1073741824):VC cd wu (aE [(true,l.c),(false,[.sl (bytes s)]),(false,[.bool cl])]) (fun rs _=>rs= [(false,[.o true (some (107,47)) (km (parse l s cl))])]):=by
 refine VC.lL ?_
 refine aa FC rfl ?_
 simp(disch:=omega) [wm,ah.c,VZ]
 refine av (ba l) ?_ (ha:=by first|rfl|(simp[ah.c,VY] <;>repeat' constructor))
 simp(disch:=omega) [VZ]
 refine aw (fun h1=> ?_) (fun h1=> ?_)
 case refine_2=>simp(disch:=omega) [h1,parse,ET,aG,aL,aR,VZ]
 simp(disch:=omega) [h1,VZ]
 have hd:=lA l s cl 0 hs (by omega)
 simp only[yG]at hd
 refine av (hd) ?_ (ha:=by first|rfl|(simp[ah.c,VY] <;>repeat' constructor))
 simp(disch:=omega) [h1,parse,aG,aL,aR,VZ]
def feed (l:ah) (p:c6) (b:Bytes):c6×List Ev:=if oL l p=true then(⟨((fw l (p.buf++b) false p.skip.toNat).2.1:Int),(p.buf++b).drop (fw l (p.buf++b) false p.skip.toNat).2.2⟩,(fw l (p.buf++b) false p.skip.toNat).1)else(p,[])
def close (l:ah) (p:c6):List Ev:=if oL l p=true then(fw l p.buf true p.skip.toNat).1 else []
theorem yy {l:ah} {p:c6} (h:oL l p=true):0≤p.skip∧p.skip≤1152921504606846975:=by
 simp only[oL,isNum,cf,Bool.and_eq_true,decide_eq_true_eq]at h
 omega
abbrev iq:Nat:=92
def iK:AF:=⟨1,4,[.cell 2 2 true],(.seq (.ops [.i (.lbox 1 (.s 0)), .i (.lal 2 [.int .i64 0, .nils])]) (.seq (.ops [qf 3 1 0,ql 4 1 3 1 false,qf 5 1 1,ql 6 1 5 1 false,qk 8 93 6, .i (.bld 8 [.int .i64 0, .nils] [(0,1,(.s 4)),(1,1,(.s 7))]),qs 2 2 8 2]) .ret))⟩
theorem uq:cd iq=some iK:=by kernel_rfl
theorem nZ (p:c6) (hb:p.buf.length≤1073741824):VC cd iq (aE [(true,p.c)]) (fun rs _=>rs= [(true,[.p (.int .i64 p.skip), .o true (some (5,1)) (bytes p.buf)])]):=by
 refine aa uq rfl ?_
 simp(disch:=omega) [iK,c6.c,VZ]
 refine av (eb p.buf (by omega)) ?_
 simp(disch:=omega) [VZ]
def wQ (x:c6×List Ev):List (Bool×List E):= [(true,[.p (.int .i64 x.1.skip), .o true (some (5,1)) (bytes x.1.buf)]),(false,[.o true (some (107,47)) (km x.2)])]
abbrev yU:Nat:=17
def yv:AF:=⟨3,6,[.cell 6 2 true, .tmp 7],(.seq (.ops [.i (.lbox 3 (.s 0)), .i (.lbox 4 (.s 1)), .i (.lal 6 [.int .i64 0, .nils]), .i (.mov 7 (.c (.val false [.nils])))]) (.seq (.seq (.ops [ql 12 3 3 5 true,ql 13 4 4 2 true, .i (.call 15 48 false [(.s 12),(.s 13)]), .i (.not 15 (.s 14))]) (.cond (.s 15) (.seq (.ops [ql 16 4 4 2 true,qk 18 92 16,qs 6 6 17 2, .i (.mov 7 (.c (.val false [.nils])))]) .ret) .skip)) (.seq (.ops [qf 18 4 1,ql 19 4 18 1 false,qk 21 93 19,qm 21 2, .i (.app 22 5 1 1 (.s 20) (.s 21)),qm 8 22]) (.seq (.ops [ql 24 3 3 5 true,qm 25 8,qf 26 4 0,ql 27 4 26 1 false, .i (.call 29 94 false [(.s 24),(.s 25),(qb false),(.s 27)]),qm 23 28, .i (.ext 29 (.s 23) 0), .i (.ext 30 (.s 23) 1), .i (.ext 31 (.s 23) 2),qm 9 29,qm 10 30,qm 11 31]) (.seq (.ops [qm 32 10,qm 33 8,qm 34 11, .i (.eA 35 1 (.s 33) (some (.s 34)) none),qk 37 93 35, .i (.bld 37 [.int .i64 0, .nils] [(0,1,(.s 32)),(1,1,(.s 36))]),qm 38 9,qs 6 6 37 2,qm 7 38]) .ret)))))⟩
theorem GY:cd yU=some yv:=by kernel_rfl
theorem vN (l:ah) (p:c6) (b:Bytes) (hb:p.buf.length+b.length≤1073741824):VC cd yU (aE [(true,l.c),(true,p.c),(false,[.sl (bytes b)])]) (fun rs _=>rs=wQ (feed l p b)):=by
 refine VC.lL ?_
 have hlen:(p.buf++b).length≤1073741824:=by rw[List.length_append];exact hb
 have h2:=A9 (l:=l) (s:=p.buf++b) (cl:=false) (p.buf++b).length 0 p.skip.toNat [] (by omega)
 refine aa GY rfl ?_
 simp(disch:=omega) [yv,ah.c,c6.c,VZ]
 refine av (ix l p (by omega)) ?_ (ha:=by first|rfl|(simp[ah.c,c6.c,VY] <;>repeat' constructor))
 simp(disch:=omega) [VZ]
 refine aw (fun h1=> ?_) (fun h1=> ?_)
 case refine_2=>
  simp(disch:=omega) [h1,VZ]
  refine av (nZ p (by omega)) ?_ (ha:=by first|rfl|(simp[c6.c,VY] <;>repeat' constructor))
  simp(disch:=omega) [feed,wQ,h1,ET,aG,aL,aR,VZ]
 have hk:=yy h1
 have e2:((p.skip.toNat:Nat):Int)=p.skip:=by omega
 simp(disch:=omega) [h1,VZ]
 refine av (eb p.buf (by omega)) ?_
 simp(disch:=omega) [bE,VZ]
 have hd:=lA l (p.buf++b) false p.skip.toNat hlen (by omega)
 rw[e2]at hd
 simp only[yG]at hd
 refine av (hd) ?_ (ha:=by first|rfl|(simp[ah.c,VY] <;>repeat' constructor))
 have h3:(fw l (p.buf++b) false p.skip.toNat).2.2≤(p.buf++b).length:=h2.1
 have hf:feed l p b=(⟨((fw l (p.buf++b) false p.skip.toNat).2.1:Int),(p.buf++b).drop (fw l (p.buf++b) false p.skip.toNat).2.2⟩,(fw l (p.buf++b) false p.skip.toNat).1):=by rw[feed,if_pos h1]
 rw[hf]
 generalize fw l (p.buf++b) false p.skip.toNat=r at h3⊢
 rw[List.length_append]at h3
 have f4:(r.2.2:Int)≤(p.buf.length:Int)+(b.length:Int):=by omega
 have e4:List.take (((p.buf.length:Int)+(b.length:Int)).toNat - r.2.2) (List.drop r.2.2 (bytes (p.buf++b)))=bytes ((p.buf++b).drop r.2.2):=by
  rw[show((p.buf.length:Int)+(b.length:Int)).toNat=p.buf.length+b.length by omega,List.take_of_length_le (by simp[bytes])]
  simp[bytes]
 simp(disch:=omega) [f4,e4,VZ]
 refine av (eb ((p.buf++b).drop r.2.2) (by rw[List.length_drop,List.length_append];omega)) ?_
 simp(disch:=omega) [wQ,aG,aL,aR,VZ]
abbrev uU:Nat:=51
def wO:AF:=⟨2,5,[.tmp 4],(.seq (.ops [.i (.lbox 2 (.s 0)), .i (.lbox 3 (.s 1)), .i (.mov 4 (.c (.val false [.nils])))]) (.seq (.seq (.ops [ql 8 2 2 5 true,ql 9 3 3 2 true, .i (.call 11 48 false [(.s 8),(.s 9)]), .i (.not 11 (.s 10))]) (.cond (.s 11) (.seq (.ops [.i (.mov 4 (.c (.val false [.nils])))]) .ret) .skip)) (.seq (.ops [ql 13 2 2 5 true,qf 14 3 1,ql 15 3 14 1 false,qf 16 3 0,ql 17 3 16 1 false, .i (.call 19 94 false [(.s 13),(.s 15),(qb true),(.s 17)]),qm 12 18, .i (.ext 19 (.s 12) 0), .i (.ext 20 (.s 12) 1), .i (.ext 21 (.s 12) 2),qm 5 19,qm 6 20,qm 7 21]) (.seq (.ops [qm 22 5,qm 4 22]) .ret))))⟩
theorem EL:cd uU=some wO:=by kernel_rfl
theorem DM (l:ah) (p:c6) (hb:p.buf.length≤1073741824):VC cd uU (aE [(true,l.c),(true,p.c)]) (fun rs _=>rs= [(false,[.o true (some (107,47)) (km (close l p))])]):=by
 refine VC.lL ?_
 refine aa EL rfl ?_
 simp(disch:=omega) [wO,ah.c,c6.c,VZ]
 refine av (ix l p (by omega)) ?_ (ha:=by first|rfl|(simp[ah.c,c6.c,VY] <;>repeat' constructor))
 simp(disch:=omega) [VZ]
 refine aw (fun h1=> ?_) (fun h1=> ?_)
 case refine_2=>simp(disch:=omega) [h1,close,ET,aG,aL,aR,VZ]
 have hk:=yy h1
 have e2:((p.skip.toNat:Nat):Int)=p.skip:=by omega
 simp(disch:=omega) [h1,VZ]
 have hd:=lA l p.buf true p.skip.toNat hb (by omega)
 rw[e2]at hd
 simp only[yG]at hd
 refine av (hd) ?_ (ha:=by first|rfl|(simp[ah.c,VY] <;>repeat' constructor))
 simp(disch:=omega) [h1,close,aG,aL,aR,VZ]
end Go.Eng.F
namespace Go.Eng.F
def uO (n w:Nat):Bytes:=(List.range w).map fun i=>b8 ((n / 256 ^ i:Nat):Int)
theorem wi (n w:Nat):(uO n w).length=w:=by simp[uO]
theorem Kn (n w:Nat):uO n (w+1)=uO n w++ [b8 ((n / 256 ^ w:Nat):Int)]:=by simp[uO,List.range_succ]
theorem QE (b:Bytes):Le b < 4294967296:=by
 have h:ld (0 ^^^ 4294967295) b < 4294967296:=wJ b (by decide)
 exact Nat.xor_lt_two_pow (n:=32) h (by decide)
def xl (b:Bytes):Bytes:= [181,70]++uO b.length 2++uO (Le b) 4++b
def ia (l:ah) (b:Bytes):Bool:=l.ok && cf b.length 1 l.frame
def xm (l:ah) (b:Bytes):List (Bool×List E):= [(false,[.o true (some (5,1)) (bytes (if ia l b=true then xl b else []))]),(false,[.p (.bool (ia l b))])]
end Go.Eng.F
namespace Go.Eng.F
abbrev oA:Nat:=195
def qy:AF:=⟨2,6,[.cell 4 5 true],(.seq (.ops [.i (.lbox 3 (.s 1)), .i (.lal 4 [.int .i64 0, .int .i64 0, .int .i64 0, .nils, .nils])]) (.seq (.ops [qm 8 0, .i (.call 10 97 false [(.s 8),(qi 8)]), .i (.bin 10 .add (qi 1) (.s 9)),qm 5 10]) (.seq (.seq (.ops [qf 11 3 2,ql 12 3 11 1 false, .i (.bin 13 .gtr (.s 12) (qi 0))]) (.cond (.s 13) (.ops [qm 14 0,qf 15 3 2,ql 16 3 15 1 false, .i (.call 18 97 false [(.s 14),(.s 16)]), .i (.bin 18 .add (qi 1) (.s 17)),qm 5 18]) .skip)) (.seq (.ops [qm 19 0, .i (.call 21 97 false [(.s 19),(qi 200)]),qm 21 5,qm 22 0,qm 23 5, .i (.call 25 97 false [(.s 22),(.s 23)]),qm 25 0, .i (.call 27 138 false [(.s 25),(qi 3)]), .i (.bld 27 [.int .i64 0, .int .i64 0, .int .i64 0, .nils, .nils] [(0,1,(.s 20)),(1,1,(.s 21)),(2,1,(.s 24)),(3,1,(.s 26))]), .i (.lal 6 [.int .i64 0, .int .i64 0, .int .i64 0, .nils, .nils]),qs 6 6 27 5]) (.seq (.seq (.ops [qf 28 3 1,ql 29 3 28 1 false, .i (.bin 30 .lss (.s 29) (qi 3))]) (.cond (.s 30) (.ops [qf 31 6 3, .i (.stl 6 (.s 31) (.c (.val false [.nils])) 1)]) .skip)) (.seq (.seq (.ops [qf 32 6 2,ql 33 6 32 1 false,qm 34 5, .i (.call 36 276 false [(.s 33),(.s 34)]),qm 7 35]) (.block 0 (.loop [46,45,44,43,42,41,40,39,38,37,36] (.seq (.seq (.ops [qm 36 7, .i (.bin 37 .gtr (.s 36) (qi 0))]) (.cond (.s 37) .skip (.exit 0))) (.seq (.block 1 (.ops [qf 40 6 4,ql 41 6 40 1 false,qm 42 0,qk 44 242 42, .i (.lsl 44 1 1 [.nils] [(0,1,(.s 43))]), .i (.app 45 22 1 24 (.s 41) (.s 44)),qf 46 6 4,qs 6 46 45 1])) (.ops [qm 38 7, .i (.bin 39 .sub (.s 38) (qi 1)),qm 7 39])))))) (.seq (.ops [ql 47 6 6 5 true,qs 4 4 47 5]) .ret)))))))⟩
theorem Cu:cd oA=some qy:=by kernel_rfl
theorem Il (b:Bytes) (i:Nat) (h:Int) (l:ah) (hl:l.rd) (hi:i≤b.length) (hb:b.length≤1073741824):VC cd oA (iX [] 133 (cur b i h) [(true,l.c)]) (fun r p=>∃x:bo×Nat×Int,((x.1.wc∧x.1.tx.length≤3)∧x.2.1≤b.length)∧r= [(true,x.1.o)]∧p= [.pt 133 (cur b x.2.1 x.2.2)]):=by
 refine VC.lL ?_
 have hl2:=hl.2.2.1
 obtain⟨m,hm⟩:∃m:Nat,l.txs=(m:Int):=⟨l.txs.toNat,by omega⟩
 refine ay Cu rfl ?_
 simp(disch:=omega) [qy,cur,ah.c,hm,VZ]
 refine cN (ao b i h 8 (by omega) hi hb) ?_
 rintro⟨k1,i1,h1⟩ ⟨g1,j1⟩
 simp only at g1 j1
 simp(disch:=omega) [cur,VZ]
 refine ab (fun h0=> ?_) (fun h0=> ?_)
 case refine_1=>
  simp(disch:=omega) [VZ]
  refine cN (ao b i1 h1 m (by omega) j1 hb) ?_
  rintro⟨k2,i2,h2⟩ ⟨g2,j2⟩
  simp only at g2 j2
  simp(disch:=omega) [cur,VZ]
  have hk:k2 < 8:=by omega
  refine cN (ao b i2 h2 200 (by omega) j2 hb) ?_
  rintro⟨k3,i3,h3⟩ ⟨g3,j3⟩
  simp only at g3 j3
  simp(disch:=omega) [cur,VZ]
  refine cN (ao b i3 h3 (1+k2) (by omega) j3 hb) ?_
  rintro⟨k4,i4,h4⟩ ⟨g4,j4⟩
  simp only at g4 j4
  simp(disch:=omega) [cur,VZ]
  refine cN (dE b i4 h4 3 (by omega) j4 hb) ?_
  rintro⟨x5,i5,h5⟩ ⟨g5,j5⟩
  simp only at g5 j5
  have hpl:=cI (1+k2) k4
  simp(disch:=omega) [cur,VZ]
  refine ab (fun h6=> ?_) (fun h6=> ?_)
  case refine_1=>
   simp(disch:=omega) [VZ]
   refine av (dO (1+k2) k4 (by omega) (by omega)) ?_
   simp(disch:=omega) [VZ]
   refine dr (σ:=Nat×Nat×Nat×Int×List Bytes) (f0:=_) (by simp(disch:=omega) [VZ];rfl) (de.zq (s:=6) (k:=5) (i:=4) rfl rfl) (f1:=_) (es0:=_) (by simp(disch:=omega) [VZ];rfl) (by simp(disch:=omega) [VZ];rfl) (fun p=> [(7, .val false [.int .i64 (p.1:Int)]),(6, .box [.int .i64 (k3:Int), .int .i64 (1+(k2:Int)), .int .i64 (k4:Int), .nils, .ow 5 p.2.1])]) (fun p=> [(4096, .pt 0 133 [.sl (bytes b), .int .i64 (p.2.2.1:Int), .int .i64 p.2.2.2.1]),(5, .sl p.2.1 true true (some (22,1)) (bH p.2.2.2.2))])
    (fun p g=>g=p.1∧p.2.2.1≤b.length∧p.2.2.2.2.length+p.1≤9∧∀t∈p.2.2.2.2,t.length=32) (bj k4 (1+k2),_,i5,h5,[]) (bj k4 (1+k2)) (by simp(disch:=omega) [VZ];rfl) (by simp(disch:=omega) [bH,VZ]) ⟨rfl,j5,by simp;omega,by simp⟩ ?_
   rintro⟨n,v,i7,h7,x⟩ nx g ⟨hg,a5,a6,a7⟩ P hP
   simp only at hg a5 a6 a7
   have hlx:(bH x).length=x.length:=aC x
   simp(disch:=omega) [VZ]
   refine ab (fun h8=> ?_) (fun h8=> ?_)
   case refine_1=>
    simp(disch:=omega) [VZ]
    refine cN (cY b i7 h7 a5 hb) ?_
    rintro⟨y,i8,h9⟩ ⟨g8,j8⟩
    simp only at g8 j8
    have e1:IntKind.i64.wrap ((n:Int) - 1)=((n - 1:Nat):Int):=by rw[yu (by omega) (by omega)];omega
    simp(disch:=omega) [cur,hlx,e1,eE,VZ]
    refine hP (n - 1,_,i8,h9,x++ [y]) (g - 1) _ _ (by omega) ⟨by simp only;omega,j8,by simp;omega,fun z hz=> ?_⟩ (by simp(disch:=omega) [VZ];rfl) (by simp(disch:=omega) [VZ])
    rcases List.mem_append.1 hz with hz|hz
    ·exact a7 z hz
    ·simp only[List.mem_singleton]at hz;subst hz;exact g8
   case refine_2=>
    simp(disch:=omega) [cur,VZ]
    refine⟨[(true,bo.o ⟨k3,1+k2,k4,[],x⟩)],by simp[aG,aL,aR,bo.o,ag],⟨k3,1+k2,k4,[],x⟩,i7,⟨⟨?_,by simp;try omega⟩,a5⟩,rfl,rfl⟩
    refine⟨⟨by simp only;omega,by simp only;omega⟩,⟨by simp only;omega,by simp only;omega⟩,⟨by simp only;omega,by simp only;omega⟩,by unfold Sz;simp;try omega,⟨by unfold Sz;simp only;omega,fun z hz=>by have:=a7 z hz;unfold Sz;omega⟩⟩
  case refine_2=>
   simp(disch:=omega) [VZ]
   refine av (dO (1+k2) k4 (by omega) (by omega)) ?_
   simp(disch:=omega) [VZ]
   refine dr (σ:=Nat×Nat×Nat×Int×List Bytes) (f0:=_) (by simp(disch:=omega) [VZ];rfl) (de.zq (s:=6) (k:=5) (i:=4) rfl rfl) (f1:=_) (es0:=_) (by simp(disch:=omega) [VZ];rfl) (by simp(disch:=omega) [VZ];rfl) (fun p=> [(7, .val false [.int .i64 (p.1:Int)]),(6, .box [.int .i64 (k3:Int), .int .i64 (1+(k2:Int)), .int .i64 (k4:Int), .ow 229376 29, .ow 5 p.2.1])]) (fun p=> [(4096, .pt 0 133 [.sl (bytes b), .int .i64 (p.2.2.1:Int), .int .i64 p.2.2.2.1]),(5, .sl p.2.1 true true (some (22,1)) (bH p.2.2.2.2))])
    (fun p g=>g=p.1∧p.2.2.1≤b.length∧p.2.2.2.2.length+p.1≤9∧∀t∈p.2.2.2.2,t.length=32) (bj k4 (1+k2),_,i5,h5,[]) (bj k4 (1+k2)) (by simp(disch:=omega) [VZ];rfl) (by simp(disch:=omega) [bH,VZ]) ⟨rfl,j5,by simp;omega,by simp⟩ ?_
   rintro⟨n,v,i7,h7,x⟩ nx g ⟨hg,a5,a6,a7⟩ P hP
   simp only at hg a5 a6 a7
   have hlx:(bH x).length=x.length:=aC x
   simp(disch:=omega) [VZ]
   refine ab (fun h8=> ?_) (fun h8=> ?_)
   case refine_1=>
    simp(disch:=omega) [VZ]
    refine cN (cY b i7 h7 a5 hb) ?_
    rintro⟨y,i8,h9⟩ ⟨g8,j8⟩
    simp only at g8 j8
    have e1:IntKind.i64.wrap ((n:Int) - 1)=((n - 1:Nat):Int):=by rw[yu (by omega) (by omega)];omega
    simp(disch:=omega) [cur,hlx,e1,eE,VZ]
    refine hP (n - 1,_,i8,h9,x++ [y]) (g - 1) _ _ (by omega) ⟨by simp only;omega,j8,by simp;omega,fun z hz=> ?_⟩ (by simp(disch:=omega) [VZ];rfl) (by simp(disch:=omega) [VZ])
    rcases List.mem_append.1 hz with hz|hz
    ·exact a7 z hz
    ·simp only[List.mem_singleton]at hz;subst hz;exact g8
   case refine_2=>
    simp(disch:=omega) [cur,VZ]
    refine⟨[(true,bo.o ⟨k3,1+k2,k4,x5,x⟩)],by simp[aG,aL,aR,bo.o,ag],⟨k3,1+k2,k4,x5,x⟩,i7,⟨⟨?_,by simp;try omega⟩,a5⟩,rfl,rfl⟩
    refine⟨⟨by simp only;omega,by simp only;omega⟩,⟨by simp only;omega,by simp only;omega⟩,⟨by simp only;omega,by simp only;omega⟩,by unfold Sz;simp;try omega,⟨by unfold Sz;simp only;omega,fun z hz=>by have:=a7 z hz;unfold Sz;omega⟩⟩
 case refine_2=>
  simp(disch:=omega) [VZ]
  have hk:k1 < 8:=by omega
  refine cN (ao b i1 h1 200 (by omega) j1 hb) ?_
  rintro⟨k3,i3,h3⟩ ⟨g3,j3⟩
  simp only at g3 j3
  simp(disch:=omega) [cur,VZ]
  refine cN (ao b i3 h3 (1+k1) (by omega) j3 hb) ?_
  rintro⟨k4,i4,h4⟩ ⟨g4,j4⟩
  simp only at g4 j4
  simp(disch:=omega) [cur,VZ]
  refine cN (dE b i4 h4 3 (by omega) j4 hb) ?_
  rintro⟨x5,i5,h5⟩ ⟨g5,j5⟩
  simp only at g5 j5
  have hpl:=cI (1+k1) k4
  simp(disch:=omega) [cur,VZ]
  refine ab (fun h6=> ?_) (fun h6=> ?_)
  case refine_1=>
   simp(disch:=omega) [VZ]
   refine av (dO (1+k1) k4 (by omega) (by omega)) ?_
   simp(disch:=omega) [VZ]
   refine dr (σ:=Nat×Nat×Nat×Int×List Bytes) (f0:=_) (by simp(disch:=omega) [VZ];rfl) (de.zq (s:=6) (k:=5) (i:=4) rfl rfl) (f1:=_) (es0:=_) (by simp(disch:=omega) [VZ];rfl) (by simp(disch:=omega) [VZ];rfl) (fun p=> [(7, .val false [.int .i64 (p.1:Int)]),(6, .box [.int .i64 (k3:Int), .int .i64 (1+(k1:Int)), .int .i64 (k4:Int), .nils, .ow 5 p.2.1])]) (fun p=> [(4096, .pt 0 133 [.sl (bytes b), .int .i64 (p.2.2.1:Int), .int .i64 p.2.2.2.1]),(5, .sl p.2.1 true true (some (22,1)) (bH p.2.2.2.2))])
    (fun p g=>g=p.1∧p.2.2.1≤b.length∧p.2.2.2.2.length+p.1≤9∧∀t∈p.2.2.2.2,t.length=32) (bj k4 (1+k1),_,i5,h5,[]) (bj k4 (1+k1)) (by simp(disch:=omega) [VZ];rfl) (by simp(disch:=omega) [bH,VZ]) ⟨rfl,j5,by simp;omega,by simp⟩ ?_
   rintro⟨n,v,i7,h7,x⟩ nx g ⟨hg,a5,a6,a7⟩ P hP
   simp only at hg a5 a6 a7
   have hlx:(bH x).length=x.length:=aC x
   simp(disch:=omega) [VZ]
   refine ab (fun h8=> ?_) (fun h8=> ?_)
   case refine_1=>
    simp(disch:=omega) [VZ]
    refine cN (cY b i7 h7 a5 hb) ?_
    rintro⟨y,i8,h9⟩ ⟨g8,j8⟩
    simp only at g8 j8
    have e1:IntKind.i64.wrap ((n:Int) - 1)=((n - 1:Nat):Int):=by rw[yu (by omega) (by omega)];omega
    simp(disch:=omega) [cur,hlx,e1,eE,VZ]
    refine hP (n - 1,_,i8,h9,x++ [y]) (g - 1) _ _ (by omega) ⟨by simp only;omega,j8,by simp;omega,fun z hz=> ?_⟩ (by simp(disch:=omega) [VZ];rfl) (by simp(disch:=omega) [VZ])
    rcases List.mem_append.1 hz with hz|hz
    ·exact a7 z hz
    ·simp only[List.mem_singleton]at hz;subst hz;exact g8
   case refine_2=>
    simp(disch:=omega) [cur,VZ]
    refine⟨[(true,bo.o ⟨k3,1+k1,k4,[],x⟩)],by simp[aG,aL,aR,bo.o,ag],⟨k3,1+k1,k4,[],x⟩,i7,⟨⟨?_,by simp;try omega⟩,a5⟩,rfl,rfl⟩
    refine⟨⟨by simp only;omega,by simp only;omega⟩,⟨by simp only;omega,by simp only;omega⟩,⟨by simp only;omega,by simp only;omega⟩,by unfold Sz;simp;try omega,⟨by unfold Sz;simp only;omega,fun z hz=>by have:=a7 z hz;unfold Sz;omega⟩⟩
  case refine_2=>
   simp(disch:=omega) [VZ]
   refine av (dO (1+k1) k4 (by omega) (by omega)) ?_
   simp(disch:=omega) [VZ]
   refine dr (σ:=Nat×Nat×Nat×Int×List Bytes) (f0:=_) (by simp(disch:=omega) [VZ];rfl) (de.zq (s:=6) (k:=5) (i:=4) rfl rfl) (f1:=_) (es0:=_) (by simp(disch:=omega) [VZ];rfl) (by simp(disch:=omega) [VZ];rfl) (fun p=> [(7, .val false [.int .i64 (p.1:Int)]),(6, .box [.int .i64 (k3:Int), .int .i64 (1+(k1:Int)), .int .i64 (k4:Int), .ow 229376 24, .ow 5 p.2.1])]) (fun p=> [(4096, .pt 0 133 [.sl (bytes b), .int .i64 (p.2.2.1:Int), .int .i64 p.2.2.2.1]),(5, .sl p.2.1 true true (some (22,1)) (bH p.2.2.2.2))])
    (fun p g=>g=p.1∧p.2.2.1≤b.length∧p.2.2.2.2.length+p.1≤9∧∀t∈p.2.2.2.2,t.length=32) (bj k4 (1+k1),_,i5,h5,[]) (bj k4 (1+k1)) (by simp(disch:=omega) [VZ];rfl) (by simp(disch:=omega) [bH,VZ]) ⟨rfl,j5,by simp;omega,by simp⟩ ?_
   rintro⟨n,v,i7,h7,x⟩ nx g ⟨hg,a5,a6,a7⟩ P hP
   simp only at hg a5 a6 a7
   have hlx:(bH x).length=x.length:=aC x
   simp(disch:=omega) [VZ]
   refine ab (fun h8=> ?_) (fun h8=> ?_)
   case refine_1=>
    simp(disch:=omega) [VZ]
    refine cN (cY b i7 h7 a5 hb) ?_
    rintro⟨y,i8,h9⟩ ⟨g8,j8⟩
    simp only at g8 j8
    have e1:IntKind.i64.wrap ((n:Int) - 1)=((n - 1:Nat):Int):=by rw[yu (by omega) (by omega)];omega
    simp(disch:=omega) [cur,hlx,e1,eE,VZ]
    refine hP (n - 1,_,i8,h9,x++ [y]) (g - 1) _ _ (by omega) ⟨by simp only;omega,j8,by simp;omega,fun z hz=> ?_⟩ (by simp(disch:=omega) [VZ];rfl) (by simp(disch:=omega) [VZ])
    rcases List.mem_append.1 hz with hz|hz
    ·exact a7 z hz
    ·simp only[List.mem_singleton]at hz;subst hz;exact g8
   case refine_2=>
    simp(disch:=omega) [cur,VZ]
    refine⟨[(true,bo.o ⟨k3,1+k1,k4,x5,x⟩)],by simp[aG,aL,aR,bo.o,ag],⟨k3,1+k1,k4,x5,x⟩,i7,⟨⟨?_,by simp;try omega⟩,a5⟩,rfl,rfl⟩
    refine⟨⟨by simp only;omega,by simp only;omega⟩,⟨by simp only;omega,by simp only;omega⟩,⟨by simp only;omega,by simp only;omega⟩,by unfold Sz;simp;try omega,⟨by unfold Sz;simp only;omega,fun z hz=>by have:=a7 z hz;unfold Sz;omega⟩⟩
theorem Jg:gm.wc:=⟨⟨⟨by decide,by decide⟩,⟨by decide,by decide⟩,by simp[gm,Sz],by simp[gm,Sz],by simp[gm,Sz]⟩,fun x hx=>by simp[gm]at hx⟩
theorem FV:au.wc:=by
 refine⟨⟨by decide,by decide⟩,⟨⟨by decide,by decide⟩,⟨by decide,by decide⟩,by simp[au,bI,Sz],⟨by decide,by decide⟩,by simp[au,bI,Sz]⟩,Jg,Cg,⟨⟨Cg,by simp[au,aF,rk,Sz]⟩,by simp[au,aF]⟩,⟨⟨by decide,by decide⟩,by simp[au,iW,Sz],by simp[au,iW]⟩,⟨⟨⟨by simp[au,aK,Sz],by simp[au,aK]⟩,Jg.1⟩,by simp[au,aK],Jg⟩,⟨⟨by decide,by decide⟩,⟨by decide,by decide⟩,⟨by decide,by decide⟩,by simp[au,bD,Sz],by simp[au,bD,rk,Sz]⟩,by simp[au,bD]⟩
abbrev pQ:Nat:=134
def qQ:AF:=⟨2,6,[.cell 4 45 true],(.seq (.ops [.i (.lbox 3 (.s 1)), .i (.lal 4 [.int .i64 0, .int .i64 0, .int .i64 0, .nils, .int .i64 0, .nils, .int .i64 0, .int .i64 0, .nils, .nils, .nils, .int .i64 0, .int .i64 0, .int .i64 0, .nils, .nils, .int .i64 0, .int .i64 0, .nils, .nils, .nils, .int .i64 0, .int .i64 0, .int .i64 0, .nils, .nils, .int .i64 0, .int .i64 0, .nils, .nils, .nils, .nils, .int .i64 0, .nils, .nils, .int .i64 0, .int .i64 0, .nils, .nils, .nils, .int .i64 0, .int .i64 0, .int .i64 0, .nils, .nils])]) (.seq (.seq (.ops [qm 5 0, .i (.call 7 97 false [(.s 5),(qi 9)])]) (.block 0 (.seq (.ops [.i (.bin 8 .eql (.s 6) (qi 0)),qm 7 8]) (.cond (.s 7) (.seq (.ops [qm 9 0,ql 10 3 3 5 true, .i (.call 12 185 false [(.s 9),(.s 10)]),qk 13 184 11,qs 4 4 12 45]) .ret) (.seq (.ops [.i (.bin 14 .eql (.s 6) (qi 1)),qm 13 14]) (.cond (.s 13) (.seq (.ops [qm 15 0,ql 16 3 3 5 true, .i (.call 18 187 false [(.s 15),(.s 16)]),qk 19 186 17,qs 4 4 18 45]) .ret) (.seq (.ops [.i (.bin 20 .eql (.s 6) (qi 2)),qm 19 20]) (.cond (.s 19) (.seq (.ops [qm 21 0,ql 22 3 3 5 true, .i (.call 24 189 false [(.s 21),(.s 22)]),qk 25 188 23,qs 4 4 24 45]) .ret) (.seq (.ops [.i (.bin 26 .eql (.s 6) (qi 3)),qm 25 26]) (.cond (.s 25) (.seq (.ops [qm 27 0,ql 28 3 3 5 true, .i (.call 30 191 false [(.s 27),(.s 28)]),qk 31 190 29,qs 4 4 30 45]) .ret) (.seq (.ops [.i (.bin 32 .eql (.s 6) (qi 4)),qm 31 32]) (.cond (.s 31) (.seq (.ops [qm 33 0,ql 34 3 3 5 true, .i (.call 36 193 false [(.s 33),(.s 34)]),qk 37 192 35,qs 4 4 36 45]) .ret) (.seq (.ops [.i (.bin 38 .eql (.s 6) (qi 5)),qm 37 38]) (.cond (.s 37) (.seq (.ops [qf 39 3 2,ql 40 3 39 1 false, .i (.bin 41 .gtr (.s 40) (qi 0))]) (.cond (.s 41) (.seq (.ops [qm 42 0,ql 43 3 3 5 true, .i (.call 45 195 false [(.s 42),(.s 43)]),qk 46 194 44,qs 4 4 45 45]) .ret) .skip)) .skip)))))))))))))) (.seq (.ops [qm 46 0,ql 47 3 3 5 true, .i (.call 49 161 false [(.s 46),(.s 47)]),qk 50 160 48,qs 4 4 49 45]) .ret)))⟩
theorem Bs:cd pQ=some qQ:=by kernel_rfl
theorem H3 (b:Bytes) (i:Nat) (h:Int) (l:ah) (hl:l.rd) (hi:i≤b.length) (hb:b.length≤1073741824):VC cd pQ (iX [] 133 (cur b i h) [(true,l.c)]) (fun r p=>∃x:aW×Nat×Int,(x.1.wc∧x.2.1≤b.length)∧r= [(true,x.1.o)]∧p= [.pt 133 (cur b x.2.1 x.2.2)]):=by
 refine VC.lL ?_
 refine ay Bs rfl ?_
 simp(disch:=omega) [qQ,cur,ah.c,VZ]
 refine cN (ao b i h 9 (by omega) hi hb) ?_
 rintro⟨k1,i1,h1⟩ ⟨g1,j1⟩
 simp only at g1 j1
 have hk:k1=0∨k1=1∨k1=2∨k1=3∨k1=4∨k1=5∨k1=6∨k1=7∨k1=8:=by omega
 rcases hk with rfl|rfl|rfl|rfl|rfl|rfl|hk
 ·simp(disch:=omega) [cur,VZ]
  refine cN (uL b i1 h1 l hl.1 j1 hb) ?_ (n1:=by intro _;simp(disch:=omega) [ah.c,Qc.o,VZ]) (n3:=by intro _;simp(disch:=omega) [ah.c,Qc.o,VZ])
  rintro⟨x2,i2,h2⟩ ⟨g2,j2⟩
  simp only at g2 j2
  simp(disch:=omega) [cur,Qc.o,VZ]
  refine av (vB x2 (g2.wc)) ?_ (ha:=by first|rfl|(simp[Qc.c,Head.c,Qc.c,VY] <;>repeat' constructor))
  simp(disch:=omega) [cur,Eb,aG,aL,aR,VZ]
  exact⟨[(true,aW.o {au with kind:=2,qc:=x2})],by simp[aG,aL,aR,aW.o,au,bI,gm,bm,aF,iW,aK,bD,ag,aY,aZ,aX],{au with kind:=2,qc:=x2},i2,⟨{FV with kind:=⟨by simp only;omega,by simp only;omega⟩,qc:=g2.wc},j2⟩,rfl,rfl⟩
 ·simp(disch:=omega) [cur,VZ]
  refine cN (lW b i1 h1 l hl.1 j1 hb) ?_ (n1:=by intro _;simp(disch:=omega) [ah.c,Head.o,VZ]) (n3:=by intro _;simp(disch:=omega) [ah.c,Head.o,VZ])
  rintro⟨x2,i2,h2⟩ ⟨g2,j2⟩
  simp only at g2 j2
  simp(disch:=omega) [cur,Head.o,VZ]
  refine av (qW x2 g2) ?_ (ha:=by first|rfl|(simp[Head.c,Head.c,Qc.c,VY] <;>repeat' constructor))
  simp(disch:=omega) [cur,rT,aG,aL,aR,VZ]
  exact⟨[(true,aW.o {au with kind:=3,head:=x2})],by simp[aG,aL,aR,aW.o,au,bI,gm,bm,aF,iW,aK,bD,ag,aY,aZ,aX],{au with kind:=3,head:=x2},i2,⟨{FV with kind:=⟨by simp only;omega,by simp only;omega⟩,head:=g2},j2⟩,rfl,rfl⟩
 ·simp(disch:=omega) [cur,VZ]
  refine cN (Im b i1 h1 l hl j1 hb) ?_ (n1:=by intro _;simp(disch:=omega) [ah.c,Block.o,VZ]) (n3:=by intro _;simp(disch:=omega) [ah.c,Block.o,VZ])
  rintro⟨x2,i2,h2⟩ ⟨g2,j2⟩
  simp only at g2 j2
  simp(disch:=omega) [cur,Block.o,VZ]
  refine av (mX x2 g2.1) ?_ (ha:=by first|rfl|(simp[Block.c,Head.c,Qc.c,VY] <;>repeat' constructor))
  simp(disch:=omega) [cur,kT,aG,aL,aR,VZ]
  exact⟨[(true,aW.o {au with kind:=4,block:=x2})],by simp[aG,aL,aR,aW.o,au,bI,gm,bm,aF,iW,aK,bD,ag,aY,aZ,aX],{au with kind:=4,block:=x2},i2,⟨{FV with kind:=⟨by simp only;omega,by simp only;omega⟩,block:=g2},j2⟩,rfl,rfl⟩
 ·simp(disch:=omega) [cur,VZ]
  refine cN (Jd b i1 h1 l hl.1 j1 hb) ?_ (n1:=by intro _;simp(disch:=omega) [ah.c,Tc.o,VZ]) (n3:=by intro _;simp(disch:=omega) [ah.c,Tc.o,VZ])
  rintro⟨x2,i2,h2⟩ ⟨g2,j2⟩
  simp only at g2 j2
  simp(disch:=omega) [cur,Tc.o,VZ]
  refine av (vH x2 g2) ?_ (ha:=by first|rfl|(simp[Tc.c,Head.c,Qc.c,VY] <;>repeat' constructor))
  simp(disch:=omega) [cur,D8,aG,aL,aR,VZ]
  exact⟨[(true,aW.o {au with kind:=5,tc:=x2})],by simp[aG,aL,aR,aW.o,au,bI,gm,bm,aF,iW,aK,bD,ag,aY,aZ,aX],{au with kind:=5,tc:=x2},i2,⟨{FV with kind:=⟨by simp only;omega,by simp only;omega⟩,tc:=g2},j2⟩,rfl,rfl⟩
 ·simp(disch:=omega) [cur,VZ]
  refine cN (IJ b i1 h1 l hl j1 hb) ?_ (n1:=by intro _;simp(disch:=omega) [ah.c,Proof.o,VZ]) (n3:=by intro _;simp(disch:=omega) [ah.c,Proof.o,VZ])
  rintro⟨x2,i2,h2⟩ ⟨g2,j2⟩
  simp only at g2 j2
  simp(disch:=omega) [cur,Proof.o,VZ]
  refine av (mK x2 g2) ?_ (ha:=by first|rfl|(simp[Proof.c,Head.c,Qc.c,VY] <;>repeat' constructor))
  simp(disch:=omega) [cur,kG,aG,aL,aR,VZ]
  exact⟨[(true,aW.o {au with kind:=6,proof:=x2})],by simp[aG,aL,aR,aW.o,au,bI,gm,bm,aF,iW,aK,bD,ag,aY,aZ,aX],{au with kind:=6,proof:=x2},i2,⟨{FV with kind:=⟨by simp only;omega,by simp only;omega⟩,proof:=g2},j2⟩,rfl,rfl⟩
 ·simp(disch:=omega) [cur,VZ]
  refine ab (fun h5=> ?_) (fun h5=> ?_)
  case refine_2=>
   simp(disch:=omega) [VZ]
   refine cN (um b i1 h1 l hl.1 j1 hb) ?_ (n1:=by intro _;simp(disch:=omega) [ah.c,bu.o,VZ]) (n3:=by intro _;simp(disch:=omega) [ah.c,bu.o,VZ])
   rintro⟨x2,i2,h2⟩ ⟨⟨g2,g3,g4,g5,g6⟩,j2⟩
   simp only at g2 g3 g4 g5 g6 j2
   have hw:x2.wf:=⟨cH g2,cH g3,by unfold Sz;omega,by have:=cX g5;have:=hl.1;exact⟨by omega,by omega⟩,by unfold Sz;omega⟩
   simp(disch:=omega) [cur,bu.o,VZ]
   refine av (fF x2 hw) ?_ (ha:=by first|rfl|(simp[bu.c,VY] <;>repeat' constructor))
   simp(disch:=omega) [cur,iZ,aG,aL,aR,VZ]
   exact⟨[(true,aW.o {au with kind:=1,vote:=x2})],by simp[aG,aL,aR,aW.o,au,bI,gm,bm,aF,iW,aK,bD,ag,aY,aZ,aX],{au with kind:=1,vote:=x2},i2,⟨{FV with kind:=⟨by simp only;omega,by simp only;omega⟩,vote:=hw},j2⟩,rfl,rfl⟩
  simp(disch:=omega) [VZ]
  refine cN (Il b i1 h1 l hl j1 hb) ?_ (n1:=by intro _;simp(disch:=omega) [ah.c,bo.o,VZ]) (n3:=by intro _;simp(disch:=omega) [ah.c,bo.o,VZ])
  rintro⟨x2,i2,h2⟩ ⟨g2,j2⟩
  simp only at g2 j2
  simp(disch:=omega) [cur,bo.o,VZ]
  refine av (pZ x2 g2.1) ?_ (ha:=by first|rfl|(simp[bo.c,Head.c,Qc.c,VY] <;>repeat' constructor))
  simp(disch:=omega) [cur,sg,aG,aL,aR,VZ]
  exact⟨[(true,aW.o {au with kind:=7,incl:=x2})],by simp[aG,aL,aR,aW.o,au,bI,gm,bm,aF,iW,aK,bD,ag,aY,aZ,aX],{au with kind:=7,incl:=x2},i2,⟨{FV with kind:=⟨by simp only;omega,by simp only;omega⟩,incl:=g2.1,tx:=by have:=g2.2;simp only;omega},j2⟩,rfl,rfl⟩
 ·have n0:¬k1=0∧¬k1=1∧¬k1=2∧¬k1=3∧¬k1=4∧¬k1=5:=by omega
  have n1:¬(k1:Int)=0∧¬(k1:Int)=1∧¬(k1:Int)=2∧¬(k1:Int)=3∧¬(k1:Int)=4∧¬(k1:Int)=5:=by omega
  simp(disch:=omega) [cur,n0.1,n0.2.1,n0.2.2.1,n0.2.2.2.1,n0.2.2.2.2.1,n0.2.2.2.2.2,n1.1,n1.2.1,n1.2.2.1,n1.2.2.2.1,n1.2.2.2.2.1,n1.2.2.2.2.2,VZ]
  refine cN (um b i1 h1 l hl.1 j1 hb) ?_ (n1:=by intro _;simp(disch:=omega) [ah.c,bu.o,VZ]) (n3:=by intro _;simp(disch:=omega) [ah.c,bu.o,VZ])
  rintro⟨x2,i2,h2⟩ ⟨⟨g2,g3,g4,g5,g6⟩,j2⟩
  simp only at g2 g3 g4 g5 g6 j2
  have hw:x2.wf:=⟨cH g2,cH g3,by unfold Sz;omega,by have:=cX g5;have:=hl.1;exact⟨by omega,by omega⟩,by unfold Sz;omega⟩
  simp(disch:=omega) [cur,bu.o,VZ]
  refine av (fF x2 hw) ?_ (ha:=by first|rfl|(simp[bu.c,VY] <;>repeat' constructor))
  simp(disch:=omega) [cur,iZ,aG,aL,aR,VZ]
  exact⟨[(true,aW.o {au with kind:=1,vote:=x2})],by simp[aG,aL,aR,aW.o,au,bI,gm,bm,aF,iW,aK,bD,ag,aY,aZ,aX],{au with kind:=1,vote:=x2},i2,⟨{FV with kind:=⟨by simp only;omega,by simp only;omega⟩,vote:=hw},j2⟩,rfl,rfl⟩
end Go.Eng.F
namespace Go.Eng.F
theorem Ok {l:List Ev} {i:Nat} (h:i < l.length):(km l)[i]? =some (l[i].c):=by simp[km,h]
end Go.Eng.F
namespace Go.Eng.F
theorem At.le {b:Bytes} {a:Nat} {s:Bytes} (h:At b a s) (h0:0 < s.length):a+s.length≤b.length:=by
 rcases h.len with h1|h1
 ·exact h1
 ·rw[h1]at h0;simp at h0
def Cut (b:Bytes) (a:Nat) (s:Bytes):Prop:=a≤b.length∧∃k,k < s.length∧b.drop a=s.take k
theorem Cut.app {b:Bytes} {a:Nat} {s t:Bytes} (h:Cut b a (s++t)):Cut b a s∨(At b a s∧Cut b (a+s.length) t):=by
 obtain⟨h0,k,hk,h⟩:=h
 by_cases hs:k < s.length
 ·exact .inl ⟨h0,k,hs,by rw[h,List.take_append_of_le_length (by omega)]⟩
 ·have e:b.drop a=s++t.take (k - s.length):=by rw[h,List.take_append,List.take_of_length_le (by omega)]
  have hl:=congrArg List.length e
  simp only[List.length_drop,List.length_append,List.length_take]at hl hk
  refine .inr ⟨⟨_,e⟩,by omega,k - s.length,by omega,?_⟩
  rw[←List.drop_drop,e,List.drop_left]
theorem Cut.nil {b:Bytes} {a:Nat} (h:Cut b a []):False:=by
 obtain⟨_,k,hk,_⟩:=h
 simp at hk
theorem NX {r:Rd} {c:Nat}:bL r false c=r:=by simp[bL]
theorem KW {l:ah} {h:Head} (w:bG l h=true):isNum h.view=true∧isNum h.height=true∧isNum h.proposer=true∧1≤h.height∧h.proposer < l.n∧h.parent.length=32∧h.root.length=32∧gf l h.qc=true∧fits h=true:=by
 simp only[bG,Bool.and_eq_true]at w
 have h1:=cX w.1.1.1.1.2
 have h2:=cX w.1.1.1.2
 have h3:l.ok=true:=by have:=w.1.1.1.1.1.1;simp only[gf,Bool.and_eq_true]at this;exact this.1.1.1.1.1.1
 have h4:=vf h3
 refine⟨w.1.1.1.1.1.2,by simp only[isNum,cf,decide_eq_true_eq];omega,by simp only[isNum,cf,decide_eq_true_eq];omega,h1.1,by omega,gD w.1.1.2,gD w.1.2,w.1.1.1.1.1.1,w.2⟩
theorem H2 {l:ah} {x:Block} (h:bF l x=true):bG l x.head=true∧l.ok=true∧(x.txs.length:Int)≤l.txs∧(∀t∈x.txs,t.length≤l.tx.toNat)∧x.head.root=aV x.txs:=by
 simp only[bF,Bool.and_eq_true,decide_eq_true_eq]at h
 have h3:l.ok=true:=by have:=h.1.1.1;simp only[bG,gf,Bool.and_eq_true]at this;exact this.1.1.1.1.1.1.1.1.1.1.1.1
 refine⟨h.1.1.1,h3,h.1.1.2,fun t ht=> ?_,h.2⟩
 have h2:=h.1.2
 simp only[vK,List.all_eq_true,decide_eq_true_eq]at h2
 have:=h2 t ht
 omega
def Ay (l:ah) (view:Int):Int→List Entry→Prop
 |_,[]=>True
 |bf,e::es=>((0≤e.who∧e.who < l.n∧bf < e.who)∧(0≤e.high∧e.high < view)∧e.tag.length=32)∧Ay l view e.who es
theorem Ew {l:ah} {t:Tc} (h:∀i < t.entries.length,dS l t i=true):∀(es pre:List Entry) (bf:Int),t.entries=pre++es→(pre= []∧bf= -1∨∃d,pre.getLast? =some d∧d.who=bf)→Ay l t.view bf es
 | [],_,_,_,_=>trivial
 |e::es,pre,bf,he,hp=>by
  have hi:t.entries[pre.length]? =some e:=by rw[he];simp
  have h1:=h pre.length (by rw[he];simp)
  simp only[dS,hi,Bool.and_eq_true,Bool.or_eq_true,decide_eq_true_eq]at h1
  obtain⟨⟨⟨a1,a2⟩,a3⟩,a4⟩:=h1
  have b1:=cX a1
  have b2:=cX a2
  refine⟨⟨⟨by omega,by omega,?_⟩,⟨by omega,by omega⟩,gD a3⟩,Ew h es (pre++ [e]) e.who (by rw[he];simp) (.inr ⟨e,by simp,rfl⟩)⟩
  rcases hp with⟨rfl,rfl⟩|⟨d,hd,rfl⟩
  ·omega
  ·have hn:pre≠ []:=by rintro rfl;simp at hd
   have hpl:0 < pre.length:=List.length_pos_iff.2 hn
   have h2:t.entries[pre.length - 1]? =some d:=by
    rw[he,List.getElem?_append_left (by omega),←List.getLast?_eq_getElem?]
    exact hd
   rw[h2]at a4
   rcases a4 with a4|a4
   ·omega
   ·simpa using a4
theorem Oj {l:ah} {t:Tc} (h:jC l t=true):l.ok=true∧isNum t.view=true∧(t.entries.length:Int)≤l.n∧Ay l t.view (-1) t.entries:=by
 simp only[jC,Bool.and_eq_true,decide_eq_true_eq,List.all_eq_true,List.mem_range]at h
 exact⟨h.1.1.1,h.1.1.2,h.1.2,Ew h.2 t.entries [] (-1) rfl (.inl ⟨rfl,rfl⟩)⟩
theorem Iv {l:ah} {p:Proof} (h:c4 l p=true):l.ok=true∧(3≤p.heads.length∧(p.heads.length:Int)≤l.heads)∧(∀h∈p.heads,bG l h=true)∧gf l p.qc=true∧qT p=true:=by
 simp only[c4,Bool.and_eq_true,jz,List.all_eq_true]at h
 have h3:l.ok=true:=by have:=h.1.2;simp only[gf,Bool.and_eq_true]at this;exact this.1.1.1.1.1.1
 have:=cX h.1.1.1
 exact⟨h3,by omega,h.1.1.2,h.1.2,h.2⟩
theorem J9 {l:ah} {x:bo} (h:eO l x=true):l.ok=true∧isNum x.height=true∧(1≤x.n∧x.n≤l.txs)∧(0≤x.idx∧x.idx < x.n)∧(x.tx.length:Int)≤l.tx∧x.path.length=bj x.idx.toNat x.n.toNat∧∀t∈x.path,t.length=32:=by
 simp only[eO,Bool.and_eq_true,decide_eq_true_eq,hashes,List.all_eq_true]at h
 have h1:=cX h.1.1.1.1.2
 have h2:=cX h.1.1.1.2
 exact⟨h.1.1.1.1.1.1,h.1.1.1.1.1.2,by omega,by omega,h.1.1.2,h.1.2,fun t ht=>gD (h.2 t ht)⟩
end Go.Eng.F
namespace Go.Eng.F
theorem At.join {b:Bytes} {a:Nat} {s t:Bytes} (h1:At b a s) (h2:At b (a+s.length) t):At b a (s++t):=by
 obtain⟨u,h1⟩:=h1
 obtain⟨w,h2⟩:=h2
 refine⟨w,?_⟩
 rw[←List.drop_drop,h1,List.drop_left]at h2
 rw[h1,h2,List.append_assoc]
def lG (b:Bytes) (r:Rd) (s:Bytes) (r':Rd):Prop:=r.er=0∧At b r.at_ s∧r'=⟨r.at_+s.length,0⟩
theorem lG.nil {b:Bytes} {r:Rd} (h:r.er=0):lG b r [] r:=⟨h,⟨b.drop r.at_,rfl⟩,by obtain⟨x,y⟩:=r;simp only at h;subst h;rfl⟩
theorem lG.join {b:Bytes} {r r1 r2:Rd} {s t:Bytes} (h1:lG b r s r1) (h2:lG b r1 t r2):lG b r (s++t) r2:=by
 obtain⟨a1,a2,rfl⟩:=h1
 obtain⟨_,b2,rfl⟩:=h2
 exact⟨a1,a2.join b2,by simp only[List.length_append,Nat.add_assoc]⟩
theorem lG.er {b:Bytes} {r r1:Rd} {s:Bytes} (h:lG b r s r1):r1.er=0:=by rw[h.2.2]
theorem Mw:∀(s:Bytes) (k n:Nat),(gv s k n).2.2=0→∃v,(k=0∨0 < v)∧(gv s k n).1=n+v * 128 ^ k∧(gv s k n).2.1=k+(bg v).length∧(∃t,s=bg v++t)∧n+v * 128 ^ k≤1152921504606846975
 | [],k,n,h=>by simp[gv]at h
 |c::r,k,n,h=>by
  have hc:c.toNat < 256:=c.toNat_lt
  have ec:UInt8.ofNat c.toNat=c:=by simp
  rw[gv]at h⊢
  split at h
  ·simp at h
  ·rename_i h1
   rw[if_neg h1]
   split at h
   ·rename_i h2
    rw[if_pos h2]
    split at h
    ·rename_i h3
     rw[if_pos h3]
     refine⟨c.toNat,by omega,rfl,by rw[uT h2];rfl,⟨r,by rw[uT h2,ec];rfl⟩,h3⟩
    ·simp at h
   ·rename_i h2
    rw[if_neg h2]
    obtain⟨v,e1,e2,e3,⟨t,e4⟩,e5⟩:=Mw r (k+1) (n+(c.toNat - 128) * 128 ^ k) h
    have hv:¬v * 128+(c.toNat - 128) < 128:=by omega
    have hd:(v * 128+(c.toNat - 128)) / 128=v:=by omega
    have hm:(v * 128+(c.toNat - 128)) % 128+128=c.toNat:=by omega
    have hb:bg (v * 128+(c.toNat - 128))=c::bg v:=by rw[EK hv,hd,hm,ec]
    have hx:n+(c.toNat - 128) * 128 ^ k+v * 128 ^ (k+1)=n+(v * 128+(c.toNat - 128)) * 128 ^ k:=by
     rw[Nat.add_mul,Nat.pow_succ,Nat.mul_comm (128 ^ k) 128,←Nat.mul_assoc]
     omega
    refine⟨v * 128+(c.toNat - 128), .inr (by omega),by rw[e2,hx],by rw[e3,hb,List.length_cons];omega,⟨t,by rw[hb,e4];rfl⟩,by rw[←hx];exact e5⟩
theorem dN {b:Bytes} {r:Rd} (h:(bc b r).2.er=0):lG b r (bg (bc b r).1) (bc b r).2∧isNum ((bc b r).1:Int)=true:=by
 have h0:=JK h
 simp only[bc,if_pos h0,getVar]at h⊢
 split at h
 ·rename_i h1
  obtain⟨v,_,e1,e2,⟨t,e3⟩,e4⟩:=Mw _ 0 0 h1
  rw[if_pos h1]
  simp only[Nat.zero_add,Nat.pow_zero,Nat.mul_one]at e1 e2 e4
  simp only[e1,e2]
  exact⟨⟨h0,⟨t,e3⟩,rfl⟩,by simp only[isNum,cf,decide_eq_true_eq];omega⟩
 ·rename_i h1
  exact absurd h h1
theorem dy {r:Rd} {bad:Bool} {c:Nat} (h:(bL r bad c).er=0) (hc:c≠0):bL r bad c=r∧bad=false:=by
 have e:=iP h hc
 subst e
 exact⟨NX,rfl⟩
theorem eM {b:Bytes} {r:Rd} {N:Int} {c:Nat} (h:(aS b r N c).2.er=0) (hc:c≠0):lG b r (bg (aS b r N c).1) (aS b r N c).2∧isNum ((aS b r N c).1:Int)=true∧((aS b r N c).1:Int) < N:=by
 have h1:=dy h hc
 have h2:=dN (du h)
 simp only[aS]at h1⊢
 rw[h1.1]
 exact⟨h2.1,h2.2,by simpa using h1.2⟩
theorem ur {b:Bytes} {a n:Nat} (h:(dQ b a n).2.er=0):At b a (dQ b a n).1∧(dQ b a n).1.length=n∧(dQ b a n).2=⟨a+n,0⟩:=by
 unfold dQ at h⊢
 split at h
 ·rename_i h1
  rw[if_pos h1]
  exact⟨⟨(b.drop a).drop n,(List.take_append_drop n (b.drop a)).symm⟩,by simp;omega,rfl⟩
 ·simp at h
theorem gL {b:Bytes} {r:Rd} {n:Nat} (h:(bA b r n).2.er=0):lG b r (bA b r n).1 (bA b r n).2∧(bA b r n).1.length=n:=by
 have h0:=Ns h
 simp only[bA,if_pos h0]at h⊢
 have:=ur h
 exact⟨⟨h0,this.1,by rw[this.2.2,this.2.1]⟩,this.2.1⟩
theorem xx {b:Bytes} {r:Rd} {m:Nat} (h:(dA b r m).2.er=0):lG b r (kx (dA b r m).1) (dA b r m).2∧(dA b r m).1.length≤m:=by
 have h0:=G5 h
 simp only[dA,if_pos h0,gz]at h⊢
 have ev:getVar b r.at_=bc b r:=by simp[bc,h0]
 rw[ev]at h⊢
 split at h
 ·rename_i h1
  exact absurd h h1
 ·rename_i h1
  rw[if_neg h1]
  split at h
  ·simp at h
  ·rename_i h2
   rw[if_neg h2]
   have g1:=dN (Decidable.not_not.1 h1)
   have g2:=ur h
   have e2:(bc b r).2=⟨r.at_+(bg (bc b r).1).length,0⟩:=g1.1.2.2
   have g3:lG b (bc b r).2 (dQ b (bc b r).2.at_ (bc b r).1).1 (dQ b (bc b r).2.at_ (bc b r).1).2:=⟨Decidable.not_not.1 h1,g2.1,by rw[g2.2.2,g2.2.1]⟩
   refine⟨?_,by rw[g2.2.1];omega⟩
   have:=g1.1.join g3
   unfold kx
   rw[g2.2.1]
   exact this
theorem GI {b:Bytes} {a:Nat} {n:Int} (h:(b6 b a n).2.er=0):At b a (b6 b a n).1∧d5 (b6 b a n).1 n=true∧(b6 b a n).2=⟨a+(b6 b a n).1.length,0⟩:=by
 simp only[b6]at h⊢
 split at h
 ·rename_i h1
  exact absurd h h1
 ·rename_i h1
  rw[if_neg h1]
  split at h
  ·rename_i h2
   rw[if_pos h2]
   have g:=ur (Decidable.not_not.1 h1)
   exact⟨g.1,h2,by rw[g.2.2,g.2.1]⟩
  ·simp at h
theorem si {α:Type} {b:Bytes} {f:Rd→α×Rd} {e:α→Bytes} {p:α→Prop} (hf:∀r,(f r).2.er=0→p (f r).1∧lG b r (e (f r).1) (f r).2):∀(k:Nat) (r:Rd),(cn f k r).2.er=0→(∀x∈(cn f k r).1,p x)∧lG b r ((cn f k r).1.map e).flatten (cn f k r).2
 |0,r,h=>⟨by simp[cn],lG.nil h⟩
 |k+1,r,h=>by
  by_cases h0:r.er=0
  ·rw[ly h0]at h⊢
   have h1:=si hf k _ h
   have h2:=hf r h1.2.1
   exact⟨fun x hx=>by
    rcases List.mem_cons.1 hx with rfl|hx
    ·exact h2.1
    ·exact h1.1 x hx,by
    simp only[List.map_cons,List.flatten_cons]
    exact h2.2.join h1.2⟩
  ·rw[sc h0]at h
   exact absurd h h0
theorem GN {b:Bytes} {k:Nat} {r:Rd} (h:(eU (fun r=>bA b r 32) k r).2.er=0):(∀x∈(eU (fun r=>bA b r 32) k r).1,x.length=32)∧lG b r (eU (fun r=>bA b r 32) k r).1.flatten (eU (fun r=>bA b r 32) k r).2:=by
 have h1:=Ea (b:=b) k r
 rw[h1.1]at h
 have h2:=h1.2 h
 have h3:=si (b:=b) (f:=fun r=>bA b r 32) (e:=fun x=>x) (p:=fun x=>x.length=32) (fun r hr=>⟨(gL hr).2,(gL hr).1⟩) k r h
 rw[h2,h1.1]
 simpa using h3
theorem jg {x:Bytes} (h:x.length=32):hash x=true:=by simp[hash,h]
theorem KA {b:Bytes} {l:ah} {r:Rd} (hl:l.ok=true) (h:(gJ b l r).2.er=0):zl l (gJ b l r).1=true∧lG b r (OQ (gJ b l r).1) (gJ b l r).2:=by
 have g5:=gL (show(bA b (aS b (bA b (bc b (bc b r).2).2 32).2 l.n 5).2 32).2.er=0 from h)
 have g4:=eM g5.1.1 (by omega)
 have g3:=gL g4.1.1
 have g2:=dN g3.1.1
 have g1:=dN g2.1.1
 refine⟨?_,g1.1.join (g2.1.join (g3.1.join (g4.1.join g5.1)))⟩
 have h4:cf ((aS b (bA b (bc b (bc b r).2).2 32).2 l.n 5).1:Int) 0 (l.n - 1)=true:=by simp only[cf,decide_eq_true_eq];omega
 simp only[zl,gJ,hl,g1.2,g2.2,jg g3.2,jg g5.2,h4,Bool.and_self]
theorem FK {b:Bytes} {l:ah} {r:Rd} (hl:l.ok=true) (h:(uI b l r).2.er=0):gf l (uI b l r).1=true∧lG b r (K4 (uI b l r).1) (uI b l r).2:=by
 by_cases h0:(bA b (bc b (bc b r).2).2 32).2.er=0
 ·simp only[uI,if_pos h0]at h⊢
  have g5:=GN h
  have g3:=gL h0
  have g2:=dN g3.1.1
  have g1:=dN g2.1.1
  have g4:=GI g5.2.1
  have g4':lG b (bA b (bc b (bc b r).2).2 32).2 (b6 b (bA b (bc b (bc b r).2).2 32).2.at_ l.n).1 (b6 b (bA b (bc b (bc b r).2).2 32).2.at_ l.n).2:=⟨h0,g4.1,g4.2.2⟩
  have h6:=g1.1.join (g2.1.join (g3.1.join (g4'.join g5.2)))
  refine⟨?_,by simp only[K4,List.append_assoc];exact h6⟩
  have h7:hashes (eU (fun r=>bA b r 32) (aQ (b6 b (bA b (bc b (bc b r).2).2 32).2.at_ l.n).1).length (b6 b (bA b (bc b (bc b r).2).2 32).2.at_ l.n).2).1=true:=by
   simp only[hashes,List.all_eq_true]
   exact fun x hx=>jg (g5.1 x hx)
  simp only[gf,hl,g1.2,g2.2,jg g3.2,g4.2.1,wA,decide_true,h7,Bool.and_self]
 ·simp only[uI,if_neg h0]at h
  exact absurd h h0
theorem lG.fail {b:Bytes} {r r':Rd} {bad:Bool} {c:Nat} {s:Bytes} (h:lG b (bL r bad c) s r') (hc:c≠0):lG b r s r':=by
 have e:=(dy h.1 hc).1
 rw[e]at h
 exact h
theorem lG.len {b:Bytes} {r r':Rd} {s t:Bytes} {n m:Nat} (h:lG b r (s++(bg n++t)) r') (e:m=n):lG b r (s++(bg m++t)) r':=by
 rw[e]
 exact h
theorem xt {b:Bytes} {l:ah} {r:Rd} (hl:l.ok=true) (h:(cV b l r).2.er=0):bG l (cV b l r).1=true∧lG b r (ep (cV b l r).1) (cV b l r).2:=by
 simp only[cV]at h⊢
 have f7:=dy h (by omega)
 have h':=du h
 rw[f7.1]
 have g6:=FK hl h'
 have g5:=gL g6.2.1
 have g4:=gL g5.1.1
 have g3:=eM g4.1.1 (by omega)
 have f3:=dy g3.1.1 (by omega)
 have g2:=dN (du g3.1.1)
 have g1:=dN g2.1.1
 have h2:cf ((bc b (bc b r).2).1:Int) 1 1152921504606846975=true:=by
  have a1:=cX g2.2
  have a2:=f3.2
  simp only[decide_eq_false_iff_not]at a2
  simp only[cf,decide_eq_true_eq]
  omega
 have h7:=f7.2
 rw[Bool.not_eq_false']at h7
 generalize e3:aS b (bL (bc b (bc b r).2).2 (decide ((bc b (bc b r).2).1=0)) 5) l.n 5=s3 at g3 g4 g5 g6 h7⊢
 have h6:=g1.1.join (g2.1.join ((g3.1.fail (by omega)).join (g4.1.join (g5.1.join g6.2))))
 refine⟨?_,by simp only[ep,List.append_assoc,Int.toNat_natCast];exact h6⟩
 have h3:cf (s3.1:Int) 0 (l.n - 1)=true:=by simp only[cf,decide_eq_true_eq];omega
 simp only[bG,g6.1,g1.2,h2,h3,jg g4.2,jg g5.2,h7,Bool.and_self]
theorem IY {b:Bytes} {l:ah} {r:Rd} (hl:l.ok=true) (h:(dI b l r).2.er=0):bF l (dI b l r).1=true∧lG b r (oT (dI b l r).1) (dI b l r).2:=by
 have hL:=fk hl
 simp only[dI]at h⊢
 have f3:=dy h (by omega)
 have h':=du h
 rw[f3.1]
 have g3:=si (b:=b) (f:=fun r=>dA b r l.tx.toNat) (e:=kx) (p:=fun x=>x.length≤l.tx.toNat) (fun r hr=>⟨(xx hr).2,(xx hr).1⟩) _ _ h'
 have g4:=uw _ _ h'
 have g2:=eM g3.2.1 (by omega)
 have g1:=xt hl g2.1.1
 have h5:=f3.2
 simp only[decide_eq_false_iff_not,Decidable.not_not]at h5
 generalize aS b (cV b l r).2 (l.txs+1) 3=s2 at g2 g3 g4 h5⊢
 generalize cn (fun r=>dA b r l.tx.toNat) s2.1 s2.2=s3 at g3 g4 h5⊢
 have h6:=g1.2.join (g2.1.join g3.2)
 refine⟨?_,h6.len g4⟩
 have h4:vK l s3.1=true:=by
  simp only[vK,List.all_eq_true,decide_eq_true_eq]
  intro x hx
  have:=g3.1 x hx
  have:=hL.2.1
  omega
 simp only[bF,Bool.and_eq_true,decide_eq_true_eq]
 exact⟨⟨⟨g1.1,by rw[g4];omega⟩,h4⟩,h5⟩
theorem Ez {b:Bytes} {l:ah} {view:Int}:∀(k:Nat) (bf:Int) (r:Rd),(fT b l view k bf r).2.er=0→(fT b l view k bf r).1.length=k∧Ay l view bf (fT b l view k bf r).1∧lG b r ((fT b l view k bf r).1.map KH).flatten (fT b l view k bf r).2
 |0,bf,r,h=>⟨rfl,trivial,lG.nil h⟩
 |k+1,bf,r,h=>by
  by_cases h0:r.er=0
  ·simp only[Br h0]at h⊢
   have h1:=Ez k _ _ h
   have g3:=gL h1.2.2.1
   have g2:=eM g3.1.1 (by omega)
   have f1:=dy g2.1.1 (by omega)
   have g1:=eM (du g2.1.1) (by omega)
   have h2:=f1.2
   simp only[decide_eq_false_iff_not]at h2
   generalize aS b (bL (aS b r l.n 5).2 (decide (((aS b r l.n 5).1:Int)≤bf)) 6) view 6=s2 at g2 g3 h1⊢
   have b1:0≤((aS b r l.n 5).1:Int)∧((aS b r l.n 5).1:Int) < l.n∧bf < ((aS b r l.n 5).1:Int):=⟨by omega,g1.2.2,by omega⟩
   have b2:0≤(s2.1:Int)∧(s2.1:Int) < view:=⟨by omega,g2.2.2⟩
   refine⟨by simp only[List.length_cons,h1.1],⟨⟨b1,b2,g3.2⟩,h1.2.1⟩,?_⟩
   simp only[List.map_cons,List.flatten_cons]
   exact lG.join (g1.1.join ((g2.1.fail (by omega)).join g3.1)) h1.2.2
  ·rw[Ec h0]at h
   exact absurd h h0
theorem wZ {l:ah} {view:Int}:∀(es:List Entry) (bf:Int),Ay l view bf es→∀(i:Nat) (e:Entry),es[i]? =some e→(0≤e.who∧e.who < l.n)∧(0≤e.high∧e.high < view)∧e.tag.length=32∧(i=0∧bf < e.who∨0 < i∧∃d,es[i - 1]? =some d∧d.who < e.who)
 | [],_,_,i,e,h=>by simp at h
 |x::es,bf,⟨⟨h1,h2,h3⟩,hr⟩,0,e,h=>by
  simp only[List.getElem?_cons_zero,Option.some.injEq]at h
  subst h
  exact⟨⟨h1.1,h1.2.1⟩,h2,h3, .inl ⟨rfl,h1.2.2⟩⟩
 |x::es,bf,⟨⟨h1,h2,h3⟩,hr⟩,i+1,e,h=>by
  rw[List.getElem?_cons_succ]at h
  obtain⟨a1,a2,a3,a4⟩:=wZ es x.who hr i e h
  refine⟨a1,a2,a3, .inr ⟨by omega,?_⟩⟩
  rcases a4 with⟨rfl,a4⟩|⟨a5,d,a6,a7⟩
  ·exact⟨x,rfl,a4⟩
  ·refine⟨d,?_,a7⟩
   obtain⟨j,rfl⟩:∃j,i=j+1:=⟨i - 1,by omega⟩
   simpa using a6
theorem M9 {b:Bytes} {l:ah} {r:Rd} (hl:l.ok=true) (h:(Fh b l r).2.er=0):jC l (Fh b l r).1=true∧lG b r (O6 (Fh b l r).1) (Fh b l r).2:=by
 simp only[Fh]at h⊢
 have g3:=Ez _ _ _ h
 have g2:=eM g3.2.2.1 (by omega)
 have g1:=dN g2.1.1
 have h6:=g1.1.join (g2.1.join g3.2.2)
 refine⟨?_,h6.len g3.1⟩
 simp only[jC,hl,g1.2,Bool.and_eq_true,decide_eq_true_eq,List.all_eq_true,List.mem_range]
 refine⟨⟨⟨trivial,trivial⟩,by rw[g3.1];omega⟩,fun i hi=> ?_⟩
 have hg:=List.getElem?_eq_getElem hi
 obtain⟨a1,a2,a3,a4⟩:=wZ _ _ g3.2.1 i _ hg
 have b1:∀n hi:Int,0≤n→n < hi→cf n 0 (hi - 1)=true:=fun n hi h1 h2=>by simp only[cf,decide_eq_true_eq];omega
 simp only[dS,hg,b1 _ _ a1.1 a1.2,b1 _ _ a2.1 a2.2,jg a3,Bool.true_and,Bool.or_eq_true,decide_eq_true_eq]
 rcases a4 with⟨a4,_⟩|⟨_,d,a5,a6⟩
 ·exact .inl a4
 ·exact .inr (by rw[a5];simpa using a6)
theorem Ie {b:Bytes} {l:ah} {r:Rd} (hl:l.ok=true) (h:(dv b l r).2.er=0):c4 l (dv b l r).1=true∧lG b r (o7 (dv b l r).1) (dv b l r).2:=by
 simp only[dv]at h⊢
 have f3:=dy h (by omega)
 have h':=du h
 rw[f3.1]
 have g3:=FK hl h'
 have g2:=si (b:=b) (f:=cV b l) (e:=ep) (p:=fun x=>bG l x=true) (fun r hr=>xt hl hr) _ _ g3.2.1
 have g4:=uw _ _ g3.2.1
 have f2:=dy g2.2.1 (by omega)
 have f1:=dy (du g2.2.1) (by omega)
 have g1:=dN (du (du g2.2.1))
 have a3:=f3.2
 rw[Bool.not_eq_false']at a3
 have a1:=f1.2
 have a2:=f2.2
 simp only[decide_eq_false_iff_not]at a1 a2
 generalize cn (cV b l) (bc b r).1 (bL (bL (bc b r).2 (decide ((bc b r).1 < 3)) 5) (decide (l.heads < ((bc b r).1:Int))) 3)=s2 at g2 g3 g4 a3⊢
 have h6:=lG.join (s:= []) (lG.nil g1.1.1) (g1.1.join (((g2.2.fail (by omega)).fail (by omega)).join g3.2))
 refine⟨?_,h6.len g4⟩
 simp only[c4,Bool.and_eq_true,jz,List.all_eq_true]
 exact⟨⟨⟨by rw[g4];simp only[cf,decide_eq_true_eq];omega,g2.1⟩,g3.1⟩,a3⟩
theorem Ik {b:Bytes} {l:ah} {r:Rd} (h:(bZ b l r).2.er=0):(isNum ((bZ b l r).1.1:Int)=true∧(1≤(bZ b l r).1.2.1∧((bZ b l r).1.2.1:Int)≤l.txs)∧(bZ b l r).1.2.2.1 < (bZ b l r).1.2.1∧(bZ b l r).1.2.2.2.length≤l.tx.toNat)∧lG b r (bg (bZ b l r).1.1++(bg (bZ b l r).1.2.1++(bg (bZ b l r).1.2.2.1++kx (bZ b l r).1.2.2.2))) (bZ b l r).2:=by
 simp only[bZ]at h⊢
 have g4:=xx h
 have g3:=eM g4.1.1 (by omega)
 have f2:=dy g3.1.1 (by omega)
 have f1:=dy (du g3.1.1) (by omega)
 have g2:=dN (du (du g3.1.1))
 have g1:=dN g2.1.1
 have a1:=f1.2
 have a2:=f2.2
 simp only[decide_eq_false_iff_not]at a1 a2
 have a3:=g3.2.2
 exact⟨⟨g1.2,by omega,by omega,g4.2⟩,g1.1.join (g2.1.join (((g3.1.fail (by omega)).fail (by omega)).join g4.1))⟩
theorem KN {b:Bytes} {l:ah} {r:Rd} (hl:l.ok=true) (h:(fu b l r).2.er=0):eO l (fu b l r).1=true∧lG b r (yz (fu b l r).1) (fu b l r).2:=by
 have hL:=fk hl
 have hL1:=hL.2.1
 by_cases h0:(bZ b l r).2.er=0
 ·simp only[fu,if_pos h0]at h⊢
  obtain⟨⟨b1,b2,b3,b4⟩,b5⟩:=Ik h0
  have g5:=GN h
  have gl:=wA (f:=fun r=>bA b r 32) (bj (bZ b l r).1.2.2.1 (bZ b l r).1.2.1) (bZ b l r).2
  generalize eU (fun r=>bA b r 32) (bj (bZ b l r).1.2.2.1 (bZ b l r).1.2.1) (bZ b l r).2=s5 at g5 gl⊢
  generalize bZ b l r=s0 at *
  have h6:=b5.join g5.2
  simp only[List.append_assoc]at h6
  refine⟨?_,h6⟩
  have c1:cf (s0.1.2.1:Int) 1 l.txs=true:=by simp only[cf,decide_eq_true_eq];omega
  have c2:cf (s0.1.2.2.1:Int) 0 ((s0.1.2.1:Int) - 1)=true:=by simp only[cf,decide_eq_true_eq];omega
  simp only[eO,hl,b1,c1,c2,Bool.true_and,Bool.and_eq_true,decide_eq_true_eq,hashes,List.all_eq_true,Int.toNat_natCast]
  exact⟨⟨by omega,gl⟩,fun x hx=>jg (g5.1 x hx)⟩
 ·simp only[fu,if_neg h0]at h
  exact absurd h h0
end Go.Eng.F
namespace Go.Eng.F
theorem Fg {a b:bu}:im a b=true↔a=b:=by
 obtain⟨_,_,_,_,_⟩:=a
 obtain⟨_,_,_,_,_⟩:=b
 simp[im,and_assoc]
theorem uP {a b:Qc}:lR a b=true↔a=b:=by
 obtain⟨_,_,_,_,_⟩:=a
 obtain⟨_,_,_,_,_⟩:=b
 simp[lR,and_assoc]
theorem lM {a b:Head}:dX a b=true↔a=b:=by
 obtain⟨_,_,_,_,_,_⟩:=a
 obtain⟨_,_,_,_,_,_⟩:=b
 simp[dX,and_assoc,uP]
theorem C7 {a b:Block}:fY a b=true↔a=b:=by
 obtain⟨_,_⟩:=a
 obtain⟨_,_⟩:=b
 simp[fY,lM]
theorem Fb {a b:bo}:iO a b=true↔a=b:=by
 obtain⟨_,_,_,_,_⟩:=a
 obtain⟨_,_,_,_,_⟩:=b
 simp[iO,and_assoc]
theorem HW {a b:Entry}:cO a b=true↔a=b:=by
 obtain⟨_,_,_⟩:=a
 obtain⟨_,_,_⟩:=b
 simp[cO,and_assoc]
theorem yO {α:Type} {f:α→α→Bool} (hf:∀x y,f x y=true↔x=y) {a b:List α}:cZ f a b=true↔a=b:=by
 simp only[cZ,Bool.and_eq_true,decide_eq_true_eq,List.all_eq_true,List.mem_range]
 constructor
 ·rintro⟨h1,h2⟩
  refine List.ext_getElem h1 fun i hi hj=> ?_
  have:=h2 i hj
  rw[List.getElem?_eq_getElem hi,List.getElem?_eq_getElem hj]at this
  exact(hf _ _).1 this
 ·rintro rfl
  refine⟨rfl,fun i hi=> ?_⟩
  rw[List.getElem?_eq_getElem hi]
  exact(hf _ _).2 rfl
theorem Dr {a b:Proof}:ee a b=true↔a=b:=by
 obtain⟨_,_⟩:=a
 obtain⟨_,_⟩:=b
 simp[ee,d9,uP,yO (fun x y=> @lM x y)]
theorem Iu {a b:Tc}:eL a b=true↔a=b:=by
 obtain⟨_,_⟩:=a
 obtain⟨_,_⟩:=b
 simp[eL,yO (fun x y=> @HW x y)]
theorem db {a b:aW}:jc a b=true↔a=b:=by
 obtain⟨_,_,_,_,_,_,_,_⟩:=a
 obtain⟨_,_,_,_,_,_,_,_⟩:=b
 simp[jc,and_assoc,Fg,uP,lM,C7,Iu,Dr,Fb]
theorem IX {l:ah} {m:aW} (h:br l m=true):m=bY m:=by
 simp only[br,Bool.and_eq_true]at h
 exact db.1 h.2
theorem iL {b:Bytes} {m:aW} {r:Rd} (h:(eP b m r).2=0):r.er=0∧r.at_=b.length∧eP b m r=(m,0):=by
 unfold eP at h⊢
 split at h
 ·rename_i h1;exact absurd h h1
 ·rename_i h1
  rw[if_neg h1]
  split at h
  ·simp at h
  ·rename_i h2
   rw[if_neg h2]
   exact⟨Decidable.not_not.1 h1,Decidable.not_not.1 h2,rfl⟩
theorem lG.rest {c:UInt8} {t s:Bytes} {r':Rd} (h:lG (c::t) ⟨1,0⟩ s r') (ha:r'.at_=(c::t).length):t=s:=by
 obtain⟨_,⟨u,hu⟩,h2⟩:=h
 rw[h2]at ha
 simp only[List.length_cons]at ha
 simp only[List.drop_succ_cons,List.drop_zero]at hu
 have hl:=congrArg List.length hu
 rw[List.length_append]at hl
 have:u= []:=List.eq_nil_of_length_eq_zero (by omega)
 rw[this,List.append_nil]at hu
 exact hu
theorem iA {k:Nat} (hk:k < 256) {m:aW} (h:m.kind=(k:Int)):(dM m).toNat=k:=by
 rw[dM,h]
 exact Qo hk
theorem Lv {l:ah} {m:aW} (h:m.kind=1):aM l m=zl l m.vote∧bP m=OQ m.vote∧bY m= {au with kind:=1,vote:=m.vote}∧(dM m).toNat=1:=by
 refine⟨by simp[aM,h],by simp[bP,h],by simp[bY,h],iA (k:=1) (by omega) h⟩
theorem Mz {l:ah} {m:aW} (h:m.kind=2):aM l m=gf l m.qc∧bP m=K4 m.qc∧bY m= {au with kind:=2,qc:=m.qc}∧(dM m).toNat=2:=by
 refine⟨by simp[aM,h],by simp[bP,h],by simp[bY,h],iA (k:=2) (by omega) h⟩
theorem Lb {l:ah} {m:aW} (h:m.kind=3):aM l m=bG l m.head∧bP m=ep m.head∧bY m= {au with kind:=3,head:=m.head}∧(dM m).toNat=3:=by
 refine⟨by simp[aM,h],by simp[bP,h],by simp[bY,h],iA (k:=3) (by omega) h⟩
theorem MJ {l:ah} {m:aW} (h:m.kind=4):aM l m=bF l m.block∧bP m=oT m.block∧bY m= {au with kind:=4,block:=m.block}∧(dM m).toNat=4:=by
 refine⟨by simp[aM,h],by simp[bP,h],by simp[bY,h],iA (k:=4) (by omega) h⟩
theorem ML {l:ah} {m:aW} (h:m.kind=5):aM l m=jC l m.tc∧bP m=O6 m.tc∧bY m= {au with kind:=5,tc:=m.tc}∧(dM m).toNat=5:=by
 refine⟨by simp[aM,h],by simp[bP,h],by simp[bY,h],iA (k:=5) (by omega) h⟩
theorem Lj {l:ah} {m:aW} (h:m.kind=6):aM l m=c4 l m.proof∧bP m=o7 m.proof∧bY m= {au with kind:=6,proof:=m.proof}∧(dM m).toNat=6:=by
 refine⟨by simp[aM,h],by simp[bP,h],by simp[bY,h],iA (k:=6) (by omega) h⟩
theorem MU {l:ah} {m:aW} (h:m.kind=7):aM l m=eO l m.incl∧bP m=yz m.incl∧bY m= {au with kind:=7,incl:=m.incl}∧(dM m).toNat=7:=by
 refine⟨by simp[aM,h],by simp[bP,h],by simp[bY,h],iA (k:=7) (by omega) h⟩
theorem RW {l:ah} {x:bu} (h:zl l x=true):br l {au with kind:=1,vote:=x}=true∧dM {au with kind:=1,vote:=x}=UInt8.ofNat 1∧bP {au with kind:=1,vote:=x}=OQ x:=by
 obtain⟨p1,p2,p3,p4⟩:=Lv (l:=l) (m:= {au with kind:=1,vote:=x}) rfl
 exact⟨by simp only[br,p1,h,Bool.true_and,p3];exact db.2 rfl,rfl,p2⟩
theorem R1 {l:ah} {x:Qc} (h:gf l x=true):br l {au with kind:=2,qc:=x}=true∧dM {au with kind:=2,qc:=x}=UInt8.ofNat 2∧bP {au with kind:=2,qc:=x}=K4 x:=by
 obtain⟨p1,p2,p3,p4⟩:=Mz (l:=l) (m:= {au with kind:=2,qc:=x}) rfl
 exact⟨by simp only[br,p1,h,Bool.true_and,p3];exact db.2 rfl,rfl,p2⟩
theorem R6 {l:ah} {x:Head} (h:bG l x=true):br l {au with kind:=3,head:=x}=true∧dM {au with kind:=3,head:=x}=UInt8.ofNat 3∧bP {au with kind:=3,head:=x}=ep x:=by
 obtain⟨p1,p2,p3,p4⟩:=Lb (l:=l) (m:= {au with kind:=3,head:=x}) rfl
 exact⟨by simp only[br,p1,h,Bool.true_and,p3];exact db.2 rfl,rfl,p2⟩
theorem R8 {l:ah} {x:Block} (h:bF l x=true):br l {au with kind:=4,block:=x}=true∧dM {au with kind:=4,block:=x}=UInt8.ofNat 4∧bP {au with kind:=4,block:=x}=oT x:=by
 obtain⟨p1,p2,p3,p4⟩:=MJ (l:=l) (m:= {au with kind:=4,block:=x}) rfl
 exact⟨by simp only[br,p1,h,Bool.true_and,p3];exact db.2 rfl,rfl,p2⟩
theorem R9 {l:ah} {x:Tc} (h:jC l x=true):br l {au with kind:=5,tc:=x}=true∧dM {au with kind:=5,tc:=x}=UInt8.ofNat 5∧bP {au with kind:=5,tc:=x}=O6 x:=by
 obtain⟨p1,p2,p3,p4⟩:=ML (l:=l) (m:= {au with kind:=5,tc:=x}) rfl
 exact⟨by simp only[br,p1,h,Bool.true_and,p3];exact db.2 rfl,rfl,p2⟩
theorem RS {l:ah} {x:Proof} (h:c4 l x=true):br l {au with kind:=6,proof:=x}=true∧dM {au with kind:=6,proof:=x}=UInt8.ofNat 6∧bP {au with kind:=6,proof:=x}=o7 x:=by
 obtain⟨p1,p2,p3,p4⟩:=Lj (l:=l) (m:= {au with kind:=6,proof:=x}) rfl
 exact⟨by simp only[br,p1,h,Bool.true_and,p3];exact db.2 rfl,rfl,p2⟩
theorem RQ {l:ah} {x:bo} (h:eO l x=true):br l {au with kind:=7,incl:=x}=true∧dM {au with kind:=7,incl:=x}=UInt8.ofNat 7∧bP {au with kind:=7,incl:=x}=yz x:=by
 obtain⟨p1,p2,p3,p4⟩:=MU (l:=l) (m:= {au with kind:=7,incl:=x}) rfl
 exact⟨by simp only[br,p1,h,Bool.true_and,p3];exact db.2 rfl,rfl,p2⟩
theorem MS {l:ah} {c:UInt8} {t:Bytes} (hl:l.ok=true) (h:(kO l (c::t) c.toNat).2=0):∃m,kO l (c::t) c.toNat=(m,0)∧br l m=true∧dM m::bP m=c::t:=by
 have hc:c.toNat < 256:=c.toNat_lt
 have ec:UInt8.ofNat c.toNat=c:=by simp
 have hk:c.toNat=1∨c.toNat=2∨c.toNat=3∨c.toNat=4∨c.toNat=5∨c.toNat=6∨c.toNat=7:=by
  apply Decidable.byContradiction
  intro hn
  rw[J0 (by omega)]at h
  simp at h
 generalize hk0:c.toNat=k at h hk ec⊢
 rcases hk with rfl|rfl|rfl|rfl|rfl|rfl|rfl
 ·simp only[kO]at h⊢
  obtain⟨g1,g2,g3⟩:=iL h
  obtain⟨g4,g5⟩:=KA hl g1
  obtain⟨p1,p2,p3⟩:=RW g4
  exact⟨_,g3,p1,by rw[p2,p3,←g5.rest g2,ec]⟩
 ·simp only[kO]at h⊢
  obtain⟨g1,g2,g3⟩:=iL h
  obtain⟨g4,g5⟩:=FK hl g1
  obtain⟨p1,p2,p3⟩:=R1 g4
  exact⟨_,g3,p1,by rw[p2,p3,←g5.rest g2,ec]⟩
 ·simp only[kO]at h⊢
  obtain⟨g1,g2,g3⟩:=iL h
  obtain⟨g4,g5⟩:=xt hl g1
  obtain⟨p1,p2,p3⟩:=R6 g4
  exact⟨_,g3,p1,by rw[p2,p3,←g5.rest g2,ec]⟩
 ·simp only[kO]at h⊢
  obtain⟨g1,g2,g3⟩:=iL h
  obtain⟨g4,g5⟩:=IY hl g1
  obtain⟨p1,p2,p3⟩:=R8 g4
  exact⟨_,g3,p1,by rw[p2,p3,←g5.rest g2,ec]⟩
 ·simp only[kO]at h⊢
  obtain⟨g1,g2,g3⟩:=iL h
  obtain⟨g4,g5⟩:=M9 hl g1
  obtain⟨p1,p2,p3⟩:=R9 g4
  exact⟨_,g3,p1,by rw[p2,p3,←g5.rest g2,ec]⟩
 ·simp only[kO]at h⊢
  obtain⟨g1,g2,g3⟩:=iL h
  obtain⟨g4,g5⟩:=Ie hl g1
  obtain⟨p1,p2,p3⟩:=RS g4
  exact⟨_,g3,p1,by rw[p2,p3,←g5.rest g2,ec]⟩
 ·simp only[kO]at h⊢
  obtain⟨g1,g2,g3⟩:=iL h
  obtain⟨g4,g5⟩:=KN hl g1
  obtain⟨p1,p2,p3⟩:=RQ g4
  exact⟨_,g3,p1,by rw[p2,p3,←g5.rest g2,ec]⟩
theorem Na {l:ah} {b:Bytes} (h:(dec l b).2=0):∃m,dec l b=(m,0)∧br l m=true∧dM m::bP m=b:=by
 by_cases hl:l.ok=true
 ·cases b with
  |nil=>rw[Em hl (by simp)]at h;simp at h
  |cons c t=>
   have e:=OZ (b:=c::t) hl (by simp)
   rw[e]at h⊢
   exact MS hl h
 ·rw[Js hl]at h
  simp at h
end Go.Eng.F
namespace Go.Eng.F
theorem Rz {l:ah} {v:bu} (hl:l.rd) (h:isNum v.view=true∧isNum v.height=true∧v.block.length=32∧cf v.who 0 (l.n - 1)=true∧v.tag.length=32):v.wf:=by
 obtain⟨g2,g3,g4,g5,g6⟩:=h
 exact⟨cH g2,cH g3,by unfold Sz;omega,by have:=cX g5;have:=hl.1;exact⟨by omega,by omega⟩,by unfold Sz;omega⟩
theorem NA (i:Nat):Int.tdiv (i:Int) 256=((i / 256:Nat):Int):=by rw[Int.tdiv_eq_ediv_of_nonneg (by omega)];omega
theorem NU (i:Nat):Int.tmod (i:Int) 256=((i % 256:Nat):Int):=by rw[Int.tmod_eq_emod_of_nonneg (by omega)];omega
theorem PA (n:Nat):b8 ((n % 256:Nat):Int)=b8 (n:Int):=by
 apply UInt8.toNat_inj.1
 have h1:=Ct ((n % 256:Nat):Int)
 have h2:=Ct (n:Int)
 have e:IntKind.u8.wrap ((n % 256:Nat):Int)=IntKind.u8.wrap (n:Int):=by simp[IntKind.wrap,IntKind.bits,IntKind.signed]
 rw[e,←h2]at h1
 omega
abbrev uc:Nat:=222
def th:AF:=⟨3,6,[.tmp 6, .tmp 7],(.seq (.ops [.i (.mov 6 (.c (.val false [.nils]))), .i (.mov 7 (qb false))]) (.seq (.seq (.ops [qm 10 2, .i (.call 12 221 false [(.s 10),(qi 1),(qi 7)]), .i (.not 12 (.s 11)),qm 13 12, .g 13 false 15 (.mov 14 (.s 1)), .g 13 false 16 (.bin 15 .lss (.s 14) (qi 0)), .i (.pick 16 (.s 13) (qb true) (.s 15)),qm 17 16, .g 17 false 19 (.mov 18 (.s 1)), .g 17 false 20 (.mov 19 (.s 2)), .g 17 false 21 (.call 21 292 false [(.s 19)]), .g 17 false 22 (.bin 21 .geq (.s 18) (.s 20)), .i (.pick 22 (.s 17) (qb true) (.s 21))]) (.cond (.s 22) (.seq (.ops [.i (.mov 6 (.c (.val false [.nils]))), .i (.mov 7 (qb false))]) .ret) .skip)) (.seq (.ops [qm 23 0,qk 25 143 23,qm 8 24]) (.seq (.seq (.ops [.i (.mov 9 (qi 0))]) (.block 0 (.loop [37,36,35,34,33,32,31,30,29,28,27,26,25] (.seq (.seq (.ops [qm 25 9,qm 26 2,qd 27 .lss 25 26]) (.cond (.s 27) .skip (.exit 0))) (.seq (.block 1 (.seq (.ops [qm 30 8,qm 31 1, .i (.bin 32 .rem (.s 31) (qi 256)), .i (.cvi 33 .u8 (.s 32)), .i (.lsl 34 1 1 [.int .u8 0] [(0,1,(.s 33))]), .i (.app 35 5 1 1 (.s 30) (.s 34)),qm 8 35]) (.ops [qm 36 1, .i (.bin 37 .quo (.s 36) (qi 256)),qm 1 37]))) (.ops [qm 28 9, .i (.bin 29 .add (.s 28) (qi 1)),qm 9 29])))))) (.seq (.ops [qm 38 8,qm 6 38, .i (.mov 7 (qb true))]) .ret)))))⟩
theorem DF:cd uc=some th:=by kernel_rfl
abbrev tl:Nat:=292
def jH:AF:=⟨1,3,[.tmp 2],(.seq (.ops [.i (.mov 2 (qi 0))]) (.seq (.ops [qm 3 0, .i (.bin 4 .mul (qi 8) (.s 3)), .i (.bin 5 .shl (qi 1) (.s 4)),qm 2 5]) .ret))⟩
theorem sO:cd tl=some jH:=by kernel_rfl
theorem pU (b:Bytes) (n w:Nat) (hb:b.length≤1073741824) (hw:w=2∨w=4) (hn:n < 256 ^ w):VC cd uc (aE [(false,[.sl (bytes b)]),(false,[.int .i64 (n:Int)]),(false,[.int .i64 (w:Int)])]) (fun rs _=>rs= [(false,[.o true (some (5,1)) (bytes (b++uO n w))]),(false,[.p (.bool true)])]):=by
 have w1:cf (w:Int) 1 7=true:=by simp only[cf,decide_eq_true_eq];omega
 have n0:¬(n:Int) < 0:=by omega
 have hw4:w≤4:=by omega
 have hW:256 ^ w≤4294967296:=by rcases hw with rfl|rfl <;>simp
 have ht:VC cd tl (aE [(false,[.int .i64 (w:Int)])]) (fun rs _=>rs=it ((256 ^ w:Nat):Int)):=by
  rcases hw with rfl|rfl
  ·have e0:IntKind.i64.wrap (2 ^ min 16 IntKind.i64.bits)=65536:=by decide
   refine aa sO rfl ?_
   simp(disch:=omega) [jH,e0,VY]
  ·have e0:IntKind.i64.wrap (2 ^ min 32 IntKind.i64.bits)=4294967296:=by decide
   refine aa sO rfl ?_
   simp(disch:=omega) [jH,e0,VY]
 have n1:¬((256 ^ w:Nat):Int)≤(n:Int):=by omega
 have n2:¬256 ^ w≤n:=by omega
 clear hw
 generalize 256 ^ w=W at hn ht n1 n2 hW
 refine aa DF rfl ?_
 simp(disch:=omega) [th,VY]
 refine av (bS (w:Int) 1 7) ?_
 simp(disch:=omega) [w1,n0,n1,n2,VY]
 refine av (ht) ?_
 simp(disch:=omega) [w1,n0,n1,n2,VY]
 refine av (bb b (by omega)) ?_
 simp(disch:=omega) [VY]
 refine bx (σ:=Nat×Nat×Nat×Bytes) (f1:=_) (es0:=_) (by simp(disch:=omega) [VY];rfl) (by simp(disch:=omega) [VY];rfl) (fun p=> [(9, .val false [.int .i64 (p.1:Int)]),(1, .val false [.int .i64 (p.2.1:Int)]),(8, .val false [.ow 212992 p.2.2.1])]) (fun p=> [(212992, .sl p.2.2.1 true true (some (5,1)) (bytes p.2.2.2))])
  (fun p g=>g+p.1=w∧p.2.1=n / 256 ^ p.1∧p.2.2.2=b++uO n p.1) (0,n,_,b) w (by simp(disch:=omega) [VY];rfl) (by simp(disch:=omega) [VY]) ⟨by simp,by simp,by simp[uO]⟩ ?_
 rintro⟨i,q,v,x⟩ nx g ⟨hg,h4,h5⟩ P hP
 simp only at hg h4 h5
 have hq:q≤n:=by rw[h4];exact Nat.div_le_self _ _
 have hx:x.length≤1073741824+4:=by rw[h5,List.length_append,wi];omega
 simp(disch:=omega) [VY]
 refine ab (fun h6=> ?_) (fun h6=> ?_)
 ·have ef:x++ [b8 (q:Int)]=b++uO n (i+1):=by rw[h5,Kn,List.append_assoc,h4]
  have hd:q / 256=n / 256 ^ (i+1):=by rw[h4,Nat.div_div_eq_div_mul,Nat.pow_succ]
  have eq:bytes x++ [[.int .u8 (IntKind.u8.wrap ((q % 256:Nat):Int))]]=bytes (b++uO n (i+1)):=by rw[z0,PA,ef]
  have eq1:IntKind.u8.wrap ((q:Int).tmod 256)=IntKind.u8.wrap ((q % 256:Nat):Int):=by rw[NU]
  have eq2:IntKind.i64.wrap ((q:Int).tdiv 256)=((q / 256:Nat):Int):=by rw[NA];exact yu (by omega) (by omega)
  have eq3:IntKind.i64.wrap ((q:Int) / 256)=((q / 256:Nat):Int):=by rw[←Int.tdiv_eq_ediv_of_nonneg (by omega)];exact eq2
  have eq4:bytes x++ [[.int .u8 (IntKind.u8.wrap ((q:Int) % 256))]]=bytes (b++uO n (i+1)):=by rw[←Int.tmod_eq_emod_of_nonneg (by omega),eq1];exact eq
  rw[←eq1]at eq
  generalize hr:q / 256=r at hd eq2 eq3
  simp(disch:=omega) [eq,eq2,eq3,eq4,VY]
  exact hP (i+1,r,_,b++uO n (i+1)) (g - 1) _ _ (by omega) ⟨by simp only;omega,hd,rfl⟩ (by simp(disch:=omega) [VY] <;>rfl) (by simp(disch:=omega) [VY])
 ·obtain rfl:i=w:=by omega
  subst h5
  simp(disch:=omega) [VY]
end Go.Eng.F
namespace Go.Eng.F
abbrev wD:Nat:=152
def vM:AF:=⟨2,6,[.tmp 4, .tmp 5],(.seq (.ops [.i (.lbox 2 (.s 0)), .i (.mov 4 (.c (.val false [.nils]))), .i (.mov 5 (qb false))]) (.seq (.seq (.ops [ql 8 2 2 5 true,qk 10 210 8, .i (.not 10 (.s 9)),qm 11 10, .g 11 false 13 (.mov 12 (.s 1)), .g 11 false 14 (.len 13 false (.s 12)), .g 11 false 15 (.fad 14 (.s 2) 3), .g 11 false 16 (.ldl 15 2 (.s 14) 1 false), .g 11 false 17 (.call 17 221 false [(.s 13),(qi 1),(.s 15)]), .g 11 false 18 (.not 17 (.s 16)), .i (.pick 18 (.s 11) (qb true) (.s 17))]) (.cond (.s 18) (.seq (.ops [.i (.mov 4 (.c (.val false [.nils]))), .i (.mov 5 (qb false))]) .ret) .skip)) (.seq (.ops [.i (.bsl 20 5 1 2 [.int .u8 0] [(0,1,(.c (.val false [.int .u8 181]))),(1,1,(.c (.val false [.int .u8 70])))]),qm 21 1,qn 22 21, .i (.call 24 222 false [(.s 20),(.s 22),(qi 2)]),qm 19 23, .i (.ext 24 (.s 19) 0), .i (.ext 25 (.s 19) 1),qm 6 24,qm 7 25]) (.seq (.ops [qm 27 6,qm 28 1,qk 30 223 28, .i (.call 31 222 false [(.s 27),(.s 29),(qi 4)]),qm 26 30, .i (.ext 31 (.s 26) 0), .i (.ext 32 (.s 26) 1),qm 6 31]) (.seq (.ops [qm 33 6,qm 34 1, .i (.app 35 5 1 1 (.s 33) (.s 34)),qm 4 35, .i (.mov 5 (qb true))]) .ret)))))⟩
theorem FW:cd wD=some vM:=by kernel_rfl
theorem gw (l:ah) (b:Bytes) (hb:b.length≤1073741824):VC cd wD (aE [(true,l.c),(false,[.sl (bytes b)])]) (fun rs _=>rs=xm l b):=by
 refine VC.lL ?_
 refine aa FW rfl ?_
 simp(disch:=omega) [vM,ah.c,VZ]
 refine av (ck l) ?_ (ha:=by first|rfl|(simp[ah.c,VY] <;>repeat' constructor))
 simp(disch:=omega) [VZ]
 by_cases h1:l.ok=true
 case neg=>simp(disch:=omega) [h1,xm,ia,ag,aG,aL,aR,VZ]
 simp(disch:=omega) [h1,VZ]
 refine av (bS (b.length:Int) 1 l.frame) ?_
 by_cases h2:cf (b.length:Int) 1 l.frame=true
 case neg=>simp(disch:=omega) [h1,h2,xm,ia,ag,aG,aL,aR,VZ]
 have hl:=fk h1
 have hf:=h1
 simp only[ah.ok,cf,Bool.and_eq_true,decide_eq_true_eq]at hf
 have h3:=cX h2
 simp(disch:=omega) [h2,VZ]
 refine av (pU [181,70] b.length 2 (by simp) (.inl rfl) (by simp;omega)) ?_
 simp(disch:=omega) [VZ]
 refine av (Gq b hb) ?_
 simp(disch:=omega) [VZ]
 refine av (pU (181::70::uO b.length 2) (Le b) 4 (by simp[wi]) (.inr rfl) (QE b)) ?_
 have hr:xm l b= [(false,[.o true (some (5,1)) (bytes (xl b))]),(false,[.p (.bool true)])]:=by
  have:ia l b=true:=by rw[ia,h1,h2];rfl
  rw[xm,this];rfl
 rw[hr]
 simp(disch:=omega) [xl,bE,wi,aG,aL,aR,VZ]
end Go.Eng.F
namespace Go.Eng.F
def Nt:Nat→Bytes→List (Bool×List E)
 |0,x=> [(false,[.p (.sl (bytes x))])]
 |_+1,x=> [(false,[.o true (some (5,1)) (bytes x)])]
theorem Ju (f:Nat) (x:Bytes):cc (Nt f x)=1:=by cases f <;>rfl
theorem Kr (x:Bytes) (j:Nat) (y z:Int):(bytes x).set j [.int .u8 (aA .xor .u8 y z)]=bytes (x.set j (b8 ((BitVec.ofInt IntKind.u8.bits y ^^^ BitVec.ofInt IntKind.u8.bits z).toNat:Int))):=iN x j _
abbrev qu:Nat:=136
def qj:AF:=⟨2,6,[.tmp 4],(.seq (.ops [.i (.mov 4 (.c (.val false [.nils])))]) (.seq (.ops [qm 7 1,qk 9 143 7,qm 5 8]) (.seq (.seq (.ops [qm 9 5,qn 10 9, .i (.bin 11 .eql (.s 10) (qi 0))]) (.cond (.s 11) (.seq (.ops [qm 12 0, .i (.call 14 138 false [(.s 12),(qi 3)]),qm 4 13]) .ret) .skip)) (.seq (.seq (.ops [qm 14 0, .i (.call 16 97 false [(.s 14),(qi 6)])]) (.block 0 (.seq (.ops [.i (.bin 17 .eql (.s 15) (qi 0)),qm 16 17]) (.cond (.s 16) (.seq (.ops [qm 18 5,qm 19 0,qm 20 5,qn 21 20, .i (.call 23 97 false [(.s 19),(.s 21)]), .i (.eA 23 1 (.s 18) none (some (.s 22))),qm 4 23]) .ret) (.seq (.ops [.i (.bin 25 .eql (.s 15) (qi 1)),qm 24 25]) (.cond (.s 24) (.ops [qm 26 5,qm 27 0,qm 28 5,qn 29 28, .i (.call 31 97 false [(.s 27),(.s 29)]),qm 31 0,qk 33 162 31, .i (.cvi 33 .u8 (.s 32)), .i (.iad 34 (.s 26) (.s 30) 1), .i (.sth (.s 34) (.s 33) 1)]) (.seq (.ops [.i (.bin 36 .eql (.s 15) (qi 2)),qm 35 36]) (.cond (.s 35) (.seq (.ops [qm 37 0,qm 38 5,qn 39 38, .i (.call 41 97 false [(.s 37),(.s 39)]),qm 6 40]) (.ops [qm 41 5,qm 42 6,qm 43 5,qm 44 6, .i (.iad 45 (.s 43) (.s 44) 1), .i (.lde 46 (.s 45) 1 false 5),qm 47 0, .i (.cle 49 97 5 [(.s 47),(qi 8)]), .i (.bin 49 .shl (.c (.val false [.int .u8 1])) (.s 48)),qd 50 .xor 46 49, .i (.iad 51 (.s 41) (.s 42) 1), .i (.sth (.s 51) (.s 50) 1)])) (.seq (.ops [.i (.bin 53 .eql (.s 15) (qi 3)),qm 52 53]) (.cond (.s 52) (.seq (.ops [qm 54 5,qm 55 0,qk 57 162 55, .i (.cvi 57 .u8 (.s 56)), .i (.lsl 58 1 1 [.int .u8 0] [(0,1,(.s 57))]), .i (.app 59 5 1 1 (.s 54) (.s 58)),qm 4 59]) .ret) .skip)))))))))) (.seq (.ops [qm 60 5,qm 4 60]) .ret)))))⟩
theorem Ax:cd qu=some qj:=by kernel_rfl
theorem Jb (b:Bytes) (i:Nat) (h:Int) (s:Bytes) (hs:s.length≤1073741824) (hi:i≤b.length) (hb:b.length≤1073741824):VC cd qu (iX [] 133 (cur b i h) [(false,[.sl (bytes s)])]) (fun r p=>∃x:(Nat×Bytes)×Nat×Int,(x.1.2.length≤s.length+3∧x.2.1≤b.length)∧r=Nt x.1.1 x.1.2∧p= [.pt 133 (cur b x.2.1 x.2.2)]):=by
 refine ay Ax rfl ?_
 simp(disch:=omega) [qj,cur,VZ]
 refine av (bb s (by omega)) ?_
 simp(disch:=omega) [ae,VZ]
 by_cases h0:s= []
 case pos=>
  subst h0
  simp(disch:=omega) [VZ]
  refine cN (dE b i h 3 (by omega) hi hb) ?_
  rintro⟨x1,i1,h1⟩ ⟨g1,j1⟩
  simp only at g1 j1
  simp(disch:=omega) [cur,VZ]
  exact⟨1,x1,i1,⟨by simpa using g1,j1⟩,rfl,rfl⟩
 have hp:=List.length_pos_iff.2 h0
 simp(disch:=omega) [h0,VZ]
 refine cN (ao b i h 6 (by omega) hi hb) ?_
 rintro⟨k1,i1,h1⟩ ⟨g1,j1⟩
 simp only at g1 j1
 have hk:k1=0∨k1=1∨k1=2∨k1=3∨k1=4∨k1=5:=by omega
 rcases hk with rfl|rfl|rfl|rfl|rfl|rfl
 ·simp(disch:=omega) [cur,ae,VZ]
  refine cN (ao b i1 h1 s.length (by omega) j1 hb) ?_
  rintro⟨k2,i2,h2⟩ ⟨g2,j2⟩
  simp only at g2 j2
  have hk2:k2 < s.length:=by omega
  have et:List.take k2 (bytes s)=bytes (s.take k2):=by simp[bytes]
  simp(disch:=omega) [cur,ae,show k2≤s.length by omega,et,VZ]
  exact⟨0,s.take k2,i2,⟨by rw[List.length_take];omega,j2⟩,rfl,rfl⟩
 ·simp(disch:=omega) [cur,ae,VZ]
  refine cN (ao b i1 h1 s.length (by omega) j1 hb) ?_
  rintro⟨k2,i2,h2⟩ ⟨g2,j2⟩
  simp only at g2 j2
  have hk2:k2 < s.length:=by omega
  simp(disch:=omega) [cur,ae,VZ]
  refine cN (dH b i2 h2 j2 hb) ?_
  rintro⟨k3,i3,h3⟩ ⟨g3,j3⟩
  simp only at g3 j3
  simp(disch:=omega) [cur,ae,bz hk2,iN,VZ]
  exact⟨1,_,i3,⟨by simp,j3⟩,rfl,rfl⟩
 ·simp(disch:=omega) [cur,ae,VZ]
  refine cN (ao b i1 h1 s.length (by omega) j1 hb) ?_
  rintro⟨k2,i2,h2⟩ ⟨g2,j2⟩
  simp only at g2 j2
  have hk2:k2 < s.length:=by omega
  simp(disch:=omega) [cur,ae,bz hk2,VZ]
  simp(disch:=omega) [bz hk2,Qt,Ox,PC,VZ]
  refine Sr (ao b i2 h2 8 (by omega) j2 hb) ?_
  rintro⟨k4,i4,h4⟩ ⟨g4,j4⟩
  simp only at g4 j4
  have n4:¬(k4:Int) < 0:=by omega
  simp(disch:=omega) [cur,ae,bz hk2,n4,Kr,VZ]
  exact⟨1,_,i4,⟨by simp,j4⟩,rfl,rfl⟩
 ·simp(disch:=omega) [cur,ae,VZ]
  refine cN (dH b i1 h1 j1 hb) ?_
  rintro⟨k3,i3,h3⟩ ⟨g3,j3⟩
  simp only at g3 j3
  simp(disch:=omega) [cur,ae,z0,VZ]
  exact⟨1,_,i3,⟨by simp,j3⟩,rfl,rfl⟩
 ·simp(disch:=omega) [cur,VZ]
  exact⟨1,s,i1,⟨by simp,j1⟩,rfl,rfl⟩
 ·simp(disch:=omega) [cur,VZ]
  exact⟨1,s,i1,⟨by simp,j1⟩,rfl,rfl⟩
end Go.Eng.F
namespace Go.Eng.F
theorem gx {u t:Bytes} {i j:Nat} (h:i+j≤u.length):((u++t).drop i).take j=(u.drop i).take j:=by
 rw[List.drop_append_of_le_length (by omega),List.take_append_of_le_length (by rw[List.length_drop];omega)]
theorem AK {u t:Bytes} {i:Nat} (h:i < u.length):(u++t).getD i 0=u.getD i 0:=by
 simp only[List.getD_eq_getElem?_getD,List.getElem?_append_left h]
theorem II (s:Bytes) (a n:Nat):d4 s a n=d4 (s.drop a) 0 n:=by
 simp only[d4,List.drop_drop,Nat.zero_add]
theorem Fv (l:ah) (s:Bytes) (a:Nat):aq l s a=aq l (s.drop a) 0:=by
 have e1:∀i,(s.drop a).getD i 0=s.getD (a+i) 0:=fun i=>by simp only[List.getD_eq_getElem?_getD,List.getElem?_drop]
 have e2:wW (s.drop a) 0=wW s a:=by simp only[wW,List.drop_drop,Nat.zero_add]
 have e3:K3 (s.drop a) 0=K3 s a:=by simp only[K3,List.drop_drop,Nat.zero_add]
 have e4:JQ (s.drop a) 0=JQ s a:=by simp only[JQ,List.drop_drop,Nat.zero_add,e2]
 have c1:(0 < (s.drop a).length)=(a < s.length):=propext (by rw[List.length_drop];omega)
 have c2:(1 < (s.drop a).length)=(a+1 < s.length):=propext (by rw[List.length_drop];omega)
 have c3:(s.drop a).length - 0=s.length - a:=by rw[List.length_drop];omega
 simp only[aq,c1,c2,c3,e1,e2,e3,e4,Nat.add_zero,Nat.zero_add]
theorem Ho {l:ah} {u t:Bytes} (hu:u≠ []) (h:(aq l u 0).1≠1):aq l (u++t) 0=aq l u 0:=by
 have hp:=List.length_pos_iff.2 hu
 have hl:(u++t).length=u.length+t.length:=List.length_append
 unfold aq at h⊢
 by_cases h0:l.ok=true
 case neg=>rw[if_neg (fun x=>h0 x.1),if_neg (fun x=>h0 x.1)]
 have q1:l.ok=true∧0 < u.length:=⟨h0,hp⟩
 have q2:l.ok=true∧0 < (u++t).length:=⟨h0,by omega⟩
 rw[if_pos q1]at h
 rw[if_pos q2,if_pos q1]
 rw[AK hp]
 by_cases h1:(u.getD 0 0).toNat=181
 case neg=>rw[if_neg h1,if_neg h1]
 rw[if_pos h1]at h
 rw[if_pos h1,if_pos h1]
 by_cases h2:0+1 < u.length∧¬(u.getD (0+1) 0).toNat=70
 ·have q3:0+1 < (u++t).length∧¬((u++t).getD (0+1) 0).toNat=70:=⟨by omega,by rw[AK h2.1];exact h2.2⟩
  rw[if_pos h2,if_pos q3]
 rw[if_neg h2]at h
 rw[if_neg h2]
 by_cases h3:u.length - 0 < 4
 ·rw[if_pos h3]at h;exact absurd rfl h
 rw[if_neg h3]at h
 have q3:¬(0+1 < (u++t).length∧¬((u++t).getD (0+1) 0).toNat=70):=by
  rw[AK (by omega)]
  exact fun x=>h2 ⟨by omega,x.2⟩
 have q4:¬(u++t).length - 0 < 4:=by omega
 rw[if_neg h3,if_neg q3,if_neg q4]
 have e2:wW (u++t) 0=wW u 0:=by simp only[wW];rw[gx (by omega)]
 rw[e2]
 by_cases h4:cf (wW u 0) 1 l.frame=true
 case neg=>rw[if_pos h4,if_pos h4]
 have q6:¬¬cf (wW u 0) 1 l.frame=true:=fun x=>x h4
 rw[if_neg q6]at h
 rw[if_neg q6,if_neg q6]
 by_cases h5:u.length - 0 < 8+wW u 0
 ·rw[if_pos h5]at h;exact absurd rfl h
 have q5:¬(u++t).length - 0 < 8+wW u 0:=by omega
 rw[if_neg h5,if_neg q5]
 have e3:K3 (u++t) 0=K3 u 0:=by simp only[K3];rw[gx (by omega)]
 have e4:JQ (u++t) 0=JQ u 0:=by simp only[JQ,e2];rw[gx (by omega)]
 rw[e3,e4]
theorem Ka {u t:Bytes} {n:Nat} (h9:9≤n) (h:0+n≤u.length):d4 (u++t) 0 n=d4 u 0 n:=by
 simp only[d4]
 rw[gx (by omega)]
def fI (l:ah) (cl:Bool):Nat→Bytes→Nat→List Ev×Nat×Bytes
 |0,u,k=>([],k,u)
 |g+1,u,k=>
  if u= []then([],k,[])
  else if(aq l u 0).1=1∧cl=false then([],k,u)
  else if(aq l u 0).1≠3 then fI l cl g (u.drop 1) (k+1)
  else((d7 k++ [rM l (d4 u 0 (aq l u 0).2.toNat)])++(fI l cl g (u.drop (aq l u 0).2.toNat) 0).1,(fI l cl g (u.drop (aq l u 0).2.toNat) 0).2)
theorem eg (l:ah) (cl:Bool) (g k:Nat):fI l cl g [] k=([],k,[]):=by
 cases g
 ·rfl
 ·rw[fI,if_pos rfl]
theorem EZ {l:ah} {s:Bytes} {cl:Bool}:∀(g a k:Nat) (e:List Ev),a≤s.length→dF l s cl g a k e=(e++(fI l cl g (s.drop a) k).1,(fI l cl g (s.drop a) k).2.1,s.length - (fI l cl g (s.drop a) k).2.2.length)
 |0,a,k,e,h=>by simp[dF,fI];omega
 |g+1,a,k,e,h=>by
  by_cases h0:a < s.length
  ·have hu:s.drop a≠ []:=fun x=>by have:=congrArg List.length x;simp at this;omega
   rw[dF,if_pos h0,fI,if_neg hu,←Fv,←II]
   by_cases h1:(aq l s a).1=1∧cl=false
   ·rw[if_pos h1,if_pos h1]
    simp;omega
   ·rw[if_neg h1,if_neg h1]
    by_cases h2:(aq l s a).1≠3
    ·rw[if_pos h2,if_pos h2,EZ g (a+1) (k+1) e (by omega),List.drop_drop]
    ·rw[if_neg h2,if_neg h2]
     obtain⟨n,hn,h9,hl,_⟩:=ig (Decidable.not_not.1 h2)
     have e1:(aq l s a).2.toNat=n:=by rw[hn];rfl
     rw[e1,EZ g (a+n) 0 _ (by omega),List.drop_drop]
     simp only[List.append_assoc]
  ·have hu:s.drop a= []:=List.drop_eq_nil_of_le (by omega)
   rw[dF,if_neg h0,hu,eg]
   simp
   omega
theorem uW {l:ah} {u:Bytes} (h:¬(aq l u 0).1≠3):∃n:Nat,aq l u 0=(3,(n:Int))∧(aq l u 0).2.toNat=n∧9≤n∧n≤u.length:=by
 obtain⟨n,hn,h9,hl,_⟩:=ig (Decidable.not_not.1 h)
 exact⟨n,hn,by rw[hn];rfl,h9,by omega⟩
theorem lJ (l:ah) (cl:Bool):∀(n g g':Nat) (u:Bytes) (k:Nat),u.length≤n→u.length≤g→u.length≤g'→fI l cl g u k=fI l cl g' u k
 |n,0,g',u,k,_,h,_=>by
  have:u= []:=List.eq_nil_of_length_eq_zero (by omega)
  rw[this,eg,eg]
 |n,g+1,0,u,k,_,_,h=>by
  have:u= []:=List.eq_nil_of_length_eq_zero (by omega)
  rw[this,eg,eg]
 |0,g+1,g'+1,u,k,h,_,_=>by
  have:u= []:=List.eq_nil_of_length_eq_zero (by omega)
  rw[this,eg,eg]
 |n+1,g+1,g'+1,u,k,h,h1,h2=>by
  by_cases hu:u= []
  ·rw[hu,eg,eg]
  have hp:=List.length_pos_iff.2 hu
  rw[fI,fI,if_neg hu,if_neg hu]
  have e1:=lJ l cl n g g' (u.drop 1) (k+1) (by rw[List.length_drop];omega) (by rw[List.length_drop];omega) (by rw[List.length_drop];omega)
  rw[e1]
  by_cases h3:(aq l u 0).1≠3
  ·simp only[if_pos h3]
  ·obtain⟨m,_,hm,h9,hl⟩:=uW h3
   have e2:=lJ l cl n g g' (u.drop m) 0 (by rw[List.length_drop];omega) (by rw[List.length_drop];omega) (by rw[List.length_drop];omega)
   rw[hm,e2]
def scan (l:ah) (cl:Bool) (u:Bytes) (k:Nat):List Ev×Nat×Bytes:=fI l cl u.length u k
theorem iD (l:ah) (cl:Bool) (k:Nat):scan l cl [] k=([],k,[]):=rfl
theorem ya {l:ah} {u:Bytes} {k:Nat} (hu:u≠ []) (h:(aq l u 0).1=1):scan l false u k=([],k,u):=by
 have hp:=List.length_pos_iff.2 hu
 obtain⟨g,hg⟩:∃g,u.length=g+1:=⟨u.length - 1,by omega⟩
 rw[scan,hg,fI,if_neg hu,if_pos ⟨h,rfl⟩]
theorem r0 {l:ah} {cl:Bool} {u:Bytes} {k:Nat} (hu:u≠ []) (h:¬((aq l u 0).1=1∧cl=false)) (h2:(aq l u 0).1≠3):scan l cl u k=scan l cl (u.drop 1) (k+1):=by
 have hp:=List.length_pos_iff.2 hu
 obtain⟨g,hg⟩:∃g,u.length=g+1:=⟨u.length - 1,by omega⟩
 rw[scan,hg,fI,if_neg hu,if_neg h,if_pos h2,scan]
 exact lJ l cl g _ _ _ _ (by rw[List.length_drop];omega) (by rw[List.length_drop];omega) (Nat.le_refl _)
theorem sf {l:ah} {cl:Bool} {u:Bytes} {k n:Nat} (h:aq l u 0=(3,(n:Int))) (hn:9≤n) (hl:n≤u.length):scan l cl u k=((d7 k++ [rM l (d4 u 0 n)])++(scan l cl (u.drop n) 0).1,(scan l cl (u.drop n) 0).2):=by
 have hu:u≠ []:=by rintro rfl;simp at hl;omega
 obtain⟨g,hg⟩:∃g,u.length=g+1:=⟨u.length - 1,by omega⟩
 have e:fI l cl g (u.drop n) 0=scan l cl (u.drop n) 0:=lJ l cl g _ _ _ _ (by rw[List.length_drop];omega) (by rw[List.length_drop];omega) (Nat.le_refl _)
 have e1:(aq l u 0).2.toNat=n:=by rw[h];rfl
 rw[scan,hg,fI,if_neg hu,if_neg (by rw[h];simp),if_neg (by rw[h];simp),e1,e]
theorem lV (l:ah) (s:Bytes) (cl:Bool) (k:Nat):fw l s cl k=((scan l cl s k).1++(if cl=true then d7 (scan l cl s k).2.1 else []),(scan l cl s k).2.1,s.length - (scan l cl s k).2.2.length):=by
 simp only[fw,EZ s.length 0 k [] (Nat.zero_le _),List.drop_zero,List.nil_append]
 rfl
theorem pn {l:ah}:∀(n:Nat) (u:Bytes) (k:Nat),u.length≤n→((scan l false u k).2.2= []∨(aq l (scan l false u k).2.2 0).1=1)∧(∃p,u=p++(scan l false u k).2.2)∧(scan l false u k).2.1+(scan l false u k).2.2.length≤k+u.length
 |0,u,k,h=>by
  have:u= []:=List.eq_nil_of_length_eq_zero (by omega)
  subst this
  exact⟨.inl rfl,⟨[],rfl⟩,by simp[iD]⟩
 |n+1,u,k,h=>by
  by_cases hu:u= []
  ·subst hu
   exact⟨.inl rfl,⟨[],rfl⟩,by simp[iD]⟩
  have hp:=List.length_pos_iff.2 hu
  by_cases h1:(aq l u 0).1=1
  ·rw[ya hu h1]
   exact⟨.inr h1,⟨[],rfl⟩,Nat.le_refl _⟩
  by_cases h2:(aq l u 0).1≠3
  ·rw[r0 hu (fun x=>h1 x.1) h2]
   obtain⟨a1,⟨p,a2⟩,a3⟩:=pn n (u.drop 1) (k+1) (by rw[List.length_drop];omega)
   refine⟨a1,⟨u.take 1++p,?_⟩,?_⟩
   ·rw[List.append_assoc,←a2,List.take_append_drop]
   ·rw[List.length_drop]at a3;omega
  ·obtain⟨m,hm,_,h9,hl⟩:=uW h2
   rw[sf hm h9 hl]
   obtain⟨a1,⟨p,a2⟩,a3⟩:=pn n (u.drop m) 0 (by rw[List.length_drop];omega)
   refine⟨a1,⟨u.take m++p,?_⟩,?_⟩
   ·simp only
    rw[List.append_assoc,←a2,List.take_append_drop]
   ·rw[List.length_drop]at a3;simp only;omega
theorem vQ {l:ah} {cl:Bool} {t:Bytes}:∀(n:Nat) (u:Bytes) (k:Nat),u.length≤n→scan l cl (u++t) k=((scan l false u k).1++(scan l cl ((scan l false u k).2.2++t) (scan l false u k).2.1).1,(scan l cl ((scan l false u k).2.2++t) (scan l false u k).2.1).2)
 |0,u,k,h=>by
  have:u= []:=List.eq_nil_of_length_eq_zero (by omega)
  subst this
  simp only[iD,List.nil_append]
 |n+1,u,k,h=>by
  by_cases hu:u= []
  ·subst hu
   simp only[iD,List.nil_append]
  have hp:=List.length_pos_iff.2 hu
  have hu2:u++t≠ []:=by simp[hu]
  by_cases h1:(aq l u 0).1=1
  ·rw[ya hu h1]
   simp only[List.nil_append]
  have e:=Ho (t:=t) hu h1
  by_cases h2:(aq l u 0).1≠3
  ·rw[r0 (u:=u) hu (fun x=>h1 x.1) h2,r0 hu2 (by rw[e];exact fun x=>h1 x.1) (by rw[e];exact h2)]
   rw[List.drop_append_of_le_length (by omega)]
   exact vQ n (u.drop 1) (k+1) (by rw[List.length_drop];omega)
  ·obtain⟨m,hm,_,h9,hl⟩:=uW h2
   rw[sf hm h9 hl,sf (u:=u++t) (by rw[e];exact hm) h9 (by rw[List.length_append];omega)]
   rw[List.drop_append_of_le_length (by omega),Ka h9 (by omega)]
   rw[vQ n (u.drop m) 0 (by rw[List.length_drop];omega)]
   simp only[List.append_assoc]
def cF (l:ah) (s:Bytes):c6:=⟨((scan l false s 0).2.1:Int),(scan l false s 0).2.2⟩
theorem An {l:ah} {s:Bytes} (hl:l.ok=true) (hs:s.length≤1073741824):oL l (cF l s)=true:=by
 obtain⟨a1,⟨p,a2⟩,a3⟩:=pn (l:=l) s.length s 0 (Nat.le_refl _)
 have h1:isNum (cF l s).skip=true:=by
  show isNum ((scan l false s 0).2.1:Int)=true
  simp only[isNum,cf,decide_eq_true_eq]
  omega
 simp only[oL,hl,h1,Bool.true_and,Bool.or_eq_true,decide_eq_true_eq]
 exact a1
theorem xr {l:ah} (s:Bytes):(cF l s).buf.length≤s.length:=by
 obtain⟨a1,⟨p,a2⟩,a3⟩:=pn (l:=l) s.length s 0 (Nat.le_refl _)
 have:=congrArg List.length a2
 rw[List.length_append]at this
 simp only[cF]
 omega
theorem BJ {l:ah} {s b:Bytes} (hl:l.ok=true) (hs:s.length≤1073741824):feed l (cF l s) b=(cF l (s++b),(scan l false ((cF l s).buf++b) (scan l false s 0).2.1).1)∧(scan l false (s++b) 0).1=(scan l false s 0).1++(scan l false ((cF l s).buf++b) (scan l false s 0).2.1).1:=by
 have h:=vQ (l:=l) (cl:=false) (t:=b) s.length s 0 (Nat.le_refl _)
 have ek:(cF l s).skip.toNat=(scan l false s 0).2.1:=by simp[cF]
 refine⟨?_,by rw[h];rfl⟩
 obtain⟨a1,⟨p,a2⟩,a3⟩:=pn (l:=l) ((cF l s).buf++b).length ((cF l s).buf++b) (scan l false s 0).2.1 (Nat.le_refl _)
 simp only[feed,if_pos (An hl hs),lV,ek]
 have e3:((cF l s).buf++b).drop (((cF l s).buf++b).length - (scan l false ((cF l s).buf++b) (scan l false s 0).2.1).2.2.length)=(scan l false ((cF l s).buf++b) (scan l false s 0).2.1).2.2:=by
  generalize scan l false ((cF l s).buf++b) (scan l false s 0).2.1=q at a2⊢
  rw[a2,List.length_append,Nat.add_sub_cancel,List.drop_left]
 rw[e3]
 simp only[Bool.false_eq_true,if_false,List.append_nil]
 congr 1
 simp only[cF]
 rw[h]
theorem HM {l:ah} {s:Bytes} (hl:l.ok=true) (hs:s.length≤1073741824):(scan l false s 0).1++close l (cF l s)=parse l s true:=by
 have h:=vQ (l:=l) (cl:=true) (t:= []) s.length s 0 (Nat.le_refl _)
 have ek:(cF l s).skip.toNat=(scan l false s 0).2.1:=by simp[cF]
 simp only[close,if_pos (An hl hs),parse,if_pos hl,lV,ek,if_true]
 rw[List.append_nil]at h
 rw[h,List.append_nil,List.append_assoc]
 rfl
theorem H6 {l:ah} {s:Bytes} (hl:l.ok=true):parse l s false=(scan l false s 0).1:=by
 simp[parse,hl,lV]
theorem IU (b:Bytes):(xl b).length=8+b.length:=by
 simp only[xl,List.length_append,List.length_cons,List.length_nil,wi]
end Go.Eng.F
namespace Go.Eng.F
def Fl (a b:Ev):Bool:=decide (a.kind=b.kind) && decide (a.n=b.n) && jc a.msg b.msg
abbrev kq:Nat:=130
def ll:AF:=⟨2,5,[.tmp 4],(.seq (.ops [.i (.lbox 2 (.s 0)), .i (.lbox 3 (.s 1)), .i (.mov 4 (qb false))]) (.seq (.ops [qf 5 2 0,ql 6 2 5 1 false,qf 7 3 0,ql 8 3 7 1 false,qd 9 .eql 6 8,qm 10 9, .g 10 true 12 (.fad 11 (.s 2) 1), .g 10 true 13 (.ldl 12 2 (.s 11) 1 false), .g 10 true 14 (.fad 13 (.s 3) 1), .g 10 true 15 (.ldl 14 3 (.s 13) 1 false), .g 10 true 16 (.bin 15 .eql (.s 12) (.s 14)), .i (.pick 16 (.s 10) (.s 15) (qb false)),qm 17 16, .g 17 true 19 (.fad 18 (.s 2) 2), .g 17 true 20 (.ldl 19 2 (.s 18) 45 true), .g 17 true 21 (.fad 20 (.s 3) 2), .g 17 true 22 (.ldl 21 3 (.s 20) 45 true), .g 17 true 23 (.call 23 54 false [(.s 19),(.s 21)]), .i (.pick 23 (.s 17) (.s 22) (qb false)),qm 4 23]) .ret))⟩
theorem x7:cd kq=some ll:=by kernel_rfl
theorem vi (a b:Ev) (ha:a.msg.wc) (hb:b.msg.wc):VC cd kq (aE [(true,a.c),(true,b.c)]) (fun rs _=>rs=bl (Fl a b)):=by
 refine aa x7 rfl ?_
 simp(disch:=omega) [ll,Ev.c,aW.c,VZ]
 refine ab (fun h1=> ?_) (fun h1=> ?_) <;>simp(disch:=omega) [h1,Fl,VZ]
 refine ab (fun h2=> ?_) (fun h2=> ?_) <;>simp(disch:=omega) [h1,h2,VZ]
 refine av (zu a.msg b.msg ha hb) ?_ (ha:=by first|rfl|(simp[aW.c,VY] <;>repeat' constructor))
 simp(disch:=omega) [h1,h2,VZ]
theorem Hi (a:Ev):Fl a a=true:=by simp[Fl,db.2 rfl]
abbrev js:Nat:=49
def iY:AF:=⟨2,5,[.tmp 4],(.seq (.ops [.i (.mov 4 (qb false))]) (.seq (.seq (.ops [qm 6 0,qn 7 6,qm 8 1,qn 9 8,qd 10 .neq 7 9]) (.cond (.s 10) (.seq (.ops [.i (.mov 4 (qb false))]) .ret) .skip)) (.seq (.seq (.ops [qm 11 0,qn 12 11, .i (.mov 13 (qi 0))]) (.block 0 (.loop [26,25,24,23,22,21,20,19,18,17,16,15,14,5] (.seq (.ops [qd 14 .lss 13 12]) (.seq (.cond (.s 14) .skip (.exit 0)) (.seq (.block 1 (.seq (.ops [qm 15 13,qm 5 15]) (.seq (.ops [qm 16 0,qm 17 5, .i (.iad 18 (.s 16) (.s 17) 47), .i (.ldh 19 (.s 18) 47 true),qm 20 1,qm 21 5, .i (.iad 22 (.s 20) (.s 21) 47), .i (.ldh 23 (.s 22) 47 true), .i (.call 25 130 false [(.s 19),(.s 23)]), .i (.not 25 (.s 24))]) (.cond (.s 25) (.seq (.ops [.i (.mov 4 (qb false))]) .ret) .skip)))) (.ops [.i (.bin 26 .add (.s 13) (qi 1)),qm 13 26]))))))) (.seq (.ops [.i (.mov 4 (qb true))]) .ret))))⟩
theorem vy:cd js=some iY:=by kernel_rfl
theorem iz (a:List Ev) (hl:a.length≤1073741824) (ha:∀x∈a,x.msg.wc):VC cd js (aE [(false,[.sl (km a)]),(false,[.sl (km a)])]) (fun rs _=>rs=bl true):=by
 refine aa vy rfl ?_
 simp(disch:=omega) [iY,ij,VZ]
 refine bx (σ:=Nat) (f1:=_) (es0:=_) (by simp(disch:=omega) [VZ] <;>rfl) (by simp(disch:=omega) [VZ] <;>rfl) (fun p=> [(13, .val false [.int .i64 (p:Int)])]) (fun p=> [])
  (fun p g=>g+p=a.length) 0 a.length (by simp(disch:=omega) [VZ] <;>rfl) (by simp(disch:=omega) [VZ]) (by simp) ?_
 rintro i nx g hg P hP
 simp(disch:=omega) [VZ]
 refine ab (fun h8=> ?_) (fun h8=> ?_)
 ·have hml:=ha _ (List.getElem_mem h8)
  have hgt:=Ok h8
  generalize a[i]=y at hml hgt
  simp(disch:=omega) [hgt,Ev.c,aW.c,VZ]
  refine av (vi y y hml hml) ?_ (ha:=by first|rfl|(simp[Ev.c,aW.c,VY] <;>repeat' constructor))
  simp(disch:=omega) [Hi,VZ]
  exact hP (i+1) (g - 1) _ _ (by omega) (by omega) (by simp(disch:=omega) [VZ] <;>rfl) (by simp(disch:=omega) [VZ])
 ·simp(disch:=omega) [VZ]
end Go.Eng.F
namespace Go.Eng.F
theorem law_code {n:Nat} (hc:∀b:Bytes,VC cd n (aE [(false,[.sl (bytes b)])]) (fun rs _=>rs=bl true)):∀h vs,EY h [.sl (.int .u8)] vs→WC cd n vs h (fun r _=>r= .val false [.bool true]):=by
 intro h vs ha
 obtain⟨cs,v,S,r,rfl,hv,hr⟩:=ha
 obtain⟨x,rfl⟩:=gZ hv.ok
 have e:Ks [(.sl (.int .u8),CO x)]= [(false,[.sl (bytes x)])]:=by simp only[Ks,List.map,gT,Ty.agg]
 have hc:=hc x
 rw[←e]at hc
 have ha:lE h [(.sl (.int .u8),CO x)] ((Ty.agg (.sl (.int .u8)),cs)::r):=⟨cs,r,rfl,⟨S,hv⟩,hr⟩
 refine(hc.wc ha (ts:= [(.bool, .b true)]) fun rs q=>by rw[q];exact Q8 true).mono ?_
 rintro r' h' ⟨t,css,S',rfl,rfl,hres,_⟩
 obtain⟨cs',cr,S1,S2,rfl,rfl,h1,h2⟩:=hres
 obtain⟨rfl,rfl⟩:=h2
 obtain⟨b,rfl,e2,_⟩:=h1.bool
 simp only[Tv.b.injEq]at e2
 subst e2
 rfl
end Go.Eng.F
namespace Go.Eng.F
theorem rZ (l:List Ev):wid 47 (km l)=true:=by
 induction l with
 |nil=>rfl
 |cons x l ih=>
  have:km (x::l)=x.c::km l:=rfl
  rw[this,wid,ih]
  rfl
end Go.Eng.F
namespace Go.Eng.F
theorem N9.wf {v:bu} (s:N9 v):v.wf:=by
 have h1:=s.block
 have h2:=s.tag
 exact⟨cH s.view,cH s.height,by unfold Sz;omega,cH s.who,by unfold Sz;omega⟩
theorem rV {l:ah} {h:Head} (w:bG l h=true):h.wc:=by
 obtain⟨w1,w2,w3,w4,w5,w6,w7,w8,w9⟩:=KW w
 have q:=(lC w8).wc
 exact⟨⟨cH w1,cH w2,cH w3,by unfold Sz;omega,by unfold Sz;omega,q.1⟩,q.2⟩
theorem IP {l:ah} {x:Block} (h:bF l x=true):x.wx:=by
 obtain⟨w1,w2,w3,w4,w5⟩:=H2 h
 have hL:=fk w2
 have h1:=hL.2.1
 have h2:=hL.2.2.1
 exact⟨⟨rV w1,⟨by unfold Sz;omega,fun y hy=>by have:=w4 y hy;unfold Sz;omega⟩⟩,fun t ht=>by have:=w4 t ht;omega⟩
theorem OO {l:ah} {t:Tc} (h:jC l t=true):t.wf:=by
 obtain⟨w1,w2,w3,w4⟩:=Oj h
 have hL:=fk w1
 have h1:=hL.1
 refine⟨cH w2,by unfold Sz;omega,fun r hr=> ?_⟩
 obtain⟨i,hi,rfl⟩:=List.getElem_of_mem hr
 obtain⟨a1,a2,a3,_⟩:=wZ _ _ w4 i _ (List.getElem?_eq_getElem hi)
 have hv:=cX w2
 exact⟨⟨by omega,by omega⟩,⟨by omega,by omega⟩,by unfold Sz;omega⟩
theorem Jj {l:ah} {p:Proof} (h:c4 l p=true):p.wc:=by
 obtain⟨w1,w2,w3,w4,w5⟩:=Iv h
 have hL:=fk w1
 have h1:=hL.2.2.2
 have q:=(lC w4).wc
 exact⟨⟨⟨by unfold Sz;omega,fun x hx=>(rV (w3 x hx)).1⟩,q.1⟩,fun x hx=>rV (w3 x hx),q⟩
theorem Ed {l:ah} {x:bo} (h:eO l x=true):x.wc∧x.tx.length≤100000000:=by
 obtain⟨w1,w2,w3,w4,w5,w6,w7⟩:=J9 h
 have hL:=fk w1
 have h1:=hL.2.1
 have h2:=hL.2.2.1
 have h6:=cI x.n.toNat x.idx.toNat
 exact⟨⟨cH w2,⟨by omega,by omega⟩,⟨by omega,by omega⟩,by unfold Sz;omega,⟨by unfold Sz;omega,fun y hy=>by have:=w7 y hy;unfold Sz;omega⟩⟩,by omega⟩
theorem MD {l:ah} {m:aW} (h:br l m=true):m.wc:=by
 have hp:=uy h
 rw[IX h]
 rcases jB hp with e|e|e|e|e|e|e
 ·obtain⟨p1,_,p3,_⟩:=Lv (l:=l) e
  rw[p1]at hp;rw[p3]
  exact {c9 with kind:=⟨by simp only;omega,by simp only;omega⟩,vote:=(Gj hp).wf}
 ·obtain⟨p1,_,p3,_⟩:=Mz (l:=l) e
  rw[p1]at hp;rw[p3]
  exact {c9 with kind:=⟨by simp only;omega,by simp only;omega⟩,qc:=(lC hp).wc}
 ·obtain⟨p1,_,p3,_⟩:=Lb (l:=l) e
  rw[p1]at hp;rw[p3]
  exact {c9 with kind:=⟨by simp only;omega,by simp only;omega⟩,head:=rV hp}
 ·obtain⟨p1,_,p3,_⟩:=MJ (l:=l) e
  rw[p1]at hp;rw[p3]
  exact {c9 with kind:=⟨by simp only;omega,by simp only;omega⟩,block:=IP hp}
 ·obtain⟨p1,_,p3,_⟩:=ML (l:=l) e
  rw[p1]at hp;rw[p3]
  exact {c9 with kind:=⟨by simp only;omega,by simp only;omega⟩,tc:=OO hp}
 ·obtain⟨p1,_,p3,_⟩:=Lj (l:=l) e
  rw[p1]at hp;rw[p3]
  exact {c9 with kind:=⟨by simp only;omega,by simp only;omega⟩,proof:=Jj hp}
 ·obtain⟨p1,_,p3,_⟩:=MU (l:=l) e
  rw[p1]at hp;rw[p3]
  exact {c9 with kind:=⟨by simp only;omega,by simp only;omega⟩,incl:=(Ed hp).1,tx:=(Ed hp).2}
structure Ev.Ja (l:ah) (k:Nat) (e:Ev):Prop where
 kind:e.kind=1∨e.kind=2∨e.kind=3
 n:e.kind=1→0≤e.n∧e.n≤k
 msg:e.kind=3→br l e.msg=true
 wc:e.msg.wc
theorem Ev.Ja.up {l:ah} {k k':Nat} {e:Ev} (h:e.Ja l k) (hk:k≤k'):e.Ja l k':= {h with n:=fun x=>by have:=h.n x;omega}
theorem DQ {l:ah} {k k':Nat} (hk:k≤k'):∀e∈d7 k,e.Ja l k':=fun e he=>by
 unfold d7 at he
 split at he
 ·cases he
 ·rw[List.mem_singleton]at he
  subst he
  exact⟨.inl rfl,fun _=>⟨by simp only;omega,by simp only;omega⟩,fun h=>by simp at h,c9⟩
theorem Km {l:ah} {d:Bytes} {k:Nat}:(rM l d).Ja l k:=by
 unfold rM
 split
 ·rename_i h
  obtain⟨m,e1,e2,_⟩:=Na h
  rw[e1]
  exact⟨.inr (.inr rfl),fun h=>by simp at h,fun _=>e2,MD e2⟩
 ·exact⟨.inr (.inl rfl),fun h=>by simp at h,fun h=>by simp at h,c9⟩
theorem HA (k:Nat):(d7 k).length≤1:=by unfold d7;split <;>simp
theorem kr {l:ah} {cl:Bool}:∀(n:Nat) (u:Bytes) (k:Nat),u.length≤n→(∀e∈(scan l cl u k).1,e.Ja l (k+u.length))∧(scan l cl u k).2.1≤k+u.length∧(scan l cl u k).1.length≤u.length
 |0,u,k,h=>by
  have:u= []:=List.eq_nil_of_length_eq_zero (by omega)
  subst this
  simp[iD]
 |n+1,u,k,h=>by
  by_cases hu:u= []
  ·subst hu
   simp[iD]
  have hp:=List.length_pos_iff.2 hu
  by_cases hw:(aq l u 0).1=1∧cl=false
  ·obtain⟨hw,rfl⟩:=hw
   rw[ya hu hw]
   simp
  by_cases h2:(aq l u 0).1≠3
  ·rw[r0 hu hw h2]
   obtain⟨a1,a2,a3⟩:=kr (l:=l) (cl:=cl) n (u.drop 1) (k+1) (by rw[List.length_drop];omega)
   rw[List.length_drop]at a1 a2 a3
   exact⟨fun e he=>(a1 e he).up (by omega),by omega,by omega⟩
  ·obtain⟨m,hm,_,h9,hl⟩:=uW h2
   rw[sf hm h9 hl]
   obtain⟨a1,a2,a3⟩:=kr (l:=l) (cl:=cl) n (u.drop m) 0 (by rw[List.length_drop];omega)
   rw[List.length_drop]at a1 a2 a3
   have hs:=HA k
   refine⟨fun e he=> ?_,by simp only;omega,by simp only[List.length_append,List.length_cons,List.length_nil];omega⟩
   simp only[List.mem_append,List.mem_singleton]at he
   rcases he with(he|rfl)|he
   ·exact DQ (by omega) e he
   ·exact Km
   ·exact(a1 e he).up (by omega)
theorem Ba {l:ah} {s:Bytes} {cl:Bool}:(∀e∈parse l s cl,e.Ja l s.length)∧(parse l s cl).length≤s.length+1:=by
 unfold parse
 split
 ·rw[lV]
  obtain⟨a1,a2,a3⟩:=kr (l:=l) (cl:=cl) s.length s 0 (Nat.le_refl _)
  have hs:=HA (scan l cl s 0).2.1
  rw[Nat.zero_add]at a1 a2
  cases cl
  ·simpa using⟨a1,by omega⟩
  ·refine⟨fun e he=> ?_,by simp only[if_true,List.length_append];omega⟩
   simp only[if_true,List.mem_append]at he
   rcases he with he|he
   ·exact a1 e he
   ·exact DQ a2 e he
 ·simp
end Go.Eng.F
namespace Go.Eng.F
theorem l7 (l:ah) (m:aW) (hw:m.wc):VC cd jF (aE [(true,l.c),(true,m.c)]) (fun rs _=>rs= [(false,[.o true (some (5,1)) (bytes (IG l m))]),(false,[.p (.bool (br l m))])]):=by
 refine VC.lL ((BQ l m hw).mono fun rs ps h=> ?_)
 subst h
 refine⟨_,?_,rfl⟩
 by_cases h:br l m=true
 ·rw[dg h];simp[IG,h,aG,aL,aR]
 ·have h':br l m=false:=by simpa using h
  rw[ei h'];simp[IG,h',aG,aL,aR,ag]
def fr (l:ah) (b:Bytes):Bytes:=if ia l b=true then xl b else []
theorem rY (l:ah) (b:Bytes):xm l b= [(false,[.o true (some (5,1)) (bytes (fr l b))]),(false,[.p (.bool (ia l b))])]:=rfl
theorem Fm (l:ah) (b:Bytes):(fr l b).length≤4008:=by
 unfold fr
 split
 ·rename_i h
  simp only[ia,ah.ok,cf,Bool.and_eq_true,decide_eq_true_eq]at h
  rw[IU]
  omega
 ·simp
theorem zE (x:bu) (hw:x.wf):VC cd jN (aE [(true,x.c)]) (fun r _=>∃m:aW,m.wc∧r= [(true,m.o)]):=by
 refine VC.lL ((fF x hw).mono fun rs ps h=> ?_)
 subst h
 exact⟨[(true,aW.o {au with kind:=1,vote:=x})],by simp[iZ,aG,aL,aR,aW.o,au,bI,gm,bm,aF,iW,aK,bD,ag,aY,aZ,aX],{au with kind:=1,vote:=x},{FV with kind:=⟨by simp only;omega,by simp only;omega⟩,vote:=hw},rfl⟩
abbrev pC:Nat:=156
def rA:AF:=⟨2,6,[.tmp 4],(.seq (.ops [.i (.lbox 3 (.s 1)), .i (.mov 4 (.c (.val false [.nils])))]) (.seq (.ops [ql 10 3 3 5 true,qm 11 0,ql 12 3 3 5 true, .i (.call 14 161 false [(.s 11),(.s 12)]),qk 15 160 13, .i (.call 16 133 false [(.s 10),(.s 14)]),qm 9 15, .i (.ext 16 (.s 9) 0), .i (.ext 17 (.s 9) 1),qm 5 16,qm 6 17]) (.seq (.seq (.ops [qm 18 0, .i (.call 20 135 false [(.s 18),(qi 4)])]) (.cond (.s 19) (.ops [ql 21 3 3 5 true,qm 22 0,ql 23 3 3 5 true, .i (.call 25 134 false [(.s 22),(.s 23)]), .i (.call 26 133 false [(.s 21),(.s 24)]),qm 20 25, .i (.ext 26 (.s 20) 0), .i (.ext 27 (.s 20) 1),qm 5 26]) .skip)) (.seq (.seq (.ops [qm 28 0, .i (.call 30 135 false [(.s 28),(qi 6)])]) (.cond (.s 29) (.ops [qm 30 0, .i (.call 32 138 false [(.s 30),(qi 5)]), .i (.lsl 32 1 1 [.int .u8 0] [(0,1,(.c (.val false [.int .u8 1])))]), .i (.app 33 5 1 1 (.s 31) (.s 32)),qm 5 33]) .skip)) (.seq (.ops [ql 35 3 3 5 true,qm 36 5, .i (.call 38 152 false [(.s 35),(.s 36)]),qm 34 37, .i (.ext 38 (.s 34) 0), .i (.ext 39 (.s 34) 1),qm 7 38,qm 8 39]) (.seq (.ops [qm 40 7,qm 4 40]) .ret))))))⟩
theorem CF:cd pC=some rA:=by kernel_rfl
theorem uM (b:Bytes) (i:Nat) (h:Int) (l:ah) (hl:l.rd) (hi:i≤b.length) (hb:b.length≤1073741824):VC cd pC (iX [] 133 (cur b i h) [(true,l.c)]) (fun r p=>∃x:Bytes×Nat×Int,(x.1.length≤4008∧x.2.1≤b.length)∧r= [(false,[.o true (some (5,1)) (bytes x.1)])]∧p= [.pt 133 (cur b x.2.1 x.2.2)]):=by
 refine ay CF rfl ?_
 simp(disch:=omega) [rA,cur,ah.c,VZ]
 refine cN (um b i h l hl.1 hi hb) ?_ (n1:=by intro _;simp(disch:=omega) [ah.c,bu.o,VZ]) (n3:=by intro _;simp(disch:=omega) [ah.c,bu.o,VZ])
 rintro⟨x1,i1,h1⟩ ⟨g1,j1⟩
 simp only at g1 j1
 have hw:=Rz hl g1
 simp(disch:=omega) [cur,bu.o,VZ]
 refine RI (zE x1 hw) ?_ (ha:=by first|rfl|(simp[bu.c,VY] <;>repeat' constructor))
 intro m1 g2
 simp(disch:=omega) [aW.o,VZ]
 refine av (l7 l m1 g2) ?_ (ha:=by first|rfl|(simp[ah.c,aW.c,VY] <;>repeat' constructor))
 have n1:=Hw l m1
 simp(disch:=omega) [VZ]
 refine cN (gh b i1 h1 4 (by omega) j1 hb) ?_
 rintro⟨o1,i2,h2⟩ j2
 simp only at j2
 cases o1
 ·simp(disch:=omega) [cur,VZ]
  refine cN (gh b i2 h2 6 (by omega) j2 hb) ?_
  rintro⟨o2,i3,h3⟩ j3
  simp only at j3
  cases o2
  ·simp(disch:=omega) [cur,ah.c,VZ]
   refine av (gw l (IG l m1) (by omega)) ?_ (ha:=by first|rfl|(simp[ah.c,VY] <;>repeat' constructor))
   simp(disch:=omega) [rY,VZ]
   exact⟨_,i3,⟨Fm _ _,j3⟩,rfl,rfl⟩
  ·simp(disch:=omega) [cur,ah.c,VZ]
   refine cN (dE b i3 h3 5 (by omega) j3 hb) ?_
   rintro⟨y,i4,h4⟩ ⟨g4,j4⟩
   simp only at g4 j4
   simp(disch:=omega) [cur,ae,VZ]
   refine av (gw l (y++ [1]) (by simp;omega)) ?_ (ha:=by first|rfl|(simp[ah.c,bytes,VY] <;>repeat' constructor))
   simp(disch:=omega) [rY,VZ]
   exact⟨_,i4,⟨Fm _ _,j4⟩,rfl,rfl⟩
 ·simp(disch:=omega) [cur,ah.c,VZ]
  refine cN (H3 b i2 h2 l hl j2 hb) ?_ (n1:=by intro _;simp(disch:=omega) [ah.c,aW.o,VZ]) (n3:=by intro _;simp(disch:=omega) [ah.c,aW.o,VZ])
  rintro⟨m2,i5,h5⟩ ⟨g5,j5⟩
  simp only at g5 j5
  simp(disch:=omega) [cur,aW.o,VZ]
  refine av (l7 l m2 g5) ?_ (ha:=by first|rfl|(simp[ah.c,aW.c,VY] <;>repeat' constructor))
  have n2:=Hw l m2
  simp(disch:=omega) [VZ]
  refine cN (gh b i5 h5 6 (by omega) j5 hb) ?_
  rintro⟨o2,i3,h3⟩ j3
  simp only at j3
  cases o2
  ·simp(disch:=omega) [cur,ah.c,VZ]
   refine av (gw l (IG l m2) (by omega)) ?_ (ha:=by first|rfl|(simp[ah.c,VY] <;>repeat' constructor))
   simp(disch:=omega) [rY,VZ]
   exact⟨_,i3,⟨Fm _ _,j3⟩,rfl,rfl⟩
  ·simp(disch:=omega) [cur,ah.c,VZ]
   refine cN (dE b i3 h3 5 (by omega) j3 hb) ?_
   rintro⟨y,i4,h4⟩ ⟨g4,j4⟩
   simp only at g4 j4
   simp(disch:=omega) [cur,ae,VZ]
   refine av (gw l (y++ [1]) (by simp;omega)) ?_ (ha:=by first|rfl|(simp[ah.c,bytes,VY] <;>repeat' constructor))
   simp(disch:=omega) [rY,VZ]
   exact⟨_,i4,⟨Fm _ _,j4⟩,rfl,rfl⟩
end Go.Eng.F
namespace Go.Eng.F
abbrev ke:Nat:=90
def kQ:AF:=⟨2,6,[.tmp 4],(.seq (.ops [.i (.lbox 3 (.s 1)), .i (.mov 4 (.c (.val false [.nils])))]) (.seq (.ops [.i (.bse 7),qm 5 7]) (.seq (.seq (.ops [qm 8 0, .i (.call 10 97 false [(.s 8),(qi 4)]),qm 6 9]) (.block 0 (.loop [48,47,46,45,44,43,42,41,40,39,38,37,36,35,34,33,32,31,30,29,28,27,26,25,24,23,22,21,20,19,18,17,16,15,14,13,12,11,10] (.seq (.seq (.ops [qm 10 6, .i (.bin 11 .gtr (.s 10) (qi 0))]) (.cond (.s 11) .skip (.exit 0))) (.seq (.block 1 (.seq (.ops [qm 14 0, .i (.call 16 97 false [(.s 14),(qi 6)])]) (.block 2 (.seq (.ops [.i (.bin 22 .eql (.s 15) (qi 0)),qm 21 22]) (.cond (.s 21) (.ops [qm 23 5,qm 24 0, .i (.call 26 138 false [(.s 24),(qi 4)]), .i (.app 26 5 1 1 (.s 23) (.s 25)),qm 5 26]) (.seq (.ops [.i (.bin 28 .eql (.s 15) (qi 1)),qm 27 28]) (.cond (.s 27) (.ops [qm 29 5, .i (.lsl 30 1 1 [.int .u8 0] [(0,1,(.c (.val false [.int .u8 181])))]), .i (.app 31 5 1 1 (.s 29) (.s 30)),qm 5 31]) (.seq (.ops [.i (.bin 33 .eql (.s 15) (qi 2)),qm 32 33]) (.cond (.s 32) (.ops [qm 34 5,qm 35 0, .i (.call 37 97 false [(.s 35),(qi 90)]), .i (.cvi 37 .u8 (.s 36)), .i (.lsl 38 1 4 [.int .u8 0] [(0,1,(.c (.val false [.int .u8 181]))),(1,1,(.c (.val false [.int .u8 70]))),(2,1,(.s 37)),(3,1,(.c (.val false [.int .u8 0])))]), .i (.app 39 5 1 1 (.s 34) (.s 38)),qm 5 39]) (.seq (.ops [.i (.bin 41 .eql (.s 15) (qi 3)),qm 40 41]) (.cond (.s 40) (.ops [qm 42 5,qm 43 0,qm 44 0,ql 45 3 3 5 true, .i (.call 47 156 false [(.s 44),(.s 45)]), .i (.call 48 136 false [(.s 43),(.s 46)]), .i (.app 48 5 1 1 (.s 42) (.s 47)),qm 5 48]) (.ops [qm 16 5,qm 17 0,ql 18 3 3 5 true, .i (.call 20 156 false [(.s 17),(.s 18)]), .i (.app 20 5 1 1 (.s 16) (.s 19)),qm 5 20])))))))))))) (.ops [qm 12 6, .i (.bin 13 .sub (.s 12) (qi 1)),qm 6 13])))))) (.seq (.ops [qm 49 5,qm 4 49]) .ret))))⟩
theorem yh:cd ke=some kQ:=by kernel_rfl
theorem we (b:Bytes) (i:Nat) (h:Int) (l:ah) (hl:l.rd) (hi:i≤b.length) (hb:b.length≤1073741824):VC cd ke (iX [] 133 (cur b i h) [(true,l.c)]) (fun r p=>∃x:Bytes×Nat×Int,(x.1.length≤12033∧x.2.1≤b.length)∧r= [(false,[.o true (some (5,1)) (bytes x.1)])]∧p= [.pt 133 (cur b x.2.1 x.2.2)]):=by
 have e181:∀x:Bytes,bytes x++ [[.int .u8 181]]=bytes (x++ [181]):=fun x=>by simp[bytes]
 have e4:∀(x:Bytes) (k:Int),bytes x++ [[.int .u8 181],[.int .u8 70],[.int .u8 (IntKind.u8.wrap k)],[.int .u8 0]]=bytes (x++ [181,70,b8 k,0]):=fun x k=>by
  have e:x++ [181,70,b8 k,0]=((x++ [181,70])++ [b8 k])++ [0]:=by simp
  rw[e,←bE,←z0]
  simp[bytes]
 refine ay yh rfl ?_
 simp(disch:=omega) [kQ,cur,ah.c,VZ]
 refine cN (ao b i h 4 (by omega) hi hb) ?_
 rintro⟨k,i1,h1⟩ ⟨g1,j1⟩
 simp only at g1 j1
 simp(disch:=omega) [cur,VZ]
 refine bx (σ:=Nat×Nat×Nat×Int×Bytes) (f1:=_) (es0:=_) (by simp(disch:=omega) [VZ];rfl) (by simp(disch:=omega) [VZ];rfl) (fun p=> [(6, .val false [.int .i64 (p.1:Int)]),(5, .val false [.ow 7 p.2.1])]) (fun p=> [(4096, .pt 0 133 [.sl (bytes b), .int .i64 (p.2.2.1:Int), .int .i64 p.2.2.2.1]),(7, .sl p.2.1 true true (some (5,1)) (bytes p.2.2.2.2))])
  (fun p g=>g=p.1∧p.2.2.1≤b.length∧p.2.2.2.2.length+4011 * p.1≤12033) (k,_,i1,h1,[]) k (by simp(disch:=omega) [VZ];rfl) (by simp(disch:=omega) [bytes,VZ]) ⟨rfl,j1,by simp;omega⟩ ?_
 rintro⟨n,v,i2,h2,x⟩ nx g ⟨hg,h5,h6⟩ P hP
 simp only at hg h5 h6
 simp(disch:=omega) [VZ]
 refine ab (fun h8=> ?_) (fun h8=> ?_)
 ·have e1:IntKind.i64.wrap ((n:Int) - 1)=((n - 1:Nat):Int):=by rw[yu (by omega) (by omega)];omega
  simp(disch:=omega) [VZ]
  refine cN (ao b i2 h2 6 (by omega) h5 hb) ?_
  rintro⟨q,i3,h3⟩ ⟨g3,j3⟩
  simp only at g3 j3
  have hq:q=0∨q=1∨q=2∨q=3∨q=4∨q=5:=by omega
  rcases hq with rfl|rfl|rfl|rfl|rfl|rfl
  ·simp(disch:=omega) [cur,VZ]
   refine cN (dE b i3 h3 4 (by omega) j3 hb) ?_
   rintro⟨y,i4,h4⟩ ⟨g4,j4⟩
   simp only at g4 j4
   simp(disch:=omega) [cur,e1,bE,ae,VZ]
   exact hP (n - 1,_,i4,h4,x++y) (g - 1) _ _ (by omega) ⟨by simp only;omega,j4,by simp;omega⟩ (by simp(disch:=omega) [VZ];rfl) (by simp(disch:=omega) [VZ])
  ·simp(disch:=omega) [cur,e1,e181,ae,VZ]
   exact hP (n - 1,_,i3,h3,x++ [181]) (g - 1) _ _ (by omega) ⟨by simp only;omega,j3,by simp;omega⟩ (by simp(disch:=omega) [VZ];rfl) (by simp(disch:=omega) [VZ])
  ·simp(disch:=omega) [cur,VZ]
   refine cN (ao b i3 h3 90 (by omega) j3 hb) ?_
   rintro⟨y,i4,h4⟩ ⟨g4,j4⟩
   simp only at g4 j4
   simp(disch:=omega) [cur,e1,e4,ae,VZ]
   exact hP (n - 1,_,i4,h4,x++ [181,70,b8 y,0]) (g - 1) _ _ (by omega) ⟨by simp only;omega,j4,by simp;omega⟩ (by simp(disch:=omega) [VZ];rfl) (by simp(disch:=omega) [VZ])
  ·simp(disch:=omega) [cur,ah.c,VZ]
   refine cN (uM b i3 h3 l hl j3 hb) ?_ (n1:=by intro _;simp(disch:=omega) [ah.c,VZ]) (n3:=by intro _;simp(disch:=omega) [ah.c,VZ])
   rintro⟨y,i4,h4⟩ ⟨g4,j4⟩
   simp only at g4 j4
   simp(disch:=omega) [cur,VZ]
   refine cN (Jb b i4 h4 y (by omega) j4 hb) ?_ (n1:=by intro _;simp(disch:=omega) [Ju,VZ]) (n3:=by intro _;simp(disch:=omega) [Ju,VZ])
   rintro⟨⟨fl,z⟩,i5,h5'⟩ ⟨g5,j5⟩
   simp only at g5 j5
   cases fl
   ·simp(disch:=omega) [cur,Nt,e1,bE,ae,VZ]
    exact hP (n - 1,_,i5,h5',x++z) (g - 1) _ _ (by omega) ⟨by simp only;omega,j5,by simp;omega⟩ (by simp(disch:=omega) [VZ];rfl) (by simp(disch:=omega) [VZ])
   ·simp(disch:=omega) [cur,Nt,e1,bE,ae,VZ]
    exact hP (n - 1,_,i5,h5',x++z) (g - 1) _ _ (by omega) ⟨by simp only;omega,j5,by simp;omega⟩ (by simp(disch:=omega) [VZ];rfl) (by simp(disch:=omega) [VZ])
  ·simp(disch:=omega) [cur,ah.c,VZ]
   refine cN (uM b i3 h3 l hl j3 hb) ?_ (n1:=by intro _;simp(disch:=omega) [ah.c,VZ]) (n3:=by intro _;simp(disch:=omega) [ah.c,VZ])
   rintro⟨y,i4,h4⟩ ⟨g4,j4⟩
   simp only at g4 j4
   simp(disch:=omega) [cur,e1,bE,ae,VZ]
   exact hP (n - 1,_,i4,h4,x++y) (g - 1) _ _ (by omega) ⟨by simp only;omega,j4,by simp;omega⟩ (by simp(disch:=omega) [VZ];rfl) (by simp(disch:=omega) [VZ])
  ·simp(disch:=omega) [cur,ah.c,VZ]
   refine cN (uM b i3 h3 l hl j3 hb) ?_ (n1:=by intro _;simp(disch:=omega) [ah.c,VZ]) (n3:=by intro _;simp(disch:=omega) [ah.c,VZ])
   rintro⟨y,i4,h4⟩ ⟨g4,j4⟩
   simp only at g4 j4
   simp(disch:=omega) [cur,e1,bE,ae,VZ]
   exact hP (n - 1,_,i4,h4,x++y) (g - 1) _ _ (by omega) ⟨by simp only;omega,j4,by simp;omega⟩ (by simp(disch:=omega) [VZ];rfl) (by simp(disch:=omega) [VZ])
 ·simp(disch:=omega) [cur,VZ]
  exact⟨x,i2,⟨by omega,h5⟩,rfl,rfl⟩
end Go.Eng.F
namespace Go.Eng.F
abbrev i9:Nat:=15
def jb:AF:=⟨2,5,[.tmp 4],(.seq (.ops [.i (.lbox 3 (.s 1)), .i (.mov 4 (.c (.val false [.nils])))]) (.seq (.ops [qm 7 0,qk 9 88 7,qm 5 8]) (.seq (.ops [qm 9 5,qm 10 5, .i (.nch 11 (.s 10)),qf 12 11 2, .i (.ldh 13 (.s 12) 1 false), .i (.bin 14 .add (.s 13) (qi 31)), .i (.nch 15 (.s 9)),qf 16 15 2, .i (.sth (.s 16) (.s 14) 1)]) (.seq (.ops [qm 17 5,ql 18 3 3 5 true, .i (.call 20 90 false [(.s 17),(.s 18)]),qm 6 19]) (.seq (.ops [qm 20 6,qm 21 5,ql 22 3 3 5 true, .i (.call 24 90 false [(.s 21),(.s 22)]), .i (.app 24 5 1 1 (.s 20) (.s 23)),qm 4 24]) .ret)))))⟩
theorem vx:cd i9=some jb:=by kernel_rfl
theorem CS (b:Bytes) (l:ah) (hl:l.ok=true) (hb:b.length≤1073741824):VC cd i9 (aE [(false,[.sl (bytes b)]),(true,l.c)]) (fun r _=>∃x:Bytes,x.length≤24066∧r= [(false,[.o true (some (5,1)) (bytes x)])]):=by
 have hL:=fk hl
 refine aa vx rfl ?_
 simp(disch:=omega) [jb,ah.c,VY]
 refine RP (xE b hb) ?_
 intro h _
 simp(disch:=omega) [cur,E2,VZ]
 refine cN (we b 0 _ l hL (Nat.zero_le _) hb) ?_ (n1:=by intro _;simp(disch:=omega) [ah.c,VZ]) (n3:=by intro _;simp(disch:=omega) [ah.c,VZ])
 rintro⟨x,i1,h1⟩ ⟨g1,j1⟩
 simp only at g1 j1
 simp(disch:=omega) [cur,ah.c,VZ]
 refine cN (we b i1 h1 l hL j1 hb) ?_ (n1:=by intro _;simp(disch:=omega) [ah.c,VZ]) (n3:=by intro _;simp(disch:=omega) [ah.c,VZ])
 rintro⟨y,i2,h2⟩ ⟨g2,j2⟩
 simp only at g2 j2
 simp(disch:=omega) [cur,bE,ae,VZ]
 exact⟨x++y,by simp;omega,rfl⟩
abbrev jY:Nat:=91
def jV:AF:=⟨2,6,[.tmp 4],(.seq (.ops [.i (.mov 4 (.c (.val false [.nils])))]) (.seq (.ops [.i (.bse 7),qm 5 7]) (.seq (.block 0 (.loop [38,37,36,35,34,33,32,31,30,29,28,27,26,25,24,23,22,21,20,19,18,17,16,15,14,13,12,11,10,9,8,6] (.seq (.seq (.ops [qm 8 1,qn 9 8, .i (.bin 10 .gtr (.s 9) (qi 0)),qm 11 10, .g 11 true 13 (.mov 12 (.s 5)), .g 11 true 14 (.len 13 false (.s 12)), .g 11 true 15 (.bin 14 .lss (.s 13) (qi 9)), .i (.pick 15 (.s 11) (.s 14) (qb false))]) (.cond (.s 15) .skip (.exit 0))) (.block 1 (.seq (.ops [qm 16 0,qm 17 1,qn 18 17, .i (.bin 19 .add (.s 18) (qi 1)), .i (.call 21 97 false [(.s 16),(.s 19)]),qm 6 20]) (.seq (.seq (.ops [qm 21 0, .i (.call 23 135 false [(.s 21),(qi 2)]),qm 23 22, .g 23 true 25 (.mov 24 (.s 6)), .g 23 true 26 (.bin 25 .gtr (.s 24) (qi 6)), .i (.pick 26 (.s 23) (.s 25) (qb false))]) (.cond (.s 26) (.ops [qm 27 0, .i (.call 29 97 false [(.s 27),(qi 7)]),qm 6 28]) .skip)) (.seq (.ops [qm 29 5,qm 30 1,qm 31 6, .i (.eA 32 1 (.s 30) none (some (.s 31))),qk 34 143 32, .i (.lsl 34 1 1 [.nils] [(0,1,(.s 33))]), .i (.app 35 22 1 24 (.s 29) (.s 34)),qm 5 35]) (.ops [qm 36 1,qm 37 6, .i (.eA 38 1 (.s 36) (some (.s 37)) none),qm 1 38])))))))) (.seq (.ops [qm 39 5,qm 40 1,qk 42 143 40, .i (.lsl 42 1 1 [.nils] [(0,1,(.s 41))]), .i (.app 43 22 1 24 (.s 39) (.s 42)),qm 4 43]) .ret))))⟩
theorem yl:cd jY=some jV:=by kernel_rfl
theorem E5 (b:Bytes) (i:Nat) (h:Int) (s:Bytes) (hs:s.length≤1073741824) (hi:i≤b.length) (hb:b.length≤1073741824):VC cd jY (iX [] 133 (cur b i h) [(false,[.sl (bytes s)])]) (fun r p=>∃x:List Bytes×Nat×Int,((x.1.length≤10∧x.1.flatten=s)∧x.2.1≤b.length)∧r= [(false,[.o true (some (22,1)) (bH x.1)])]∧p= [.pt 133 (cur b x.2.1 x.2.2)]):=by
 refine ay yl rfl ?_
 simp(disch:=omega) [jV,cur,VZ]
 refine bx (σ:=Bytes×Nat×Nat×Int×List Bytes) (f1:=_) (es0:=_) (by simp(disch:=omega) [VZ];rfl) (by simp(disch:=omega) [VZ];rfl) (fun p=> [(1, .val false [.sl (bytes p.1)]),(5, .val false [.ow 7 p.2.1])]) (fun p=> [(4096, .pt 0 133 [.sl (bytes b), .int .i64 (p.2.2.1:Int), .int .i64 p.2.2.2.1]),(7, .sl p.2.1 true true (some (22,1)) (bH p.2.2.2.2))])
  (fun p g=>g+p.2.2.2.2.length=9∧p.2.2.1≤b.length∧p.2.2.2.2.flatten++p.1=s) (s,_,i,h,[]) 9 (by simp(disch:=omega) [VZ];rfl) (by simp(disch:=omega) [bH,VZ]) ⟨by simp,hi,by simp⟩ ?_
 rintro⟨u,v,i2,h2,x⟩ nx g ⟨hg,h5,h6⟩ P hP
 simp only at hg h5 h6
 have hu:u.length≤s.length:=by rw[←h6];simp
 have hlx:(bH x).length=x.length:=aC x
 simp(disch:=omega) [ae,hlx,VZ]
 by_cases h7:0 < u.length
 case neg=>
  simp(disch:=omega) [ae,hlx,h7,VZ]
  refine av (bb u (by omega)) ?_
  simp(disch:=omega) [eE,VZ]
  exact⟨x++ [u],i2,⟨⟨by simp;omega,by simpa using h6⟩,h5⟩,rfl,rfl⟩
 simp(disch:=omega) [ae,hlx,h7,VZ]
 refine ab (fun h8=> ?_) (fun h8=> ?_)
 rotate_left
 ·simp(disch:=omega) [ae,hlx,VZ]
  refine av (bb u (by omega)) ?_
  simp(disch:=omega) [eE,VZ]
  exact⟨x++ [u],i2,⟨⟨by simp;omega,by simpa using h6⟩,h5⟩,rfl,rfl⟩
 simp(disch:=omega) [ae,hlx,VZ]
 refine cN (ao b i2 h2 (u.length+1) (by omega) h5 hb) ?_
 rintro⟨n1,i3,h3⟩ ⟨g3,j3⟩
 simp only at g3 j3
 simp(disch:=omega) [cur,VZ]
 refine cN (gh b i3 h3 2 (by omega) j3 hb) ?_
 rintro⟨o,i4,h4⟩ j4
 simp only at j4
 cases o
 ·simp(disch:=omega) [cur,VZ]
  have hnn1:n1≤u.length:=by omega
  have etn1:List.take n1 (bytes u)=bytes (u.take n1):=by simp[bytes]
  have edn1:List.take (u.length - n1) (List.drop n1 (bytes u))=bytes (u.drop n1):=by
   rw[show u.length - n1=(List.drop n1 (bytes u)).length by rw[List.length_drop,ae],List.take_length]
   simp[bytes]
  simp(disch:=omega) [cur,ae,hnn1,etn1,VZ]
  refine av (bb (u.take n1) (by rw[List.length_take];omega)) ?_
  simp(disch:=omega) [ae,hlx,eE,hnn1,edn1,VZ]
  exact hP (u.drop n1,_,i4,h4,x++ [u.take n1]) (g - 1) _ _ (by omega) ⟨by simp;omega,j4,by rw[←h6];simp⟩ (by simp(disch:=omega) [VZ];rfl) (by simp(disch:=omega) [VZ])
 ·simp(disch:=omega) [cur,VZ]
  refine ab (fun h9=> ?_) (fun h9=> ?_)
  ·simp(disch:=omega) [VZ]
   refine cN (ao b i4 h4 7 (by omega) j4 hb) ?_
   rintro⟨n2,i5,h5'⟩ ⟨g5,j5⟩
   simp only at g5 j5
   have hnn2:n2≤u.length:=by omega
   have etn2:List.take n2 (bytes u)=bytes (u.take n2):=by simp[bytes]
   have edn2:List.take (u.length - n2) (List.drop n2 (bytes u))=bytes (u.drop n2):=by
    rw[show u.length - n2=(List.drop n2 (bytes u)).length by rw[List.length_drop,ae],List.take_length]
    simp[bytes]
   simp(disch:=omega) [cur,ae,hnn2,etn2,VZ]
   refine av (bb (u.take n2) (by rw[List.length_take];omega)) ?_
   simp(disch:=omega) [ae,hlx,eE,hnn2,edn2,VZ]
   exact hP (u.drop n2,_,i5,h5',x++ [u.take n2]) (g - 1) _ _ (by omega) ⟨by simp;omega,j5,by rw[←h6];simp⟩ (by simp(disch:=omega) [VZ];rfl) (by simp(disch:=omega) [VZ])
  ·have hnn1:n1≤u.length:=by omega
   have etn1:List.take n1 (bytes u)=bytes (u.take n1):=by simp[bytes]
   have edn1:List.take (u.length - n1) (List.drop n1 (bytes u))=bytes (u.drop n1):=by
    rw[show u.length - n1=(List.drop n1 (bytes u)).length by rw[List.length_drop,ae],List.take_length]
    simp[bytes]
   simp(disch:=omega) [cur,ae,hnn1,etn1,VZ]
   refine av (bb (u.take n1) (by rw[List.length_take];omega)) ?_
   simp(disch:=omega) [ae,hlx,eE,hnn1,edn1,VZ]
   exact hP (u.drop n1,_,i4,h4,x++ [u.take n1]) (g - 1) _ _ (by omega) ⟨by simp;omega,j4,by rw[←h6];simp⟩ (by simp(disch:=omega) [VZ];rfl) (by simp(disch:=omega) [VZ])
abbrev jw:Nat:=16
def jr:AF:=⟨2,5,[.tmp 4],(.seq (.ops [.i (.mov 4 (.c (.val false [.nils])))]) (.seq (.ops [qm 6 0,qk 8 88 6,qm 5 7]) (.seq (.ops [qm 8 5,qm 9 5, .i (.nch 10 (.s 9)),qf 11 10 2, .i (.ldh 12 (.s 11) 1 false), .i (.bin 13 .add (.s 12) (qi 17)), .i (.nch 14 (.s 8)),qf 15 14 2, .i (.sth (.s 15) (.s 13) 1)]) (.seq (.ops [qm 16 5,qm 17 1, .i (.call 19 91 false [(.s 16),(.s 17)]),qm 4 18]) .ret))))⟩
theorem wo:cd jw=some jr:=by kernel_rfl
theorem Dd (b s:Bytes) (hs:s.length≤1073741824) (hb:b.length≤1073741824):VC cd jw (aE [(false,[.sl (bytes b)]),(false,[.sl (bytes s)])]) (fun r _=>∃x:List Bytes,(x.length≤10∧x.flatten=s)∧r= [(false,[.o true (some (22,1)) (bH x)])]):=by
 refine aa wo rfl ?_
 simp(disch:=omega) [jr,VY]
 refine RP (xE b hb) ?_
 intro h _
 simp(disch:=omega) [cur,E2,VZ]
 refine cN (E5 b 0 _ s hs (Nat.zero_le _) hb) ?_
 rintro⟨x,i1,h1⟩ ⟨g1,j1⟩
 simp only at g1 j1
 simp(disch:=omega) [cur,VZ]
 exact⟨x,g1,rfl⟩
end Go.Eng.F
namespace Go.Eng.F
theorem Mm {e:List Bytes} {i:Nat} (h:i < e.length):∃y:Bytes,(bH e)[i]? =some [.sl (bytes y)]∧(∀hq:i < (bH e).length,(bH e)[i]'hq= [.sl (bytes y)])∧y∈e∧e[i]? =some y:=
 ⟨e[i],by simp[bH,h],fun hq=>by simp[bH],List.getElem_mem h,List.getElem?_eq_getElem h⟩
theorem Bz {e:List Bytes} {i:Nat} {y:Bytes} (h:e[i]? =some y):(e.take (i+1)).flatten=(e.take i).flatten++y:=by
 rw[List.take_add_one,h]
 simp
theorem HQ {e:List Bytes} (i:Nat):(e.take i).flatten.length≤e.flatten.length:=by
 have h:e.flatten=(e.take i).flatten++(e.drop i).flatten:=by rw[←List.flatten_append,List.take_append_drop]
 rw[h,List.length_append]
 omega
theorem J4 (l:ah):cF l []=⟨0,[]⟩:=rfl
def vk:Nat→Nat
 |0=>139265
 |_+1=>237569
abbrev oH:Nat:=47
def rE:AF:=⟨3,6,[.cell 6 2 true, .tmp 7],(.seq (.ops [.i (.lbox 3 (.s 0)), .i (.lbox 4 (.s 1)), .i (.lal 6 [.int .i64 0, .nils]), .i (.mov 7 (.c (.val false [.nils])))]) (.seq (.ops [ql 14 4 4 2 true,qk 16 92 14, .i (.bse 16), .i (.lal 8 [.int .i64 0, .nils]),qs 8 8 15 2,qm 9 16]) (.seq (.seq (.ops [qm 17 2,qn 18 17, .i (.mov 19 (qi 0))]) (.block 0 (.loop [34,33,32,31,30,29,28,27,26,25,24,23,22,21,20,13,12,11] (.seq (.ops [qd 20 .lss 19 18]) (.seq (.cond (.s 20) .skip (.exit 0)) (.seq (.block 1 (.seq (.ops [.i (.iad 21 (.s 17) (.s 19) 1), .i (.ldh 22 (.s 21) 1 false),qm 11 22]) (.seq (.ops [ql 24 3 3 5 true,ql 25 8 8 2 true,qm 26 11, .i (.call 28 17 false [(.s 24),(.s 25),(.s 26)]),qm 23 27, .i (.ext 28 (.s 23) 0), .i (.ext 29 (.s 23) 1), .i (.lal 12 [.int .i64 0, .nils]),qs 12 12 28 2,qm 13 29]) (.ops [ql 30 12 12 2 true,qm 31 9,qm 32 13, .i (.app 33 107 47 744 (.s 31) (.s 32)),qs 8 8 30 2,qm 9 33])))) (.ops [.i (.bin 34 .add (.s 19) (qi 1)),qm 19 34]))))))) (.seq (.ops [ql 35 8 8 2 true,qm 36 9,qs 6 6 35 2,qm 7 36]) .ret))))⟩
theorem CM:cd oH=some rE:=by kernel_rfl
theorem zN (l:ah) (hl:l.ok=true) (ps:List Bytes) (hn:ps.length≤1000) (hs:ps.flatten.length≤1000000):VC cd oH (aE [(true,l.c),(true,[.int .i64 0, .sl []]),(false,[.sl (bH ps)])]) (fun rs _=>rs=wQ (cF l ps.flatten,(scan l false ps.flatten 0).1)):=by
 have hlx:(bH ps).length=ps.length:=aC ps
 refine aa CM rfl ?_
 simp(disch:=omega) [rE,ah.c,VZ]
 refine av (nZ ⟨0,[]⟩ (by simp)) ?_ (ha:=by first|rfl|(simp[c6.c,bytes,VY] <;>repeat' constructor))
 simp(disch:=omega) [hlx,VZ]
 refine bx (σ:=Nat×Nat×Nat×Nat) (f1:=_) (es0:=_) (by simp(disch:=omega) [VZ] <;>rfl) (by simp(disch:=omega) [VZ] <;>rfl) (fun p=> [(19, .val false [.int .i64 (p.1:Int)]),(8, .box [.int .i64 (cF l (ps.take p.1).flatten).skip, .ow (vk p.2.1) p.2.2.1]),(9, .val false [.ow 16 p.2.2.2])]) (fun p=> [(vk p.2.1, .sl p.2.2.1 true true (some (5,1)) (bytes (cF l (ps.take p.1).flatten).buf)),(16, .sl p.2.2.2 true true (some (107,47)) (km (scan l false (ps.take p.1).flatten 0).1))])
  (fun p g=>g+p.1=ps.length∧(p.2.1=0→p.1=0∧p.2.2.1=9)) (0,0,_,_) ps.length (by simp(disch:=omega) [vk,J4,VZ] <;>rfl) (by simp(disch:=omega) [vk,J4,iD,km,VZ]) ⟨by simp,fun _=>⟨rfl,rfl⟩⟩ ?_
 rintro⟨i,fl,v1,v2⟩ nx g ⟨hg,h0⟩ P hP
 simp only at hg h0
 cases fl
 ·have hz:bytes []=bytes (cF l (ps.take i).flatten).buf∧9=v1:=by
   obtain⟨h1,h2⟩:=h0 rfl
   subst h1 h2
   exact⟨rfl,rfl⟩
  simp(disch:=omega) [vk,VZ]
  refine ab (fun h8=> ?_) (fun h8=> ?_)
  ·obtain⟨y,hgt,hgt2,hm,hy⟩:=Mm h8
   have hpre:=Bz hy
   have hpl:=HQ (e:=ps) (i+1)
   rw[hpre,List.length_append]at hpl
   have hhl:=xr (l:=l) (ps.take i).flatten
   have hF:=vN l (cF l (ps.take i).flatten) y (by omega)
   obtain⟨f1,f2⟩:=BJ (l:=l) (s:=(ps.take i).flatten) (b:=y) hl (by omega)
   rw[f1]at hF
   have f3:=(kr (l:=l) (cl:=false) ((ps.take i).flatten++y).length ((ps.take i).flatten++y) 0 (Nat.le_refl _)).2.2
   rw[f2]at f3
   obtain⟨more,hmo⟩:∃more,more=(scan l false ((cF l (ps.take i).flatten).buf++y) (scan l false (ps.take i).flatten 0).2.1).1:=⟨_,rfl⟩
   rw[←hmo]at hF f2 f3
   simp only[wQ]at hF
   rw[List.length_append,List.length_append]at f3
   have he1:=ij (scan l false (ps.take i).flatten 0).1
   have he2:=ij more
   have he3:km (scan l false (ps.take i).flatten 0).1++km more=km ((scan l false (ps.take i).flatten 0).1++more):=by simp[km]
   simp(disch:=omega) [hgt,hgt2,VZ]
   refine av (hF) ?_ (ha:=by first|rfl|(simp[ah.c,c6.c,VY] <;>repeat' constructor))
   by_cases hfl:flat (km more)=true
   ·simp(disch:=omega) [he1,he2,he3,rZ,hfl,VZ]
    exact hP (i+1,1,_,_) (g - 1) _ _ (by omega) ⟨by simp only;omega,fun h=>by simp at h⟩ (by simp(disch:=omega) [vk,hpre,f2,VZ] <;>exact⟨rfl,rfl⟩) (by simp(disch:=omega) [vk,hpre,f2,VZ];exact⟨hz.2,hz.1⟩)
   ·simp(disch:=omega) [he1,he2,he3,rZ,hfl,VZ]
    exact hP (i+1,1,_,_) (g - 1) _ _ (by omega) ⟨by simp only;omega,fun h=>by simp at h⟩ (by simp(disch:=omega) [vk,hpre,f2,VZ] <;>exact⟨rfl,rfl⟩) (by simp(disch:=omega) [vk,hpre,f2,VZ];exact⟨hz.2,hz.1⟩)
  ·have hi:i=ps.length:=by omega
   subst hi
   simp(disch:=omega) [wQ,List.take_length,VZ]
 ·simp(disch:=omega) [vk,VZ]
  refine ab (fun h8=> ?_) (fun h8=> ?_)
  ·obtain⟨y,hgt,hgt2,hm,hy⟩:=Mm h8
   have hpre:=Bz hy
   have hpl:=HQ (e:=ps) (i+1)
   rw[hpre,List.length_append]at hpl
   have hhl:=xr (l:=l) (ps.take i).flatten
   have hF:=vN l (cF l (ps.take i).flatten) y (by omega)
   obtain⟨f1,f2⟩:=BJ (l:=l) (s:=(ps.take i).flatten) (b:=y) hl (by omega)
   rw[f1]at hF
   have f3:=(kr (l:=l) (cl:=false) ((ps.take i).flatten++y).length ((ps.take i).flatten++y) 0 (Nat.le_refl _)).2.2
   rw[f2]at f3
   obtain⟨more,hmo⟩:∃more,more=(scan l false ((cF l (ps.take i).flatten).buf++y) (scan l false (ps.take i).flatten 0).2.1).1:=⟨_,rfl⟩
   rw[←hmo]at hF f2 f3
   simp only[wQ]at hF
   rw[List.length_append,List.length_append]at f3
   have he1:=ij (scan l false (ps.take i).flatten 0).1
   have he2:=ij more
   have he3:km (scan l false (ps.take i).flatten 0).1++km more=km ((scan l false (ps.take i).flatten 0).1++more):=by simp[km]
   simp(disch:=omega) [hgt,hgt2,VZ]
   refine av (hF) ?_ (ha:=by first|rfl|(simp[ah.c,c6.c,VY] <;>repeat' constructor))
   by_cases hfl:flat (km more)=true
   ·simp(disch:=omega) [he1,he2,he3,rZ,hfl,VZ]
    exact hP (i+1,1,_,_) (g - 1) _ _ (by omega) ⟨by simp only;omega,fun h=>by simp at h⟩ (by simp(disch:=omega) [vk,hpre,f2,VZ] <;>exact⟨rfl,rfl⟩) (by simp(disch:=omega) [vk,hpre,f2,VZ])
   ·simp(disch:=omega) [he1,he2,he3,rZ,hfl,VZ]
    exact hP (i+1,1,_,_) (g - 1) _ _ (by omega) ⟨by simp only;omega,fun h=>by simp at h⟩ (by simp(disch:=omega) [vk,hpre,f2,VZ] <;>exact⟨rfl,rfl⟩) (by simp(disch:=omega) [vk,hpre,f2,VZ])
  ·have hi:i=ps.length:=by omega
   subst hi
   simp(disch:=omega) [wQ,List.take_length,VZ]
end Go.Eng.F
namespace Go.Eng.F
abbrev rC:Nat:=5
def oB:AF:=⟨1,6,[.tmp 2],(.seq (.ops [.i (.mov 2 (qb false))]) (.seq (.seq (.ops [qm 7 0,qn 8 7, .i (.bin 9 .gtr (.s 8) (qi 1048576))]) (.cond (.s 9) (.seq (.ops [.i (.mov 2 (qb true))]) .ret) .skip)) (.seq (.ops [qm 10 0,qk 12 14 10, .i (.lal 3 [.int .i64 0, .int .i64 0, .int .i64 0, .int .i64 0, .int .i64 0]),qs 3 3 11 5]) (.seq (.ops [qm 12 0,ql 13 3 3 5 true, .i (.call 15 15 false [(.s 12),(.s 13)]),qm 4 14]) (.seq (.ops [ql 16 3 3 5 true, .i (.bld 17 [.int .i64 0, .nils] []),qm 18 0,qm 19 4, .i (.call 21 16 false [(.s 18),(.s 19)]), .i (.call 22 47 false [(.s 16),(.s 17),(.s 20)]),qm 15 21, .i (.ext 22 (.s 15) 0), .i (.ext 23 (.s 15) 1), .i (.lal 5 [.int .i64 0, .nils]),qs 5 5 22 2,qm 6 23]) (.seq (.ops [ql 24 3 3 5 true,ql 25 5 5 2 true, .i (.call 27 48 false [(.s 24),(.s 25)]),qm 27 26, .g 27 true 29 (.mov 28 (.s 6)), .g 27 true 30 (.ldl 29 3 (.s 3) 5 true), .g 27 true 31 (.mov 30 (.s 4)), .g 27 true 32 (.call 32 50 false [(.s 29),(.s 30),(qb false)]), .g 27 true 33 (.call 33 49 false [(.s 28),(.s 31)]), .i (.pick 33 (.s 27) (.s 32) (qb false)),qm 34 33, .g 34 true 36 (.mov 35 (.s 6)), .g 34 true 37 (.ldl 36 3 (.s 3) 5 true), .g 34 true 38 (.ldl 37 5 (.s 5) 2 true), .g 34 true 39 (.call 39 51 false [(.s 36),(.s 37)]), .g 34 true 40 (.app 39 107 47 744 (.s 35) (.s 38)), .g 34 true 41 (.ldl 40 3 (.s 3) 5 true), .g 34 true 42 (.mov 41 (.s 4)), .g 34 true 43 (.call 43 50 false [(.s 40),(.s 41),(qb true)]), .g 34 true 44 (.call 44 49 false [(.s 39),(.s 42)]), .i (.pick 44 (.s 34) (.s 43) (qb false)),qm 2 44]) .ret))))))⟩
theorem Cf:cd rC=some oB:=by kernel_rfl
theorem FnChunk_ok (b:Bytes):VC cd rC (aE [(false,[.sl (bytes b)])]) (fun rs _=>rs=bl true):=by
 refine aa Cf rfl ?_
 simp(disch:=omega) [oB,ae,VZ]
 refine ab (fun h0=> ?_) (fun h0=> ?_)
 ·simp(disch:=omega) [VZ]
 have hb:b.length≤1048576:=by omega
 simp(disch:=omega) [VZ]
 refine RI (Dy b (by omega)) ?_
 rintro l ⟨hl,hf⟩
 simp(disch:=omega) [ah.e,VZ]
 refine RI (CS b l hl (by omega)) ?_ (ha:=by first|rfl|(simp[ah.c,VY] <;>repeat' constructor))
 rintro s hs
 simp(disch:=omega) [VZ]
 refine RI (Dd b s (by omega) (by omega)) ?_
 rintro ps ⟨hp1,hp2⟩
 have hFA:=zN l hl ps (by omega) (by rw[hp2];omega)
 rw[hp2]at hFA
 have hpo:=H6 (l:=l) (s:=s) hl
 rw[←hpo]at hFA
 have hpu:=An (l:=l) (s:=s) hl (by omega)
 have hbl:=xr (l:=l) s
 have hcl:=HM (l:=l) (s:=s) hl (by omega)
 rw[←hpo]at hcl
 have hP1:=ug l s false (by omega)
 have hP2:=ug l s true (by omega)
 obtain⟨f1,f2⟩:=Ba (l:=l) (s:=s) (cl:=false)
 obtain⟨f3,f4⟩:=Ba (l:=l) (s:=s) (cl:=true)
 have hE1:=iz (parse l s false) (by omega) fun x hx=>(f1 x hx).wc
 have hE2:=iz (parse l s true) (by omega) fun x hx=>(f3 x hx).wc
 have hC:=DM l (cF l s) (by omega)
 have hP0:=ix l (cF l s) (by omega)
 rw[hpu]at hP0
 generalize close l (cF l s)=more at hcl hC
 generalize cF l s=q at hFA hC hP0 hbl
 rw[←hcl,List.length_append]at f4
 generalize parse l s true=e2 at hcl hP2 hE2
 generalize parse l s false=e1 at hcl hP1 hE1 hFA f2 f4
 simp only[wQ]at hFA
 have l1:=ij e1
 have l2:=ij more
 have l3:km e1++km more=km e2:=by rw[←hcl];simp[km]
 simp(disch:=omega) [VZ]
 refine av (hFA) ?_ (ha:=by first|rfl|(simp[ah.c,c6.c,VY] <;>repeat' constructor))
 simp(disch:=omega) [VZ]
 refine av (hP0) ?_ (ha:=by first|rfl|(simp[ah.c,c6.c,VY] <;>repeat' constructor))
 simp(disch:=omega) [VZ]
 refine av (hP1) ?_ (ha:=by first|rfl|(simp[ah.c,VY] <;>repeat' constructor))
 simp(disch:=omega) [VZ]
 refine av (hE1) ?_
 simp(disch:=omega) [VZ]
 refine av (hC) ?_ (ha:=by first|rfl|(simp[ah.c,c6.c,VY] <;>repeat' constructor))
 by_cases hfl:flat (km more)=true
 ·simp(disch:=omega) [l1,l2,l3,rZ,hfl,VZ]
  refine av (hP2) ?_ (ha:=by first|rfl|(simp[ah.c,VY] <;>repeat' constructor))
  simp(disch:=omega) [VZ]
  refine av (hE2) ?_
  simp(disch:=omega) [VZ]
 ·simp(disch:=omega) [l1,l2,l3,rZ,hfl,VZ]
  refine av (hP2) ?_ (ha:=by first|rfl|(simp[ah.c,VY] <;>repeat' constructor))
  simp(disch:=omega) [VZ]
  refine av (hE2) ?_
  simp(disch:=omega) [VZ]
end Go.Eng.F
