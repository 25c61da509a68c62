import Derived.Test.YtanfobggenpcaaaGreatGg
import Derived.Test.YtanfobggenpcaaaGreatGh
set_option maxRecDepth 100000
set_option linter.unusedSimpArgs false
set_option linter.unusedVariables false
namespace Go.Eng.F
theorem HG (l:List Bytes) (x:Bytes):bJ l++ [[.sl (bytes x)]]=bJ (l++ [x]):=by simp[bJ]
theorem Am (b:Bytes) (a:Nat) (n:Int):(cp b a n).2.wf b∧(cp b a n).1.length≤2:=by
 refine⟨(Lk b a n).1,?_⟩
 simp only[cp]
 split
 ·simp
 ·split
  ·exact Oj ‹_›
  ·simp
def bp.o (v:bp):List E:= [.p (.int .i64 v.view), .p (.int .i64 v.height), .o true (some (5,1)) (bytes v.block), .p (.int .i64 v.who), .o true (some (5,1)) (bytes v.tag)]
abbrev ik:Nat:=102
def nI:AF:=⟨2,5,[.cell 4 5 true],(.seq (.ops [.i (.lbox 2 (.s 0)), .i (.lal 4 [.int .i64 0, .int .i64 0, .nils, .int .i64 0, .nils])]) (.seq (.ops [qm 5 1,qk 7 165 5,qm 7 1,qk 9 165 7,qm 9 1,qk 11 166 9,qm 11 1,qf 12 2 0,ql 13 2 12 1 false, .i (.call 15 167 false [(.s 11),(.s 13),(qi 5)]),qm 15 1,qk 17 166 15, .i (.bld 17 [.int .i64 0, .int .i64 0, .nils, .int .i64 0, .nils] [(0,1,(.s 6)),(1,1,(.s 8)),(2,1,(.s 10)),(3,1,(.s 14)),(4,1,(.s 16))]),qs 4 4 17 5]) .ret))⟩
theorem BH:cd ik=some nI:=by kernel_rfl
theorem zb (b:Bytes) (l:ah) (r:Rd) (hr:r.wf b) (hb:b.length≤1073741824):VC cd ik (iO [(true,l.c)] 215 (bL b r) []) (fun rs p=>rs= [(true,(gW b l r).1.o)]∧p= [.pt 215 (bL b (gW b l r).2)]):=by
 refine ax BH rfl ?_
 simp(disch:=omega) [nI,bL,ah.c,VZ]
 refine dA (bP b r hr hb) ?_
 have w1:=dI hr
 generalize h1:br b r=s1 at w1⊢
 simp(disch:=omega) [bL,VZ]
 refine dA (bP b s1.2 w1.1 hb) ?_
 have w2:=dI w1.1
 generalize h2:br b s1.2=s2 at w2⊢
 simp(disch:=omega) [bL,VZ]
 refine dA (cT b s2.2 w2.1 hb) ?_
 have w3:=fc w2.1 32
 generalize h3:bI b s2.2 32=s3 at w3⊢
 simp(disch:=omega) [bL,VZ]
 refine dA (c6 b s3.2 l.n 5 w3.1 hb) ?_
 have w4:=fF (n:=l.n) (c:=5) w3.1 (by omega)
 generalize h4:bd b s3.2 l.n 5=s4 at w4⊢
 simp(disch:=omega) [bL,VZ]
 refine dA (cT b s4.2 w4.1 hb) ?_
 have w5:=fc w4.1 32
 generalize h5:bI b s4.2 32=s5 at w5⊢
 simp(disch:=omega) [bL,VZ]
 simp(disch:=omega) [gW,h1,h2,h3,h4,h5,bp.o,bL,VZ]
abbrev kr:Nat:=106
def uP:AF:=⟨2,6,[.cell 4 5 true],(.seq (.ops [.i (.lbox 2 (.s 0)), .i (.lal 4 [.int .i64 0, .int .i64 0, .nils, .nils, .nils])]) (.seq (.ops [qm 6 1,qk 8 165 6,qm 8 1,qk 10 165 8,qm 10 1,qk 12 166 10, .i (.bld 12 [.int .i64 0, .int .i64 0, .nils, .nils, .nils] [(0,1,(.s 7)),(1,1,(.s 9)),(2,1,(.s 11))]), .i (.lal 5 [.int .i64 0, .int .i64 0, .nils, .nils, .nils]),qs 5 5 12 5]) (.seq (.seq (.ops [qm 13 1, .i (.nch 14 (.s 13)),qf 15 14 2, .i (.ldh 16 (.s 15) 1 false), .i (.bin 17 .neq (.s 16) (qi 0))]) (.cond (.s 17) (.seq (.ops [ql 18 5 5 5 true,qs 4 4 18 5]) .ret) .skip)) (.seq (.ops [qm 20 1,qm 21 1,qm 22 1, .i (.nch 23 (.s 22)),qf 24 23 0, .i (.ldh 25 (.s 24) 1 false),qm 26 1, .i (.nch 27 (.s 26)),qf 28 27 1, .i (.ldh 29 (.s 28) 1 false),qf 30 2 0,ql 31 2 30 1 false, .i (.call 33 170 false [(.s 25),(.s 29),(.s 31)]),qm 19 32, .i (.ext 33 (.s 19) 0), .i (.ext 34 (.s 19) 1), .i (.ext 35 (.s 19) 2),qf 36 5 3,qs 5 36 33 1, .i (.nch 37 (.s 20)),qf 38 37 1, .i (.sth (.s 38) (.s 34) 1), .i (.nch 39 (.s 21)),qf 40 39 2, .i (.sth (.s 40) (.s 35) 1)]) (.seq (.seq (.ops [qf 41 5 3,ql 42 5 41 1 false,qk 44 169 42, .i (.mov 44 (qi 0))]) (.block 0 (.loop [53,52,51,50,49,48,47,46,45] (.seq (.ops [qd 45 .lss 44 43]) (.seq (.cond (.s 45) .skip (.exit 0)) (.seq (.block 1 (.ops [qf 46 5 4,ql 47 5 46 1 false,qm 48 1,qk 50 166 48, .i (.lsl 50 1 1 [.nils] [(0,1,(.s 49))]), .i (.app 51 22 1 24 (.s 47) (.s 50)),qf 52 5 4,qs 5 52 51 1])) (.ops [.i (.bin 53 .add (.s 44) (qi 1)),qm 44 53]))))))) (.seq (.ops [ql 54 5 5 5 true,qs 4 4 54 5]) .ret))))))⟩
theorem FJ:cd kr=some uP:=by kernel_rfl
theorem ey (b:Bytes) (l:ah) (r:Rd) (hl:1≤l.n∧l.n≤10) (hr:r.wf b) (hb:b.length≤1073741824):VC cd kr (iO [(true,l.c)] 215 (bL b r) []) (fun rs p=>rs= [(true,(wG b l r).1.o)]∧p= [.pt 215 (bL b (wG b l r).2)]):=by
 refine VC.pq ?_
 refine ax FJ rfl ?_
 simp(disch:=omega) [uP,bL,ah.c,VZ]
 refine dA (bP b r hr hb) ?_
 have w1:=dI hr
 generalize h1:br b r=s1 at w1⊢
 simp(disch:=omega) [bL,VZ]
 refine dA (bP b s1.2 w1.1 hb) ?_
 have w2:=dI w1.1
 generalize h2:br b s1.2=s2 at w2⊢
 simp(disch:=omega) [bL,VZ]
 refine dA (cT b s2.2 w2.1 hb) ?_
 have w3:=fc w2.1 32
 generalize h3:bI b s2.2 32=s3 at w3⊢
 simp(disch:=omega) [bL,VZ]
 by_cases g:s3.2.er=0
 case neg=>simp(disch:=omega) [g,wG,h1,h2,h3,Qc.o,bL,aW,bc,bn,ag,bJ,VZ]
 simp(disch:=omega) [g,VZ]
 refine ae (AD b s3.2.at_ l.n hl w3.1.1 hb) rfl rfl ?_
 have w4:=Am b s3.2.at_ l.n
 generalize h4:cp b s3.2.at_ l.n=s4 at w4⊢
 simp(disch:=omega) [Mz,VZ]
 refine ae (jZ s4.1 (by omega)) rfl rfl ?_
 simp(disch:=omega) [VZ]
 refine dP (σ:=Nat×Nat×List Bytes×Rd) (f0:=_) (by simp(disch:=omega) [VZ];rfl) (dy.zB (s:=5) (k:=5) (i:=4) rfl rfl) (f1:=_) (es0:=_) (by simp(disch:=omega) [VZ];rfl) (by simp(disch:=omega) [VZ];rfl) (fun p=> [(44, .val false [.int .i64 (p.1:Int)]),(5, .box [.int .i64 s1.1, .int .i64 s2.1, .ow 106496 19, .ow 278528 24, .ow 5 p.2.1])]) (fun p=> [(4101, .pt 5 215 [.sl (bytes b), .int .i64 (p.2.2.2.at_:Int), .int .i64 (p.2.2.2.er:Int)]),(5, .sl p.2.1 true true (some (22,1)) (bJ p.2.2.1))])
  (fun p g=>(g+p.1=(aT s4.1).length∧p.2.2.1.length=p.1)∧p.2.2.2.wf b∧fv (fun r=>bI b r 32) (aT s4.1).length s4.2=(p.2.2.1++(fv (fun r=>bI b r 32) g p.2.2.2).1,(fv (fun r=>bI b r 32) g p.2.2.2).2)) (0,_,[],s4.2) (aT s4.1).length (by simp(disch:=omega) [VZ];rfl) (by simp(disch:=omega) [bJ,bL,VZ]) ⟨⟨by simp,rfl⟩,w4.1,by simp⟩ ?_
 rintro⟨i,v,x,q⟩ nx g0 ⟨⟨hg,h5⟩,h6,h7⟩ P hP
 simp only at hg h5 h6 h7
 have hl:(bJ x).length=i:=by rw[aq];exact h5
 simp(disch:=omega) [VZ]
 have hb4:=dG s4.1
 refine ab (fun h8=> ?_) (fun h8=> ?_)
 ·simp(disch:=omega) [bL,VZ]
  refine dA (cT b q h6 hb) ?_
  have w5:=fc h6 32
  obtain⟨g1,rfl⟩:∃g1,g0=g1+1:=⟨g0 - 1,by omega⟩
  simp only[fv]at h7
  generalize h9:bI b q 32=s5 at w5 h7⊢
  simp(disch:=omega) [bL,hl,HG,VZ]
  refine hP (i+1,_,x++ [s5.1],s5.2) g1 _ _ (by omega) ⟨⟨by simp only;omega,by simp[h5]⟩,w5.1,by rw[h7];simp⟩ (by simp(disch:=omega) [VZ];rfl) (by simp(disch:=omega) [bL,VZ])
 ·obtain rfl:g0=0:=by omega
  simp only[fv,List.append_nil]at h7
  simp(disch:=omega) [wG,h1,h2,h3,h4,g,h7,Qc.o,bL,aW,bc,bn,VZ]
end Go.Eng.F
namespace Go.Eng.F
abbrev lQ:Nat:=241
def kN:AF:=⟨1,4,[.tmp 2],(.seq (.ops [.i (.mov 2 (qi 0))]) (.seq (.ops [qm 3 0,qm 4 0, .i (.call 6 97 false [(.s 4),(qi 100)]),qm 6 0, .i (.call 8 97 false [(.s 6),(qi 100000)]), .i (.bsl 8 3 1 11 [.int .i64 0] [(0,1,(qi 0)),(1,1,(qi 1)),(2,1,(qi 127)),(3,1,(qi 128)),(4,1,(qi 300)),(5,1,(qi 16383)),(6,1,(qi 16384)),(7,1,(qi 1152921504606846975)),(8,1,(qi 1152921504606846974)),(9,1,(.s 5)),(10,1,(.s 7))]), .i (.call 10 155 false [(.s 3),(.s 8)]),qm 2 9]) .ret))⟩
theorem yZ:cd lQ=some kN:=by kernel_rfl
theorem iM (b:Bytes) (i:Nat) (h:Int) (hi:i≤b.length) (hb:b.length≤1073741824):VC cd lQ (iO [] 133 (cur b i h) []) (fun r p=>∃x:Int×Nat×Int,(isNum x.1=true∧x.2.1≤b.length)∧r=it x.1∧p= [.pt 133 (cur b x.2.1 x.2.2)]):=by
 refine ax yZ rfl ?_
 simp(disch:=omega) [kN,cur,VZ]
 refine de (aw b i h 100 (by omega) hi hb) ?_
 rintro⟨k1,i1,h1⟩ ⟨g1,j1⟩
 simp only at g1 j1
 simp(disch:=omega) [cur,VZ]
 refine de (aw b i1 h1 100000 (by omega) j1 hb) ?_
 rintro⟨k2,i2,h2⟩ ⟨g2,j2⟩
 simp only at g2 j2
 simp(disch:=omega) [cur,VZ]
 refine de (jk b i2 h2 [0,1,127,128,300,16383,16384,1152921504606846975,1152921504606846974,(k1:Int),(k2:Int)] (by simp) (by simp) j2 hb) ?_
 rintro⟨k3,i3,h3⟩ ⟨g3,j3⟩
 simp only at g3 j3
 simp(disch:=omega) [cur,VZ]
 simp only[List.mem_cons,List.not_mem_nil,or_false]at g3
 exact⟨k3,i3,⟨by simp only[isNum,cO,decide_eq_true_eq];omega,j3⟩,rfl,rfl⟩
theorem cX {n:Int} (h:isNum n=true):ma n:=by
 have:=c8 h
 exact⟨by omega,by omega⟩
abbrev tD:Nat:=161
def tf:AF:=⟨2,5,[.cell 4 5 true],(.seq (.ops [.i (.lbox 3 (.s 1)), .i (.lal 4 [.int .i64 0, .int .i64 0, .nils, .int .i64 0, .nils])]) (.seq (.ops [qm 5 0,qk 7 241 5,qm 7 0,qk 9 241 7,qm 9 0,qk 11 242 9,qm 11 0,qf 12 3 0,ql 13 3 12 1 false, .i (.call 15 97 false [(.s 11),(.s 13)]),qm 15 0,qk 17 242 15, .i (.bld 17 [.int .i64 0, .int .i64 0, .nils, .int .i64 0, .nils] [(0,1,(.s 6)),(1,1,(.s 8)),(2,1,(.s 10)),(3,1,(.s 14)),(4,1,(.s 16))]),qs 4 4 17 5]) .ret))⟩
theorem DI:cd tD=some tf:=by kernel_rfl
theorem wu (b:Bytes) (i:Nat) (h:Int) (l:ah) (hl:1≤l.n∧l.n≤10) (hi:i≤b.length) (hb:b.length≤1073741824):VC cd tD (iO [] 133 (cur b i h) [(true,l.c)]) (fun r p=>∃x:bp×Nat×Int,((isNum x.1.view=true∧isNum x.1.height=true∧x.1.block.length=32∧cO x.1.who 0 (l.n - 1)=true∧x.1.tag.length=32)∧x.2.1≤b.length)∧r= [(true,x.1.o)]∧p= [.pt 133 (cur b x.2.1 x.2.2)]):=by
 refine ax DI rfl ?_
 simp(disch:=omega) [tf,cur,ah.c,VZ]
 refine de (iM b i h hi hb) ?_
 rintro⟨k1,i1,h1⟩ ⟨g1,j1⟩
 simp only at g1 j1
 simp(disch:=omega) [cur,VZ]
 refine de (iM b i1 h1 j1 hb) ?_
 rintro⟨k2,i2,h2⟩ ⟨g2,j2⟩
 simp only at g2 j2
 simp(disch:=omega) [cur,VZ]
 refine de (dg b i2 h2 j2 hb) ?_
 rintro⟨x3,i3,h3⟩ ⟨g3,j3⟩
 simp only at g3 j3
 obtain⟨m,hm⟩:∃m:Nat,l.n=(m:Int):=⟨l.n.toNat,by omega⟩
 simp(disch:=omega) [cur,hm,VZ]
 refine de (aw b i3 h3 m (by omega) j3 hb) ?_
 rintro⟨k4,i4,h4⟩ ⟨g4,j4⟩
 simp only at g4 j4
 simp(disch:=omega) [cur,VZ]
 refine de (dg b i4 h4 j4 hb) ?_
 rintro⟨x5,i5,h5⟩ ⟨g5,j5⟩
 simp only at g5 j5
 simp(disch:=omega) [cur,VZ]
 refine⟨⟨k1,k2,x3,k4,x5⟩,i5,⟨⟨g1,g2,g3,by simp only[cO,decide_eq_true_eq];omega,g5⟩,j5⟩,rfl,rfl⟩
abbrev pW:Nat:=317
def qx:AF:=⟨1,4,[.tmp 2],(.seq (.ops [.i (.mov 2 (.c (.val false [.nils])))]) (.seq (.seq (.ops [qm 3 0,qk 5 279 3, .i (.not 5 (.s 4))]) (.cond (.s 5) (.seq (.ops [.i (.mov 2 (.c (.val false [.nils])))]) .ret) .skip)) (.seq (.ops [qm 6 0,qk 8 341 6, .i (.mks 8 5 1 1 [.int .u8 0] (.s 7)),qm 2 8]) .ret)))⟩
theorem DR:cd pW=some qx:=by kernel_rfl
theorem A3 (n:Int) (hn:1≤n∧n≤10):VC cd pW (aD [(false,[.int .i64 n])]) (fun rs _=>rs= [(false,[.o true (some (5,1)) (bytes (List.replicate (ye n).toNat 0))])]):=by
 have h1:cO n 1 10=true:=by simp only[cO,decide_eq_true_eq];omega
 have h2:=xc hn
 have h3:0≤ye n:=by unfold ye;split <;>omega
 refine aa DR rfl ?_
 simp(disch:=omega) [qx,VY]
 refine ao (fi n) ?_
 simp(disch:=omega) [h1,VY]
 refine ao (l4 n (by omega) (by omega)) ?_
 have e1:List.replicate (ye n).toNat [D.int .u8 0]=bytes (List.replicate (ye n).toNat 0):=EE _
 simp(disch:=omega) [h3,e1,VY]
theorem Ok (x:Bytes) (j:Nat) (y z:Int):(bytes x).set j [.int .u8 (aE .or .u8 y z)]=bytes (x.set j (b8 ((BitVec.ofInt IntKind.u8.bits y|||BitVec.ofInt IntKind.u8.bits z).toNat:Int))):=jz x j _
abbrev sB:Nat:=265
def sI:AF:=⟨2,5,[.tmp 4],(.seq (.ops [.i (.mov 4 (.c (.val false [.nils])))]) (.seq (.ops [qm 7 1,qk 9 317 7,qm 5 8]) (.seq (.seq (.ops [.i (.mov 6 (qi 0))]) (.block 0 (.loop [29,28,27,26,25,24,23,22,21,20,19,18,17,16,15,14,13,12,11,10,9] (.seq (.seq (.ops [qm 9 6,qm 10 1,qd 11 .lss 9 10]) (.cond (.s 11) .skip (.exit 0))) (.seq (.block 1 (.seq (.ops [qm 14 0, .i (.call 16 135 false [(.s 14),(qi 3)]), .i (.not 16 (.s 15))]) (.cond (.s 16) (.ops [qm 17 5,qm 18 6, .i (.bin 19 .quo (.s 18) (qi 8)),qm 20 5,qm 21 6, .i (.bin 22 .quo (.s 21) (qi 8)), .i (.iad 23 (.s 20) (.s 22) 1), .i (.ldh 24 (.s 23) 1 false),qm 25 6, .i (.bin 26 .rem (.s 25) (qi 8)), .i (.bin 27 .shl (.c (.val false [.int .u8 1])) (.s 26)),qd 28 .or 24 27, .i (.iad 29 (.s 17) (.s 19) 1), .i (.sth (.s 29) (.s 28) 1)]) .skip))) (.ops [qm 12 6, .i (.bin 13 .add (.s 12) (qi 1)),qm 6 13])))))) (.seq (.ops [qm 30 5,qm 4 30]) .ret))))⟩
theorem D8:cd sB=some sI:=by kernel_rfl
theorem LS (b:Bytes) (i:Nat) (h:Int) (n:Int) (hn:1≤n∧n≤10) (hi:i≤b.length) (hb:b.length≤1073741824):VC cd sB (iO [] 133 (cur b i h) [(false,[.int .i64 n])]) (fun r p=>∃x:Bytes×Nat×Int,(x.1.length≤2∧x.2.1≤b.length)∧r= [(false,[.o true (some (5,1)) (bytes x.1)])]∧p= [.pt 133 (cur b x.2.1 x.2.2)]):=by
 have h2:=xc hn
 have h3:0≤ye n:=by unfold ye;split <;>omega
 refine ax D8 rfl ?_
 simp(disch:=omega) [sI,cur,VZ]
 refine ao (A3 n hn) ?_
 simp(disch:=omega) [cur,VZ]
 refine bF (σ:=Nat×Nat×Nat×Int×Bytes) (f1:=_) (es0:=_) (by simp(disch:=omega) [VZ];rfl) (by simp(disch:=omega) [VZ];rfl) (fun p=> [(6, .val false [.int .i64 (p.1:Int)]),(5, .val false [.ow 81920 p.2.1])]) (fun p=> [(4096, .pt 0 133 [.sl (bytes b), .int .i64 (p.2.2.1:Int), .int .i64 p.2.2.2.1]),(81920, .sl p.2.1 true true (some (5,1)) (bytes p.2.2.2.2))])
  (fun p g=>(g:Int)+p.1=n∧p.2.2.1≤b.length∧(p.2.2.2.2.length:Int)=ye n) (0,_,i,h,List.replicate (ye n).toNat 0) n.toNat (by simp(disch:=omega) [VZ];rfl) (by simp(disch:=omega) [VZ]) ⟨by simp only;omega,hi,by simp;omega⟩ ?_
 rintro⟨m,v,i2,h2',x⟩ nx g ⟨hg,h5,h6⟩ P hP
 simp only at hg h5 h6
 simp(disch:=omega) [VZ]
 refine ab (fun h8=> ?_) (fun h8=> ?_)
 ·simp(disch:=omega) [VZ]
  refine de (iR b i2 h2' 3 (by omega) h5 hb) ?_
  rintro⟨y,i3,h3'⟩ h9
  simp only at h9
  have hm:m / 8 < x.length:=by unfold ye at h6;split at h6 <;>omega
  cases y with
  |true=>
   simp(disch:=omega) [cur,VZ]
   exact hP (m+1,v,i3,h3',x) (g - 1) _ _ (by omega) ⟨by simp only;omega,h9,h6⟩ (by simp(disch:=omega) [VZ] <;>rfl) (by simp(disch:=omega) [VZ])
  |false=>
   obtain⟨q1,q2,q3,q4⟩:=RS m
   simp(disch:=omega) [cur,Mh,Oo,q1,q2,q3,q4,bH hm,Ok,VZ]
   exact hP (m+1,v,i3,h3',x.set (m / 8) (b8 (((x[m / 8].toNat % 2 ^ IntKind.u8.bits|||(IntKind.u8.wrap (2 ^ min (m % 8) IntKind.u8.bits) % 2 ^ IntKind.u8.bits).toNat:Nat):Nat):Int))) (g - 1) _ _ (by omega) ⟨by simp only;omega,h9,by simpa using h6⟩ (by simp(disch:=omega) [VZ] <;>rfl) (by simp(disch:=omega) [VZ])
 ·simp(disch:=omega) [cur,VZ]
  exact⟨x,i2,⟨by omega,h5⟩,rfl,rfl⟩
abbrev rS:Nat:=185
def p0:AF:=⟨2,6,[.cell 4 5 true],(.seq (.ops [.i (.lbox 3 (.s 1)), .i (.lal 4 [.int .i64 0, .int .i64 0, .nils, .nils, .nils])]) (.seq (.ops [qm 7 0,qk 9 241 7,qm 9 0,qk 11 241 9,qm 11 0,qk 13 242 11,qm 13 0,qf 14 3 0,ql 15 3 14 1 false, .i (.call 17 265 false [(.s 13),(.s 15)]), .i (.bld 17 [.int .i64 0, .int .i64 0, .nils, .nils, .nils] [(0,1,(.s 8)),(1,1,(.s 10)),(2,1,(.s 12)),(3,1,(.s 16))]), .i (.lal 5 [.int .i64 0, .int .i64 0, .nils, .nils, .nils]),qs 5 5 17 5]) (.seq (.seq (.ops [qf 18 5 3,ql 19 5 18 1 false,qk 21 266 19,qm 6 20]) (.block 0 (.loop [31,30,29,28,27,26,25,24,23,22,21] (.seq (.seq (.ops [qm 21 6, .i (.bin 22 .gtr (.s 21) (qi 0))]) (.cond (.s 22) .skip (.exit 0))) (.seq (.block 1 (.ops [qf 25 5 4,ql 26 5 25 1 false,qm 27 0,qk 29 242 27, .i (.lsl 29 1 1 [.nils] [(0,1,(.s 28))]), .i (.app 30 22 1 24 (.s 26) (.s 29)),qf 31 5 4,qs 5 31 30 1])) (.ops [qm 23 6, .i (.bin 24 .sub (.s 23) (qi 1)),qm 6 24])))))) (.seq (.ops [ql 32 5 5 5 true,qs 4 4 32 5]) .ret))))⟩
theorem Eg:cd rS=some p0:=by kernel_rfl
theorem wk (b:Bytes) (i:Nat) (h:Int) (l:ah) (hl:1≤l.n∧l.n≤10) (hi:i≤b.length) (hb:b.length≤1073741824):VC cd rS (iO [] 133 (cur b i h) [(true,l.c)]) (fun r p=>∃x:Qc×Nat×Int,(KV x.1∧x.2.1≤b.length)∧r= [(true,x.1.o)]∧p= [.pt 133 (cur b x.2.1 x.2.2)]):=by
 refine ax Eg rfl ?_
 simp(disch:=omega) [p0,cur,ah.c,VZ]
 refine de (iM b i h hi hb) ?_
 rintro⟨k1,i1,h1⟩ ⟨g1,j1⟩
 simp only at g1 j1
 simp(disch:=omega) [cur,VZ]
 refine de (iM b i1 h1 j1 hb) ?_
 rintro⟨k2,i2,h2⟩ ⟨g2,j2⟩
 simp only at g2 j2
 simp(disch:=omega) [cur,VZ]
 refine de (dg b i2 h2 j2 hb) ?_
 rintro⟨x3,i3,h3⟩ ⟨g3,j3⟩
 simp only at g3 j3
 simp(disch:=omega) [cur,VZ]
 refine de (LS b i3 h3 l.n hl j3 hb) ?_
 rintro⟨x4,i4,h4⟩ ⟨g4,j4⟩
 simp only at g4 j4
 simp(disch:=omega) [cur,VZ]
 refine ao (jV x4 (by omega)) ?_
 simp(disch:=omega) [cur,VZ]
 refine dP (σ:=Nat×Nat×Nat×Int×List Bytes) (f0:=_) (by simp(disch:=omega) [VZ];rfl) (dy.zB (s:=5) (k:=5) (i:=4) rfl rfl) (f1:=_) (es0:=_) (by simp(disch:=omega) [VZ];rfl) (by simp(disch:=omega) [VZ];rfl) (fun p=> [(6, .val false [.int .i64 (p.1:Int)]),(5, .box [.int .i64 k1, .int .i64 k2, .ow 114688 19, .ow 147456 24, .ow 5 p.2.1])]) (fun p=> [(4096, .pt 0 133 [.sl (bytes b), .int .i64 (p.2.2.1:Int), .int .i64 p.2.2.2.1]),(5, .sl p.2.1 true true (some (22,1)) (bJ p.2.2.2.2))])
  (fun p g=>g=p.1∧p.2.2.1≤b.length∧p.2.2.2.2.length+p.1=(aT x4).length∧∀t∈p.2.2.2.2,t.length=32) ((aT x4).length,_,i4,h4,[]) (aT x4).length (by simp(disch:=omega) [VZ];rfl) (by simp(disch:=omega) [bJ,VZ]) ⟨rfl,j4,by simp,by simp⟩ ?_
 rintro⟨n,v,i5,h5,x⟩ nx g ⟨hg,a5,a6,a7⟩ P hP
 simp only at hg a5 a6 a7
 have hlb:=dG x4
 simp(disch:=omega) [VZ]
 refine ab (fun h8=> ?_) (fun h8=> ?_)
 ·simp(disch:=omega) [VZ]
  refine de (dg b i5 h5 a5 hb) ?_
  rintro⟨y,i6,h6⟩ ⟨g6,j6⟩
  simp only at g6 j6
  have e1:IntKind.i64.wrap ((n:Int) - 1)=((n - 1:Nat):Int):=by rw[xU (by omega) (by omega)];omega
  have hl:(bJ x).length=x.length:=aq x
  simp(disch:=omega) [cur,hl,e1,mG,VZ]
  refine hP (n - 1,_,i6,h6,x++ [y]) (g - 1) _ _ (by omega) ⟨by simp only;omega,j6,by simp;omega,fun z hz=> ?_⟩ (by simp(disch:=omega) [VZ];rfl) (by simp(disch:=omega) [VZ])
  rcases List.mem_append.1 hz with hz|hz
  ·exact a7 z hz
  ·simp only[List.mem_singleton]at hz;subst hz;exact g6
 ·simp(disch:=omega) [cur,VZ]
  exact⟨⟨k1,k2,x3,x4,x⟩,i5,⟨⟨g1,g2,g3,g4,by simp only;omega,a7⟩,a5⟩,rfl,rfl⟩
end Go.Eng.F
namespace Go.Eng.F
def P5 (n:Int):Prop:=0≤n∧n≤1152921504606846975
def Qc.rd (q:Qc):Prop:=(P5 q.view∧P5 q.height)∧q.block.length≤32∧q.bits.length≤2∧q.tags.length≤16∧∀t∈q.tags,t.length≤32
theorem pR {n:Nat} (h:n≤1152921504606846975):P5 (n:Int):=⟨by omega,by omega⟩
theorem EC {b:Bytes} {l:ah} {r:Rd} (h:r.wf b):(wG b l r).2.wf b∧(wG b l r).1.rd:=by
 have w1:=dI h
 have w2:=dI w1.1
 have w3:=fc w2.1 32
 simp only[wG]
 split
 ·have w4:=Am b (bI b (br b (br b r).2).2 32).2.at_ l.n
  have w5:=fun(r:Rd) (hr:r.wf b)=>fc hr 32
  have w6:=J5 (p:=fun t:Bytes=>t.length≤32) (b:=b) (f:=fun r=>bI b r 32) (fun(r:Rd) hr=>⟨(w5 r hr).1,(w5 r hr).2.1⟩)
  refine⟨Mp (fun r hr=>(w5 r hr).1) _ _ w4.1,⟨pR w1.2,pR w2.2⟩,w3.2.1,w4.2,?_,w6 _ _ w4.1⟩
  simp only[xz]
  have:=dG (cp b (bI b (br b (br b r).2).2 32).2.at_ l.n).1
  omega
 ·exact⟨w3.1,⟨pR w1.2,pR w2.2⟩,w3.2.1,by simp,by simp,by simp⟩
def Head.rd (h:Head):Prop:=(P5 h.view∧P5 h.height∧P5 h.proposer)∧h.parent.length≤32∧h.root.length≤32∧h.qc.rd
theorem Co {b:Bytes} {l:ah} {r:Rd} (h:r.wf b):(dr b l r).2.wf b∧(dr b l r).1.rd:=by
 simp only[dr]
 have w1:=dI h
 generalize br b r=s1 at w1⊢
 have w2:=dI w1.1
 generalize br b s1.2=s2 at w2⊢
 have w3:=eT (bad:=decide (s2.1=0)) (c:=5) w2.1 (by omega)
 generalize bQ s2.2 (decide (s2.1=0)) 5=s3 at w3⊢
 have w4:=fF (n:=l.n) (c:=5) w3 (by omega)
 generalize bd b s3 l.n 5=s4 at w4⊢
 have w5:=fc w4.1 32
 generalize bI b s4.2 32=s5 at w5⊢
 have w6:=fc w5.1 32
 generalize bI b s5.2 32=s6 at w6⊢
 have w7:=EC (l:=l) w6.1
 generalize wG b l s6.2=s7 at w7⊢
 exact⟨eT w7.1 (by omega),⟨pR w1.2,pR w2.2,pR w4.2⟩,w5.2.1,w6.2.1,w7.2⟩
theorem JO (h:Head) (h1:0≤h.height) (h2:ma h.height):VC cd eO (aD [(true,h.c)]) (fun rs _=>rs=bl (fits h)):=by
 simp only[ma]at h2
 refine aa iy rfl ?_
 simp(disch:=omega) [eN,Head.c,VY]
 refine ab (fun g1=> ?_) (fun g1=> ?_) <;>simp(disch:=omega) [g1,fits,VY]
 refine ab (fun g2=> ?_) (fun g2=> ?_) <;>simp(disch:=omega) [g1,g2,VY]
 refine ae (aM _ _) rfl rfl ?_
 simp(disch:=omega) [g1,g2,VY]
abbrev ia:Nat:=111
def nm:AF:=⟨2,6,[.cell 4 10 true],(.seq (.ops [.i (.lbox 2 (.s 0)), .i (.lal 4 qz)]) (.seq (.ops [qm 6 1,qk 8 165 6,qm 8 1,qk 10 165 8, .i (.bld 10 qz [(0,1,(.s 7)),(1,1,(.s 9))]), .i (.lal 5 qz),qs 5 5 10 10]) (.seq (.ops [qm 11 1,qf 12 5 1,ql 13 5 12 1 false, .i (.bin 14 .neq (.s 13) (qi 0)), .i (.call 16 172 false [(.s 11),(.s 14),(qi 5)])]) (.seq (.ops [qm 16 1,qf 17 2 0,ql 18 2 17 1 false, .i (.call 20 167 false [(.s 16),(.s 18),(qi 5)]),qf 20 5 2,qs 5 20 19 1]) (.seq (.ops [qm 21 1,qk 23 166 21,qm 23 1,qk 25 166 23,qf 25 5 3,qs 5 25 22 1,qf 26 5 4,qs 5 26 24 1]) (.seq (.ops [ql 27 2 2 5 true,qm 28 1, .i (.call 30 106 false [(.s 27),(.s 28)]),qf 30 5 5,qs 5 30 29 5]) (.seq (.ops [qm 31 1,ql 32 5 5 10 true,qk 34 171 32, .i (.call 35 172 false [(.s 31),(.s 33),(qi 6)])]) (.seq (.ops [ql 35 5 5 10 true,qs 4 4 35 10]) .ret))))))))⟩
theorem AX:cd ia=some nm:=by kernel_rfl
theorem gC (b:Bytes) (l:ah) (r:Rd) (hl:1≤l.n∧l.n≤10) (hr:r.wf b) (hb:b.length≤1073741824):VC cd ia (iO [(true,l.c)] 215 (bL b r) []) (fun rs p=>rs= [(true,(dr b l r).1.o)]∧p= [.pt 215 (bL b (dr b l r).2)]):=by
 refine ax AX rfl ?_
 simp(disch:=omega) [nm,bL,ah.c,VZ]
 refine dA (bP b r hr hb) ?_
 have w1:=dI hr
 generalize h1:br b r=s1 at w1⊢
 simp(disch:=omega) [bL,VZ]
 refine dA (bP b s1.2 w1.1 hb) ?_
 have w2:=dI w1.1
 generalize h2:br b s1.2=s2 at w2⊢
 simp(disch:=omega) [bL,VZ]
 refine dA (aU b s2.2 (!decide (s2.1=0)) 5) ?_
 simp only[Bool.not_not]
 have w3:=eT (bad:=decide (s2.1=0)) (c:=5) w2.1 (by omega)
 generalize h3:bQ s2.2 (decide (s2.1=0)) 5=s3 at w3⊢
 simp(disch:=omega) [bL,VZ]
 refine dA (c6 b s3 l.n 5 w3 hb) ?_
 have w4:=fF (n:=l.n) (c:=5) w3 (by omega)
 generalize h4:bd b s3 l.n 5=s4 at w4⊢
 simp(disch:=omega) [bL,VZ]
 refine dA (cT b s4.2 w4.1 hb) ?_
 have w5:=fc w4.1 32
 generalize h5:bI b s4.2 32=s5 at w5⊢
 simp(disch:=omega) [bL,VZ]
 refine dA (cT b s5.2 w5.1 hb) ?_
 have w6:=fc w5.1 32
 generalize h6:bI b s5.2 32=s6 at w6⊢
 simp(disch:=omega) [bL,VZ]
 refine dA (ey b l s6.2 hl w6.1 hb) ?_ (n1:=by simp(disch:=omega) [Qc.o,VZ]) (n3:=by simp(disch:=omega) [Qc.o,VZ])
 have w7:=EC (l:=l) w6.1
 generalize h7:wG b l s6.2=s7 at w7⊢
 simp(disch:=omega) [bL,ah.c,Qc.o,VZ]
 have w2':=pR w2.2
 simp only[P5]at w2'
 refine ao (JO ⟨s1.1,s2.1,s4.1,s5.1,s6.1,s7.1⟩ w2'.1 ⟨by simp only;omega,by simp only;omega⟩) ?_ (ha:=by first|rfl|(simp[Head.c,VY] <;>repeat' constructor))
 simp(disch:=omega) [bL,VZ]
 refine dA (aU b s7.2 (fits ⟨s1.1,s2.1,s4.1,s5.1,s6.1,s7.1⟩) 6) ?_
 have w8:=eT (bad:=(!fits ⟨s1.1,s2.1,s4.1,s5.1,s6.1,s7.1⟩)) (c:=6) w7.1 (by omega)
 generalize h8:bQ s7.2 ((!fits ⟨s1.1,s2.1,s4.1,s5.1,s6.1,s7.1⟩)) 6=s8 at w8⊢
 simp(disch:=omega) [bL,VZ]
 simp(disch:=omega) [dr,h1,h2,h3,h4,h5,h6,h7,h8,Head.o,bL,VZ]
end Go.Eng.F
namespace Go.Eng.F
def ah.rd (l:ah):Prop:=(1≤l.n∧l.n≤10)∧(0≤l.tx∧l.tx≤40)∧(0≤l.txs∧l.txs≤8)∧3≤l.heads∧l.heads≤5
theorem fV {l:ah} (h:l.ok=true):l.rd:=by
 simp only[ah.ok,cO,Bool.and_eq_true,decide_eq_true_eq]at h
 exact⟨h.1.1.1.1,h.1.1.1.2,h.1.1.2,h.2⟩
theorem wo {α:Type} {f:Rd→α×Rd}:∀(k:Nat) (r:Rd),(cI f k r).2.er=0→(cI f k r).1.length=k
 |0,r,_=>rfl
 |k+1,r,h=>by
  rw[cI]at h⊢
  split
  ·rename_i g
   rw[if_pos g]at h
   simp only[List.length_cons,wo k _ h]
  ·rename_i g
   rw[if_neg g]at h
   exact absurd h g
theorem je {r:Rd} {bad:Bool} {c:Nat} (h:(bQ r bad c).er=0) (hc:c≠0):bad=false:=by
 unfold bQ at h
 split at h
 ·exact absurd h hc
 ·rename_i g
  cases bad
  ·rfl
  ·exact absurd ⟨h,rfl⟩ g
theorem iS {r:Rd} {bad:Bool} {c:Nat} (h:r.er≠0):bQ r bad c=r:=by
 unfold bQ
 rw[if_neg (fun g=>h g.1)]
theorem tQ {α:Type} {f:Rd→α×Rd} {k:Nat} {r:Rd} (h:r.er≠0):cI f k r=([],r):=by
 cases k
 ·rfl
 ·rw[cI,if_neg h]
theorem me {α:Type} {f:Rd→α×Rd} {k:Nat} {r:Rd} (h:r.er=0):cI f (k+1) r=((f r).1::(cI f k (f r).2).1,(cI f k (f r).2).2):=by
 rw[cI,if_pos h]
theorem ng (b:Bytes) (r:Rd) (m:Int) (h0:0≤m∧m≤1073741824) (hr:r.wf b) (hb:b.length≤1073741824):VC cd fm (iO [] 215 (bL b r) [(false,[.int .i64 m])]) (fun rs p=>rs= [(false,[.o true (some (5,1)) (bytes (dL b r m.toNat).1)])]∧p= [.pt 215 (bL b (dL b r m.toNat).2)]):=by
 obtain⟨k,rfl⟩:=Int.eq_ofNat_of_zero_le h0.1
 exact Ch b r k (by omega) hr hb
abbrev gJ:Nat:=116
def lj:AF:=⟨2,6,[.cell 4 11 true],(.seq (.ops [.i (.lbox 2 (.s 0)), .i (.lal 4 [.int .i64 0, .int .i64 0, .int .i64 0, .nils, .nils, .int .i64 0, .int .i64 0, .nils, .nils, .nils, .nils])]) (.seq (.ops [ql 8 2 2 5 true,qm 9 1, .i (.call 11 111 false [(.s 8),(.s 9)]), .i (.bld 11 [.int .i64 0, .int .i64 0, .int .i64 0, .nils, .nils, .int .i64 0, .int .i64 0, .nils, .nils, .nils, .nils] [(0,10,(.s 10))]), .i (.lal 5 [.int .i64 0, .int .i64 0, .int .i64 0, .nils, .nils, .int .i64 0, .int .i64 0, .nils, .nils, .nils, .nils]),qs 5 5 11 11]) (.seq (.ops [qm 12 1,qf 13 2 2,ql 14 2 13 1 false, .i (.bin 15 .add (.s 14) (qi 1)), .i (.call 17 167 false [(.s 12),(.s 15),(qi 3)]),qm 6 16]) (.seq (.seq (.ops [.i (.mov 7 (qi 0))]) (.block 0 (.loop [37,36,35,34,33,32,31,30,29,28,27,26,25,24,23,22,21,20,19,18,17] (.seq (.seq (.ops [qm 17 7,qm 18 6,qd 19 .lss 17 18,qm 20 19, .g 20 true 22 (.mov 21 (.s 1)), .g 20 true 23 (.nch 22 (.s 21)), .g 20 true 24 (.fad 23 (.s 22) 2), .g 20 true 25 (.ldh 24 (.s 23) 1 false), .g 20 true 26 (.bin 25 .eql (.s 24) (qi 0)), .i (.pick 26 (.s 20) (.s 25) (qb false))]) (.cond (.s 26) .skip (.exit 0))) (.seq (.block 1 (.ops [qf 29 5 10,ql 30 5 29 1 false,qm 31 1,qf 32 2 1,ql 33 2 32 1 false, .i (.call 35 177 false [(.s 31),(.s 33)]), .i (.lsl 35 1 1 [.nils] [(0,1,(.s 34))]), .i (.app 36 22 1 24 (.s 30) (.s 35)),qf 37 5 10,qs 5 37 36 1])) (.ops [qm 27 7, .i (.bin 28 .add (.s 27) (qi 1)),qm 7 28])))))) (.seq (.ops [qm 38 1,qm 39 1, .i (.nch 40 (.s 39)),qf 41 40 2, .i (.ldh 42 (.s 41) 1 false), .i (.bin 43 .neq (.s 42) (qi 0)),qm 44 43, .g 44 false 46 (.fad 45 (.s 5) 0), .g 44 false 47 (.fad 46 (.s 45) 4), .g 44 false 48 (.ldl 47 5 (.s 46) 1 false), .g 44 false 49 (.fad 48 (.s 5) 10), .g 44 false 50 (.ldl 49 5 (.s 48) 1 false), .g 44 false 51 (.call 51 176 false [(.s 49)]), .g 44 false 52 (.call 52 21 false [(.s 47),(.s 50)]), .i (.pick 52 (.s 44) (qb true) (.s 51)), .i (.call 54 172 false [(.s 38),(.s 52),(qi 7)])]) (.seq (.ops [ql 54 5 5 11 true,qs 4 4 54 11]) .ret))))))⟩
theorem yX:cd gJ=some lj:=by kernel_rfl
theorem xX (b:Bytes) (l:ah) (r:Rd) (hL:l.rd) (hr:r.wf b) (hb:b.length≤1073741824):VC cd gJ (iO [(true,l.c)] 215 (bL b r) []) (fun rs p=>rs= [(true,(dZ b l r).1.o)]∧p= [.pt 215 (bL b (dZ b l r).2)]):=by
 refine VC.pq ?_
 obtain⟨hl,hx,ht,hh⟩:=hL
 refine ax yX rfl ?_
 simp(disch:=omega) [lj,bL,ah.c,VZ]
 refine dA (gC b l r hl hr hb) ?_ (n1:=by simp(disch:=omega) [Head.o,VZ]) (n3:=by simp(disch:=omega) [Head.o,VZ])
 have w1:=Co (l:=l) hr
 generalize h1:dr b l r=s1 at w1⊢
 simp(disch:=omega) [bL,ah.c,Head.o,VZ]
 refine dA (c6 b s1.2 (l.txs+1) 3 w1.1 hb) ?_
 have w2:=fF (n:=(l.txs+1)) (c:=3) w1.1 (by omega)
 generalize h2:bd b s1.2 (l.txs+1) 3=s2 at w2⊢
 simp(disch:=omega) [bL,VZ]
 have hn:s2.2.er=0→(s2.1:Int)≤l.txs:=by
  intro g
  have e:(bd b s1.2 (l.txs+1) 3).2.er=0:=by rw[h2];exact g
  have:=je e (by omega)
  simp only[bd]at h2
  rw[show(br b s1.2).1=s2.1 by rw[←h2]]at this
  simp only[decide_eq_false_iff_not]at this
  omega
 refine dP (σ:=Nat×Nat×List Bytes×Rd) (f0:=_) (by simp(disch:=omega) [VZ];rfl) (dy.zB (s:=5) (k:=5) (i:=10) rfl rfl) (f1:=_) (es0:=_) (by simp(disch:=omega) [VZ];rfl) (by simp(disch:=omega) [VZ];rfl) (fun p=> [(7, .val false [.int .i64 (p.1:Int)]),(5, .box [.int .i64 s1.1.view, .int .i64 s1.1.height, .int .i64 s1.1.proposer, .ow 98307 12, .ow 98308 13, .int .i64 s1.1.qc.view, .int .i64 s1.1.qc.height, .ow 98311 16, .ow 98312 17, .ow 98313 18, .ow 5 p.2.1])]) (fun p=> [(4101, .pt 5 215 [.sl (bytes b), .int .i64 (p.2.2.2.at_:Int), .int .i64 (p.2.2.2.er:Int)]),(5, .sl p.2.1 true true (some (22,1)) (bJ p.2.2.1))])
  (fun p g=>(g+p.1=s2.1∧p.2.2.1.length=p.1)∧(p.2.2.2.er=0→(s2.1:Int)≤l.txs)∧p.2.2.2.wf b∧cI (fun r=>dL b r l.tx.toNat) s2.1 s2.2=(p.2.2.1++(cI (fun r=>dL b r l.tx.toNat) g p.2.2.2).1,(cI (fun r=>dL b r l.tx.toNat) g p.2.2.2).2)) (0,_,[],s2.2) s2.1 (by simp(disch:=omega) [VZ];rfl) (by simp(disch:=omega) [bJ,bL,VZ]) ⟨⟨by simp,rfl⟩,hn,w2.1,by simp⟩ ?_
 have hall:∀t∈(cI (fun r=>dL b r l.tx.toNat) s2.1 s2.2).1,t.length≤40:=yV (p:=fun t:Bytes=>t.length≤40) (b:=b) (fun r hr=>⟨(xJ hr _).1,Nat.le_trans (xJ hr _).2.1 (by omega)⟩) _ _ w2.1
 rintro⟨i,v,x,⟨qa,qe⟩⟩ nx g0 ⟨⟨hg,h5⟩,h10,h6,h7⟩ P hP
 simp only at hg h5 h6 h7 h10
 have hl2:(bJ x).length=i:=by rw[aq];exact h5
 by_cases h9:qe=0
 ·subst h9
  by_cases h8:i < s2.1
  ·have h11:=h10 rfl
   simp(disch:=omega) [h8,bL,VZ]
   refine dA (ng b ⟨qa,0⟩ l.tx (by omega) h6 hb) ?_
   have w5:=xJ h6 l.tx.toNat
   obtain⟨g1,rfl⟩:∃g1,g0=g1+1:=⟨g0 - 1,by omega⟩
   rw[me rfl]at h7
   simp only at h7
   generalize h12:dL b ⟨qa,0⟩ l.tx.toNat=s5 at w5 h7⊢
   simp(disch:=omega) [bL,hl2,HG,VZ]
   refine hP (i+1,_,x++ [s5.1],s5.2) g1 _ _ (by omega) ⟨⟨by simp only;omega,by simp[h5]⟩,fun _=>h11,w5.1,by rw[h7];simp⟩ (by simp(disch:=omega) [VZ];rfl) (by simp(disch:=omega) [bL,VZ])
  ·obtain rfl:g0=0:=by omega
   simp only[cI,List.append_nil]at h7
   have hx2:∀t∈x,t.length≤1073741823:=fun t ht=>Nat.le_trans (hall t (by rw[h7];exact ht)) (by omega)
   have h11:=h10 rfl
   simp(disch:=omega) [h8,bL,VZ]
   refine ao (lW _ x rfl (by omega) hx2) ?_
   simp(disch:=omega) [VZ]
   refine ao (aM _ _) ?_
   simp(disch:=omega) [bL,VZ]
   refine dA (aU b ⟨qa,0⟩ (decide (s1.1.root=a9 x)) 7) ?_
   simp(disch:=omega) [dZ,h1,h2,h7,Block.o,bL,aW,bc,bn,VZ]
 ·rw[tQ (k:=g0) (r:=⟨qa,qe⟩) h9]at h7
  simp only[List.append_nil]at h7
  by_cases h8:i < s2.1
  ·skip
   have hx2:∀t∈x,t.length≤1073741823:=fun t ht=>Nat.le_trans (hall t (by rw[h7];exact ht)) (by omega)
   simp(disch:=omega) [h8,h9,bL,VZ]
   refine dA (aU b ⟨qa,qe⟩ true 7) ?_
   have h12:∀bad c,bQ ⟨qa,qe⟩ bad c=⟨qa,qe⟩:=fun bad c=>iS h9
   simp(disch:=omega) [dZ,h1,h2,h7,Block.o,bL,aW,bc,bn,h12,VZ]
  ·skip
   have hx2:∀t∈x,t.length≤1073741823:=fun t ht=>Nat.le_trans (hall t (by rw[h7];exact ht)) (by omega)
   simp(disch:=omega) [h8,h9,bL,VZ]
   refine dA (aU b ⟨qa,qe⟩ true 7) ?_
   have h12:∀bad c,bQ ⟨qa,qe⟩ bad c=⟨qa,qe⟩:=fun bad c=>iS h9
   simp(disch:=omega) [dZ,h1,h2,h7,Block.o,bL,aW,bc,bn,h12,VZ]
end Go.Eng.F
namespace Go.Eng.F
theorem Ms (l:List Head) (h:Head):eK l++ [[.int .i64 h.view, .int .i64 h.height, .int .i64 h.proposer, .sl (bytes h.parent), .sl (bytes h.root), .int .i64 h.qc.view, .int .i64 h.qc.height, .sl (bytes h.qc.block), .sl (bytes h.qc.bits), .sl (bJ h.qc.tags)]]=eK (l++ [h]):=by simp[eK,Head.c]
theorem MG {b:Bytes} {l:ah} {r:Rd} (h:r.er≠0):(wG b l r).2=r:=by simp[wG,br,bI,h]
theorem P5.i64 {n:Int} (h:P5 n):ma n:=⟨by have:=h.1;omega,by have:=h.2;omega⟩
theorem Qc.rd.wf {q:Qc} (h:q.rd):q.wf:=by
 obtain⟨⟨h1,h2⟩,h3,h4,h5,h6⟩:=h
 refine⟨h1.i64,h2.i64,?_,?_,?_⟩ <;>simp only[Sz] <;>omega
theorem Head.rd.wf {h:Head} (w:h.rd):h.wf:=by
 obtain⟨⟨h1,h2,h3⟩,h4,h5,h6⟩:=w
 refine⟨h1.i64,h2.i64,h3.i64,?_,?_,h6.wf⟩ <;>simp only[Sz] <;>omega
abbrev gB:Nat:=123
def kV:AF:=⟨2,6,[.cell 4 6 true],(.seq (.ops [.i (.lbox 2 (.s 0)), .i (.lal 4 [.nils, .int .i64 0, .int .i64 0, .nils, .nils, .nils])]) (.seq (.ops [.i (.bld 8 [.nils, .int .i64 0, .int .i64 0, .nils, .nils, .nils] []),qm 9 1,qk 11 165 9, .i (.lal 5 [.nils, .int .i64 0, .int .i64 0, .nils, .nils, .nils]),qs 5 5 8 6,qm 6 10]) (.seq (.ops [qm 11 1,qm 12 6, .i (.bin 13 .geq (.s 12) (qi 3)), .i (.call 15 172 false [(.s 11),(.s 13),(qi 5)])]) (.seq (.ops [qm 15 1,qm 16 6,qf 17 2 4,ql 18 2 17 1 false,qd 19 .leq 16 18, .i (.call 21 172 false [(.s 15),(.s 19),(qi 3)])]) (.seq (.seq (.ops [.i (.mov 7 (qi 0))]) (.block 0 (.loop [40,39,38,37,36,35,34,33,32,31,30,29,28,27,26,25,24,23,22,21] (.seq (.seq (.ops [qm 21 7,qm 22 6,qd 23 .lss 21 22,qm 24 23, .g 24 true 26 (.mov 25 (.s 1)), .g 24 true 27 (.nch 26 (.s 25)), .g 24 true 28 (.fad 27 (.s 26) 2), .g 24 true 29 (.ldh 28 (.s 27) 1 false), .g 24 true 30 (.bin 29 .eql (.s 28) (qi 0)), .i (.pick 30 (.s 24) (.s 29) (qb false))]) (.cond (.s 30) .skip (.exit 0))) (.seq (.block 1 (.ops [qf 33 5 0,ql 34 5 33 1 false,ql 35 2 2 5 true,qm 36 1, .i (.call 38 111 false [(.s 35),(.s 36)]), .i (.lsl 38 10 1 qz [(0,10,(.s 37))]), .i (.app 39 45 10 160 (.s 34) (.s 38)),qf 40 5 0,qs 5 40 39 1])) (.ops [qm 31 7, .i (.bin 32 .add (.s 31) (qi 1)),qm 7 32])))))) (.seq (.ops [ql 41 2 2 5 true,qm 42 1, .i (.call 44 106 false [(.s 41),(.s 42)]),qf 44 5 1,qs 5 44 43 5]) (.seq (.ops [qm 45 1,qm 46 1, .i (.nch 47 (.s 46)),qf 48 47 2, .i (.ldh 49 (.s 48) 1 false), .i (.bin 50 .neq (.s 49) (qi 0)),qm 51 50, .g 51 false 53 (.ldl 52 5 (.s 5) 6 true), .g 51 false 54 (.call 54 179 false [(.s 52)]), .i (.pick 54 (.s 51) (qb true) (.s 53)), .i (.call 56 172 false [(.s 45),(.s 54),(qi 6)])]) (.seq (.ops [ql 56 5 5 6 true,qs 4 4 56 6]) .ret))))))))⟩
theorem zR:cd gB=some kV:=by kernel_rfl
theorem xD (b:Bytes) (l:ah) (r:Rd) (hL:l.rd) (hr:r.wf b) (hb:b.length≤1073741824):VC cd gB (iO [(true,l.c)] 215 (bL b r) []) (fun rs p=>rs= [(true,(dT b l r).1.o)]∧p= [.pt 215 (bL b (dT b l r).2)]):=by
 refine VC.pq ?_
 obtain⟨hl,hx,ht,hh⟩:=hL
 refine ax zR rfl ?_
 simp(disch:=omega) [kV,bL,ah.c,VZ]
 refine dA (bP b r hr hb) ?_
 have w1:=dI hr
 generalize h1:br b r=s1 at w1⊢
 simp(disch:=omega) [bL,VZ]
 refine dA (aU b s1.2 (decide (3≤(s1.1:Int))) 5) ?_
 have e2:(!decide (3≤(s1.1:Int)))=decide (s1.1 < 3):=by rw[←decide_not,decide_eq_decide];omega
 rw[e2]
 have w2:=eT (bad:=decide (s1.1 < 3)) (c:=5) w1.1 (by omega)
 generalize h2:bQ s1.2 (decide (s1.1 < 3)) 5=s2 at w2⊢
 simp(disch:=omega) [bL,VZ]
 refine dA (aU b s2 (decide ((s1.1:Int)≤l.heads)) 3) ?_
 have e3:(!decide ((s1.1:Int)≤l.heads))=decide (l.heads < (s1.1:Int)):=by rw[←decide_not,decide_eq_decide];omega
 rw[e3]
 have w3:=eT (bad:=decide (l.heads < (s1.1:Int))) (c:=3) w2 (by omega)
 generalize h3:bQ s2 (decide (l.heads < (s1.1:Int))) 3=s3 at w3⊢
 simp(disch:=omega) [bL,VZ]
 have hn:s3.er=0→3≤s1.1∧(s1.1:Int)≤l.heads:=by
  intro g
  have e:=je (by rw[h3];exact g) (by omega)
  have g2:s2.er=0:=by
   have:=iS (r:=s2) (bad:=decide (l.heads < (s1.1:Int))) (c:=3)
   rw[h3]at this
   by_cases g3:s2.er=0
   ·exact g3
   ·rw[←this g3];exact g
  have e2:=je (by rw[h2];exact g2) (by omega)
  simp only[decide_eq_false_iff_not]at e e2
  omega
 refine dP (σ:=Nat×Nat×List Head×Rd) (f0:=_) (by simp(disch:=omega) [VZ];rfl) (dy.zB (s:=5) (k:=5) (i:=0) rfl rfl) (f1:=_) (es0:=_) (by simp(disch:=omega) [VZ];rfl) (by simp(disch:=omega) [VZ];rfl) (fun p=> [(7, .val false [.int .i64 (p.1:Int)]),(5, .box [.ow 5 p.2.1, .int .i64 0, .int .i64 0, .nils, .nils, .nils])]) (fun p=> [(4101, .pt 5 215 [.sl (bytes b), .int .i64 (p.2.2.2.at_:Int), .int .i64 (p.2.2.2.er:Int)]),(5, .sl p.2.1 true true (some (45,10)) (eK p.2.2.1))])
  (fun p g=>(g+p.1=s1.1∧p.2.2.1.length=p.1)∧(p.2.2.2.er=0→3≤s1.1∧(s1.1:Int)≤l.heads)∧p.2.2.2.wf b∧cI (dr b l) s1.1 s3=(p.2.2.1++(cI (dr b l) g p.2.2.2).1,(cI (dr b l) g p.2.2.2).2)) (0,_,[],s3) s1.1 (by simp(disch:=omega) [VZ];rfl) (by simp(disch:=omega) [eK,bL,VZ]) ⟨⟨by simp,rfl⟩,hn,w3,by simp⟩ ?_
 have hall:∀t∈(cI (dr b l) s1.1 s3).1,t.rd:=yV (p:=fun t:Head=>t.rd) (b:=b) (fun r hr=>Co hr) _ _ w3
 rintro⟨i,v,x,⟨qa,qe⟩⟩ nx g0 ⟨⟨hg,h5⟩,h10,h6,h7⟩ P hP
 simp only at hg h5 h6 h7 h10
 have hl2:(eK x).length=i:=by rw[cq];exact h5
 by_cases h9:qe=0
 ·subst h9
  by_cases h8:i < s1.1
  ·have h11:=h10 rfl
   simp(disch:=omega) [h8,bL,VZ]
   refine dA (gC b l ⟨qa,0⟩ hl h6 hb) ?_ (n1:=by simp(disch:=omega) [Head.o,VZ]) (n3:=by simp(disch:=omega) [Head.o,VZ])
   have w5:=Co (l:=l) h6
   obtain⟨g1,rfl⟩:∃g1,g0=g1+1:=⟨g0 - 1,by omega⟩
   rw[me rfl]at h7
   simp only at h7
   generalize h12:dr b l ⟨qa,0⟩=s5 at w5 h7⊢
   simp(disch:=omega) [bL,hl2,Head.o,Ms,VZ]
   refine hP (i+1,_,x++ [s5.1],s5.2) g1 _ _ (by omega) ⟨⟨by simp only;omega,by simp[h5]⟩,fun _=>h11,w5.1,by rw[h7];simp⟩ (by simp(disch:=omega) [VZ];rfl) (by simp(disch:=omega) [bL,VZ])
  ·obtain rfl:g0=0:=by omega
   simp only[cI,List.append_nil]at h7
   have hx2:∀t∈x,t.wf:=fun t ht=>(hall t (by rw[h7];exact ht)).wf
   simp(disch:=omega) [h8,bL,VZ]
   refine dA (ey b l ⟨qa,0⟩ hl h6 hb) ?_ (n1:=by simp(disch:=omega) [Qc.o,VZ]) (n3:=by simp(disch:=omega) [Qc.o,VZ])
   have w13:=EC (l:=l) h6
   generalize h13:wG b l ⟨qa,0⟩=s13 at w13⊢
   obtain⟨q2,⟨qa,qe⟩⟩:=s13
   simp only at w13
   simp(disch:=omega) [bL,Qc.o,VZ]
   by_cases h14:qe=0
   ·subst h14
    have h15:3≤x.length:=by have:=h10 rfl;omega
    simp(disch:=omega) [VZ]
    refine ao (GH ⟨x,q2⟩ (by simp only;omega) ⟨⟨by have:=h10 rfl;simp only[Sz];omega,hx2⟩,w13.2.wf⟩) ?_ (ha:=by first|rfl|(simp[Proof.c,VY] <;>repeat' constructor))
    simp(disch:=omega) [bL,VZ]
    refine dA (aU b ⟨qa,0⟩ (sj ⟨x,q2⟩) 6) ?_
    simp(disch:=omega) [dT,h1,h2,h3,h7,h13,Proof.o,bL,aW,bc,bn,VZ]
   ·simp(disch:=omega) [h14,bL,VZ]
    refine dA (aU b ⟨qa,qe⟩ true 6) ?_
    have h12:∀bad c,bQ ⟨qa,qe⟩ bad c=⟨qa,qe⟩:=fun bad c=>iS h14
    simp(disch:=omega) [dT,h1,h2,h3,h7,h13,Proof.o,bL,aW,bc,bn,h12,VZ]
 ·rw[tQ (k:=g0) (r:=⟨qa,qe⟩) h9]at h7
  simp only[List.append_nil]at h7
  by_cases h8:i < s1.1
  ·skip
   have hx2:∀t∈x,t.wf:=fun t ht=>(hall t (by rw[h7];exact ht)).wf
   simp(disch:=omega) [h8,h9,bL,VZ]
   refine dA (ey b l ⟨qa,qe⟩ hl h6 hb) ?_ (n1:=by simp(disch:=omega) [Qc.o,VZ]) (n3:=by simp(disch:=omega) [Qc.o,VZ])
   have w13:=EC (l:=l) h6
   have h16:=MG (b:=b) (l:=l) (r:=⟨qa,qe⟩) h9
   generalize h13:wG b l ⟨qa,qe⟩=s13 at w13 h16⊢
   obtain⟨q2,q3⟩:=s13
   simp only at w13 h16
   subst h16
   simp(disch:=omega) [bL,Qc.o,h9,VZ]
   refine dA (aU b ⟨qa,qe⟩ true 6) ?_
   have h12:∀bad c,bQ ⟨qa,qe⟩ bad c=⟨qa,qe⟩:=fun bad c=>iS h9
   simp(disch:=omega) [dT,h1,h2,h3,h7,h13,Proof.o,bL,aW,bc,bn,h12,VZ]
  ·skip
   have hx2:∀t∈x,t.wf:=fun t ht=>(hall t (by rw[h7];exact ht)).wf
   simp(disch:=omega) [h8,h9,bL,VZ]
   refine dA (ey b l ⟨qa,qe⟩ hl h6 hb) ?_ (n1:=by simp(disch:=omega) [Qc.o,VZ]) (n3:=by simp(disch:=omega) [Qc.o,VZ])
   have w13:=EC (l:=l) h6
   have h16:=MG (b:=b) (l:=l) (r:=⟨qa,qe⟩) h9
   generalize h13:wG b l ⟨qa,qe⟩=s13 at w13 h16⊢
   obtain⟨q2,q3⟩:=s13
   simp only at w13 h16
   subst h16
   simp(disch:=omega) [bL,Qc.o,h9,VZ]
   refine dA (aU b ⟨qa,qe⟩ true 6) ?_
   have h12:∀bad c,bQ ⟨qa,qe⟩ bad c=⟨qa,qe⟩:=fun bad c=>iS h9
   simp(disch:=omega) [dT,h1,h2,h3,h7,h13,Proof.o,bL,aW,bc,bn,h12,VZ]
end Go.Eng.F
namespace Go.Eng.F
def Tc.o (t:Tc):List E:= [.p (.int .i64 t.view), .o true (some (165,3)) (iw t.entries)]
theorem Mk (l:List Entry) (w h:Int) (t:Bytes):iw l++ [[.int .i64 w, .int .i64 h, .sl (bytes t)]]=iw (l++ [⟨w,h,t⟩]):=by simp[iw,Entry.c]
theorem G4 {b:Bytes} {l:ah} {v:Int} {k:Nat} {bf:Int} {r:Rd} (h:r.er≠0):gw b l v k bf r=([],r):=by
 cases k
 ·rfl
 ·rw[gw,if_neg h]
theorem CB {b:Bytes} {l:ah} {v:Int} {k:Nat} {bf:Int} {r:Rd} (h:r.er=0):gw b l v (k+1) bf r=
 (let w:=bd b r l.n 5
  let h:=bd b (bQ w.2 (decide ((w.1:Int)≤bf)) 6) v 6
  let t:=bI b h.2 32
  (⟨w.1,h.1,t.1⟩::(gw b l v k w.1 t.2).1,(gw b l v k w.1 t.2).2)):=by
 rw[gw,if_pos h]
abbrev ky:Nat:=119
def vx:AF:=⟨2,6,[.cell 4 2 true],(.seq (.ops [.i (.lbox 2 (.s 0)), .i (.lal 4 [.int .i64 0, .nils])]) (.seq (.ops [qm 10 1,qk 12 165 10, .i (.bld 12 [.int .i64 0, .nils] [(0,1,(.s 11))]), .i (.lal 5 [.int .i64 0, .nils]),qs 5 5 12 2]) (.seq (.ops [qm 13 1,qf 14 2 0,ql 15 2 14 1 false, .i (.bin 16 .add (.s 15) (qi 1)), .i (.call 18 167 false [(.s 13),(.s 16),(qi 3)]),qm 6 17, .i (.mov 7 (qi (-1)))]) (.seq (.seq (.ops [.i (.mov 8 (qi 0))]) (.block 0 (.loop [56,55,54,53,52,51,50,49,48,47,46,45,44,43,42,41,40,39,38,37,36,35,34,33,32,31,30,29,28,27,26,25,24,23,22,21,20,19,18,9] (.seq (.seq (.ops [qm 18 8,qm 19 6,qd 20 .lss 18 19,qm 21 20, .g 21 true 23 (.mov 22 (.s 1)), .g 21 true 24 (.nch 23 (.s 22)), .g 21 true 25 (.fad 24 (.s 23) 2), .g 21 true 26 (.ldh 25 (.s 24) 1 false), .g 21 true 27 (.bin 26 .eql (.s 25) (qi 0)), .i (.pick 27 (.s 21) (.s 26) (qb false))]) (.cond (.s 27) .skip (.exit 0))) (.seq (.block 1 (.seq (.ops [qm 30 1,qf 31 2 0,ql 32 2 31 1 false, .i (.call 34 167 false [(.s 30),(.s 32),(qi 5)]), .i (.bld 34 [.int .i64 0, .int .i64 0, .nils] [(0,1,(.s 33))]), .i (.lal 9 [.int .i64 0, .int .i64 0, .nils]),qs 9 9 34 3]) (.seq (.ops [qm 35 1,qf 36 9 0,ql 37 9 36 1 false,qm 38 7,qd 39 .gtr 37 38, .i (.call 41 172 false [(.s 35),(.s 39),(qi 6)])]) (.seq (.ops [qf 41 9 0,ql 42 9 41 1 false,qm 7 42]) (.seq (.ops [qm 43 1,qf 44 5 0,ql 45 5 44 1 false, .i (.call 47 167 false [(.s 43),(.s 45),(qi 6)]),qf 47 9 1,qs 9 47 46 1]) (.seq (.ops [qm 48 1,qk 50 166 48,qf 50 9 2,qs 9 50 49 1]) (.ops [qf 51 5 1,ql 52 5 51 1 false,ql 53 9 9 3 true, .i (.lsl 54 3 1 [.int .i64 0, .int .i64 0, .nils] [(0,3,(.s 53))]), .i (.app 55 165 3 40 (.s 52) (.s 54)),qf 56 5 1,qs 5 56 55 1]))))))) (.ops [qm 28 8, .i (.bin 29 .add (.s 28) (qi 1)),qm 8 29])))))) (.seq (.ops [ql 57 5 5 2 true,qs 4 4 57 2]) .ret)))))⟩
theorem FZ:cd ky=some vx:=by kernel_rfl
theorem CX (b:Bytes) (l:ah) (r:Rd) (hL:l.rd) (hr:r.wf b) (hb:b.length≤1073741824):VC cd ky (iO [(true,l.c)] 215 (bL b r) []) (fun rs p=>rs= [(true,(Hr b l r).1.o)]∧p= [.pt 215 (bL b (Hr b l r).2)]):=by
 refine VC.pq ?_
 obtain⟨hl,hx,ht,hh⟩:=hL
 refine ax FZ rfl ?_
 simp(disch:=omega) [vx,bL,ah.c,VZ]
 refine dA (bP b r hr hb) ?_
 have w1:=dI hr
 generalize h1:br b r=s1 at w1⊢
 simp(disch:=omega) [bL,VZ]
 refine dA (c6 b s1.2 (l.n+1) 3 w1.1 hb) ?_
 have w2:=fF (n:=(l.n+1)) (c:=3) w1.1 (by omega)
 generalize h2:bd b s1.2 (l.n+1) 3=s2 at w2⊢
 simp(disch:=omega) [bL,VZ]
 have hn:s2.2.er=0→(s2.1:Int)≤l.n:=by
  intro g
  have e:(bd b s1.2 (l.n+1) 3).2.er=0:=by rw[h2];exact g
  have:=je e (by omega)
  simp only[bd]at h2
  rw[show(br b s1.2).1=s2.1 by rw[←h2]]at this
  simp only[decide_eq_false_iff_not]at this
  omega
 refine dP (σ:=Nat×Nat×Int×List Entry×Rd) (f0:=_) (by simp(disch:=omega) [VZ];rfl) (dy.zB (s:=5) (k:=5) (i:=1) rfl rfl) (f1:=_) (es0:=_) (by simp(disch:=omega) [VZ];rfl) (by simp(disch:=omega) [VZ];rfl) (fun p=> [(8, .val false [.int .i64 (p.1:Int)]),(7, .val false [.int .i64 p.2.2.1]),(5, .box [.int .i64 s1.1, .ow 5 p.2.1])]) (fun p=> [(4101, .pt 5 215 [.sl (bytes b), .int .i64 (p.2.2.2.2.at_:Int), .int .i64 (p.2.2.2.2.er:Int)]),(5, .sl p.2.1 true true (some (165,3)) (iw p.2.2.2.1))])
  (fun p g=>(g+p.1=s2.1∧p.2.2.2.1.length=p.1)∧(p.2.2.2.2.er=0→(s2.1:Int)≤l.n)∧p.2.2.2.2.wf b∧(-1≤p.2.2.1∧p.2.2.1≤1152921504606846975)∧gw b l s1.1 s2.1 (-1) s2.2=(p.2.2.2.1++(gw b l s1.1 g p.2.2.1 p.2.2.2.2).1,(gw b l s1.1 g p.2.2.1 p.2.2.2.2).2)) (0,_, -1,[],s2.2) s2.1 (by simp(disch:=omega) [VZ];rfl) (by simp(disch:=omega) [iw,bL,VZ]) ⟨⟨by simp,rfl⟩,hn,w2.1,⟨by simp,by simp⟩,by simp⟩ ?_
 rintro⟨i,v,bf,x,⟨qa,qe⟩⟩ nx g0 ⟨⟨hg,h5⟩,h10,h6,hbf,h7⟩ P hP
 simp only at hg h5 h6 h7 h10 hbf
 have hl2:(iw x).length=i:=by rw[cc];exact h5
 by_cases h9:qe=0
 ·subst h9
  by_cases h8:i < s2.1
  ·have h11:=h10 rfl
   simp(disch:=omega) [h8,bL,VZ]
   refine dA (c6 b ⟨qa,0⟩ l.n 5 h6 hb) ?_
   have w21:=fF (n:=l.n) (c:=5) h6 (by omega)
   generalize h21:bd b ⟨qa,0⟩ l.n 5=s21 at w21⊢
   simp(disch:=omega) [bL,VZ]
   refine dA (aU b s21.2 (decide (bf < (s21.1:Int))) 6) ?_
   have e22:(!decide (bf < (s21.1:Int)))=decide ((s21.1:Int)≤bf):=by rw[←decide_not,decide_eq_decide];omega
   rw[e22]
   have w22:=eT (bad:=decide ((s21.1:Int)≤bf)) (c:=6) w21.1 (by omega)
   generalize h22:bQ s21.2 (decide ((s21.1:Int)≤bf)) 6=s22 at w22⊢
   simp(disch:=omega) [bL,VZ]
   refine dA (c6 b s22 (s1.1:Int) 6 w22 hb) ?_
   have w23:=fF (n:=(s1.1:Int)) (c:=6) w22 (by omega)
   generalize h23:bd b s22 (s1.1:Int) 6=s23 at w23⊢
   simp(disch:=omega) [bL,VZ]
   refine dA (cT b s23.2 w23.1 hb) ?_
   have w24:=fc w23.1 32
   generalize h24:bI b s23.2 32=s24 at w24⊢
   simp(disch:=omega) [bL,VZ]
   obtain⟨g1,rfl⟩:∃g1,g0=g1+1:=⟨g0 - 1,by omega⟩
   rw[CB rfl]at h7
   simp only[h21,h22,h23,h24]at h7
   simp(disch:=omega) [bL,hl2,Mk,VZ]
   refine hP (i+1,_,(s21.1:Int),x++ [⟨(s21.1:Int),(s23.1:Int),s24.1⟩],s24.2) g1 _ _ (by omega) ⟨⟨by simp only;omega,by simp[h5]⟩,fun _=>h11,w24.1,⟨by simp only;omega,by have:=w21.2;simp only;omega⟩,by rw[h7];simp⟩ (by simp(disch:=omega) [VZ];rfl) (by simp(disch:=omega) [bL,VZ])
  ·obtain rfl:g0=0:=by omega
   simp only[gw,List.append_nil]at h7
   simp(disch:=omega) [h8,Hr,h1,h2,h7,Tc.o,bL,aW,bc,bn,VZ]
 ·rw[G4 (k:=g0) (r:=⟨qa,qe⟩) h9]at h7
  simp only[List.append_nil]at h7
  by_cases h8:i < s2.1
  ·simp(disch:=omega) [h8,h9,Hr,h1,h2,h7,Tc.o,bL,aW,bc,bn,VZ]
  ·simp(disch:=omega) [h8,h9,Hr,h1,h2,h7,Tc.o,bL,aW,bc,bn,VZ]
end Go.Eng.F
namespace Go.Eng.F
theorem dO {r:Rd} {bad:Bool} {c:Nat} (h:(bQ r bad c).er=0):r.er=0:=by
 apply Decidable.byContradiction
 intro g
 rw[iS g]at h
 exact g h
theorem Ml {b:Bytes} {r:Rd} (h:(br b r).2.er=0):r.er=0:=by
 apply Decidable.byContradiction
 intro g
 simp[br,g]at h
theorem Q6 {b:Bytes} {r:Rd} {n:Nat} (h:(bI b r n).2.er=0):r.er=0:=by
 apply Decidable.byContradiction
 intro g
 simp[bI,g]at h
theorem Jy {b:Bytes} {r:Rd} {n:Nat} (h:(dL b r n).2.er=0):r.er=0:=by
 apply Decidable.byContradiction
 intro g
 simp[dL,g]at h
theorem Nw {b:Bytes} {l:ah} {r:Rd} (h:(cm b l r).2.er=0):(cm b l r).1.2.2.1 < (cm b l r).1.2.1∧((cm b l r).1.2.1:Int)≤l.txs:=by
 simp only[cm,bd]at h⊢
 have h1:=Jy h
 have h2:=je h1 (by omega)
 have h4:=Ml (dO h1)
 have h5:=je h4 (by omega)
 simp only[decide_eq_false_iff_not]at h2 h5
 omega
theorem Pk {b:Bytes} {k:Nat} {r:Rd} (h:r.er≠0):(fv (fun r=>bI b r 32) k r).2=r:=by
 induction k with
 |zero=>rfl
 |succ k ih=>
  have e:(bI b r 32).2=r:=by simp[bI,h]
  simp only[fv,e,ih]
theorem GW {b:Bytes}:∀(k:Nat) (r:Rd),(fv (fun r=>bI b r 32) k r).2=(cI (fun r=>bI b r 32) k r).2∧((cI (fun r=>bI b r 32) k r).2.er=0→(fv (fun r=>bI b r 32) k r).1=(cI (fun r=>bI b r 32) k r).1)
 |0,r=>⟨rfl,fun _=>rfl⟩
 |k+1,r=>by
  by_cases h:r.er=0
  ·rw[me h]
   have:=GW (b:=b) k (bI b r 32).2
   exact⟨this.1,fun g=>by simp only[fv];rw[this.2 g]⟩
  ·rw[tQ h,Pk h]
   exact⟨rfl,fun g=>absurd g h⟩
def f8 (b:Bytes) (l:ah) (r:Rd):aY×Rd:=
 let i:=cm b l r
 if i.2.er=0 then
  let p:=fv (fun r=>bI b r 32) (bh i.1.2.2.1 i.1.2.1) i.2
  (⟨i.1.1,i.1.2.1,i.1.2.2.1,i.1.2.2.2,p.1⟩,p.2)
 else(⟨i.1.1,i.1.2.1,i.1.2.2.1,i.1.2.2.2,[]⟩,i.2)
abbrev ic:Nat:=127
def oP:AF:=⟨2,6,[.cell 4 5 true],(.seq (.ops [.i (.lbox 2 (.s 0)), .i (.lal 4 [.int .i64 0, .int .i64 0, .int .i64 0, .nils, .nils])]) (.seq (.ops [qm 6 1,qk 8 165 6,qm 8 1,qk 10 165 8, .i (.bld 10 [.int .i64 0, .int .i64 0, .int .i64 0, .nils, .nils] [(0,1,(.s 7)),(1,1,(.s 9))]), .i (.lal 5 [.int .i64 0, .int .i64 0, .int .i64 0, .nils, .nils]),qs 5 5 10 5]) (.seq (.ops [qm 11 1,qf 12 5 1,ql 13 5 12 1 false, .i (.bin 14 .gtr (.s 13) (qi 0)), .i (.call 16 172 false [(.s 11),(.s 14),(qi 5)])]) (.seq (.ops [qm 16 1,qf 17 5 1,ql 18 5 17 1 false,qf 19 2 2,ql 20 2 19 1 false,qd 21 .leq 18 20, .i (.call 23 172 false [(.s 16),(.s 21),(qi 3)])]) (.seq (.ops [qm 23 1,qf 24 5 1,ql 25 5 24 1 false, .i (.call 27 167 false [(.s 23),(.s 25),(qi 5)]),qf 27 5 2,qs 5 27 26 1]) (.seq (.ops [qm 28 1,qf 29 2 1,ql 30 2 29 1 false, .i (.call 32 177 false [(.s 28),(.s 30)]),qf 32 5 3,qs 5 32 31 1]) (.seq (.seq (.ops [qm 33 1, .i (.nch 34 (.s 33)),qf 35 34 2, .i (.ldh 36 (.s 35) 1 false), .i (.bin 37 .eql (.s 36) (qi 0))]) (.cond (.s 37) (.seq (.ops [qf 38 5 2,ql 39 5 38 1 false,qf 40 5 1,ql 41 5 40 1 false, .i (.call 43 180 false [(.s 39),(.s 41)]), .i (.mov 43 (qi 0))]) (.block 0 (.loop [52,51,50,49,48,47,46,45,44] (.seq (.ops [qd 44 .lss 43 42]) (.seq (.cond (.s 44) .skip (.exit 0)) (.seq (.block 1 (.ops [qf 45 5 4,ql 46 5 45 1 false,qm 47 1,qk 49 166 47, .i (.lsl 49 1 1 [.nils] [(0,1,(.s 48))]), .i (.app 50 22 1 24 (.s 46) (.s 49)),qf 51 5 4,qs 5 51 50 1])) (.ops [.i (.bin 52 .add (.s 43) (qi 1)),qm 43 52]))))))) .skip)) (.seq (.ops [ql 53 5 5 5 true,qs 4 4 53 5]) .ret))))))))⟩
theorem AB:cd ic=some oP:=by kernel_rfl
theorem zq (b:Bytes) (l:ah) (r:Rd) (hL:l.rd) (hr:r.wf b) (hb:b.length≤1073741824):VC cd ic (iO [(true,l.c)] 215 (bL b r) []) (fun rs p=>rs= [(true,(f8 b l r).1.o)]∧p= [.pt 215 (bL b (f8 b l r).2)]):=by
 refine VC.pq ?_
 obtain⟨hl,hx,ht,hh⟩:=hL
 have hi:=Nw (b:=b) (l:=l) (r:=r)
 refine ax AB rfl ?_
 simp(disch:=omega) [oP,bL,ah.c,VZ]
 refine dA (bP b r hr hb) ?_
 have w1:=dI hr
 generalize h1:br b r=s1 at w1⊢
 simp(disch:=omega) [bL,VZ]
 refine dA (bP b s1.2 w1.1 hb) ?_
 have w2:=dI w1.1
 generalize h2:br b s1.2=s2 at w2⊢
 simp(disch:=omega) [bL,VZ]
 refine dA (aU b s2.2 (decide (0 < s2.1)) 5) ?_
 have e3:(!decide (0 < s2.1))=decide (s2.1=0):=by rw[←decide_not,decide_eq_decide];omega
 rw[e3]
 have w3:=eT (bad:=decide (s2.1=0)) (c:=5) w2.1 (by omega)
 generalize h3:bQ s2.2 (decide (s2.1=0)) 5=s3 at w3⊢
 simp(disch:=omega) [bL,VZ]
 refine dA (aU b s3 (decide ((s2.1:Int)≤l.txs)) 3) ?_
 have e4:(!decide ((s2.1:Int)≤l.txs))=decide (l.txs < (s2.1:Int)):=by rw[←decide_not,decide_eq_decide];omega
 rw[e4]
 have w4:=eT (bad:=decide (l.txs < (s2.1:Int))) (c:=3) w3 (by omega)
 generalize h4:bQ s3 (decide (l.txs < (s2.1:Int))) 3=s4 at w4⊢
 simp(disch:=omega) [bL,VZ]
 refine dA (c6 b s4 (s2.1:Int) 5 w4 hb) ?_
 have w5:=fF (n:=(s2.1:Int)) (c:=5) w4 (by omega)
 generalize h5:bd b s4 (s2.1:Int) 5=s5 at w5⊢
 simp(disch:=omega) [bL,VZ]
 refine dA (ng b s5.2 l.tx (by omega) w5.1 hb) ?_
 have w6:=xJ w5.1 l.tx.toNat
 generalize h6:dL b s5.2 l.tx.toNat=s6 at w6⊢
 simp(disch:=omega) [bL,VZ]
 have hi0:cm b l r=((s1.1,s2.1,s5.1,s6.1),s6.2):=by simp only[cm,h1,h2,h3,h4,h5,h6]
 rw[hi0]at hi
 simp only at hi
 by_cases g:s6.2.er=0
 case neg=>simp(disch:=omega) [g,f8,hi0,aY.o,bL,aW,bc,bn,ag,bJ,VZ]
 have hi2:=hi g
 have hpl:=cz s2.1 s5.1
 simp(disch:=omega) [g,VZ]
 refine ao (oL s2.1 s5.1 (by omega) (by omega)) ?_
 simp(disch:=omega) [VZ]
 refine dP (σ:=Nat×Nat×List Bytes×Rd) (f0:=_) (by simp(disch:=omega) [VZ];rfl) (dy.zB (s:=5) (k:=5) (i:=4) rfl rfl) (f1:=_) (es0:=_) (by simp(disch:=omega) [VZ];rfl) (by simp(disch:=omega) [VZ];rfl) (fun p=> [(43, .val false [.int .i64 (p.1:Int)]),(5, .box [.int .i64 s1.1, .int .i64 s2.1, .int .i64 s5.1, .ow 270336 32, .ow 5 p.2.1])]) (fun p=> [(4101, .pt 5 215 [.sl (bytes b), .int .i64 (p.2.2.2.at_:Int), .int .i64 (p.2.2.2.er:Int)]),(5, .sl p.2.1 true true (some (22,1)) (bJ p.2.2.1))])
  (fun p g=>(g+p.1=(bh s5.1 s2.1)∧p.2.2.1.length=p.1)∧p.2.2.2.wf b∧fv (fun r=>bI b r 32) (bh s5.1 s2.1) s6.2=(p.2.2.1++(fv (fun r=>bI b r 32) g p.2.2.2).1,(fv (fun r=>bI b r 32) g p.2.2.2).2)) (0,_,[],s6.2) (bh s5.1 s2.1) (by simp(disch:=omega) [VZ];rfl) (by simp(disch:=omega) [bJ,bL,g,VZ]) ⟨⟨by simp,rfl⟩,w6.1,by simp⟩ ?_
 rintro⟨i,v,x,q⟩ nx g0 ⟨⟨hg,h5⟩,h6,h7⟩ P hP
 simp only at hg h5 h6 h7
 have hl2:(bJ x).length=i:=by rw[aq];exact h5
 simp(disch:=omega) [VZ]
 refine ab (fun h8=> ?_) (fun h8=> ?_)
 ·simp(disch:=omega) [bL,VZ]
  refine dA (cT b q h6 hb) ?_
  have w25:=fc h6 32
  obtain⟨g1,rfl⟩:∃g1,g0=g1+1:=⟨g0 - 1,by omega⟩
  simp only[fv]at h7
  generalize h9:bI b q 32=s25 at w25 h7⊢
  simp(disch:=omega) [bL,hl2,HG,VZ]
  refine hP (i+1,_,x++ [s25.1],s25.2) g1 _ _ (by omega) ⟨⟨by simp only;omega,by simp[h5]⟩,w25.1,by rw[h7];simp⟩ (by simp(disch:=omega) [VZ];rfl) (by simp(disch:=omega) [bL,VZ])
 ·obtain rfl:g0=0:=by omega
  simp only[fv,List.append_nil]at h7
  simp(disch:=omega) [f8,hi0,g,h7,aY.o,bL,aW,bc,bn,VZ]
end Go.Eng.F
namespace Go.Eng.F
def cu (x:List E) (z:List E) (r:Rd):List (Bool×List E):=if r.er=0 then [(true,x),(false,[.p (.int .i64 (r.at_:Int))]),(false,[.p (.int .i64 0)])]else [(true,z),(false,[.p (.int .i64 0)]),(false,[.p (.int .i64 (r.er:Int))])]
def TL:List E:= [.p (.int .i64 0), .p (.int .i64 0), .p .nils, .p .nils, .p .nils]
def J1:List E:= [.p (.int .i64 0), .p (.int .i64 0), .p .nils, .p (.int .i64 0), .p .nils]
def Jd:List E:= [.p (.int .i64 0), .p (.int .i64 0), .p (.int .i64 0), .p .nils, .p .nils, .p (.int .i64 0), .p (.int .i64 0), .p .nils, .p .nils, .p .nils]
def Ew:List E:= [.p (.int .i64 0), .p (.int .i64 0), .p (.int .i64 0), .p .nils, .p .nils, .p (.int .i64 0), .p (.int .i64 0), .p .nils, .p .nils, .p .nils, .p .nils]
def TN:List E:= [.p (.int .i64 0), .p .nils]
def EM:List E:= [.p .nils, .p (.int .i64 0), .p (.int .i64 0), .p .nils, .p .nils, .p .nils]
def Jx:List E:= [.p (.int .i64 0), .p (.int .i64 0), .p (.int .i64 0), .p .nils, .p .nils]
abbrev gz:Nat:=101
def gx:AF:=⟨4,6,[.cell 8 5 true, .tmp 9, .tmp 10],(.seq (.ops [.i (.lbox 4 (.s 0)), .i (.lal 8 [.int .i64 0, .int .i64 0, .nils, .int .i64 0, .nils]), .i (.mov 9 (qi 0)), .i (.mov 10 (qi 0))]) (.seq (.ops [.i (.lal 11 [.int .i64 0, .int .i64 0, .nils, .int .i64 0, .nils])]) (.seq (.seq (.ops [ql 14 4 4 5 true,qk 16 95 14, .i (.not 16 (.s 15))]) (.cond (.s 16) (.seq (.ops [ql 17 11 11 5 true,qs 8 8 17 5, .i (.mov 9 (qi 0)), .i (.mov 10 (qi 5))]) .ret) .skip)) (.seq (.ops [qm 18 1,qm 19 2, .i (.bld 20 [.nils, .int .i64 0, .int .i64 0] [(0,1,(.s 18)),(1,1,(.s 19))]), .i (.hbox 21 215 (.s 20)),qm 12 21]) (.seq (.ops [qm 22 3,ql 23 4 4 5 true,qm 24 12, .i (.clv 26 false (.s 22) [(.s 23),(.s 24)]), .i (.lal 13 [.int .i64 0, .int .i64 0, .nils, .int .i64 0, .nils]),qs 13 13 25 5]) (.seq (.seq (.ops [qm 26 12, .i (.nch 27 (.s 26)),qf 28 27 2, .i (.ldh 29 (.s 28) 1 false), .i (.bin 30 .neq (.s 29) (qi 0))]) (.cond (.s 30) (.seq (.ops [ql 31 11 11 5 true,qm 32 12, .i (.nch 33 (.s 32)),qf 34 33 2, .i (.ldh 35 (.s 34) 1 false),qs 8 8 31 5, .i (.mov 9 (qi 0)),qm 10 35]) .ret) .skip)) (.seq (.ops [ql 36 13 13 5 true,qm 37 12, .i (.nch 38 (.s 37)),qf 39 38 1, .i (.ldh 40 (.s 39) 1 false),qs 8 8 36 5,qm 9 40, .i (.mov 10 (qi 0))]) .ret)))))))⟩
theorem o6:cd gz=some gx:=by kernel_rfl
theorem o7 (b:Bytes) (l:ah) (k:Nat) (hok:l.ok=true) (hk:k≤b.length) (hb:b.length≤1073741824):VC cd gz (aD [(true,l.c),(false,[.sl (bytes b)]),(false,[.int .i64 (k:Int)]),(false,[.fn ik])]) (fun rs _=>rs=cu (gW b l ⟨k,0⟩).1.o J1 (gW b l ⟨k,0⟩).2):=by
 have hr:Rd.wf b ⟨k,0⟩:=⟨hk,by simp⟩
 refine aa o6 rfl ?_
 simp(disch:=omega) [gx,ah.c,VZ]
 refine ao (aI l) ?_ (ha:=by first|rfl|(simp[ah.c,VY] <;>repeat' constructor))
 simp(disch:=omega) [hok,VZ]
 refine dA (zb b l ⟨k,0⟩ hr hb) ?_ (n1:=by simp(disch:=omega) [bp.o,VZ]) (n3:=by simp(disch:=omega) [bp.o,VZ])
 generalize h1:gW b l ⟨k,0⟩=s1
 simp(disch:=omega) [bL,bp.o,VZ]
 by_cases g:s1.2.er=0
 ·simp(disch:=omega) [g,cu,bp.o,VZ]
 ·simp(disch:=omega) [g,cu,J1,VZ]
abbrev q9:Nat:=25
def pB:AF:=⟨3,5,[.cell 6 5 true, .tmp 7, .tmp 8],(.seq (.ops [.i (.lbox 3 (.s 0)), .i (.lal 6 [.int .i64 0, .int .i64 0, .nils, .int .i64 0, .nils]), .i (.mov 7 (qi 0)), .i (.mov 8 (qi 0))]) (.seq (.ops [ql 9 3 3 5 true,qm 10 1,qm 11 2, .i (.call 13 101 false [(.s 9),(.s 10),(.s 11),(.c (.val false [.fn 102]))]), .i (.ext 13 (.s 12) 0), .i (.ext 14 (.s 12) 1), .i (.ext 15 (.s 12) 2),qs 6 6 13 5,qm 7 14,qm 8 15]) .ret))⟩
theorem Cf:cd q9=some pB:=by kernel_rfl
theorem AJ (b:Bytes) (l:ah) (k:Nat) (hok:l.ok=true) (hk:k≤b.length) (hb:b.length≤1073741824):VC cd q9 (aD [(true,l.c),(false,[.sl (bytes b)]),(false,[.int .i64 (k:Int)])]) (fun rs _=>rs=cu (gW b l ⟨k,0⟩).1.o J1 (gW b l ⟨k,0⟩).2):=by
 refine aa Cf rfl ?_
 simp(disch:=omega) [pB,ah.c,VZ]
 have h0:=o7 b l k hok hk hb
 generalize h1:gW b l ⟨k,0⟩=s1 at h0⊢
 by_cases g:s1.2.er=0
 ·simp only[cu,if_pos g,bp.o]at h0⊢
  refine ao (h0) ?_ (ha:=by first|rfl|(simp[ah.c,VY] <;>repeat' constructor))
  simp(disch:=omega) [VZ]
 ·simp only[cu,if_neg g,J1]at h0⊢
  refine ao (h0) ?_ (ha:=by first|rfl|(simp[ah.c,VY] <;>repeat' constructor))
  simp(disch:=omega) [VZ]
abbrev iC:Nat:=105
def iE:AF:=⟨4,6,[.cell 8 5 true, .tmp 9, .tmp 10],(.seq (.ops [.i (.lbox 4 (.s 0)), .i (.lal 8 [.int .i64 0, .int .i64 0, .nils, .nils, .nils]), .i (.mov 9 (qi 0)), .i (.mov 10 (qi 0))]) (.seq (.ops [.i (.lal 11 [.int .i64 0, .int .i64 0, .nils, .nils, .nils])]) (.seq (.seq (.ops [ql 14 4 4 5 true,qk 16 95 14, .i (.not 16 (.s 15))]) (.cond (.s 16) (.seq (.ops [ql 17 11 11 5 true,qs 8 8 17 5, .i (.mov 9 (qi 0)), .i (.mov 10 (qi 5))]) .ret) .skip)) (.seq (.ops [qm 18 1,qm 19 2, .i (.bld 20 [.nils, .int .i64 0, .int .i64 0] [(0,1,(.s 18)),(1,1,(.s 19))]), .i (.hbox 21 215 (.s 20)),qm 12 21]) (.seq (.ops [qm 22 3,ql 23 4 4 5 true,qm 24 12, .i (.clv 26 false (.s 22) [(.s 23),(.s 24)]), .i (.lal 13 [.int .i64 0, .int .i64 0, .nils, .nils, .nils]),qs 13 13 25 5]) (.seq (.seq (.ops [qm 26 12, .i (.nch 27 (.s 26)),qf 28 27 2, .i (.ldh 29 (.s 28) 1 false), .i (.bin 30 .neq (.s 29) (qi 0))]) (.cond (.s 30) (.seq (.ops [ql 31 11 11 5 true,qm 32 12, .i (.nch 33 (.s 32)),qf 34 33 2, .i (.ldh 35 (.s 34) 1 false),qs 8 8 31 5, .i (.mov 9 (qi 0)),qm 10 35]) .ret) .skip)) (.seq (.ops [ql 36 13 13 5 true,qm 37 12, .i (.nch 38 (.s 37)),qf 39 38 1, .i (.ldh 40 (.s 39) 1 false),qs 8 8 36 5,qm 9 40, .i (.mov 10 (qi 0))]) .ret)))))))⟩
theorem ur:cd iC=some iE:=by kernel_rfl
theorem uq (b:Bytes) (l:ah) (k:Nat) (hok:l.ok=true) (hk:k≤b.length) (hb:b.length≤1073741824):VC cd iC (aD [(true,l.c),(false,[.sl (bytes b)]),(false,[.int .i64 (k:Int)]),(false,[.fn kr])]) (fun rs _=>rs=cu (wG b l ⟨k,0⟩).1.o TL (wG b l ⟨k,0⟩).2):=by
 have hr:Rd.wf b ⟨k,0⟩:=⟨hk,by simp⟩
 refine aa ur rfl ?_
 simp(disch:=omega) [iE,ah.c,VZ]
 refine ao (aI l) ?_ (ha:=by first|rfl|(simp[ah.c,VY] <;>repeat' constructor))
 simp(disch:=omega) [hok,VZ]
 refine dA (ey b l ⟨k,0⟩ (fV hok).1 hr hb) ?_ (n1:=by simp(disch:=omega) [Qc.o,VZ]) (n3:=by simp(disch:=omega) [Qc.o,VZ])
 generalize h1:wG b l ⟨k,0⟩=s1
 simp(disch:=omega) [bL,Qc.o,VZ]
 by_cases g:s1.2.er=0
 ·simp(disch:=omega) [g,cu,Qc.o,VZ]
 ·simp(disch:=omega) [g,cu,TL,VZ]
abbrev xj:Nat:=28
def xf:AF:=⟨3,5,[.cell 6 5 true, .tmp 7, .tmp 8],(.seq (.ops [.i (.lbox 3 (.s 0)), .i (.lal 6 [.int .i64 0, .int .i64 0, .nils, .nils, .nils]), .i (.mov 7 (qi 0)), .i (.mov 8 (qi 0))]) (.seq (.ops [ql 9 3 3 5 true,qm 10 1,qm 11 2, .i (.call 13 105 false [(.s 9),(.s 10),(.s 11),(.c (.val false [.fn 106]))]), .i (.ext 13 (.s 12) 0), .i (.ext 14 (.s 12) 1), .i (.ext 15 (.s 12) 2),qs 6 6 13 5,qm 7 14,qm 8 15]) .ret))⟩
theorem Hy:cd xj=some xf:=by kernel_rfl
theorem FM (b:Bytes) (l:ah) (k:Nat) (hok:l.ok=true) (hk:k≤b.length) (hb:b.length≤1073741824):VC cd xj (aD [(true,l.c),(false,[.sl (bytes b)]),(false,[.int .i64 (k:Int)])]) (fun rs _=>rs=cu (wG b l ⟨k,0⟩).1.o TL (wG b l ⟨k,0⟩).2):=by
 refine aa Hy rfl ?_
 simp(disch:=omega) [xf,ah.c,VZ]
 have h0:=uq b l k hok hk hb
 generalize h1:wG b l ⟨k,0⟩=s1 at h0⊢
 by_cases g:s1.2.er=0
 ·simp only[cu,if_pos g,Qc.o]at h0⊢
  refine ao (h0) ?_ (ha:=by first|rfl|(simp[ah.c,VY] <;>repeat' constructor))
  simp(disch:=omega) [VZ]
 ·simp only[cu,if_neg g,TL]at h0⊢
  refine ao (h0) ?_ (ha:=by first|rfl|(simp[ah.c,VY] <;>repeat' constructor))
  simp(disch:=omega) [VZ]
abbrev gk:Nat:=110
def gq:AF:=⟨4,6,[.cell 8 10 true, .tmp 9, .tmp 10],(.seq (.ops [.i (.lbox 4 (.s 0)), .i (.lal 8 qz), .i (.mov 9 (qi 0)), .i (.mov 10 (qi 0))]) (.seq (.ops [.i (.lal 11 qz)]) (.seq (.seq (.ops [ql 14 4 4 5 true,qk 16 95 14, .i (.not 16 (.s 15))]) (.cond (.s 16) (.seq (.ops [ql 17 11 11 10 true,qs 8 8 17 10, .i (.mov 9 (qi 0)), .i (.mov 10 (qi 5))]) .ret) .skip)) (.seq (.ops [qm 18 1,qm 19 2, .i (.bld 20 [.nils, .int .i64 0, .int .i64 0] [(0,1,(.s 18)),(1,1,(.s 19))]), .i (.hbox 21 215 (.s 20)),qm 12 21]) (.seq (.ops [qm 22 3,ql 23 4 4 5 true,qm 24 12, .i (.clv 26 false (.s 22) [(.s 23),(.s 24)]), .i (.lal 13 qz),qs 13 13 25 10]) (.seq (.seq (.ops [qm 26 12, .i (.nch 27 (.s 26)),qf 28 27 2, .i (.ldh 29 (.s 28) 1 false), .i (.bin 30 .neq (.s 29) (qi 0))]) (.cond (.s 30) (.seq (.ops [ql 31 11 11 10 true,qm 32 12, .i (.nch 33 (.s 32)),qf 34 33 2, .i (.ldh 35 (.s 34) 1 false),qs 8 8 31 10, .i (.mov 9 (qi 0)),qm 10 35]) .ret) .skip)) (.seq (.ops [ql 36 13 13 10 true,qm 37 12, .i (.nch 38 (.s 37)),qf 39 38 1, .i (.ldh 40 (.s 39) 1 false),qs 8 8 36 10,qm 9 40, .i (.mov 10 (qi 0))]) .ret)))))))⟩
theorem oY:cd gk=some gq:=by kernel_rfl
theorem o5 (b:Bytes) (l:ah) (k:Nat) (hok:l.ok=true) (hk:k≤b.length) (hb:b.length≤1073741824):VC cd gk (aD [(true,l.c),(false,[.sl (bytes b)]),(false,[.int .i64 (k:Int)]),(false,[.fn ia])]) (fun rs _=>rs=cu (dr b l ⟨k,0⟩).1.o Jd (dr b l ⟨k,0⟩).2):=by
 have hr:Rd.wf b ⟨k,0⟩:=⟨hk,by simp⟩
 refine aa oY rfl ?_
 simp(disch:=omega) [gq,ah.c,VZ]
 refine ao (aI l) ?_ (ha:=by first|rfl|(simp[ah.c,VY] <;>repeat' constructor))
 simp(disch:=omega) [hok,VZ]
 refine dA (gC b l ⟨k,0⟩ (fV hok).1 hr hb) ?_ (n1:=by simp(disch:=omega) [Head.o,VZ]) (n3:=by simp(disch:=omega) [Head.o,VZ])
 generalize h1:dr b l ⟨k,0⟩=s1
 simp(disch:=omega) [bL,Head.o,VZ]
 by_cases g:s1.2.er=0
 ·simp(disch:=omega) [g,cu,Head.o,VZ]
 ·simp(disch:=omega) [g,cu,Jd,VZ]
abbrev qT:Nat:=31
def pC:AF:=⟨3,5,[.cell 6 10 true, .tmp 7, .tmp 8],(.seq (.ops [.i (.lbox 3 (.s 0)), .i (.lal 6 qz), .i (.mov 7 (qi 0)), .i (.mov 8 (qi 0))]) (.seq (.ops [ql 9 3 3 5 true,qm 10 1,qm 11 2, .i (.call 13 110 false [(.s 9),(.s 10),(.s 11),(.c (.val false [.fn 111]))]), .i (.ext 13 (.s 12) 0), .i (.ext 14 (.s 12) 1), .i (.ext 15 (.s 12) 2),qs 6 6 13 10,qm 7 14,qm 8 15]) .ret))⟩
theorem DZ:cd qT=some pC:=by kernel_rfl
theorem BB (b:Bytes) (l:ah) (k:Nat) (hok:l.ok=true) (hk:k≤b.length) (hb:b.length≤1073741824):VC cd qT (aD [(true,l.c),(false,[.sl (bytes b)]),(false,[.int .i64 (k:Int)])]) (fun rs _=>rs=cu (dr b l ⟨k,0⟩).1.o Jd (dr b l ⟨k,0⟩).2):=by
 refine aa DZ rfl ?_
 simp(disch:=omega) [pC,ah.c,VZ]
 have h0:=o5 b l k hok hk hb
 generalize h1:dr b l ⟨k,0⟩=s1 at h0⊢
 by_cases g:s1.2.er=0
 ·simp only[cu,if_pos g,Head.o]at h0⊢
  refine ao (h0) ?_ (ha:=by first|rfl|(simp[ah.c,VY] <;>repeat' constructor))
  simp(disch:=omega) [VZ]
 ·simp only[cu,if_neg g,Jd]at h0⊢
  refine ao (h0) ?_ (ha:=by first|rfl|(simp[ah.c,VY] <;>repeat' constructor))
  simp(disch:=omega) [VZ]
abbrev fJ:Nat:=115
def f5:AF:=⟨4,6,[.cell 8 11 true, .tmp 9, .tmp 10],(.seq (.ops [.i (.lbox 4 (.s 0)), .i (.lal 8 [.int .i64 0, .int .i64 0, .int .i64 0, .nils, .nils, .int .i64 0, .int .i64 0, .nils, .nils, .nils, .nils]), .i (.mov 9 (qi 0)), .i (.mov 10 (qi 0))]) (.seq (.ops [.i (.lal 11 [.int .i64 0, .int .i64 0, .int .i64 0, .nils, .nils, .int .i64 0, .int .i64 0, .nils, .nils, .nils, .nils])]) (.seq (.seq (.ops [ql 14 4 4 5 true,qk 16 95 14, .i (.not 16 (.s 15))]) (.cond (.s 16) (.seq (.ops [ql 17 11 11 11 true,qs 8 8 17 11, .i (.mov 9 (qi 0)), .i (.mov 10 (qi 5))]) .ret) .skip)) (.seq (.ops [qm 18 1,qm 19 2, .i (.bld 20 [.nils, .int .i64 0, .int .i64 0] [(0,1,(.s 18)),(1,1,(.s 19))]), .i (.hbox 21 215 (.s 20)),qm 12 21]) (.seq (.ops [qm 22 3,ql 23 4 4 5 true,qm 24 12, .i (.clv 26 false (.s 22) [(.s 23),(.s 24)]), .i (.lal 13 [.int .i64 0, .int .i64 0, .int .i64 0, .nils, .nils, .int .i64 0, .int .i64 0, .nils, .nils, .nils, .nils]),qs 13 13 25 11]) (.seq (.seq (.ops [qm 26 12, .i (.nch 27 (.s 26)),qf 28 27 2, .i (.ldh 29 (.s 28) 1 false), .i (.bin 30 .neq (.s 29) (qi 0))]) (.cond (.s 30) (.seq (.ops [ql 31 11 11 11 true,qm 32 12, .i (.nch 33 (.s 32)),qf 34 33 2, .i (.ldh 35 (.s 34) 1 false),qs 8 8 31 11, .i (.mov 9 (qi 0)),qm 10 35]) .ret) .skip)) (.seq (.ops [ql 36 13 13 11 true,qm 37 12, .i (.nch 38 (.s 37)),qf 39 38 1, .i (.ldh 40 (.s 39) 1 false),qs 8 8 36 11,qm 9 40, .i (.mov 10 (qi 0))]) .ret)))))))⟩
theorem mN:cd fJ=some f5:=by kernel_rfl
theorem ml (b:Bytes) (l:ah) (k:Nat) (hok:l.ok=true) (hk:k≤b.length) (hb:b.length≤1073741824):VC cd fJ (aD [(true,l.c),(false,[.sl (bytes b)]),(false,[.int .i64 (k:Int)]),(false,[.fn gJ])]) (fun rs _=>rs=cu (dZ b l ⟨k,0⟩).1.o Ew (dZ b l ⟨k,0⟩).2):=by
 have hr:Rd.wf b ⟨k,0⟩:=⟨hk,by simp⟩
 refine aa mN rfl ?_
 simp(disch:=omega) [f5,ah.c,VZ]
 refine ao (aI l) ?_ (ha:=by first|rfl|(simp[ah.c,VY] <;>repeat' constructor))
 simp(disch:=omega) [hok,VZ]
 refine dA (xX b l ⟨k,0⟩ (fV hok) hr hb) ?_ (n1:=by simp(disch:=omega) [Block.o,VZ]) (n3:=by simp(disch:=omega) [Block.o,VZ])
 generalize h1:dZ b l ⟨k,0⟩=s1
 simp(disch:=omega) [bL,Block.o,VZ]
 by_cases g:s1.2.er=0
 ·simp(disch:=omega) [g,cu,Block.o,VZ]
 ·simp(disch:=omega) [g,cu,Ew,VZ]
abbrev nZ:Nat:=35
def nG:AF:=⟨3,5,[.cell 6 11 true, .tmp 7, .tmp 8],(.seq (.ops [.i (.lbox 3 (.s 0)), .i (.lal 6 [.int .i64 0, .int .i64 0, .int .i64 0, .nils, .nils, .int .i64 0, .int .i64 0, .nils, .nils, .nils, .nils]), .i (.mov 7 (qi 0)), .i (.mov 8 (qi 0))]) (.seq (.ops [ql 9 3 3 5 true,qm 10 1,qm 11 2, .i (.call 13 115 false [(.s 9),(.s 10),(.s 11),(.c (.val false [.fn 116]))]), .i (.ext 13 (.s 12) 0), .i (.ext 14 (.s 12) 1), .i (.ext 15 (.s 12) 2),qs 6 6 13 11,qm 7 14,qm 8 15]) .ret))⟩
theorem BL:cd nZ=some nG:=by kernel_rfl
theorem yU (b:Bytes) (l:ah) (k:Nat) (hok:l.ok=true) (hk:k≤b.length) (hb:b.length≤1073741824):VC cd nZ (aD [(true,l.c),(false,[.sl (bytes b)]),(false,[.int .i64 (k:Int)])]) (fun rs _=>rs=cu (dZ b l ⟨k,0⟩).1.o Ew (dZ b l ⟨k,0⟩).2):=by
 refine aa BL rfl ?_
 simp(disch:=omega) [nG,ah.c,VZ]
 have h0:=ml b l k hok hk hb
 generalize h1:dZ b l ⟨k,0⟩=s1 at h0⊢
 by_cases g:s1.2.er=0
 ·simp only[cu,if_pos g,Block.o]at h0⊢
  refine ao (h0) ?_ (ha:=by first|rfl|(simp[ah.c,VY] <;>repeat' constructor))
  simp(disch:=omega) [VZ]
 ·simp only[cu,if_neg g,Ew]at h0⊢
  refine ao (h0) ?_ (ha:=by first|rfl|(simp[ah.c,VY] <;>repeat' constructor))
  simp(disch:=omega) [VZ]
abbrev im:Nat:=118
def iF:AF:=⟨4,6,[.cell 8 2 true, .tmp 9, .tmp 10],(.seq (.ops [.i (.lbox 4 (.s 0)), .i (.lal 8 [.int .i64 0, .nils]), .i (.mov 9 (qi 0)), .i (.mov 10 (qi 0))]) (.seq (.ops [.i (.lal 11 [.int .i64 0, .nils])]) (.seq (.seq (.ops [ql 14 4 4 5 true,qk 16 95 14, .i (.not 16 (.s 15))]) (.cond (.s 16) (.seq (.ops [ql 17 11 11 2 true,qs 8 8 17 2, .i (.mov 9 (qi 0)), .i (.mov 10 (qi 5))]) .ret) .skip)) (.seq (.ops [qm 18 1,qm 19 2, .i (.bld 20 [.nils, .int .i64 0, .int .i64 0] [(0,1,(.s 18)),(1,1,(.s 19))]), .i (.hbox 21 215 (.s 20)),qm 12 21]) (.seq (.ops [qm 22 3,ql 23 4 4 5 true,qm 24 12, .i (.clv 26 false (.s 22) [(.s 23),(.s 24)]), .i (.lal 13 [.int .i64 0, .nils]),qs 13 13 25 2]) (.seq (.seq (.ops [qm 26 12, .i (.nch 27 (.s 26)),qf 28 27 2, .i (.ldh 29 (.s 28) 1 false), .i (.bin 30 .neq (.s 29) (qi 0))]) (.cond (.s 30) (.seq (.ops [ql 31 11 11 2 true,qm 32 12, .i (.nch 33 (.s 32)),qf 34 33 2, .i (.ldh 35 (.s 34) 1 false),qs 8 8 31 2, .i (.mov 9 (qi 0)),qm 10 35]) .ret) .skip)) (.seq (.ops [ql 36 13 13 2 true,qm 37 12, .i (.nch 38 (.s 37)),qf 39 38 1, .i (.ldh 40 (.s 39) 1 false),qs 8 8 36 2,qm 9 40, .i (.mov 10 (qi 0))]) .ret)))))))⟩
theorem um:cd im=some iF:=by kernel_rfl
theorem uo (b:Bytes) (l:ah) (k:Nat) (hok:l.ok=true) (hk:k≤b.length) (hb:b.length≤1073741824):VC cd im (aD [(true,l.c),(false,[.sl (bytes b)]),(false,[.int .i64 (k:Int)]),(false,[.fn ky])]) (fun rs _=>rs=cu (Hr b l ⟨k,0⟩).1.o TN (Hr b l ⟨k,0⟩).2):=by
 have hr:Rd.wf b ⟨k,0⟩:=⟨hk,by simp⟩
 refine aa um rfl ?_
 simp(disch:=omega) [iF,ah.c,VZ]
 refine ao (aI l) ?_ (ha:=by first|rfl|(simp[ah.c,VY] <;>repeat' constructor))
 simp(disch:=omega) [hok,VZ]
 refine dA (CX b l ⟨k,0⟩ (fV hok) hr hb) ?_ (n1:=by simp(disch:=omega) [Tc.o,VZ]) (n3:=by simp(disch:=omega) [Tc.o,VZ])
 generalize h1:Hr b l ⟨k,0⟩=s1
 simp(disch:=omega) [bL,Tc.o,VZ]
 by_cases g:s1.2.er=0
 ·simp(disch:=omega) [g,cu,Tc.o,VZ]
 ·simp(disch:=omega) [g,cu,TN,VZ]
abbrev xo:Nat:=38
def yl:AF:=⟨3,5,[.cell 6 2 true, .tmp 7, .tmp 8],(.seq (.ops [.i (.lbox 3 (.s 0)), .i (.lal 6 [.int .i64 0, .nils]), .i (.mov 7 (qi 0)), .i (.mov 8 (qi 0))]) (.seq (.ops [ql 9 3 3 5 true,qm 10 1,qm 11 2, .i (.call 13 118 false [(.s 9),(.s 10),(.s 11),(.c (.val false [.fn 119]))]), .i (.ext 13 (.s 12) 0), .i (.ext 14 (.s 12) 1), .i (.ext 15 (.s 12) 2),qs 6 6 13 2,qm 7 14,qm 8 15]) .ret))⟩
theorem IP:cd xo=some yl:=by kernel_rfl
theorem Fg (b:Bytes) (l:ah) (k:Nat) (hok:l.ok=true) (hk:k≤b.length) (hb:b.length≤1073741824):VC cd xo (aD [(true,l.c),(false,[.sl (bytes b)]),(false,[.int .i64 (k:Int)])]) (fun rs _=>rs=cu (Hr b l ⟨k,0⟩).1.o TN (Hr b l ⟨k,0⟩).2):=by
 refine aa IP rfl ?_
 simp(disch:=omega) [yl,ah.c,VZ]
 have h0:=uo b l k hok hk hb
 generalize h1:Hr b l ⟨k,0⟩=s1 at h0⊢
 by_cases g:s1.2.er=0
 ·simp only[cu,if_pos g,Tc.o]at h0⊢
  refine ao (h0) ?_ (ha:=by first|rfl|(simp[ah.c,VY] <;>repeat' constructor))
  simp(disch:=omega) [VZ]
 ·simp only[cu,if_neg g,TN]at h0⊢
  refine ao (h0) ?_ (ha:=by first|rfl|(simp[ah.c,VY] <;>repeat' constructor))
  simp(disch:=omega) [VZ]
abbrev fW:Nat:=122
def f9:AF:=⟨4,6,[.cell 8 6 true, .tmp 9, .tmp 10],(.seq (.ops [.i (.lbox 4 (.s 0)), .i (.lal 8 [.nils, .int .i64 0, .int .i64 0, .nils, .nils, .nils]), .i (.mov 9 (qi 0)), .i (.mov 10 (qi 0))]) (.seq (.ops [.i (.lal 11 [.nils, .int .i64 0, .int .i64 0, .nils, .nils, .nils])]) (.seq (.seq (.ops [ql 14 4 4 5 true,qk 16 95 14, .i (.not 16 (.s 15))]) (.cond (.s 16) (.seq (.ops [ql 17 11 11 6 true,qs 8 8 17 6, .i (.mov 9 (qi 0)), .i (.mov 10 (qi 5))]) .ret) .skip)) (.seq (.ops [qm 18 1,qm 19 2, .i (.bld 20 [.nils, .int .i64 0, .int .i64 0] [(0,1,(.s 18)),(1,1,(.s 19))]), .i (.hbox 21 215 (.s 20)),qm 12 21]) (.seq (.ops [qm 22 3,ql 23 4 4 5 true,qm 24 12, .i (.clv 26 false (.s 22) [(.s 23),(.s 24)]), .i (.lal 13 [.nils, .int .i64 0, .int .i64 0, .nils, .nils, .nils]),qs 13 13 25 6]) (.seq (.seq (.ops [qm 26 12, .i (.nch 27 (.s 26)),qf 28 27 2, .i (.ldh 29 (.s 28) 1 false), .i (.bin 30 .neq (.s 29) (qi 0))]) (.cond (.s 30) (.seq (.ops [ql 31 11 11 6 true,qm 32 12, .i (.nch 33 (.s 32)),qf 34 33 2, .i (.ldh 35 (.s 34) 1 false),qs 8 8 31 6, .i (.mov 9 (qi 0)),qm 10 35]) .ret) .skip)) (.seq (.ops [ql 36 13 13 6 true,qm 37 12, .i (.nch 38 (.s 37)),qf 39 38 1, .i (.ldh 40 (.s 39) 1 false),qs 8 8 36 6,qm 9 40, .i (.mov 10 (qi 0))]) .ret)))))))⟩
theorem mJ:cd fW=some f9:=by kernel_rfl
theorem mn (b:Bytes) (l:ah) (k:Nat) (hok:l.ok=true) (hk:k≤b.length) (hb:b.length≤1073741824):VC cd fW (aD [(true,l.c),(false,[.sl (bytes b)]),(false,[.int .i64 (k:Int)]),(false,[.fn gB])]) (fun rs _=>rs=cu (dT b l ⟨k,0⟩).1.o EM (dT b l ⟨k,0⟩).2):=by
 have hr:Rd.wf b ⟨k,0⟩:=⟨hk,by simp⟩
 refine aa mJ rfl ?_
 simp(disch:=omega) [f9,ah.c,VZ]
 refine ao (aI l) ?_ (ha:=by first|rfl|(simp[ah.c,VY] <;>repeat' constructor))
 simp(disch:=omega) [hok,VZ]
 refine dA (xD b l ⟨k,0⟩ (fV hok) hr hb) ?_ (n1:=by simp(disch:=omega) [Proof.o,VZ]) (n3:=by simp(disch:=omega) [Proof.o,VZ])
 generalize h1:dT b l ⟨k,0⟩=s1
 simp(disch:=omega) [bL,Proof.o,VZ]
 by_cases g:s1.2.er=0
 ·simp(disch:=omega) [g,cu,Proof.o,VZ]
 ·simp(disch:=omega) [g,cu,EM,VZ]
abbrev mW:Nat:=41
def oS:AF:=⟨3,5,[.cell 6 6 true, .tmp 7, .tmp 8],(.seq (.ops [.i (.lbox 3 (.s 0)), .i (.lal 6 [.nils, .int .i64 0, .int .i64 0, .nils, .nils, .nils]), .i (.mov 7 (qi 0)), .i (.mov 8 (qi 0))]) (.seq (.ops [ql 9 3 3 5 true,qm 10 1,qm 11 2, .i (.call 13 122 false [(.s 9),(.s 10),(.s 11),(.c (.val false [.fn 123]))]), .i (.ext 13 (.s 12) 0), .i (.ext 14 (.s 12) 1), .i (.ext 15 (.s 12) 2),qs 6 6 13 6,qm 7 14,qm 8 15]) .ret))⟩
theorem Bm:cd mW=some oS:=by kernel_rfl
theorem yO (b:Bytes) (l:ah) (k:Nat) (hok:l.ok=true) (hk:k≤b.length) (hb:b.length≤1073741824):VC cd mW (aD [(true,l.c),(false,[.sl (bytes b)]),(false,[.int .i64 (k:Int)])]) (fun rs _=>rs=cu (dT b l ⟨k,0⟩).1.o EM (dT b l ⟨k,0⟩).2):=by
 refine aa Bm rfl ?_
 simp(disch:=omega) [oS,ah.c,VZ]
 have h0:=mn b l k hok hk hb
 generalize h1:dT b l ⟨k,0⟩=s1 at h0⊢
 by_cases g:s1.2.er=0
 ·simp only[cu,if_pos g,Proof.o]at h0⊢
  refine ao (h0) ?_ (ha:=by first|rfl|(simp[ah.c,VY] <;>repeat' constructor))
  simp(disch:=omega) [VZ]
 ·simp only[cu,if_neg g,EM]at h0⊢
  refine ao (h0) ?_ (ha:=by first|rfl|(simp[ah.c,VY] <;>repeat' constructor))
  simp(disch:=omega) [VZ]
abbrev gm:Nat:=126
def gp:AF:=⟨4,6,[.cell 8 5 true, .tmp 9, .tmp 10],(.seq (.ops [.i (.lbox 4 (.s 0)), .i (.lal 8 [.int .i64 0, .int .i64 0, .int .i64 0, .nils, .nils]), .i (.mov 9 (qi 0)), .i (.mov 10 (qi 0))]) (.seq (.ops [.i (.lal 11 [.int .i64 0, .int .i64 0, .int .i64 0, .nils, .nils])]) (.seq (.seq (.ops [ql 14 4 4 5 true,qk 16 95 14, .i (.not 16 (.s 15))]) (.cond (.s 16) (.seq (.ops [ql 17 11 11 5 true,qs 8 8 17 5, .i (.mov 9 (qi 0)), .i (.mov 10 (qi 5))]) .ret) .skip)) (.seq (.ops [qm 18 1,qm 19 2, .i (.bld 20 [.nils, .int .i64 0, .int .i64 0] [(0,1,(.s 18)),(1,1,(.s 19))]), .i (.hbox 21 215 (.s 20)),qm 12 21]) (.seq (.ops [qm 22 3,ql 23 4 4 5 true,qm 24 12, .i (.clv 26 false (.s 22) [(.s 23),(.s 24)]), .i (.lal 13 [.int .i64 0, .int .i64 0, .int .i64 0, .nils, .nils]),qs 13 13 25 5]) (.seq (.seq (.ops [qm 26 12, .i (.nch 27 (.s 26)),qf 28 27 2, .i (.ldh 29 (.s 28) 1 false), .i (.bin 30 .neq (.s 29) (qi 0))]) (.cond (.s 30) (.seq (.ops [ql 31 11 11 5 true,qm 32 12, .i (.nch 33 (.s 32)),qf 34 33 2, .i (.ldh 35 (.s 34) 1 false),qs 8 8 31 5, .i (.mov 9 (qi 0)),qm 10 35]) .ret) .skip)) (.seq (.ops [ql 36 13 13 5 true,qm 37 12, .i (.nch 38 (.s 37)),qf 39 38 1, .i (.ldh 40 (.s 39) 1 false),qs 8 8 36 5,qm 9 40, .i (.mov 10 (qi 0))]) .ret)))))))⟩
theorem o8:cd gm=some gp:=by kernel_rfl
theorem oZ (b:Bytes) (l:ah) (k:Nat) (hok:l.ok=true) (hk:k≤b.length) (hb:b.length≤1073741824):VC cd gm (aD [(true,l.c),(false,[.sl (bytes b)]),(false,[.int .i64 (k:Int)]),(false,[.fn ic])]) (fun rs _=>rs=cu (f8 b l ⟨k,0⟩).1.o Jx (f8 b l ⟨k,0⟩).2):=by
 have hr:Rd.wf b ⟨k,0⟩:=⟨hk,by simp⟩
 refine aa o8 rfl ?_
 simp(disch:=omega) [gp,ah.c,VZ]
 refine ao (aI l) ?_ (ha:=by first|rfl|(simp[ah.c,VY] <;>repeat' constructor))
 simp(disch:=omega) [hok,VZ]
 refine dA (zq b l ⟨k,0⟩ (fV hok) hr hb) ?_ (n1:=by simp(disch:=omega) [aY.o,VZ]) (n3:=by simp(disch:=omega) [aY.o,VZ])
 generalize h1:f8 b l ⟨k,0⟩=s1
 simp(disch:=omega) [bL,aY.o,VZ]
 by_cases g:s1.2.er=0
 ·simp(disch:=omega) [g,cu,aY.o,VZ]
 ·simp(disch:=omega) [g,cu,Jx,VZ]
abbrev pf:Nat:=44
def rk:AF:=⟨3,5,[.cell 6 5 true, .tmp 7, .tmp 8],(.seq (.ops [.i (.lbox 3 (.s 0)), .i (.lal 6 [.int .i64 0, .int .i64 0, .int .i64 0, .nils, .nils]), .i (.mov 7 (qi 0)), .i (.mov 8 (qi 0))]) (.seq (.ops [ql 9 3 3 5 true,qm 10 1,qm 11 2, .i (.call 13 126 false [(.s 9),(.s 10),(.s 11),(.c (.val false [.fn 127]))]), .i (.ext 13 (.s 12) 0), .i (.ext 14 (.s 12) 1), .i (.ext 15 (.s 12) 2),qs 6 6 13 5,qm 7 14,qm 8 15]) .ret))⟩
theorem Ed:cd pf=some rk:=by kernel_rfl
theorem Bj (b:Bytes) (l:ah) (k:Nat) (hok:l.ok=true) (hk:k≤b.length) (hb:b.length≤1073741824):VC cd pf (aD [(true,l.c),(false,[.sl (bytes b)]),(false,[.int .i64 (k:Int)])]) (fun rs _=>rs=cu (f8 b l ⟨k,0⟩).1.o Jx (f8 b l ⟨k,0⟩).2):=by
 refine aa Ed rfl ?_
 simp(disch:=omega) [rk,ah.c,VZ]
 have h0:=oZ b l k hok hk hb
 generalize h1:f8 b l ⟨k,0⟩=s1 at h0⊢
 by_cases g:s1.2.er=0
 ·simp only[cu,if_pos g,aY.o]at h0⊢
  refine ao (h0) ?_ (ha:=by first|rfl|(simp[ah.c,VY] <;>repeat' constructor))
  simp(disch:=omega) [VZ]
 ·simp only[cu,if_neg g,Jx]at h0⊢
  refine ao (h0) ?_ (ha:=by first|rfl|(simp[ah.c,VY] <;>repeat' constructor))
  simp(disch:=omega) [VZ]
end Go.Eng.F
namespace Go.Eng.F
def strs (l:List ByteArray):List (List D):=l.map fun s=> [.str s]
theorem Pw (l:List ByteArray):(strs l).length=l.length:=by simp[strs]
theorem OQ {l:List ByteArray} {i:Nat} (h:i < l.length):(strs l)[i]? =some [.str l[i]]:=by simp[strs,h]
abbrev uE:Nat:=132
def uN:AF:=⟨2,4,[.tmp 4],(.seq (.ops [.i (.mov 4 (.c (.val false [.str ByteArray.empty])))]) (.seq (.seq (.ops [qm 5 0,qm 6 1,qn 7 6, .i (.bin 8 .sub (.s 7) (qi 1)), .i (.call 10 158 false [(.s 5),(qi 0),(.s 8)]), .i (.not 10 (.s 9))]) (.cond (.s 10) (.seq (.ops [.i (.mov 4 (.c (.val false [.str ByteArray.empty])))]) .ret) .skip)) (.seq (.ops [qm 11 1,qm 12 0, .i (.iad 13 (.s 11) (.s 12) 1), .i (.ldh 14 (.s 13) 1 false),qm 4 14]) .ret)))⟩
theorem Fw:cd uE=some uN:=by kernel_rfl
theorem M4 (l:List ByteArray) (k:Nat) (hl:l.length≤1000):VC cd uE (aD [(false,[.int .i64 (k:Int)]),(false,[.sl (strs l)])]) (fun rs _=>rs= [(false,[.p (.str ((l[k]?).getD ByteArray.empty))])]):=by
 refine aa Fw rfl ?_
 simp(disch:=omega) [uN,Pw,VY]
 refine ao (aG (k:Int) 0 ((l.length:Int) - 1)) ?_
 simp(disch:=omega) [cO,VY]
 by_cases h:k < l.length
 ·have h1:(k:Int)≤(l.length:Int) - 1:=by omega
  simp(disch:=omega) [h1,OQ h,h,VY]
 ·have h1:¬(k:Int)≤(l.length:Int) - 1:=by omega
  simp(disch:=omega) [h1,h,VY]
def kinds:List ByteArray:= [ByteArray.empty,⟨#[118,111,116,101]⟩,⟨#[113,99]⟩,⟨#[104,101,97,100]⟩,⟨#[98,108,111,99,107]⟩,⟨#[116,99]⟩,⟨#[112,114,111,111,102]⟩,⟨#[105,110,99,108]⟩]
def kindName (k:Nat):ByteArray:=(kinds[k]?).getD ByteArray.empty
abbrev oC:Nat:=55
def oU:AF:=⟨1,3,[.tmp 2],(.seq (.ops [.i (.mov 2 (.c (.val false [.str ByteArray.empty])))]) (.seq (.ops [qm 3 0, .i (.bsl 4 9 1 8 [.str ByteArray.empty] [(0,1,(.c (.val false [.str ByteArray.empty]))),(1,1,(.c (.val false [.str ⟨#[118,111,116,101]⟩]))),(2,1,(.c (.val false [.str ⟨#[113,99]⟩]))),(3,1,(.c (.val false [.str ⟨#[104,101,97,100]⟩]))),(4,1,(.c (.val false [.str ⟨#[98,108,111,99,107]⟩]))),(5,1,(.c (.val false [.str ⟨#[116,99]⟩]))),(6,1,(.c (.val false [.str ⟨#[112,114,111,111,102]⟩]))),(7,1,(.c (.val false [.str ⟨#[105,110,99,108]⟩])))]), .i (.call 6 132 false [(.s 3),(.s 4)]),qm 2 5]) .ret))⟩
theorem Bi:cd oC=some oU:=by kernel_rfl
theorem Kf (k:Nat):VC cd oC (aD [(false,[.int .i64 (k:Int)])]) (fun rs _=>rs= [(false,[.p (.str (kindName k))])]):=by
 refine aa Bi rfl ?_
 simp(disch:=omega) [oU,VY]
 refine ao (M4 kinds k (by simp[kinds])) ?_
 simp(disch:=omega) [kindName,VY]
theorem rD (k:Nat):kindName k=ByteArray.empty↔k=0∨8≤k:=by
 by_cases h:8≤k
 ·have:kindName k=ByteArray.empty:=by
   unfold kindName
   rw[List.getElem?_eq_none (by simp[kinds];omega)]
   rfl
  exact⟨fun _=> .inr h,fun _=>this⟩
 ·have ne:∀s:ByteArray,s.size≠0→s≠ByteArray.empty:=fun s h1 h2=>h1 (by rw[h2];rfl)
  have hk:k=0∨k=1∨k=2∨k=3∨k=4∨k=5∨k=6∨k=7:=by omega
  rcases hk with rfl|rfl|rfl|rfl|rfl|rfl|rfl|rfl
  ·exact⟨fun _=> .inl rfl,fun _=>rfl⟩
  all_goals exact⟨fun e=>absurd e (ne _ (by decide)),fun e=>by omega⟩
end Go.Eng.F
namespace Go.Eng.F
def aJ.o (m:aJ):List E:= [.p (.int .i64 m.kind), .p (.int .i64 m.vote.view), .p (.int .i64 m.vote.height), .o true (some (5,1)) (bytes m.vote.block), .p (.int .i64 m.vote.who), .o true (some (5,1)) (bytes m.vote.tag), .p (.int .i64 m.qc.view), .p (.int .i64 m.qc.height), .o true (some (5,1)) (bytes m.qc.block), .o true (some (5,1)) (bytes m.qc.bits), .o true (some (22,1)) (bJ m.qc.tags), .p (.int .i64 m.head.view), .p (.int .i64 m.head.height), .p (.int .i64 m.head.proposer), .o true (some (5,1)) (bytes m.head.parent), .o true (some (5,1)) (bytes m.head.root), .p (.int .i64 m.head.qc.view), .p (.int .i64 m.head.qc.height), .o true (some (5,1)) (bytes m.head.qc.block), .o true (some (5,1)) (bytes m.head.qc.bits), .o true (some (22,1)) (bJ m.head.qc.tags), .p (.int .i64 m.block.head.view), .p (.int .i64 m.block.head.height), .p (.int .i64 m.block.head.proposer), .o true (some (5,1)) (bytes m.block.head.parent), .o true (some (5,1)) (bytes m.block.head.root), .p (.int .i64 m.block.head.qc.view), .p (.int .i64 m.block.head.qc.height), .o true (some (5,1)) (bytes m.block.head.qc.block), .o true (some (5,1)) (bytes m.block.head.qc.bits), .o true (some (22,1)) (bJ m.block.head.qc.tags), .o true (some (22,1)) (bJ m.block.txs), .p (.int .i64 m.tc.view), .o true (some (165,3)) (iw m.tc.entries), .o true (some (45,10)) (eK m.proof.heads), .p (.int .i64 m.proof.qc.view), .p (.int .i64 m.proof.qc.height), .o true (some (5,1)) (bytes m.proof.qc.block), .o true (some (5,1)) (bytes m.proof.qc.bits), .o true (some (22,1)) (bJ m.proof.qc.tags), .p (.int .i64 m.incl.height), .p (.int .i64 m.incl.n), .p (.int .i64 m.incl.idx), .o true (some (5,1)) (bytes m.incl.tx), .o true (some (22,1)) (bJ m.incl.path)]
def fh (b:Bytes) (m:aJ) (r:Rd):aJ×Nat:=if r.er≠0 then(av,r.er)else if r.at_≠b.length then(av,9)else(m,0)
def lP (l:ah) (b:Bytes):Nat→aJ×Nat
 |1=>fh b {av with kind:=1,vote:=(gW b l ⟨1,0⟩).1} (gW b l ⟨1,0⟩).2
 |2=>fh b {av with kind:=2,qc:=(wG b l ⟨1,0⟩).1} (wG b l ⟨1,0⟩).2
 |3=>fh b {av with kind:=3,head:=(dr b l ⟨1,0⟩).1} (dr b l ⟨1,0⟩).2
 |4=>fh b {av with kind:=4,block:=(dZ b l ⟨1,0⟩).1} (dZ b l ⟨1,0⟩).2
 |5=>fh b {av with kind:=5,tc:=(Hr b l ⟨1,0⟩).1} (Hr b l ⟨1,0⟩).2
 |6=>fh b {av with kind:=6,proof:=(dT b l ⟨1,0⟩).1} (dT b l ⟨1,0⟩).2
 |7=>fh b {av with kind:=7,incl:=(f8 b l ⟨1,0⟩).1} (f8 b l ⟨1,0⟩).2
 |_=>(av,8)
def dec (l:ah) (b:Bytes):aJ×Nat:=if l.ok=true then(match b[0]? with|none=>(av,1)|some c=>lP l b c.toNat)else(av,5)
theorem MD {l:ah} {b:Bytes} {k:Nat} (h:k=0∨8≤k):lP l b k=(av,8):=by
 unfold lP
 split <;>first|omega|rfl
theorem MT {l:ah} {b:Bytes} (h:¬l.ok=true):dec l b=(av,5):=by simp[dec,h]
theorem Gl {l:ah} {b:Bytes} (h:l.ok=true) (hc:¬0 < b.length):dec l b=(av,1):=by
 have:b[0]? =none:=List.getElem?_eq_none (by omega)
 simp[dec,h,this]
theorem RA {l:ah} {b:Bytes} (h:l.ok=true) (hc:0 < b.length):dec l b=lP l b b[0].toNat:=by
 have:b[0]? =some b[0]:=List.getElem?_eq_getElem hc
 simp[dec,h,this]
def gZ (x:aJ×Nat):List (Bool×List E):= [(true,x.1.o),(false,[.p (.int .i64 (x.2:Int))])]
theorem bk:bJ []= []:=rfl
theorem bm:iw []= []:=rfl
theorem bo:eK []= []:=rfl
abbrev uS:Nat:=53
def vc:AF:=⟨2,7,[.cell 4 45 true, .tmp 5],(.seq (.ops [.i (.lbox 2 (.s 0)), .i (.lal 4 [.int .i64 0, .int .i64 0, .int .i64 0, .nils, .int .i64 0, .nils, .int .i64 0, .int .i64 0, .nils, .nils, .nils, .int .i64 0, .int .i64 0, .int .i64 0, .nils, .nils, .int .i64 0, .int .i64 0, .nils, .nils, .nils, .int .i64 0, .int .i64 0, .int .i64 0, .nils, .nils, .int .i64 0, .int .i64 0, .nils, .nils, .nils, .nils, .int .i64 0, .nils, .nils, .int .i64 0, .int .i64 0, .nils, .nils, .nils, .int .i64 0, .int .i64 0, .int .i64 0, .nils, .nils]), .i (.mov 5 (qi 0))]) (.seq (.block 0 (.seq (.ops [ql 10 2 2 5 true,qk 12 95 10, .i (.not 12 (.s 11)),qm 9 12]) (.cond (.s 9) (.seq (.ops [.i (.bld 13 [.int .i64 0, .int .i64 0, .int .i64 0, .nils, .int .i64 0, .nils, .int .i64 0, .int .i64 0, .nils, .nils, .nils, .int .i64 0, .int .i64 0, .int .i64 0, .nils, .nils, .int .i64 0, .int .i64 0, .nils, .nils, .nils, .int .i64 0, .int .i64 0, .int .i64 0, .nils, .nils, .int .i64 0, .int .i64 0, .nils, .nils, .nils, .nils, .int .i64 0, .nils, .nils, .int .i64 0, .int .i64 0, .nils, .nils, .nils, .int .i64 0, .int .i64 0, .int .i64 0, .nils, .nils] []),qs 4 4 13 45, .i (.mov 5 (qi 5))]) .ret) (.seq (.ops [qm 15 1,qn 16 15, .i (.bin 17 .eql (.s 16) (qi 0)),qm 14 17]) (.cond (.s 14) (.seq (.ops [.i (.bld 18 [.int .i64 0, .int .i64 0, .int .i64 0, .nils, .int .i64 0, .nils, .int .i64 0, .int .i64 0, .nils, .nils, .nils, .int .i64 0, .int .i64 0, .int .i64 0, .nils, .nils, .int .i64 0, .int .i64 0, .nils, .nils, .nils, .int .i64 0, .int .i64 0, .int .i64 0, .nils, .nils, .int .i64 0, .int .i64 0, .nils, .nils, .nils, .nils, .int .i64 0, .nils, .nils, .int .i64 0, .int .i64 0, .nils, .nils, .nils, .int .i64 0, .int .i64 0, .int .i64 0, .nils, .nils] []),qs 4 4 18 45, .i (.mov 5 (qi 1))]) .ret) (.seq (.ops [qm 20 1, .i (.iad 21 (.s 20) (qi 0) 1), .i (.ldh 22 (.s 21) 1 false), .i (.cvi 23 .i64 (.s 22)),qk 25 55 23, .i (.bin 25 .eql (.s 24) (.c (.val false [.str ByteArray.empty]))),qm 19 25]) (.cond (.s 19) (.seq (.ops [.i (.bld 26 [.int .i64 0, .int .i64 0, .int .i64 0, .nils, .int .i64 0, .nils, .int .i64 0, .int .i64 0, .nils, .nils, .nils, .int .i64 0, .int .i64 0, .int .i64 0, .nils, .nils, .int .i64 0, .int .i64 0, .nils, .nils, .nils, .int .i64 0, .int .i64 0, .int .i64 0, .nils, .nils, .int .i64 0, .int .i64 0, .nils, .nils, .nils, .nils, .int .i64 0, .nils, .nils, .int .i64 0, .int .i64 0, .nils, .nils, .nils, .int .i64 0, .int .i64 0, .int .i64 0, .nils, .nils] []),qs 4 4 26 45, .i (.mov 5 (qi 8))]) .ret) .skip))))))) (.seq (.ops [qm 27 1, .i (.iad 28 (.s 27) (qi 0) 1), .i (.ldh 29 (.s 28) 1 false), .i (.cvi 30 .i64 (.s 29)), .i (.bld 31 [.int .i64 0, .int .i64 0, .int .i64 0, .nils, .int .i64 0, .nils, .int .i64 0, .int .i64 0, .nils, .nils, .nils, .int .i64 0, .int .i64 0, .int .i64 0, .nils, .nils, .int .i64 0, .int .i64 0, .nils, .nils, .nils, .int .i64 0, .int .i64 0, .int .i64 0, .nils, .nils, .int .i64 0, .int .i64 0, .nils, .nils, .nils, .nils, .int .i64 0, .nils, .nils, .int .i64 0, .int .i64 0, .nils, .nils, .nils, .int .i64 0, .int .i64 0, .int .i64 0, .nils, .nils] [(0,1,(.s 30))]), .i (.lal 6 [.int .i64 0, .int .i64 0, .int .i64 0, .nils, .int .i64 0, .nils, .int .i64 0, .int .i64 0, .nils, .nils, .nils, .int .i64 0, .int .i64 0, .int .i64 0, .nils, .nils, .int .i64 0, .int .i64 0, .nils, .nils, .nils, .int .i64 0, .int .i64 0, .int .i64 0, .nils, .nils, .int .i64 0, .int .i64 0, .nils, .nils, .nils, .nils, .int .i64 0, .nils, .nils, .int .i64 0, .int .i64 0, .nils, .nils, .nils, .int .i64 0, .int .i64 0, .int .i64 0, .nils, .nils]),qs 6 6 31 45, .i (.mov 7 (qi 0)), .i (.mov 8 (qi 0))]) (.seq (.seq (.ops [qf 32 6 0,ql 33 6 32 1 false]) (.block 1 (.seq (.ops [.i (.bin 43 .eql (.s 33) (qi 1)),qm 42 43]) (.cond (.s 42) (.ops [ql 45 2 2 5 true,qm 46 1, .i (.call 48 25 false [(.s 45),(.s 46),(qi 1)]),qm 44 47, .i (.ext 48 (.s 44) 0), .i (.ext 49 (.s 44) 1), .i (.ext 50 (.s 44) 2),qf 51 6 1,qs 6 51 48 5,qm 7 49,qm 8 50]) (.seq (.ops [.i (.bin 53 .eql (.s 33) (qi 2)),qm 52 53]) (.cond (.s 52) (.ops [ql 55 2 2 5 true,qm 56 1, .i (.call 58 28 false [(.s 55),(.s 56),(qi 1)]),qm 54 57, .i (.ext 58 (.s 54) 0), .i (.ext 59 (.s 54) 1), .i (.ext 60 (.s 54) 2),qf 61 6 6,qs 6 61 58 5,qm 7 59,qm 8 60]) (.seq (.ops [.i (.bin 63 .eql (.s 33) (qi 3)),qm 62 63]) (.cond (.s 62) (.ops [ql 65 2 2 5 true,qm 66 1, .i (.call 68 31 false [(.s 65),(.s 66),(qi 1)]),qm 64 67, .i (.ext 68 (.s 64) 0), .i (.ext 69 (.s 64) 1), .i (.ext 70 (.s 64) 2),qf 71 6 11,qs 6 71 68 10,qm 7 69,qm 8 70]) (.seq (.ops [.i (.bin 73 .eql (.s 33) (qi 4)),qm 72 73]) (.cond (.s 72) (.ops [ql 75 2 2 5 true,qm 76 1, .i (.call 78 35 false [(.s 75),(.s 76),(qi 1)]),qm 74 77, .i (.ext 78 (.s 74) 0), .i (.ext 79 (.s 74) 1), .i (.ext 80 (.s 74) 2),qf 81 6 21,qs 6 81 78 11,qm 7 79,qm 8 80]) (.seq (.ops [.i (.bin 83 .eql (.s 33) (qi 5)),qm 82 83]) (.cond (.s 82) (.ops [ql 85 2 2 5 true,qm 86 1, .i (.call 88 38 false [(.s 85),(.s 86),(qi 1)]),qm 84 87, .i (.ext 88 (.s 84) 0), .i (.ext 89 (.s 84) 1), .i (.ext 90 (.s 84) 2),qf 91 6 32,qs 6 91 88 2,qm 7 89,qm 8 90]) (.seq (.ops [.i (.bin 93 .eql (.s 33) (qi 6)),qm 92 93]) (.cond (.s 92) (.ops [ql 95 2 2 5 true,qm 96 1, .i (.call 98 41 false [(.s 95),(.s 96),(qi 1)]),qm 94 97, .i (.ext 98 (.s 94) 0), .i (.ext 99 (.s 94) 1), .i (.ext 100 (.s 94) 2),qf 101 6 34,qs 6 101 98 6,qm 7 99,qm 8 100]) (.ops [ql 35 2 2 5 true,qm 36 1, .i (.call 38 44 false [(.s 35),(.s 36),(qi 1)]),qm 34 37, .i (.ext 38 (.s 34) 0), .i (.ext 39 (.s 34) 1), .i (.ext 40 (.s 34) 2),qf 41 6 40,qs 6 41 38 5,qm 7 39,qm 8 40]))))))))))))))) (.seq (.seq (.ops [qm 102 8, .i (.bin 103 .eql (.s 102) (qi 0)),qm 104 103, .g 104 true 106 (.mov 105 (.s 7)), .g 104 true 107 (.mov 106 (.s 1)), .g 104 true 108 (.len 107 false (.s 106)), .g 104 true 109 (.bin 108 .neq (.s 105) (.s 107)), .i (.pick 109 (.s 104) (.s 108) (qb false))]) (.cond (.s 109) (.ops [.i (.mov 8 (qi 9))]) .skip)) (.seq (.seq (.ops [qm 110 8, .i (.bin 111 .neq (.s 110) (qi 0))]) (.cond (.s 111) (.seq (.ops [.i (.bld 112 [.int .i64 0, .int .i64 0, .int .i64 0, .nils, .int .i64 0, .nils, .int .i64 0, .int .i64 0, .nils, .nils, .nils, .int .i64 0, .int .i64 0, .int .i64 0, .nils, .nils, .int .i64 0, .int .i64 0, .nils, .nils, .nils, .int .i64 0, .int .i64 0, .int .i64 0, .nils, .nils, .int .i64 0, .int .i64 0, .nils, .nils, .nils, .nils, .int .i64 0, .nils, .nils, .int .i64 0, .int .i64 0, .nils, .nils, .nils, .int .i64 0, .int .i64 0, .int .i64 0, .nils, .nils] []),qm 113 8,qs 4 4 112 45,qm 5 113]) .ret) .skip)) (.seq (.ops [ql 114 6 6 45 true,qs 4 4 114 45, .i (.mov 5 (qi 0))]) .ret)))))))⟩
theorem FI:cd uS=some vc:=by kernel_rfl
theorem Dd (b:Bytes) (l:ah) (hb:b.length≤1073741824):VC cd uS (aD [(true,l.c),(false,[.sl (bytes b)])]) (fun rs _=>rs=gZ (dec l b)):=by
 refine VC.pq ?_
 refine aa FI rfl ?_
 simp(disch:=omega) [vc,ah.c,VZ]
 refine ao (aI l) ?_ (ha:=by first|rfl|(simp[ah.c,VY] <;>repeat' constructor))
 simp(disch:=omega) [VZ]
 by_cases hok:l.ok=true
 case neg=>rw[MT hok];simp(disch:=omega) [hok,gZ,aJ.o,av,bD,fy,aZ,aH,hU,aK,bA,aW,bc,bn,ag,bk,bm,bo,VZ]
 by_cases he:b= []
 case pos=>rw[Gl hok (by simp[he])];simp(disch:=omega) [hok,he,gZ,aJ.o,av,bD,fy,aZ,aH,hU,aK,bA,aW,bc,bn,ag,bk,bm,bo,VZ]
 have hc:0 < b.length:=List.length_pos_iff.2 he
 have h256:b[0].toNat < 256:=UInt8.toNat_lt _
 rw[RA hok hc]
 simp(disch:=omega) [hok,he,hc,bH hc,VZ]
 refine ao (Kf b[0].toNat) ?_
 by_cases hz:b[0].toNat=0∨8≤b[0].toNat
 case pos=>
  have hz2:=(rD _).2 hz
  rw[MD hz]
  simp(disch:=omega) [hz2,gZ,aJ.o,av,bD,fy,aZ,aH,hU,aK,bA,aW,bc,bn,ag,bk,bm,bo,VZ]
 have hz2:¬kindName b[0].toNat=ByteArray.empty:=fun e=>hz ((rD _).1 e)
 have hk:b[0].toNat=1∨b[0].toNat=2∨b[0].toNat=3∨b[0].toNat=4∨b[0].toNat=5∨b[0].toNat=6∨b[0].toNat=7:=by omega
 simp(disch:=omega) [hz2,hc,bH hc,VZ]
 generalize b[0].toNat=k at hk⊢
 clear hz hz2
 rcases hk with rfl|rfl|rfl|rfl|rfl|rfl|rfl
 ·simp only[lP]
  have h0:=AJ b l 1 hok (by omega) hb
  generalize h1:gW b l ⟨1,0⟩=s1 at h0⊢
  by_cases g:s1.2.er=0
  ·simp only[cu,if_pos g,bp.o]at h0
   simp(disch:=omega) [VZ]
   refine ao (h0) ?_ (ha:=by first|rfl|(simp[ah.c,VY] <;>repeat' constructor))
   simp(disch:=omega) [VZ]
   by_cases g2:s1.2.at_=b.length
   ·simp(disch:=omega) [g2,fh,g,gZ,aJ.o,av,bD,fy,aZ,aH,hU,aK,bA,aW,bc,bn,ag,bk,bm,bo,VZ]
   ·have g3:¬(s1.2.at_:Int)=(b.length:Int):=by omega
    simp(disch:=omega) [g2,g3,fh,g,gZ,aJ.o,av,bD,fy,aZ,aH,hU,aK,bA,aW,bc,bn,ag,bk,bm,bo,VZ]
  ·simp only[cu,if_neg g,J1]at h0
   simp(disch:=omega) [VZ]
   refine ao (h0) ?_ (ha:=by first|rfl|(simp[ah.c,VY] <;>repeat' constructor))
   simp(disch:=omega) [g,fh,gZ,aJ.o,av,bD,fy,aZ,aH,hU,aK,bA,aW,bc,bn,ag,bk,bm,bo,VZ]
 ·simp only[lP]
  have h0:=FM b l 1 hok (by omega) hb
  generalize h1:wG b l ⟨1,0⟩=s1 at h0⊢
  by_cases g:s1.2.er=0
  ·simp only[cu,if_pos g,Qc.o]at h0
   simp(disch:=omega) [VZ]
   refine ao (h0) ?_ (ha:=by first|rfl|(simp[ah.c,VY] <;>repeat' constructor))
   simp(disch:=omega) [VZ]
   by_cases g2:s1.2.at_=b.length
   ·simp(disch:=omega) [g2,fh,g,gZ,aJ.o,av,bD,fy,aZ,aH,hU,aK,bA,aW,bc,bn,ag,bk,bm,bo,VZ]
   ·have g3:¬(s1.2.at_:Int)=(b.length:Int):=by omega
    simp(disch:=omega) [g2,g3,fh,g,gZ,aJ.o,av,bD,fy,aZ,aH,hU,aK,bA,aW,bc,bn,ag,bk,bm,bo,VZ]
  ·simp only[cu,if_neg g,TL]at h0
   simp(disch:=omega) [VZ]
   refine ao (h0) ?_ (ha:=by first|rfl|(simp[ah.c,VY] <;>repeat' constructor))
   simp(disch:=omega) [g,fh,gZ,aJ.o,av,bD,fy,aZ,aH,hU,aK,bA,aW,bc,bn,ag,bk,bm,bo,VZ]
 ·simp only[lP]
  have h0:=BB b l 1 hok (by omega) hb
  generalize h1:dr b l ⟨1,0⟩=s1 at h0⊢
  by_cases g:s1.2.er=0
  ·simp only[cu,if_pos g,Head.o]at h0
   simp(disch:=omega) [VZ]
   refine ao (h0) ?_ (ha:=by first|rfl|(simp[ah.c,VY] <;>repeat' constructor))
   simp(disch:=omega) [VZ]
   by_cases g2:s1.2.at_=b.length
   ·simp(disch:=omega) [g2,fh,g,gZ,aJ.o,av,bD,fy,aZ,aH,hU,aK,bA,aW,bc,bn,ag,bk,bm,bo,VZ]
   ·have g3:¬(s1.2.at_:Int)=(b.length:Int):=by omega
    simp(disch:=omega) [g2,g3,fh,g,gZ,aJ.o,av,bD,fy,aZ,aH,hU,aK,bA,aW,bc,bn,ag,bk,bm,bo,VZ]
  ·simp only[cu,if_neg g,Jd]at h0
   simp(disch:=omega) [VZ]
   refine ao (h0) ?_ (ha:=by first|rfl|(simp[ah.c,VY] <;>repeat' constructor))
   simp(disch:=omega) [g,fh,gZ,aJ.o,av,bD,fy,aZ,aH,hU,aK,bA,aW,bc,bn,ag,bk,bm,bo,VZ]
 ·simp only[lP]
  have h0:=yU b l 1 hok (by omega) hb
  generalize h1:dZ b l ⟨1,0⟩=s1 at h0⊢
  by_cases g:s1.2.er=0
  ·simp only[cu,if_pos g,Block.o]at h0
   simp(disch:=omega) [VZ]
   refine ao (h0) ?_ (ha:=by first|rfl|(simp[ah.c,VY] <;>repeat' constructor))
   simp(disch:=omega) [VZ]
   by_cases g2:s1.2.at_=b.length
   ·simp(disch:=omega) [g2,fh,g,gZ,aJ.o,av,bD,fy,aZ,aH,hU,aK,bA,aW,bc,bn,ag,bk,bm,bo,VZ]
   ·have g3:¬(s1.2.at_:Int)=(b.length:Int):=by omega
    simp(disch:=omega) [g2,g3,fh,g,gZ,aJ.o,av,bD,fy,aZ,aH,hU,aK,bA,aW,bc,bn,ag,bk,bm,bo,VZ]
  ·simp only[cu,if_neg g,Ew]at h0
   simp(disch:=omega) [VZ]
   refine ao (h0) ?_ (ha:=by first|rfl|(simp[ah.c,VY] <;>repeat' constructor))
   simp(disch:=omega) [g,fh,gZ,aJ.o,av,bD,fy,aZ,aH,hU,aK,bA,aW,bc,bn,ag,bk,bm,bo,VZ]
 ·simp only[lP]
  have h0:=Fg b l 1 hok (by omega) hb
  generalize h1:Hr b l ⟨1,0⟩=s1 at h0⊢
  by_cases g:s1.2.er=0
  ·simp only[cu,if_pos g,Tc.o]at h0
   simp(disch:=omega) [VZ]
   refine ao (h0) ?_ (ha:=by first|rfl|(simp[ah.c,VY] <;>repeat' constructor))
   simp(disch:=omega) [VZ]
   by_cases g2:s1.2.at_=b.length
   ·simp(disch:=omega) [g2,fh,g,gZ,aJ.o,av,bD,fy,aZ,aH,hU,aK,bA,aW,bc,bn,ag,bk,bm,bo,VZ]
   ·have g3:¬(s1.2.at_:Int)=(b.length:Int):=by omega
    simp(disch:=omega) [g2,g3,fh,g,gZ,aJ.o,av,bD,fy,aZ,aH,hU,aK,bA,aW,bc,bn,ag,bk,bm,bo,VZ]
  ·simp only[cu,if_neg g,TN]at h0
   simp(disch:=omega) [VZ]
   refine ao (h0) ?_ (ha:=by first|rfl|(simp[ah.c,VY] <;>repeat' constructor))
   simp(disch:=omega) [g,fh,gZ,aJ.o,av,bD,fy,aZ,aH,hU,aK,bA,aW,bc,bn,ag,bk,bm,bo,VZ]
 ·simp only[lP]
  have h0:=yO b l 1 hok (by omega) hb
  generalize h1:dT b l ⟨1,0⟩=s1 at h0⊢
  by_cases g:s1.2.er=0
  ·simp only[cu,if_pos g,Proof.o]at h0
   simp(disch:=omega) [VZ]
   refine ao (h0) ?_ (ha:=by first|rfl|(simp[ah.c,VY] <;>repeat' constructor))
   simp(disch:=omega) [VZ]
   by_cases g2:s1.2.at_=b.length
   ·simp(disch:=omega) [g2,fh,g,gZ,aJ.o,av,bD,fy,aZ,aH,hU,aK,bA,aW,bc,bn,ag,bk,bm,bo,VZ]
   ·have g3:¬(s1.2.at_:Int)=(b.length:Int):=by omega
    simp(disch:=omega) [g2,g3,fh,g,gZ,aJ.o,av,bD,fy,aZ,aH,hU,aK,bA,aW,bc,bn,ag,bk,bm,bo,VZ]
  ·simp only[cu,if_neg g,EM]at h0
   simp(disch:=omega) [VZ]
   refine ao (h0) ?_ (ha:=by first|rfl|(simp[ah.c,VY] <;>repeat' constructor))
   simp(disch:=omega) [g,fh,gZ,aJ.o,av,bD,fy,aZ,aH,hU,aK,bA,aW,bc,bn,ag,bk,bm,bo,VZ]
 ·simp only[lP]
  have h0:=Bj b l 1 hok (by omega) hb
  generalize h1:f8 b l ⟨1,0⟩=s1 at h0⊢
  by_cases g:s1.2.er=0
  ·simp only[cu,if_pos g,aY.o]at h0
   simp(disch:=omega) [VZ]
   refine ao (h0) ?_ (ha:=by first|rfl|(simp[ah.c,VY] <;>repeat' constructor))
   simp(disch:=omega) [VZ]
   by_cases g2:s1.2.at_=b.length
   ·simp(disch:=omega) [g2,fh,g,gZ,aJ.o,av,bD,fy,aZ,aH,hU,aK,bA,aW,bc,bn,ag,bk,bm,bo,VZ]
   ·have g3:¬(s1.2.at_:Int)=(b.length:Int):=by omega
    simp(disch:=omega) [g2,g3,fh,g,gZ,aJ.o,av,bD,fy,aZ,aH,hU,aK,bA,aW,bc,bn,ag,bk,bm,bo,VZ]
  ·simp only[cu,if_neg g,Jx]at h0
   simp(disch:=omega) [VZ]
   refine ao (h0) ?_ (ha:=by first|rfl|(simp[ah.c,VY] <;>repeat' constructor))
   simp(disch:=omega) [g,fh,gZ,aJ.o,av,bD,fy,aZ,aH,hU,aK,bA,aW,bc,bn,ag,bk,bm,bo,VZ]
end Go.Eng.F
namespace Go.Eng.F
theorem KV.wc {q:Qc} (h:KV q):q.wc:=by
 have h1:=c8 h.view
 have h2:=c8 h.height
 have h3:=h.block
 have h4:=h.bits
 have h5:=h.tags
 refine⟨⟨⟨by omega,by omega⟩,⟨by omega,by omega⟩,?_,?_,?_⟩,fun x hx=> ?_⟩ <;>unfold Sz
 ·omega
 ·omega
 ·omega
 ·have:=h.tag x hx;omega
theorem j9 (l:ah) (h:Head) (hw:h.wf):VC cd hX (aD [(true,l.c),(true,h.c)]) (fun rs _=>rs= [(false,[.o true (some (5,1)) (bytes (nY l h))])]):=
 (zI l h hw).own fun rs ps q=>by
   rw[q,Ix,nY]
   by_cases h0:bx l h=true
   ·rw[if_pos h0,if_pos h0]
    exact⟨_,by simp[aW,bc,bn],rfl⟩
   ·rw[if_neg h0,if_neg h0]
    exact⟨_,by simp[aW,bc,bn,ag],rfl⟩
theorem GO (l:ah) (h:Head):(nY l h).length≤32:=by
 unfold nY
 split
 ·rw[BV];omega
 ·simp
abbrev td:Nat:=187
def sn:AF:=⟨2,6,[.cell 4 10 true],(.seq (.ops [.i (.lbox 3 (.s 1)), .i (.lal 4 qz)]) (.seq (.ops [qm 6 0, .i (.call 8 97 false [(.s 6),(qi 200)]), .i (.bin 8 .add (qi 2) (.s 7)),qm 9 0, .i (.call 11 97 false [(.s 9),(qi 200)]), .i (.bin 11 .add (qi 1) (.s 10)),qm 12 0,qf 13 3 0,ql 14 3 13 1 false, .i (.call 16 97 false [(.s 12),(.s 14)]),qm 16 0,qk 18 242 16,qm 18 0,qk 20 242 18,qm 20 0,ql 21 3 3 5 true, .i (.call 23 185 false [(.s 20),(.s 21)]), .i (.bld 23 qz [(0,1,(.s 8)),(1,1,(.s 11)),(2,1,(.s 15)),(3,1,(.s 17)),(4,1,(.s 19)),(5,5,(.s 22))]), .i (.lal 5 qz),qs 5 5 23 10]) (.seq (.ops [qm 24 0,qf 25 5 0,ql 26 5 25 1 false, .i (.call 28 97 false [(.s 24),(.s 26)]),qf 28 5 5,qf 29 28 0,qs 5 29 27 1]) (.seq (.ops [qf 30 5 1,ql 31 5 30 1 false, .i (.bin 32 .sub (.s 31) (qi 1)),qf 33 5 5,qf 34 33 1,qs 5 34 32 1]) (.seq (.ops [qf 35 5 3,ql 36 5 35 1 false,qk 38 143 36,qf 38 5 5,qf 39 38 2,qs 5 39 37 1]) (.seq (.ops [ql 40 5 5 10 true,qs 4 4 40 10]) .ret))))))⟩
theorem Ee:cd td=some sn:=by kernel_rfl
theorem mc (b:Bytes) (i:Nat) (h:Int) (l:ah) (hl:1≤l.n∧l.n≤10) (hi:i≤b.length) (hb:b.length≤1073741824):VC cd td (iO [] 133 (cur b i h) [(true,l.c)]) (fun r p=>∃x:Head×Nat×Int,(x.1.wc∧x.2.1≤b.length)∧r= [(true,x.1.o)]∧p= [.pt 133 (cur b x.2.1 x.2.2)]):=by
 obtain⟨m,hm⟩:∃m:Nat,l.n=(m:Int):=⟨l.n.toNat,by omega⟩
 refine ax Ee rfl ?_
 simp(disch:=omega) [sn,cur,ah.c,VZ]
 refine de (aw b i h 200 (by omega) hi hb) ?_
 rintro⟨k1,i1,h1⟩ ⟨g1,j1⟩
 simp only at g1 j1
 simp(disch:=omega) [cur,VZ]
 refine de (aw b i1 h1 200 (by omega) j1 hb) ?_
 rintro⟨k2,i2,h2⟩ ⟨g2,j2⟩
 simp only at g2 j2
 simp(disch:=omega) [cur,hm,VZ]
 refine de (aw b i2 h2 m (by omega) j2 hb) ?_
 rintro⟨k3,i3,h3⟩ ⟨g3,j3⟩
 simp only at g3 j3
 simp(disch:=omega) [cur,VZ]
 refine de (dg b i3 h3 j3 hb) ?_
 rintro⟨x4,i4,h4⟩ ⟨g4,j4⟩
 simp only at g4 j4
 simp(disch:=omega) [cur,VZ]
 refine de (dg b i4 h4 j4 hb) ?_
 rintro⟨x5,i5,h5⟩ ⟨g5,j5⟩
 simp only at g5 j5
 simp(disch:=omega) [cur,VZ]
 refine de (wk b i5 h5 ⟨(m:Int),l.tx,l.txs,l.frame,l.heads⟩ (by simp only;omega) j5 hb) ?_ (n1:=by intro _;simp(disch:=omega) [ah.c,Qc.o,hm,VZ]) (n3:=by intro _;simp(disch:=omega) [ah.c,Qc.o,hm,VZ])
 rintro⟨q6,i6,h6⟩ ⟨g6,j6⟩
 simp only at g6 j6
 obtain⟨⟨_,_,w3,w4,w5⟩,w6⟩:=g6.wc
 simp(disch:=omega) [cur,Qc.o,VZ]
 refine de (aw b i6 h6 (2+k1) (by omega) j6 hb) ?_
 rintro⟨k7,i7,h7⟩ ⟨g7,j7⟩
 simp only at g7 j7
 simp(disch:=omega) [cur,VZ]
 refine ao (bV x4 (by omega)) ?_
 simp(disch:=omega) [cur,VZ]
 refine⟨⟨2+k1,1+k2,k3,x4,x5,⟨k7,k2,x4,q6.bits,q6.tags⟩⟩,i7,⟨?_,j7⟩,?_,rfl⟩
 ·refine⟨⟨⟨by simp only;omega,by simp only;omega⟩,⟨by simp only;omega,by simp only;omega⟩,⟨by simp only;omega,by simp only;omega⟩,?_,?_,⟨⟨by simp only;omega,by simp only;omega⟩,⟨by simp only;omega,by simp only;omega⟩,?_,w4,w5⟩⟩,w6⟩
  ·unfold Sz;simp only;omega
  ·unfold Sz;simp only;omega
  ·unfold Sz;simp only;omega
 ·have e1:(1+(k2:Int) - 1)=k2:=by omega
  rw[e1]
  rfl
abbrev nU:Nat:=273
def oN:AF:=⟨3,6,[.tmp 6],(.seq (.ops [.i (.lbox 4 (.s 1)), .i (.mov 6 (.c (.val false [.nils])))]) (.seq (.ops [qm 10 0,ql 11 4 4 5 true, .i (.call 13 187 false [(.s 10),(.s 11)]), .i (.bsl 13 45 10 1 qz [(0,10,(.s 12))]),qm 7 13]) (.seq (.block 0 (.loop [59,58,57,56,55,54,53,52,51,50,49,48,47,46,45,44,43,42,41,40,39,38,37,36,35,34,33,32,31,30,29,28,27,26,25,24,23,22,21,20,19,18,17,16,15,14,9,8] (.seq (.seq (.ops [qm 14 7,qn 15 14,qm 16 2,qd 17 .lss 15 16]) (.cond (.s 17) .skip (.exit 0))) (.block 1 (.seq (.ops [qm 18 7,qm 19 7,qn 20 19, .i (.bin 21 .sub (.s 20) (qi 1)), .i (.iad 22 (.s 18) (.s 21) 10), .i (.ldh 23 (.s 22) 10 true), .i (.lal 8 qz),qs 8 8 23 10]) (.seq (.ops [qm 24 0,ql 25 4 4 5 true, .i (.call 27 187 false [(.s 24),(.s 25)]), .i (.lal 9 qz),qs 9 9 26 10]) (.seq (.ops [qf 27 8 0,ql 28 8 27 1 false, .i (.bin 29 .add (.s 28) (qi 1)),qm 30 0, .i (.call 32 97 false [(.s 30),(qi 6)]), .i (.bin 32 .quo (.s 31) (qi 5)),qd 33 .add 29 32,qf 34 9 0,qs 9 34 33 1]) (.seq (.ops [qf 35 8 1,ql 36 8 35 1 false, .i (.bin 37 .add (.s 36) (qi 1)),qf 38 9 1,qs 9 38 37 1]) (.seq (.ops [ql 39 4 4 5 true,ql 40 8 8 10 true, .i (.call 42 274 false [(.s 39),(.s 40)]),qf 42 9 3,qs 9 42 41 1]) (.seq (.ops [qf 43 8 0,ql 44 8 43 1 false,qf 45 9 5,qf 46 45 0,qs 9 46 44 1]) (.seq (.ops [qf 47 8 1,ql 48 8 47 1 false,qf 49 9 5,qf 50 49 1,qs 9 50 48 1]) (.seq (.ops [qf 51 9 3,ql 52 9 51 1 false,qk 54 143 52,qf 54 9 5,qf 55 54 2,qs 9 55 53 1]) (.ops [qm 56 7,ql 57 9 9 10 true, .i (.lsl 58 10 1 qz [(0,10,(.s 57))]), .i (.app 59 45 10 160 (.s 56) (.s 58)),qm 7 59]))))))))))))) (.seq (.ops [qm 60 7,qm 6 60]) .ret))))⟩
theorem A9:cd nU=some oN:=by kernel_rfl
theorem JF (b:Bytes) (i:Nat) (h:Int) (l:ah) (n:Nat) (hl:1≤l.n∧l.n≤10) (hn:1≤n∧n≤10) (hi:i≤b.length) (hb:b.length≤1073741824):VC cd nU (iO [] 133 (cur b i h) [(true,l.c),(false,[.int .i64 (n:Int)])]) (fun r p=>∃x:List Head×Nat×Int,((x.1.length=n∧∀y∈x.1,y.wc)∧x.2.1≤b.length)∧r= [(false,[.o true (some (45,10)) (eK x.1)])]∧p= [.pt 133 (cur b x.2.1 x.2.2)]):=by
 refine ax A9 rfl ?_
 simp(disch:=omega) [oN,cur,ah.c,VZ]
 refine de (mc b i h l hl hi hb) ?_ (n1:=by intro _;simp(disch:=omega) [ah.c,Head.o,VZ]) (n3:=by intro _;simp(disch:=omega) [ah.c,Head.o,VZ])
 rintro⟨x1,i1,h1⟩ ⟨g1,j1⟩
 simp only at g1 j1
 simp(disch:=omega) [cur,Head.o,ah.c,VZ]
 have e0: [[D.int .i64 x1.view, .int .i64 x1.height, .int .i64 x1.proposer, .sl (bytes x1.parent), .sl (bytes x1.root), .int .i64 x1.qc.view, .int .i64 x1.qc.height, .sl (bytes x1.qc.block), .sl (bytes x1.qc.bits), .sl (bJ x1.qc.tags)]]=eK [x1]:=rfl
 rw[e0]
 refine bF (σ:=Nat×Nat×Int×List Head) (f1:=_) (es0:=_) (by simp(disch:=omega) [VZ];rfl) (by simp(disch:=omega) [VZ];rfl) (fun p=> [(7, .val false [.ow 13 p.1])]) (fun p=> [(4096, .pt 0 133 [.sl (bytes b), .int .i64 (p.2.1:Int), .int .i64 p.2.2.1]),(13, .sl p.1 true true (some (45,10)) (eK p.2.2.2))])
  (fun p g=>g+p.2.2.2.length=n∧1≤p.2.2.2.length∧p.2.1≤b.length∧∀y∈p.2.2.2,y.wc) (_,i1,h1,[x1]) (n - 1) (by simp(disch:=omega) [VZ];rfl) (by simp(disch:=omega) [VZ]) ⟨by simp;omega,by simp,j1,by simpa using g1⟩ ?_
 rintro⟨v,i2,h2,x⟩ nx g ⟨hg,h5,h6,h7⟩ P hP
 simp only at hg h5 h6 h7
 have hx:(eK x).length=x.length:=cq x
 simp(disch:=omega) [hx,VZ]
 refine ab (fun h8=> ?_) (fun h8=> ?_)
 ·have e1:IntKind.i64.wrap ((x.length:Int) - 1)=((x.length - 1:Nat):Int):=by rw[xU (by omega) (by omega)];omega
  obtain⟨a,e2,hw⟩:∃a:Head,(∀hq:x.length - 1 < (eK x).length,(eK x)[x.length - 1]'hq=a.c)∧a.wc:=⟨x[x.length - 1]'(by omega),fun hq=>by simp[eK],h7 _ (List.getElem_mem _)⟩
  simp(disch:=omega) [hx,e1,e2,Head.c,VZ]
  refine de (mc b i2 h2 l hl h6 hb) ?_ (n1:=by intro _;simp(disch:=omega) [ah.c,Head.o,VZ]) (n3:=by intro _;simp(disch:=omega) [ah.c,Head.o,VZ])
  rintro⟨y,i3,h3⟩ ⟨g3,j3⟩
  simp only at g3 j3
  simp(disch:=omega) [cur,Head.o,VZ]
  refine de (aw b i3 h3 6 (by omega) j3 hb) ?_
  rintro⟨k4,i4,h4⟩ ⟨g4,j4⟩
  simp only at g4 j4
  simp(disch:=omega) [cur,VZ]
  refine ao (j9 l a hw.1) ?_ (ha:=by first|rfl|(simp[ah.c,Head.c,VY] <;>repeat' constructor))
  have hhl:=GO l a
  simp(disch:=omega) [cur,VZ]
  refine ao (bV (nY l a) (by omega)) ?_
  have ez:=Ms x ⟨IntKind.i64.wrap (IntKind.i64.wrap (a.view+1)+(k4:Int) / 5),IntKind.i64.wrap (a.height+1),y.proposer,nY l a,y.root,⟨a.view,a.height,nY l a,y.qc.bits,y.qc.tags⟩⟩
  simp only at ez
  simp(disch:=omega) [cur,hx,ez,VZ]
  refine hP (_,i4,h4,x++ [⟨IntKind.i64.wrap (IntKind.i64.wrap (a.view+1)+(k4:Int) / 5),IntKind.i64.wrap (a.height+1),y.proposer,nY l a,y.root,⟨a.view,a.height,nY l a,y.qc.bits,y.qc.tags⟩⟩]) (g - 1) _ _ (by omega) ⟨by simp;omega,by simp,j4,fun z hz=> ?_⟩ (by simp(disch:=omega) [VZ];rfl) (by simp(disch:=omega) [VZ])
  rcases List.mem_append.1 hz with hz|hz
  ·exact h7 z hz
  ·simp only[List.mem_singleton]at hz
   subst hz
   obtain⟨⟨w1,w2,w3,w4,w5,⟨q1,q2,q3,q4,q5⟩⟩,w7⟩:=g3
   have hs:Sz (nY l a).length:=by unfold Sz;omega
   exact⟨⟨Tt _,Tt _,w3,hs,w5,⟨hw.1.1,hw.1.2.1,hs,q4,q5⟩⟩,w7⟩
 ·simp(disch:=omega) [cur,VZ]
  exact⟨x,i2,⟨⟨by omega,h7⟩,h6⟩,rfl,rfl⟩
abbrev vX:Nat:=270
def uW:AF:=⟨2,5,[.tmp 4],(.seq (.ops [.i (.lbox 3 (.s 1)), .i (.mov 4 (.c (.val false [.nils])))]) (.seq (.ops [.i (.bse 8),qm 5 8]) (.seq (.seq (.ops [qm 9 0,qf 10 3 2,ql 11 3 10 1 false, .i (.bin 12 .add (.s 11) (qi 1)), .i (.call 14 97 false [(.s 9),(.s 12)]),qm 6 13]) (.block 0 (.loop [27,26,25,24,23,22,21,20,19,18,17,16,15,14,7] (.seq (.seq (.ops [qm 14 6, .i (.bin 15 .gtr (.s 14) (qi 0))]) (.cond (.s 15) .skip (.exit 0))) (.seq (.block 1 (.seq (.ops [qf 18 3 1,ql 19 3 18 1 false,qm 7 19]) (.seq (.seq (.ops [qm 20 7, .i (.bin 21 .gtr (.s 20) (qi 6))]) (.cond (.s 21) (.ops [.i (.mov 7 (qi 6))]) .skip)) (.ops [qm 22 5,qm 23 0,qm 24 7, .i (.call 26 138 false [(.s 23),(.s 24)]), .i (.lsl 26 1 1 [.nils] [(0,1,(.s 25))]), .i (.app 27 22 1 24 (.s 22) (.s 26)),qm 5 27])))) (.ops [qm 16 6, .i (.bin 17 .sub (.s 16) (qi 1)),qm 6 17])))))) (.seq (.ops [qm 28 5,qm 4 28]) .ret))))⟩
theorem Fb:cd vX=some uW:=by kernel_rfl
theorem Nx (b:Bytes) (i:Nat) (h:Int) (l:ah) (hl:l.rd) (hi:i≤b.length) (hb:b.length≤1073741824):VC cd vX (iO [] 133 (cur b i h) [(true,l.c)]) (fun r p=>∃x:List Bytes×Nat×Int,((x.1.length≤8∧∀y∈x.1,y.length≤6)∧x.2.1≤b.length)∧r= [(false,[.o true (some (22,1)) (bJ x.1)])]∧p= [.pt 133 (cur b x.2.1 x.2.2)]):=by
 have hl1:=hl.2.1
 have hl2:=hl.2.2.1
 obtain⟨m,hm⟩:∃m:Nat,l.txs=(m:Int):=⟨l.txs.toNat,by omega⟩
 obtain⟨t,ht⟩:∃t:Nat,l.tx=(t:Int):=⟨l.tx.toNat,by omega⟩
 refine ax Fb rfl ?_
 simp(disch:=omega) [uW,cur,ah.c,hm,ht,VZ]
 refine de (aw b i h (m+1) (by omega) hi hb) ?_
 rintro⟨k1,i1,h1⟩ ⟨g1,j1⟩
 simp only at g1 j1
 simp(disch:=omega) [cur,VZ]
 refine bF (σ:=Nat×Nat×Nat×Int×List Bytes) (f1:=_) (es0:=_) (by simp(disch:=omega) [VZ];rfl) (by simp(disch:=omega) [VZ];rfl) (fun p=> [(6, .val false [.int .i64 (p.1:Int)]),(5, .val false [.ow 8 p.2.1])]) (fun p=> [(4096, .pt 0 133 [.sl (bytes b), .int .i64 (p.2.2.1:Int), .int .i64 p.2.2.2.1]),(8, .sl p.2.1 true true (some (22,1)) (bJ p.2.2.2.2))])
  (fun p g=>g=p.1∧p.2.2.1≤b.length∧p.2.2.2.2.length+p.1≤8∧∀y∈p.2.2.2.2,y.length≤6) (k1,_,i1,h1,[]) k1 (by simp(disch:=omega) [VZ];rfl) (by simp(disch:=omega) [bJ,VZ]) ⟨rfl,j1,by simp;omega,by simp⟩ ?_
 rintro⟨n,v,i2,h2,x⟩ nx g ⟨hg,h5,h6,h7⟩ P hP
 simp only at hg h5 h6 h7
 simp(disch:=omega) [VZ]
 refine ab (fun h8=> ?_) (fun h8=> ?_)
 ·have e1:IntKind.i64.wrap ((n:Int) - 1)=((n - 1:Nat):Int):=by rw[xU (by omega) (by omega)];omega
  have hlx:(bJ x).length=x.length:=aq x
  simp(disch:=omega) [VZ]
  refine ab (fun h9=> ?_) (fun h9=> ?_)
  ·simp(disch:=omega) [VZ]
   refine de (dX b i2 h2 6 (by omega) h5 hb) ?_
   rintro⟨y,i3,h3⟩ ⟨g3,j3⟩
   simp only at g3 j3
   simp(disch:=omega) [cur,e1,hlx,mG,VZ]
   refine hP (n - 1,_,i3,h3,x++ [y]) (g - 1) _ _ (by omega) ⟨by simp only;omega,j3,by simp;omega,fun z hz=> ?_⟩ (by simp(disch:=omega) [VZ];rfl) (by simp(disch:=omega) [VZ])
   rcases List.mem_append.1 hz with hz|hz
   ·exact h7 z hz
   ·simp only[List.mem_singleton]at hz;subst hz;omega
  ·simp(disch:=omega) [VZ]
   refine de (dX b i2 h2 t (by omega) h5 hb) ?_
   rintro⟨y,i3,h3⟩ ⟨g3,j3⟩
   simp only at g3 j3
   simp(disch:=omega) [cur,e1,hlx,mG,VZ]
   refine hP (n - 1,_,i3,h3,x++ [y]) (g - 1) _ _ (by omega) ⟨by simp only;omega,j3,by simp;omega,fun z hz=> ?_⟩ (by simp(disch:=omega) [VZ];rfl) (by simp(disch:=omega) [VZ])
   rcases List.mem_append.1 hz with hz|hz
   ·exact h7 z hz
   ·simp only[List.mem_singleton]at hz;subst hz;omega
 ·simp(disch:=omega) [cur,VZ]
  exact⟨x,i2,⟨⟨by omega,h7⟩,h5⟩,rfl,rfl⟩
theorem EV:aZ.wc:=by
 refine⟨⟨⟨by decide,by decide⟩,⟨by decide,by decide⟩,⟨by decide,by decide⟩,by simp[aZ,Sz],by simp[aZ,Sz],⟨⟨by decide,by decide⟩,⟨by decide,by decide⟩,by simp[aZ,fy,Sz],by simp[aZ,fy,Sz],by simp[aZ,fy,Sz]⟩⟩,fun x hx=>by simp[aZ,fy]at hx⟩
def D6 (l:ah) (h:Head) (t:List Bytes):Block:=if bj l (gf h t)=true then gf h t else aH
theorem Nf {l:ah} {h:Head} {t:List Bytes} (hw:h.wc) (ht:t.length≤8∧∀y∈t,y.length≤6):(D6 l h t).wx:=by
 have hb:nB t:=⟨by unfold Sz;omega,fun x hx=>by have:=ht.2 x hx;unfold Sz;omega⟩
 unfold D6
 split
 ·exact⟨Aa hw hb,fun x hx=>by have:=ht.2 x hx;omega⟩
 ·exact⟨⟨EV,by simp[aH,nB,Sz]⟩,by simp[aH]⟩
theorem zp (l:ah) (h:Head) (t:List Bytes) (hw:h.wc) (ht:t.length≤8∧∀y∈t,y.length≤6):VC cd jo (aD [(true,l.c),(true,h.c),(false,[.sl (bJ t)])]) (fun rs _=>rs= [(true,(D6 l h t).o),(false,[.p (.bool (bj l (gf h t)))])]):=
 (Bg l h t hw ⟨by unfold Sz;omega,fun x hx=>by have:=ht.2 x hx;unfold Sz;omega⟩ (fun x hx=>by have:=ht.2 x hx;omega)).own fun rs ps q=>by
   rw[q,DM,D6]
   by_cases h0:bj l (gf h t)=true
   ·rw[if_pos h0,if_pos h0,h0]
    exact⟨_,by simp[aW,bc,bn,gf,Block.o],rfl⟩
   ·have h1:bj l (gf h t)=false:=by simpa using h0
    rw[if_neg h0,if_neg h0,h1]
    exact⟨_,by simp[aW,bc,bn,Block.o,aH,aZ,fy,ag,bJ],rfl⟩
abbrev pZ:Nat:=189
def pK:AF:=⟨2,5,[.cell 4 11 true],(.seq (.ops [.i (.lbox 3 (.s 1)), .i (.lal 4 [.int .i64 0, .int .i64 0, .int .i64 0, .nils, .nils, .int .i64 0, .int .i64 0, .nils, .nils, .nils, .nils])]) (.seq (.ops [ql 8 3 3 5 true,qm 9 0,ql 10 3 3 5 true, .i (.call 12 187 false [(.s 9),(.s 10)]),qm 12 0,ql 13 3 3 5 true, .i (.call 15 270 false [(.s 12),(.s 13)]), .i (.call 16 269 false [(.s 8),(.s 11),(.s 14)]),qm 7 15, .i (.ext 16 (.s 7) 0), .i (.ext 17 (.s 7) 1), .i (.lal 5 [.int .i64 0, .int .i64 0, .int .i64 0, .nils, .nils, .int .i64 0, .int .i64 0, .nils, .nils, .nils, .nils]),qs 5 5 16 11,qm 6 17]) (.seq (.ops [ql 18 5 5 11 true,qs 4 4 18 11]) .ret)))⟩
theorem Dh:cd pZ=some pK:=by kernel_rfl
theorem Ll (b:Bytes) (i:Nat) (h:Int) (l:ah) (hl:l.rd) (hi:i≤b.length) (hb:b.length≤1073741824):VC cd pZ (iO [] 133 (cur b i h) [(true,l.c)]) (fun r p=>∃x:Block×Nat×Int,(x.1.wx∧x.2.1≤b.length)∧r= [(true,x.1.o)]∧p= [.pt 133 (cur b x.2.1 x.2.2)]):=by
 refine ax Dh rfl ?_
 simp(disch:=omega) [pK,cur,ah.c,VZ]
 refine de (mc b i h l hl.1 hi hb) ?_ (n1:=by intro _;simp(disch:=omega) [ah.c,Head.o,VZ]) (n3:=by intro _;simp(disch:=omega) [ah.c,Head.o,VZ])
 rintro⟨x1,i1,h1⟩ ⟨g1,j1⟩
 simp only at g1 j1
 simp(disch:=omega) [cur,Head.o,VZ]
 refine de (Nx b i1 h1 l hl j1 hb) ?_ (n1:=by intro _;simp(disch:=omega) [ah.c,VZ]) (n3:=by intro _;simp(disch:=omega) [ah.c,VZ])
 rintro⟨x2,i2,h2⟩ ⟨g2,j2⟩
 simp only at g2 j2
 simp(disch:=omega) [cur,VZ]
 refine ao (zp l x1 x2 g1 g2) ?_ (ha:=by first|rfl|(simp[ah.c,Head.c,VY] <;>repeat' constructor))
 have hw:=Nf (l:=l) g1 g2
 generalize D6 l x1 x2=y at hw
 simp(disch:=omega) [cur,Block.o,VZ]
 exact⟨y,i2,⟨hw,j2⟩,by simp,rfl⟩
end Go.Eng.F
namespace Go.Eng.F
abbrev tu:Nat:=191
def pN:AF:=⟨2,6,[.cell 4 2 true],(.seq (.ops [.i (.lbox 3 (.s 1)), .i (.lal 4 [.int .i64 0, .nils])]) (.seq (.ops [qm 7 0, .i (.call 9 97 false [(.s 7),(qi 200)]), .i (.bin 9 .add (qi 1) (.s 8)), .i (.bld 10 [.int .i64 0, .nils] [(0,1,(.s 9))]), .i (.lal 5 [.int .i64 0, .nils]),qs 5 5 10 2]) (.seq (.seq (.ops [.i (.mov 6 (qi 0))]) (.block 0 (.loop [32,31,30,29,28,27,26,25,24,23,22,21,20,19,18,17,16,15,14,13,12,11] (.seq (.seq (.ops [qm 11 6,qf 12 3 0,ql 13 3 12 1 false,qd 14 .lss 11 13]) (.cond (.s 14) .skip (.exit 0))) (.seq (.block 1 (.seq (.ops [qm 17 0, .i (.call 19 135 false [(.s 17),(qi 3)]), .i (.not 19 (.s 18))]) (.cond (.s 19) (.ops [qf 20 5 1,ql 21 5 20 1 false,qm 22 6,qm 23 0,qf 24 5 0,ql 25 5 24 1 false, .i (.call 27 97 false [(.s 23),(.s 25)]),qm 27 0,qk 29 242 27, .i (.bld 29 [.int .i64 0, .int .i64 0, .nils] [(0,1,(.s 22)),(1,1,(.s 26)),(2,1,(.s 28))]), .i (.lsl 30 3 1 [.int .i64 0, .int .i64 0, .nils] [(0,3,(.s 29))]), .i (.app 31 165 3 40 (.s 21) (.s 30)),qf 32 5 1,qs 5 32 31 1]) .skip))) (.ops [qm 15 6, .i (.bin 16 .add (.s 15) (qi 1)),qm 6 16])))))) (.seq (.ops [ql 33 5 5 2 true,qs 4 4 33 2]) .ret))))⟩
theorem Cc:cd tu=some pN:=by kernel_rfl
theorem LD (b:Bytes) (i:Nat) (h:Int) (l:ah) (hl:1≤l.n∧l.n≤10) (hi:i≤b.length) (hb:b.length≤1073741824):VC cd tu (iO [] 133 (cur b i h) [(true,l.c)]) (fun r p=>∃x:Tc×Nat×Int,(x.1.wf∧x.2.1≤b.length)∧r= [(true,x.1.o)]∧p= [.pt 133 (cur b x.2.1 x.2.2)]):=by
 refine ax Cc rfl ?_
 simp(disch:=omega) [pN,cur,ah.c,VZ]
 refine de (aw b i h 200 (by omega) hi hb) ?_
 rintro⟨k1,i1,h1⟩ ⟨g1,j1⟩
 simp only at g1 j1
 simp(disch:=omega) [cur,VZ]
 refine dP (σ:=Nat×Nat×Nat×Int×List Entry) (f0:=_) (by simp(disch:=omega) [VZ];rfl) (dy.zB (s:=5) (k:=5) (i:=1) rfl rfl) (f1:=_) (es0:=_) (by simp(disch:=omega) [VZ];rfl) (by simp(disch:=omega) [VZ];rfl) (fun p=> [(6, .val false [.int .i64 (p.1:Int)]),(5, .box [.int .i64 (1+(k1:Int)), .ow 5 p.2.1])]) (fun p=> [(4096, .pt 0 133 [.sl (bytes b), .int .i64 (p.2.2.1:Int), .int .i64 p.2.2.2.1]),(5, .sl p.2.1 true true (some (165,3)) (iw p.2.2.2.2))])
  (fun p g=>(g:Int)+p.1=l.n∧p.2.2.1≤b.length∧p.2.2.2.2.length≤p.1∧∀r∈p.2.2.2.2,r.wf) (0,_,i1,h1,[]) l.n.toNat (by simp(disch:=omega) [VZ];rfl) (by simp(disch:=omega) [iw,VZ]) ⟨by simp only;omega,j1,by simp,by simp⟩ ?_
 rintro⟨n,v,i2,h2,x⟩ nx g ⟨hg,a5,a6,a7⟩ P hP
 simp only at hg a5 a6 a7
 have hlx:(iw x).length=x.length:=cc x
 simp(disch:=omega) [VZ]
 refine ab (fun h8=> ?_) (fun h8=> ?_)
 ·simp(disch:=omega) [VZ]
  refine de (iR b i2 h2 3 (by omega) a5 hb) ?_
  rintro⟨y,i3,h3⟩ j3
  simp only at j3
  cases y with
  |true=>
   simp(disch:=omega) [cur,VZ]
   exact hP (n+1,v,i3,h3,x) (g - 1) _ _ (by omega) ⟨by simp only;omega,j3,by simp only;omega,a7⟩ (by simp(disch:=omega) [VZ] <;>rfl) (by simp(disch:=omega) [VZ])
  |false=>
   simp(disch:=omega) [cur,VZ]
   refine de (aw b i3 h3 (1+k1) (by omega) j3 hb) ?_
   rintro⟨k4,i4,h4⟩ ⟨g4,j4⟩
   simp only at g4 j4
   simp(disch:=omega) [cur,VZ]
   refine de (dg b i4 h4 j4 hb) ?_
   rintro⟨x5,i5,h5⟩ ⟨g5,j5⟩
   simp only at g5 j5
   simp(disch:=omega) [cur,hlx,Mk,VZ]
   refine hP (n+1,_,i5,h5,x++ [⟨n,k4,x5⟩]) (g - 1) _ _ (by omega) ⟨by simp only;omega,j5,by simp;omega,fun z hz=> ?_⟩ (by simp(disch:=omega) [VZ] <;>rfl) (by simp(disch:=omega) [VZ])
   rcases List.mem_append.1 hz with hz|hz
   ·exact a7 z hz
   ·simp only[List.mem_singleton]at hz
    subst hz
    exact⟨⟨by simp only;omega,by simp only;omega⟩,⟨by simp only;omega,by simp only;omega⟩,by unfold Sz;simp only;omega⟩
 ·simp(disch:=omega) [cur,VZ]
  refine⟨⟨1+k1,x⟩,i2,⟨⟨⟨by simp only;omega,by simp only;omega⟩,by unfold Sz;simp only;omega,a7⟩,a5⟩,rfl,rfl⟩
abbrev pO:Nat:=193
def sy:AF:=⟨2,6,[.cell 4 6 true],(.seq (.ops [.i (.lbox 3 (.s 1)), .i (.lal 4 [.nils, .int .i64 0, .int .i64 0, .nils, .nils, .nils])]) (.seq (.ops [qm 7 0,ql 8 3 3 5 true,qm 9 0,qf 10 3 4,ql 11 3 10 1 false, .i (.bin 12 .sub (.s 11) (qi 2)), .i (.call 14 97 false [(.s 9),(.s 12)]), .i (.bin 14 .add (qi 3) (.s 13)), .i (.call 16 273 false [(.s 7),(.s 8),(.s 14)]),qm 16 0,ql 17 3 3 5 true, .i (.call 19 185 false [(.s 16),(.s 17)]), .i (.bld 19 [.nils, .int .i64 0, .int .i64 0, .nils, .nils, .nils] [(0,1,(.s 15)),(1,5,(.s 18))]), .i (.lal 5 [.nils, .int .i64 0, .int .i64 0, .nils, .nils, .nils]),qs 5 5 19 6]) (.seq (.ops [qf 20 5 0,ql 21 5 20 1 false,qf 22 5 0,ql 23 5 22 1 false,qn 24 23, .i (.bin 25 .sub (.s 24) (qi 1)), .i (.iad 26 (.s 21) (.s 25) 10), .i (.ldh 27 (.s 26) 10 true), .i (.lal 6 qz),qs 6 6 27 10]) (.seq (.ops [qf 28 6 0,ql 29 6 28 1 false,qf 30 5 1,qf 31 30 0,qs 5 31 29 1]) (.seq (.ops [qf 32 6 1,ql 33 6 32 1 false,qf 34 5 1,qf 35 34 1,qs 5 35 33 1]) (.seq (.ops [ql 36 3 3 5 true,ql 37 6 6 10 true, .i (.call 39 274 false [(.s 36),(.s 37)]),qf 39 5 1,qf 40 39 2,qs 5 40 38 1]) (.seq (.ops [ql 41 5 5 6 true,qs 4 4 41 6]) .ret)))))))⟩
theorem Dy:cd pO=some sy:=by kernel_rfl
theorem Ls (b:Bytes) (i:Nat) (h:Int) (l:ah) (hl:l.rd) (hi:i≤b.length) (hb:b.length≤1073741824):VC cd pO (iO [] 133 (cur b i h) [(true,l.c)]) (fun r p=>∃x:Proof×Nat×Int,(x.1.wc∧x.2.1≤b.length)∧r= [(true,x.1.o)]∧p= [.pt 133 (cur b x.2.1 x.2.2)]):=by
 have hl4:=hl.2.2.2
 obtain⟨m,hm⟩:∃m:Nat,l.heads=(m:Int):=⟨l.heads.toNat,by omega⟩
 have em:(m:Int) - 2=((m - 2:Nat):Int):=by omega
 refine ax Dy rfl ?_
 simp(disch:=omega) [sy,cur,ah.c,hm,em,VZ]
 refine de (aw b i h (m - 2) (by omega) hi hb) ?_
 rintro⟨k1,i1,h1⟩ ⟨g1,j1⟩
 simp only at g1 j1
 simp(disch:=omega) [cur,VZ]
 refine de (JF b i1 h1 ⟨l.n,l.tx,l.txs,l.frame,(m:Int)⟩ (3+k1) hl.1 (by omega) j1 hb) ?_ (n1:=by intro _;simp(disch:=omega) [ah.c,VZ]) (n3:=by intro _;simp(disch:=omega) [ah.c,VZ])
 rintro⟨x2,i2,h2⟩ ⟨⟨g2,w2⟩,j2⟩
 simp only at g2 w2 j2
 simp(disch:=omega) [cur,VZ]
 refine de (wk b i2 h2 ⟨l.n,l.tx,l.txs,l.frame,(m:Int)⟩ hl.1 j2 hb) ?_ (n1:=by intro _;simp(disch:=omega) [ah.c,Qc.o,VZ]) (n3:=by intro _;simp(disch:=omega) [ah.c,Qc.o,VZ])
 rintro⟨x3,i3,h3⟩ ⟨g3,j3⟩
 simp only at g3 j3
 have w3:=g3.wc
 have hx:(eK x2).length=x2.length:=cq x2
 have e1:IntKind.i64.wrap ((x2.length:Int) - 1)=((x2.length - 1:Nat):Int):=by rw[xU (by omega) (by omega)];omega
 obtain⟨a,e2,hw⟩:∃a:Head,(∀hq:x2.length - 1 < (eK x2).length,(eK x2)[x2.length - 1]'hq=a.c)∧a.wc:=⟨x2[x2.length - 1]'(by omega),fun hq=>by simp[eK],w2 _ (List.getElem_mem _)⟩
 have hhl:=GO ⟨l.n,l.tx,l.txs,l.frame,(m:Int)⟩ a
 simp(disch:=omega) [cur,Qc.o,hx,e1,e2,Head.c,VZ]
 refine ao (j9 ⟨l.n,l.tx,l.txs,l.frame,(m:Int)⟩ a hw.1) ?_ (ha:=by first|rfl|(simp[ah.c,Head.c,VY] <;>repeat' constructor))
 generalize nY ⟨l.n,l.tx,l.txs,l.frame,(m:Int)⟩ a=y at hhl
 simp(disch:=omega) [cur,Proof.o,VZ]
 refine⟨⟨x2,⟨a.view,a.height,y,x3.bits,x3.tags⟩⟩,i3,⟨?_,j3⟩,?_,rfl⟩
 ·obtain⟨⟨q1,q2,q3,q4,q5⟩,q6⟩:=w3
  have hs:Sz y.length:=by unfold Sz;omega
  exact⟨⟨⟨by unfold Sz;simp only;omega,fun z hz=>(w2 z hz).1⟩,⟨hw.1.1,hw.1.2.1,hs,q4,q5⟩⟩,w2,⟨hw.1.1,hw.1.2.1,hs,q4,q5⟩,q6⟩
 ·simp
end Go.Eng.F
namespace Go.Eng.F
structure Ev where
 kind:Int
 n:Int
 msg:aJ
def Ev.c (e:Ev):List D:= .int .i64 e.kind:: .int .i64 e.n::e.msg.c
def CQ (l:List Ev):List (List D):=l.map Ev.c
theorem BP (l:List Ev):(CQ l).length=l.length:=by simp[CQ]
theorem P0:CQ []= []:=rfl
theorem MR (l:List Ev) (k n:Int) (m:aJ):CQ l++ [[.int .i64 k, .int .i64 n, .int .i64 m.kind, .int .i64 m.vote.view, .int .i64 m.vote.height, .sl (bytes m.vote.block), .int .i64 m.vote.who, .sl (bytes m.vote.tag), .int .i64 m.qc.view, .int .i64 m.qc.height, .sl (bytes m.qc.block), .sl (bytes m.qc.bits), .sl (bJ m.qc.tags), .int .i64 m.head.view, .int .i64 m.head.height, .int .i64 m.head.proposer, .sl (bytes m.head.parent), .sl (bytes m.head.root), .int .i64 m.head.qc.view, .int .i64 m.head.qc.height, .sl (bytes m.head.qc.block), .sl (bytes m.head.qc.bits), .sl (bJ m.head.qc.tags), .int .i64 m.block.head.view, .int .i64 m.block.head.height, .int .i64 m.block.head.proposer, .sl (bytes m.block.head.parent), .sl (bytes m.block.head.root), .int .i64 m.block.head.qc.view, .int .i64 m.block.head.qc.height, .sl (bytes m.block.head.qc.block), .sl (bytes m.block.head.qc.bits), .sl (bJ m.block.head.qc.tags), .sl (bJ m.block.txs), .int .i64 m.tc.view, .sl (iw m.tc.entries), .sl (eK m.proof.heads), .int .i64 m.proof.qc.view, .int .i64 m.proof.qc.height, .sl (bytes m.proof.qc.block), .sl (bytes m.proof.qc.bits), .sl (bJ m.proof.qc.tags), .int .i64 m.incl.height, .int .i64 m.incl.n, .int .i64 m.incl.idx, .sl (bytes m.incl.tx), .sl (bJ m.incl.path)]]=CQ (l++ [⟨k,n,m⟩]):=by simp[CQ,Ev.c,aJ.c]
theorem Hc (l:List Ev) (k n:Int):CQ l++ [[.int .i64 k, .int .i64 n, .int .i64 0, .int .i64 0, .int .i64 0, .sl [], .int .i64 0, .sl [], .int .i64 0, .int .i64 0, .sl [], .sl [], .sl [], .int .i64 0, .int .i64 0, .int .i64 0, .sl [], .sl [], .int .i64 0, .int .i64 0, .sl [], .sl [], .sl [], .int .i64 0, .int .i64 0, .int .i64 0, .sl [], .sl [], .int .i64 0, .int .i64 0, .sl [], .sl [], .sl [], .sl [], .int .i64 0, .sl [], .sl [], .int .i64 0, .int .i64 0, .sl [], .sl [], .sl [], .int .i64 0, .int .i64 0, .int .i64 0, .sl [], .sl []]]=CQ (l++ [⟨k,n,av⟩]):=by simp[CQ,Ev.c,aJ.c,av,bD,fy,aZ,aH,hU,aK,bA,bytes,bJ,eK,iw]
def eC (s:Bytes) (a n:Nat):Bytes:=(s.drop (a+8)).take (n - 8)
def c5 (k:Nat):List Ev:=if k=0 then []else [⟨1,k,av⟩]
def fx (l:ah) (d:Bytes):Ev:=if(dec l d).2=0 then⟨3,0,(dec l d).1⟩else⟨2,(dec l d).2,av⟩
def f4 (l:ah) (s:Bytes) (cl:Bool):Nat→Nat→Nat→List Ev→List Ev×Nat×Nat
 |0,a,k,e=>(e,k,a)
 |g+1,a,k,e=>
  if a < s.length then
   if(aB l s a).1=1∧cl=false then(e,k,a)
   else if(aB l s a).1≠3 then f4 l s cl g (a+1) (k+1) e
   else f4 l s cl g (a+(aB l s a).2.toNat) 0 (e++(c5 k++ [fx l (eC s a (aB l s a).2.toNat)]))
  else(e,k,a)
def va (l:ah) (s:Bytes) (cl:Bool) (k:Nat):List Ev×Nat×Nat:=
 let r:=f4 l s cl s.length 0 k []
 (r.1++(if cl=true then c5 r.2.1 else []),r.2)
theorem Np {l:ah} {s:Bytes} {cl:Bool} {g a k:Nat} {e:List Ev} (h:¬a < s.length):f4 l s cl g a k e=(e,k,a):=by
 cases g
 ·rfl
 ·rw[f4,if_neg h]
theorem mI {l:ah} {s:Bytes} {a:Nat} (h:(aB l s a).1=3):∃n:Nat,aB l s a=(3,(n:Int))∧9≤n∧a+n≤s.length∧l.ok=true:=by
 unfold aB at h⊢
 split at h
 ·rename_i h1
  rw[if_pos h1]
  split at h
  ·rename_i h2
   rw[if_pos h2]
   split at h
   ·simp at h
   ·rename_i h3
    rw[if_neg h3]
    split at h
    ·simp at h
    ·rename_i h4
     rw[if_neg h4]
     split at h
     ·simp at h
     ·rename_i h5
      rw[if_neg h5]
      split at h
      ·simp at h
      ·rename_i h6
       rw[if_neg h6]
       split at h
       ·rename_i h7
        rw[if_pos h7]
        have h8:cO (FF s a) 1 l.frame=true:=by simpa using h5
        have h9:=c8 h8
        exact⟨8+FF s a,by simp,by omega,by omega,h1.1⟩
       ·simp at h
  ·simp at h
 ·simp at h
theorem Fs (l:ah) (s:Bytes) (a:Nat):(aB l s a).1=0∨(aB l s a).1=1∨(aB l s a).1=2∨(aB l s a).1=3:=by
 unfold aB
 repeat' split
 all_goals simp
theorem Gw {s:Bytes} {a n:Nat}:(eC s a n).length≤s.length:=by simp[eC];omega
abbrev lO:Nat:=157
def lb:AF:=⟨3,5,[.tmp 6, .tmp 7],(.seq (.ops [.i (.lbox 3 (.s 0)), .i (.mov 6 (.c (.val false [.nils]))), .i (.mov 7 (qb false))]) (.seq (.ops [ql 11 3 3 5 true,qm 12 1,qm 13 2, .i (.call 15 128 false [(.s 11),(.s 12),(.s 13)]),qm 10 14, .i (.ext 15 (.s 10) 0), .i (.ext 16 (.s 10) 1),qm 8 15,qm 9 16]) (.seq (.seq (.ops [qm 17 8, .i (.bin 18 .neq (.s 17) (qi 3))]) (.cond (.s 18) (.seq (.ops [.i (.mov 6 (.c (.val false [.nils]))), .i (.mov 7 (qb false))]) .ret) .skip)) (.seq (.ops [qm 19 1,qm 20 2, .i (.bin 21 .add (.s 20) (qi 8)),qm 22 2,qm 23 9,qd 24 .add 22 23, .i (.fA 25 1 (.s 19) (some (.s 21)) (some (.s 24))),qk 27 93 25,qm 6 26, .i (.mov 7 (qb true))]) .ret))))⟩
theorem y6:cd lO=some lb:=by kernel_rfl
theorem sk (l:ah) (s:Bytes) (a n:Nat) (hs:s.length≤1073741824) (h:aB l s a=(3,(n:Int))) (h9:9≤n) (hn:a+n≤s.length):VC cd lO (aD [(true,l.c),(false,[.sl (bytes s)]),(false,[.int .i64 (a:Int)])]) (fun rs _=>rs= [(false,[.o true (some (5,1)) (bytes (eC s a n))]),(false,[.p (.bool true)])]):=by
 have h0:=nS l s a hs (by omega)
 rw[h]at h0
 simp only[gP]at h0
 have e1:List.take ((a:Int)+(n:Int) - ((a:Int)+8)).toNat (List.drop ((a:Int)+8).toNat (bytes s))=bytes (eC s a n):=by
  rw[show((a:Int)+8).toNat=a+8 by omega,show((a:Int)+(n:Int) - ((a:Int)+8)).toNat=n - 8 by omega,eC]
  simp only[bytes,←List.map_take,←List.map_drop]
 have f1:0≤(a:Int)+8:=by omega
 have f2:8≤(n:Int):=by omega
 have f3:(a:Int)+(n:Int)≤(s.length:Int):=by omega
 refine aa y6 rfl ?_
 simp(disch:=omega) [lb,ah.c,VY]
 refine ao (h0) ?_ (ha:=by first|rfl|(simp[ah.c,VY] <;>repeat' constructor))
 simp(disch:=omega) [f1,f2,f3,e1,VY]
 refine ao (aN (eC s a n) (by have:=Gw (s:=s) (a:=a) (n:=n);omega)) ?_
 simp(disch:=omega) [VY]
theorem KN {l:ah} {s:Bytes} {cl:Bool} {g a k:Nat} {e:List Ev} (h:a < s.length) (h1:(aB l s a).1=1) (h2:cl=false):f4 l s cl (g+1) a k e=(e,k,a):=by
 rw[f4,if_pos h,if_pos ⟨h1,h2⟩]
theorem Ey {l:ah} {s:Bytes} {cl:Bool} {g a k:Nat} {e:List Ev} (h:a < s.length) (h1:¬((aB l s a).1=1∧cl=false)) (h2:(aB l s a).1≠3):f4 l s cl (g+1) a k e=f4 l s cl g (a+1) (k+1) e:=by
 rw[f4,if_pos h,if_neg h1,if_pos h2]
theorem KK {l:ah} {s:Bytes} {cl:Bool} {g a k n:Nat} {e:List Ev} (h:a < s.length) (h1:aB l s a=(3,(n:Int))):f4 l s cl (g+1) a k e=f4 l s cl g (a+n) 0 (e++(c5 k++ [fx l (eC s a n)])):=by
 rw[f4,if_pos h,if_neg (by simp[h1]),if_neg (by simp[h1])]
 simp[h1]
def GG (r:List Ev×Nat×Nat):List (Bool×List E):= [(false,[.o true (some (107,47)) (CQ r.1)]),(false,[.p (.int .i64 (r.2.1:Int))]),(false,[.p (.int .i64 (r.2.2:Int))])]
abbrev zY:Nat:=94
def Ae:AF:=⟨4,7,[.tmp 8, .tmp 9, .tmp 10],(.seq (.ops [.i (.lbox 4 (.s 0)), .i (.mov 8 (.c (.val false [.nils]))), .i (.mov 9 (qi 0)), .i (.mov 10 (qi 0))]) (.seq (.ops [.i (.bse 19),qm 11 19, .i (.mov 12 (qi 0))]) (.seq (.block 0 (.loop [80,79,78,77,76,75,74,73,72,71,70,69,68,67,66,65,64,63,62,61,60,59,58,57,56,55,54,53,52,51,50,49,48,47,46,45,44,43,42,41,40,39,38,37,36,35,34,33,32,31,30,29,28,27,26,25,24,23,22,21,20,18,17,16,15,14,13] (.seq (.seq (.ops [qm 20 12,qm 21 1,qn 22 21,qd 23 .lss 20 22]) (.cond (.s 23) .skip (.exit 0))) (.block 1 (.seq (.ops [ql 25 4 4 5 true,qm 26 1,qm 27 12, .i (.call 29 128 false [(.s 25),(.s 26),(.s 27)]),qm 24 28, .i (.ext 29 (.s 24) 0), .i (.ext 30 (.s 24) 1),qm 13 29,qm 14 30]) (.seq (.seq (.ops [qm 31 13, .i (.bin 32 .eql (.s 31) (qi 1)),qm 33 32, .g 33 true 35 (.mov 34 (.s 2)), .g 33 true 36 (.not 35 (.s 34)), .i (.pick 36 (.s 33) (.s 35) (qb false))]) (.cond (.s 36) (.seq (.ops [qm 37 11,qm 38 3,qm 39 12,qm 8 37,qm 9 38,qm 10 39]) .ret) .skip)) (.seq (.seq (.ops [qm 40 13, .i (.bin 41 .neq (.s 40) (qi 3))]) (.cond (.s 41) (.seq (.ops [qm 42 12, .i (.bin 43 .add (.s 42) (qi 1)),qm 12 43]) (.seq (.ops [qm 44 3, .i (.bin 45 .add (.s 44) (qi 1)),qm 3 45]) (.exit 1))) .skip)) (.seq (.seq (.ops [qm 46 3, .i (.bin 47 .neq (.s 46) (qi 0))]) (.cond (.s 47) (.ops [qm 48 11,qm 49 3, .i (.bld 50 [.int .i64 0, .int .i64 0, .int .i64 0, .int .i64 0, .int .i64 0, .nils, .int .i64 0, .nils, .int .i64 0, .int .i64 0, .nils, .nils, .nils, .int .i64 0, .int .i64 0, .int .i64 0, .nils, .nils, .int .i64 0, .int .i64 0, .nils, .nils, .nils, .int .i64 0, .int .i64 0, .int .i64 0, .nils, .nils, .int .i64 0, .int .i64 0, .nils, .nils, .nils, .nils, .int .i64 0, .nils, .nils, .int .i64 0, .int .i64 0, .nils, .nils, .nils, .int .i64 0, .int .i64 0, .int .i64 0, .nils, .nils] [(0,1,(qi 1)),(1,1,(.s 49))]), .i (.lsl 51 47 1 [.int .i64 0, .int .i64 0, .int .i64 0, .int .i64 0, .int .i64 0, .nils, .int .i64 0, .nils, .int .i64 0, .int .i64 0, .nils, .nils, .nils, .int .i64 0, .int .i64 0, .int .i64 0, .nils, .nils, .int .i64 0, .int .i64 0, .nils, .nils, .nils, .int .i64 0, .int .i64 0, .int .i64 0, .nils, .nils, .int .i64 0, .int .i64 0, .nils, .nils, .nils, .nils, .int .i64 0, .nils, .nils, .int .i64 0, .int .i64 0, .nils, .nils, .nils, .int .i64 0, .int .i64 0, .int .i64 0, .nils, .nils] [(0,47,(.s 50))]), .i (.app 52 107 47 744 (.s 48) (.s 51)),qm 11 52]) .skip)) (.seq (.ops [ql 54 4 4 5 true,qm 55 1,qm 56 12, .i (.call 58 157 false [(.s 54),(.s 55),(.s 56)]),qm 53 57, .i (.ext 58 (.s 53) 0), .i (.ext 59 (.s 53) 1),qm 15 58,qm 16 59]) (.seq (.seq (.ops [ql 61 4 4 5 true,qm 62 15, .i (.call 64 53 false [(.s 61),(.s 62)]),qm 60 63, .i (.ext 64 (.s 60) 0), .i (.ext 65 (.s 60) 1), .i (.lal 17 [.int .i64 0, .int .i64 0, .int .i64 0, .nils, .int .i64 0, .nils, .int .i64 0, .int .i64 0, .nils, .nils, .nils, .int .i64 0, .int .i64 0, .int .i64 0, .nils, .nils, .int .i64 0, .int .i64 0, .nils, .nils, .nils, .int .i64 0, .int .i64 0, .int .i64 0, .nils, .nils, .int .i64 0, .int .i64 0, .nils, .nils, .nils, .nils, .int .i64 0, .nils, .nils, .int .i64 0, .int .i64 0, .nils, .nils, .nils, .int .i64 0, .int .i64 0, .int .i64 0, .nils, .nils]),qs 17 17 64 45,qm 18 65]) (.seq (.ops [qm 66 18, .i (.bin 67 .eql (.s 66) (qi 0))]) (.cond (.s 67) (.ops [qm 68 11,ql 69 17 17 45 true, .i (.bld 70 [.int .i64 0, .int .i64 0, .int .i64 0, .int .i64 0, .int .i64 0, .nils, .int .i64 0, .nils, .int .i64 0, .int .i64 0, .nils, .nils, .nils, .int .i64 0, .int .i64 0, .int .i64 0, .nils, .nils, .int .i64 0, .int .i64 0, .nils, .nils, .nils, .int .i64 0, .int .i64 0, .int .i64 0, .nils, .nils, .int .i64 0, .int .i64 0, .nils, .nils, .nils, .nils, .int .i64 0, .nils, .nils, .int .i64 0, .int .i64 0, .nils, .nils, .nils, .int .i64 0, .int .i64 0, .int .i64 0, .nils, .nils] [(0,1,(qi 3)),(2,45,(.s 69))]), .i (.lsl 71 47 1 [.int .i64 0, .int .i64 0, .int .i64 0, .int .i64 0, .int .i64 0, .nils, .int .i64 0, .nils, .int .i64 0, .int .i64 0, .nils, .nils, .nils, .int .i64 0, .int .i64 0, .int .i64 0, .nils, .nils, .int .i64 0, .int .i64 0, .nils, .nils, .nils, .int .i64 0, .int .i64 0, .int .i64 0, .nils, .nils, .int .i64 0, .int .i64 0, .nils, .nils, .nils, .nils, .int .i64 0, .nils, .nils, .int .i64 0, .int .i64 0, .nils, .nils, .nils, .int .i64 0, .int .i64 0, .int .i64 0, .nils, .nils] [(0,47,(.s 70))]), .i (.app 72 107 47 744 (.s 68) (.s 71)),qm 11 72]) (.ops [qm 73 11,qm 74 18, .i (.bld 75 [.int .i64 0, .int .i64 0, .int .i64 0, .int .i64 0, .int .i64 0, .nils, .int .i64 0, .nils, .int .i64 0, .int .i64 0, .nils, .nils, .nils, .int .i64 0, .int .i64 0, .int .i64 0, .nils, .nils, .int .i64 0, .int .i64 0, .nils, .nils, .nils, .int .i64 0, .int .i64 0, .int .i64 0, .nils, .nils, .int .i64 0, .int .i64 0, .nils, .nils, .nils, .nils, .int .i64 0, .nils, .nils, .int .i64 0, .int .i64 0, .nils, .nils, .nils, .int .i64 0, .int .i64 0, .int .i64 0, .nils, .nils] [(0,1,(qi 2)),(1,1,(.s 74))]), .i (.lsl 76 47 1 [.int .i64 0, .int .i64 0, .int .i64 0, .int .i64 0, .int .i64 0, .nils, .int .i64 0, .nils, .int .i64 0, .int .i64 0, .nils, .nils, .nils, .int .i64 0, .int .i64 0, .int .i64 0, .nils, .nils, .int .i64 0, .int .i64 0, .nils, .nils, .nils, .int .i64 0, .int .i64 0, .int .i64 0, .nils, .nils, .int .i64 0, .int .i64 0, .nils, .nils, .nils, .nils, .int .i64 0, .nils, .nils, .int .i64 0, .int .i64 0, .nils, .nils, .nils, .int .i64 0, .int .i64 0, .int .i64 0, .nils, .nils] [(0,47,(.s 75))]), .i (.app 77 107 47 744 (.s 73) (.s 76)),qm 11 77])))) (.ops [qm 78 12,qm 79 14,qd 80 .add 78 79,qm 12 80, .i (.mov 3 (qi 0))]))))))))))) (.seq (.seq (.ops [qm 81 2,qm 82 81, .g 82 true 84 (.mov 83 (.s 3)), .g 82 true 85 (.bin 84 .neq (.s 83) (qi 0)), .i (.pick 85 (.s 82) (.s 84) (qb false))]) (.cond (.s 85) (.ops [qm 86 11,qm 87 3, .i (.bld 88 [.int .i64 0, .int .i64 0, .int .i64 0, .int .i64 0, .int .i64 0, .nils, .int .i64 0, .nils, .int .i64 0, .int .i64 0, .nils, .nils, .nils, .int .i64 0, .int .i64 0, .int .i64 0, .nils, .nils, .int .i64 0, .int .i64 0, .nils, .nils, .nils, .int .i64 0, .int .i64 0, .int .i64 0, .nils, .nils, .int .i64 0, .int .i64 0, .nils, .nils, .nils, .nils, .int .i64 0, .nils, .nils, .int .i64 0, .int .i64 0, .nils, .nils, .nils, .int .i64 0, .int .i64 0, .int .i64 0, .nils, .nils] [(0,1,(qi 1)),(1,1,(.s 87))]), .i (.lsl 89 47 1 [.int .i64 0, .int .i64 0, .int .i64 0, .int .i64 0, .int .i64 0, .nils, .int .i64 0, .nils, .int .i64 0, .int .i64 0, .nils, .nils, .nils, .int .i64 0, .int .i64 0, .int .i64 0, .nils, .nils, .int .i64 0, .int .i64 0, .nils, .nils, .nils, .int .i64 0, .int .i64 0, .int .i64 0, .nils, .nils, .int .i64 0, .int .i64 0, .nils, .nils, .nils, .nils, .int .i64 0, .nils, .nils, .int .i64 0, .int .i64 0, .nils, .nils, .nils, .int .i64 0, .int .i64 0, .int .i64 0, .nils, .nils] [(0,47,(.s 88))]), .i (.app 90 107 47 744 (.s 86) (.s 89)),qm 11 90]) .skip)) (.seq (.ops [qm 91 11,qm 92 3,qm 93 12,qm 8 91,qm 9 92,qm 10 93]) .ret)))))⟩
theorem I5:cd zY=some Ae:=by kernel_rfl
theorem Ha (l:ah) (s:Bytes) (cl:Bool) (k0:Nat) (hs:s.length≤1073741824) (hk:k0≤1152921504606846975):VC cd zY (aD [(true,l.c),(false,[.sl (bytes s)]),(false,[.bool cl]),(false,[.int .i64 (k0:Int)])]) (fun rs _=>rs=GG (va l s cl k0)):=by
 refine aa I5 rfl ?_
 simp(disch:=omega) [Ae,ah.c,VZ]
 refine bF (σ:=Nat×Nat×Nat×List Ev) (f1:=_) (es0:=_) (by simp(disch:=omega) [VZ];rfl) (by simp(disch:=omega) [VZ];rfl) (fun p=> [(12, .val false [.int .i64 (p.1:Int)]),(3, .val false [.int .i64 (p.2.1:Int)]),(11, .val false [.ow 19 p.2.2.1])]) (fun p=> [(19, .sl p.2.2.1 true true (some (107,47)) (CQ p.2.2.2))])
  (fun p g=>s.length≤g+p.1∧p.1≤s.length∧p.2.1≤k0+p.1∧p.2.2.2.length≤2 * p.1∧f4 l s cl s.length 0 k0 []=f4 l s cl g p.1 p.2.1 p.2.2.2) (0,k0,_,[]) s.length (by simp(disch:=omega) [VZ];rfl) (by simp(disch:=omega) [CQ,VZ]) ⟨by simp,by simp,by simp,by simp,rfl⟩ ?_
 rintro⟨a,k,v,x⟩ nx g ⟨hg,h5,h6,h7,h8⟩ P hP
 simp only at hg h5 h6 h7 h8
 have hl:(CQ x).length=x.length:=BP x
 simp(disch:=omega) [VZ]
 refine ab (fun h9=> ?_) (fun h9=> ?_)
 ·obtain⟨g1,rfl⟩:∃g1,g=g1+1:=⟨g - 1,by omega⟩
  have h0:=nS l s a hs (by omega)
  have hc:=Fs l s a
  rcases hf:aB l s a with⟨st,n⟩
  rw[hf]at h0 hc
  simp only[gP]at h0
  simp only at hc
  simp(disch:=omega) [VZ]
  refine ao (h0) ?_ (ha:=by first|rfl|(simp[ah.c,VY] <;>repeat' constructor))
  rcases hc with rfl|rfl|rfl|rfl
  case inr.inl=>
   cases cl with
   |false=>
    rw[KN h9 (by rw[hf]) rfl]at h8
    simp(disch:=omega) [va,GG,h8,VZ]
   |true=>
    rw[Ey h9 (by simp) (by rw[hf];simp)]at h8
    simp(disch:=omega) [VZ]
    exact hP (a+1,k+1,v,x) g1 _ _ (by omega) ⟨by simp only;omega,by simp only;omega,by simp only;omega,by simp only;omega,h8⟩ (by simp(disch:=omega) [VZ] <;>rfl) (by simp(disch:=omega) [VZ])
  case inr.inr.inr=>
   obtain⟨n',hf',n9,nl,hok⟩:=mI (by rw[hf]:(aB l s a).1=3)
   rw[hf]at hf'
   obtain rfl:n=(n':Int):=by simpa using hf'
   rw[KK h9 hf]at h8
   have hfl:=Gw (s:=s) (a:=a) (n:=n')
   have hd:=Dd (eC s a n') l (by omega)
   have he:fx l (eC s a n')=if(dec l (eC s a n')).2=0 then⟨3,0,(dec l (eC s a n')).1⟩else⟨2,(dec l (eC s a n')).2,av⟩:=rfl
   rw[he]at h8
   clear he
   generalize dec l (eC s a n')=d at hd h8
   obtain⟨dm,dc⟩:=d
   simp only[gZ,aJ.o]at hd h8
   by_cases k1:k=0
   ·subst k1
    simp(disch:=omega) [VZ]
    refine ao (sk l s a n' hs hf n9 nl) ?_ (ha:=by first|rfl|(simp[ah.c,VY] <;>repeat' constructor))
    simp(disch:=omega) [VZ]
    refine ao (hd) ?_ (ha:=by first|rfl|(simp[ah.c,VY] <;>repeat' constructor))
    by_cases d0:dc=0
    ·subst d0
     simp(disch:=omega) [MR,hl,VZ]
     exact hP (a+n',0,_,x++ [⟨3,0,dm⟩]) g1 _ _ (by omega) ⟨by simp only;omega,by simp only;omega,by simp only;omega,by simp only[List.length_append,List.length_cons,List.length_nil];omega,by rw[h8];simp[c5]⟩ (by simp(disch:=omega) [VZ] <;>rfl) (by simp(disch:=omega) [VZ])
    ·simp(disch:=omega) [d0,Hc,hl,VZ]
     exact hP (a+n',0,_,x++ [⟨2,dc,av⟩]) g1 _ _ (by omega) ⟨by simp only;omega,by simp only;omega,by simp only;omega,by simp only[List.length_append,List.length_cons,List.length_nil];omega,by rw[h8];simp[c5,d0]⟩ (by simp(disch:=omega) [VZ] <;>rfl) (by simp(disch:=omega) [VZ])
   ·simp(disch:=omega) [k1,Hc,hl,VZ]
    refine ao (sk l s a n' hs hf n9 nl) ?_ (ha:=by first|rfl|(simp[ah.c,VY] <;>repeat' constructor))
    have hl3:(CQ (x++ [⟨1,(k:Int),av⟩])).length=x.length+1:=by simp[BP]
    simp(disch:=omega) [VZ]
    refine ao (hd) ?_ (ha:=by first|rfl|(simp[ah.c,VY] <;>repeat' constructor))
    by_cases d0:dc=0
    ·subst d0
     simp(disch:=omega) [MR,hl3,VZ]
     exact hP (a+n',0,_,x++ [⟨1,(k:Int),av⟩]++ [⟨3,0,dm⟩]) g1 _ _ (by omega) ⟨by simp only;omega,by simp only;omega,by simp only;omega,by simp only[List.length_append,List.length_cons,List.length_nil];omega,by rw[h8];simp[c5,k1]⟩ (by simp(disch:=omega) [VZ] <;>rfl) (by simp(disch:=omega) [VZ])
    ·simp(disch:=omega) [d0,Hc,hl3,VZ]
     exact hP (a+n',0,_,x++ [⟨1,(k:Int),av⟩]++ [⟨2,dc,av⟩]) g1 _ _ (by omega) ⟨by simp only;omega,by simp only;omega,by simp only;omega,by simp only[List.length_append,List.length_cons,List.length_nil];omega,by rw[h8];simp[c5,k1,d0]⟩ (by simp(disch:=omega) [VZ] <;>rfl) (by simp(disch:=omega) [VZ])
  all_goals
   rw[Ey h9 (by rw[hf];simp) (by rw[hf];simp)]at h8
   simp(disch:=omega) [VZ]
   exact hP (a+1,k+1,v,x) g1 _ _ (by omega) ⟨by simp only;omega,by simp only;omega,by simp only;omega,by simp only;omega,h8⟩ (by simp(disch:=omega) [VZ] <;>rfl) (by simp(disch:=omega) [VZ])
 ·rw[Np h9]at h8
  cases cl with
  |false=>simp(disch:=omega) [va,GG,h8,VZ]
  |true=>
   by_cases k1:k=0
   ·simp(disch:=omega) [k1,va,GG,h8,c5,VZ]
   ·simp(disch:=omega) [k1,va,GG,h8,c5,Hc,hl,VZ]
end Go.Eng.F
namespace Go.Eng.F
def parse (l:ah) (s:Bytes) (cl:Bool):List Ev:=if l.ok=true then(va l s cl 0).1 else []
def tail (l:ah) (s:Bytes):Nat×Nat:=if l.ok=true then((va l s false 0).2.1,s.length - (va l s false 0).2.2)else(0,0)
abbrev xv:Nat:=50
def xC:AF:=⟨3,5,[.tmp 6],(.seq (.ops [.i (.lbox 3 (.s 0)), .i (.mov 6 (.c (.val false [.nils])))]) (.seq (.seq (.ops [ql 10 3 3 5 true,qk 12 95 10, .i (.not 12 (.s 11))]) (.cond (.s 12) (.seq (.ops [.i (.mov 6 (.c (.val false [.nils])))]) .ret) .skip)) (.seq (.ops [ql 14 3 3 5 true,qm 15 1,qm 16 2, .i (.call 18 94 false [(.s 14),(.s 15),(.s 16),(qi 0)]),qm 13 17, .i (.ext 18 (.s 13) 0), .i (.ext 19 (.s 13) 1), .i (.ext 20 (.s 13) 2),qm 7 18,qm 8 19,qm 9 20]) (.seq (.ops [qm 21 7,qm 6 21]) .ret))))⟩
theorem HR:cd xv=some xC:=by kernel_rfl
theorem E4 (l:ah) (s:Bytes) (cl:Bool) (hs:s.length≤1073741824):VC cd xv (aD [(true,l.c),(false,[.sl (bytes s)]),(false,[.bool cl])]) (fun rs _=>rs= [(false,[.o true (some (107,47)) (CQ (parse l s cl))])]):=by
 refine VC.pq ?_
 refine aa HR rfl ?_
 simp(disch:=omega) [xC,ah.c,VZ]
 refine ao (aI l) ?_ (ha:=by first|rfl|(simp[ah.c,VY] <;>repeat' constructor))
 simp(disch:=omega) [VZ]
 refine an (fun h1=> ?_) (fun h1=> ?_)
 case refine_2=>simp(disch:=omega) [h1,parse,P0,aW,bc,bn,VZ]
 simp(disch:=omega) [h1,VZ]
 have hd:=Ha l s cl 0 hs (by omega)
 simp only[GG]at hd
 refine ao (hd) ?_ (ha:=by first|rfl|(simp[ah.c,VY] <;>repeat' constructor))
 simp(disch:=omega) [h1,parse,aW,bc,bn,VZ]
end Go.Eng.F
namespace Go.Eng.F
def wN (n w:Nat):Bytes:=(List.range w).map fun i=>b8 ((n / 256 ^ i:Nat):Int)
theorem xk (n w:Nat):(wN n w).length=w:=by simp[wN]
theorem MX (n w:Nat):wN n (w+1)=wN n w++ [b8 ((n / 256 ^ w:Nat):Int)]:=by simp[wN,List.range_succ]
theorem S9 (b:Bytes):NU b < 4294967296:=by
 have h:kE (0 ^^^ 4294967295) b < 4294967296:=xa b (by decide)
 exact Nat.xor_lt_two_pow (n:=32) h (by decide)
def zM (b:Bytes):Bytes:= [181,70]++wN b.length 2++wN (NU b) 4++b
def iG (l:ah) (b:Bytes):Bool:=l.ok && cO b.length 1 l.frame
def yI (l:ah) (b:Bytes):List (Bool×List E):= [(false,[.o true (some (5,1)) (bytes (if iG l b=true then zM b else []))]),(false,[.p (.bool (iG l b))])]
end Go.Eng.F
namespace Go.Eng.F
abbrev pL:Nat:=195
def sW:AF:=⟨2,6,[.cell 4 5 true],(.seq (.ops [.i (.lbox 3 (.s 1)), .i (.lal 4 [.int .i64 0, .int .i64 0, .int .i64 0, .nils, .nils])]) (.seq (.ops [qm 8 0, .i (.call 10 97 false [(.s 8),(qi 8)]), .i (.bin 10 .add (qi 1) (.s 9)),qm 5 10]) (.seq (.seq (.ops [qf 11 3 2,ql 12 3 11 1 false, .i (.bin 13 .gtr (.s 12) (qi 0))]) (.cond (.s 13) (.ops [qm 14 0,qf 15 3 2,ql 16 3 15 1 false, .i (.call 18 97 false [(.s 14),(.s 16)]), .i (.bin 18 .add (qi 1) (.s 17)),qm 5 18]) .skip)) (.seq (.ops [qm 19 0, .i (.call 21 97 false [(.s 19),(qi 200)]),qm 21 5,qm 22 0,qm 23 5, .i (.call 25 97 false [(.s 22),(.s 23)]),qm 25 0, .i (.call 27 138 false [(.s 25),(qi 3)]), .i (.bld 27 [.int .i64 0, .int .i64 0, .int .i64 0, .nils, .nils] [(0,1,(.s 20)),(1,1,(.s 21)),(2,1,(.s 24)),(3,1,(.s 26))]), .i (.lal 6 [.int .i64 0, .int .i64 0, .int .i64 0, .nils, .nils]),qs 6 6 27 5]) (.seq (.seq (.ops [qf 28 3 1,ql 29 3 28 1 false, .i (.bin 30 .lss (.s 29) (qi 3))]) (.cond (.s 30) (.ops [qf 31 6 3, .i (.stl 6 (.s 31) (.c (.val false [.nils])) 1)]) .skip)) (.seq (.seq (.ops [qf 32 6 2,ql 33 6 32 1 false,qm 34 5, .i (.call 36 276 false [(.s 33),(.s 34)]),qm 7 35]) (.block 0 (.loop [46,45,44,43,42,41,40,39,38,37,36] (.seq (.seq (.ops [qm 36 7, .i (.bin 37 .gtr (.s 36) (qi 0))]) (.cond (.s 37) .skip (.exit 0))) (.seq (.block 1 (.ops [qf 40 6 4,ql 41 6 40 1 false,qm 42 0,qk 44 242 42, .i (.lsl 44 1 1 [.nils] [(0,1,(.s 43))]), .i (.app 45 22 1 24 (.s 41) (.s 44)),qf 46 6 4,qs 6 46 45 1])) (.ops [qm 38 7, .i (.bin 39 .sub (.s 38) (qi 1)),qm 7 39])))))) (.seq (.ops [ql 47 6 6 5 true,qs 4 4 47 5]) .ret)))))))⟩
theorem CO:cd pL=some sW:=by kernel_rfl
theorem LI (b:Bytes) (i:Nat) (h:Int) (l:ah) (hl:l.rd) (hi:i≤b.length) (hb:b.length≤1073741824):VC cd pL (iO [] 133 (cur b i h) [(true,l.c)]) (fun r p=>∃x:aY×Nat×Int,((x.1.wc∧x.1.tx.length≤3)∧x.2.1≤b.length)∧r= [(true,x.1.o)]∧p= [.pt 133 (cur b x.2.1 x.2.2)]):=by
 refine VC.pq ?_
 have hl2:=hl.2.2.1
 obtain⟨m,hm⟩:∃m:Nat,l.txs=(m:Int):=⟨l.txs.toNat,by omega⟩
 refine ax CO rfl ?_
 simp(disch:=omega) [sW,cur,ah.c,hm,VZ]
 refine de (aw b i h 8 (by omega) hi hb) ?_
 rintro⟨k1,i1,h1⟩ ⟨g1,j1⟩
 simp only at g1 j1
 simp(disch:=omega) [cur,VZ]
 refine ab (fun h0=> ?_) (fun h0=> ?_)
 case refine_1=>
  simp(disch:=omega) [VZ]
  refine de (aw b i1 h1 m (by omega) j1 hb) ?_
  rintro⟨k2,i2,h2⟩ ⟨g2,j2⟩
  simp only at g2 j2
  simp(disch:=omega) [cur,VZ]
  have hk:k2 < 8:=by omega
  refine de (aw b i2 h2 200 (by omega) j2 hb) ?_
  rintro⟨k3,i3,h3⟩ ⟨g3,j3⟩
  simp only at g3 j3
  simp(disch:=omega) [cur,VZ]
  refine de (aw b i3 h3 (1+k2) (by omega) j3 hb) ?_
  rintro⟨k4,i4,h4⟩ ⟨g4,j4⟩
  simp only at g4 j4
  simp(disch:=omega) [cur,VZ]
  refine de (dX b i4 h4 3 (by omega) j4 hb) ?_
  rintro⟨x5,i5,h5⟩ ⟨g5,j5⟩
  simp only at g5 j5
  have hpl:=cz (1+k2) k4
  simp(disch:=omega) [cur,VZ]
  refine ab (fun h6=> ?_) (fun h6=> ?_)
  case refine_1=>
   simp(disch:=omega) [VZ]
   refine ao (d6 (1+k2) k4 (by omega) (by omega)) ?_
   simp(disch:=omega) [VZ]
   refine dP (σ:=Nat×Nat×Nat×Int×List Bytes) (f0:=_) (by simp(disch:=omega) [VZ];rfl) (dy.zB (s:=6) (k:=5) (i:=4) rfl rfl) (f1:=_) (es0:=_) (by simp(disch:=omega) [VZ];rfl) (by simp(disch:=omega) [VZ];rfl) (fun p=> [(7, .val false [.int .i64 (p.1:Int)]),(6, .box [.int .i64 (k3:Int), .int .i64 (1+(k2:Int)), .int .i64 (k4:Int), .nils, .ow 5 p.2.1])]) (fun p=> [(4096, .pt 0 133 [.sl (bytes b), .int .i64 (p.2.2.1:Int), .int .i64 p.2.2.2.1]),(5, .sl p.2.1 true true (some (22,1)) (bJ p.2.2.2.2))])
    (fun p g=>g=p.1∧p.2.2.1≤b.length∧p.2.2.2.2.length+p.1≤9∧∀t∈p.2.2.2.2,t.length=32) (bh k4 (1+k2),_,i5,h5,[]) (bh k4 (1+k2)) (by simp(disch:=omega) [VZ];rfl) (by simp(disch:=omega) [bJ,VZ]) ⟨rfl,j5,by simp;omega,by simp⟩ ?_
   rintro⟨n,v,i7,h7,x⟩ nx g ⟨hg,a5,a6,a7⟩ P hP
   simp only at hg a5 a6 a7
   have hlx:(bJ x).length=x.length:=aq x
   simp(disch:=omega) [VZ]
   refine ab (fun h8=> ?_) (fun h8=> ?_)
   case refine_1=>
    simp(disch:=omega) [VZ]
    refine de (dg b i7 h7 a5 hb) ?_
    rintro⟨y,i8,h9⟩ ⟨g8,j8⟩
    simp only at g8 j8
    have e1:IntKind.i64.wrap ((n:Int) - 1)=((n - 1:Nat):Int):=by rw[xU (by omega) (by omega)];omega
    simp(disch:=omega) [cur,hlx,e1,mG,VZ]
    refine hP (n - 1,_,i8,h9,x++ [y]) (g - 1) _ _ (by omega) ⟨by simp only;omega,j8,by simp;omega,fun z hz=> ?_⟩ (by simp(disch:=omega) [VZ];rfl) (by simp(disch:=omega) [VZ])
    rcases List.mem_append.1 hz with hz|hz
    ·exact a7 z hz
    ·simp only[List.mem_singleton]at hz;subst hz;exact g8
   case refine_2=>
    simp(disch:=omega) [cur,VZ]
    refine⟨[(true,aY.o ⟨k3,1+k2,k4,[],x⟩)],by simp[aW,bc,bn,aY.o,ag],⟨k3,1+k2,k4,[],x⟩,i7,⟨⟨?_,by simp;try omega⟩,a5⟩,rfl,rfl⟩
    refine⟨⟨by simp only;omega,by simp only;omega⟩,⟨by simp only;omega,by simp only;omega⟩,⟨by simp only;omega,by simp only;omega⟩,by unfold Sz;simp;try omega,⟨by unfold Sz;simp only;omega,fun z hz=>by have:=a7 z hz;unfold Sz;omega⟩⟩
  case refine_2=>
   simp(disch:=omega) [VZ]
   refine ao (d6 (1+k2) k4 (by omega) (by omega)) ?_
   simp(disch:=omega) [VZ]
   refine dP (σ:=Nat×Nat×Nat×Int×List Bytes) (f0:=_) (by simp(disch:=omega) [VZ];rfl) (dy.zB (s:=6) (k:=5) (i:=4) rfl rfl) (f1:=_) (es0:=_) (by simp(disch:=omega) [VZ];rfl) (by simp(disch:=omega) [VZ];rfl) (fun p=> [(7, .val false [.int .i64 (p.1:Int)]),(6, .box [.int .i64 (k3:Int), .int .i64 (1+(k2:Int)), .int .i64 (k4:Int), .ow 229376 29, .ow 5 p.2.1])]) (fun p=> [(4096, .pt 0 133 [.sl (bytes b), .int .i64 (p.2.2.1:Int), .int .i64 p.2.2.2.1]),(5, .sl p.2.1 true true (some (22,1)) (bJ p.2.2.2.2))])
    (fun p g=>g=p.1∧p.2.2.1≤b.length∧p.2.2.2.2.length+p.1≤9∧∀t∈p.2.2.2.2,t.length=32) (bh k4 (1+k2),_,i5,h5,[]) (bh k4 (1+k2)) (by simp(disch:=omega) [VZ];rfl) (by simp(disch:=omega) [bJ,VZ]) ⟨rfl,j5,by simp;omega,by simp⟩ ?_
   rintro⟨n,v,i7,h7,x⟩ nx g ⟨hg,a5,a6,a7⟩ P hP
   simp only at hg a5 a6 a7
   have hlx:(bJ x).length=x.length:=aq x
   simp(disch:=omega) [VZ]
   refine ab (fun h8=> ?_) (fun h8=> ?_)
   case refine_1=>
    simp(disch:=omega) [VZ]
    refine de (dg b i7 h7 a5 hb) ?_
    rintro⟨y,i8,h9⟩ ⟨g8,j8⟩
    simp only at g8 j8
    have e1:IntKind.i64.wrap ((n:Int) - 1)=((n - 1:Nat):Int):=by rw[xU (by omega) (by omega)];omega
    simp(disch:=omega) [cur,hlx,e1,mG,VZ]
    refine hP (n - 1,_,i8,h9,x++ [y]) (g - 1) _ _ (by omega) ⟨by simp only;omega,j8,by simp;omega,fun z hz=> ?_⟩ (by simp(disch:=omega) [VZ];rfl) (by simp(disch:=omega) [VZ])
    rcases List.mem_append.1 hz with hz|hz
    ·exact a7 z hz
    ·simp only[List.mem_singleton]at hz;subst hz;exact g8
   case refine_2=>
    simp(disch:=omega) [cur,VZ]
    refine⟨[(true,aY.o ⟨k3,1+k2,k4,x5,x⟩)],by simp[aW,bc,bn,aY.o,ag],⟨k3,1+k2,k4,x5,x⟩,i7,⟨⟨?_,by simp;try omega⟩,a5⟩,rfl,rfl⟩
    refine⟨⟨by simp only;omega,by simp only;omega⟩,⟨by simp only;omega,by simp only;omega⟩,⟨by simp only;omega,by simp only;omega⟩,by unfold Sz;simp;try omega,⟨by unfold Sz;simp only;omega,fun z hz=>by have:=a7 z hz;unfold Sz;omega⟩⟩
 case refine_2=>
  simp(disch:=omega) [VZ]
  have hk:k1 < 8:=by omega
  refine de (aw b i1 h1 200 (by omega) j1 hb) ?_
  rintro⟨k3,i3,h3⟩ ⟨g3,j3⟩
  simp only at g3 j3
  simp(disch:=omega) [cur,VZ]
  refine de (aw b i3 h3 (1+k1) (by omega) j3 hb) ?_
  rintro⟨k4,i4,h4⟩ ⟨g4,j4⟩
  simp only at g4 j4
  simp(disch:=omega) [cur,VZ]
  refine de (dX b i4 h4 3 (by omega) j4 hb) ?_
  rintro⟨x5,i5,h5⟩ ⟨g5,j5⟩
  simp only at g5 j5
  have hpl:=cz (1+k1) k4
  simp(disch:=omega) [cur,VZ]
  refine ab (fun h6=> ?_) (fun h6=> ?_)
  case refine_1=>
   simp(disch:=omega) [VZ]
   refine ao (d6 (1+k1) k4 (by omega) (by omega)) ?_
   simp(disch:=omega) [VZ]
   refine dP (σ:=Nat×Nat×Nat×Int×List Bytes) (f0:=_) (by simp(disch:=omega) [VZ];rfl) (dy.zB (s:=6) (k:=5) (i:=4) rfl rfl) (f1:=_) (es0:=_) (by simp(disch:=omega) [VZ];rfl) (by simp(disch:=omega) [VZ];rfl) (fun p=> [(7, .val false [.int .i64 (p.1:Int)]),(6, .box [.int .i64 (k3:Int), .int .i64 (1+(k1:Int)), .int .i64 (k4:Int), .nils, .ow 5 p.2.1])]) (fun p=> [(4096, .pt 0 133 [.sl (bytes b), .int .i64 (p.2.2.1:Int), .int .i64 p.2.2.2.1]),(5, .sl p.2.1 true true (some (22,1)) (bJ p.2.2.2.2))])
    (fun p g=>g=p.1∧p.2.2.1≤b.length∧p.2.2.2.2.length+p.1≤9∧∀t∈p.2.2.2.2,t.length=32) (bh k4 (1+k1),_,i5,h5,[]) (bh k4 (1+k1)) (by simp(disch:=omega) [VZ];rfl) (by simp(disch:=omega) [bJ,VZ]) ⟨rfl,j5,by simp;omega,by simp⟩ ?_
   rintro⟨n,v,i7,h7,x⟩ nx g ⟨hg,a5,a6,a7⟩ P hP
   simp only at hg a5 a6 a7
   have hlx:(bJ x).length=x.length:=aq x
   simp(disch:=omega) [VZ]
   refine ab (fun h8=> ?_) (fun h8=> ?_)
   case refine_1=>
    simp(disch:=omega) [VZ]
    refine de (dg b i7 h7 a5 hb) ?_
    rintro⟨y,i8,h9⟩ ⟨g8,j8⟩
    simp only at g8 j8
    have e1:IntKind.i64.wrap ((n:Int) - 1)=((n - 1:Nat):Int):=by rw[xU (by omega) (by omega)];omega
    simp(disch:=omega) [cur,hlx,e1,mG,VZ]
    refine hP (n - 1,_,i8,h9,x++ [y]) (g - 1) _ _ (by omega) ⟨by simp only;omega,j8,by simp;omega,fun z hz=> ?_⟩ (by simp(disch:=omega) [VZ];rfl) (by simp(disch:=omega) [VZ])
    rcases List.mem_append.1 hz with hz|hz
    ·exact a7 z hz
    ·simp only[List.mem_singleton]at hz;subst hz;exact g8
   case refine_2=>
    simp(disch:=omega) [cur,VZ]
    refine⟨[(true,aY.o ⟨k3,1+k1,k4,[],x⟩)],by simp[aW,bc,bn,aY.o,ag],⟨k3,1+k1,k4,[],x⟩,i7,⟨⟨?_,by simp;try omega⟩,a5⟩,rfl,rfl⟩
    refine⟨⟨by simp only;omega,by simp only;omega⟩,⟨by simp only;omega,by simp only;omega⟩,⟨by simp only;omega,by simp only;omega⟩,by unfold Sz;simp;try omega,⟨by unfold Sz;simp only;omega,fun z hz=>by have:=a7 z hz;unfold Sz;omega⟩⟩
  case refine_2=>
   simp(disch:=omega) [VZ]
   refine ao (d6 (1+k1) k4 (by omega) (by omega)) ?_
   simp(disch:=omega) [VZ]
   refine dP (σ:=Nat×Nat×Nat×Int×List Bytes) (f0:=_) (by simp(disch:=omega) [VZ];rfl) (dy.zB (s:=6) (k:=5) (i:=4) rfl rfl) (f1:=_) (es0:=_) (by simp(disch:=omega) [VZ];rfl) (by simp(disch:=omega) [VZ];rfl) (fun p=> [(7, .val false [.int .i64 (p.1:Int)]),(6, .box [.int .i64 (k3:Int), .int .i64 (1+(k1:Int)), .int .i64 (k4:Int), .ow 229376 24, .ow 5 p.2.1])]) (fun p=> [(4096, .pt 0 133 [.sl (bytes b), .int .i64 (p.2.2.1:Int), .int .i64 p.2.2.2.1]),(5, .sl p.2.1 true true (some (22,1)) (bJ p.2.2.2.2))])
    (fun p g=>g=p.1∧p.2.2.1≤b.length∧p.2.2.2.2.length+p.1≤9∧∀t∈p.2.2.2.2,t.length=32) (bh k4 (1+k1),_,i5,h5,[]) (bh k4 (1+k1)) (by simp(disch:=omega) [VZ];rfl) (by simp(disch:=omega) [bJ,VZ]) ⟨rfl,j5,by simp;omega,by simp⟩ ?_
   rintro⟨n,v,i7,h7,x⟩ nx g ⟨hg,a5,a6,a7⟩ P hP
   simp only at hg a5 a6 a7
   have hlx:(bJ x).length=x.length:=aq x
   simp(disch:=omega) [VZ]
   refine ab (fun h8=> ?_) (fun h8=> ?_)
   case refine_1=>
    simp(disch:=omega) [VZ]
    refine de (dg b i7 h7 a5 hb) ?_
    rintro⟨y,i8,h9⟩ ⟨g8,j8⟩
    simp only at g8 j8
    have e1:IntKind.i64.wrap ((n:Int) - 1)=((n - 1:Nat):Int):=by rw[xU (by omega) (by omega)];omega
    simp(disch:=omega) [cur,hlx,e1,mG,VZ]
    refine hP (n - 1,_,i8,h9,x++ [y]) (g - 1) _ _ (by omega) ⟨by simp only;omega,j8,by simp;omega,fun z hz=> ?_⟩ (by simp(disch:=omega) [VZ];rfl) (by simp(disch:=omega) [VZ])
    rcases List.mem_append.1 hz with hz|hz
    ·exact a7 z hz
    ·simp only[List.mem_singleton]at hz;subst hz;exact g8
   case refine_2=>
    simp(disch:=omega) [cur,VZ]
    refine⟨[(true,aY.o ⟨k3,1+k1,k4,x5,x⟩)],by simp[aW,bc,bn,aY.o,ag],⟨k3,1+k1,k4,x5,x⟩,i7,⟨⟨?_,by simp;try omega⟩,a5⟩,rfl,rfl⟩
    refine⟨⟨by simp only;omega,by simp only;omega⟩,⟨by simp only;omega,by simp only;omega⟩,⟨by simp only;omega,by simp only;omega⟩,by unfold Sz;simp;try omega,⟨by unfold Sz;simp only;omega,fun z hz=>by have:=a7 z hz;unfold Sz;omega⟩⟩
theorem Lg:fy.wc:=⟨⟨⟨by decide,by decide⟩,⟨by decide,by decide⟩,by simp[fy,Sz],by simp[fy,Sz],by simp[fy,Sz]⟩,fun x hx=>by simp[fy]at hx⟩
theorem Hj:av.wc:=by
 refine⟨⟨by decide,by decide⟩,⟨⟨by decide,by decide⟩,⟨by decide,by decide⟩,by simp[av,bD,Sz],⟨by decide,by decide⟩,by simp[av,bD,Sz]⟩,Lg,EV,⟨⟨EV,by simp[av,aH,nB,Sz]⟩,by simp[av,aH]⟩,⟨⟨by decide,by decide⟩,by simp[av,hU,Sz],by simp[av,hU]⟩,⟨⟨⟨by simp[av,aK,Sz],by simp[av,aK]⟩,Lg.1⟩,by simp[av,aK],Lg⟩,⟨⟨by decide,by decide⟩,⟨by decide,by decide⟩,⟨by decide,by decide⟩,by simp[av,bA,Sz],by simp[av,bA,nB,Sz]⟩,by simp[av,bA]⟩
abbrev qw:Nat:=134
def qZ:AF:=⟨2,6,[.cell 4 45 true],(.seq (.ops [.i (.lbox 3 (.s 1)), .i (.lal 4 [.int .i64 0, .int .i64 0, .int .i64 0, .nils, .int .i64 0, .nils, .int .i64 0, .int .i64 0, .nils, .nils, .nils, .int .i64 0, .int .i64 0, .int .i64 0, .nils, .nils, .int .i64 0, .int .i64 0, .nils, .nils, .nils, .int .i64 0, .int .i64 0, .int .i64 0, .nils, .nils, .int .i64 0, .int .i64 0, .nils, .nils, .nils, .nils, .int .i64 0, .nils, .nils, .int .i64 0, .int .i64 0, .nils, .nils, .nils, .int .i64 0, .int .i64 0, .int .i64 0, .nils, .nils])]) (.seq (.seq (.ops [qm 5 0, .i (.call 7 97 false [(.s 5),(qi 9)])]) (.block 0 (.seq (.ops [.i (.bin 8 .eql (.s 6) (qi 0)),qm 7 8]) (.cond (.s 7) (.seq (.ops [qm 9 0,ql 10 3 3 5 true, .i (.call 12 185 false [(.s 9),(.s 10)]),qk 13 184 11,qs 4 4 12 45]) .ret) (.seq (.ops [.i (.bin 14 .eql (.s 6) (qi 1)),qm 13 14]) (.cond (.s 13) (.seq (.ops [qm 15 0,ql 16 3 3 5 true, .i (.call 18 187 false [(.s 15),(.s 16)]),qk 19 186 17,qs 4 4 18 45]) .ret) (.seq (.ops [.i (.bin 20 .eql (.s 6) (qi 2)),qm 19 20]) (.cond (.s 19) (.seq (.ops [qm 21 0,ql 22 3 3 5 true, .i (.call 24 189 false [(.s 21),(.s 22)]),qk 25 188 23,qs 4 4 24 45]) .ret) (.seq (.ops [.i (.bin 26 .eql (.s 6) (qi 3)),qm 25 26]) (.cond (.s 25) (.seq (.ops [qm 27 0,ql 28 3 3 5 true, .i (.call 30 191 false [(.s 27),(.s 28)]),qk 31 190 29,qs 4 4 30 45]) .ret) (.seq (.ops [.i (.bin 32 .eql (.s 6) (qi 4)),qm 31 32]) (.cond (.s 31) (.seq (.ops [qm 33 0,ql 34 3 3 5 true, .i (.call 36 193 false [(.s 33),(.s 34)]),qk 37 192 35,qs 4 4 36 45]) .ret) (.seq (.ops [.i (.bin 38 .eql (.s 6) (qi 5)),qm 37 38]) (.cond (.s 37) (.seq (.ops [qf 39 3 2,ql 40 3 39 1 false, .i (.bin 41 .gtr (.s 40) (qi 0))]) (.cond (.s 41) (.seq (.ops [qm 42 0,ql 43 3 3 5 true, .i (.call 45 195 false [(.s 42),(.s 43)]),qk 46 194 44,qs 4 4 45 45]) .ret) .skip)) .skip)))))))))))))) (.seq (.ops [qm 46 0,ql 47 3 3 5 true, .i (.call 49 161 false [(.s 46),(.s 47)]),qk 50 160 48,qs 4 4 49 45]) .ret)))⟩
theorem Ce:cd qw=some qZ:=by kernel_rfl
theorem KB (b:Bytes) (i:Nat) (h:Int) (l:ah) (hl:l.rd) (hi:i≤b.length) (hb:b.length≤1073741824):VC cd qw (iO [] 133 (cur b i h) [(true,l.c)]) (fun r p=>∃x:aJ×Nat×Int,(x.1.wc∧x.2.1≤b.length)∧r= [(true,x.1.o)]∧p= [.pt 133 (cur b x.2.1 x.2.2)]):=by
 refine VC.pq ?_
 refine ax Ce rfl ?_
 simp(disch:=omega) [qZ,cur,ah.c,VZ]
 refine de (aw b i h 9 (by omega) hi hb) ?_
 rintro⟨k1,i1,h1⟩ ⟨g1,j1⟩
 simp only at g1 j1
 have hk:k1=0∨k1=1∨k1=2∨k1=3∨k1=4∨k1=5∨k1=6∨k1=7∨k1=8:=by omega
 rcases hk with rfl|rfl|rfl|rfl|rfl|rfl|hk
 ·simp(disch:=omega) [cur,VZ]
  refine de (wk b i1 h1 l hl.1 j1 hb) ?_ (n1:=by intro _;simp(disch:=omega) [ah.c,Qc.o,VZ]) (n3:=by intro _;simp(disch:=omega) [ah.c,Qc.o,VZ])
  rintro⟨x2,i2,h2⟩ ⟨g2,j2⟩
  simp only at g2 j2
  simp(disch:=omega) [cur,Qc.o,VZ]
  refine ao (xm x2 (g2.wc)) ?_ (ha:=by first|rfl|(simp[Qc.c,Head.c,Qc.c,VY] <;>repeat' constructor))
  simp(disch:=omega) [cur,rz,aW,bc,bn,VZ]
  exact⟨[(true,aJ.o {av with kind:=2,qc:=x2})],by simp[aW,bc,bn,aJ.o,av,bD,fy,aZ,aH,hU,aK,bA,ag,bk,bm,bo],{av with kind:=2,qc:=x2},i2,⟨{Hj with kind:=⟨by simp only;omega,by simp only;omega⟩,qc:=g2.wc},j2⟩,rfl,rfl⟩
 ·simp(disch:=omega) [cur,VZ]
  refine de (mc b i1 h1 l hl.1 j1 hb) ?_ (n1:=by intro _;simp(disch:=omega) [ah.c,Head.o,VZ]) (n3:=by intro _;simp(disch:=omega) [ah.c,Head.o,VZ])
  rintro⟨x2,i2,h2⟩ ⟨g2,j2⟩
  simp only at g2 j2
  simp(disch:=omega) [cur,Head.o,VZ]
  refine ao (pv x2 g2) ?_ (ha:=by first|rfl|(simp[Head.c,Head.c,Qc.c,VY] <;>repeat' constructor))
  simp(disch:=omega) [cur,fK,aW,bc,bn,VZ]
  exact⟨[(true,aJ.o {av with kind:=3,head:=x2})],by simp[aW,bc,bn,aJ.o,av,bD,fy,aZ,aH,hU,aK,bA,ag,bk,bm,bo],{av with kind:=3,head:=x2},i2,⟨{Hj with kind:=⟨by simp only;omega,by simp only;omega⟩,head:=g2},j2⟩,rfl,rfl⟩
 ·simp(disch:=omega) [cur,VZ]
  refine de (Ll b i1 h1 l hl j1 hb) ?_ (n1:=by intro _;simp(disch:=omega) [ah.c,Block.o,VZ]) (n3:=by intro _;simp(disch:=omega) [ah.c,Block.o,VZ])
  rintro⟨x2,i2,h2⟩ ⟨g2,j2⟩
  simp only at g2 j2
  simp(disch:=omega) [cur,Block.o,VZ]
  refine ao (oA x2 g2.1) ?_ (ha:=by first|rfl|(simp[Block.c,Head.c,Qc.c,VY] <;>repeat' constructor))
  simp(disch:=omega) [cur,eB,aW,bc,bn,VZ]
  exact⟨[(true,aJ.o {av with kind:=4,block:=x2})],by simp[aW,bc,bn,aJ.o,av,bD,fy,aZ,aH,hU,aK,bA,ag,bk,bm,bo],{av with kind:=4,block:=x2},i2,⟨{Hj with kind:=⟨by simp only;omega,by simp only;omega⟩,block:=g2},j2⟩,rfl,rfl⟩
 ·simp(disch:=omega) [cur,VZ]
  refine de (LD b i1 h1 l hl.1 j1 hb) ?_ (n1:=by intro _;simp(disch:=omega) [ah.c,Tc.o,VZ]) (n3:=by intro _;simp(disch:=omega) [ah.c,Tc.o,VZ])
  rintro⟨x2,i2,h2⟩ ⟨g2,j2⟩
  simp only at g2 j2
  simp(disch:=omega) [cur,Tc.o,VZ]
  refine ao (xw x2 g2) ?_ (ha:=by first|rfl|(simp[Tc.c,Head.c,Qc.c,VY] <;>repeat' constructor))
  simp(disch:=omega) [cur,pI,aW,bc,bn,VZ]
  exact⟨[(true,aJ.o {av with kind:=5,tc:=x2})],by simp[aW,bc,bn,aJ.o,av,bD,fy,aZ,aH,hU,aK,bA,ag,bk,bm,bo],{av with kind:=5,tc:=x2},i2,⟨{Hj with kind:=⟨by simp only;omega,by simp only;omega⟩,tc:=g2},j2⟩,rfl,rfl⟩
 ·simp(disch:=omega) [cur,VZ]
  refine de (Ls b i1 h1 l hl j1 hb) ?_ (n1:=by intro _;simp(disch:=omega) [ah.c,Proof.o,VZ]) (n3:=by intro _;simp(disch:=omega) [ah.c,Proof.o,VZ])
  rintro⟨x2,i2,h2⟩ ⟨g2,j2⟩
  simp only at g2 j2
  simp(disch:=omega) [cur,Proof.o,VZ]
  refine ao (nL x2 g2) ?_ (ha:=by first|rfl|(simp[Proof.c,Head.c,Qc.c,VY] <;>repeat' constructor))
  simp(disch:=omega) [cur,ee,aW,bc,bn,VZ]
  exact⟨[(true,aJ.o {av with kind:=6,proof:=x2})],by simp[aW,bc,bn,aJ.o,av,bD,fy,aZ,aH,hU,aK,bA,ag,bk,bm,bo],{av with kind:=6,proof:=x2},i2,⟨{Hj with kind:=⟨by simp only;omega,by simp only;omega⟩,proof:=g2},j2⟩,rfl,rfl⟩
 ·simp(disch:=omega) [cur,VZ]
  refine ab (fun h5=> ?_) (fun h5=> ?_)
  case refine_2=>
   simp(disch:=omega) [VZ]
   refine de (wu b i1 h1 l hl.1 j1 hb) ?_ (n1:=by intro _;simp(disch:=omega) [ah.c,bp.o,VZ]) (n3:=by intro _;simp(disch:=omega) [ah.c,bp.o,VZ])
   rintro⟨x2,i2,h2⟩ ⟨⟨g2,g3,g4,g5,g6⟩,j2⟩
   simp only at g2 g3 g4 g5 g6 j2
   have hw:x2.wf:=⟨cX g2,cX g3,by unfold Sz;omega,by have:=c8 g5;have:=hl.1;exact⟨by omega,by omega⟩,by unfold Sz;omega⟩
   simp(disch:=omega) [cur,bp.o,VZ]
   refine ao (fS x2 hw) ?_ (ha:=by first|rfl|(simp[bp.c,VY] <;>repeat' constructor))
   simp(disch:=omega) [cur,eH,aW,bc,bn,VZ]
   exact⟨[(true,aJ.o {av with kind:=1,vote:=x2})],by simp[aW,bc,bn,aJ.o,av,bD,fy,aZ,aH,hU,aK,bA,ag,bk,bm,bo],{av with kind:=1,vote:=x2},i2,⟨{Hj with kind:=⟨by simp only;omega,by simp only;omega⟩,vote:=hw},j2⟩,rfl,rfl⟩
  simp(disch:=omega) [VZ]
  refine de (LI b i1 h1 l hl j1 hb) ?_ (n1:=by intro _;simp(disch:=omega) [ah.c,aY.o,VZ]) (n3:=by intro _;simp(disch:=omega) [ah.c,aY.o,VZ])
  rintro⟨x2,i2,h2⟩ ⟨g2,j2⟩
  simp only at g2 j2
  simp(disch:=omega) [cur,aY.o,VZ]
  refine ao (qA x2 g2.1) ?_ (ha:=by first|rfl|(simp[aY.c,Head.c,Qc.c,VY] <;>repeat' constructor))
  simp(disch:=omega) [cur,fO,aW,bc,bn,VZ]
  exact⟨[(true,aJ.o {av with kind:=7,incl:=x2})],by simp[aW,bc,bn,aJ.o,av,bD,fy,aZ,aH,hU,aK,bA,ag,bk,bm,bo],{av with kind:=7,incl:=x2},i2,⟨{Hj with kind:=⟨by simp only;omega,by simp only;omega⟩,incl:=g2.1,tx:=by have:=g2.2;simp only;omega},j2⟩,rfl,rfl⟩
 ·have n0:¬k1=0∧¬k1=1∧¬k1=2∧¬k1=3∧¬k1=4∧¬k1=5:=by omega
  have n1:¬(k1:Int)=0∧¬(k1:Int)=1∧¬(k1:Int)=2∧¬(k1:Int)=3∧¬(k1:Int)=4∧¬(k1:Int)=5:=by omega
  simp(disch:=omega) [cur,n0.1,n0.2.1,n0.2.2.1,n0.2.2.2.1,n0.2.2.2.2.1,n0.2.2.2.2.2,n1.1,n1.2.1,n1.2.2.1,n1.2.2.2.1,n1.2.2.2.2.1,n1.2.2.2.2.2,VZ]
  refine de (wu b i1 h1 l hl.1 j1 hb) ?_ (n1:=by intro _;simp(disch:=omega) [ah.c,bp.o,VZ]) (n3:=by intro _;simp(disch:=omega) [ah.c,bp.o,VZ])
  rintro⟨x2,i2,h2⟩ ⟨⟨g2,g3,g4,g5,g6⟩,j2⟩
  simp only at g2 g3 g4 g5 g6 j2
  have hw:x2.wf:=⟨cX g2,cX g3,by unfold Sz;omega,by have:=c8 g5;have:=hl.1;exact⟨by omega,by omega⟩,by unfold Sz;omega⟩
  simp(disch:=omega) [cur,bp.o,VZ]
  refine ao (fS x2 hw) ?_ (ha:=by first|rfl|(simp[bp.c,VY] <;>repeat' constructor))
  simp(disch:=omega) [cur,eH,aW,bc,bn,VZ]
  exact⟨[(true,aJ.o {av with kind:=1,vote:=x2})],by simp[aW,bc,bn,aJ.o,av,bD,fy,aZ,aH,hU,aK,bA,ag,bk,bm,bo],{av with kind:=1,vote:=x2},i2,⟨{Hj with kind:=⟨by simp only;omega,by simp only;omega⟩,vote:=hw},j2⟩,rfl,rfl⟩
end Go.Eng.F
namespace Go.Eng.F
end Go.Eng.F
namespace Go.Eng.F
theorem At.le {b:Bytes} {a:Nat} {s:Bytes} (h:At b a s) (h0:0 < s.length):a+s.length≤b.length:=by
 rcases h.len with h1|h1
 ·exact h1
 ·rw[h1]at h0;simp at h0
def Cut (b:Bytes) (a:Nat) (s:Bytes):Prop:=a≤b.length∧∃k,k < s.length∧b.drop a=s.take k
theorem Cut.app {b:Bytes} {a:Nat} {s t:Bytes} (h:Cut b a (s++t)):Cut b a s∨(At b a s∧Cut b (a+s.length) t):=by
 obtain⟨h0,k,hk,h⟩:=h
 by_cases hs:k < s.length
 ·exact .inl ⟨h0,k,hs,by rw[h,List.take_append_of_le_length (by omega)]⟩
 ·have e:b.drop a=s++t.take (k - s.length):=by rw[h,List.take_append,List.take_of_length_le (by omega)]
  have hl:=congrArg List.length e
  simp only[List.length_drop,List.length_append,List.length_take]at hl hk
  refine .inr ⟨⟨_,e⟩,by omega,k - s.length,by omega,?_⟩
  rw[←List.drop_drop,e,List.drop_left]
theorem Cut.nil {b:Bytes} {a:Nat} (h:Cut b a []):False:=by
 obtain⟨_,k,hk,_⟩:=h
 simp at hk
theorem QT {r:Rd} {c:Nat}:bQ r false c=r:=by simp[bQ]
theorem M8 {l:ah} {h:Head} (w:bx l h=true):isNum h.view=true∧isNum h.height=true∧isNum h.proposer=true∧1≤h.height∧h.proposer < l.n∧h.parent.length=32∧h.root.length=32∧eS l h.qc=true∧fits h=true:=by
 simp only[bx,Bool.and_eq_true]at w
 have h1:=c8 w.1.1.1.1.2
 have h2:=c8 w.1.1.1.2
 have h3:l.ok=true:=by have:=w.1.1.1.1.1.1;simp only[eS,Bool.and_eq_true]at this;exact this.1.1.1.1.1.1
 have h4:=kb h3
 refine⟨w.1.1.1.1.1.2,by simp only[isNum,cO,decide_eq_true_eq];omega,by simp only[isNum,cO,decide_eq_true_eq];omega,h1.1,by omega,hQ w.1.1.2,hQ w.1.2,w.1.1.1.1.1.1,w.2⟩
theorem K4 {l:ah} {x:Block} (h:bj l x=true):bx l x.head=true∧l.ok=true∧(x.txs.length:Int)≤l.txs∧(∀t∈x.txs,t.length≤l.tx.toNat)∧x.head.root=a9 x.txs:=by
 simp only[bj,Bool.and_eq_true,decide_eq_true_eq]at h
 have h3:l.ok=true:=by have:=h.1.1.1;simp only[bx,eS,Bool.and_eq_true]at this;exact this.1.1.1.1.1.1.1.1.1.1.1.1
 refine⟨h.1.1.1,h3,h.1.1.2,fun t ht=> ?_,h.2⟩
 have h2:=h.1.2
 simp only[yr,List.all_eq_true,decide_eq_true_eq]at h2
 have:=h2 t ht
 omega
def Dr (l:ah) (view:Int):Int→List Entry→Prop
 |_,[]=>True
 |bf,e::es=>((0≤e.who∧e.who < l.n∧bf < e.who)∧(0≤e.high∧e.high < view)∧e.tag.length=32)∧Dr l view e.who es
theorem Gf {l:ah} {t:Tc} (h:∀i < t.entries.length,cn l t i=true):∀(es pre:List Entry) (bf:Int),t.entries=pre++es→(pre= []∧bf= -1∨∃d,pre.getLast? =some d∧d.who=bf)→Dr l t.view bf es
 | [],_,_,_,_=>trivial
 |e::es,pre,bf,he,hp=>by
  have hi:t.entries[pre.length]? =some e:=by rw[he];simp
  have h1:=h pre.length (by rw[he];simp)
  simp only[cn,hi,Bool.and_eq_true,Bool.or_eq_true,decide_eq_true_eq]at h1
  obtain⟨⟨⟨a1,a2⟩,a3⟩,a4⟩:=h1
  have b1:=c8 a1
  have b2:=c8 a2
  refine⟨⟨⟨by omega,by omega,?_⟩,⟨by omega,by omega⟩,hQ a3⟩,Gf h es (pre++ [e]) e.who (by rw[he];simp) (.inr ⟨e,by simp,rfl⟩)⟩
  rcases hp with⟨rfl,rfl⟩|⟨d,hd,rfl⟩
  ·omega
  ·have hn:pre≠ []:=by rintro rfl;simp at hd
   have hpl:0 < pre.length:=List.length_pos_iff.2 hn
   have h2:t.entries[pre.length - 1]? =some d:=by
    rw[he,List.getElem?_append_left (by omega),←List.getLast?_eq_getElem?]
    exact hd
   rw[h2]at a4
   rcases a4 with a4|a4
   ·omega
   ·simpa using a4
theorem P6 {l:ah} {t:Tc} (h:fP l t=true):l.ok=true∧isNum t.view=true∧(t.entries.length:Int)≤l.n∧Dr l t.view (-1) t.entries:=by
 simp only[fP,Bool.and_eq_true,decide_eq_true_eq,List.all_eq_true,List.mem_range]at h
 exact⟨h.1.1.1,h.1.1.2,h.1.2,Gf h.2 t.entries [] (-1) rfl (.inl ⟨rfl,rfl⟩)⟩
theorem K9 {l:ah} {p:Proof} (h:cj l p=true):l.ok=true∧(3≤p.heads.length∧(p.heads.length:Int)≤l.heads)∧(∀h∈p.heads,bx l h=true)∧eS l p.qc=true∧sj p=true:=by
 simp only[cj,Bool.and_eq_true,iI,List.all_eq_true]at h
 have h3:l.ok=true:=by have:=h.1.2;simp only[eS,Bool.and_eq_true]at this;exact this.1.1.1.1.1.1
 have:=c8 h.1.1.1
 exact⟨h3,by omega,h.1.1.2,h.1.2,h.2⟩
theorem MV {l:ah} {x:aY} (h:dS l x=true):l.ok=true∧isNum x.height=true∧(1≤x.n∧x.n≤l.txs)∧(0≤x.idx∧x.idx < x.n)∧(x.tx.length:Int)≤l.tx∧x.path.length=bh x.idx.toNat x.n.toNat∧∀t∈x.path,t.length=32:=by
 simp only[dS,Bool.and_eq_true,decide_eq_true_eq,hashes,List.all_eq_true]at h
 have h1:=c8 h.1.1.1.1.2
 have h2:=c8 h.1.1.1.2
 exact⟨h.1.1.1.1.1.1,h.1.1.1.1.1.2,by omega,by omega,h.1.1.2,h.1.2,fun t ht=>hQ (h.2 t ht)⟩
end Go.Eng.F
