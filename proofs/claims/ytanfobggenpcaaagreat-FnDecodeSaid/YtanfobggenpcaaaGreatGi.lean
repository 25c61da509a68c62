import Derived.Test.YtanfobggenpcaaaGreatGg
import Derived.Test.YtanfobggenpcaaaGreatGh
set_option maxRecDepth 100000
set_option linter.unusedSimpArgs false
set_option linter.unusedVariables false
namespace Go.Eng.F
theorem E1 (l:List Bytes) (x:Bytes):bE l++ [[.sl (bytes x)]]=bE (l++ [x]):=by simp[bE]
theorem yC (b:Bytes) (a:Nat) (n:Int):(dE b a n).2.wf b∧(dE b a n).1.length≤2:=by
 refine⟨(Ir b a n).1,?_⟩
 simp only[dE]
 split
 ·simp
 ·split
  ·exact Lg ‹_›
  ·simp
def bb.o (v:bb):List E:= [.p (.int .i64 v.view), .p (.int .i64 v.height), .o true (some (5,1)) (bytes v.block), .p (.int .i64 v.who), .o true (some (5,1)) (bytes v.tag)]
abbrev gQ:Nat:=102
def mu:AF:=⟨2,5,[.cell 4 5 true],(.seq (.ops [.i (.lbox 2 (.s 0)), .i (.lal 4 [.int .i64 0, .int .i64 0, .nils, .int .i64 0, .nils])]) (.seq (.ops [qm 5 1,qk 7 165 5,qm 7 1,qk 9 165 7,qm 9 1,qk 11 166 9,qm 11 1,qf 12 2 0,ql 13 2 12 1 false, .i (.call 15 167 false [(.s 11),(.s 13),(qi 5)]),qm 15 1,qk 17 166 15, .i (.bld 17 [.int .i64 0, .int .i64 0, .nils, .int .i64 0, .nils] [(0,1,(.s 6)),(1,1,(.s 8)),(2,1,(.s 10)),(3,1,(.s 14)),(4,1,(.s 16))]),qs 4 4 17 5]) .ret))⟩
theorem zw:cd gQ=some mu:=by kernel_rfl
theorem xn (b:Bytes) (l:ah) (r:Rd) (hr:r.wf b) (hb:b.length≤1073741824):VC cd gQ (ja [(true,l.c)] 215 (bC b r) []) (fun rs p=>rs= [(true,(fo b l r).1.o)]∧p= [.pt 215 (bC b (fo b l r).2)]):=by
 refine aw zw rfl ?_
 simp(disch:=omega) [mu,bC,ah.c,VZ]
 refine du (bI b r hr hb) ?_
 have w1:=dD hr
 generalize h1:cN b r=s1 at w1⊢
 simp(disch:=omega) [bC,VZ]
 refine du (bI b s1.2 w1.1 hb) ?_
 have w2:=dD w1.1
 generalize h2:cN b s1.2=s2 at w2⊢
 simp(disch:=omega) [bC,VZ]
 refine du (cB b s2.2 w2.1 hb) ?_
 have w3:=eQ w2.1 32
 generalize h3:bY b s2.2 32=s3 at w3⊢
 simp(disch:=omega) [bC,VZ]
 refine du (cO b s3.2 l.n 5 w3.1 hb) ?_
 have w4:=fi (n:=l.n) (c:=5) w3.1 (by omega)
 generalize h4:bN b s3.2 l.n 5=s4 at w4⊢
 simp(disch:=omega) [bC,VZ]
 refine du (cB b s4.2 w4.1 hb) ?_
 have w5:=eQ w4.1 32
 generalize h5:bY b s4.2 32=s5 at w5⊢
 simp(disch:=omega) [bC,VZ]
 simp(disch:=omega) [fo,h1,h2,h3,h4,h5,bb.o,bC,VZ]
abbrev jV:Nat:=106
def tl:AF:=⟨2,6,[.cell 4 5 true],(.seq (.ops [.i (.lbox 2 (.s 0)), .i (.lal 4 [.int .i64 0, .int .i64 0, .nils, .nils, .nils])]) (.seq (.ops [qm 6 1,qk 8 165 6,qm 8 1,qk 10 165 8,qm 10 1,qk 12 166 10, .i (.bld 12 [.int .i64 0, .int .i64 0, .nils, .nils, .nils] [(0,1,(.s 7)),(1,1,(.s 9)),(2,1,(.s 11))]), .i (.lal 5 [.int .i64 0, .int .i64 0, .nils, .nils, .nils]),qs 5 5 12 5]) (.seq (.seq (.ops [qm 13 1, .i (.nch 14 (.s 13)),qf 15 14 2, .i (.ldh 16 (.s 15) 1 false), .i (.bin 17 .neq (.s 16) (qi 0))]) (.cond (.s 17) (.seq (.ops [ql 18 5 5 5 true,qs 4 4 18 5]) .ret) .skip)) (.seq (.ops [qm 20 1,qm 21 1,qm 22 1, .i (.nch 23 (.s 22)),qf 24 23 0, .i (.ldh 25 (.s 24) 1 false),qm 26 1, .i (.nch 27 (.s 26)),qf 28 27 1, .i (.ldh 29 (.s 28) 1 false),qf 30 2 0,ql 31 2 30 1 false, .i (.call 33 170 false [(.s 25),(.s 29),(.s 31)]),qm 19 32, .i (.ext 33 (.s 19) 0), .i (.ext 34 (.s 19) 1), .i (.ext 35 (.s 19) 2),qf 36 5 3,qs 5 36 33 1, .i (.nch 37 (.s 20)),qf 38 37 1, .i (.sth (.s 38) (.s 34) 1), .i (.nch 39 (.s 21)),qf 40 39 2, .i (.sth (.s 40) (.s 35) 1)]) (.seq (.seq (.ops [qf 41 5 3,ql 42 5 41 1 false,qk 44 169 42, .i (.mov 44 (qi 0))]) (.block 0 (.loop [53,52,51,50,49,48,47,46,45] (.seq (.ops [qd 45 .lss 44 43]) (.seq (.cond (.s 45) .skip (.exit 0)) (.seq (.block 1 (.ops [qf 46 5 4,ql 47 5 46 1 false,qm 48 1,qk 50 166 48, .i (.lsl 50 1 1 [.nils] [(0,1,(.s 49))]), .i (.app 51 22 1 24 (.s 47) (.s 50)),qf 52 5 4,qs 5 52 51 1])) (.ops [.i (.bin 53 .add (.s 44) (qi 1)),qm 44 53]))))))) (.seq (.ops [ql 54 5 5 5 true,qs 4 4 54 5]) .ret))))))⟩
theorem DT:cd jV=some tl:=by kernel_rfl
theorem d8 (b:Bytes) (l:ah) (r:Rd) (hl:1≤l.n∧l.n≤10) (hr:r.wf b) (hb:b.length≤1073741824):VC cd jV (ja [(true,l.c)] 215 (bC b r) []) (fun rs p=>rs= [(true,(sv b l r).1.o)]∧p= [.pt 215 (bC b (sv b l r).2)]):=by
 refine VC.xh ?_
 refine aw DT rfl ?_
 simp(disch:=omega) [tl,bC,ah.c,VZ]
 refine du (bI b r hr hb) ?_
 have w1:=dD hr
 generalize h1:cN b r=s1 at w1⊢
 simp(disch:=omega) [bC,VZ]
 refine du (bI b s1.2 w1.1 hb) ?_
 have w2:=dD w1.1
 generalize h2:cN b s1.2=s2 at w2⊢
 simp(disch:=omega) [bC,VZ]
 refine du (cB b s2.2 w2.1 hb) ?_
 have w3:=eQ w2.1 32
 generalize h3:bY b s2.2 32=s3 at w3⊢
 simp(disch:=omega) [bC,VZ]
 by_cases g:s3.2.er=0
 case neg=>simp(disch:=omega) [g,sv,h1,h2,h3,Qc.o,bC,aY,bh,bk,ag,bE,VZ]
 simp(disch:=omega) [g,VZ]
 refine ae (zE b s3.2.at_ l.n hl w3.1.1 hb) rfl rfl ?_
 have w4:=yC b s3.2.at_ l.n
 generalize h4:dE b s3.2.at_ l.n=s4 at w4⊢
 simp(disch:=omega) [JE,VZ]
 refine ae (jl s4.1 (by omega)) rfl rfl ?_
 simp(disch:=omega) [VZ]
 refine dI (σ:=Nat×Nat×List Bytes×Rd) (f0:=_) (by simp(disch:=omega) [VZ];rfl) (de.x7 (s:=5) (k:=5) (i:=4) rfl rfl) (f1:=_) (es0:=_) (by simp(disch:=omega) [VZ];rfl) (by simp(disch:=omega) [VZ];rfl) (fun p=> [(44, .val false [.int .i64 (p.1:Int)]),(5, .box [.int .i64 s1.1, .int .i64 s2.1, .ow 106496 19, .ow 278528 24, .ow 5 p.2.1])]) (fun p=> [(4101, .pt 5 215 [.sl (bytes b), .int .i64 (p.2.2.2.at_:Int), .int .i64 (p.2.2.2.er:Int)]),(5, .sl p.2.1 true true (some (22,1)) (bE p.2.2.1))])
  (fun p g=>(g+p.1=(aV s4.1).length∧p.2.2.1.length=p.1)∧p.2.2.2.wf b∧fW (fun r=>bY b r 32) (aV s4.1).length s4.2=(p.2.2.1++(fW (fun r=>bY b r 32) g p.2.2.2).1,(fW (fun r=>bY b r 32) g p.2.2.2).2)) (0,_,[],s4.2) (aV s4.1).length (by simp(disch:=omega) [VZ];rfl) (by simp(disch:=omega) [bE,bC,VZ]) ⟨⟨by simp,rfl⟩,w4.1,by simp⟩ ?_
 rintro⟨i,v,x,q⟩ nx g0 ⟨⟨hg,h5⟩,h6,h7⟩ P hP
 simp only at hg h5 h6 h7
 have hl:(bE x).length=i:=by rw[ao];exact h5
 simp(disch:=omega) [VZ]
 have hb4:=dt s4.1
 refine ab (fun h8=> ?_) (fun h8=> ?_)
 ·simp(disch:=omega) [bC,VZ]
  refine du (cB b q h6 hb) ?_
  have w5:=eQ h6 32
  obtain⟨g1,rfl⟩:∃g1,g0=g1+1:=⟨g0 - 1,by omega⟩
  simp only[fW]at h7
  generalize h9:bY b q 32=s5 at w5 h7⊢
  simp(disch:=omega) [bC,hl,E1,VZ]
  refine hP (i+1,_,x++ [s5.1],s5.2) g1 _ _ (by omega) ⟨⟨by simp only;omega,by simp[h5]⟩,w5.1,by rw[h7];simp⟩ (by simp(disch:=omega) [VZ];rfl) (by simp(disch:=omega) [bC,VZ])
 ·obtain rfl:g0=0:=by omega
  simp only[fW,List.append_nil]at h7
  simp(disch:=omega) [sv,h1,h2,h3,h4,g,h7,Qc.o,bC,aY,bh,bk,VZ]
end Go.Eng.F
namespace Go.Eng.F
abbrev kK:Nat:=241
def kB:AF:=⟨1,4,[.tmp 2],(.seq (.ops [.i (.mov 2 (qi 0))]) (.seq (.ops [qm 3 0,qm 4 0, .i (.call 6 97 false [(.s 4),(qi 100)]),qm 6 0, .i (.call 8 97 false [(.s 6),(qi 100000)]), .i (.bsl 8 3 1 11 [.int .i64 0] [(0,1,(qi 0)),(1,1,(qi 1)),(2,1,(qi 127)),(3,1,(qi 128)),(4,1,(qi 300)),(5,1,(qi 16383)),(6,1,(qi 16384)),(7,1,(qi 1152921504606846975)),(8,1,(qi 1152921504606846974)),(9,1,(.s 5)),(10,1,(.s 7))]), .i (.call 10 155 false [(.s 3),(.s 8)]),qm 2 9]) .ret))⟩
theorem xR:cd kK=some kB:=by kernel_rfl
theorem ib (b:Bytes) (i:Nat) (h:Int) (hi:i≤b.length) (hb:b.length≤1073741824):VC cd kK (ja [] 133 (cur b i h) []) (fun r p=>∃x:Int×Nat×Int,(isNum x.1=true∧x.2.1≤b.length)∧r=it x.1∧p= [.pt 133 (cur b x.2.1 x.2.2)]):=by
 refine aw xR rfl ?_
 simp(disch:=omega) [kB,cur,VZ]
 refine dN (aD b i h 100 (by omega) hi hb) ?_
 rintro⟨k1,i1,h1⟩ ⟨g1,j1⟩
 simp only at g1 j1
 simp(disch:=omega) [cur,VZ]
 refine dN (aD b i1 h1 100000 (by omega) j1 hb) ?_
 rintro⟨k2,i2,h2⟩ ⟨g2,j2⟩
 simp only at g2 j2
 simp(disch:=omega) [cur,VZ]
 refine dN (iM b i2 h2 [0,1,127,128,300,16383,16384,1152921504606846975,1152921504606846974,(k1:Int),(k2:Int)] (by simp) (by simp) j2 hb) ?_
 rintro⟨k3,i3,h3⟩ ⟨g3,j3⟩
 simp only at g3 j3
 simp(disch:=omega) [cur,VZ]
 simp only[List.mem_cons,List.not_mem_nil,or_false]at g3
 exact⟨k3,i3,⟨by simp only[isNum,dK,decide_eq_true_eq];omega,j3⟩,rfl,rfl⟩
theorem ig {n:Int} (h:isNum n=true):lx n:=by
 have:=c7 h
 exact⟨by omega,by omega⟩
abbrev rH:Nat:=161
def ri:AF:=⟨2,5,[.cell 4 5 true],(.seq (.ops [.i (.lbox 3 (.s 1)), .i (.lal 4 [.int .i64 0, .int .i64 0, .nils, .int .i64 0, .nils])]) (.seq (.ops [qm 5 0,qk 7 241 5,qm 7 0,qk 9 241 7,qm 9 0,qk 11 242 9,qm 11 0,qf 12 3 0,ql 13 3 12 1 false, .i (.call 15 97 false [(.s 11),(.s 13)]),qm 15 0,qk 17 242 15, .i (.bld 17 [.int .i64 0, .int .i64 0, .nils, .int .i64 0, .nils] [(0,1,(.s 6)),(1,1,(.s 8)),(2,1,(.s 10)),(3,1,(.s 14)),(4,1,(.s 16))]),qs 4 4 17 5]) .ret))⟩
theorem Av:cd rH=some ri:=by kernel_rfl
theorem uX (b:Bytes) (i:Nat) (h:Int) (l:ah) (hl:1≤l.n∧l.n≤10) (hi:i≤b.length) (hb:b.length≤1073741824):VC cd rH (ja [] 133 (cur b i h) [(true,l.c)]) (fun r p=>∃x:bb×Nat×Int,((isNum x.1.view=true∧isNum x.1.height=true∧x.1.block.length=32∧dK x.1.who 0 (l.n - 1)=true∧x.1.tag.length=32)∧x.2.1≤b.length)∧r= [(true,x.1.o)]∧p= [.pt 133 (cur b x.2.1 x.2.2)]):=by
 refine aw Av rfl ?_
 simp(disch:=omega) [ri,cur,ah.c,VZ]
 refine dN (ib b i h hi hb) ?_
 rintro⟨k1,i1,h1⟩ ⟨g1,j1⟩
 simp only at g1 j1
 simp(disch:=omega) [cur,VZ]
 refine dN (ib b i1 h1 j1 hb) ?_
 rintro⟨k2,i2,h2⟩ ⟨g2,j2⟩
 simp only at g2 j2
 simp(disch:=omega) [cur,VZ]
 refine dN (c8 b i2 h2 j2 hb) ?_
 rintro⟨x3,i3,h3⟩ ⟨g3,j3⟩
 simp only at g3 j3
 obtain⟨m,hm⟩:∃m:Nat,l.n=(m:Int):=⟨l.n.toNat,by omega⟩
 simp(disch:=omega) [cur,hm,VZ]
 refine dN (aD b i3 h3 m (by omega) j3 hb) ?_
 rintro⟨k4,i4,h4⟩ ⟨g4,j4⟩
 simp only at g4 j4
 simp(disch:=omega) [cur,VZ]
 refine dN (c8 b i4 h4 j4 hb) ?_
 rintro⟨x5,i5,h5⟩ ⟨g5,j5⟩
 simp only at g5 j5
 simp(disch:=omega) [cur,VZ]
 refine⟨⟨k1,k2,x3,k4,x5⟩,i5,⟨⟨g1,g2,g3,by simp only[dK,decide_eq_true_eq];omega,g5⟩,j5⟩,rfl,rfl⟩
abbrev qW:Nat:=317
def oJ:AF:=⟨1,4,[.tmp 2],(.seq (.ops [.i (.mov 2 (.c (.val false [.nils])))]) (.seq (.seq (.ops [qm 3 0,qk 5 279 3, .i (.not 5 (.s 4))]) (.cond (.s 5) (.seq (.ops [.i (.mov 2 (.c (.val false [.nils])))]) .ret) .skip)) (.seq (.ops [qm 6 0,qk 8 341 6, .i (.mks 8 5 1 1 [.int .u8 0] (.s 7)),qm 2 8]) .ret)))⟩
theorem Ay:cd qW=some oJ:=by kernel_rfl
theorem zJ (n:Int) (hn:1≤n∧n≤10):VC cd qW (aE [(false,[.int .i64 n])]) (fun rs _=>rs= [(false,[.o true (some (5,1)) (bytes (List.replicate (tJ n).toNat 0))])]):=by
 have h1:dK n 1 10=true:=by simp only[dK,decide_eq_true_eq];omega
 have h2:=xk hn
 have h3:0≤tJ n:=by unfold tJ;split <;>omega
 refine aa Ay rfl ?_
 simp(disch:=omega) [oJ,VY]
 refine aq (fe n) ?_
 simp(disch:=omega) [h1,VY]
 refine aq (kY n (by omega) (by omega)) ?_
 have e1:List.replicate (tJ n).toNat [D.int .u8 0]=bytes (List.replicate (tJ n).toNat 0):=AH _
 simp(disch:=omega) [h3,e1,VY]
theorem Md (x:Bytes) (j:Nat) (y z:Int):(bytes x).set j [.int .u8 (aN .or .u8 y z)]=bytes (x.set j (b8 ((BitVec.ofInt IntKind.u8.bits y|||BitVec.ofInt IntKind.u8.bits z).toNat:Int))):=u6 x j _
abbrev qI:Nat:=265
def rV:AF:=⟨2,5,[.tmp 4],(.seq (.ops [.i (.mov 4 (.c (.val false [.nils])))]) (.seq (.ops [qm 7 1,qk 9 317 7,qm 5 8]) (.seq (.seq (.ops [.i (.mov 6 (qi 0))]) (.block 0 (.loop [29,28,27,26,25,24,23,22,21,20,19,18,17,16,15,14,13,12,11,10,9] (.seq (.seq (.ops [qm 9 6,qm 10 1,qd 11 .lss 9 10]) (.cond (.s 11) .skip (.exit 0))) (.seq (.block 1 (.seq (.ops [qm 14 0, .i (.call 16 135 false [(.s 14),(qi 3)]), .i (.not 16 (.s 15))]) (.cond (.s 16) (.ops [qm 17 5,qm 18 6, .i (.bin 19 .quo (.s 18) (qi 8)),qm 20 5,qm 21 6, .i (.bin 22 .quo (.s 21) (qi 8)), .i (.iad 23 (.s 20) (.s 22) 1), .i (.ldh 24 (.s 23) 1 false),qm 25 6, .i (.bin 26 .rem (.s 25) (qi 8)), .i (.bin 27 .shl (.c (.val false [.int .u8 1])) (.s 26)),qd 28 .or 24 27, .i (.iad 29 (.s 17) (.s 19) 1), .i (.sth (.s 29) (.s 28) 1)]) .skip))) (.ops [qm 12 6, .i (.bin 13 .add (.s 12) (qi 1)),qm 6 13])))))) (.seq (.ops [qm 30 5,qm 4 30]) .ret))))⟩
theorem BZ:cd qI=some rV:=by kernel_rfl
theorem Iv (b:Bytes) (i:Nat) (h:Int) (n:Int) (hn:1≤n∧n≤10) (hi:i≤b.length) (hb:b.length≤1073741824):VC cd qI (ja [] 133 (cur b i h) [(false,[.int .i64 n])]) (fun r p=>∃x:Bytes×Nat×Int,(x.1.length≤2∧x.2.1≤b.length)∧r= [(false,[.o true (some (5,1)) (bytes x.1)])]∧p= [.pt 133 (cur b x.2.1 x.2.2)]):=by
 have h2:=xk hn
 have h3:0≤tJ n:=by unfold tJ;split <;>omega
 refine aw BZ rfl ?_
 simp(disch:=omega) [rV,cur,VZ]
 refine aq (zJ n hn) ?_
 simp(disch:=omega) [cur,VZ]
 refine cY (σ:=Nat×Nat×Nat×Int×Bytes) (f1:=_) (es0:=_) (by simp(disch:=omega) [VZ];rfl) (by simp(disch:=omega) [VZ];rfl) (fun p=> [(6, .val false [.int .i64 (p.1:Int)]),(5, .val false [.ow 81920 p.2.1])]) (fun p=> [(4096, .pt 0 133 [.sl (bytes b), .int .i64 (p.2.2.1:Int), .int .i64 p.2.2.2.1]),(81920, .sl p.2.1 true true (some (5,1)) (bytes p.2.2.2.2))])
  (fun p g=>(g:Int)+p.1=n∧p.2.2.1≤b.length∧(p.2.2.2.2.length:Int)=tJ n) (0,_,i,h,List.replicate (tJ n).toNat 0) n.toNat (by simp(disch:=omega) [VZ];rfl) (by simp(disch:=omega) [VZ]) ⟨by simp only;omega,hi,by simp;omega⟩ ?_
 rintro⟨m,v,i2,h2',x⟩ nx g ⟨hg,h5,h6⟩ P hP
 simp only at hg h5 h6
 simp(disch:=omega) [VZ]
 refine ab (fun h8=> ?_) (fun h8=> ?_)
 ·simp(disch:=omega) [VZ]
  refine dN (Bs b i2 h2' 3 (by omega) h5 hb) ?_
  rintro⟨y,i3,h3'⟩ h9
  simp only at h9
  have hm:m / 8 < x.length:=by unfold tJ at h6;split at h6 <;>omega
  cases y with
  |true=>
   simp(disch:=omega) [cur,VZ]
   exact hP (m+1,v,i3,h3',x) (g - 1) _ _ (by omega) ⟨by simp only;omega,h9,h6⟩ (by simp(disch:=omega) [VZ] <;>rfl) (by simp(disch:=omega) [VZ])
  |false=>
   obtain⟨q1,q2,q3,q4⟩:=PS m
   simp(disch:=omega) [cur,JT,L8,q1,q2,q3,q4,di hm,Md,VZ]
   exact hP (m+1,v,i3,h3',x.set (m / 8) (b8 (((x[m / 8].toNat % 2 ^ IntKind.u8.bits|||(IntKind.u8.wrap (2 ^ min (m % 8) IntKind.u8.bits) % 2 ^ IntKind.u8.bits).toNat:Nat):Nat):Int))) (g - 1) _ _ (by omega) ⟨by simp only;omega,h9,by simpa using h6⟩ (by simp(disch:=omega) [VZ] <;>rfl) (by simp(disch:=omega) [VZ])
 ·simp(disch:=omega) [cur,VZ]
  exact⟨x,i2,⟨by omega,h5⟩,rfl,rfl⟩
abbrev pQ:Nat:=185
def pR:AF:=⟨2,6,[.cell 4 5 true],(.seq (.ops [.i (.lbox 3 (.s 1)), .i (.lal 4 [.int .i64 0, .int .i64 0, .nils, .nils, .nils])]) (.seq (.ops [qm 7 0,qk 9 241 7,qm 9 0,qk 11 241 9,qm 11 0,qk 13 242 11,qm 13 0,qf 14 3 0,ql 15 3 14 1 false, .i (.call 17 265 false [(.s 13),(.s 15)]), .i (.bld 17 [.int .i64 0, .int .i64 0, .nils, .nils, .nils] [(0,1,(.s 8)),(1,1,(.s 10)),(2,1,(.s 12)),(3,1,(.s 16))]), .i (.lal 5 [.int .i64 0, .int .i64 0, .nils, .nils, .nils]),qs 5 5 17 5]) (.seq (.seq (.ops [qf 18 5 3,ql 19 5 18 1 false,qk 21 266 19,qm 6 20]) (.block 0 (.loop [31,30,29,28,27,26,25,24,23,22,21] (.seq (.seq (.ops [qm 21 6, .i (.bin 22 .gtr (.s 21) (qi 0))]) (.cond (.s 22) .skip (.exit 0))) (.seq (.block 1 (.ops [qf 25 5 4,ql 26 5 25 1 false,qm 27 0,qk 29 242 27, .i (.lsl 29 1 1 [.nils] [(0,1,(.s 28))]), .i (.app 30 22 1 24 (.s 26) (.s 29)),qf 31 5 4,qs 5 31 30 1])) (.ops [qm 23 6, .i (.bin 24 .sub (.s 23) (qi 1)),qm 6 24])))))) (.seq (.ops [ql 32 5 5 5 true,qs 4 4 32 5]) .ret))))⟩
theorem BB:cd pQ=some pR:=by kernel_rfl
theorem vq (b:Bytes) (i:Nat) (h:Int) (l:ah) (hl:1≤l.n∧l.n≤10) (hi:i≤b.length) (hb:b.length≤1073741824):VC cd pQ (ja [] 133 (cur b i h) [(true,l.c)]) (fun r p=>∃x:Qc×Nat×Int,(I4 x.1∧x.2.1≤b.length)∧r= [(true,x.1.o)]∧p= [.pt 133 (cur b x.2.1 x.2.2)]):=by
 refine aw BB rfl ?_
 simp(disch:=omega) [pR,cur,ah.c,VZ]
 refine dN (ib b i h hi hb) ?_
 rintro⟨k1,i1,h1⟩ ⟨g1,j1⟩
 simp only at g1 j1
 simp(disch:=omega) [cur,VZ]
 refine dN (ib b i1 h1 j1 hb) ?_
 rintro⟨k2,i2,h2⟩ ⟨g2,j2⟩
 simp only at g2 j2
 simp(disch:=omega) [cur,VZ]
 refine dN (c8 b i2 h2 j2 hb) ?_
 rintro⟨x3,i3,h3⟩ ⟨g3,j3⟩
 simp only at g3 j3
 simp(disch:=omega) [cur,VZ]
 refine dN (Iv b i3 h3 l.n hl j3 hb) ?_
 rintro⟨x4,i4,h4⟩ ⟨g4,j4⟩
 simp only at g4 j4
 simp(disch:=omega) [cur,VZ]
 refine aq (je x4 (by omega)) ?_
 simp(disch:=omega) [cur,VZ]
 refine dI (σ:=Nat×Nat×Nat×Int×List Bytes) (f0:=_) (by simp(disch:=omega) [VZ];rfl) (de.x7 (s:=5) (k:=5) (i:=4) rfl rfl) (f1:=_) (es0:=_) (by simp(disch:=omega) [VZ];rfl) (by simp(disch:=omega) [VZ];rfl) (fun p=> [(6, .val false [.int .i64 (p.1:Int)]),(5, .box [.int .i64 k1, .int .i64 k2, .ow 114688 19, .ow 147456 24, .ow 5 p.2.1])]) (fun p=> [(4096, .pt 0 133 [.sl (bytes b), .int .i64 (p.2.2.1:Int), .int .i64 p.2.2.2.1]),(5, .sl p.2.1 true true (some (22,1)) (bE p.2.2.2.2))])
  (fun p g=>g=p.1∧p.2.2.1≤b.length∧p.2.2.2.2.length+p.1=(aV x4).length∧∀t∈p.2.2.2.2,t.length=32) ((aV x4).length,_,i4,h4,[]) (aV x4).length (by simp(disch:=omega) [VZ];rfl) (by simp(disch:=omega) [bE,VZ]) ⟨rfl,j4,by simp,by simp⟩ ?_
 rintro⟨n,v,i5,h5,x⟩ nx g ⟨hg,a5,a6,a7⟩ P hP
 simp only at hg a5 a6 a7
 have hlb:=dt x4
 simp(disch:=omega) [VZ]
 refine ab (fun h8=> ?_) (fun h8=> ?_)
 ·simp(disch:=omega) [VZ]
  refine dN (c8 b i5 h5 a5 hb) ?_
  rintro⟨y,i6,h6⟩ ⟨g6,j6⟩
  simp only at g6 j6
  have e1:IntKind.i64.wrap ((n:Int) - 1)=((n - 1:Nat):Int):=by rw[GG (by omega) (by omega)];omega
  have hl:(bE x).length=x.length:=ao x
  simp(disch:=omega) [cur,hl,e1,lF,VZ]
  refine hP (n - 1,_,i6,h6,x++ [y]) (g - 1) _ _ (by omega) ⟨by simp only;omega,j6,by simp;omega,fun z hz=> ?_⟩ (by simp(disch:=omega) [VZ];rfl) (by simp(disch:=omega) [VZ])
  rcases List.mem_append.1 hz with hz|hz
  ·exact a7 z hz
  ·simp only[List.mem_singleton]at hz;subst hz;exact g6
 ·simp(disch:=omega) [cur,VZ]
  exact⟨⟨k1,k2,x3,x4,x⟩,i5,⟨⟨g1,g2,g3,g4,by simp only;omega,a7⟩,a5⟩,rfl,rfl⟩
end Go.Eng.F
namespace Go.Eng.F
def M5 (n:Int):Prop:=0≤n∧n≤1152921504606846975
def Qc.rd (q:Qc):Prop:=(M5 q.view∧M5 q.height)∧q.block.length≤32∧q.bits.length≤2∧q.tags.length≤16∧∀t∈q.tags,t.length≤32
theorem rE {n:Nat} (h:n≤1152921504606846975):M5 (n:Int):=⟨by omega,by omega⟩
theorem C3 {b:Bytes} {l:ah} {r:Rd} (h:r.wf b):(sv b l r).2.wf b∧(sv b l r).1.rd:=by
 have w1:=dD h
 have w2:=dD w1.1
 have w3:=eQ w2.1 32
 simp only[sv]
 split
 ·have w4:=yC b (bY b (cN b (cN b r).2).2 32).2.at_ l.n
  have w5:=fun(r:Rd) (hr:r.wf b)=>eQ hr 32
  have w6:=Ib (p:=fun t:Bytes=>t.length≤32) (b:=b) (f:=fun r=>bY b r 32) (fun(r:Rd) hr=>⟨(w5 r hr).1,(w5 r hr).2.1⟩)
  refine⟨J4 (fun r hr=>(w5 r hr).1) _ _ w4.1,⟨rE w1.2,rE w2.2⟩,w3.2.1,w4.2,?_,w6 _ _ w4.1⟩
  simp only[HY]
  have:=dt (dE b (bY b (cN b (cN b r).2).2 32).2.at_ l.n).1
  omega
 ·exact⟨w3.1,⟨rE w1.2,rE w2.2⟩,w3.2.1,by simp,by simp,by simp⟩
def Head.rd (h:Head):Prop:=(M5 h.view∧M5 h.height∧M5 h.proposer)∧h.parent.length≤32∧h.root.length≤32∧h.qc.rd
theorem BX {b:Bytes} {l:ah} {r:Rd} (h:r.wf b):(cH b l r).2.wf b∧(cH b l r).1.rd:=by
 simp only[cH]
 have w1:=dD h
 generalize cN b r=s1 at w1⊢
 have w2:=dD w1.1
 generalize cN b s1.2=s2 at w2⊢
 have w3:=eL (bad:=decide (s2.1=0)) (c:=5) w2.1 (by omega)
 generalize b9 s2.2 (decide (s2.1=0)) 5=s3 at w3⊢
 have w4:=fi (n:=l.n) (c:=5) w3 (by omega)
 generalize bN b s3 l.n 5=s4 at w4⊢
 have w5:=eQ w4.1 32
 generalize bY b s4.2 32=s5 at w5⊢
 have w6:=eQ w5.1 32
 generalize bY b s5.2 32=s6 at w6⊢
 have w7:=C3 (l:=l) w6.1
 generalize sv b l s6.2=s7 at w7⊢
 exact⟨eL w7.1 (by omega),⟨rE w1.2,rE w2.2,rE w4.2⟩,w5.2.1,w6.2.1,w7.2⟩
theorem HJ (h:Head) (h1:0≤h.height) (h2:lx h.height):VC cd eE (aE [(true,h.c)]) (fun rs _=>rs=bl (fits h)):=by
 simp only[lx]at h2
 refine aa hX rfl ?_
 simp(disch:=omega) [eC,Head.c,VY]
 refine ab (fun g1=> ?_) (fun g1=> ?_) <;>simp(disch:=omega) [g1,fits,VY]
 refine ab (fun g2=> ?_) (fun g2=> ?_) <;>simp(disch:=omega) [g1,g2,VY]
 refine ae (aL _ _) rfl rfl ?_
 simp(disch:=omega) [g1,g2,VY]
abbrev gW:Nat:=111
def ob:AF:=⟨2,6,[.cell 4 10 true],(.seq (.ops [.i (.lbox 2 (.s 0)), .i (.lal 4 qz)]) (.seq (.ops [qm 6 1,qk 8 165 6,qm 8 1,qk 10 165 8, .i (.bld 10 qz [(0,1,(.s 7)),(1,1,(.s 9))]), .i (.lal 5 qz),qs 5 5 10 10]) (.seq (.ops [qm 11 1,qf 12 5 1,ql 13 5 12 1 false, .i (.bin 14 .neq (.s 13) (qi 0)), .i (.call 16 172 false [(.s 11),(.s 14),(qi 5)])]) (.seq (.ops [qm 16 1,qf 17 2 0,ql 18 2 17 1 false, .i (.call 20 167 false [(.s 16),(.s 18),(qi 5)]),qf 20 5 2,qs 5 20 19 1]) (.seq (.ops [qm 21 1,qk 23 166 21,qm 23 1,qk 25 166 23,qf 25 5 3,qs 5 25 22 1,qf 26 5 4,qs 5 26 24 1]) (.seq (.ops [ql 27 2 2 5 true,qm 28 1, .i (.call 30 106 false [(.s 27),(.s 28)]),qf 30 5 5,qs 5 30 29 5]) (.seq (.ops [qm 31 1,ql 32 5 5 10 true,qk 34 171 32, .i (.call 35 172 false [(.s 31),(.s 33),(qi 6)])]) (.seq (.ops [ql 35 5 5 10 true,qs 4 4 35 10]) .ret))))))))⟩
theorem zB:cd gW=some ob:=by kernel_rfl
theorem gg (b:Bytes) (l:ah) (r:Rd) (hl:1≤l.n∧l.n≤10) (hr:r.wf b) (hb:b.length≤1073741824):VC cd gW (ja [(true,l.c)] 215 (bC b r) []) (fun rs p=>rs= [(true,(cH b l r).1.o)]∧p= [.pt 215 (bC b (cH b l r).2)]):=by
 refine aw zB rfl ?_
 simp(disch:=omega) [ob,bC,ah.c,VZ]
 refine du (bI b r hr hb) ?_
 have w1:=dD hr
 generalize h1:cN b r=s1 at w1⊢
 simp(disch:=omega) [bC,VZ]
 refine du (bI b s1.2 w1.1 hb) ?_
 have w2:=dD w1.1
 generalize h2:cN b s1.2=s2 at w2⊢
 simp(disch:=omega) [bC,VZ]
 refine du (aT b s2.2 (!decide (s2.1=0)) 5) ?_
 simp only[Bool.not_not]
 have w3:=eL (bad:=decide (s2.1=0)) (c:=5) w2.1 (by omega)
 generalize h3:b9 s2.2 (decide (s2.1=0)) 5=s3 at w3⊢
 simp(disch:=omega) [bC,VZ]
 refine du (cO b s3 l.n 5 w3 hb) ?_
 have w4:=fi (n:=l.n) (c:=5) w3 (by omega)
 generalize h4:bN b s3 l.n 5=s4 at w4⊢
 simp(disch:=omega) [bC,VZ]
 refine du (cB b s4.2 w4.1 hb) ?_
 have w5:=eQ w4.1 32
 generalize h5:bY b s4.2 32=s5 at w5⊢
 simp(disch:=omega) [bC,VZ]
 refine du (cB b s5.2 w5.1 hb) ?_
 have w6:=eQ w5.1 32
 generalize h6:bY b s5.2 32=s6 at w6⊢
 simp(disch:=omega) [bC,VZ]
 refine du (d8 b l s6.2 hl w6.1 hb) ?_ (n1:=by simp(disch:=omega) [Qc.o,VZ]) (n3:=by simp(disch:=omega) [Qc.o,VZ])
 have w7:=C3 (l:=l) w6.1
 generalize h7:sv b l s6.2=s7 at w7⊢
 simp(disch:=omega) [bC,ah.c,Qc.o,VZ]
 have w2':=rE w2.2
 simp only[M5]at w2'
 refine aq (HJ ⟨s1.1,s2.1,s4.1,s5.1,s6.1,s7.1⟩ w2'.1 ⟨by simp only;omega,by simp only;omega⟩) ?_ (ha:=by first|rfl|(simp[Head.c,VY] <;>repeat' constructor))
 simp(disch:=omega) [bC,VZ]
 refine du (aT b s7.2 (fits ⟨s1.1,s2.1,s4.1,s5.1,s6.1,s7.1⟩) 6) ?_
 have w8:=eL (bad:=(!fits ⟨s1.1,s2.1,s4.1,s5.1,s6.1,s7.1⟩)) (c:=6) w7.1 (by omega)
 generalize h8:b9 s7.2 ((!fits ⟨s1.1,s2.1,s4.1,s5.1,s6.1,s7.1⟩)) 6=s8 at w8⊢
 simp(disch:=omega) [bC,VZ]
 simp(disch:=omega) [cH,h1,h2,h3,h4,h5,h6,h7,h8,Head.o,bC,VZ]
end Go.Eng.F
namespace Go.Eng.F
def ah.rd (l:ah):Prop:=(1≤l.n∧l.n≤10)∧(0≤l.tx∧l.tx≤40)∧(0≤l.txs∧l.txs≤8)∧3≤l.heads∧l.heads≤5
theorem fb {l:ah} (h:l.ok=true):l.rd:=by
 simp only[ah.ok,dK,Bool.and_eq_true,decide_eq_true_eq]at h
 exact⟨h.1.1.1.1,h.1.1.1.2,h.1.1.2,h.2⟩
theorem lr {r:Rd} {bad:Bool} {c:Nat} (h:(b9 r bad c).er=0) (hc:c≠0):bad=false:=by
 unfold b9 at h
 split at h
 ·exact absurd h hc
 ·rename_i g
  cases bad
  ·rfl
  ·exact absurd ⟨h,rfl⟩ g
theorem iQ {r:Rd} {bad:Bool} {c:Nat} (h:r.er≠0):b9 r bad c=r:=by
 unfold b9
 rw[if_neg (fun g=>h g.1)]
theorem sF {α:Type} {f:Rd→α×Rd} {k:Nat} {r:Rd} (h:r.er≠0):dk f k r=([],r):=by
 cases k
 ·rfl
 ·rw[dk,if_neg h]
theorem iw {α:Type} {f:Rd→α×Rd} {k:Nat} {r:Rd} (h:r.er=0):dk f (k+1) r=((f r).1::(dk f k (f r).2).1,(dk f k (f r).2).2):=by
 rw[dk,if_pos h]
theorem oa (b:Bytes) (r:Rd) (m:Int) (h0:0≤m∧m≤1073741824) (hr:r.wf b) (hb:b.length≤1073741824):VC cd eY (ja [] 215 (bC b r) [(false,[.int .i64 m])]) (fun rs p=>rs= [(false,[.o true (some (5,1)) (bytes (dz b r m.toNat).1)])]∧p= [.pt 215 (bC b (dz b r m.toNat).2)]):=by
 obtain⟨k,rfl⟩:=Int.eq_ofNat_of_zero_le h0.1
 exact CM b r k (by omega) hr hb
abbrev gr:Nat:=116
def j9:AF:=⟨2,6,[.cell 4 11 true],(.seq (.ops [.i (.lbox 2 (.s 0)), .i (.lal 4 [.int .i64 0, .int .i64 0, .int .i64 0, .nils, .nils, .int .i64 0, .int .i64 0, .nils, .nils, .nils, .nils])]) (.seq (.ops [ql 8 2 2 5 true,qm 9 1, .i (.call 11 111 false [(.s 8),(.s 9)]), .i (.bld 11 [.int .i64 0, .int .i64 0, .int .i64 0, .nils, .nils, .int .i64 0, .int .i64 0, .nils, .nils, .nils, .nils] [(0,10,(.s 10))]), .i (.lal 5 [.int .i64 0, .int .i64 0, .int .i64 0, .nils, .nils, .int .i64 0, .int .i64 0, .nils, .nils, .nils, .nils]),qs 5 5 11 11]) (.seq (.ops [qm 12 1,qf 13 2 2,ql 14 2 13 1 false, .i (.bin 15 .add (.s 14) (qi 1)), .i (.call 17 167 false [(.s 12),(.s 15),(qi 3)]),qm 6 16]) (.seq (.seq (.ops [.i (.mov 7 (qi 0))]) (.block 0 (.loop [37,36,35,34,33,32,31,30,29,28,27,26,25,24,23,22,21,20,19,18,17] (.seq (.seq (.ops [qm 17 7,qm 18 6,qd 19 .lss 17 18,qm 20 19, .g 20 true 22 (.mov 21 (.s 1)), .g 20 true 23 (.nch 22 (.s 21)), .g 20 true 24 (.fad 23 (.s 22) 2), .g 20 true 25 (.ldh 24 (.s 23) 1 false), .g 20 true 26 (.bin 25 .eql (.s 24) (qi 0)), .i (.pick 26 (.s 20) (.s 25) (qb false))]) (.cond (.s 26) .skip (.exit 0))) (.seq (.block 1 (.ops [qf 29 5 10,ql 30 5 29 1 false,qm 31 1,qf 32 2 1,ql 33 2 32 1 false, .i (.call 35 177 false [(.s 31),(.s 33)]), .i (.lsl 35 1 1 [.nils] [(0,1,(.s 34))]), .i (.app 36 22 1 24 (.s 30) (.s 35)),qf 37 5 10,qs 5 37 36 1])) (.ops [qm 27 7, .i (.bin 28 .add (.s 27) (qi 1)),qm 7 28])))))) (.seq (.ops [qm 38 1,qm 39 1, .i (.nch 40 (.s 39)),qf 41 40 2, .i (.ldh 42 (.s 41) 1 false), .i (.bin 43 .neq (.s 42) (qi 0)),qm 44 43, .g 44 false 46 (.fad 45 (.s 5) 0), .g 44 false 47 (.fad 46 (.s 45) 4), .g 44 false 48 (.ldl 47 5 (.s 46) 1 false), .g 44 false 49 (.fad 48 (.s 5) 10), .g 44 false 50 (.ldl 49 5 (.s 48) 1 false), .g 44 false 51 (.call 51 176 false [(.s 49)]), .g 44 false 52 (.call 52 21 false [(.s 47),(.s 50)]), .i (.pick 52 (.s 44) (qb true) (.s 51)), .i (.call 54 172 false [(.s 38),(.s 52),(qi 7)])]) (.seq (.ops [ql 54 5 5 11 true,qs 4 4 54 11]) .ret))))))⟩
theorem xT:cd gr=some j9:=by kernel_rfl
theorem we (b:Bytes) (l:ah) (r:Rd) (hL:l.rd) (hr:r.wf b) (hb:b.length≤1073741824):VC cd gr (ja [(true,l.c)] 215 (bC b r) []) (fun rs p=>rs= [(true,(dJ b l r).1.o)]∧p= [.pt 215 (bC b (dJ b l r).2)]):=by
 refine VC.xh ?_
 obtain⟨hl,hx,ht,hh⟩:=hL
 refine aw xT rfl ?_
 simp(disch:=omega) [j9,bC,ah.c,VZ]
 refine du (gg b l r hl hr hb) ?_ (n1:=by simp(disch:=omega) [Head.o,VZ]) (n3:=by simp(disch:=omega) [Head.o,VZ])
 have w1:=BX (l:=l) hr
 generalize h1:cH b l r=s1 at w1⊢
 simp(disch:=omega) [bC,ah.c,Head.o,VZ]
 refine du (cO b s1.2 (l.txs+1) 3 w1.1 hb) ?_
 have w2:=fi (n:=(l.txs+1)) (c:=3) w1.1 (by omega)
 generalize h2:bN b s1.2 (l.txs+1) 3=s2 at w2⊢
 simp(disch:=omega) [bC,VZ]
 have hn:s2.2.er=0→(s2.1:Int)≤l.txs:=by
  intro g
  have e:(bN b s1.2 (l.txs+1) 3).2.er=0:=by rw[h2];exact g
  have:=lr e (by omega)
  simp only[bN]at h2
  rw[show(cN b s1.2).1=s2.1 by rw[←h2]]at this
  simp only[decide_eq_false_iff_not]at this
  omega
 refine dI (σ:=Nat×Nat×List Bytes×Rd) (f0:=_) (by simp(disch:=omega) [VZ];rfl) (de.x7 (s:=5) (k:=5) (i:=10) rfl rfl) (f1:=_) (es0:=_) (by simp(disch:=omega) [VZ];rfl) (by simp(disch:=omega) [VZ];rfl) (fun p=> [(7, .val false [.int .i64 (p.1:Int)]),(5, .box [.int .i64 s1.1.view, .int .i64 s1.1.height, .int .i64 s1.1.proposer, .ow 98307 12, .ow 98308 13, .int .i64 s1.1.qc.view, .int .i64 s1.1.qc.height, .ow 98311 16, .ow 98312 17, .ow 98313 18, .ow 5 p.2.1])]) (fun p=> [(4101, .pt 5 215 [.sl (bytes b), .int .i64 (p.2.2.2.at_:Int), .int .i64 (p.2.2.2.er:Int)]),(5, .sl p.2.1 true true (some (22,1)) (bE p.2.2.1))])
  (fun p g=>(g+p.1=s2.1∧p.2.2.1.length=p.1)∧(p.2.2.2.er=0→(s2.1:Int)≤l.txs)∧p.2.2.2.wf b∧dk (fun r=>dz b r l.tx.toNat) s2.1 s2.2=(p.2.2.1++(dk (fun r=>dz b r l.tx.toNat) g p.2.2.2).1,(dk (fun r=>dz b r l.tx.toNat) g p.2.2.2).2)) (0,_,[],s2.2) s2.1 (by simp(disch:=omega) [VZ];rfl) (by simp(disch:=omega) [bE,bC,VZ]) ⟨⟨by simp,rfl⟩,hn,w2.1,by simp⟩ ?_
 have hall:∀t∈(dk (fun r=>dz b r l.tx.toNat) s2.1 s2.2).1,t.length≤40:=xO (p:=fun t:Bytes=>t.length≤40) (b:=b) (fun r hr=>⟨(wW hr _).1,Nat.le_trans (wW hr _).2.1 (by omega)⟩) _ _ w2.1
 rintro⟨i,v,x,⟨qa,qe⟩⟩ nx g0 ⟨⟨hg,h5⟩,h10,h6,h7⟩ P hP
 simp only at hg h5 h6 h7 h10
 have hl2:(bE x).length=i:=by rw[ao];exact h5
 by_cases h9:qe=0
 ·subst h9
  by_cases h8:i < s2.1
  ·have h11:=h10 rfl
   simp(disch:=omega) [h8,bC,VZ]
   refine du (oa b ⟨qa,0⟩ l.tx (by omega) h6 hb) ?_
   have w5:=wW h6 l.tx.toNat
   obtain⟨g1,rfl⟩:∃g1,g0=g1+1:=⟨g0 - 1,by omega⟩
   rw[iw rfl]at h7
   simp only at h7
   generalize h12:dz b ⟨qa,0⟩ l.tx.toNat=s5 at w5 h7⊢
   simp(disch:=omega) [bC,hl2,E1,VZ]
   refine hP (i+1,_,x++ [s5.1],s5.2) g1 _ _ (by omega) ⟨⟨by simp only;omega,by simp[h5]⟩,fun _=>h11,w5.1,by rw[h7];simp⟩ (by simp(disch:=omega) [VZ];rfl) (by simp(disch:=omega) [bC,VZ])
  ·obtain rfl:g0=0:=by omega
   simp only[dk,List.append_nil]at h7
   have hx2:∀t∈x,t.length≤1073741823:=fun t ht=>Nat.le_trans (hall t (by rw[h7];exact ht)) (by omega)
   have h11:=h10 rfl
   simp(disch:=omega) [h8,bC,VZ]
   refine aq (kL _ x rfl (by omega) hx2) ?_
   simp(disch:=omega) [VZ]
   refine aq (aL _ _) ?_
   simp(disch:=omega) [bC,VZ]
   refine du (aT b ⟨qa,0⟩ (decide (s1.1.root=aX x)) 7) ?_
   simp(disch:=omega) [dJ,h1,h2,h7,Block.o,bC,aY,bh,bk,VZ]
 ·rw[sF (k:=g0) (r:=⟨qa,qe⟩) h9]at h7
  simp only[List.append_nil]at h7
  by_cases h8:i < s2.1
  ·skip
   have hx2:∀t∈x,t.length≤1073741823:=fun t ht=>Nat.le_trans (hall t (by rw[h7];exact ht)) (by omega)
   simp(disch:=omega) [h8,h9,bC,VZ]
   refine du (aT b ⟨qa,qe⟩ true 7) ?_
   have h12:∀bad c,b9 ⟨qa,qe⟩ bad c=⟨qa,qe⟩:=fun bad c=>iQ h9
   simp(disch:=omega) [dJ,h1,h2,h7,Block.o,bC,aY,bh,bk,h12,VZ]
  ·skip
   have hx2:∀t∈x,t.length≤1073741823:=fun t ht=>Nat.le_trans (hall t (by rw[h7];exact ht)) (by omega)
   simp(disch:=omega) [h8,h9,bC,VZ]
   refine du (aT b ⟨qa,qe⟩ true 7) ?_
   have h12:∀bad c,b9 ⟨qa,qe⟩ bad c=⟨qa,qe⟩:=fun bad c=>iQ h9
   simp(disch:=omega) [dJ,h1,h2,h7,Block.o,bC,aY,bh,bk,h12,VZ]
end Go.Eng.F
namespace Go.Eng.F
theorem JO (l:List Head) (h:Head):eF l++ [[.int .i64 h.view, .int .i64 h.height, .int .i64 h.proposer, .sl (bytes h.parent), .sl (bytes h.root), .int .i64 h.qc.view, .int .i64 h.qc.height, .sl (bytes h.qc.block), .sl (bytes h.qc.bits), .sl (bE h.qc.tags)]]=eF (l++ [h]):=by simp[eF,Head.c]
theorem Fj {b:Bytes} {l:ah} {r:Rd} (h:r.er≠0):(sv b l r).2=r:=by simp[sv,cN,bY,h]
theorem M5.i64 {n:Int} (h:M5 n):lx n:=⟨by have:=h.1;omega,by have:=h.2;omega⟩
theorem Qc.rd.wf {q:Qc} (h:q.rd):q.wf:=by
 obtain⟨⟨h1,h2⟩,h3,h4,h5,h6⟩:=h
 refine⟨h1.i64,h2.i64,?_,?_,?_⟩ <;>simp only[Sz] <;>omega
theorem Head.rd.wf {h:Head} (w:h.rd):h.wf:=by
 obtain⟨⟨h1,h2,h3⟩,h4,h5,h6⟩:=w
 refine⟨h1.i64,h2.i64,h3.i64,?_,?_,h6.wf⟩ <;>simp only[Sz] <;>omega
abbrev gq:Nat:=123
def kX:AF:=⟨2,6,[.cell 4 6 true],(.seq (.ops [.i (.lbox 2 (.s 0)), .i (.lal 4 [.nils, .int .i64 0, .int .i64 0, .nils, .nils, .nils])]) (.seq (.ops [.i (.bld 8 [.nils, .int .i64 0, .int .i64 0, .nils, .nils, .nils] []),qm 9 1,qk 11 165 9, .i (.lal 5 [.nils, .int .i64 0, .int .i64 0, .nils, .nils, .nils]),qs 5 5 8 6,qm 6 10]) (.seq (.ops [qm 11 1,qm 12 6, .i (.bin 13 .geq (.s 12) (qi 3)), .i (.call 15 172 false [(.s 11),(.s 13),(qi 5)])]) (.seq (.ops [qm 15 1,qm 16 6,qf 17 2 4,ql 18 2 17 1 false,qd 19 .leq 16 18, .i (.call 21 172 false [(.s 15),(.s 19),(qi 3)])]) (.seq (.seq (.ops [.i (.mov 7 (qi 0))]) (.block 0 (.loop [40,39,38,37,36,35,34,33,32,31,30,29,28,27,26,25,24,23,22,21] (.seq (.seq (.ops [qm 21 7,qm 22 6,qd 23 .lss 21 22,qm 24 23, .g 24 true 26 (.mov 25 (.s 1)), .g 24 true 27 (.nch 26 (.s 25)), .g 24 true 28 (.fad 27 (.s 26) 2), .g 24 true 29 (.ldh 28 (.s 27) 1 false), .g 24 true 30 (.bin 29 .eql (.s 28) (qi 0)), .i (.pick 30 (.s 24) (.s 29) (qb false))]) (.cond (.s 30) .skip (.exit 0))) (.seq (.block 1 (.ops [qf 33 5 0,ql 34 5 33 1 false,ql 35 2 2 5 true,qm 36 1, .i (.call 38 111 false [(.s 35),(.s 36)]), .i (.lsl 38 10 1 qz [(0,10,(.s 37))]), .i (.app 39 45 10 160 (.s 34) (.s 38)),qf 40 5 0,qs 5 40 39 1])) (.ops [qm 31 7, .i (.bin 32 .add (.s 31) (qi 1)),qm 7 32])))))) (.seq (.ops [ql 41 2 2 5 true,qm 42 1, .i (.call 44 106 false [(.s 41),(.s 42)]),qf 44 5 1,qs 5 44 43 5]) (.seq (.ops [qm 45 1,qm 46 1, .i (.nch 47 (.s 46)),qf 48 47 2, .i (.ldh 49 (.s 48) 1 false), .i (.bin 50 .neq (.s 49) (qi 0)),qm 51 50, .g 51 false 53 (.ldl 52 5 (.s 5) 6 true), .g 51 false 54 (.call 54 179 false [(.s 52)]), .i (.pick 54 (.s 51) (qb true) (.s 53)), .i (.call 56 172 false [(.s 45),(.s 54),(qi 6)])]) (.seq (.ops [ql 56 5 5 6 true,qs 4 4 56 6]) .ret))))))))⟩
theorem xK:cd gq=some kX:=by kernel_rfl
theorem wP (b:Bytes) (l:ah) (r:Rd) (hL:l.rd) (hr:r.wf b) (hb:b.length≤1073741824):VC cd gq (ja [(true,l.c)] 215 (bC b r) []) (fun rs p=>rs= [(true,(dy b l r).1.o)]∧p= [.pt 215 (bC b (dy b l r).2)]):=by
 refine VC.xh ?_
 obtain⟨hl,hx,ht,hh⟩:=hL
 refine aw xK rfl ?_
 simp(disch:=omega) [kX,bC,ah.c,VZ]
 refine du (bI b r hr hb) ?_
 have w1:=dD hr
 generalize h1:cN b r=s1 at w1⊢
 simp(disch:=omega) [bC,VZ]
 refine du (aT b s1.2 (decide (3≤(s1.1:Int))) 5) ?_
 have e2:(!decide (3≤(s1.1:Int)))=decide (s1.1 < 3):=by rw[←decide_not,decide_eq_decide];omega
 rw[e2]
 have w2:=eL (bad:=decide (s1.1 < 3)) (c:=5) w1.1 (by omega)
 generalize h2:b9 s1.2 (decide (s1.1 < 3)) 5=s2 at w2⊢
 simp(disch:=omega) [bC,VZ]
 refine du (aT b s2 (decide ((s1.1:Int)≤l.heads)) 3) ?_
 have e3:(!decide ((s1.1:Int)≤l.heads))=decide (l.heads < (s1.1:Int)):=by rw[←decide_not,decide_eq_decide];omega
 rw[e3]
 have w3:=eL (bad:=decide (l.heads < (s1.1:Int))) (c:=3) w2 (by omega)
 generalize h3:b9 s2 (decide (l.heads < (s1.1:Int))) 3=s3 at w3⊢
 simp(disch:=omega) [bC,VZ]
 have hn:s3.er=0→3≤s1.1∧(s1.1:Int)≤l.heads:=by
  intro g
  have e:=lr (by rw[h3];exact g) (by omega)
  have g2:s2.er=0:=by
   have:=iQ (r:=s2) (bad:=decide (l.heads < (s1.1:Int))) (c:=3)
   rw[h3]at this
   by_cases g3:s2.er=0
   ·exact g3
   ·rw[←this g3];exact g
  have e2:=lr (by rw[h2];exact g2) (by omega)
  simp only[decide_eq_false_iff_not]at e e2
  omega
 refine dI (σ:=Nat×Nat×List Head×Rd) (f0:=_) (by simp(disch:=omega) [VZ];rfl) (de.x7 (s:=5) (k:=5) (i:=0) rfl rfl) (f1:=_) (es0:=_) (by simp(disch:=omega) [VZ];rfl) (by simp(disch:=omega) [VZ];rfl) (fun p=> [(7, .val false [.int .i64 (p.1:Int)]),(5, .box [.ow 5 p.2.1, .int .i64 0, .int .i64 0, .nils, .nils, .nils])]) (fun p=> [(4101, .pt 5 215 [.sl (bytes b), .int .i64 (p.2.2.2.at_:Int), .int .i64 (p.2.2.2.er:Int)]),(5, .sl p.2.1 true true (some (45,10)) (eF p.2.2.1))])
  (fun p g=>(g+p.1=s1.1∧p.2.2.1.length=p.1)∧(p.2.2.2.er=0→3≤s1.1∧(s1.1:Int)≤l.heads)∧p.2.2.2.wf b∧dk (cH b l) s1.1 s3=(p.2.2.1++(dk (cH b l) g p.2.2.2).1,(dk (cH b l) g p.2.2.2).2)) (0,_,[],s3) s1.1 (by simp(disch:=omega) [VZ];rfl) (by simp(disch:=omega) [eF,bC,VZ]) ⟨⟨by simp,rfl⟩,hn,w3,by simp⟩ ?_
 have hall:∀t∈(dk (cH b l) s1.1 s3).1,t.rd:=xO (p:=fun t:Head=>t.rd) (b:=b) (fun r hr=>BX hr) _ _ w3
 rintro⟨i,v,x,⟨qa,qe⟩⟩ nx g0 ⟨⟨hg,h5⟩,h10,h6,h7⟩ P hP
 simp only at hg h5 h6 h7 h10
 have hl2:(eF x).length=i:=by rw[cf];exact h5
 by_cases h9:qe=0
 ·subst h9
  by_cases h8:i < s1.1
  ·have h11:=h10 rfl
   simp(disch:=omega) [h8,bC,VZ]
   refine du (gg b l ⟨qa,0⟩ hl h6 hb) ?_ (n1:=by simp(disch:=omega) [Head.o,VZ]) (n3:=by simp(disch:=omega) [Head.o,VZ])
   have w5:=BX (l:=l) h6
   obtain⟨g1,rfl⟩:∃g1,g0=g1+1:=⟨g0 - 1,by omega⟩
   rw[iw rfl]at h7
   simp only at h7
   generalize h12:cH b l ⟨qa,0⟩=s5 at w5 h7⊢
   simp(disch:=omega) [bC,hl2,Head.o,JO,VZ]
   refine hP (i+1,_,x++ [s5.1],s5.2) g1 _ _ (by omega) ⟨⟨by simp only;omega,by simp[h5]⟩,fun _=>h11,w5.1,by rw[h7];simp⟩ (by simp(disch:=omega) [VZ];rfl) (by simp(disch:=omega) [bC,VZ])
  ·obtain rfl:g0=0:=by omega
   simp only[dk,List.append_nil]at h7
   have hx2:∀t∈x,t.wf:=fun t ht=>(hall t (by rw[h7];exact ht)).wf
   simp(disch:=omega) [h8,bC,VZ]
   refine du (d8 b l ⟨qa,0⟩ hl h6 hb) ?_ (n1:=by simp(disch:=omega) [Qc.o,VZ]) (n3:=by simp(disch:=omega) [Qc.o,VZ])
   have w13:=C3 (l:=l) h6
   generalize h13:sv b l ⟨qa,0⟩=s13 at w13⊢
   obtain⟨q2,⟨qa,qe⟩⟩:=s13
   simp only at w13
   simp(disch:=omega) [bC,Qc.o,VZ]
   by_cases h14:qe=0
   ·subst h14
    have h15:3≤x.length:=by have:=h10 rfl;omega
    simp(disch:=omega) [VZ]
    refine aq (Et ⟨x,q2⟩ (by simp only;omega) ⟨⟨by have:=h10 rfl;simp only[Sz];omega,hx2⟩,w13.2.wf⟩) ?_ (ha:=by first|rfl|(simp[Proof.c,VY] <;>repeat' constructor))
    simp(disch:=omega) [bC,VZ]
    refine du (aT b ⟨qa,0⟩ (l4 ⟨x,q2⟩) 6) ?_
    simp(disch:=omega) [dy,h1,h2,h3,h7,h13,Proof.o,bC,aY,bh,bk,VZ]
   ·simp(disch:=omega) [h14,bC,VZ]
    refine du (aT b ⟨qa,qe⟩ true 6) ?_
    have h12:∀bad c,b9 ⟨qa,qe⟩ bad c=⟨qa,qe⟩:=fun bad c=>iQ h14
    simp(disch:=omega) [dy,h1,h2,h3,h7,h13,Proof.o,bC,aY,bh,bk,h12,VZ]
 ·rw[sF (k:=g0) (r:=⟨qa,qe⟩) h9]at h7
  simp only[List.append_nil]at h7
  by_cases h8:i < s1.1
  ·skip
   have hx2:∀t∈x,t.wf:=fun t ht=>(hall t (by rw[h7];exact ht)).wf
   simp(disch:=omega) [h8,h9,bC,VZ]
   refine du (d8 b l ⟨qa,qe⟩ hl h6 hb) ?_ (n1:=by simp(disch:=omega) [Qc.o,VZ]) (n3:=by simp(disch:=omega) [Qc.o,VZ])
   have w13:=C3 (l:=l) h6
   have h16:=Fj (b:=b) (l:=l) (r:=⟨qa,qe⟩) h9
   generalize h13:sv b l ⟨qa,qe⟩=s13 at w13 h16⊢
   obtain⟨q2,q3⟩:=s13
   simp only at w13 h16
   subst h16
   simp(disch:=omega) [bC,Qc.o,h9,VZ]
   refine du (aT b ⟨qa,qe⟩ true 6) ?_
   have h12:∀bad c,b9 ⟨qa,qe⟩ bad c=⟨qa,qe⟩:=fun bad c=>iQ h9
   simp(disch:=omega) [dy,h1,h2,h3,h7,h13,Proof.o,bC,aY,bh,bk,h12,VZ]
  ·skip
   have hx2:∀t∈x,t.wf:=fun t ht=>(hall t (by rw[h7];exact ht)).wf
   simp(disch:=omega) [h8,h9,bC,VZ]
   refine du (d8 b l ⟨qa,qe⟩ hl h6 hb) ?_ (n1:=by simp(disch:=omega) [Qc.o,VZ]) (n3:=by simp(disch:=omega) [Qc.o,VZ])
   have w13:=C3 (l:=l) h6
   have h16:=Fj (b:=b) (l:=l) (r:=⟨qa,qe⟩) h9
   generalize h13:sv b l ⟨qa,qe⟩=s13 at w13 h16⊢
   obtain⟨q2,q3⟩:=s13
   simp only at w13 h16
   subst h16
   simp(disch:=omega) [bC,Qc.o,h9,VZ]
   refine du (aT b ⟨qa,qe⟩ true 6) ?_
   have h12:∀bad c,b9 ⟨qa,qe⟩ bad c=⟨qa,qe⟩:=fun bad c=>iQ h9
   simp(disch:=omega) [dy,h1,h2,h3,h7,h13,Proof.o,bC,aY,bh,bk,h12,VZ]
end Go.Eng.F
namespace Go.Eng.F
def Tc.o (t:Tc):List E:= [.p (.int .i64 t.view), .o true (some (165,3)) (il t.entries)]
theorem Kb (l:List Entry) (w h:Int) (t:Bytes):il l++ [[.int .i64 w, .int .i64 h, .sl (bytes t)]]=il (l++ [⟨w,h,t⟩]):=by simp[il,Entry.c]
theorem EE {b:Bytes} {l:ah} {v:Int} {k:Nat} {bf:Int} {r:Rd} (h:r.er≠0):gY b l v k bf r=([],r):=by
 cases k
 ·rfl
 ·rw[gY,if_neg h]
theorem vv {b:Bytes} {l:ah} {v:Int} {k:Nat} {bf:Int} {r:Rd} (h:r.er=0):gY b l v (k+1) bf r=
 (let w:=bN b r l.n 5
  let h:=bN b (b9 w.2 (decide ((w.1:Int)≤bf)) 6) v 6
  let t:=bY b h.2 32
  (⟨w.1,h.1,t.1⟩::(gY b l v k w.1 t.2).1,(gY b l v k w.1 t.2).2)):=by
 rw[gY,if_pos h]
abbrev jS:Nat:=119
def tk:AF:=⟨2,6,[.cell 4 2 true],(.seq (.ops [.i (.lbox 2 (.s 0)), .i (.lal 4 [.int .i64 0, .nils])]) (.seq (.ops [qm 10 1,qk 12 165 10, .i (.bld 12 [.int .i64 0, .nils] [(0,1,(.s 11))]), .i (.lal 5 [.int .i64 0, .nils]),qs 5 5 12 2]) (.seq (.ops [qm 13 1,qf 14 2 0,ql 15 2 14 1 false, .i (.bin 16 .add (.s 15) (qi 1)), .i (.call 18 167 false [(.s 13),(.s 16),(qi 3)]),qm 6 17, .i (.mov 7 (qi (-1)))]) (.seq (.seq (.ops [.i (.mov 8 (qi 0))]) (.block 0 (.loop [56,55,54,53,52,51,50,49,48,47,46,45,44,43,42,41,40,39,38,37,36,35,34,33,32,31,30,29,28,27,26,25,24,23,22,21,20,19,18,9] (.seq (.seq (.ops [qm 18 8,qm 19 6,qd 20 .lss 18 19,qm 21 20, .g 21 true 23 (.mov 22 (.s 1)), .g 21 true 24 (.nch 23 (.s 22)), .g 21 true 25 (.fad 24 (.s 23) 2), .g 21 true 26 (.ldh 25 (.s 24) 1 false), .g 21 true 27 (.bin 26 .eql (.s 25) (qi 0)), .i (.pick 27 (.s 21) (.s 26) (qb false))]) (.cond (.s 27) .skip (.exit 0))) (.seq (.block 1 (.seq (.ops [qm 30 1,qf 31 2 0,ql 32 2 31 1 false, .i (.call 34 167 false [(.s 30),(.s 32),(qi 5)]), .i (.bld 34 [.int .i64 0, .int .i64 0, .nils] [(0,1,(.s 33))]), .i (.lal 9 [.int .i64 0, .int .i64 0, .nils]),qs 9 9 34 3]) (.seq (.ops [qm 35 1,qf 36 9 0,ql 37 9 36 1 false,qm 38 7,qd 39 .gtr 37 38, .i (.call 41 172 false [(.s 35),(.s 39),(qi 6)])]) (.seq (.ops [qf 41 9 0,ql 42 9 41 1 false,qm 7 42]) (.seq (.ops [qm 43 1,qf 44 5 0,ql 45 5 44 1 false, .i (.call 47 167 false [(.s 43),(.s 45),(qi 6)]),qf 47 9 1,qs 9 47 46 1]) (.seq (.ops [qm 48 1,qk 50 166 48,qf 50 9 2,qs 9 50 49 1]) (.ops [qf 51 5 1,ql 52 5 51 1 false,ql 53 9 9 3 true, .i (.lsl 54 3 1 [.int .i64 0, .int .i64 0, .nils] [(0,3,(.s 53))]), .i (.app 55 165 3 40 (.s 52) (.s 54)),qf 56 5 1,qs 5 56 55 1]))))))) (.ops [qm 28 8, .i (.bin 29 .add (.s 28) (qi 1)),qm 8 29])))))) (.seq (.ops [ql 57 5 5 2 true,qs 4 4 57 2]) .ret)))))⟩
theorem DV:cd jS=some tk:=by kernel_rfl
theorem Ba (b:Bytes) (l:ah) (r:Rd) (hL:l.rd) (hr:r.wf b) (hb:b.length≤1073741824):VC cd jS (ja [(true,l.c)] 215 (bC b r) []) (fun rs p=>rs= [(true,(D4 b l r).1.o)]∧p= [.pt 215 (bC b (D4 b l r).2)]):=by
 refine VC.xh ?_
 obtain⟨hl,hx,ht,hh⟩:=hL
 refine aw DV rfl ?_
 simp(disch:=omega) [tk,bC,ah.c,VZ]
 refine du (bI b r hr hb) ?_
 have w1:=dD hr
 generalize h1:cN b r=s1 at w1⊢
 simp(disch:=omega) [bC,VZ]
 refine du (cO b s1.2 (l.n+1) 3 w1.1 hb) ?_
 have w2:=fi (n:=(l.n+1)) (c:=3) w1.1 (by omega)
 generalize h2:bN b s1.2 (l.n+1) 3=s2 at w2⊢
 simp(disch:=omega) [bC,VZ]
 have hn:s2.2.er=0→(s2.1:Int)≤l.n:=by
  intro g
  have e:(bN b s1.2 (l.n+1) 3).2.er=0:=by rw[h2];exact g
  have:=lr e (by omega)
  simp only[bN]at h2
  rw[show(cN b s1.2).1=s2.1 by rw[←h2]]at this
  simp only[decide_eq_false_iff_not]at this
  omega
 refine dI (σ:=Nat×Nat×Int×List Entry×Rd) (f0:=_) (by simp(disch:=omega) [VZ];rfl) (de.x7 (s:=5) (k:=5) (i:=1) rfl rfl) (f1:=_) (es0:=_) (by simp(disch:=omega) [VZ];rfl) (by simp(disch:=omega) [VZ];rfl) (fun p=> [(8, .val false [.int .i64 (p.1:Int)]),(7, .val false [.int .i64 p.2.2.1]),(5, .box [.int .i64 s1.1, .ow 5 p.2.1])]) (fun p=> [(4101, .pt 5 215 [.sl (bytes b), .int .i64 (p.2.2.2.2.at_:Int), .int .i64 (p.2.2.2.2.er:Int)]),(5, .sl p.2.1 true true (some (165,3)) (il p.2.2.2.1))])
  (fun p g=>(g+p.1=s2.1∧p.2.2.2.1.length=p.1)∧(p.2.2.2.2.er=0→(s2.1:Int)≤l.n)∧p.2.2.2.2.wf b∧(-1≤p.2.2.1∧p.2.2.1≤1152921504606846975)∧gY b l s1.1 s2.1 (-1) s2.2=(p.2.2.2.1++(gY b l s1.1 g p.2.2.1 p.2.2.2.2).1,(gY b l s1.1 g p.2.2.1 p.2.2.2.2).2)) (0,_, -1,[],s2.2) s2.1 (by simp(disch:=omega) [VZ];rfl) (by simp(disch:=omega) [il,bC,VZ]) ⟨⟨by simp,rfl⟩,hn,w2.1,⟨by simp,by simp⟩,by simp⟩ ?_
 rintro⟨i,v,bf,x,⟨qa,qe⟩⟩ nx g0 ⟨⟨hg,h5⟩,h10,h6,hbf,h7⟩ P hP
 simp only at hg h5 h6 h7 h10 hbf
 have hl2:(il x).length=i:=by rw[bT];exact h5
 by_cases h9:qe=0
 ·subst h9
  by_cases h8:i < s2.1
  ·have h11:=h10 rfl
   simp(disch:=omega) [h8,bC,VZ]
   refine du (cO b ⟨qa,0⟩ l.n 5 h6 hb) ?_
   have w21:=fi (n:=l.n) (c:=5) h6 (by omega)
   generalize h21:bN b ⟨qa,0⟩ l.n 5=s21 at w21⊢
   simp(disch:=omega) [bC,VZ]
   refine du (aT b s21.2 (decide (bf < (s21.1:Int))) 6) ?_
   have e22:(!decide (bf < (s21.1:Int)))=decide ((s21.1:Int)≤bf):=by rw[←decide_not,decide_eq_decide];omega
   rw[e22]
   have w22:=eL (bad:=decide ((s21.1:Int)≤bf)) (c:=6) w21.1 (by omega)
   generalize h22:b9 s21.2 (decide ((s21.1:Int)≤bf)) 6=s22 at w22⊢
   simp(disch:=omega) [bC,VZ]
   refine du (cO b s22 (s1.1:Int) 6 w22 hb) ?_
   have w23:=fi (n:=(s1.1:Int)) (c:=6) w22 (by omega)
   generalize h23:bN b s22 (s1.1:Int) 6=s23 at w23⊢
   simp(disch:=omega) [bC,VZ]
   refine du (cB b s23.2 w23.1 hb) ?_
   have w24:=eQ w23.1 32
   generalize h24:bY b s23.2 32=s24 at w24⊢
   simp(disch:=omega) [bC,VZ]
   obtain⟨g1,rfl⟩:∃g1,g0=g1+1:=⟨g0 - 1,by omega⟩
   rw[vv rfl]at h7
   simp only[h21,h22,h23,h24]at h7
   simp(disch:=omega) [bC,hl2,Kb,VZ]
   refine hP (i+1,_,(s21.1:Int),x++ [⟨(s21.1:Int),(s23.1:Int),s24.1⟩],s24.2) g1 _ _ (by omega) ⟨⟨by simp only;omega,by simp[h5]⟩,fun _=>h11,w24.1,⟨by simp only;omega,by have:=w21.2;simp only;omega⟩,by rw[h7];simp⟩ (by simp(disch:=omega) [VZ];rfl) (by simp(disch:=omega) [bC,VZ])
  ·obtain rfl:g0=0:=by omega
   simp only[gY,List.append_nil]at h7
   simp(disch:=omega) [h8,D4,h1,h2,h7,Tc.o,bC,aY,bh,bk,VZ]
 ·rw[EE (k:=g0) (r:=⟨qa,qe⟩) h9]at h7
  simp only[List.append_nil]at h7
  by_cases h8:i < s2.1
  ·simp(disch:=omega) [h8,h9,D4,h1,h2,h7,Tc.o,bC,aY,bh,bk,VZ]
  ·simp(disch:=omega) [h8,h9,D4,h1,h2,h7,Tc.o,bC,aY,bh,bk,VZ]
end Go.Eng.F
namespace Go.Eng.F
theorem KY {r:Rd} {bad:Bool} {c:Nat} (h:(b9 r bad c).er=0):r.er=0:=by
 apply Decidable.byContradiction
 intro g
 rw[iQ g]at h
 exact g h
theorem NI {b:Bytes} {r:Rd} (h:(cN b r).2.er=0):r.er=0:=by
 apply Decidable.byContradiction
 intro g
 simp[cN,g]at h
theorem Mr {b:Bytes} {r:Rd} {n:Nat} (h:(dz b r n).2.er=0):r.er=0:=by
 apply Decidable.byContradiction
 intro g
 simp[dz,g]at h
theorem Ki {b:Bytes} {l:ah} {r:Rd} (h:(d4 b l r).2.er=0):(d4 b l r).1.2.2.1 < (d4 b l r).1.2.1∧((d4 b l r).1.2.1:Int)≤l.txs:=by
 simp only[d4,bN]at h⊢
 have h1:=Mr h
 have h2:=lr h1 (by omega)
 have h4:=NI (KY h1)
 have h5:=lr h4 (by omega)
 simp only[decide_eq_false_iff_not]at h2 h5
 omega
theorem Hs {b:Bytes} {k:Nat} {r:Rd} (h:r.er≠0):(fW (fun r=>bY b r 32) k r).2=r:=by
 induction k with
 |zero=>rfl
 |succ k ih=>
  have e:(bY b r 32).2=r:=by simp[bY,h]
  simp only[fW,e,ih]
theorem ya {b:Bytes}:∀(k:Nat) (r:Rd),(fW (fun r=>bY b r 32) k r).2=(dk (fun r=>bY b r 32) k r).2∧((dk (fun r=>bY b r 32) k r).2.er=0→(fW (fun r=>bY b r 32) k r).1=(dk (fun r=>bY b r 32) k r).1)
 |0,r=>⟨rfl,fun _=>rfl⟩
 |k+1,r=>by
  by_cases h:r.er=0
  ·rw[iw h]
   have:=ya (b:=b) k (bY b r 32).2
   exact⟨this.1,fun g=>by simp only[fW];rw[this.2 g]⟩
  ·rw[sF h,Hs h]
   exact⟨rfl,fun g=>absurd g h⟩
def fO (b:Bytes) (l:ah) (r:Rd):aW×Rd:=
 let i:=d4 b l r
 if i.2.er=0 then
  let p:=fW (fun r=>bY b r 32) (bn i.1.2.2.1 i.1.2.1) i.2
  (⟨i.1.1,i.1.2.1,i.1.2.2.1,i.1.2.2.2,p.1⟩,p.2)
 else(⟨i.1.1,i.1.2.1,i.1.2.2.1,i.1.2.2.2,[]⟩,i.2)
abbrev gL:Nat:=127
def nO:AF:=⟨2,6,[.cell 4 5 true],(.seq (.ops [.i (.lbox 2 (.s 0)), .i (.lal 4 [.int .i64 0, .int .i64 0, .int .i64 0, .nils, .nils])]) (.seq (.ops [qm 6 1,qk 8 165 6,qm 8 1,qk 10 165 8, .i (.bld 10 [.int .i64 0, .int .i64 0, .int .i64 0, .nils, .nils] [(0,1,(.s 7)),(1,1,(.s 9))]), .i (.lal 5 [.int .i64 0, .int .i64 0, .int .i64 0, .nils, .nils]),qs 5 5 10 5]) (.seq (.ops [qm 11 1,qf 12 5 1,ql 13 5 12 1 false, .i (.bin 14 .gtr (.s 13) (qi 0)), .i (.call 16 172 false [(.s 11),(.s 14),(qi 5)])]) (.seq (.ops [qm 16 1,qf 17 5 1,ql 18 5 17 1 false,qf 19 2 2,ql 20 2 19 1 false,qd 21 .leq 18 20, .i (.call 23 172 false [(.s 16),(.s 21),(qi 3)])]) (.seq (.ops [qm 23 1,qf 24 5 1,ql 25 5 24 1 false, .i (.call 27 167 false [(.s 23),(.s 25),(qi 5)]),qf 27 5 2,qs 5 27 26 1]) (.seq (.ops [qm 28 1,qf 29 2 1,ql 30 2 29 1 false, .i (.call 32 177 false [(.s 28),(.s 30)]),qf 32 5 3,qs 5 32 31 1]) (.seq (.seq (.ops [qm 33 1, .i (.nch 34 (.s 33)),qf 35 34 2, .i (.ldh 36 (.s 35) 1 false), .i (.bin 37 .eql (.s 36) (qi 0))]) (.cond (.s 37) (.seq (.ops [qf 38 5 2,ql 39 5 38 1 false,qf 40 5 1,ql 41 5 40 1 false, .i (.call 43 180 false [(.s 39),(.s 41)]), .i (.mov 43 (qi 0))]) (.block 0 (.loop [52,51,50,49,48,47,46,45,44] (.seq (.ops [qd 44 .lss 43 42]) (.seq (.cond (.s 44) .skip (.exit 0)) (.seq (.block 1 (.ops [qf 45 5 4,ql 46 5 45 1 false,qm 47 1,qk 49 166 47, .i (.lsl 49 1 1 [.nils] [(0,1,(.s 48))]), .i (.app 50 22 1 24 (.s 46) (.s 49)),qf 51 5 4,qs 5 51 50 1])) (.ops [.i (.bin 52 .add (.s 43) (qi 1)),qm 43 52]))))))) .skip)) (.seq (.ops [ql 53 5 5 5 true,qs 4 4 53 5]) .ret))))))))⟩
theorem zn:cd gL=some nO:=by kernel_rfl
theorem xD (b:Bytes) (l:ah) (r:Rd) (hL:l.rd) (hr:r.wf b) (hb:b.length≤1073741824):VC cd gL (ja [(true,l.c)] 215 (bC b r) []) (fun rs p=>rs= [(true,(fO b l r).1.o)]∧p= [.pt 215 (bC b (fO b l r).2)]):=by
 refine VC.xh ?_
 obtain⟨hl,hx,ht,hh⟩:=hL
 have hi:=Ki (b:=b) (l:=l) (r:=r)
 refine aw zn rfl ?_
 simp(disch:=omega) [nO,bC,ah.c,VZ]
 refine du (bI b r hr hb) ?_
 have w1:=dD hr
 generalize h1:cN b r=s1 at w1⊢
 simp(disch:=omega) [bC,VZ]
 refine du (bI b s1.2 w1.1 hb) ?_
 have w2:=dD w1.1
 generalize h2:cN b s1.2=s2 at w2⊢
 simp(disch:=omega) [bC,VZ]
 refine du (aT b s2.2 (decide (0 < s2.1)) 5) ?_
 have e3:(!decide (0 < s2.1))=decide (s2.1=0):=by rw[←decide_not,decide_eq_decide];omega
 rw[e3]
 have w3:=eL (bad:=decide (s2.1=0)) (c:=5) w2.1 (by omega)
 generalize h3:b9 s2.2 (decide (s2.1=0)) 5=s3 at w3⊢
 simp(disch:=omega) [bC,VZ]
 refine du (aT b s3 (decide ((s2.1:Int)≤l.txs)) 3) ?_
 have e4:(!decide ((s2.1:Int)≤l.txs))=decide (l.txs < (s2.1:Int)):=by rw[←decide_not,decide_eq_decide];omega
 rw[e4]
 have w4:=eL (bad:=decide (l.txs < (s2.1:Int))) (c:=3) w3 (by omega)
 generalize h4:b9 s3 (decide (l.txs < (s2.1:Int))) 3=s4 at w4⊢
 simp(disch:=omega) [bC,VZ]
 refine du (cO b s4 (s2.1:Int) 5 w4 hb) ?_
 have w5:=fi (n:=(s2.1:Int)) (c:=5) w4 (by omega)
 generalize h5:bN b s4 (s2.1:Int) 5=s5 at w5⊢
 simp(disch:=omega) [bC,VZ]
 refine du (oa b s5.2 l.tx (by omega) w5.1 hb) ?_
 have w6:=wW w5.1 l.tx.toNat
 generalize h6:dz b s5.2 l.tx.toNat=s6 at w6⊢
 simp(disch:=omega) [bC,VZ]
 have hi0:d4 b l r=((s1.1,s2.1,s5.1,s6.1),s6.2):=by simp only[d4,h1,h2,h3,h4,h5,h6]
 rw[hi0]at hi
 simp only at hi
 by_cases g:s6.2.er=0
 case neg=>simp(disch:=omega) [g,fO,hi0,aW.o,bC,aY,bh,bk,ag,bE,VZ]
 have hi2:=hi g
 have hpl:=cM s2.1 s5.1
 simp(disch:=omega) [g,VZ]
 refine aq (nf s2.1 s5.1 (by omega) (by omega)) ?_
 simp(disch:=omega) [VZ]
 refine dI (σ:=Nat×Nat×List Bytes×Rd) (f0:=_) (by simp(disch:=omega) [VZ];rfl) (de.x7 (s:=5) (k:=5) (i:=4) rfl rfl) (f1:=_) (es0:=_) (by simp(disch:=omega) [VZ];rfl) (by simp(disch:=omega) [VZ];rfl) (fun p=> [(43, .val false [.int .i64 (p.1:Int)]),(5, .box [.int .i64 s1.1, .int .i64 s2.1, .int .i64 s5.1, .ow 270336 32, .ow 5 p.2.1])]) (fun p=> [(4101, .pt 5 215 [.sl (bytes b), .int .i64 (p.2.2.2.at_:Int), .int .i64 (p.2.2.2.er:Int)]),(5, .sl p.2.1 true true (some (22,1)) (bE p.2.2.1))])
  (fun p g=>(g+p.1=(bn s5.1 s2.1)∧p.2.2.1.length=p.1)∧p.2.2.2.wf b∧fW (fun r=>bY b r 32) (bn s5.1 s2.1) s6.2=(p.2.2.1++(fW (fun r=>bY b r 32) g p.2.2.2).1,(fW (fun r=>bY b r 32) g p.2.2.2).2)) (0,_,[],s6.2) (bn s5.1 s2.1) (by simp(disch:=omega) [VZ];rfl) (by simp(disch:=omega) [bE,bC,g,VZ]) ⟨⟨by simp,rfl⟩,w6.1,by simp⟩ ?_
 rintro⟨i,v,x,q⟩ nx g0 ⟨⟨hg,h5⟩,h6,h7⟩ P hP
 simp only at hg h5 h6 h7
 have hl2:(bE x).length=i:=by rw[ao];exact h5
 simp(disch:=omega) [VZ]
 refine ab (fun h8=> ?_) (fun h8=> ?_)
 ·simp(disch:=omega) [bC,VZ]
  refine du (cB b q h6 hb) ?_
  have w25:=eQ h6 32
  obtain⟨g1,rfl⟩:∃g1,g0=g1+1:=⟨g0 - 1,by omega⟩
  simp only[fW]at h7
  generalize h9:bY b q 32=s25 at w25 h7⊢
  simp(disch:=omega) [bC,hl2,E1,VZ]
  refine hP (i+1,_,x++ [s25.1],s25.2) g1 _ _ (by omega) ⟨⟨by simp only;omega,by simp[h5]⟩,w25.1,by rw[h7];simp⟩ (by simp(disch:=omega) [VZ];rfl) (by simp(disch:=omega) [bC,VZ])
 ·obtain rfl:g0=0:=by omega
  simp only[fW,List.append_nil]at h7
  simp(disch:=omega) [fO,hi0,g,h7,aW.o,bC,aY,bh,bk,VZ]
end Go.Eng.F
namespace Go.Eng.F
def cg (x:List E) (z:List E) (r:Rd):List (Bool×List E):=if r.er=0 then [(true,x),(false,[.p (.int .i64 (r.at_:Int))]),(false,[.p (.int .i64 0)])]else [(true,z),(false,[.p (.int .i64 0)]),(false,[.p (.int .i64 (r.er:Int))])]
def Qb:List E:= [.p (.int .i64 0), .p (.int .i64 0), .p .nils, .p .nils, .p .nils]
def HU:List E:= [.p (.int .i64 0), .p (.int .i64 0), .p .nils, .p (.int .i64 0), .p .nils]
def HH:List E:= [.p (.int .i64 0), .p (.int .i64 0), .p (.int .i64 0), .p .nils, .p .nils, .p (.int .i64 0), .p (.int .i64 0), .p .nils, .p .nils, .p .nils]
def Cg:List E:= [.p (.int .i64 0), .p (.int .i64 0), .p (.int .i64 0), .p .nils, .p .nils, .p (.int .i64 0), .p (.int .i64 0), .p .nils, .p .nils, .p .nils, .p .nils]
def P9:List E:= [.p (.int .i64 0), .p .nils]
def BV:List E:= [.p .nils, .p (.int .i64 0), .p (.int .i64 0), .p .nils, .p .nils, .p .nils]
def H3:List E:= [.p (.int .i64 0), .p (.int .i64 0), .p (.int .i64 0), .p .nils, .p .nils]
abbrev f5:Nat:=101
def f4:AF:=⟨4,6,[.cell 8 5 true, .tmp 9, .tmp 10],(.seq (.ops [.i (.lbox 4 (.s 0)), .i (.lal 8 [.int .i64 0, .int .i64 0, .nils, .int .i64 0, .nils]), .i (.mov 9 (qi 0)), .i (.mov 10 (qi 0))]) (.seq (.ops [.i (.lal 11 [.int .i64 0, .int .i64 0, .nils, .int .i64 0, .nils])]) (.seq (.seq (.ops [ql 14 4 4 5 true,qk 16 95 14, .i (.not 16 (.s 15))]) (.cond (.s 16) (.seq (.ops [ql 17 11 11 5 true,qs 8 8 17 5, .i (.mov 9 (qi 0)), .i (.mov 10 (qi 5))]) .ret) .skip)) (.seq (.ops [qm 18 1,qm 19 2, .i (.bld 20 [.nils, .int .i64 0, .int .i64 0] [(0,1,(.s 18)),(1,1,(.s 19))]), .i (.hbox 21 215 (.s 20)),qm 12 21]) (.seq (.ops [qm 22 3,ql 23 4 4 5 true,qm 24 12, .i (.clv 26 false (.s 22) [(.s 23),(.s 24)]), .i (.lal 13 [.int .i64 0, .int .i64 0, .nils, .int .i64 0, .nils]),qs 13 13 25 5]) (.seq (.seq (.ops [qm 26 12, .i (.nch 27 (.s 26)),qf 28 27 2, .i (.ldh 29 (.s 28) 1 false), .i (.bin 30 .neq (.s 29) (qi 0))]) (.cond (.s 30) (.seq (.ops [ql 31 11 11 5 true,qm 32 12, .i (.nch 33 (.s 32)),qf 34 33 2, .i (.ldh 35 (.s 34) 1 false),qs 8 8 31 5, .i (.mov 9 (qi 0)),qm 10 35]) .ret) .skip)) (.seq (.ops [ql 36 13 13 5 true,qm 37 12, .i (.nch 38 (.s 37)),qf 39 38 1, .i (.ldh 40 (.s 39) 1 false),qs 8 8 36 5,qm 9 40, .i (.mov 10 (qi 0))]) .ret)))))))⟩
theorem ot:cd f5=some f4:=by kernel_rfl
theorem oo (b:Bytes) (l:ah) (k:Nat) (hok:l.ok=true) (hk:k≤b.length) (hb:b.length≤1073741824):VC cd f5 (aE [(true,l.c),(false,[.sl (bytes b)]),(false,[.int .i64 (k:Int)]),(false,[.fn gQ])]) (fun rs _=>rs=cg (fo b l ⟨k,0⟩).1.o HU (fo b l ⟨k,0⟩).2):=by
 have hr:Rd.wf b ⟨k,0⟩:=⟨hk,by simp⟩
 refine aa ot rfl ?_
 simp(disch:=omega) [f4,ah.c,VZ]
 refine aq (aR l) ?_ (ha:=by first|rfl|(simp[ah.c,VY] <;>repeat' constructor))
 simp(disch:=omega) [hok,VZ]
 refine du (xn b l ⟨k,0⟩ hr hb) ?_ (n1:=by simp(disch:=omega) [bb.o,VZ]) (n3:=by simp(disch:=omega) [bb.o,VZ])
 generalize h1:fo b l ⟨k,0⟩=s1
 simp(disch:=omega) [bC,bb.o,VZ]
 by_cases g:s1.2.er=0
 ·simp(disch:=omega) [g,cg,bb.o,VZ]
 ·simp(disch:=omega) [g,cg,HU,VZ]
abbrev pT:Nat:=25
def rZ:AF:=⟨3,5,[.cell 6 5 true, .tmp 7, .tmp 8],(.seq (.ops [.i (.lbox 3 (.s 0)), .i (.lal 6 [.int .i64 0, .int .i64 0, .nils, .int .i64 0, .nils]), .i (.mov 7 (qi 0)), .i (.mov 8 (qi 0))]) (.seq (.ops [ql 9 3 3 5 true,qm 10 1,qm 11 2, .i (.call 13 101 false [(.s 9),(.s 10),(.s 11),(.c (.val false [.fn 102]))]), .i (.ext 13 (.s 12) 0), .i (.ext 14 (.s 12) 1), .i (.ext 15 (.s 12) 2),qs 6 6 13 5,qm 7 14,qm 8 15]) .ret))⟩
theorem Bm:cd pT=some rZ:=by kernel_rfl
theorem z2 (b:Bytes) (l:ah) (k:Nat) (hok:l.ok=true) (hk:k≤b.length) (hb:b.length≤1073741824):VC cd pT (aE [(true,l.c),(false,[.sl (bytes b)]),(false,[.int .i64 (k:Int)])]) (fun rs _=>rs=cg (fo b l ⟨k,0⟩).1.o HU (fo b l ⟨k,0⟩).2):=by
 refine aa Bm rfl ?_
 simp(disch:=omega) [rZ,ah.c,VZ]
 have h0:=oo b l k hok hk hb
 generalize h1:fo b l ⟨k,0⟩=s1 at h0⊢
 by_cases g:s1.2.er=0
 ·simp only[cg,if_pos g,bb.o]at h0⊢
  refine aq (h0) ?_ (ha:=by first|rfl|(simp[ah.c,VY] <;>repeat' constructor))
  simp(disch:=omega) [VZ]
 ·simp only[cg,if_neg g,HU]at h0⊢
  refine aq (h0) ?_ (ha:=by first|rfl|(simp[ah.c,VY] <;>repeat' constructor))
  simp(disch:=omega) [VZ]
abbrev hD:Nat:=105
def hG:AF:=⟨4,6,[.cell 8 5 true, .tmp 9, .tmp 10],(.seq (.ops [.i (.lbox 4 (.s 0)), .i (.lal 8 [.int .i64 0, .int .i64 0, .nils, .nils, .nils]), .i (.mov 9 (qi 0)), .i (.mov 10 (qi 0))]) (.seq (.ops [.i (.lal 11 [.int .i64 0, .int .i64 0, .nils, .nils, .nils])]) (.seq (.seq (.ops [ql 14 4 4 5 true,qk 16 95 14, .i (.not 16 (.s 15))]) (.cond (.s 16) (.seq (.ops [ql 17 11 11 5 true,qs 8 8 17 5, .i (.mov 9 (qi 0)), .i (.mov 10 (qi 5))]) .ret) .skip)) (.seq (.ops [qm 18 1,qm 19 2, .i (.bld 20 [.nils, .int .i64 0, .int .i64 0] [(0,1,(.s 18)),(1,1,(.s 19))]), .i (.hbox 21 215 (.s 20)),qm 12 21]) (.seq (.ops [qm 22 3,ql 23 4 4 5 true,qm 24 12, .i (.clv 26 false (.s 22) [(.s 23),(.s 24)]), .i (.lal 13 [.int .i64 0, .int .i64 0, .nils, .nils, .nils]),qs 13 13 25 5]) (.seq (.seq (.ops [qm 26 12, .i (.nch 27 (.s 26)),qf 28 27 2, .i (.ldh 29 (.s 28) 1 false), .i (.bin 30 .neq (.s 29) (qi 0))]) (.cond (.s 30) (.seq (.ops [ql 31 11 11 5 true,qm 32 12, .i (.nch 33 (.s 32)),qf 34 33 2, .i (.ldh 35 (.s 34) 1 false),qs 8 8 31 5, .i (.mov 9 (qi 0)),qm 10 35]) .ret) .skip)) (.seq (.ops [ql 36 13 13 5 true,qm 37 12, .i (.nch 38 (.s 37)),qf 39 38 1, .i (.ldh 40 (.s 39) 1 false),qs 8 8 36 5,qm 9 40, .i (.mov 10 (qi 0))]) .ret)))))))⟩
theorem sR:cd hD=some hG:=by kernel_rfl
theorem sV (b:Bytes) (l:ah) (k:Nat) (hok:l.ok=true) (hk:k≤b.length) (hb:b.length≤1073741824):VC cd hD (aE [(true,l.c),(false,[.sl (bytes b)]),(false,[.int .i64 (k:Int)]),(false,[.fn jV])]) (fun rs _=>rs=cg (sv b l ⟨k,0⟩).1.o Qb (sv b l ⟨k,0⟩).2):=by
 have hr:Rd.wf b ⟨k,0⟩:=⟨hk,by simp⟩
 refine aa sR rfl ?_
 simp(disch:=omega) [hG,ah.c,VZ]
 refine aq (aR l) ?_ (ha:=by first|rfl|(simp[ah.c,VY] <;>repeat' constructor))
 simp(disch:=omega) [hok,VZ]
 refine du (d8 b l ⟨k,0⟩ (fb hok).1 hr hb) ?_ (n1:=by simp(disch:=omega) [Qc.o,VZ]) (n3:=by simp(disch:=omega) [Qc.o,VZ])
 generalize h1:sv b l ⟨k,0⟩=s1
 simp(disch:=omega) [bC,Qc.o,VZ]
 by_cases g:s1.2.er=0
 ·simp(disch:=omega) [g,cg,Qc.o,VZ]
 ·simp(disch:=omega) [g,cg,Qb,VZ]
abbrev vX:Nat:=28
def wY:AF:=⟨3,5,[.cell 6 5 true, .tmp 7, .tmp 8],(.seq (.ops [.i (.lbox 3 (.s 0)), .i (.lal 6 [.int .i64 0, .int .i64 0, .nils, .nils, .nils]), .i (.mov 7 (qi 0)), .i (.mov 8 (qi 0))]) (.seq (.ops [ql 9 3 3 5 true,qm 10 1,qm 11 2, .i (.call 13 105 false [(.s 9),(.s 10),(.s 11),(.c (.val false [.fn 106]))]), .i (.ext 13 (.s 12) 0), .i (.ext 14 (.s 12) 1), .i (.ext 15 (.s 12) 2),qs 6 6 13 5,qm 7 14,qm 8 15]) .ret))⟩
theorem Gg:cd vX=some wY:=by kernel_rfl
theorem Dp (b:Bytes) (l:ah) (k:Nat) (hok:l.ok=true) (hk:k≤b.length) (hb:b.length≤1073741824):VC cd vX (aE [(true,l.c),(false,[.sl (bytes b)]),(false,[.int .i64 (k:Int)])]) (fun rs _=>rs=cg (sv b l ⟨k,0⟩).1.o Qb (sv b l ⟨k,0⟩).2):=by
 refine aa Gg rfl ?_
 simp(disch:=omega) [wY,ah.c,VZ]
 have h0:=sV b l k hok hk hb
 generalize h1:sv b l ⟨k,0⟩=s1 at h0⊢
 by_cases g:s1.2.er=0
 ·simp only[cg,if_pos g,Qc.o]at h0⊢
  refine aq (h0) ?_ (ha:=by first|rfl|(simp[ah.c,VY] <;>repeat' constructor))
  simp(disch:=omega) [VZ]
 ·simp only[cg,if_neg g,Qb]at h0⊢
  refine aq (h0) ?_ (ha:=by first|rfl|(simp[ah.c,VY] <;>repeat' constructor))
  simp(disch:=omega) [VZ]
abbrev f7:Nat:=110
def fY:AF:=⟨4,6,[.cell 8 10 true, .tmp 9, .tmp 10],(.seq (.ops [.i (.lbox 4 (.s 0)), .i (.lal 8 qz), .i (.mov 9 (qi 0)), .i (.mov 10 (qi 0))]) (.seq (.ops [.i (.lal 11 qz)]) (.seq (.seq (.ops [ql 14 4 4 5 true,qk 16 95 14, .i (.not 16 (.s 15))]) (.cond (.s 16) (.seq (.ops [ql 17 11 11 10 true,qs 8 8 17 10, .i (.mov 9 (qi 0)), .i (.mov 10 (qi 5))]) .ret) .skip)) (.seq (.ops [qm 18 1,qm 19 2, .i (.bld 20 [.nils, .int .i64 0, .int .i64 0] [(0,1,(.s 18)),(1,1,(.s 19))]), .i (.hbox 21 215 (.s 20)),qm 12 21]) (.seq (.ops [qm 22 3,ql 23 4 4 5 true,qm 24 12, .i (.clv 26 false (.s 22) [(.s 23),(.s 24)]), .i (.lal 13 qz),qs 13 13 25 10]) (.seq (.seq (.ops [qm 26 12, .i (.nch 27 (.s 26)),qf 28 27 2, .i (.ldh 29 (.s 28) 1 false), .i (.bin 30 .neq (.s 29) (qi 0))]) (.cond (.s 30) (.seq (.ops [ql 31 11 11 10 true,qm 32 12, .i (.nch 33 (.s 32)),qf 34 33 2, .i (.ldh 35 (.s 34) 1 false),qs 8 8 31 10, .i (.mov 9 (qi 0)),qm 10 35]) .ret) .skip)) (.seq (.ops [ql 36 13 13 10 true,qm 37 12, .i (.nch 38 (.s 37)),qf 39 38 1, .i (.ldh 40 (.s 39) 1 false),qs 8 8 36 10,qm 9 40, .i (.mov 10 (qi 0))]) .ret)))))))⟩
theorem oq:cd f7=some fY:=by kernel_rfl
theorem oi (b:Bytes) (l:ah) (k:Nat) (hok:l.ok=true) (hk:k≤b.length) (hb:b.length≤1073741824):VC cd f7 (aE [(true,l.c),(false,[.sl (bytes b)]),(false,[.int .i64 (k:Int)]),(false,[.fn gW])]) (fun rs _=>rs=cg (cH b l ⟨k,0⟩).1.o HH (cH b l ⟨k,0⟩).2):=by
 have hr:Rd.wf b ⟨k,0⟩:=⟨hk,by simp⟩
 refine aa oq rfl ?_
 simp(disch:=omega) [fY,ah.c,VZ]
 refine aq (aR l) ?_ (ha:=by first|rfl|(simp[ah.c,VY] <;>repeat' constructor))
 simp(disch:=omega) [hok,VZ]
 refine du (gg b l ⟨k,0⟩ (fb hok).1 hr hb) ?_ (n1:=by simp(disch:=omega) [Head.o,VZ]) (n3:=by simp(disch:=omega) [Head.o,VZ])
 generalize h1:cH b l ⟨k,0⟩=s1
 simp(disch:=omega) [bC,Head.o,VZ]
 by_cases g:s1.2.er=0
 ·simp(disch:=omega) [g,cg,Head.o,VZ]
 ·simp(disch:=omega) [g,cg,HH,VZ]
abbrev rJ:Nat:=31
def o5:AF:=⟨3,5,[.cell 6 10 true, .tmp 7, .tmp 8],(.seq (.ops [.i (.lbox 3 (.s 0)), .i (.lal 6 qz), .i (.mov 7 (qi 0)), .i (.mov 8 (qi 0))]) (.seq (.ops [ql 9 3 3 5 true,qm 10 1,qm 11 2, .i (.call 13 110 false [(.s 9),(.s 10),(.s 11),(.c (.val false [.fn 111]))]), .i (.ext 13 (.s 12) 0), .i (.ext 14 (.s 12) 1), .i (.ext 15 (.s 12) 2),qs 6 6 13 10,qm 7 14,qm 8 15]) .ret))⟩
theorem Ca:cd rJ=some o5:=by kernel_rfl
theorem zt (b:Bytes) (l:ah) (k:Nat) (hok:l.ok=true) (hk:k≤b.length) (hb:b.length≤1073741824):VC cd rJ (aE [(true,l.c),(false,[.sl (bytes b)]),(false,[.int .i64 (k:Int)])]) (fun rs _=>rs=cg (cH b l ⟨k,0⟩).1.o HH (cH b l ⟨k,0⟩).2):=by
 refine aa Ca rfl ?_
 simp(disch:=omega) [o5,ah.c,VZ]
 have h0:=oi b l k hok hk hb
 generalize h1:cH b l ⟨k,0⟩=s1 at h0⊢
 by_cases g:s1.2.er=0
 ·simp only[cg,if_pos g,Head.o]at h0⊢
  refine aq (h0) ?_ (ha:=by first|rfl|(simp[ah.c,VY] <;>repeat' constructor))
  simp(disch:=omega) [VZ]
 ·simp only[cg,if_neg g,HH]at h0⊢
  refine aq (h0) ?_ (ha:=by first|rfl|(simp[ah.c,VY] <;>repeat' constructor))
  simp(disch:=omega) [VZ]
abbrev fx:Nat:=115
def fA:AF:=⟨4,6,[.cell 8 11 true, .tmp 9, .tmp 10],(.seq (.ops [.i (.lbox 4 (.s 0)), .i (.lal 8 [.int .i64 0, .int .i64 0, .int .i64 0, .nils, .nils, .int .i64 0, .int .i64 0, .nils, .nils, .nils, .nils]), .i (.mov 9 (qi 0)), .i (.mov 10 (qi 0))]) (.seq (.ops [.i (.lal 11 [.int .i64 0, .int .i64 0, .int .i64 0, .nils, .nils, .int .i64 0, .int .i64 0, .nils, .nils, .nils, .nils])]) (.seq (.seq (.ops [ql 14 4 4 5 true,qk 16 95 14, .i (.not 16 (.s 15))]) (.cond (.s 16) (.seq (.ops [ql 17 11 11 11 true,qs 8 8 17 11, .i (.mov 9 (qi 0)), .i (.mov 10 (qi 5))]) .ret) .skip)) (.seq (.ops [qm 18 1,qm 19 2, .i (.bld 20 [.nils, .int .i64 0, .int .i64 0] [(0,1,(.s 18)),(1,1,(.s 19))]), .i (.hbox 21 215 (.s 20)),qm 12 21]) (.seq (.ops [qm 22 3,ql 23 4 4 5 true,qm 24 12, .i (.clv 26 false (.s 22) [(.s 23),(.s 24)]), .i (.lal 13 [.int .i64 0, .int .i64 0, .int .i64 0, .nils, .nils, .int .i64 0, .int .i64 0, .nils, .nils, .nils, .nils]),qs 13 13 25 11]) (.seq (.seq (.ops [qm 26 12, .i (.nch 27 (.s 26)),qf 28 27 2, .i (.ldh 29 (.s 28) 1 false), .i (.bin 30 .neq (.s 29) (qi 0))]) (.cond (.s 30) (.seq (.ops [ql 31 11 11 11 true,qm 32 12, .i (.nch 33 (.s 32)),qf 34 33 2, .i (.ldh 35 (.s 34) 1 false),qs 8 8 31 11, .i (.mov 9 (qi 0)),qm 10 35]) .ret) .skip)) (.seq (.ops [ql 36 13 13 11 true,qm 37 12, .i (.nch 38 (.s 37)),qf 39 38 1, .i (.ldh 40 (.s 39) 1 false),qs 8 8 36 11,qm 9 40, .i (.mov 10 (qi 0))]) .ret)))))))⟩
theorem lQ:cd fx=some fA:=by kernel_rfl
theorem lW (b:Bytes) (l:ah) (k:Nat) (hok:l.ok=true) (hk:k≤b.length) (hb:b.length≤1073741824):VC cd fx (aE [(true,l.c),(false,[.sl (bytes b)]),(false,[.int .i64 (k:Int)]),(false,[.fn gr])]) (fun rs _=>rs=cg (dJ b l ⟨k,0⟩).1.o Cg (dJ b l ⟨k,0⟩).2):=by
 have hr:Rd.wf b ⟨k,0⟩:=⟨hk,by simp⟩
 refine aa lQ rfl ?_
 simp(disch:=omega) [fA,ah.c,VZ]
 refine aq (aR l) ?_ (ha:=by first|rfl|(simp[ah.c,VY] <;>repeat' constructor))
 simp(disch:=omega) [hok,VZ]
 refine du (we b l ⟨k,0⟩ (fb hok) hr hb) ?_ (n1:=by simp(disch:=omega) [Block.o,VZ]) (n3:=by simp(disch:=omega) [Block.o,VZ])
 generalize h1:dJ b l ⟨k,0⟩=s1
 simp(disch:=omega) [bC,Block.o,VZ]
 by_cases g:s1.2.er=0
 ·simp(disch:=omega) [g,cg,Block.o,VZ]
 ·simp(disch:=omega) [g,cg,Cg,VZ]
abbrev ns:Nat:=35
def nJ:AF:=⟨3,5,[.cell 6 11 true, .tmp 7, .tmp 8],(.seq (.ops [.i (.lbox 3 (.s 0)), .i (.lal 6 [.int .i64 0, .int .i64 0, .int .i64 0, .nils, .nils, .int .i64 0, .int .i64 0, .nils, .nils, .nils, .nils]), .i (.mov 7 (qi 0)), .i (.mov 8 (qi 0))]) (.seq (.ops [ql 9 3 3 5 true,qm 10 1,qm 11 2, .i (.call 13 115 false [(.s 9),(.s 10),(.s 11),(.c (.val false [.fn 116]))]), .i (.ext 13 (.s 12) 0), .i (.ext 14 (.s 12) 1), .i (.ext 15 (.s 12) 2),qs 6 6 13 11,qm 7 14,qm 8 15]) .ret))⟩
theorem y9:cd ns=some nJ:=by kernel_rfl
theorem yi (b:Bytes) (l:ah) (k:Nat) (hok:l.ok=true) (hk:k≤b.length) (hb:b.length≤1073741824):VC cd ns (aE [(true,l.c),(false,[.sl (bytes b)]),(false,[.int .i64 (k:Int)])]) (fun rs _=>rs=cg (dJ b l ⟨k,0⟩).1.o Cg (dJ b l ⟨k,0⟩).2):=by
 refine aa y9 rfl ?_
 simp(disch:=omega) [nJ,ah.c,VZ]
 have h0:=lW b l k hok hk hb
 generalize h1:dJ b l ⟨k,0⟩=s1 at h0⊢
 by_cases g:s1.2.er=0
 ·simp only[cg,if_pos g,Block.o]at h0⊢
  refine aq (h0) ?_ (ha:=by first|rfl|(simp[ah.c,VY] <;>repeat' constructor))
  simp(disch:=omega) [VZ]
 ·simp only[cg,if_neg g,Cg]at h0⊢
  refine aq (h0) ?_ (ha:=by first|rfl|(simp[ah.c,VY] <;>repeat' constructor))
  simp(disch:=omega) [VZ]
abbrev hK:Nat:=118
def hU:AF:=⟨4,6,[.cell 8 2 true, .tmp 9, .tmp 10],(.seq (.ops [.i (.lbox 4 (.s 0)), .i (.lal 8 [.int .i64 0, .nils]), .i (.mov 9 (qi 0)), .i (.mov 10 (qi 0))]) (.seq (.ops [.i (.lal 11 [.int .i64 0, .nils])]) (.seq (.seq (.ops [ql 14 4 4 5 true,qk 16 95 14, .i (.not 16 (.s 15))]) (.cond (.s 16) (.seq (.ops [ql 17 11 11 2 true,qs 8 8 17 2, .i (.mov 9 (qi 0)), .i (.mov 10 (qi 5))]) .ret) .skip)) (.seq (.ops [qm 18 1,qm 19 2, .i (.bld 20 [.nils, .int .i64 0, .int .i64 0] [(0,1,(.s 18)),(1,1,(.s 19))]), .i (.hbox 21 215 (.s 20)),qm 12 21]) (.seq (.ops [qm 22 3,ql 23 4 4 5 true,qm 24 12, .i (.clv 26 false (.s 22) [(.s 23),(.s 24)]), .i (.lal 13 [.int .i64 0, .nils]),qs 13 13 25 2]) (.seq (.seq (.ops [qm 26 12, .i (.nch 27 (.s 26)),qf 28 27 2, .i (.ldh 29 (.s 28) 1 false), .i (.bin 30 .neq (.s 29) (qi 0))]) (.cond (.s 30) (.seq (.ops [ql 31 11 11 2 true,qm 32 12, .i (.nch 33 (.s 32)),qf 34 33 2, .i (.ldh 35 (.s 34) 1 false),qs 8 8 31 2, .i (.mov 9 (qi 0)),qm 10 35]) .ret) .skip)) (.seq (.ops [ql 36 13 13 2 true,qm 37 12, .i (.nch 38 (.s 37)),qf 39 38 1, .i (.ldh 40 (.s 39) 1 false),qs 8 8 36 2,qm 9 40, .i (.mov 10 (qi 0))]) .ret)))))))⟩
theorem sP:cd hK=some hU:=by kernel_rfl
theorem sZ (b:Bytes) (l:ah) (k:Nat) (hok:l.ok=true) (hk:k≤b.length) (hb:b.length≤1073741824):VC cd hK (aE [(true,l.c),(false,[.sl (bytes b)]),(false,[.int .i64 (k:Int)]),(false,[.fn jS])]) (fun rs _=>rs=cg (D4 b l ⟨k,0⟩).1.o P9 (D4 b l ⟨k,0⟩).2):=by
 have hr:Rd.wf b ⟨k,0⟩:=⟨hk,by simp⟩
 refine aa sP rfl ?_
 simp(disch:=omega) [hU,ah.c,VZ]
 refine aq (aR l) ?_ (ha:=by first|rfl|(simp[ah.c,VY] <;>repeat' constructor))
 simp(disch:=omega) [hok,VZ]
 refine du (Ba b l ⟨k,0⟩ (fb hok) hr hb) ?_ (n1:=by simp(disch:=omega) [Tc.o,VZ]) (n3:=by simp(disch:=omega) [Tc.o,VZ])
 generalize h1:D4 b l ⟨k,0⟩=s1
 simp(disch:=omega) [bC,Tc.o,VZ]
 by_cases g:s1.2.er=0
 ·simp(disch:=omega) [g,cg,Tc.o,VZ]
 ·simp(disch:=omega) [g,cg,P9,VZ]
abbrev wL:Nat:=38
def vS:AF:=⟨3,5,[.cell 6 2 true, .tmp 7, .tmp 8],(.seq (.ops [.i (.lbox 3 (.s 0)), .i (.lal 6 [.int .i64 0, .nils]), .i (.mov 7 (qi 0)), .i (.mov 8 (qi 0))]) (.seq (.ops [ql 9 3 3 5 true,qm 10 1,qm 11 2, .i (.call 13 118 false [(.s 9),(.s 10),(.s 11),(.c (.val false [.fn 119]))]), .i (.ext 13 (.s 12) 0), .i (.ext 14 (.s 12) 1), .i (.ext 15 (.s 12) 2),qs 6 6 13 2,qm 7 14,qm 8 15]) .ret))⟩
theorem FG:cd wL=some vS:=by kernel_rfl
theorem Dy (b:Bytes) (l:ah) (k:Nat) (hok:l.ok=true) (hk:k≤b.length) (hb:b.length≤1073741824):VC cd wL (aE [(true,l.c),(false,[.sl (bytes b)]),(false,[.int .i64 (k:Int)])]) (fun rs _=>rs=cg (D4 b l ⟨k,0⟩).1.o P9 (D4 b l ⟨k,0⟩).2):=by
 refine aa FG rfl ?_
 simp(disch:=omega) [vS,ah.c,VZ]
 have h0:=sZ b l k hok hk hb
 generalize h1:D4 b l ⟨k,0⟩=s1 at h0⊢
 by_cases g:s1.2.er=0
 ·simp only[cg,if_pos g,Tc.o]at h0⊢
  refine aq (h0) ?_ (ha:=by first|rfl|(simp[ah.c,VY] <;>repeat' constructor))
  simp(disch:=omega) [VZ]
 ·simp only[cg,if_neg g,P9]at h0⊢
  refine aq (h0) ?_ (ha:=by first|rfl|(simp[ah.c,VY] <;>repeat' constructor))
  simp(disch:=omega) [VZ]
abbrev fL:Nat:=122
def fy:AF:=⟨4,6,[.cell 8 6 true, .tmp 9, .tmp 10],(.seq (.ops [.i (.lbox 4 (.s 0)), .i (.lal 8 [.nils, .int .i64 0, .int .i64 0, .nils, .nils, .nils]), .i (.mov 9 (qi 0)), .i (.mov 10 (qi 0))]) (.seq (.ops [.i (.lal 11 [.nils, .int .i64 0, .int .i64 0, .nils, .nils, .nils])]) (.seq (.seq (.ops [ql 14 4 4 5 true,qk 16 95 14, .i (.not 16 (.s 15))]) (.cond (.s 16) (.seq (.ops [ql 17 11 11 6 true,qs 8 8 17 6, .i (.mov 9 (qi 0)), .i (.mov 10 (qi 5))]) .ret) .skip)) (.seq (.ops [qm 18 1,qm 19 2, .i (.bld 20 [.nils, .int .i64 0, .int .i64 0] [(0,1,(.s 18)),(1,1,(.s 19))]), .i (.hbox 21 215 (.s 20)),qm 12 21]) (.seq (.ops [qm 22 3,ql 23 4 4 5 true,qm 24 12, .i (.clv 26 false (.s 22) [(.s 23),(.s 24)]), .i (.lal 13 [.nils, .int .i64 0, .int .i64 0, .nils, .nils, .nils]),qs 13 13 25 6]) (.seq (.seq (.ops [qm 26 12, .i (.nch 27 (.s 26)),qf 28 27 2, .i (.ldh 29 (.s 28) 1 false), .i (.bin 30 .neq (.s 29) (qi 0))]) (.cond (.s 30) (.seq (.ops [ql 31 11 11 6 true,qm 32 12, .i (.nch 33 (.s 32)),qf 34 33 2, .i (.ldh 35 (.s 34) 1 false),qs 8 8 31 6, .i (.mov 9 (qi 0)),qm 10 35]) .ret) .skip)) (.seq (.ops [ql 36 13 13 6 true,qm 37 12, .i (.nch 38 (.s 37)),qf 39 38 1, .i (.ldh 40 (.s 39) 1 false),qs 8 8 36 6,qm 9 40, .i (.mov 10 (qi 0))]) .ret)))))))⟩
theorem lT:cd fL=some fy:=by kernel_rfl
theorem l7 (b:Bytes) (l:ah) (k:Nat) (hok:l.ok=true) (hk:k≤b.length) (hb:b.length≤1073741824):VC cd fL (aE [(true,l.c),(false,[.sl (bytes b)]),(false,[.int .i64 (k:Int)]),(false,[.fn gq])]) (fun rs _=>rs=cg (dy b l ⟨k,0⟩).1.o BV (dy b l ⟨k,0⟩).2):=by
 have hr:Rd.wf b ⟨k,0⟩:=⟨hk,by simp⟩
 refine aa lT rfl ?_
 simp(disch:=omega) [fy,ah.c,VZ]
 refine aq (aR l) ?_ (ha:=by first|rfl|(simp[ah.c,VY] <;>repeat' constructor))
 simp(disch:=omega) [hok,VZ]
 refine du (wP b l ⟨k,0⟩ (fb hok) hr hb) ?_ (n1:=by simp(disch:=omega) [Proof.o,VZ]) (n3:=by simp(disch:=omega) [Proof.o,VZ])
 generalize h1:dy b l ⟨k,0⟩=s1
 simp(disch:=omega) [bC,Proof.o,VZ]
 by_cases g:s1.2.er=0
 ·simp(disch:=omega) [g,cg,Proof.o,VZ]
 ·simp(disch:=omega) [g,cg,BV,VZ]
abbrev n8:Nat:=41
def mT:AF:=⟨3,5,[.cell 6 6 true, .tmp 7, .tmp 8],(.seq (.ops [.i (.lbox 3 (.s 0)), .i (.lal 6 [.nils, .int .i64 0, .int .i64 0, .nils, .nils, .nils]), .i (.mov 7 (qi 0)), .i (.mov 8 (qi 0))]) (.seq (.ops [ql 9 3 3 5 true,qm 10 1,qm 11 2, .i (.call 13 122 false [(.s 9),(.s 10),(.s 11),(.c (.val false [.fn 123]))]), .i (.ext 13 (.s 12) 0), .i (.ext 14 (.s 12) 1), .i (.ext 15 (.s 12) 2),qs 6 6 13 6,qm 7 14,qm 8 15]) .ret))⟩
theorem zV:cd n8=some mT:=by kernel_rfl
theorem xZ (b:Bytes) (l:ah) (k:Nat) (hok:l.ok=true) (hk:k≤b.length) (hb:b.length≤1073741824):VC cd n8 (aE [(true,l.c),(false,[.sl (bytes b)]),(false,[.int .i64 (k:Int)])]) (fun rs _=>rs=cg (dy b l ⟨k,0⟩).1.o BV (dy b l ⟨k,0⟩).2):=by
 refine aa zV rfl ?_
 simp(disch:=omega) [mT,ah.c,VZ]
 have h0:=l7 b l k hok hk hb
 generalize h1:dy b l ⟨k,0⟩=s1 at h0⊢
 by_cases g:s1.2.er=0
 ·simp only[cg,if_pos g,Proof.o]at h0⊢
  refine aq (h0) ?_ (ha:=by first|rfl|(simp[ah.c,VY] <;>repeat' constructor))
  simp(disch:=omega) [VZ]
 ·simp only[cg,if_neg g,BV]at h0⊢
  refine aq (h0) ?_ (ha:=by first|rfl|(simp[ah.c,VY] <;>repeat' constructor))
  simp(disch:=omega) [VZ]
abbrev fZ:Nat:=126
def f8:AF:=⟨4,6,[.cell 8 5 true, .tmp 9, .tmp 10],(.seq (.ops [.i (.lbox 4 (.s 0)), .i (.lal 8 [.int .i64 0, .int .i64 0, .int .i64 0, .nils, .nils]), .i (.mov 9 (qi 0)), .i (.mov 10 (qi 0))]) (.seq (.ops [.i (.lal 11 [.int .i64 0, .int .i64 0, .int .i64 0, .nils, .nils])]) (.seq (.seq (.ops [ql 14 4 4 5 true,qk 16 95 14, .i (.not 16 (.s 15))]) (.cond (.s 16) (.seq (.ops [ql 17 11 11 5 true,qs 8 8 17 5, .i (.mov 9 (qi 0)), .i (.mov 10 (qi 5))]) .ret) .skip)) (.seq (.ops [qm 18 1,qm 19 2, .i (.bld 20 [.nils, .int .i64 0, .int .i64 0] [(0,1,(.s 18)),(1,1,(.s 19))]), .i (.hbox 21 215 (.s 20)),qm 12 21]) (.seq (.ops [qm 22 3,ql 23 4 4 5 true,qm 24 12, .i (.clv 26 false (.s 22) [(.s 23),(.s 24)]), .i (.lal 13 [.int .i64 0, .int .i64 0, .int .i64 0, .nils, .nils]),qs 13 13 25 5]) (.seq (.seq (.ops [qm 26 12, .i (.nch 27 (.s 26)),qf 28 27 2, .i (.ldh 29 (.s 28) 1 false), .i (.bin 30 .neq (.s 29) (qi 0))]) (.cond (.s 30) (.seq (.ops [ql 31 11 11 5 true,qm 32 12, .i (.nch 33 (.s 32)),qf 34 33 2, .i (.ldh 35 (.s 34) 1 false),qs 8 8 31 5, .i (.mov 9 (qi 0)),qm 10 35]) .ret) .skip)) (.seq (.ops [ql 36 13 13 5 true,qm 37 12, .i (.nch 38 (.s 37)),qf 39 38 1, .i (.ldh 40 (.s 39) 1 false),qs 8 8 36 5,qm 9 40, .i (.mov 10 (qi 0))]) .ret)))))))⟩
theorem ou:cd fZ=some f8:=by kernel_rfl
theorem oh (b:Bytes) (l:ah) (k:Nat) (hok:l.ok=true) (hk:k≤b.length) (hb:b.length≤1073741824):VC cd fZ (aE [(true,l.c),(false,[.sl (bytes b)]),(false,[.int .i64 (k:Int)]),(false,[.fn gL])]) (fun rs _=>rs=cg (fO b l ⟨k,0⟩).1.o H3 (fO b l ⟨k,0⟩).2):=by
 have hr:Rd.wf b ⟨k,0⟩:=⟨hk,by simp⟩
 refine aa ou rfl ?_
 simp(disch:=omega) [f8,ah.c,VZ]
 refine aq (aR l) ?_ (ha:=by first|rfl|(simp[ah.c,VY] <;>repeat' constructor))
 simp(disch:=omega) [hok,VZ]
 refine du (xD b l ⟨k,0⟩ (fb hok) hr hb) ?_ (n1:=by simp(disch:=omega) [aW.o,VZ]) (n3:=by simp(disch:=omega) [aW.o,VZ])
 generalize h1:fO b l ⟨k,0⟩=s1
 simp(disch:=omega) [bC,aW.o,VZ]
 by_cases g:s1.2.er=0
 ·simp(disch:=omega) [g,cg,aW.o,VZ]
 ·simp(disch:=omega) [g,cg,H3,VZ]
abbrev oX:Nat:=44
def p0:AF:=⟨3,5,[.cell 6 5 true, .tmp 7, .tmp 8],(.seq (.ops [.i (.lbox 3 (.s 0)), .i (.lal 6 [.int .i64 0, .int .i64 0, .int .i64 0, .nils, .nils]), .i (.mov 7 (qi 0)), .i (.mov 8 (qi 0))]) (.seq (.ops [ql 9 3 3 5 true,qm 10 1,qm 11 2, .i (.call 13 126 false [(.s 9),(.s 10),(.s 11),(.c (.val false [.fn 127]))]), .i (.ext 13 (.s 12) 0), .i (.ext 14 (.s 12) 1), .i (.ext 15 (.s 12) 2),qs 6 6 13 5,qm 7 14,qm 8 15]) .ret))⟩
theorem Bw:cd oX=some p0:=by kernel_rfl
theorem z6 (b:Bytes) (l:ah) (k:Nat) (hok:l.ok=true) (hk:k≤b.length) (hb:b.length≤1073741824):VC cd oX (aE [(true,l.c),(false,[.sl (bytes b)]),(false,[.int .i64 (k:Int)])]) (fun rs _=>rs=cg (fO b l ⟨k,0⟩).1.o H3 (fO b l ⟨k,0⟩).2):=by
 refine aa Bw rfl ?_
 simp(disch:=omega) [p0,ah.c,VZ]
 have h0:=oh b l k hok hk hb
 generalize h1:fO b l ⟨k,0⟩=s1 at h0⊢
 by_cases g:s1.2.er=0
 ·simp only[cg,if_pos g,aW.o]at h0⊢
  refine aq (h0) ?_ (ha:=by first|rfl|(simp[ah.c,VY] <;>repeat' constructor))
  simp(disch:=omega) [VZ]
 ·simp only[cg,if_neg g,H3]at h0⊢
  refine aq (h0) ?_ (ha:=by first|rfl|(simp[ah.c,VY] <;>repeat' constructor))
  simp(disch:=omega) [VZ]
end Go.Eng.F
namespace Go.Eng.F
def strs (l:List ByteArray):List (List D):=l.map fun s=> [.str s]
theorem Lz (l:List ByteArray):(strs l).length=l.length:=by simp[strs]
theorem LY {l:List ByteArray} {i:Nat} (h:i < l.length):(strs l)[i]? =some [.str l[i]]:=by simp[strs,h]
abbrev tH:Nat:=132
def uP:AF:=⟨2,4,[.tmp 4],(.seq (.ops [.i (.mov 4 (.c (.val false [.str ByteArray.empty])))]) (.seq (.seq (.ops [qm 5 0,qm 6 1,qn 7 6, .i (.bin 8 .sub (.s 7) (qi 1)), .i (.call 10 158 false [(.s 5),(qi 0),(.s 8)]), .i (.not 10 (.s 9))]) (.cond (.s 10) (.seq (.ops [.i (.mov 4 (.c (.val false [.str ByteArray.empty])))]) .ret) .skip)) (.seq (.ops [qm 11 1,qm 12 0, .i (.iad 13 (.s 11) (.s 12) 1), .i (.ldh 14 (.s 13) 1 false),qm 4 14]) .ret)))⟩
theorem DM:cd tH=some uP:=by kernel_rfl
theorem KK (l:List ByteArray) (k:Nat) (hl:l.length≤1000):VC cd tH (aE [(false,[.int .i64 (k:Int)]),(false,[.sl (strs l)])]) (fun rs _=>rs= [(false,[.p (.str ((l[k]?).getD ByteArray.empty))])]):=by
 refine aa DM rfl ?_
 simp(disch:=omega) [uP,Lz,VY]
 refine aq (aH (k:Int) 0 ((l.length:Int) - 1)) ?_
 simp(disch:=omega) [dK,VY]
 by_cases h:k < l.length
 ·have h1:(k:Int)≤(l.length:Int) - 1:=by omega
  simp(disch:=omega) [h1,LY h,h,VY]
 ·have h1:¬(k:Int)≤(l.length:Int) - 1:=by omega
  simp(disch:=omega) [h1,h,VY]
def kinds:List ByteArray:= [ByteArray.empty,⟨#[118,111,116,101]⟩,⟨#[113,99]⟩,⟨#[104,101,97,100]⟩,⟨#[98,108,111,99,107]⟩,⟨#[116,99]⟩,⟨#[112,114,111,111,102]⟩,⟨#[105,110,99,108]⟩]
def kindName (k:Nat):ByteArray:=(kinds[k]?).getD ByteArray.empty
abbrev nQ:Nat:=55
def mw:AF:=⟨1,3,[.tmp 2],(.seq (.ops [.i (.mov 2 (.c (.val false [.str ByteArray.empty])))]) (.seq (.ops [qm 3 0, .i (.bsl 4 9 1 8 [.str ByteArray.empty] [(0,1,(.c (.val false [.str ByteArray.empty]))),(1,1,(.c (.val false [.str ⟨#[118,111,116,101]⟩]))),(2,1,(.c (.val false [.str ⟨#[113,99]⟩]))),(3,1,(.c (.val false [.str ⟨#[104,101,97,100]⟩]))),(4,1,(.c (.val false [.str ⟨#[98,108,111,99,107]⟩]))),(5,1,(.c (.val false [.str ⟨#[116,99]⟩]))),(6,1,(.c (.val false [.str ⟨#[112,114,111,111,102]⟩]))),(7,1,(.c (.val false [.str ⟨#[105,110,99,108]⟩])))]), .i (.call 6 132 false [(.s 3),(.s 4)]),qm 2 5]) .ret))⟩
theorem Ad:cd nQ=some mw:=by kernel_rfl
theorem yJ (k:Nat):VC cd nQ (aE [(false,[.int .i64 (k:Int)])]) (fun rs _=>rs= [(false,[.p (.str (kindName k))])]):=by
 refine aa Ad rfl ?_
 simp(disch:=omega) [mw,VY]
 refine aq (KK kinds k (by simp[kinds])) ?_
 simp(disch:=omega) [kindName,VY]
theorem iq (k:Nat):kindName k=ByteArray.empty↔k=0∨8≤k:=by
 by_cases h:8≤k
 ·have:kindName k=ByteArray.empty:=by
   unfold kindName
   rw[List.getElem?_eq_none (by simp[kinds];omega)]
   rfl
  exact⟨fun _=> .inr h,fun _=>this⟩
 ·have ne:∀s:ByteArray,s.size≠0→s≠ByteArray.empty:=fun s h1 h2=>h1 (by rw[h2];rfl)
  have hk:k=0∨k=1∨k=2∨k=3∨k=4∨k=5∨k=6∨k=7:=by omega
  rcases hk with rfl|rfl|rfl|rfl|rfl|rfl|rfl|rfl
  ·exact⟨fun _=> .inl rfl,fun _=>rfl⟩
  all_goals exact⟨fun e=>absurd e (ne _ (by decide)),fun e=>by omega⟩
end Go.Eng.F
namespace Go.Eng.F
def aG.o (m:aG):List E:= [.p (.int .i64 m.kind), .p (.int .i64 m.vote.view), .p (.int .i64 m.vote.height), .o true (some (5,1)) (bytes m.vote.block), .p (.int .i64 m.vote.who), .o true (some (5,1)) (bytes m.vote.tag), .p (.int .i64 m.qc.view), .p (.int .i64 m.qc.height), .o true (some (5,1)) (bytes m.qc.block), .o true (some (5,1)) (bytes m.qc.bits), .o true (some (22,1)) (bE m.qc.tags), .p (.int .i64 m.head.view), .p (.int .i64 m.head.height), .p (.int .i64 m.head.proposer), .o true (some (5,1)) (bytes m.head.parent), .o true (some (5,1)) (bytes m.head.root), .p (.int .i64 m.head.qc.view), .p (.int .i64 m.head.qc.height), .o true (some (5,1)) (bytes m.head.qc.block), .o true (some (5,1)) (bytes m.head.qc.bits), .o true (some (22,1)) (bE m.head.qc.tags), .p (.int .i64 m.block.head.view), .p (.int .i64 m.block.head.height), .p (.int .i64 m.block.head.proposer), .o true (some (5,1)) (bytes m.block.head.parent), .o true (some (5,1)) (bytes m.block.head.root), .p (.int .i64 m.block.head.qc.view), .p (.int .i64 m.block.head.qc.height), .o true (some (5,1)) (bytes m.block.head.qc.block), .o true (some (5,1)) (bytes m.block.head.qc.bits), .o true (some (22,1)) (bE m.block.head.qc.tags), .o true (some (22,1)) (bE m.block.txs), .p (.int .i64 m.tc.view), .o true (some (165,3)) (il m.tc.entries), .o true (some (45,10)) (eF m.proof.heads), .p (.int .i64 m.proof.qc.view), .p (.int .i64 m.proof.qc.height), .o true (some (5,1)) (bytes m.proof.qc.block), .o true (some (5,1)) (bytes m.proof.qc.bits), .o true (some (22,1)) (bE m.proof.qc.tags), .p (.int .i64 m.incl.height), .p (.int .i64 m.incl.n), .p (.int .i64 m.incl.idx), .o true (some (5,1)) (bytes m.incl.tx), .o true (some (22,1)) (bE m.incl.path)]
def eb (b:Bytes) (m:aG) (r:Rd):aG×Nat:=if r.er≠0 then(aA,r.er)else if r.at_≠b.length then(aA,9)else(m,0)
def oj (l:ah) (b:Bytes):Nat→aG×Nat
 |1=>eb b {aA with kind:=1,vote:=(fo b l ⟨1,0⟩).1} (fo b l ⟨1,0⟩).2
 |2=>eb b {aA with kind:=2,qc:=(sv b l ⟨1,0⟩).1} (sv b l ⟨1,0⟩).2
 |3=>eb b {aA with kind:=3,head:=(cH b l ⟨1,0⟩).1} (cH b l ⟨1,0⟩).2
 |4=>eb b {aA with kind:=4,block:=(dJ b l ⟨1,0⟩).1} (dJ b l ⟨1,0⟩).2
 |5=>eb b {aA with kind:=5,tc:=(D4 b l ⟨1,0⟩).1} (D4 b l ⟨1,0⟩).2
 |6=>eb b {aA with kind:=6,proof:=(dy b l ⟨1,0⟩).1} (dy b l ⟨1,0⟩).2
 |7=>eb b {aA with kind:=7,incl:=(fO b l ⟨1,0⟩).1} (fO b l ⟨1,0⟩).2
 |_=>(aA,8)
def dec (l:ah) (b:Bytes):aG×Nat:=if l.ok=true then(match b[0]? with|none=>(aA,1)|some c=>oj l b c.toNat)else(aA,5)
theorem M6 {l:ah} {b:Bytes} {k:Nat} (h:k=0∨8≤k):oj l b k=(aA,8):=by
 unfold oj
 split <;>first|omega|rfl
theorem NY {l:ah} {b:Bytes} (h:¬l.ok=true):dec l b=(aA,5):=by simp[dec,h]
theorem EB {l:ah} {b:Bytes} (h:l.ok=true) (hc:¬0 < b.length):dec l b=(aA,1):=by
 have:b[0]? =none:=List.getElem?_eq_none (by omega)
 simp[dec,h,this]
theorem LJ {l:ah} {b:Bytes} (h:l.ok=true) (hc:0 < b.length):dec l b=oj l b b[0].toNat:=by
 have:b[0]? =some b[0]:=List.getElem?_eq_getElem hc
 simp[dec,h,this]
def gz (x:aG×Nat):List (Bool×List E):= [(true,x.1.o),(false,[.p (.int .i64 (x.2:Int))])]
theorem bg:bE []= []:=rfl
theorem bd:il []= []:=rfl
theorem bj:eF []= []:=rfl
abbrev uE:Nat:=53
def tt:AF:=⟨2,7,[.cell 4 45 true, .tmp 5],(.seq (.ops [.i (.lbox 2 (.s 0)), .i (.lal 4 [.int .i64 0, .int .i64 0, .int .i64 0, .nils, .int .i64 0, .nils, .int .i64 0, .int .i64 0, .nils, .nils, .nils, .int .i64 0, .int .i64 0, .int .i64 0, .nils, .nils, .int .i64 0, .int .i64 0, .nils, .nils, .nils, .int .i64 0, .int .i64 0, .int .i64 0, .nils, .nils, .int .i64 0, .int .i64 0, .nils, .nils, .nils, .nils, .int .i64 0, .nils, .nils, .int .i64 0, .int .i64 0, .nils, .nils, .nils, .int .i64 0, .int .i64 0, .int .i64 0, .nils, .nils]), .i (.mov 5 (qi 0))]) (.seq (.block 0 (.seq (.ops [ql 10 2 2 5 true,qk 12 95 10, .i (.not 12 (.s 11)),qm 9 12]) (.cond (.s 9) (.seq (.ops [.i (.bld 13 [.int .i64 0, .int .i64 0, .int .i64 0, .nils, .int .i64 0, .nils, .int .i64 0, .int .i64 0, .nils, .nils, .nils, .int .i64 0, .int .i64 0, .int .i64 0, .nils, .nils, .int .i64 0, .int .i64 0, .nils, .nils, .nils, .int .i64 0, .int .i64 0, .int .i64 0, .nils, .nils, .int .i64 0, .int .i64 0, .nils, .nils, .nils, .nils, .int .i64 0, .nils, .nils, .int .i64 0, .int .i64 0, .nils, .nils, .nils, .int .i64 0, .int .i64 0, .int .i64 0, .nils, .nils] []),qs 4 4 13 45, .i (.mov 5 (qi 5))]) .ret) (.seq (.ops [qm 15 1,qn 16 15, .i (.bin 17 .eql (.s 16) (qi 0)),qm 14 17]) (.cond (.s 14) (.seq (.ops [.i (.bld 18 [.int .i64 0, .int .i64 0, .int .i64 0, .nils, .int .i64 0, .nils, .int .i64 0, .int .i64 0, .nils, .nils, .nils, .int .i64 0, .int .i64 0, .int .i64 0, .nils, .nils, .int .i64 0, .int .i64 0, .nils, .nils, .nils, .int .i64 0, .int .i64 0, .int .i64 0, .nils, .nils, .int .i64 0, .int .i64 0, .nils, .nils, .nils, .nils, .int .i64 0, .nils, .nils, .int .i64 0, .int .i64 0, .nils, .nils, .nils, .int .i64 0, .int .i64 0, .int .i64 0, .nils, .nils] []),qs 4 4 18 45, .i (.mov 5 (qi 1))]) .ret) (.seq (.ops [qm 20 1, .i (.iad 21 (.s 20) (qi 0) 1), .i (.ldh 22 (.s 21) 1 false), .i (.cvi 23 .i64 (.s 22)),qk 25 55 23, .i (.bin 25 .eql (.s 24) (.c (.val false [.str ByteArray.empty]))),qm 19 25]) (.cond (.s 19) (.seq (.ops [.i (.bld 26 [.int .i64 0, .int .i64 0, .int .i64 0, .nils, .int .i64 0, .nils, .int .i64 0, .int .i64 0, .nils, .nils, .nils, .int .i64 0, .int .i64 0, .int .i64 0, .nils, .nils, .int .i64 0, .int .i64 0, .nils, .nils, .nils, .int .i64 0, .int .i64 0, .int .i64 0, .nils, .nils, .int .i64 0, .int .i64 0, .nils, .nils, .nils, .nils, .int .i64 0, .nils, .nils, .int .i64 0, .int .i64 0, .nils, .nils, .nils, .int .i64 0, .int .i64 0, .int .i64 0, .nils, .nils] []),qs 4 4 26 45, .i (.mov 5 (qi 8))]) .ret) .skip))))))) (.seq (.ops [qm 27 1, .i (.iad 28 (.s 27) (qi 0) 1), .i (.ldh 29 (.s 28) 1 false), .i (.cvi 30 .i64 (.s 29)), .i (.bld 31 [.int .i64 0, .int .i64 0, .int .i64 0, .nils, .int .i64 0, .nils, .int .i64 0, .int .i64 0, .nils, .nils, .nils, .int .i64 0, .int .i64 0, .int .i64 0, .nils, .nils, .int .i64 0, .int .i64 0, .nils, .nils, .nils, .int .i64 0, .int .i64 0, .int .i64 0, .nils, .nils, .int .i64 0, .int .i64 0, .nils, .nils, .nils, .nils, .int .i64 0, .nils, .nils, .int .i64 0, .int .i64 0, .nils, .nils, .nils, .int .i64 0, .int .i64 0, .int .i64 0, .nils, .nils] [(0,1,(.s 30))]), .i (.lal 6 [.int .i64 0, .int .i64 0, .int .i64 0, .nils, .int .i64 0, .nils, .int .i64 0, .int .i64 0, .nils, .nils, .nils, .int .i64 0, .int .i64 0, .int .i64 0, .nils, .nils, .int .i64 0, .int .i64 0, .nils, .nils, .nils, .int .i64 0, .int .i64 0, .int .i64 0, .nils, .nils, .int .i64 0, .int .i64 0, .nils, .nils, .nils, .nils, .int .i64 0, .nils, .nils, .int .i64 0, .int .i64 0, .nils, .nils, .nils, .int .i64 0, .int .i64 0, .int .i64 0, .nils, .nils]),qs 6 6 31 45, .i (.mov 7 (qi 0)), .i (.mov 8 (qi 0))]) (.seq (.seq (.ops [qf 32 6 0,ql 33 6 32 1 false]) (.block 1 (.seq (.ops [.i (.bin 43 .eql (.s 33) (qi 1)),qm 42 43]) (.cond (.s 42) (.ops [ql 45 2 2 5 true,qm 46 1, .i (.call 48 25 false [(.s 45),(.s 46),(qi 1)]),qm 44 47, .i (.ext 48 (.s 44) 0), .i (.ext 49 (.s 44) 1), .i (.ext 50 (.s 44) 2),qf 51 6 1,qs 6 51 48 5,qm 7 49,qm 8 50]) (.seq (.ops [.i (.bin 53 .eql (.s 33) (qi 2)),qm 52 53]) (.cond (.s 52) (.ops [ql 55 2 2 5 true,qm 56 1, .i (.call 58 28 false [(.s 55),(.s 56),(qi 1)]),qm 54 57, .i (.ext 58 (.s 54) 0), .i (.ext 59 (.s 54) 1), .i (.ext 60 (.s 54) 2),qf 61 6 6,qs 6 61 58 5,qm 7 59,qm 8 60]) (.seq (.ops [.i (.bin 63 .eql (.s 33) (qi 3)),qm 62 63]) (.cond (.s 62) (.ops [ql 65 2 2 5 true,qm 66 1, .i (.call 68 31 false [(.s 65),(.s 66),(qi 1)]),qm 64 67, .i (.ext 68 (.s 64) 0), .i (.ext 69 (.s 64) 1), .i (.ext 70 (.s 64) 2),qf 71 6 11,qs 6 71 68 10,qm 7 69,qm 8 70]) (.seq (.ops [.i (.bin 73 .eql (.s 33) (qi 4)),qm 72 73]) (.cond (.s 72) (.ops [ql 75 2 2 5 true,qm 76 1, .i (.call 78 35 false [(.s 75),(.s 76),(qi 1)]),qm 74 77, .i (.ext 78 (.s 74) 0), .i (.ext 79 (.s 74) 1), .i (.ext 80 (.s 74) 2),qf 81 6 21,qs 6 81 78 11,qm 7 79,qm 8 80]) (.seq (.ops [.i (.bin 83 .eql (.s 33) (qi 5)),qm 82 83]) (.cond (.s 82) (.ops [ql 85 2 2 5 true,qm 86 1, .i (.call 88 38 false [(.s 85),(.s 86),(qi 1)]),qm 84 87, .i (.ext 88 (.s 84) 0), .i (.ext 89 (.s 84) 1), .i (.ext 90 (.s 84) 2),qf 91 6 32,qs 6 91 88 2,qm 7 89,qm 8 90]) (.seq (.ops [.i (.bin 93 .eql (.s 33) (qi 6)),qm 92 93]) (.cond (.s 92) (.ops [ql 95 2 2 5 true,qm 96 1, .i (.call 98 41 false [(.s 95),(.s 96),(qi 1)]),qm 94 97, .i (.ext 98 (.s 94) 0), .i (.ext 99 (.s 94) 1), .i (.ext 100 (.s 94) 2),qf 101 6 34,qs 6 101 98 6,qm 7 99,qm 8 100]) (.ops [ql 35 2 2 5 true,qm 36 1, .i (.call 38 44 false [(.s 35),(.s 36),(qi 1)]),qm 34 37, .i (.ext 38 (.s 34) 0), .i (.ext 39 (.s 34) 1), .i (.ext 40 (.s 34) 2),qf 41 6 40,qs 6 41 38 5,qm 7 39,qm 8 40]))))))))))))))) (.seq (.seq (.ops [qm 102 8, .i (.bin 103 .eql (.s 102) (qi 0)),qm 104 103, .g 104 true 106 (.mov 105 (.s 7)), .g 104 true 107 (.mov 106 (.s 1)), .g 104 true 108 (.len 107 false (.s 106)), .g 104 true 109 (.bin 108 .neq (.s 105) (.s 107)), .i (.pick 109 (.s 104) (.s 108) (qb false))]) (.cond (.s 109) (.ops [.i (.mov 8 (qi 9))]) .skip)) (.seq (.seq (.ops [qm 110 8, .i (.bin 111 .neq (.s 110) (qi 0))]) (.cond (.s 111) (.seq (.ops [.i (.bld 112 [.int .i64 0, .int .i64 0, .int .i64 0, .nils, .int .i64 0, .nils, .int .i64 0, .int .i64 0, .nils, .nils, .nils, .int .i64 0, .int .i64 0, .int .i64 0, .nils, .nils, .int .i64 0, .int .i64 0, .nils, .nils, .nils, .int .i64 0, .int .i64 0, .int .i64 0, .nils, .nils, .int .i64 0, .int .i64 0, .nils, .nils, .nils, .nils, .int .i64 0, .nils, .nils, .int .i64 0, .int .i64 0, .nils, .nils, .nils, .int .i64 0, .int .i64 0, .int .i64 0, .nils, .nils] []),qm 113 8,qs 4 4 112 45,qm 5 113]) .ret) .skip)) (.seq (.ops [ql 114 6 6 45 true,qs 4 4 114 45, .i (.mov 5 (qi 0))]) .ret)))))))⟩
theorem DL:cd uE=some tt:=by kernel_rfl
theorem iD (b:Bytes) (l:ah) (hb:b.length≤1073741824):VC cd uE (aE [(true,l.c),(false,[.sl (bytes b)])]) (fun rs _=>rs=gz (dec l b)):=by
 refine VC.xh ?_
 refine aa DL rfl ?_
 simp(disch:=omega) [tt,ah.c,VZ]
 refine aq (aR l) ?_ (ha:=by first|rfl|(simp[ah.c,VY] <;>repeat' constructor))
 simp(disch:=omega) [VZ]
 by_cases hok:l.ok=true
 case neg=>rw[NY hok];simp(disch:=omega) [hok,gz,aG.o,aA,bA,fq,ba,aF,gP,aK,bq,aY,bh,bk,ag,bg,bd,bj,VZ]
 by_cases he:b= []
 case pos=>rw[EB hok (by simp[he])];simp(disch:=omega) [hok,he,gz,aG.o,aA,bA,fq,ba,aF,gP,aK,bq,aY,bh,bk,ag,bg,bd,bj,VZ]
 have hc:0 < b.length:=List.length_pos_iff.2 he
 have h256:b[0].toNat < 256:=UInt8.toNat_lt _
 rw[LJ hok hc]
 simp(disch:=omega) [hok,he,hc,di hc,VZ]
 refine aq (yJ b[0].toNat) ?_
 by_cases hz:b[0].toNat=0∨8≤b[0].toNat
 case pos=>
  have hz2:=(iq _).2 hz
  rw[M6 hz]
  simp(disch:=omega) [hz2,gz,aG.o,aA,bA,fq,ba,aF,gP,aK,bq,aY,bh,bk,ag,bg,bd,bj,VZ]
 have hz2:¬kindName b[0].toNat=ByteArray.empty:=fun e=>hz ((iq _).1 e)
 have hk:b[0].toNat=1∨b[0].toNat=2∨b[0].toNat=3∨b[0].toNat=4∨b[0].toNat=5∨b[0].toNat=6∨b[0].toNat=7:=by omega
 simp(disch:=omega) [hz2,hc,di hc,VZ]
 generalize b[0].toNat=k at hk⊢
 clear hz hz2
 rcases hk with rfl|rfl|rfl|rfl|rfl|rfl|rfl
 ·simp only[oj]
  have h0:=z2 b l 1 hok (by omega) hb
  generalize h1:fo b l ⟨1,0⟩=s1 at h0⊢
  by_cases g:s1.2.er=0
  ·simp only[cg,if_pos g,bb.o]at h0
   simp(disch:=omega) [VZ]
   refine aq (h0) ?_ (ha:=by first|rfl|(simp[ah.c,VY] <;>repeat' constructor))
   simp(disch:=omega) [VZ]
   by_cases g2:s1.2.at_=b.length
   ·simp(disch:=omega) [g2,eb,g,gz,aG.o,aA,bA,fq,ba,aF,gP,aK,bq,aY,bh,bk,ag,bg,bd,bj,VZ]
   ·have g3:¬(s1.2.at_:Int)=(b.length:Int):=by omega
    simp(disch:=omega) [g2,g3,eb,g,gz,aG.o,aA,bA,fq,ba,aF,gP,aK,bq,aY,bh,bk,ag,bg,bd,bj,VZ]
  ·simp only[cg,if_neg g,HU]at h0
   simp(disch:=omega) [VZ]
   refine aq (h0) ?_ (ha:=by first|rfl|(simp[ah.c,VY] <;>repeat' constructor))
   simp(disch:=omega) [g,eb,gz,aG.o,aA,bA,fq,ba,aF,gP,aK,bq,aY,bh,bk,ag,bg,bd,bj,VZ]
 ·simp only[oj]
  have h0:=Dp b l 1 hok (by omega) hb
  generalize h1:sv b l ⟨1,0⟩=s1 at h0⊢
  by_cases g:s1.2.er=0
  ·simp only[cg,if_pos g,Qc.o]at h0
   simp(disch:=omega) [VZ]
   refine aq (h0) ?_ (ha:=by first|rfl|(simp[ah.c,VY] <;>repeat' constructor))
   simp(disch:=omega) [VZ]
   by_cases g2:s1.2.at_=b.length
   ·simp(disch:=omega) [g2,eb,g,gz,aG.o,aA,bA,fq,ba,aF,gP,aK,bq,aY,bh,bk,ag,bg,bd,bj,VZ]
   ·have g3:¬(s1.2.at_:Int)=(b.length:Int):=by omega
    simp(disch:=omega) [g2,g3,eb,g,gz,aG.o,aA,bA,fq,ba,aF,gP,aK,bq,aY,bh,bk,ag,bg,bd,bj,VZ]
  ·simp only[cg,if_neg g,Qb]at h0
   simp(disch:=omega) [VZ]
   refine aq (h0) ?_ (ha:=by first|rfl|(simp[ah.c,VY] <;>repeat' constructor))
   simp(disch:=omega) [g,eb,gz,aG.o,aA,bA,fq,ba,aF,gP,aK,bq,aY,bh,bk,ag,bg,bd,bj,VZ]
 ·simp only[oj]
  have h0:=zt b l 1 hok (by omega) hb
  generalize h1:cH b l ⟨1,0⟩=s1 at h0⊢
  by_cases g:s1.2.er=0
  ·simp only[cg,if_pos g,Head.o]at h0
   simp(disch:=omega) [VZ]
   refine aq (h0) ?_ (ha:=by first|rfl|(simp[ah.c,VY] <;>repeat' constructor))
   simp(disch:=omega) [VZ]
   by_cases g2:s1.2.at_=b.length
   ·simp(disch:=omega) [g2,eb,g,gz,aG.o,aA,bA,fq,ba,aF,gP,aK,bq,aY,bh,bk,ag,bg,bd,bj,VZ]
   ·have g3:¬(s1.2.at_:Int)=(b.length:Int):=by omega
    simp(disch:=omega) [g2,g3,eb,g,gz,aG.o,aA,bA,fq,ba,aF,gP,aK,bq,aY,bh,bk,ag,bg,bd,bj,VZ]
  ·simp only[cg,if_neg g,HH]at h0
   simp(disch:=omega) [VZ]
   refine aq (h0) ?_ (ha:=by first|rfl|(simp[ah.c,VY] <;>repeat' constructor))
   simp(disch:=omega) [g,eb,gz,aG.o,aA,bA,fq,ba,aF,gP,aK,bq,aY,bh,bk,ag,bg,bd,bj,VZ]
 ·simp only[oj]
  have h0:=yi b l 1 hok (by omega) hb
  generalize h1:dJ b l ⟨1,0⟩=s1 at h0⊢
  by_cases g:s1.2.er=0
  ·simp only[cg,if_pos g,Block.o]at h0
   simp(disch:=omega) [VZ]
   refine aq (h0) ?_ (ha:=by first|rfl|(simp[ah.c,VY] <;>repeat' constructor))
   simp(disch:=omega) [VZ]
   by_cases g2:s1.2.at_=b.length
   ·simp(disch:=omega) [g2,eb,g,gz,aG.o,aA,bA,fq,ba,aF,gP,aK,bq,aY,bh,bk,ag,bg,bd,bj,VZ]
   ·have g3:¬(s1.2.at_:Int)=(b.length:Int):=by omega
    simp(disch:=omega) [g2,g3,eb,g,gz,aG.o,aA,bA,fq,ba,aF,gP,aK,bq,aY,bh,bk,ag,bg,bd,bj,VZ]
  ·simp only[cg,if_neg g,Cg]at h0
   simp(disch:=omega) [VZ]
   refine aq (h0) ?_ (ha:=by first|rfl|(simp[ah.c,VY] <;>repeat' constructor))
   simp(disch:=omega) [g,eb,gz,aG.o,aA,bA,fq,ba,aF,gP,aK,bq,aY,bh,bk,ag,bg,bd,bj,VZ]
 ·simp only[oj]
  have h0:=Dy b l 1 hok (by omega) hb
  generalize h1:D4 b l ⟨1,0⟩=s1 at h0⊢
  by_cases g:s1.2.er=0
  ·simp only[cg,if_pos g,Tc.o]at h0
   simp(disch:=omega) [VZ]
   refine aq (h0) ?_ (ha:=by first|rfl|(simp[ah.c,VY] <;>repeat' constructor))
   simp(disch:=omega) [VZ]
   by_cases g2:s1.2.at_=b.length
   ·simp(disch:=omega) [g2,eb,g,gz,aG.o,aA,bA,fq,ba,aF,gP,aK,bq,aY,bh,bk,ag,bg,bd,bj,VZ]
   ·have g3:¬(s1.2.at_:Int)=(b.length:Int):=by omega
    simp(disch:=omega) [g2,g3,eb,g,gz,aG.o,aA,bA,fq,ba,aF,gP,aK,bq,aY,bh,bk,ag,bg,bd,bj,VZ]
  ·simp only[cg,if_neg g,P9]at h0
   simp(disch:=omega) [VZ]
   refine aq (h0) ?_ (ha:=by first|rfl|(simp[ah.c,VY] <;>repeat' constructor))
   simp(disch:=omega) [g,eb,gz,aG.o,aA,bA,fq,ba,aF,gP,aK,bq,aY,bh,bk,ag,bg,bd,bj,VZ]
 ·simp only[oj]
  have h0:=xZ b l 1 hok (by omega) hb
  generalize h1:dy b l ⟨1,0⟩=s1 at h0⊢
  by_cases g:s1.2.er=0
  ·simp only[cg,if_pos g,Proof.o]at h0
   simp(disch:=omega) [VZ]
   refine aq (h0) ?_ (ha:=by first|rfl|(simp[ah.c,VY] <;>repeat' constructor))
   simp(disch:=omega) [VZ]
   by_cases g2:s1.2.at_=b.length
   ·simp(disch:=omega) [g2,eb,g,gz,aG.o,aA,bA,fq,ba,aF,gP,aK,bq,aY,bh,bk,ag,bg,bd,bj,VZ]
   ·have g3:¬(s1.2.at_:Int)=(b.length:Int):=by omega
    simp(disch:=omega) [g2,g3,eb,g,gz,aG.o,aA,bA,fq,ba,aF,gP,aK,bq,aY,bh,bk,ag,bg,bd,bj,VZ]
  ·simp only[cg,if_neg g,BV]at h0
   simp(disch:=omega) [VZ]
   refine aq (h0) ?_ (ha:=by first|rfl|(simp[ah.c,VY] <;>repeat' constructor))
   simp(disch:=omega) [g,eb,gz,aG.o,aA,bA,fq,ba,aF,gP,aK,bq,aY,bh,bk,ag,bg,bd,bj,VZ]
 ·simp only[oj]
  have h0:=z6 b l 1 hok (by omega) hb
  generalize h1:fO b l ⟨1,0⟩=s1 at h0⊢
  by_cases g:s1.2.er=0
  ·simp only[cg,if_pos g,aW.o]at h0
   simp(disch:=omega) [VZ]
   refine aq (h0) ?_ (ha:=by first|rfl|(simp[ah.c,VY] <;>repeat' constructor))
   simp(disch:=omega) [VZ]
   by_cases g2:s1.2.at_=b.length
   ·simp(disch:=omega) [g2,eb,g,gz,aG.o,aA,bA,fq,ba,aF,gP,aK,bq,aY,bh,bk,ag,bg,bd,bj,VZ]
   ·have g3:¬(s1.2.at_:Int)=(b.length:Int):=by omega
    simp(disch:=omega) [g2,g3,eb,g,gz,aG.o,aA,bA,fq,ba,aF,gP,aK,bq,aY,bh,bk,ag,bg,bd,bj,VZ]
  ·simp only[cg,if_neg g,H3]at h0
   simp(disch:=omega) [VZ]
   refine aq (h0) ?_ (ha:=by first|rfl|(simp[ah.c,VY] <;>repeat' constructor))
   simp(disch:=omega) [g,eb,gz,aG.o,aA,bA,fq,ba,aF,gP,aK,bq,aY,bh,bk,ag,bg,bd,bj,VZ]
end Go.Eng.F
namespace Go.Eng.F
theorem I4.wc {q:Qc} (h:I4 q):q.wc:=by
 have h1:=c7 h.view
 have h2:=c7 h.height
 have h3:=h.block
 have h4:=h.bits
 have h5:=h.tags
 refine⟨⟨⟨by omega,by omega⟩,⟨by omega,by omega⟩,?_,?_,?_⟩,fun x hx=> ?_⟩ <;>unfold Sz
 ·omega
 ·omega
 ·omega
 ·have:=h.tag x hx;omega
theorem jz (l:ah) (h:Head) (hw:h.wf):VC cd gS (aE [(true,l.c),(true,h.c)]) (fun rs _=>rs= [(false,[.o true (some (5,1)) (bytes (nT l h))])]):=
 (yx l h hw).own fun rs ps q=>by
   rw[q,Ft,nT]
   by_cases h0:bx l h=true
   ·rw[if_pos h0,if_pos h0]
    exact⟨_,by simp[aY,bh,bk],rfl⟩
   ·rw[if_neg h0,if_neg h0]
    exact⟨_,by simp[aY,bh,bk,ag],rfl⟩
theorem EG (l:ah) (h:Head):(nT l h).length≤32:=by
 unfold nT
 split
 ·rw[Ak];omega
 ·simp
abbrev qq:Nat:=187
def oC:AF:=⟨2,6,[.cell 4 10 true],(.seq (.ops [.i (.lbox 3 (.s 1)), .i (.lal 4 qz)]) (.seq (.ops [qm 6 0, .i (.call 8 97 false [(.s 6),(qi 200)]), .i (.bin 8 .add (qi 2) (.s 7)),qm 9 0, .i (.call 11 97 false [(.s 9),(qi 200)]), .i (.bin 11 .add (qi 1) (.s 10)),qm 12 0,qf 13 3 0,ql 14 3 13 1 false, .i (.call 16 97 false [(.s 12),(.s 14)]),qm 16 0,qk 18 242 16,qm 18 0,qk 20 242 18,qm 20 0,ql 21 3 3 5 true, .i (.call 23 185 false [(.s 20),(.s 21)]), .i (.bld 23 qz [(0,1,(.s 8)),(1,1,(.s 11)),(2,1,(.s 15)),(3,1,(.s 17)),(4,1,(.s 19)),(5,5,(.s 22))]), .i (.lal 5 qz),qs 5 5 23 10]) (.seq (.ops [qm 24 0,qf 25 5 0,ql 26 5 25 1 false, .i (.call 28 97 false [(.s 24),(.s 26)]),qf 28 5 5,qf 29 28 0,qs 5 29 27 1]) (.seq (.ops [qf 30 5 1,ql 31 5 30 1 false, .i (.bin 32 .sub (.s 31) (qi 1)),qf 33 5 5,qf 34 33 1,qs 5 34 32 1]) (.seq (.ops [qf 35 5 3,ql 36 5 35 1 false,qk 38 143 36,qf 38 5 5,qf 39 38 2,qs 5 39 37 1]) (.seq (.ops [ql 40 5 5 10 true,qs 4 4 40 10]) .ret))))))⟩
theorem CC:cd qq=some oC:=by kernel_rfl
theorem lR (b:Bytes) (i:Nat) (h:Int) (l:ah) (hl:1≤l.n∧l.n≤10) (hi:i≤b.length) (hb:b.length≤1073741824):VC cd qq (ja [] 133 (cur b i h) [(true,l.c)]) (fun r p=>∃x:Head×Nat×Int,(x.1.wc∧x.2.1≤b.length)∧r= [(true,x.1.o)]∧p= [.pt 133 (cur b x.2.1 x.2.2)]):=by
 obtain⟨m,hm⟩:∃m:Nat,l.n=(m:Int):=⟨l.n.toNat,by omega⟩
 refine aw CC rfl ?_
 simp(disch:=omega) [oC,cur,ah.c,VZ]
 refine dN (aD b i h 200 (by omega) hi hb) ?_
 rintro⟨k1,i1,h1⟩ ⟨g1,j1⟩
 simp only at g1 j1
 simp(disch:=omega) [cur,VZ]
 refine dN (aD b i1 h1 200 (by omega) j1 hb) ?_
 rintro⟨k2,i2,h2⟩ ⟨g2,j2⟩
 simp only at g2 j2
 simp(disch:=omega) [cur,hm,VZ]
 refine dN (aD b i2 h2 m (by omega) j2 hb) ?_
 rintro⟨k3,i3,h3⟩ ⟨g3,j3⟩
 simp only at g3 j3
 simp(disch:=omega) [cur,VZ]
 refine dN (c8 b i3 h3 j3 hb) ?_
 rintro⟨x4,i4,h4⟩ ⟨g4,j4⟩
 simp only at g4 j4
 simp(disch:=omega) [cur,VZ]
 refine dN (c8 b i4 h4 j4 hb) ?_
 rintro⟨x5,i5,h5⟩ ⟨g5,j5⟩
 simp only at g5 j5
 simp(disch:=omega) [cur,VZ]
 refine dN (vq b i5 h5 ⟨(m:Int),l.tx,l.txs,l.frame,l.heads⟩ (by simp only;omega) j5 hb) ?_ (n1:=by intro _;simp(disch:=omega) [ah.c,Qc.o,hm,VZ]) (n3:=by intro _;simp(disch:=omega) [ah.c,Qc.o,hm,VZ])
 rintro⟨q6,i6,h6⟩ ⟨g6,j6⟩
 simp only at g6 j6
 obtain⟨⟨_,_,w3,w4,w5⟩,w6⟩:=g6.wc
 simp(disch:=omega) [cur,Qc.o,VZ]
 refine dN (aD b i6 h6 (2+k1) (by omega) j6 hb) ?_
 rintro⟨k7,i7,h7⟩ ⟨g7,j7⟩
 simp only at g7 j7
 simp(disch:=omega) [cur,VZ]
 refine aq (ck x4 (by omega)) ?_
 simp(disch:=omega) [cur,VZ]
 refine⟨⟨2+k1,1+k2,k3,x4,x5,⟨k7,k2,x4,q6.bits,q6.tags⟩⟩,i7,⟨?_,j7⟩,?_,rfl⟩
 ·refine⟨⟨⟨by simp only;omega,by simp only;omega⟩,⟨by simp only;omega,by simp only;omega⟩,⟨by simp only;omega,by simp only;omega⟩,?_,?_,⟨⟨by simp only;omega,by simp only;omega⟩,⟨by simp only;omega,by simp only;omega⟩,?_,w4,w5⟩⟩,w6⟩
  ·unfold Sz;simp only;omega
  ·unfold Sz;simp only;omega
  ·unfold Sz;simp only;omega
 ·have e1:(1+(k2:Int) - 1)=k2:=by omega
  rw[e1]
  rfl
abbrev mL:Nat:=273
def nL:AF:=⟨3,6,[.tmp 6],(.seq (.ops [.i (.lbox 4 (.s 1)), .i (.mov 6 (.c (.val false [.nils])))]) (.seq (.ops [qm 10 0,ql 11 4 4 5 true, .i (.call 13 187 false [(.s 10),(.s 11)]), .i (.bsl 13 45 10 1 qz [(0,10,(.s 12))]),qm 7 13]) (.seq (.block 0 (.loop [59,58,57,56,55,54,53,52,51,50,49,48,47,46,45,44,43,42,41,40,39,38,37,36,35,34,33,32,31,30,29,28,27,26,25,24,23,22,21,20,19,18,17,16,15,14,9,8] (.seq (.seq (.ops [qm 14 7,qn 15 14,qm 16 2,qd 17 .lss 15 16]) (.cond (.s 17) .skip (.exit 0))) (.block 1 (.seq (.ops [qm 18 7,qm 19 7,qn 20 19, .i (.bin 21 .sub (.s 20) (qi 1)), .i (.iad 22 (.s 18) (.s 21) 10), .i (.ldh 23 (.s 22) 10 true), .i (.lal 8 qz),qs 8 8 23 10]) (.seq (.ops [qm 24 0,ql 25 4 4 5 true, .i (.call 27 187 false [(.s 24),(.s 25)]), .i (.lal 9 qz),qs 9 9 26 10]) (.seq (.ops [qf 27 8 0,ql 28 8 27 1 false, .i (.bin 29 .add (.s 28) (qi 1)),qm 30 0, .i (.call 32 97 false [(.s 30),(qi 6)]), .i (.bin 32 .quo (.s 31) (qi 5)),qd 33 .add 29 32,qf 34 9 0,qs 9 34 33 1]) (.seq (.ops [qf 35 8 1,ql 36 8 35 1 false, .i (.bin 37 .add (.s 36) (qi 1)),qf 38 9 1,qs 9 38 37 1]) (.seq (.ops [ql 39 4 4 5 true,ql 40 8 8 10 true, .i (.call 42 274 false [(.s 39),(.s 40)]),qf 42 9 3,qs 9 42 41 1]) (.seq (.ops [qf 43 8 0,ql 44 8 43 1 false,qf 45 9 5,qf 46 45 0,qs 9 46 44 1]) (.seq (.ops [qf 47 8 1,ql 48 8 47 1 false,qf 49 9 5,qf 50 49 1,qs 9 50 48 1]) (.seq (.ops [qf 51 9 3,ql 52 9 51 1 false,qk 54 143 52,qf 54 9 5,qf 55 54 2,qs 9 55 53 1]) (.ops [qm 56 7,ql 57 9 9 10 true, .i (.lsl 58 10 1 qz [(0,10,(.s 57))]), .i (.app 59 45 10 160 (.s 56) (.s 58)),qm 7 59]))))))))))))) (.seq (.ops [qm 60 7,qm 6 60]) .ret))))⟩
theorem zY:cd mL=some nL:=by kernel_rfl
theorem H7 (b:Bytes) (i:Nat) (h:Int) (l:ah) (n:Nat) (hl:1≤l.n∧l.n≤10) (hn:1≤n∧n≤10) (hi:i≤b.length) (hb:b.length≤1073741824):VC cd mL (ja [] 133 (cur b i h) [(true,l.c),(false,[.int .i64 (n:Int)])]) (fun r p=>∃x:List Head×Nat×Int,((x.1.length=n∧∀y∈x.1,y.wc)∧x.2.1≤b.length)∧r= [(false,[.o true (some (45,10)) (eF x.1)])]∧p= [.pt 133 (cur b x.2.1 x.2.2)]):=by
 refine aw zY rfl ?_
 simp(disch:=omega) [nL,cur,ah.c,VZ]
 refine dN (lR b i h l hl hi hb) ?_ (n1:=by intro _;simp(disch:=omega) [ah.c,Head.o,VZ]) (n3:=by intro _;simp(disch:=omega) [ah.c,Head.o,VZ])
 rintro⟨x1,i1,h1⟩ ⟨g1,j1⟩
 simp only at g1 j1
 simp(disch:=omega) [cur,Head.o,ah.c,VZ]
 have e0: [[D.int .i64 x1.view, .int .i64 x1.height, .int .i64 x1.proposer, .sl (bytes x1.parent), .sl (bytes x1.root), .int .i64 x1.qc.view, .int .i64 x1.qc.height, .sl (bytes x1.qc.block), .sl (bytes x1.qc.bits), .sl (bE x1.qc.tags)]]=eF [x1]:=rfl
 rw[e0]
 refine cY (σ:=Nat×Nat×Int×List Head) (f1:=_) (es0:=_) (by simp(disch:=omega) [VZ];rfl) (by simp(disch:=omega) [VZ];rfl) (fun p=> [(7, .val false [.ow 13 p.1])]) (fun p=> [(4096, .pt 0 133 [.sl (bytes b), .int .i64 (p.2.1:Int), .int .i64 p.2.2.1]),(13, .sl p.1 true true (some (45,10)) (eF p.2.2.2))])
  (fun p g=>g+p.2.2.2.length=n∧1≤p.2.2.2.length∧p.2.1≤b.length∧∀y∈p.2.2.2,y.wc) (_,i1,h1,[x1]) (n - 1) (by simp(disch:=omega) [VZ];rfl) (by simp(disch:=omega) [VZ]) ⟨by simp;omega,by simp,j1,by simpa using g1⟩ ?_
 rintro⟨v,i2,h2,x⟩ nx g ⟨hg,h5,h6,h7⟩ P hP
 simp only at hg h5 h6 h7
 have hx:(eF x).length=x.length:=cf x
 simp(disch:=omega) [hx,VZ]
 refine ab (fun h8=> ?_) (fun h8=> ?_)
 ·have e1:IntKind.i64.wrap ((x.length:Int) - 1)=((x.length - 1:Nat):Int):=by rw[GG (by omega) (by omega)];omega
  obtain⟨a,e2,hw⟩:∃a:Head,(∀hq:x.length - 1 < (eF x).length,(eF x)[x.length - 1]'hq=a.c)∧a.wc:=⟨x[x.length - 1]'(by omega),fun hq=>by simp[eF],h7 _ (List.getElem_mem _)⟩
  simp(disch:=omega) [hx,e1,e2,Head.c,VZ]
  refine dN (lR b i2 h2 l hl h6 hb) ?_ (n1:=by intro _;simp(disch:=omega) [ah.c,Head.o,VZ]) (n3:=by intro _;simp(disch:=omega) [ah.c,Head.o,VZ])
  rintro⟨y,i3,h3⟩ ⟨g3,j3⟩
  simp only at g3 j3
  simp(disch:=omega) [cur,Head.o,VZ]
  refine dN (aD b i3 h3 6 (by omega) j3 hb) ?_
  rintro⟨k4,i4,h4⟩ ⟨g4,j4⟩
  simp only at g4 j4
  simp(disch:=omega) [cur,VZ]
  refine aq (jz l a hw.1) ?_ (ha:=by first|rfl|(simp[ah.c,Head.c,VY] <;>repeat' constructor))
  have hhl:=EG l a
  simp(disch:=omega) [cur,VZ]
  refine aq (ck (nT l a) (by omega)) ?_
  have ez:=JO x ⟨IntKind.i64.wrap (IntKind.i64.wrap (a.view+1)+(k4:Int) / 5),IntKind.i64.wrap (a.height+1),y.proposer,nT l a,y.root,⟨a.view,a.height,nT l a,y.qc.bits,y.qc.tags⟩⟩
  simp only at ez
  simp(disch:=omega) [cur,hx,ez,VZ]
  refine hP (_,i4,h4,x++ [⟨IntKind.i64.wrap (IntKind.i64.wrap (a.view+1)+(k4:Int) / 5),IntKind.i64.wrap (a.height+1),y.proposer,nT l a,y.root,⟨a.view,a.height,nT l a,y.qc.bits,y.qc.tags⟩⟩]) (g - 1) _ _ (by omega) ⟨by simp;omega,by simp,j4,fun z hz=> ?_⟩ (by simp(disch:=omega) [VZ];rfl) (by simp(disch:=omega) [VZ])
  rcases List.mem_append.1 hz with hz|hz
  ·exact h7 z hz
  ·simp only[List.mem_singleton]at hz
   subst hz
   obtain⟨⟨w1,w2,w3,w4,w5,⟨q1,q2,q3,q4,q5⟩⟩,w7⟩:=g3
   have hs:Sz (nT l a).length:=by unfold Sz;omega
   exact⟨⟨Qq _,Qq _,w3,hs,w5,⟨hw.1.1,hw.1.2.1,hs,q4,q5⟩⟩,w7⟩
 ·simp(disch:=omega) [cur,VZ]
  exact⟨x,i2,⟨⟨by omega,h7⟩,h6⟩,rfl,rfl⟩
abbrev tj:Nat:=270
def uN:AF:=⟨2,5,[.tmp 4],(.seq (.ops [.i (.lbox 3 (.s 1)), .i (.mov 4 (.c (.val false [.nils])))]) (.seq (.ops [.i (.bse 8),qm 5 8]) (.seq (.seq (.ops [qm 9 0,qf 10 3 2,ql 11 3 10 1 false, .i (.bin 12 .add (.s 11) (qi 1)), .i (.call 14 97 false [(.s 9),(.s 12)]),qm 6 13]) (.block 0 (.loop [27,26,25,24,23,22,21,20,19,18,17,16,15,14,7] (.seq (.seq (.ops [qm 14 6, .i (.bin 15 .gtr (.s 14) (qi 0))]) (.cond (.s 15) .skip (.exit 0))) (.seq (.block 1 (.seq (.ops [qf 18 3 1,ql 19 3 18 1 false,qm 7 19]) (.seq (.seq (.ops [qm 20 7, .i (.bin 21 .gtr (.s 20) (qi 6))]) (.cond (.s 21) (.ops [.i (.mov 7 (qi 6))]) .skip)) (.ops [qm 22 5,qm 23 0,qm 24 7, .i (.call 26 138 false [(.s 23),(.s 24)]), .i (.lsl 26 1 1 [.nils] [(0,1,(.s 25))]), .i (.app 27 22 1 24 (.s 22) (.s 26)),qm 5 27])))) (.ops [qm 16 6, .i (.bin 17 .sub (.s 16) (qi 1)),qm 6 17])))))) (.seq (.ops [qm 28 5,qm 4 28]) .ret))))⟩
theorem DW:cd tj=some uN:=by kernel_rfl
theorem Kj (b:Bytes) (i:Nat) (h:Int) (l:ah) (hl:l.rd) (hi:i≤b.length) (hb:b.length≤1073741824):VC cd tj (ja [] 133 (cur b i h) [(true,l.c)]) (fun r p=>∃x:List Bytes×Nat×Int,((x.1.length≤8∧∀y∈x.1,y.length≤6)∧x.2.1≤b.length)∧r= [(false,[.o true (some (22,1)) (bE x.1)])]∧p= [.pt 133 (cur b x.2.1 x.2.2)]):=by
 have hl1:=hl.2.1
 have hl2:=hl.2.2.1
 obtain⟨m,hm⟩:∃m:Nat,l.txs=(m:Int):=⟨l.txs.toNat,by omega⟩
 obtain⟨t,ht⟩:∃t:Nat,l.tx=(t:Int):=⟨l.tx.toNat,by omega⟩
 refine aw DW rfl ?_
 simp(disch:=omega) [uN,cur,ah.c,hm,ht,VZ]
 refine dN (aD b i h (m+1) (by omega) hi hb) ?_
 rintro⟨k1,i1,h1⟩ ⟨g1,j1⟩
 simp only at g1 j1
 simp(disch:=omega) [cur,VZ]
 refine cY (σ:=Nat×Nat×Nat×Int×List Bytes) (f1:=_) (es0:=_) (by simp(disch:=omega) [VZ];rfl) (by simp(disch:=omega) [VZ];rfl) (fun p=> [(6, .val false [.int .i64 (p.1:Int)]),(5, .val false [.ow 8 p.2.1])]) (fun p=> [(4096, .pt 0 133 [.sl (bytes b), .int .i64 (p.2.2.1:Int), .int .i64 p.2.2.2.1]),(8, .sl p.2.1 true true (some (22,1)) (bE p.2.2.2.2))])
  (fun p g=>g=p.1∧p.2.2.1≤b.length∧p.2.2.2.2.length+p.1≤8∧∀y∈p.2.2.2.2,y.length≤6) (k1,_,i1,h1,[]) k1 (by simp(disch:=omega) [VZ];rfl) (by simp(disch:=omega) [bE,VZ]) ⟨rfl,j1,by simp;omega,by simp⟩ ?_
 rintro⟨n,v,i2,h2,x⟩ nx g ⟨hg,h5,h6,h7⟩ P hP
 simp only at hg h5 h6 h7
 simp(disch:=omega) [VZ]
 refine ab (fun h8=> ?_) (fun h8=> ?_)
 ·have e1:IntKind.i64.wrap ((n:Int) - 1)=((n - 1:Nat):Int):=by rw[GG (by omega) (by omega)];omega
  have hlx:(bE x).length=x.length:=ao x
  simp(disch:=omega) [VZ]
  refine ab (fun h9=> ?_) (fun h9=> ?_)
  ·simp(disch:=omega) [VZ]
   refine dN (jd b i2 h2 6 (by omega) h5 hb) ?_
   rintro⟨y,i3,h3⟩ ⟨g3,j3⟩
   simp only at g3 j3
   simp(disch:=omega) [cur,e1,hlx,lF,VZ]
   refine hP (n - 1,_,i3,h3,x++ [y]) (g - 1) _ _ (by omega) ⟨by simp only;omega,j3,by simp;omega,fun z hz=> ?_⟩ (by simp(disch:=omega) [VZ];rfl) (by simp(disch:=omega) [VZ])
   rcases List.mem_append.1 hz with hz|hz
   ·exact h7 z hz
   ·simp only[List.mem_singleton]at hz;subst hz;omega
  ·simp(disch:=omega) [VZ]
   refine dN (jd b i2 h2 t (by omega) h5 hb) ?_
   rintro⟨y,i3,h3⟩ ⟨g3,j3⟩
   simp only at g3 j3
   simp(disch:=omega) [cur,e1,hlx,lF,VZ]
   refine hP (n - 1,_,i3,h3,x++ [y]) (g - 1) _ _ (by omega) ⟨by simp only;omega,j3,by simp;omega,fun z hz=> ?_⟩ (by simp(disch:=omega) [VZ];rfl) (by simp(disch:=omega) [VZ])
   rcases List.mem_append.1 hz with hz|hz
   ·exact h7 z hz
   ·simp only[List.mem_singleton]at hz;subst hz;omega
 ·simp(disch:=omega) [cur,VZ]
  exact⟨x,i2,⟨⟨by omega,h7⟩,h5⟩,rfl,rfl⟩
theorem Bj:ba.wc:=by
 refine⟨⟨⟨by decide,by decide⟩,⟨by decide,by decide⟩,⟨by decide,by decide⟩,by simp[ba,Sz],by simp[ba,Sz],⟨⟨by decide,by decide⟩,⟨by decide,by decide⟩,by simp[ba,fq,Sz],by simp[ba,fq,Sz],by simp[ba,fq,Sz]⟩⟩,fun x hx=>by simp[ba,fq]at hx⟩
def Cn (l:ah) (h:Head) (t:List Bytes):Block:=if bo l (fv h t)=true then fv h t else aF
theorem Kk {l:ah} {h:Head} {t:List Bytes} (hw:h.wc) (ht:t.length≤8∧∀y∈t,y.length≤6):(Cn l h t).wx:=by
 have hb:mH t:=⟨by unfold Sz;omega,fun x hx=>by have:=ht.2 x hx;unfold Sz;omega⟩
 unfold Cn
 split
 ·exact⟨y4 hw hb,fun x hx=>by have:=ht.2 x hx;omega⟩
 ·exact⟨⟨Bj,by simp[aF,mH,Sz]⟩,by simp[aF]⟩
theorem yv (l:ah) (h:Head) (t:List Bytes) (hw:h.wc) (ht:t.length≤8∧∀y∈t,y.length≤6):VC cd ix (aE [(true,l.c),(true,h.c),(false,[.sl (bE t)])]) (fun rs _=>rs= [(true,(Cn l h t).o),(false,[.p (.bool (bo l (fv h t)))])]):=
 (zA l h t hw ⟨by unfold Sz;omega,fun x hx=>by have:=ht.2 x hx;unfold Sz;omega⟩ (fun x hx=>by have:=ht.2 x hx;omega)).own fun rs ps q=>by
   rw[q,BK,Cn]
   by_cases h0:bo l (fv h t)=true
   ·rw[if_pos h0,if_pos h0,h0]
    exact⟨_,by simp[aY,bh,bk,fv,Block.o],rfl⟩
   ·have h1:bo l (fv h t)=false:=by simpa using h0
    rw[if_neg h0,if_neg h0,h1]
    exact⟨_,by simp[aY,bh,bk,Block.o,aF,ba,fq,ag,bE],rfl⟩
abbrev qL:Nat:=189
def pb:AF:=⟨2,5,[.cell 4 11 true],(.seq (.ops [.i (.lbox 3 (.s 1)), .i (.lal 4 [.int .i64 0, .int .i64 0, .int .i64 0, .nils, .nils, .int .i64 0, .int .i64 0, .nils, .nils, .nils, .nils])]) (.seq (.ops [ql 8 3 3 5 true,qm 9 0,ql 10 3 3 5 true, .i (.call 12 187 false [(.s 9),(.s 10)]),qm 12 0,ql 13 3 3 5 true, .i (.call 15 270 false [(.s 12),(.s 13)]), .i (.call 16 269 false [(.s 8),(.s 11),(.s 14)]),qm 7 15, .i (.ext 16 (.s 7) 0), .i (.ext 17 (.s 7) 1), .i (.lal 5 [.int .i64 0, .int .i64 0, .int .i64 0, .nils, .nils, .int .i64 0, .int .i64 0, .nils, .nils, .nils, .nils]),qs 5 5 16 11,qm 6 17]) (.seq (.ops [ql 18 5 5 11 true,qs 4 4 18 11]) .ret)))⟩
theorem Bf:cd qL=some pb:=by kernel_rfl
theorem IV (b:Bytes) (i:Nat) (h:Int) (l:ah) (hl:l.rd) (hi:i≤b.length) (hb:b.length≤1073741824):VC cd qL (ja [] 133 (cur b i h) [(true,l.c)]) (fun r p=>∃x:Block×Nat×Int,(x.1.wx∧x.2.1≤b.length)∧r= [(true,x.1.o)]∧p= [.pt 133 (cur b x.2.1 x.2.2)]):=by
 refine aw Bf rfl ?_
 simp(disch:=omega) [pb,cur,ah.c,VZ]
 refine dN (lR b i h l hl.1 hi hb) ?_ (n1:=by intro _;simp(disch:=omega) [ah.c,Head.o,VZ]) (n3:=by intro _;simp(disch:=omega) [ah.c,Head.o,VZ])
 rintro⟨x1,i1,h1⟩ ⟨g1,j1⟩
 simp only at g1 j1
 simp(disch:=omega) [cur,Head.o,VZ]
 refine dN (Kj b i1 h1 l hl j1 hb) ?_ (n1:=by intro _;simp(disch:=omega) [ah.c,VZ]) (n3:=by intro _;simp(disch:=omega) [ah.c,VZ])
 rintro⟨x2,i2,h2⟩ ⟨g2,j2⟩
 simp only at g2 j2
 simp(disch:=omega) [cur,VZ]
 refine aq (yv l x1 x2 g1 g2) ?_ (ha:=by first|rfl|(simp[ah.c,Head.c,VY] <;>repeat' constructor))
 have hw:=Kk (l:=l) g1 g2
 generalize Cn l x1 x2=y at hw
 simp(disch:=omega) [cur,Block.o,VZ]
 exact⟨y,i2,⟨hw,j2⟩,by simp,rfl⟩
end Go.Eng.F
namespace Go.Eng.F
abbrev qA:Nat:=191
def rU:AF:=⟨2,6,[.cell 4 2 true],(.seq (.ops [.i (.lbox 3 (.s 1)), .i (.lal 4 [.int .i64 0, .nils])]) (.seq (.ops [qm 7 0, .i (.call 9 97 false [(.s 7),(qi 200)]), .i (.bin 9 .add (qi 1) (.s 8)), .i (.bld 10 [.int .i64 0, .nils] [(0,1,(.s 9))]), .i (.lal 5 [.int .i64 0, .nils]),qs 5 5 10 2]) (.seq (.seq (.ops [.i (.mov 6 (qi 0))]) (.block 0 (.loop [32,31,30,29,28,27,26,25,24,23,22,21,20,19,18,17,16,15,14,13,12,11] (.seq (.seq (.ops [qm 11 6,qf 12 3 0,ql 13 3 12 1 false,qd 14 .lss 11 13]) (.cond (.s 14) .skip (.exit 0))) (.seq (.block 1 (.seq (.ops [qm 17 0, .i (.call 19 135 false [(.s 17),(qi 3)]), .i (.not 19 (.s 18))]) (.cond (.s 19) (.ops [qf 20 5 1,ql 21 5 20 1 false,qm 22 6,qm 23 0,qf 24 5 0,ql 25 5 24 1 false, .i (.call 27 97 false [(.s 23),(.s 25)]),qm 27 0,qk 29 242 27, .i (.bld 29 [.int .i64 0, .int .i64 0, .nils] [(0,1,(.s 22)),(1,1,(.s 26)),(2,1,(.s 28))]), .i (.lsl 30 3 1 [.int .i64 0, .int .i64 0, .nils] [(0,3,(.s 29))]), .i (.app 31 165 3 40 (.s 21) (.s 30)),qf 32 5 1,qs 5 32 31 1]) .skip))) (.ops [qm 15 6, .i (.bin 16 .add (.s 15) (qi 1)),qm 6 16])))))) (.seq (.ops [ql 33 5 5 2 true,qs 4 4 33 2]) .ret))))⟩
theorem AQ:cd qA=some rU:=by kernel_rfl
theorem Jh (b:Bytes) (i:Nat) (h:Int) (l:ah) (hl:1≤l.n∧l.n≤10) (hi:i≤b.length) (hb:b.length≤1073741824):VC cd qA (ja [] 133 (cur b i h) [(true,l.c)]) (fun r p=>∃x:Tc×Nat×Int,(x.1.wf∧x.2.1≤b.length)∧r= [(true,x.1.o)]∧p= [.pt 133 (cur b x.2.1 x.2.2)]):=by
 refine aw AQ rfl ?_
 simp(disch:=omega) [rU,cur,ah.c,VZ]
 refine dN (aD b i h 200 (by omega) hi hb) ?_
 rintro⟨k1,i1,h1⟩ ⟨g1,j1⟩
 simp only at g1 j1
 simp(disch:=omega) [cur,VZ]
 refine dI (σ:=Nat×Nat×Nat×Int×List Entry) (f0:=_) (by simp(disch:=omega) [VZ];rfl) (de.x7 (s:=5) (k:=5) (i:=1) rfl rfl) (f1:=_) (es0:=_) (by simp(disch:=omega) [VZ];rfl) (by simp(disch:=omega) [VZ];rfl) (fun p=> [(6, .val false [.int .i64 (p.1:Int)]),(5, .box [.int .i64 (1+(k1:Int)), .ow 5 p.2.1])]) (fun p=> [(4096, .pt 0 133 [.sl (bytes b), .int .i64 (p.2.2.1:Int), .int .i64 p.2.2.2.1]),(5, .sl p.2.1 true true (some (165,3)) (il p.2.2.2.2))])
  (fun p g=>(g:Int)+p.1=l.n∧p.2.2.1≤b.length∧p.2.2.2.2.length≤p.1∧∀r∈p.2.2.2.2,r.wf) (0,_,i1,h1,[]) l.n.toNat (by simp(disch:=omega) [VZ];rfl) (by simp(disch:=omega) [il,VZ]) ⟨by simp only;omega,j1,by simp,by simp⟩ ?_
 rintro⟨n,v,i2,h2,x⟩ nx g ⟨hg,a5,a6,a7⟩ P hP
 simp only at hg a5 a6 a7
 have hlx:(il x).length=x.length:=bT x
 simp(disch:=omega) [VZ]
 refine ab (fun h8=> ?_) (fun h8=> ?_)
 ·simp(disch:=omega) [VZ]
  refine dN (Bs b i2 h2 3 (by omega) a5 hb) ?_
  rintro⟨y,i3,h3⟩ j3
  simp only at j3
  cases y with
  |true=>
   simp(disch:=omega) [cur,VZ]
   exact hP (n+1,v,i3,h3,x) (g - 1) _ _ (by omega) ⟨by simp only;omega,j3,by simp only;omega,a7⟩ (by simp(disch:=omega) [VZ] <;>rfl) (by simp(disch:=omega) [VZ])
  |false=>
   simp(disch:=omega) [cur,VZ]
   refine dN (aD b i3 h3 (1+k1) (by omega) j3 hb) ?_
   rintro⟨k4,i4,h4⟩ ⟨g4,j4⟩
   simp only at g4 j4
   simp(disch:=omega) [cur,VZ]
   refine dN (c8 b i4 h4 j4 hb) ?_
   rintro⟨x5,i5,h5⟩ ⟨g5,j5⟩
   simp only at g5 j5
   simp(disch:=omega) [cur,hlx,Kb,VZ]
   refine hP (n+1,_,i5,h5,x++ [⟨n,k4,x5⟩]) (g - 1) _ _ (by omega) ⟨by simp only;omega,j5,by simp;omega,fun z hz=> ?_⟩ (by simp(disch:=omega) [VZ] <;>rfl) (by simp(disch:=omega) [VZ])
   rcases List.mem_append.1 hz with hz|hz
   ·exact a7 z hz
   ·simp only[List.mem_singleton]at hz
    subst hz
    exact⟨⟨by simp only;omega,by simp only;omega⟩,⟨by simp only;omega,by simp only;omega⟩,by unfold Sz;simp only;omega⟩
 ·simp(disch:=omega) [cur,VZ]
  refine⟨⟨1+k1,x⟩,i2,⟨⟨⟨by simp only;omega,by simp only;omega⟩,by unfold Sz;simp only;omega,a7⟩,a5⟩,rfl,rfl⟩
abbrev rj:Nat:=193
def ox:AF:=⟨2,6,[.cell 4 6 true],(.seq (.ops [.i (.lbox 3 (.s 1)), .i (.lal 4 [.nils, .int .i64 0, .int .i64 0, .nils, .nils, .nils])]) (.seq (.ops [qm 7 0,ql 8 3 3 5 true,qm 9 0,qf 10 3 4,ql 11 3 10 1 false, .i (.bin 12 .sub (.s 11) (qi 2)), .i (.call 14 97 false [(.s 9),(.s 12)]), .i (.bin 14 .add (qi 3) (.s 13)), .i (.call 16 273 false [(.s 7),(.s 8),(.s 14)]),qm 16 0,ql 17 3 3 5 true, .i (.call 19 185 false [(.s 16),(.s 17)]), .i (.bld 19 [.nils, .int .i64 0, .int .i64 0, .nils, .nils, .nils] [(0,1,(.s 15)),(1,5,(.s 18))]), .i (.lal 5 [.nils, .int .i64 0, .int .i64 0, .nils, .nils, .nils]),qs 5 5 19 6]) (.seq (.ops [qf 20 5 0,ql 21 5 20 1 false,qf 22 5 0,ql 23 5 22 1 false,qn 24 23, .i (.bin 25 .sub (.s 24) (qi 1)), .i (.iad 26 (.s 21) (.s 25) 10), .i (.ldh 27 (.s 26) 10 true), .i (.lal 6 qz),qs 6 6 27 10]) (.seq (.ops [qf 28 6 0,ql 29 6 28 1 false,qf 30 5 1,qf 31 30 0,qs 5 31 29 1]) (.seq (.ops [qf 32 6 1,ql 33 6 32 1 false,qf 34 5 1,qf 35 34 1,qs 5 35 33 1]) (.seq (.ops [ql 36 3 3 5 true,ql 37 6 6 10 true, .i (.call 39 274 false [(.s 36),(.s 37)]),qf 39 5 1,qf 40 39 2,qs 5 40 38 1]) (.seq (.ops [ql 41 5 5 6 true,qs 4 4 41 6]) .ret)))))))⟩
theorem CO:cd rj=some ox:=by kernel_rfl
theorem ID (b:Bytes) (i:Nat) (h:Int) (l:ah) (hl:l.rd) (hi:i≤b.length) (hb:b.length≤1073741824):VC cd rj (ja [] 133 (cur b i h) [(true,l.c)]) (fun r p=>∃x:Proof×Nat×Int,(x.1.wc∧x.2.1≤b.length)∧r= [(true,x.1.o)]∧p= [.pt 133 (cur b x.2.1 x.2.2)]):=by
 have hl4:=hl.2.2.2
 obtain⟨m,hm⟩:∃m:Nat,l.heads=(m:Int):=⟨l.heads.toNat,by omega⟩
 have em:(m:Int) - 2=((m - 2:Nat):Int):=by omega
 refine aw CO rfl ?_
 simp(disch:=omega) [ox,cur,ah.c,hm,em,VZ]
 refine dN (aD b i h (m - 2) (by omega) hi hb) ?_
 rintro⟨k1,i1,h1⟩ ⟨g1,j1⟩
 simp only at g1 j1
 simp(disch:=omega) [cur,VZ]
 refine dN (H7 b i1 h1 ⟨l.n,l.tx,l.txs,l.frame,(m:Int)⟩ (3+k1) hl.1 (by omega) j1 hb) ?_ (n1:=by intro _;simp(disch:=omega) [ah.c,VZ]) (n3:=by intro _;simp(disch:=omega) [ah.c,VZ])
 rintro⟨x2,i2,h2⟩ ⟨⟨g2,w2⟩,j2⟩
 simp only at g2 w2 j2
 simp(disch:=omega) [cur,VZ]
 refine dN (vq b i2 h2 ⟨l.n,l.tx,l.txs,l.frame,(m:Int)⟩ hl.1 j2 hb) ?_ (n1:=by intro _;simp(disch:=omega) [ah.c,Qc.o,VZ]) (n3:=by intro _;simp(disch:=omega) [ah.c,Qc.o,VZ])
 rintro⟨x3,i3,h3⟩ ⟨g3,j3⟩
 simp only at g3 j3
 have w3:=g3.wc
 have hx:(eF x2).length=x2.length:=cf x2
 have e1:IntKind.i64.wrap ((x2.length:Int) - 1)=((x2.length - 1:Nat):Int):=by rw[GG (by omega) (by omega)];omega
 obtain⟨a,e2,hw⟩:∃a:Head,(∀hq:x2.length - 1 < (eF x2).length,(eF x2)[x2.length - 1]'hq=a.c)∧a.wc:=⟨x2[x2.length - 1]'(by omega),fun hq=>by simp[eF],w2 _ (List.getElem_mem _)⟩
 have hhl:=EG ⟨l.n,l.tx,l.txs,l.frame,(m:Int)⟩ a
 simp(disch:=omega) [cur,Qc.o,hx,e1,e2,Head.c,VZ]
 refine aq (jz ⟨l.n,l.tx,l.txs,l.frame,(m:Int)⟩ a hw.1) ?_ (ha:=by first|rfl|(simp[ah.c,Head.c,VY] <;>repeat' constructor))
 generalize nT ⟨l.n,l.tx,l.txs,l.frame,(m:Int)⟩ a=y at hhl
 simp(disch:=omega) [cur,Proof.o,VZ]
 refine⟨⟨x2,⟨a.view,a.height,y,x3.bits,x3.tags⟩⟩,i3,⟨?_,j3⟩,?_,rfl⟩
 ·obtain⟨⟨q1,q2,q3,q4,q5⟩,q6⟩:=w3
  have hs:Sz y.length:=by unfold Sz;omega
  exact⟨⟨⟨by unfold Sz;simp only;omega,fun z hz=>(w2 z hz).1⟩,⟨hw.1.1,hw.1.2.1,hs,q4,q5⟩⟩,w2,⟨hw.1.1,hw.1.2.1,hs,q4,q5⟩,q6⟩
 ·simp
end Go.Eng.F
namespace Go.Eng.F
structure Ev where
 kind:Int
 n:Int
 msg:aG
def Ev.c (e:Ev):List D:= .int .i64 e.kind:: .int .i64 e.n::e.msg.c
def Qr (s:Bytes) (a n:Nat):Bytes:=(s.drop (a+8)).take (n - 8)
def Li (k:Nat):List Ev:=if k=0 then []else [⟨1,k,aA⟩]
def OU (l:ah) (d:Bytes):Ev:=if(dec l d).2=0 then⟨3,0,(dec l d).1⟩else⟨2,(dec l d).2,aA⟩
def KZ (l:ah) (s:Bytes) (cl:Bool):Nat→Nat→Nat→List Ev→List Ev×Nat×Nat
 |0,a,k,e=>(e,k,a)
 |g+1,a,k,e=>
  if a < s.length then
   if(Ag l s a).1=1∧cl=false then(e,k,a)
   else if(Ag l s a).1≠3 then KZ l s cl g (a+1) (k+1) e
   else KZ l s cl g (a+(Ag l s a).2.toNat) 0 (e++(Li k++ [OU l (Qr s a (Ag l s a).2.toNat)]))
  else(e,k,a)
def OD (l:ah) (s:Bytes) (cl:Bool) (k:Nat):List Ev×Nat×Nat:=
 let r:=KZ l s cl s.length 0 k []
 (r.1++(if cl=true then Li r.2.1 else []),r.2)
end Go.Eng.F
namespace Go.Eng.F
def tail (l:ah) (s:Bytes):Nat×Nat:=if l.ok=true then((OD l s false 0).2.1,s.length - (OD l s false 0).2.2)else(0,0)
end Go.Eng.F
namespace Go.Eng.F
end Go.Eng.F
namespace Go.Eng.F
abbrev sf:Nat:=195
def oy:AF:=⟨2,6,[.cell 4 5 true],(.seq (.ops [.i (.lbox 3 (.s 1)), .i (.lal 4 [.int .i64 0, .int .i64 0, .int .i64 0, .nils, .nils])]) (.seq (.ops [qm 8 0, .i (.call 10 97 false [(.s 8),(qi 8)]), .i (.bin 10 .add (qi 1) (.s 9)),qm 5 10]) (.seq (.seq (.ops [qf 11 3 2,ql 12 3 11 1 false, .i (.bin 13 .gtr (.s 12) (qi 0))]) (.cond (.s 13) (.ops [qm 14 0,qf 15 3 2,ql 16 3 15 1 false, .i (.call 18 97 false [(.s 14),(.s 16)]), .i (.bin 18 .add (qi 1) (.s 17)),qm 5 18]) .skip)) (.seq (.ops [qm 19 0, .i (.call 21 97 false [(.s 19),(qi 200)]),qm 21 5,qm 22 0,qm 23 5, .i (.call 25 97 false [(.s 22),(.s 23)]),qm 25 0, .i (.call 27 138 false [(.s 25),(qi 3)]), .i (.bld 27 [.int .i64 0, .int .i64 0, .int .i64 0, .nils, .nils] [(0,1,(.s 20)),(1,1,(.s 21)),(2,1,(.s 24)),(3,1,(.s 26))]), .i (.lal 6 [.int .i64 0, .int .i64 0, .int .i64 0, .nils, .nils]),qs 6 6 27 5]) (.seq (.seq (.ops [qf 28 3 1,ql 29 3 28 1 false, .i (.bin 30 .lss (.s 29) (qi 3))]) (.cond (.s 30) (.ops [qf 31 6 3, .i (.stl 6 (.s 31) (.c (.val false [.nils])) 1)]) .skip)) (.seq (.seq (.ops [qf 32 6 2,ql 33 6 32 1 false,qm 34 5, .i (.call 36 276 false [(.s 33),(.s 34)]),qm 7 35]) (.block 0 (.loop [46,45,44,43,42,41,40,39,38,37,36] (.seq (.seq (.ops [qm 36 7, .i (.bin 37 .gtr (.s 36) (qi 0))]) (.cond (.s 37) .skip (.exit 0))) (.seq (.block 1 (.ops [qf 40 6 4,ql 41 6 40 1 false,qm 42 0,qk 44 242 42, .i (.lsl 44 1 1 [.nils] [(0,1,(.s 43))]), .i (.app 45 22 1 24 (.s 41) (.s 44)),qf 46 6 4,qs 6 46 45 1])) (.ops [qm 38 7, .i (.bin 39 .sub (.s 38) (qi 1)),qm 7 39])))))) (.seq (.ops [ql 47 6 6 5 true,qs 4 4 47 5]) .ret)))))))⟩
theorem CK:cd sf=some oy:=by kernel_rfl
theorem Jk (b:Bytes) (i:Nat) (h:Int) (l:ah) (hl:l.rd) (hi:i≤b.length) (hb:b.length≤1073741824):VC cd sf (ja [] 133 (cur b i h) [(true,l.c)]) (fun r p=>∃x:aW×Nat×Int,((x.1.wc∧x.1.tx.length≤3)∧x.2.1≤b.length)∧r= [(true,x.1.o)]∧p= [.pt 133 (cur b x.2.1 x.2.2)]):=by
 refine VC.xh ?_
 have hl2:=hl.2.2.1
 obtain⟨m,hm⟩:∃m:Nat,l.txs=(m:Int):=⟨l.txs.toNat,by omega⟩
 refine aw CK rfl ?_
 simp(disch:=omega) [oy,cur,ah.c,hm,VZ]
 refine dN (aD b i h 8 (by omega) hi hb) ?_
 rintro⟨k1,i1,h1⟩ ⟨g1,j1⟩
 simp only at g1 j1
 simp(disch:=omega) [cur,VZ]
 refine ab (fun h0=> ?_) (fun h0=> ?_)
 case refine_1=>
  simp(disch:=omega) [VZ]
  refine dN (aD b i1 h1 m (by omega) j1 hb) ?_
  rintro⟨k2,i2,h2⟩ ⟨g2,j2⟩
  simp only at g2 j2
  simp(disch:=omega) [cur,VZ]
  have hk:k2 < 8:=by omega
  refine dN (aD b i2 h2 200 (by omega) j2 hb) ?_
  rintro⟨k3,i3,h3⟩ ⟨g3,j3⟩
  simp only at g3 j3
  simp(disch:=omega) [cur,VZ]
  refine dN (aD b i3 h3 (1+k2) (by omega) j3 hb) ?_
  rintro⟨k4,i4,h4⟩ ⟨g4,j4⟩
  simp only at g4 j4
  simp(disch:=omega) [cur,VZ]
  refine dN (jd b i4 h4 3 (by omega) j4 hb) ?_
  rintro⟨x5,i5,h5⟩ ⟨g5,j5⟩
  simp only at g5 j5
  have hpl:=cM (1+k2) k4
  simp(disch:=omega) [cur,VZ]
  refine ab (fun h6=> ?_) (fun h6=> ?_)
  case refine_1=>
   simp(disch:=omega) [VZ]
   refine aq (dQ (1+k2) k4 (by omega) (by omega)) ?_
   simp(disch:=omega) [VZ]
   refine dI (σ:=Nat×Nat×Nat×Int×List Bytes) (f0:=_) (by simp(disch:=omega) [VZ];rfl) (de.x7 (s:=6) (k:=5) (i:=4) rfl rfl) (f1:=_) (es0:=_) (by simp(disch:=omega) [VZ];rfl) (by simp(disch:=omega) [VZ];rfl) (fun p=> [(7, .val false [.int .i64 (p.1:Int)]),(6, .box [.int .i64 (k3:Int), .int .i64 (1+(k2:Int)), .int .i64 (k4:Int), .nils, .ow 5 p.2.1])]) (fun p=> [(4096, .pt 0 133 [.sl (bytes b), .int .i64 (p.2.2.1:Int), .int .i64 p.2.2.2.1]),(5, .sl p.2.1 true true (some (22,1)) (bE p.2.2.2.2))])
    (fun p g=>g=p.1∧p.2.2.1≤b.length∧p.2.2.2.2.length+p.1≤9∧∀t∈p.2.2.2.2,t.length=32) (bn k4 (1+k2),_,i5,h5,[]) (bn k4 (1+k2)) (by simp(disch:=omega) [VZ];rfl) (by simp(disch:=omega) [bE,VZ]) ⟨rfl,j5,by simp;omega,by simp⟩ ?_
   rintro⟨n,v,i7,h7,x⟩ nx g ⟨hg,a5,a6,a7⟩ P hP
   simp only at hg a5 a6 a7
   have hlx:(bE x).length=x.length:=ao x
   simp(disch:=omega) [VZ]
   refine ab (fun h8=> ?_) (fun h8=> ?_)
   case refine_1=>
    simp(disch:=omega) [VZ]
    refine dN (c8 b i7 h7 a5 hb) ?_
    rintro⟨y,i8,h9⟩ ⟨g8,j8⟩
    simp only at g8 j8
    have e1:IntKind.i64.wrap ((n:Int) - 1)=((n - 1:Nat):Int):=by rw[GG (by omega) (by omega)];omega
    simp(disch:=omega) [cur,hlx,e1,lF,VZ]
    refine hP (n - 1,_,i8,h9,x++ [y]) (g - 1) _ _ (by omega) ⟨by simp only;omega,j8,by simp;omega,fun z hz=> ?_⟩ (by simp(disch:=omega) [VZ];rfl) (by simp(disch:=omega) [VZ])
    rcases List.mem_append.1 hz with hz|hz
    ·exact a7 z hz
    ·simp only[List.mem_singleton]at hz;subst hz;exact g8
   case refine_2=>
    simp(disch:=omega) [cur,VZ]
    refine⟨[(true,aW.o ⟨k3,1+k2,k4,[],x⟩)],by simp[aY,bh,bk,aW.o,ag],⟨k3,1+k2,k4,[],x⟩,i7,⟨⟨?_,by simp;try omega⟩,a5⟩,rfl,rfl⟩
    refine⟨⟨by simp only;omega,by simp only;omega⟩,⟨by simp only;omega,by simp only;omega⟩,⟨by simp only;omega,by simp only;omega⟩,by unfold Sz;simp;try omega,⟨by unfold Sz;simp only;omega,fun z hz=>by have:=a7 z hz;unfold Sz;omega⟩⟩
  case refine_2=>
   simp(disch:=omega) [VZ]
   refine aq (dQ (1+k2) k4 (by omega) (by omega)) ?_
   simp(disch:=omega) [VZ]
   refine dI (σ:=Nat×Nat×Nat×Int×List Bytes) (f0:=_) (by simp(disch:=omega) [VZ];rfl) (de.x7 (s:=6) (k:=5) (i:=4) rfl rfl) (f1:=_) (es0:=_) (by simp(disch:=omega) [VZ];rfl) (by simp(disch:=omega) [VZ];rfl) (fun p=> [(7, .val false [.int .i64 (p.1:Int)]),(6, .box [.int .i64 (k3:Int), .int .i64 (1+(k2:Int)), .int .i64 (k4:Int), .ow 229376 29, .ow 5 p.2.1])]) (fun p=> [(4096, .pt 0 133 [.sl (bytes b), .int .i64 (p.2.2.1:Int), .int .i64 p.2.2.2.1]),(5, .sl p.2.1 true true (some (22,1)) (bE p.2.2.2.2))])
    (fun p g=>g=p.1∧p.2.2.1≤b.length∧p.2.2.2.2.length+p.1≤9∧∀t∈p.2.2.2.2,t.length=32) (bn k4 (1+k2),_,i5,h5,[]) (bn k4 (1+k2)) (by simp(disch:=omega) [VZ];rfl) (by simp(disch:=omega) [bE,VZ]) ⟨rfl,j5,by simp;omega,by simp⟩ ?_
   rintro⟨n,v,i7,h7,x⟩ nx g ⟨hg,a5,a6,a7⟩ P hP
   simp only at hg a5 a6 a7
   have hlx:(bE x).length=x.length:=ao x
   simp(disch:=omega) [VZ]
   refine ab (fun h8=> ?_) (fun h8=> ?_)
   case refine_1=>
    simp(disch:=omega) [VZ]
    refine dN (c8 b i7 h7 a5 hb) ?_
    rintro⟨y,i8,h9⟩ ⟨g8,j8⟩
    simp only at g8 j8
    have e1:IntKind.i64.wrap ((n:Int) - 1)=((n - 1:Nat):Int):=by rw[GG (by omega) (by omega)];omega
    simp(disch:=omega) [cur,hlx,e1,lF,VZ]
    refine hP (n - 1,_,i8,h9,x++ [y]) (g - 1) _ _ (by omega) ⟨by simp only;omega,j8,by simp;omega,fun z hz=> ?_⟩ (by simp(disch:=omega) [VZ];rfl) (by simp(disch:=omega) [VZ])
    rcases List.mem_append.1 hz with hz|hz
    ·exact a7 z hz
    ·simp only[List.mem_singleton]at hz;subst hz;exact g8
   case refine_2=>
    simp(disch:=omega) [cur,VZ]
    refine⟨[(true,aW.o ⟨k3,1+k2,k4,x5,x⟩)],by simp[aY,bh,bk,aW.o,ag],⟨k3,1+k2,k4,x5,x⟩,i7,⟨⟨?_,by simp;try omega⟩,a5⟩,rfl,rfl⟩
    refine⟨⟨by simp only;omega,by simp only;omega⟩,⟨by simp only;omega,by simp only;omega⟩,⟨by simp only;omega,by simp only;omega⟩,by unfold Sz;simp;try omega,⟨by unfold Sz;simp only;omega,fun z hz=>by have:=a7 z hz;unfold Sz;omega⟩⟩
 case refine_2=>
  simp(disch:=omega) [VZ]
  have hk:k1 < 8:=by omega
  refine dN (aD b i1 h1 200 (by omega) j1 hb) ?_
  rintro⟨k3,i3,h3⟩ ⟨g3,j3⟩
  simp only at g3 j3
  simp(disch:=omega) [cur,VZ]
  refine dN (aD b i3 h3 (1+k1) (by omega) j3 hb) ?_
  rintro⟨k4,i4,h4⟩ ⟨g4,j4⟩
  simp only at g4 j4
  simp(disch:=omega) [cur,VZ]
  refine dN (jd b i4 h4 3 (by omega) j4 hb) ?_
  rintro⟨x5,i5,h5⟩ ⟨g5,j5⟩
  simp only at g5 j5
  have hpl:=cM (1+k1) k4
  simp(disch:=omega) [cur,VZ]
  refine ab (fun h6=> ?_) (fun h6=> ?_)
  case refine_1=>
   simp(disch:=omega) [VZ]
   refine aq (dQ (1+k1) k4 (by omega) (by omega)) ?_
   simp(disch:=omega) [VZ]
   refine dI (σ:=Nat×Nat×Nat×Int×List Bytes) (f0:=_) (by simp(disch:=omega) [VZ];rfl) (de.x7 (s:=6) (k:=5) (i:=4) rfl rfl) (f1:=_) (es0:=_) (by simp(disch:=omega) [VZ];rfl) (by simp(disch:=omega) [VZ];rfl) (fun p=> [(7, .val false [.int .i64 (p.1:Int)]),(6, .box [.int .i64 (k3:Int), .int .i64 (1+(k1:Int)), .int .i64 (k4:Int), .nils, .ow 5 p.2.1])]) (fun p=> [(4096, .pt 0 133 [.sl (bytes b), .int .i64 (p.2.2.1:Int), .int .i64 p.2.2.2.1]),(5, .sl p.2.1 true true (some (22,1)) (bE p.2.2.2.2))])
    (fun p g=>g=p.1∧p.2.2.1≤b.length∧p.2.2.2.2.length+p.1≤9∧∀t∈p.2.2.2.2,t.length=32) (bn k4 (1+k1),_,i5,h5,[]) (bn k4 (1+k1)) (by simp(disch:=omega) [VZ];rfl) (by simp(disch:=omega) [bE,VZ]) ⟨rfl,j5,by simp;omega,by simp⟩ ?_
   rintro⟨n,v,i7,h7,x⟩ nx g ⟨hg,a5,a6,a7⟩ P hP
   simp only at hg a5 a6 a7
   have hlx:(bE x).length=x.length:=ao x
   simp(disch:=omega) [VZ]
   refine ab (fun h8=> ?_) (fun h8=> ?_)
   case refine_1=>
    simp(disch:=omega) [VZ]
    refine dN (c8 b i7 h7 a5 hb) ?_
    rintro⟨y,i8,h9⟩ ⟨g8,j8⟩
    simp only at g8 j8
    have e1:IntKind.i64.wrap ((n:Int) - 1)=((n - 1:Nat):Int):=by rw[GG (by omega) (by omega)];omega
    simp(disch:=omega) [cur,hlx,e1,lF,VZ]
    refine hP (n - 1,_,i8,h9,x++ [y]) (g - 1) _ _ (by omega) ⟨by simp only;omega,j8,by simp;omega,fun z hz=> ?_⟩ (by simp(disch:=omega) [VZ];rfl) (by simp(disch:=omega) [VZ])
    rcases List.mem_append.1 hz with hz|hz
    ·exact a7 z hz
    ·simp only[List.mem_singleton]at hz;subst hz;exact g8
   case refine_2=>
    simp(disch:=omega) [cur,VZ]
    refine⟨[(true,aW.o ⟨k3,1+k1,k4,[],x⟩)],by simp[aY,bh,bk,aW.o,ag],⟨k3,1+k1,k4,[],x⟩,i7,⟨⟨?_,by simp;try omega⟩,a5⟩,rfl,rfl⟩
    refine⟨⟨by simp only;omega,by simp only;omega⟩,⟨by simp only;omega,by simp only;omega⟩,⟨by simp only;omega,by simp only;omega⟩,by unfold Sz;simp;try omega,⟨by unfold Sz;simp only;omega,fun z hz=>by have:=a7 z hz;unfold Sz;omega⟩⟩
  case refine_2=>
   simp(disch:=omega) [VZ]
   refine aq (dQ (1+k1) k4 (by omega) (by omega)) ?_
   simp(disch:=omega) [VZ]
   refine dI (σ:=Nat×Nat×Nat×Int×List Bytes) (f0:=_) (by simp(disch:=omega) [VZ];rfl) (de.x7 (s:=6) (k:=5) (i:=4) rfl rfl) (f1:=_) (es0:=_) (by simp(disch:=omega) [VZ];rfl) (by simp(disch:=omega) [VZ];rfl) (fun p=> [(7, .val false [.int .i64 (p.1:Int)]),(6, .box [.int .i64 (k3:Int), .int .i64 (1+(k1:Int)), .int .i64 (k4:Int), .ow 229376 24, .ow 5 p.2.1])]) (fun p=> [(4096, .pt 0 133 [.sl (bytes b), .int .i64 (p.2.2.1:Int), .int .i64 p.2.2.2.1]),(5, .sl p.2.1 true true (some (22,1)) (bE p.2.2.2.2))])
    (fun p g=>g=p.1∧p.2.2.1≤b.length∧p.2.2.2.2.length+p.1≤9∧∀t∈p.2.2.2.2,t.length=32) (bn k4 (1+k1),_,i5,h5,[]) (bn k4 (1+k1)) (by simp(disch:=omega) [VZ];rfl) (by simp(disch:=omega) [bE,VZ]) ⟨rfl,j5,by simp;omega,by simp⟩ ?_
   rintro⟨n,v,i7,h7,x⟩ nx g ⟨hg,a5,a6,a7⟩ P hP
   simp only at hg a5 a6 a7
   have hlx:(bE x).length=x.length:=ao x
   simp(disch:=omega) [VZ]
   refine ab (fun h8=> ?_) (fun h8=> ?_)
   case refine_1=>
    simp(disch:=omega) [VZ]
    refine dN (c8 b i7 h7 a5 hb) ?_
    rintro⟨y,i8,h9⟩ ⟨g8,j8⟩
    simp only at g8 j8
    have e1:IntKind.i64.wrap ((n:Int) - 1)=((n - 1:Nat):Int):=by rw[GG (by omega) (by omega)];omega
    simp(disch:=omega) [cur,hlx,e1,lF,VZ]
    refine hP (n - 1,_,i8,h9,x++ [y]) (g - 1) _ _ (by omega) ⟨by simp only;omega,j8,by simp;omega,fun z hz=> ?_⟩ (by simp(disch:=omega) [VZ];rfl) (by simp(disch:=omega) [VZ])
    rcases List.mem_append.1 hz with hz|hz
    ·exact a7 z hz
    ·simp only[List.mem_singleton]at hz;subst hz;exact g8
   case refine_2=>
    simp(disch:=omega) [cur,VZ]
    refine⟨[(true,aW.o ⟨k3,1+k1,k4,x5,x⟩)],by simp[aY,bh,bk,aW.o,ag],⟨k3,1+k1,k4,x5,x⟩,i7,⟨⟨?_,by simp;try omega⟩,a5⟩,rfl,rfl⟩
    refine⟨⟨by simp only;omega,by simp only;omega⟩,⟨by simp only;omega,by simp only;omega⟩,⟨by simp only;omega,by simp only;omega⟩,by unfold Sz;simp;try omega,⟨by unfold Sz;simp only;omega,fun z hz=>by have:=a7 z hz;unfold Sz;omega⟩⟩
theorem Ja:fq.wc:=⟨⟨⟨by decide,by decide⟩,⟨by decide,by decide⟩,by simp[fq,Sz],by simp[fq,Sz],by simp[fq,Sz]⟩,fun x hx=>by simp[fq]at hx⟩
theorem FA:aA.wc:=by
 refine⟨⟨by decide,by decide⟩,⟨⟨by decide,by decide⟩,⟨by decide,by decide⟩,by simp[aA,bA,Sz],⟨by decide,by decide⟩,by simp[aA,bA,Sz]⟩,Ja,Bj,⟨⟨Bj,by simp[aA,aF,mH,Sz]⟩,by simp[aA,aF]⟩,⟨⟨by decide,by decide⟩,by simp[aA,gP,Sz],by simp[aA,gP]⟩,⟨⟨⟨by simp[aA,aK,Sz],by simp[aA,aK]⟩,Ja.1⟩,by simp[aA,aK],Ja⟩,⟨⟨by decide,by decide⟩,⟨by decide,by decide⟩,⟨by decide,by decide⟩,by simp[aA,bq,Sz],by simp[aA,bq,mH,Sz]⟩,by simp[aA,bq]⟩
abbrev ru:Nat:=134
def oD:AF:=⟨2,6,[.cell 4 45 true],(.seq (.ops [.i (.lbox 3 (.s 1)), .i (.lal 4 [.int .i64 0, .int .i64 0, .int .i64 0, .nils, .int .i64 0, .nils, .int .i64 0, .int .i64 0, .nils, .nils, .nils, .int .i64 0, .int .i64 0, .int .i64 0, .nils, .nils, .int .i64 0, .int .i64 0, .nils, .nils, .nils, .int .i64 0, .int .i64 0, .int .i64 0, .nils, .nils, .int .i64 0, .int .i64 0, .nils, .nils, .nils, .nils, .int .i64 0, .nils, .nils, .int .i64 0, .int .i64 0, .nils, .nils, .nils, .int .i64 0, .int .i64 0, .int .i64 0, .nils, .nils])]) (.seq (.seq (.ops [qm 5 0, .i (.call 7 97 false [(.s 5),(qi 9)])]) (.block 0 (.seq (.ops [.i (.bin 8 .eql (.s 6) (qi 0)),qm 7 8]) (.cond (.s 7) (.seq (.ops [qm 9 0,ql 10 3 3 5 true, .i (.call 12 185 false [(.s 9),(.s 10)]),qk 13 184 11,qs 4 4 12 45]) .ret) (.seq (.ops [.i (.bin 14 .eql (.s 6) (qi 1)),qm 13 14]) (.cond (.s 13) (.seq (.ops [qm 15 0,ql 16 3 3 5 true, .i (.call 18 187 false [(.s 15),(.s 16)]),qk 19 186 17,qs 4 4 18 45]) .ret) (.seq (.ops [.i (.bin 20 .eql (.s 6) (qi 2)),qm 19 20]) (.cond (.s 19) (.seq (.ops [qm 21 0,ql 22 3 3 5 true, .i (.call 24 189 false [(.s 21),(.s 22)]),qk 25 188 23,qs 4 4 24 45]) .ret) (.seq (.ops [.i (.bin 26 .eql (.s 6) (qi 3)),qm 25 26]) (.cond (.s 25) (.seq (.ops [qm 27 0,ql 28 3 3 5 true, .i (.call 30 191 false [(.s 27),(.s 28)]),qk 31 190 29,qs 4 4 30 45]) .ret) (.seq (.ops [.i (.bin 32 .eql (.s 6) (qi 4)),qm 31 32]) (.cond (.s 31) (.seq (.ops [qm 33 0,ql 34 3 3 5 true, .i (.call 36 193 false [(.s 33),(.s 34)]),qk 37 192 35,qs 4 4 36 45]) .ret) (.seq (.ops [.i (.bin 38 .eql (.s 6) (qi 5)),qm 37 38]) (.cond (.s 37) (.seq (.ops [qf 39 3 2,ql 40 3 39 1 false, .i (.bin 41 .gtr (.s 40) (qi 0))]) (.cond (.s 41) (.seq (.ops [qm 42 0,ql 43 3 3 5 true, .i (.call 45 195 false [(.s 42),(.s 43)]),qk 46 194 44,qs 4 4 45 45]) .ret) .skip)) .skip)))))))))))))) (.seq (.ops [qm 46 0,ql 47 3 3 5 true, .i (.call 49 161 false [(.s 46),(.s 47)]),qk 50 160 48,qs 4 4 49 45]) .ret)))⟩
theorem Cv:cd ru=some oD:=by kernel_rfl
theorem IA (b:Bytes) (i:Nat) (h:Int) (l:ah) (hl:l.rd) (hi:i≤b.length) (hb:b.length≤1073741824):VC cd ru (ja [] 133 (cur b i h) [(true,l.c)]) (fun r p=>∃x:aG×Nat×Int,(x.1.wc∧x.2.1≤b.length)∧r= [(true,x.1.o)]∧p= [.pt 133 (cur b x.2.1 x.2.2)]):=by
 refine VC.xh ?_
 refine aw Cv rfl ?_
 simp(disch:=omega) [oD,cur,ah.c,VZ]
 refine dN (aD b i h 9 (by omega) hi hb) ?_
 rintro⟨k1,i1,h1⟩ ⟨g1,j1⟩
 simp only at g1 j1
 have hk:k1=0∨k1=1∨k1=2∨k1=3∨k1=4∨k1=5∨k1=6∨k1=7∨k1=8:=by omega
 rcases hk with rfl|rfl|rfl|rfl|rfl|rfl|hk
 ·simp(disch:=omega) [cur,VZ]
  refine dN (vq b i1 h1 l hl.1 j1 hb) ?_ (n1:=by intro _;simp(disch:=omega) [ah.c,Qc.o,VZ]) (n3:=by intro _;simp(disch:=omega) [ah.c,Qc.o,VZ])
  rintro⟨x2,i2,h2⟩ ⟨g2,j2⟩
  simp only at g2 j2
  simp(disch:=omega) [cur,Qc.o,VZ]
  refine aq (vN x2 (g2.wc)) ?_ (ha:=by first|rfl|(simp[Qc.c,Head.c,Qc.c,VY] <;>repeat' constructor))
  simp(disch:=omega) [cur,rR,aY,bh,bk,VZ]
  exact⟨[(true,aG.o {aA with kind:=2,qc:=x2})],by simp[aY,bh,bk,aG.o,aA,bA,fq,ba,aF,gP,aK,bq,ag,bg,bd,bj],{aA with kind:=2,qc:=x2},i2,⟨{FA with kind:=⟨by simp only;omega,by simp only;omega⟩,qc:=g2.wc},j2⟩,rfl,rfl⟩
 ·simp(disch:=omega) [cur,VZ]
  refine dN (lR b i1 h1 l hl.1 j1 hb) ?_ (n1:=by intro _;simp(disch:=omega) [ah.c,Head.o,VZ]) (n3:=by intro _;simp(disch:=omega) [ah.c,Head.o,VZ])
  rintro⟨x2,i2,h2⟩ ⟨g2,j2⟩
  simp only at g2 j2
  simp(disch:=omega) [cur,Head.o,VZ]
  refine aq (rz x2 g2) ?_ (ha:=by first|rfl|(simp[Head.c,Head.c,Qc.c,VY] <;>repeat' constructor))
  simp(disch:=omega) [cur,fJ,aY,bh,bk,VZ]
  exact⟨[(true,aG.o {aA with kind:=3,head:=x2})],by simp[aY,bh,bk,aG.o,aA,bA,fq,ba,aF,gP,aK,bq,ag,bg,bd,bj],{aA with kind:=3,head:=x2},i2,⟨{FA with kind:=⟨by simp only;omega,by simp only;omega⟩,head:=g2},j2⟩,rfl,rfl⟩
 ·simp(disch:=omega) [cur,VZ]
  refine dN (IV b i1 h1 l hl j1 hb) ?_ (n1:=by intro _;simp(disch:=omega) [ah.c,Block.o,VZ]) (n3:=by intro _;simp(disch:=omega) [ah.c,Block.o,VZ])
  rintro⟨x2,i2,h2⟩ ⟨g2,j2⟩
  simp only at g2 j2
  simp(disch:=omega) [cur,Block.o,VZ]
  refine aq (nF x2 g2.1) ?_ (ha:=by first|rfl|(simp[Block.c,Head.c,Qc.c,VY] <;>repeat' constructor))
  simp(disch:=omega) [cur,ee,aY,bh,bk,VZ]
  exact⟨[(true,aG.o {aA with kind:=4,block:=x2})],by simp[aY,bh,bk,aG.o,aA,bA,fq,ba,aF,gP,aK,bq,ag,bg,bd,bj],{aA with kind:=4,block:=x2},i2,⟨{FA with kind:=⟨by simp only;omega,by simp only;omega⟩,block:=g2},j2⟩,rfl,rfl⟩
 ·simp(disch:=omega) [cur,VZ]
  refine dN (Jh b i1 h1 l hl.1 j1 hb) ?_ (n1:=by intro _;simp(disch:=omega) [ah.c,Tc.o,VZ]) (n3:=by intro _;simp(disch:=omega) [ah.c,Tc.o,VZ])
  rintro⟨x2,i2,h2⟩ ⟨g2,j2⟩
  simp only at g2 j2
  simp(disch:=omega) [cur,Tc.o,VZ]
  refine aq (xg x2 g2) ?_ (ha:=by first|rfl|(simp[Tc.c,Head.c,Qc.c,VY] <;>repeat' constructor))
  simp(disch:=omega) [cur,qZ,aY,bh,bk,VZ]
  exact⟨[(true,aG.o {aA with kind:=5,tc:=x2})],by simp[aY,bh,bk,aG.o,aA,bA,fq,ba,aF,gP,aK,bq,ag,bg,bd,bj],{aA with kind:=5,tc:=x2},i2,⟨{FA with kind:=⟨by simp only;omega,by simp only;omega⟩,tc:=g2},j2⟩,rfl,rfl⟩
 ·simp(disch:=omega) [cur,VZ]
  refine dN (ID b i1 h1 l hl j1 hb) ?_ (n1:=by intro _;simp(disch:=omega) [ah.c,Proof.o,VZ]) (n3:=by intro _;simp(disch:=omega) [ah.c,Proof.o,VZ])
  rintro⟨x2,i2,h2⟩ ⟨g2,j2⟩
  simp only at g2 j2
  simp(disch:=omega) [cur,Proof.o,VZ]
  refine aq (na x2 g2) ?_ (ha:=by first|rfl|(simp[Proof.c,Head.c,Qc.c,VY] <;>repeat' constructor))
  simp(disch:=omega) [cur,dX,aY,bh,bk,VZ]
  exact⟨[(true,aG.o {aA with kind:=6,proof:=x2})],by simp[aY,bh,bk,aG.o,aA,bA,fq,ba,aF,gP,aK,bq,ag,bg,bd,bj],{aA with kind:=6,proof:=x2},i2,⟨{FA with kind:=⟨by simp only;omega,by simp only;omega⟩,proof:=g2},j2⟩,rfl,rfl⟩
 ·simp(disch:=omega) [cur,VZ]
  refine ab (fun h5=> ?_) (fun h5=> ?_)
  case refine_2=>
   simp(disch:=omega) [VZ]
   refine dN (uX b i1 h1 l hl.1 j1 hb) ?_ (n1:=by intro _;simp(disch:=omega) [ah.c,bb.o,VZ]) (n3:=by intro _;simp(disch:=omega) [ah.c,bb.o,VZ])
   rintro⟨x2,i2,h2⟩ ⟨⟨g2,g3,g4,g5,g6⟩,j2⟩
   simp only at g2 g3 g4 g5 g6 j2
   have hw:x2.wf:=⟨ig g2,ig g3,by unfold Sz;omega,by have:=c7 g5;have:=hl.1;exact⟨by omega,by omega⟩,by unfold Sz;omega⟩
   simp(disch:=omega) [cur,bb.o,VZ]
   refine aq (fD x2 hw) ?_ (ha:=by first|rfl|(simp[bb.c,VY] <;>repeat' constructor))
   simp(disch:=omega) [cur,el,aY,bh,bk,VZ]
   exact⟨[(true,aG.o {aA with kind:=1,vote:=x2})],by simp[aY,bh,bk,aG.o,aA,bA,fq,ba,aF,gP,aK,bq,ag,bg,bd,bj],{aA with kind:=1,vote:=x2},i2,⟨{FA with kind:=⟨by simp only;omega,by simp only;omega⟩,vote:=hw},j2⟩,rfl,rfl⟩
  simp(disch:=omega) [VZ]
  refine dN (Jk b i1 h1 l hl j1 hb) ?_ (n1:=by intro _;simp(disch:=omega) [ah.c,aW.o,VZ]) (n3:=by intro _;simp(disch:=omega) [ah.c,aW.o,VZ])
  rintro⟨x2,i2,h2⟩ ⟨g2,j2⟩
  simp only at g2 j2
  simp(disch:=omega) [cur,aW.o,VZ]
  refine aq (pL x2 g2.1) ?_ (ha:=by first|rfl|(simp[aW.c,Head.c,Qc.c,VY] <;>repeat' constructor))
  simp(disch:=omega) [cur,fF,aY,bh,bk,VZ]
  exact⟨[(true,aG.o {aA with kind:=7,incl:=x2})],by simp[aY,bh,bk,aG.o,aA,bA,fq,ba,aF,gP,aK,bq,ag,bg,bd,bj],{aA with kind:=7,incl:=x2},i2,⟨{FA with kind:=⟨by simp only;omega,by simp only;omega⟩,incl:=g2.1,tx:=by have:=g2.2;simp only;omega},j2⟩,rfl,rfl⟩
 ·have n0:¬k1=0∧¬k1=1∧¬k1=2∧¬k1=3∧¬k1=4∧¬k1=5:=by omega
  have n1:¬(k1:Int)=0∧¬(k1:Int)=1∧¬(k1:Int)=2∧¬(k1:Int)=3∧¬(k1:Int)=4∧¬(k1:Int)=5:=by omega
  simp(disch:=omega) [cur,n0.1,n0.2.1,n0.2.2.1,n0.2.2.2.1,n0.2.2.2.2.1,n0.2.2.2.2.2,n1.1,n1.2.1,n1.2.2.1,n1.2.2.2.1,n1.2.2.2.2.1,n1.2.2.2.2.2,VZ]
  refine dN (uX b i1 h1 l hl.1 j1 hb) ?_ (n1:=by intro _;simp(disch:=omega) [ah.c,bb.o,VZ]) (n3:=by intro _;simp(disch:=omega) [ah.c,bb.o,VZ])
  rintro⟨x2,i2,h2⟩ ⟨⟨g2,g3,g4,g5,g6⟩,j2⟩
  simp only at g2 g3 g4 g5 g6 j2
  have hw:x2.wf:=⟨ig g2,ig g3,by unfold Sz;omega,by have:=c7 g5;have:=hl.1;exact⟨by omega,by omega⟩,by unfold Sz;omega⟩
  simp(disch:=omega) [cur,bb.o,VZ]
  refine aq (fD x2 hw) ?_ (ha:=by first|rfl|(simp[bb.c,VY] <;>repeat' constructor))
  simp(disch:=omega) [cur,el,aY,bh,bk,VZ]
  exact⟨[(true,aG.o {aA with kind:=1,vote:=x2})],by simp[aY,bh,bk,aG.o,aA,bA,fq,ba,aF,gP,aK,bq,ag,bg,bd,bj],{aA with kind:=1,vote:=x2},i2,⟨{FA with kind:=⟨by simp only;omega,by simp only;omega⟩,vote:=hw},j2⟩,rfl,rfl⟩
end Go.Eng.F
namespace Go.Eng.F
end Go.Eng.F
namespace Go.Eng.F
theorem dF {n:Int} (h:isNum n=true):((n.toNat:Nat):Int)=n∧n.toNat≤1152921504606846975:=by
 have:=c7 h
 omega
theorem At.le {b:Bytes} {a:Nat} {s:Bytes} (h:At b a s) (h0:0 < s.length):a+s.length≤b.length:=by
 rcases h.len with h1|h1
 ·exact h1
 ·rw[h1]at h0;simp at h0
def Cut (b:Bytes) (a:Nat) (s:Bytes):Prop:=a≤b.length∧∃k,k < s.length∧b.drop a=s.take k
theorem Cut.app {b:Bytes} {a:Nat} {s t:Bytes} (h:Cut b a (s++t)):Cut b a s∨(At b a s∧Cut b (a+s.length) t):=by
 obtain⟨h0,k,hk,h⟩:=h
 by_cases hs:k < s.length
 ·exact .inl ⟨h0,k,hs,by rw[h,List.take_append_of_le_length (by omega)]⟩
 ·have e:b.drop a=s++t.take (k - s.length):=by rw[h,List.take_append,List.take_of_length_le (by omega)]
  have hl:=congrArg List.length e
  simp only[List.length_drop,List.length_append,List.length_take]at hl hk
  refine .inr ⟨⟨_,e⟩,by omega,k - s.length,by omega,?_⟩
  rw[←List.drop_drop,e,List.drop_left]
theorem Cut.nil {b:Bytes} {a:Nat} (h:Cut b a []):False:=by
 obtain⟨_,k,hk,_⟩:=h
 simp at hk
theorem Cut.Pq {b:Bytes} {a:Nat} {s:Bytes} (h:Cut b a s):¬a+s.length≤b.length:=by
 obtain⟨h0,k,hk,h⟩:=h
 have hl:=congrArg List.length h
 simp only[List.length_drop,List.length_take]at hl
 omega
theorem C2 {b:Bytes} {r:Rd} (h:r.er=1):(cN b r).2.er=1:=by simp[cN,h]
theorem b4 {r:Rd} {bad:Bool} {c:Nat} (h:r.er=1):(b9 r bad c).er=1:=by simp[b9,h]
theorem eG {b:Bytes} {r:Rd} {n:Int} {c:Nat} (h:r.er=1):(bN b r n c).2.er=1:=b4 (C2 h)
theorem ej {b:Bytes} {r:Rd} {n:Nat} (h:r.er=1):(bY b r n).2.er=1:=by simp[bY,h]
theorem E4 {b:Bytes} {r:Rd} {n:Nat} (h:r.er=1):(dz b r n).2.er=1:=by simp[dz,h]
theorem Ah {α:Type} {f:Rd→α×Rd} {k:Nat} {r:Rd} (h:r.er=1):(dk f k r).2.er=1:=by
 rw[sF (by omega)]
 exact h
theorem O1 {b:Bytes} {k:Nat} {r:Rd} (h:r.er=1):(fW (fun r=>bY b r 32) k r).2.er=1:=by
 rw[Hs (by omega)]
 exact h
theorem da {r:Rd} {c:Nat}:b9 r false c=r:=by simp[b9]
theorem Br {b:Bytes} {l:ah} {r:Rd} (h:r.er=1):(sv b l r).2.er=1:=by
 rw[Fj (by omega)]
 exact h
theorem wZ {b:Bytes} {l:ah} {v:Int} {k:Nat} {bf:Int} {r:Rd} (h:r.er=1):(gY b l v k bf r).2.er=1:=by
 rw[EE (by omega)]
 exact h
theorem P1 (n:Nat):∀(k m j:Nat),j < (aI n).length→k+(aI n).length≤9→gv ((aI n).take j) k m=(0,0,1):=by
 induction n using Nat.strongRecOn with
 |ind n ih=>
 intro k m j hj hk
 cases j with
 |zero=>rfl
 |succ j=>
  by_cases h:n < 128
  ·rw[sA h]at hj
   simp at hj
  ·have e:=FO (n:=n % 128+128) (by omega)
   have hp:=HR (n / 128)
   rw[ss h,List.length_cons]at hj hk
   rw[ss h,List.take_succ_cons,gv,e,if_neg (by omega),if_neg (by omega)]
   exact ih (n / 128) (by omega) (k+1) _ j (by omega) (by omega)
theorem dP {b:Bytes} {a n:Nat} (h:Cut b a (aI n)) (hn:n≤1152921504606846975):(cN b ⟨a,0⟩).2.er=1:=by
 obtain⟨_,k,hk,h⟩:=h
 have h9:=b5 hn
 have e:=P1 n 0 0 k hk (by omega)
 simp[cN,getVar,h,e]
theorem b6 {b:Bytes} {a n:Nat} {N:Int} {c:Nat} (h:At b a (aI n)) (hn:n≤1152921504606846975) (hN:(n:Int) < N):bN b ⟨a,0⟩ N c=(n,⟨a+(aI n).length,0⟩):=by
 have e:decide (N≤(n:Int))=false:=by simp;omega
 simp only[bN,aC h hn,e,da]
theorem eZ {b:Bytes} {a n:Nat} {N:Int} {c:Nat} (h:Cut b a (aI n)) (hn:n≤1152921504606846975):(bN b ⟨a,0⟩ N c).2.er=1:=b4 (dP h hn)
theorem dB {b:Bytes} {a:Nat} {s:Bytes} (h:At b a s) (hn:s.length=32):bY b ⟨a,0⟩ 32=(s,⟨a+s.length,0⟩):=by
 rw[NF h hn (by omega),hn]
theorem iV {b:Bytes} {a:Nat} {s:Bytes} (h:Cut b a s) (hn:s.length=32):(bY b ⟨a,0⟩ 32).2.er=1:=by
 have:=h.Pq
 rw[hn]at this
 simp[bY,d7,this]
theorem vy {b:Bytes} {a m:Nat} {x:Bytes} (h:At b a (eI x)) (hx:x.length≤m) (hm:m≤1152921504606846975):dz b ⟨a,0⟩ m=(x,⟨a+(eI x).length,0⟩):=by
 have hp:=HR x.length
 have hl:=h.le (by simp only[eI,List.length_append];omega)
 unfold eI at h hl⊢
 have e:=aC h.app.1 (by omega)
 simp only[cN,if_true]at e
 have h2:=h.app.2.take
 rw[List.length_append]at hl⊢
 simp only[dz,if_true,eU,e,ne_eq,not_true_eq_false,if_false,if_neg (show ¬m < x.length by omega),d7,if_pos (show a+(aI x.length).length+x.length≤b.length by omega),h2]
 simp only[Nat.add_assoc]
theorem Eh {b:Bytes} {a m:Nat} {x:Bytes} (h:Cut b a (eI x)) (hx:x.length≤m) (hm:m≤1152921504606846975):(dz b ⟨a,0⟩ m).2.er=1:=by
 rcases Cut.app h with h1|⟨p1,h1⟩
 ·have e:=dP h1 (by omega)
  simp only[cN,if_true]at e
  simp[dz,eU,e]
 ·have e:=aC p1 (by omega)
  simp only[cN,if_true]at e
  have:=h1.Pq
  simp only[dz,if_true,eU,e,ne_eq,not_true_eq_false,if_false,if_neg (show ¬m < x.length by omega),d7,if_neg this]
theorem JZ {x:Bytes} {n:Int} (h:dv x n=true):(tJ n).toNat=x.length∧0 < x.length:=by
 simp only[dv,Bool.and_eq_true,decide_eq_true_eq]at h
 have h1:=c7 h.1.1
 have h2:=h.1.2
 have h3:1≤tJ n:=by unfold tJ;split <;>omega
 omega
theorem BI {b:Bytes} {a:Nat} {x:Bytes} {n:Int} (h:At b a x) (hx:dv x n=true):dE b a n=(x,⟨a+x.length,0⟩):=by
 obtain⟨e,h0⟩:=JZ hx
 have hl:=h.le h0
 have h2:=h.take
 simp only[dE,e,d7,if_pos hl,h2,ne_eq,not_true_eq_false,if_false,hx,if_true]
theorem H2 {b:Bytes} {a:Nat} {x:Bytes} {n:Int} (h:Cut b a x) (hx:dv x n=true):(dE b a n).2.er=1:=by
 obtain⟨e,h0⟩:=JZ hx
 have hl:=h.Pq
 simp[dE,e,d7,if_neg hl]
theorem qN {α:Type} {b:Bytes} {f:Rd→α×Rd} {e:α→Bytes}:∀(xs:List α) (a:Nat),(∀x∈xs,∀a,At b a (e x)→f ⟨a,0⟩=(x,⟨a+(e x).length,0⟩))→At b a (xs.map e).flatten→dk f xs.length ⟨a,0⟩=(xs,⟨a+(xs.map e).flatten.length,0⟩)
 | [],a,_,_=>rfl
 |x::xs,a,hf,h=>by
  rw[List.map_cons,List.flatten_cons]at h⊢
  have h1:=hf x (by simp) a h.app.1
  have h2:=qN xs _ (fun y hy=>hf y (by simp[hy])) h.app.2
  rw[List.length_cons,iw rfl,h1]
  simp only[h2,List.length_append,Nat.add_assoc]
theorem sy {α:Type} {b:Bytes} {f:Rd→α×Rd} {e:α→Bytes}:∀(xs:List α) (a:Nat),(∀x∈xs,∀a,At b a (e x)→f ⟨a,0⟩=(x,⟨a+(e x).length,0⟩))→(∀x∈xs,∀a,Cut b a (e x)→(f ⟨a,0⟩).2.er=1)→Cut b a (xs.map e).flatten→(dk f xs.length ⟨a,0⟩).2.er=1
 | [],a,_,_,h=>h.nil.elim
 |x::xs,a,hf,hg,h=>by
  rw[List.map_cons,List.flatten_cons]at h
  rw[List.length_cons,iw rfl]
  rcases h.app with h1|⟨p1,h1⟩
  ·exact Ah (hg x (by simp) a h1)
  ·rw[hf x (by simp) a p1]
   exact sy xs _ (fun y hy=>hf y (by simp[hy])) (fun y hy=>hg y (by simp[hy])) h1
theorem JK {b:Bytes} {xs:List Bytes} {a k:Nat} (h:At b a xs.flatten) (hx:∀x∈xs,x.length=32) (hk:xs.length=k):fW (fun r=>bY b r 32) k ⟨a,0⟩=(xs,⟨a+xs.flatten.length,0⟩):=by
 subst hk
 have h2:=qN (b:=b) (f:=fun r=>bY b r 32) (e:=fun x=>x) xs a (fun x hm a h=>dB h (hx x hm)) (by simpa using h)
 have h3:=ya (b:=b) xs.length ⟨a,0⟩
 rw[h2]at h3
 exact Prod.ext (h3.2 rfl) (by rw[h3.1];simp)
theorem G7 {b:Bytes} {xs:List Bytes} {a k:Nat} (h:Cut b a xs.flatten) (hx:∀x∈xs,x.length=32) (hk:xs.length=k):(fW (fun r=>bY b r 32) k ⟨a,0⟩).2.er=1:=by
 subst hk
 rw[(ya (b:=b) xs.length ⟨a,0⟩).1]
 exact sy (b:=b) (f:=fun r=>bY b r 32) (e:=fun x=>x) xs a (fun x hm a h=>dB h (hx x hm)) (fun x hm a h=>iV h (hx x hm)) (by simpa using h)
theorem LF {b:Bytes} {l:ah} {v:bb} {a:Nat} (hv:ic l v=true) (h:At b a (Ik v)):fo b l ⟨a,0⟩=(v,⟨a+(Ik v).length,0⟩):=by
 have hs:=wu hv
 have h4:v.who < l.n:=by simp only[ic,Bool.and_eq_true]at hv;have:=c7 hv.2;omega
 obtain⟨c1,n1⟩:=dF hs.view
 obtain⟨c2,n2⟩:=dF hs.height
 obtain⟨c3,n3⟩:=dF hs.who
 unfold Ik at h⊢
 obtain⟨p1,h⟩:=h.app
 obtain⟨p2,h⟩:=h.app
 obtain⟨p3,h⟩:=h.app
 obtain⟨p4,p5⟩:=h.app
 simp only[fo,aC p1 n1,aC p2 n2,dB p3 hs.block,b6 (N:=l.n) (c:=5) p4 n3 (by omega),dB p5 hs.tag,c1,c2,c3]
 simp only[List.length_append,Nat.add_assoc]
theorem Kn {b:Bytes} {l:ah} {v:bb} {a:Nat} (hv:ic l v=true) (h:Cut b a (Ik v)):(fo b l ⟨a,0⟩).2.er=1:=by
 have hs:=wu hv
 have h4:v.who < l.n:=by simp only[ic,Bool.and_eq_true]at hv;have:=c7 hv.2;omega
 obtain⟨c1,n1⟩:=dF hs.view
 obtain⟨c2,n2⟩:=dF hs.height
 obtain⟨c3,n3⟩:=dF hs.who
 unfold Ik at h
 rcases h.app with h|⟨p1,h⟩
 ·simp only[fo]
  exact ej (eG (ej (C2 (dP h n1))))
 rcases h.app with h|⟨p2,h⟩
 ·simp only[fo,aC p1 n1]
  exact ej (eG (ej (dP h n2)))
 rcases h.app with h|⟨p3,h⟩
 ·simp only[fo,aC p1 n1,aC p2 n2]
  exact ej (eG (iV h hs.block))
 rcases h.app with h|⟨p4,h⟩
 ·simp only[fo,aC p1 n1,aC p2 n2,dB p3 hs.block]
  exact ej (eZ h n3)
 ·simp only[fo,aC p1 n1,aC p2 n2,dB p3 hs.block,b6 p4 n3 (show((v.who.toNat:Nat):Int) < l.n by omega)]
  exact iV h hs.tag
theorem Mn {l:ah} {q:Qc} (h:eB l q=true):dv q.bits l.n=true∧q.tags.length=(aV q.bits).length:=by
 simp only[eB,Bool.and_eq_true,decide_eq_true_eq]at h
 exact⟨h.1.1.2,h.1.2⟩
theorem IQ {b:Bytes} {l:ah} {q:Qc} {a:Nat} (hq:eB l q=true) (h:At b a (GF q)):sv b l ⟨a,0⟩=(q,⟨a+(GF q).length,0⟩):=by
 have hs:=jA hq
 obtain⟨hb,ht⟩:=Mn hq
 obtain⟨c1,n1⟩:=dF hs.view
 obtain⟨c2,n2⟩:=dF hs.height
 simp only[GF,List.append_assoc]at h⊢
 obtain⟨p1,h⟩:=h.app
 obtain⟨p2,h⟩:=h.app
 obtain⟨p3,h⟩:=h.app
 obtain⟨p4,p5⟩:=h.app
 simp only[sv,aC p1 n1,aC p2 n2,dB p3 hs.block,if_true,BI p4 hb,JK p5 hs.tag ht,c1,c2]
 simp only[List.length_append,Nat.add_assoc]
theorem Gx {b:Bytes} {l:ah} {q:Qc} {a:Nat} (hq:eB l q=true) (h:Cut b a (GF q)):(sv b l ⟨a,0⟩).2.er=1:=by
 have hs:=jA hq
 obtain⟨hb,ht⟩:=Mn hq
 obtain⟨c1,n1⟩:=dF hs.view
 obtain⟨c2,n2⟩:=dF hs.height
 simp only[GF,List.append_assoc]at h
 rcases h.app with h|⟨p1,h⟩
 ·have e:=ej (b:=b) (n:=32) (C2 (b:=b) (dP h n1))
  simp[sv,e]
 rcases h.app with h|⟨p2,h⟩
 ·have e:=ej (b:=b) (n:=32) (dP h n2)
  simp[sv,aC p1 n1,e]
 rcases h.app with h|⟨p3,h⟩
 ·have e:=iV h hs.block
  simp[sv,aC p1 n1,aC p2 n2,e]
 rcases h.app with h|⟨p4,h⟩
 ·simp only[sv,aC p1 n1,aC p2 n2,dB p3 hs.block,if_true]
  exact O1 (H2 h hb)
 ·simp only[sv,aC p1 n1,aC p2 n2,dB p3 hs.block,if_true,BI p4 hb]
  exact G7 h hs.tag ht
theorem xX {l:ah} {h:Head} (w:bx l h=true):isNum h.view=true∧isNum h.height=true∧isNum h.proposer=true∧1≤h.height∧h.proposer < l.n∧h.parent.length=32∧h.root.length=32∧eB l h.qc=true∧fits h=true:=by
 simp only[bx,Bool.and_eq_true]at w
 have h1:=c7 w.1.1.1.1.2
 have h2:=c7 w.1.1.1.2
 have h3:l.ok=true:=by have:=w.1.1.1.1.1.1;simp only[eB,Bool.and_eq_true]at this;exact this.1.1.1.1.1.1
 have h4:=jD h3
 refine⟨w.1.1.1.1.1.2,by simp only[isNum,dK,decide_eq_true_eq];omega,by simp only[isNum,dK,decide_eq_true_eq];omega,h1.1,by omega,gB w.1.1.2,gB w.1.2,w.1.1.1.1.1.1,w.2⟩
theorem iF {b:Bytes} {l:ah} {x:Head} {a:Nat} (hx:bx l x=true) (h:At b a (c5 x)):cH b l ⟨a,0⟩=(x,⟨a+(c5 x).length,0⟩):=by
 obtain⟨w1,w2,w3,w4,w5,w6,w7,w8,w9⟩:=xX hx
 obtain⟨c1,n1⟩:=dF w1
 obtain⟨c2,n2⟩:=dF w2
 obtain⟨c3,n3⟩:=dF w3
 have d0:decide (x.height.toNat=0)=false:=by simp;omega
 simp only[c5,List.append_assoc]at h⊢
 obtain⟨p1,h⟩:=h.app
 obtain⟨p2,h⟩:=h.app
 obtain⟨p3,h⟩:=h.app
 obtain⟨p4,h⟩:=h.app
 obtain⟨p5,p6⟩:=h.app
 have w9':fits ⟨x.view,x.height,x.proposer,x.parent,x.root,x.qc⟩=true:=w9
 simp only[cH,aC p1 n1,aC p2 n2,d0,da,b6 p3 n3 (show((x.proposer.toNat:Nat):Int) < l.n by omega),dB p4 w6,dB p5 w7,IQ w8 p6,c1,c2,c3,w9',Bool.not_true]
 simp only[List.length_append,Nat.add_assoc]
theorem yf {b:Bytes} {l:ah} {x:Head} {a:Nat} (hx:bx l x=true) (h:Cut b a (c5 x)):(cH b l ⟨a,0⟩).2.er=1:=by
 obtain⟨w1,w2,w3,w4,w5,w6,w7,w8,w9⟩:=xX hx
 obtain⟨c1,n1⟩:=dF w1
 obtain⟨c2,n2⟩:=dF w2
 obtain⟨c3,n3⟩:=dF w3
 have d0:decide (x.height.toNat=0)=false:=by simp;omega
 simp only[c5,List.append_assoc]at h
 rcases h.app with h|⟨p1,h⟩
 ·simp only[cH]
  exact b4 (Br (ej (ej (eG (b4 (C2 (dP h n1)))))))
 rcases h.app with h|⟨p2,h⟩
 ·simp only[cH,aC p1 n1]
  exact b4 (Br (ej (ej (eG (b4 (dP h n2))))))
 rcases h.app with h|⟨p3,h⟩
 ·simp only[cH,aC p1 n1,aC p2 n2,d0,da]
  exact b4 (Br (ej (ej (eZ h n3))))
 have e3:=b6 (N:=l.n) (c:=5) p3 n3 (by omega)
 rcases h.app with h|⟨p4,h⟩
 ·simp only[cH,aC p1 n1,aC p2 n2,d0,da,e3]
  exact b4 (Br (ej (iV h w6)))
 rcases h.app with h|⟨p5,h⟩
 ·simp only[cH,aC p1 n1,aC p2 n2,d0,da,e3,dB p4 w6]
  exact b4 (Br (iV h w7))
 ·simp only[cH,aC p1 n1,aC p2 n2,d0,da,e3,dB p4 w6,dB p5 w7]
  exact b4 (Gx w8 h)
theorem ve {l:ah} {x:Block} (h:bo l x=true):bx l x.head=true∧l.ok=true∧(x.txs.length:Int)≤l.txs∧(∀t∈x.txs,t.length≤l.tx.toNat)∧x.head.root=aX x.txs:=by
 simp only[bo,Bool.and_eq_true,decide_eq_true_eq]at h
 have h3:l.ok=true:=by have:=h.1.1.1;simp only[bx,eB,Bool.and_eq_true]at this;exact this.1.1.1.1.1.1.1.1.1.1.1.1
 refine⟨h.1.1.1,h3,h.1.1.2,fun t ht=> ?_,h.2⟩
 have h2:=h.1.2
 simp only[Cm,List.all_eq_true,decide_eq_true_eq]at h2
 have:=h2 t ht
 omega
theorem KO {b:Bytes} {l:ah} {x:Block} {a:Nat} (hx:bo l x=true) (h:At b a (fI x)):dJ b l ⟨a,0⟩=(x,⟨a+(fI x).length,0⟩):=by
 obtain⟨w1,w2,w3,w4,w5⟩:=ve hx
 have hl:=fb w2
 unfold fI at h⊢
 obtain⟨p1,h⟩:=h.app
 obtain⟨p2,p3⟩:=h.app
 have e3:=qN (f:=fun r=>dz b r l.tx.toNat) (e:=eI) x.txs _ (fun t ht a h=>vy h (w4 t ht) (by have:=hl.2.1;omega)) p3
 have d0:decide (x.head.root≠aX x.txs)=false:=by simp[w5]
 simp only[dJ,iF w1 p1,b6 p2 (show x.txs.length≤1152921504606846975 by have:=hl.2.2.1;omega) (show(x.txs.length:Int) < l.txs+1 by omega),e3,d0,da]
 simp only[List.length_append,Nat.add_assoc]
theorem I3 {b:Bytes} {l:ah} {x:Block} {a:Nat} (hx:bo l x=true) (h:Cut b a (fI x)):(dJ b l ⟨a,0⟩).2.er=1:=by
 obtain⟨w1,w2,w3,w4,w5⟩:=ve hx
 have hl:=fb w2
 have n2:x.txs.length≤1152921504606846975:=by have:=hl.2.2.1;omega
 unfold fI at h
 rcases h.app with h|⟨p1,h⟩
 ·simp only[dJ]
  exact b4 (Ah (eG (yf w1 h)))
 rcases h.app with h|⟨p2,h⟩
 ·simp only[dJ,iF w1 p1]
  exact b4 (Ah (eZ h n2))
 ·simp only[dJ,iF w1 p1,b6 (N:=l.txs+1) (c:=3) p2 n2 (by omega)]
  exact b4 (sy (e:=eI) x.txs _ (fun t ht a h=>vy h (w4 t ht) (by have:=hl.2.1;omega)) (fun t ht a h=>Eh h (w4 t ht) (by have:=hl.2.1;omega)) h)
def AS (l:ah) (view:Int):Int→List Entry→Prop
 |_,[]=>True
 |bf,e::es=>((0≤e.who∧e.who < l.n∧bf < e.who)∧(0≤e.high∧e.high < view)∧e.tag.length=32)∧AS l view e.who es
theorem Eo {l:ah} {t:Tc} (h:∀i < t.entries.length,cc l t i=true):∀(es pre:List Entry) (bf:Int),t.entries=pre++es→(pre= []∧bf= -1∨∃d,pre.getLast? =some d∧d.who=bf)→AS l t.view bf es
 | [],_,_,_,_=>trivial
 |e::es,pre,bf,he,hp=>by
  have hi:t.entries[pre.length]? =some e:=by rw[he];simp
  have h1:=h pre.length (by rw[he];simp)
  simp only[cc,hi,Bool.and_eq_true,Bool.or_eq_true,decide_eq_true_eq]at h1
  obtain⟨⟨⟨a1,a2⟩,a3⟩,a4⟩:=h1
  have b1:=c7 a1
  have b2:=c7 a2
  refine⟨⟨⟨by omega,by omega,?_⟩,⟨by omega,by omega⟩,gB a3⟩,Eo h es (pre++ [e]) e.who (by rw[he];simp) (.inr ⟨e,by simp,rfl⟩)⟩
  rcases hp with⟨rfl,rfl⟩|⟨d,hd,rfl⟩
  ·omega
  ·have hn:pre≠ []:=by rintro rfl;simp at hd
   have hpl:0 < pre.length:=List.length_pos_iff.2 hn
   have h2:t.entries[pre.length - 1]? =some d:=by
    rw[he,List.getElem?_append_left (by omega),←List.getLast?_eq_getElem?]
    exact hd
   rw[h2]at a4
   rcases a4 with a4|a4
   ·omega
   ·simpa using a4
theorem EO {l:ah} {t:Tc} (h:gd l t=true):l.ok=true∧isNum t.view=true∧(t.entries.length:Int)≤l.n∧AS l t.view (-1) t.entries:=by
 simp only[gd,Bool.and_eq_true,decide_eq_true_eq,List.all_eq_true,List.mem_range]at h
 exact⟨h.1.1.1,h.1.1.2,h.1.2,Eo h.2 t.entries [] (-1) rfl (.inl ⟨rfl,rfl⟩)⟩
theorem K7 {b:Bytes} {l:ah} {view bf:Int} {e:Entry} {a:Nat} (h1:0≤e.who∧e.who < l.n∧bf < e.who) (h2:0≤e.high∧e.high < view) (hl:l.n≤10) (hv:view≤1152921504606846975):((e.who.toNat:Nat):Int)=e.who∧e.who.toNat≤1152921504606846975∧((e.high.toNat:Nat):Int)=e.high∧e.high.toNat≤1152921504606846975∧decide (e.who≤bf)=false:=by
 refine⟨by omega,by omega,by omega,by omega,by simp;omega⟩
theorem GY {b:Bytes} {l:ah} {view:Int} (hl:l.n≤10) (hv:view≤1152921504606846975):∀(es:List Entry) (bf:Int) (a:Nat),AS l view bf es→At b a (es.map wQ).flatten→gY b l view es.length bf ⟨a,0⟩=(es,⟨a+(es.map wQ).flatten.length,0⟩)
 | [],bf,a,_,_=>rfl
 |e::es,bf,a,⟨⟨h1,h2,h3⟩,hr⟩,h=>by
  obtain⟨c1,n1,c2,n2,d0⟩:=K7 (b:=b) (a:=a) h1 h2 hl hv
  rw[List.map_cons,List.flatten_cons]at h⊢
  obtain⟨hh,hn⟩:=h.app
  unfold wQ at hh
  obtain⟨p1,hh⟩:=hh.app
  obtain⟨p2,p3⟩:=hh.app
  have h4:=GY hl hv es e.who _ hr hn
  simp only[wQ,List.length_append,←Nat.add_assoc]at h4⊢
  rw[List.length_cons,vv rfl]
  simp only[b6 (N:=l.n) (c:=5) p1 n1 (by omega),d0,da,b6 (N:=view) (c:=6) p2 n2 (by omega),dB p3 h3,c1,c2,h4]
theorem EI {b:Bytes} {l:ah} {view:Int} (hl:l.n≤10) (hv:view≤1152921504606846975):∀(es:List Entry) (bf:Int) (a:Nat),AS l view bf es→Cut b a (es.map wQ).flatten→(gY b l view es.length bf ⟨a,0⟩).2.er=1
 | [],bf,a,_,h=>h.nil.elim
 |e::es,bf,a,⟨⟨h1,h2,h3⟩,hr⟩,h=>by
  obtain⟨c1,n1,c2,n2,d0⟩:=K7 (b:=b) (a:=a) h1 h2 hl hv
  rw[List.map_cons,List.flatten_cons]at h
  rw[List.length_cons,vv rfl]
  rcases h.app with h|⟨p,hn⟩
  ·unfold wQ at h
   rcases h.app with h|⟨p1,h⟩
   ·exact wZ (ej (eG (b4 (eZ h n1))))
   have e1:=b6 (N:=l.n) (c:=5) p1 n1 (by omega)
   rcases h.app with h|⟨p2,h⟩
   ·simp only[e1,c1,d0,da]
    exact wZ (ej (eZ h n2))
   ·simp only[e1,c1,d0,da,b6 (N:=view) (c:=6) p2 n2 (by omega)]
    exact wZ (iV h h3)
  ·have hh:=p
   unfold wQ at hh
   obtain⟨p1,hh⟩:=hh.app
   obtain⟨p2,p3⟩:=hh.app
   have h4:=EI hl hv es e.who _ hr hn
   simp only[wQ,List.length_append,←Nat.add_assoc]at h4
   simp only[b6 (N:=l.n) (c:=5) p1 n1 (by omega),d0,da,b6 (N:=view) (c:=6) p2 n2 (by omega),dB p3 h3,c1]
   exact h4
theorem ON {b:Bytes} {l:ah} {t:Tc} {a:Nat} (hx:gd l t=true) (h:At b a (J1 t)):D4 b l ⟨a,0⟩=(t,⟨a+(J1 t).length,0⟩):=by
 obtain⟨w1,w2,w3,w4⟩:=EO hx
 have hl:=fb w1
 obtain⟨c1,n1⟩:=dF w2
 unfold J1 at h⊢
 obtain⟨p1,h⟩:=h.app
 obtain⟨p2,p3⟩:=h.app
 have e3:=GY (l:=l) (view:=t.view) hl.1.2 (by omega) t.entries (-1) _ w4 p3
 simp only[D4,aC p1 n1,b6 p2 (show t.entries.length≤1152921504606846975 by have:=hl.1;omega) (show(t.entries.length:Int) < l.n+1 by omega),c1,e3]
 simp only[List.length_append,Nat.add_assoc]
theorem M3 {b:Bytes} {l:ah} {t:Tc} {a:Nat} (hx:gd l t=true) (h:Cut b a (J1 t)):(D4 b l ⟨a,0⟩).2.er=1:=by
 obtain⟨w1,w2,w3,w4⟩:=EO hx
 have hl:=fb w1
 obtain⟨c1,n1⟩:=dF w2
 have n2:t.entries.length≤1152921504606846975:=by have:=hl.1;omega
 unfold J1 at h
 rcases h.app with h|⟨p1,h⟩
 ·simp only[D4]
  exact wZ (eG (dP h n1))
 rcases h.app with h|⟨p2,h⟩
 ·simp only[D4,aC p1 n1]
  exact wZ (eZ h n2)
 ·simp only[D4,aC p1 n1,b6 (N:=l.n+1) (c:=3) p2 n2 (by omega),c1]
  exact EI hl.1.2 (by omega) t.entries (-1) _ w4 h
theorem uY {l:ah} {p:Proof} (h:cu l p=true):l.ok=true∧(3≤p.heads.length∧(p.heads.length:Int)≤l.heads)∧(∀h∈p.heads,bx l h=true)∧eB l p.qc=true∧l4 p=true:=by
 simp only[cu,Bool.and_eq_true,jn,List.all_eq_true]at h
 have h3:l.ok=true:=by have:=h.1.2;simp only[eB,Bool.and_eq_true]at this;exact this.1.1.1.1.1.1
 have:=c7 h.1.1.1
 exact⟨h3,by omega,h.1.1.2,h.1.2,h.2⟩
theorem Ky {b:Bytes} {l:ah} {p:Proof} {a:Nat} (hx:cu l p=true) (h:At b a (fw p)):dy b l ⟨a,0⟩=(p,⟨a+(fw p).length,0⟩):=by
 obtain⟨w1,w2,w3,w4,w5⟩:=uY hx
 have hl:=fb w1
 unfold fw at h⊢
 obtain⟨p1,h⟩:=h.app
 obtain⟨p2,p3⟩:=h.app
 have e2:=qN (f:=cH b l) (e:=c5) p.heads _ (fun t ht a h=>iF (w3 t ht) h) p2
 have d1:decide (p.heads.length < 3)=false:=by simp;omega
 have d2:decide (l.heads < (p.heads.length:Int))=false:=by simp;omega
 have d3:l4 ⟨p.heads,p.qc⟩=true:=w5
 simp only[dy,aC p1 (show p.heads.length≤1152921504606846975 by have:=hl.2.2.2;omega),d1,d2,da,e2,IQ w4 p3,d3,Bool.not_true]
 simp only[List.length_append,Nat.add_assoc]
theorem Jg {b:Bytes} {l:ah} {p:Proof} {a:Nat} (hx:cu l p=true) (h:Cut b a (fw p)):(dy b l ⟨a,0⟩).2.er=1:=by
 obtain⟨w1,w2,w3,w4,w5⟩:=uY hx
 have hl:=fb w1
 have n1:p.heads.length≤1152921504606846975:=by have:=hl.2.2.2;omega
 have d1:decide (p.heads.length < 3)=false:=by simp;omega
 have d2:decide (l.heads < (p.heads.length:Int))=false:=by simp;omega
 unfold fw at h
 rcases h.app with h|⟨p1,h⟩
 ·simp only[dy]
  exact b4 (Br (Ah (b4 (b4 (dP h n1)))))
 rcases h.app with h|⟨p2,h⟩
 ·simp only[dy,aC p1 n1,d1,d2,da]
  exact b4 (Br (sy (e:=c5) p.heads _ (fun t ht a h=>iF (w3 t ht) h) (fun t ht a h=>yf (w3 t ht) h) h))
 ·have e2:=qN (f:=cH b l) (e:=c5) p.heads _ (fun t ht a h=>iF (w3 t ht) h) p2
  simp only[dy,aC p1 n1,d1,d2,da,e2]
  exact b4 (Gx w4 h)
theorem xQ {l:ah} {x:aW} (h:dV l x=true):l.ok=true∧isNum x.height=true∧(1≤x.n∧x.n≤l.txs)∧(0≤x.idx∧x.idx < x.n)∧(x.tx.length:Int)≤l.tx∧x.path.length=bn x.idx.toNat x.n.toNat∧∀t∈x.path,t.length=32:=by
 simp only[dV,Bool.and_eq_true,decide_eq_true_eq,hashes,List.all_eq_true]at h
 have h1:=c7 h.1.1.1.1.2
 have h2:=c7 h.1.1.1.2
 exact⟨h.1.1.1.1.1.1,h.1.1.1.1.1.2,by omega,by omega,h.1.1.2,h.1.2,fun t ht=>gB (h.2 t ht)⟩
theorem Mq {b:Bytes} {l:ah} {x:aW} {a:Nat} (hx:dV l x=true) (h:At b a (jx x)):fO b l ⟨a,0⟩=(x,⟨a+(jx x).length,0⟩):=by
 obtain⟨w1,w2,w3,w4,w5,w6,w7⟩:=xQ hx
 have hl:=fb w1
 have hl1:=hl.2.1
 have hl2:=hl.2.2.1
 obtain⟨c1,n1⟩:=dF w2
 have c2:((x.n.toNat:Nat):Int)=x.n:=by omega
 have c3:((x.idx.toNat:Nat):Int)=x.idx:=by omega
 unfold jx at h⊢
 obtain⟨p1,h⟩:=h.app
 obtain⟨p2,h⟩:=h.app
 obtain⟨p3,h⟩:=h.app
 obtain⟨p4,p5⟩:=h.app
 have d1:decide (x.n.toNat=0)=false:=by simp;omega
 have d2:decide (l.txs < x.n)=false:=by simp;omega
 have e:d4 b l ⟨a,0⟩=((x.height.toNat,x.n.toNat,x.idx.toNat,x.tx),⟨a+(aI x.height.toNat).length+(aI x.n.toNat).length+(aI x.idx.toNat).length+(eI x.tx).length,0⟩):=by
  simp only[d4,aC p1 n1,aC p2 (show x.n.toNat≤1152921504606846975 by omega),c2,d1,d2,da,b6 (N:=x.n) (c:=5) p3 (show x.idx.toNat≤1152921504606846975 by omega) (by omega),vy p4 (show x.tx.length≤l.tx.toNat by omega) (by omega)]
 simp only[fO,e,if_true,JK p5 w7 w6,c1,c2,c3]
 simp only[List.length_append,Nat.add_assoc]
theorem KE {b:Bytes} {l:ah} {x:aW} {a:Nat} (hx:dV l x=true) (h:Cut b a (jx x)):(fO b l ⟨a,0⟩).2.er=1:=by
 obtain⟨w1,w2,w3,w4,w5,w6,w7⟩:=xQ hx
 have hl:=fb w1
 have hl1:=hl.2.1
 have hl2:=hl.2.2.1
 obtain⟨c1,n1⟩:=dF w2
 have c2:((x.n.toNat:Nat):Int)=x.n:=by omega
 have c3:((x.idx.toNat:Nat):Int)=x.idx:=by omega
 have n2:x.n.toNat≤1152921504606846975:=by omega
 have n3:x.idx.toNat≤1152921504606846975:=by omega
 have d1:decide (x.n.toNat=0)=false:=by simp;omega
 have d2:decide (l.txs < x.n)=false:=by simp;omega
 have key:(d4 b l ⟨a,0⟩).2.er=1→(fO b l ⟨a,0⟩).2.er=1:=fun h=>by simp[fO,h]
 unfold jx at h
 rcases h.app with h|⟨p1,h⟩
 ·refine key ?_
  simp only[d4]
  exact E4 (eG (b4 (b4 (C2 (dP h n1)))))
 rcases h.app with h|⟨p2,h⟩
 ·refine key ?_
  simp only[d4,aC p1 n1]
  exact E4 (eG (b4 (b4 (dP h n2))))
 rcases h.app with h|⟨p3,h⟩
 ·refine key ?_
  simp only[d4,aC p1 n1,aC p2 n2,c2,d1,d2,da]
  exact E4 (eZ h n3)
 have e3:=b6 (N:=x.n) (c:=5) p3 n3 (by omega)
 rcases h.app with h|⟨p4,h⟩
 ·refine key ?_
  simp only[d4,aC p1 n1,aC p2 n2,c2,d1,d2,da,e3]
  exact Eh h (by omega) (by omega)
 ·have e:d4 b l ⟨a,0⟩=((x.height.toNat,x.n.toNat,x.idx.toNat,x.tx),⟨a+(aI x.height.toNat).length+(aI x.n.toNat).length+(aI x.idx.toNat).length+(eI x.tx).length,0⟩):=by
   simp only[d4,aC p1 n1,aC p2 n2,c2,d1,d2,da,e3,vy p4 (show x.tx.length≤l.tx.toNat by omega) (by omega)]
  simp only[fO,e,if_true]
  exact G7 h w7 w6
end Go.Eng.F
namespace Go.Eng.F
theorem At.join {b:Bytes} {a:Nat} {s t:Bytes} (h1:At b a s) (h2:At b (a+s.length) t):At b a (s++t):=by
 obtain⟨u,h1⟩:=h1
 obtain⟨w,h2⟩:=h2
 refine⟨w,?_⟩
 rw[←List.drop_drop,h1,List.drop_left]at h2
 rw[h1,h2,List.append_assoc]
def KF (b:Bytes) (r:Rd) (s:Bytes) (r':Rd):Prop:=r.er=0∧At b r.at_ s∧r'=⟨r.at_+s.length,0⟩
theorem KF.nil {b:Bytes} {r:Rd} (h:r.er=0):KF b r [] r:=⟨h,⟨b.drop r.at_,rfl⟩,by obtain⟨x,y⟩:=r;simp only at h;subst h;rfl⟩
theorem KF.join {b:Bytes} {r r1 r2:Rd} {s t:Bytes} (h1:KF b r s r1) (h2:KF b r1 t r2):KF b r (s++t) r2:=by
 obtain⟨a1,a2,rfl⟩:=h1
 obtain⟨_,b2,rfl⟩:=h2
 exact⟨a1,a2.join b2,by simp only[List.length_append,Nat.add_assoc]⟩
theorem KF.er {b:Bytes} {r r1:Rd} {s:Bytes} (h:KF b r s r1):r1.er=0:=by rw[h.2.2]
theorem JX {x:Bytes} (h:x.length=32):hash x=true:=by simp[hash,h]
theorem KF.len {b:Bytes} {r r':Rd} {s t:Bytes} {n m:Nat} (h:KF b r (s++(aI n++t)) r') (e:m=n):KF b r (s++(aI m++t)) r':=by
 rw[e]
 exact h
end Go.Eng.F
