import Derived.Test.YtanfobggenpcaaaGreatGg
import Derived.Test.YtanfobggenpcaaaGreatGh
set_option maxRecDepth 100000
set_option linter.unusedSimpArgs false
set_option linter.unusedVariables false
namespace Go.Eng.F
theorem Gb (l:List Bytes) (x:Bytes):bI l++ [[.sl (bytes x)]]=bI (l++ [x]):=by simp[bI]
theorem yP (b:Bytes) (a:Nat) (n:Int):(cm b a n).2.wf b∧(cm b a n).1.length≤2:=by
 refine⟨(IF b a n).1,?_⟩
 simp only[cm]
 split
 ·simp
 ·split
  ·exact MG ‹_›
  ·simp
def bB.o (v:bB):List E:= [.p (.int .i64 v.view), .p (.int .i64 v.height), .o true (some (5,1)) (bytes v.block), .p (.int .i64 v.who), .o true (some (5,1)) (bytes v.tag)]
abbrev gW:Nat:=102
def oc:AF:=⟨2,5,[.cell 4 5 true],(.seq (.ops [.i (.lbox 2 (.s 0)), .i (.lal 4 [.int .i64 0, .int .i64 0, .nils, .int .i64 0, .nils])]) (.seq (.ops [qm 5 1,qk 7 165 5,qm 7 1,qk 9 165 7,qm 9 1,qk 11 166 9,qm 11 1,qf 12 2 0,ql 13 2 12 1 false, .i (.call 15 167 false [(.s 11),(.s 13),(qi 5)]),qm 15 1,qk 17 166 15, .i (.bld 17 [.int .i64 0, .int .i64 0, .nils, .int .i64 0, .nils] [(0,1,(.s 6)),(1,1,(.s 8)),(2,1,(.s 10)),(3,1,(.s 14)),(4,1,(.s 16))]),qs 4 4 17 5]) .ret))⟩
theorem zC:cd gW=some oc:=by kernel_rfl
theorem yx (b:Bytes) (l:ah) (r:Rd) (hr:r.wf b) (hb:b.length≤1073741824):VC cd gW (ji [(true,l.c)] 215 (bG b r) []) (fun rs p=>rs= [(true,(f4 b l r).1.o)]∧p= [.pt 215 (bG b (f4 b l r).2)]):=by
 refine ay zC rfl ?_
 simp(disch:=omega) [oc,bG,ah.c,VZ]
 refine dw (bM b r hr hb) ?_
 have w1:=ck hr
 generalize h1:bd b r=s1 at w1⊢
 simp(disch:=omega) [bG,VZ]
 refine dw (bM b s1.2 w1.1 hb) ?_
 have w2:=ck w1.1
 generalize h2:bd b s1.2=s2 at w2⊢
 simp(disch:=omega) [bG,VZ]
 refine dw (cL b s2.2 w2.1 hb) ?_
 have w3:=dI w2.1 32
 generalize h3:bE b s2.2 32=s3 at w3⊢
 simp(disch:=omega) [bG,VZ]
 refine dw (cV b s3.2 l.n 5 w3.1 hb) ?_
 have w4:=cS (n:=l.n) (c:=5) w3.1 (by omega)
 generalize h4:ba b s3.2 l.n 5=s4 at w4⊢
 simp(disch:=omega) [bG,VZ]
 refine dw (cL b s4.2 w4.1 hb) ?_
 have w5:=dI w4.1 32
 generalize h5:bE b s4.2 32=s5 at w5⊢
 simp(disch:=omega) [bG,VZ]
 simp(disch:=omega) [f4,h1,h2,h3,h4,h5,bB.o,bG,VZ]
abbrev jT:Nat:=106
def tq:AF:=⟨2,6,[.cell 4 5 true],(.seq (.ops [.i (.lbox 2 (.s 0)), .i (.lal 4 [.int .i64 0, .int .i64 0, .nils, .nils, .nils])]) (.seq (.ops [qm 6 1,qk 8 165 6,qm 8 1,qk 10 165 8,qm 10 1,qk 12 166 10, .i (.bld 12 [.int .i64 0, .int .i64 0, .nils, .nils, .nils] [(0,1,(.s 7)),(1,1,(.s 9)),(2,1,(.s 11))]), .i (.lal 5 [.int .i64 0, .int .i64 0, .nils, .nils, .nils]),qs 5 5 12 5]) (.seq (.seq (.ops [qm 13 1, .i (.nch 14 (.s 13)),qf 15 14 2, .i (.ldh 16 (.s 15) 1 false), .i (.bin 17 .neq (.s 16) (qi 0))]) (.cond (.s 17) (.seq (.ops [ql 18 5 5 5 true,qs 4 4 18 5]) .ret) .skip)) (.seq (.ops [qm 20 1,qm 21 1,qm 22 1, .i (.nch 23 (.s 22)),qf 24 23 0, .i (.ldh 25 (.s 24) 1 false),qm 26 1, .i (.nch 27 (.s 26)),qf 28 27 1, .i (.ldh 29 (.s 28) 1 false),qf 30 2 0,ql 31 2 30 1 false, .i (.call 33 170 false [(.s 25),(.s 29),(.s 31)]),qm 19 32, .i (.ext 33 (.s 19) 0), .i (.ext 34 (.s 19) 1), .i (.ext 35 (.s 19) 2),qf 36 5 3,qs 5 36 33 1, .i (.nch 37 (.s 20)),qf 38 37 1, .i (.sth (.s 38) (.s 34) 1), .i (.nch 39 (.s 21)),qf 40 39 2, .i (.sth (.s 40) (.s 35) 1)]) (.seq (.seq (.ops [qf 41 5 3,ql 42 5 41 1 false,qk 44 169 42, .i (.mov 44 (qi 0))]) (.block 0 (.loop [53,52,51,50,49,48,47,46,45] (.seq (.ops [qd 45 .lss 44 43]) (.seq (.cond (.s 45) .skip (.exit 0)) (.seq (.block 1 (.ops [qf 46 5 4,ql 47 5 46 1 false,qm 48 1,qk 50 166 48, .i (.lsl 50 1 1 [.nils] [(0,1,(.s 49))]), .i (.app 51 22 1 24 (.s 47) (.s 50)),qf 52 5 4,qs 5 52 51 1])) (.ops [.i (.bin 53 .add (.s 44) (qi 1)),qm 44 53]))))))) (.seq (.ops [ql 54 5 5 5 true,qs 4 4 54 5]) .ret))))))⟩
theorem DX:cd jT=some tq:=by kernel_rfl
theorem el (b:Bytes) (l:ah) (r:Rd) (hl:1≤l.n∧l.n≤10) (hr:r.wf b) (hb:b.length≤1073741824):VC cd jT (ji [(true,l.c)] 215 (bG b r) []) (fun rs p=>rs= [(true,(tI b l r).1.o)]∧p= [.pt 215 (bG b (tI b l r).2)]):=by
 refine VC.xb ?_
 refine ay DX rfl ?_
 simp(disch:=omega) [tq,bG,ah.c,VZ]
 refine dw (bM b r hr hb) ?_
 have w1:=ck hr
 generalize h1:bd b r=s1 at w1⊢
 simp(disch:=omega) [bG,VZ]
 refine dw (bM b s1.2 w1.1 hb) ?_
 have w2:=ck w1.1
 generalize h2:bd b s1.2=s2 at w2⊢
 simp(disch:=omega) [bG,VZ]
 refine dw (cL b s2.2 w2.1 hb) ?_
 have w3:=dI w2.1 32
 generalize h3:bE b s2.2 32=s3 at w3⊢
 simp(disch:=omega) [bG,VZ]
 by_cases g:s3.2.er=0
 case neg=>simp(disch:=omega) [g,tI,h1,h2,h3,Qc.o,bG,a9,bk,bz,ag,bI,VZ]
 simp(disch:=omega) [g,VZ]
 refine ae (zr b s3.2.at_ l.n hl w3.1.1 hb) rfl rfl ?_
 have w4:=yP b s3.2.at_ l.n
 generalize h4:cm b s3.2.at_ l.n=s4 at w4⊢
 simp(disch:=omega) [JE,VZ]
 refine ae (jN s4.1 (by omega)) rfl rfl ?_
 simp(disch:=omega) [VZ]
 refine dQ (σ:=Nat×Nat×List Bytes×Rd) (f0:=_) (by simp(disch:=omega) [VZ];rfl) (dk.yd (s:=5) (k:=5) (i:=4) rfl rfl) (f1:=_) (es0:=_) (by simp(disch:=omega) [VZ];rfl) (by simp(disch:=omega) [VZ];rfl) (fun p=> [(44, .val false [.int .i64 (p.1:Int)]),(5, .box [.int .i64 s1.1, .int .i64 s2.1, .ow 106496 19, .ow 278528 24, .ow 5 p.2.1])]) (fun p=> [(4101, .pt 5 215 [.sl (bytes b), .int .i64 (p.2.2.2.at_:Int), .int .i64 (p.2.2.2.er:Int)]),(5, .sl p.2.1 true true (some (22,1)) (bI p.2.2.1))])
  (fun p g=>(g+p.1=(aS s4.1).length∧p.2.2.1.length=p.1)∧p.2.2.2.wf b∧eY (fun r=>bE b r 32) (aS s4.1).length s4.2=(p.2.2.1++(eY (fun r=>bE b r 32) g p.2.2.2).1,(eY (fun r=>bE b r 32) g p.2.2.2).2)) (0,_,[],s4.2) (aS s4.1).length (by simp(disch:=omega) [VZ];rfl) (by simp(disch:=omega) [bI,bG,VZ]) ⟨⟨by simp,rfl⟩,w4.1,by simp⟩ ?_
 rintro⟨i,v,x,q⟩ nx g0 ⟨⟨hg,h5⟩,h6,h7⟩ P hP
 simp only at hg h5 h6 h7
 have hl:(bI x).length=i:=by rw[aq];exact h5
 simp(disch:=omega) [VZ]
 have hb4:=dA s4.1
 refine ab (fun h8=> ?_) (fun h8=> ?_)
 ·simp(disch:=omega) [bG,VZ]
  refine dw (cL b q h6 hb) ?_
  have w5:=dI h6 32
  obtain⟨g1,rfl⟩:∃g1,g0=g1+1:=⟨g0 - 1,by omega⟩
  simp only[eY]at h7
  generalize h9:bE b q 32=s5 at w5 h7⊢
  simp(disch:=omega) [bG,hl,Gb,VZ]
  refine hP (i+1,_,x++ [s5.1],s5.2) g1 _ _ (by omega) ⟨⟨by simp only;omega,by simp[h5]⟩,w5.1,by rw[h7];simp⟩ (by simp(disch:=omega) [VZ];rfl) (by simp(disch:=omega) [bG,VZ])
 ·obtain rfl:g0=0:=by omega
  simp only[eY,List.append_nil]at h7
  simp(disch:=omega) [tI,h1,h2,h3,h4,g,h7,Qc.o,bG,a9,bk,bz,VZ]
end Go.Eng.F
namespace Go.Eng.F
abbrev lI:Nat:=241
def kc:AF:=⟨1,4,[.tmp 2],(.seq (.ops [.i (.mov 2 (qi 0))]) (.seq (.ops [qm 3 0,qm 4 0, .i (.call 6 97 false [(.s 4),(qi 100)]),qm 6 0, .i (.call 8 97 false [(.s 6),(qi 100000)]), .i (.bsl 8 3 1 11 [.int .i64 0] [(0,1,(qi 0)),(1,1,(qi 1)),(2,1,(qi 127)),(3,1,(qi 128)),(4,1,(qi 300)),(5,1,(qi 16383)),(6,1,(qi 16384)),(7,1,(qi 1152921504606846975)),(8,1,(qi 1152921504606846974)),(9,1,(.s 5)),(10,1,(.s 7))]), .i (.call 10 155 false [(.s 3),(.s 8)]),qm 2 9]) .ret))⟩
theorem xB:cd lI=some kc:=by kernel_rfl
theorem iu (b:Bytes) (i:Nat) (h:Int) (hi:i≤b.length) (hb:b.length≤1073741824):VC cd lI (ji [] 133 (cur b i h) []) (fun r p=>∃x:Int×Nat×Int,(isNum x.1=true∧x.2.1≤b.length)∧r=it x.1∧p= [.pt 133 (cur b x.2.1 x.2.2)]):=by
 refine ay xB rfl ?_
 simp(disch:=omega) [kc,cur,VZ]
 refine dD (aw b i h 100 (by omega) hi hb) ?_
 rintro⟨k1,i1,h1⟩ ⟨g1,j1⟩
 simp only at g1 j1
 simp(disch:=omega) [cur,VZ]
 refine dD (aw b i1 h1 100000 (by omega) j1 hb) ?_
 rintro⟨k2,i2,h2⟩ ⟨g2,j2⟩
 simp only at g2 j2
 simp(disch:=omega) [cur,VZ]
 refine dD (jh b i2 h2 [0,1,127,128,300,16383,16384,1152921504606846975,1152921504606846974,(k1:Int),(k2:Int)] (by simp) (by simp) j2 hb) ?_
 rintro⟨k3,i3,h3⟩ ⟨g3,j3⟩
 simp only at g3 j3
 simp(disch:=omega) [cur,VZ]
 simp only[List.mem_cons,List.not_mem_nil,or_false]at g3
 exact⟨k3,i3,⟨by simp only[isNum,c9,decide_eq_true_eq];omega,j3⟩,rfl,rfl⟩
theorem dr {n:Int} (h:isNum n=true):kM n:=by
 have:=dG h
 exact⟨by omega,by omega⟩
abbrev qt:Nat:=161
def rW:AF:=⟨2,5,[.cell 4 5 true],(.seq (.ops [.i (.lbox 3 (.s 1)), .i (.lal 4 [.int .i64 0, .int .i64 0, .nils, .int .i64 0, .nils])]) (.seq (.ops [qm 5 0,qk 7 241 5,qm 7 0,qk 9 241 7,qm 9 0,qk 11 242 9,qm 11 0,qf 12 3 0,ql 13 3 12 1 false, .i (.call 15 97 false [(.s 11),(.s 13)]),qm 15 0,qk 17 242 15, .i (.bld 17 [.int .i64 0, .int .i64 0, .nils, .int .i64 0, .nils] [(0,1,(.s 6)),(1,1,(.s 8)),(2,1,(.s 10)),(3,1,(.s 14)),(4,1,(.s 16))]),qs 4 4 17 5]) .ret))⟩
theorem Bf:cd qt=some rW:=by kernel_rfl
theorem CZ (b:Bytes) (i:Nat) (h:Int) (l:ah) (hl:1≤l.n∧l.n≤10) (hi:i≤b.length) (hb:b.length≤1073741824):VC cd qt (ji [] 133 (cur b i h) [(true,l.c)]) (fun r p=>∃x:bB×Nat×Int,((isNum x.1.view=true∧isNum x.1.height=true∧x.1.block.length=32∧c9 x.1.who 0 (l.n - 1)=true∧x.1.tag.length=32)∧x.2.1≤b.length)∧r= [(true,x.1.o)]∧p= [.pt 133 (cur b x.2.1 x.2.2)]):=by
 refine ay Bf rfl ?_
 simp(disch:=omega) [rW,cur,ah.c,VZ]
 refine dD (iu b i h hi hb) ?_
 rintro⟨k1,i1,h1⟩ ⟨g1,j1⟩
 simp only at g1 j1
 simp(disch:=omega) [cur,VZ]
 refine dD (iu b i1 h1 j1 hb) ?_
 rintro⟨k2,i2,h2⟩ ⟨g2,j2⟩
 simp only at g2 j2
 simp(disch:=omega) [cur,VZ]
 refine dD (df b i2 h2 j2 hb) ?_
 rintro⟨x3,i3,h3⟩ ⟨g3,j3⟩
 simp only at g3 j3
 obtain⟨m,hm⟩:∃m:Nat,l.n=(m:Int):=⟨l.n.toNat,by omega⟩
 simp(disch:=omega) [cur,hm,VZ]
 refine dD (aw b i3 h3 m (by omega) j3 hb) ?_
 rintro⟨k4,i4,h4⟩ ⟨g4,j4⟩
 simp only at g4 j4
 simp(disch:=omega) [cur,VZ]
 refine dD (df b i4 h4 j4 hb) ?_
 rintro⟨x5,i5,h5⟩ ⟨g5,j5⟩
 simp only at g5 j5
 simp(disch:=omega) [cur,VZ]
 refine⟨⟨k1,k2,x3,k4,x5⟩,i5,⟨⟨g1,g2,g3,by simp only[c9,decide_eq_true_eq];omega,g5⟩,j5⟩,rfl,rfl⟩
abbrev pH:Nat:=317
def rV:AF:=⟨1,4,[.tmp 2],(.seq (.ops [.i (.mov 2 (.c (.val false [.nils])))]) (.seq (.seq (.ops [qm 3 0,qk 5 279 3, .i (.not 5 (.s 4))]) (.cond (.s 5) (.seq (.ops [.i (.mov 2 (.c (.val false [.nils])))]) .ret) .skip)) (.seq (.ops [qm 6 0,qk 8 341 6, .i (.mks 8 5 1 1 [.int .u8 0] (.s 7)),qm 2 8]) .ret)))⟩
theorem CH:cd pH=some rV:=by kernel_rfl
theorem zm (n:Int) (hn:1≤n∧n≤10):VC cd pH (aE [(false,[.int .i64 n])]) (fun rs _=>rs= [(false,[.o true (some (5,1)) (bytes (List.replicate (vS n).toNat 0))])]):=by
 have h1:c9 n 1 10=true:=by simp only[c9,decide_eq_true_eq];omega
 have h2:=wV hn
 have h3:0≤vS n:=by unfold vS;split <;>omega
 refine aa CH rfl ?_
 simp(disch:=omega) [rV,VY]
 refine ao (eX n) ?_
 simp(disch:=omega) [h1,VY]
 refine ao (lv n (by omega) (by omega)) ?_
 have e1:List.replicate (vS n).toNat [D.int .u8 0]=bytes (List.replicate (vS n).toNat 0):=BC _
 simp(disch:=omega) [h3,e1,VY]
theorem Lq (x:Bytes) (j:Nat) (y z:Int):(bytes x).set j [.int .u8 (aH .or .u8 y z)]=bytes (x.set j (b8 ((BitVec.ofInt IntKind.u8.bits y|||BitVec.ofInt IntKind.u8.bits z).toNat:Int))):=gk x j _
abbrev oN:Nat:=265
def pR:AF:=⟨2,5,[.tmp 4],(.seq (.ops [.i (.mov 4 (.c (.val false [.nils])))]) (.seq (.ops [qm 7 1,qk 9 317 7,qm 5 8]) (.seq (.seq (.ops [.i (.mov 6 (qi 0))]) (.block 0 (.loop [29,28,27,26,25,24,23,22,21,20,19,18,17,16,15,14,13,12,11,10,9] (.seq (.seq (.ops [qm 9 6,qm 10 1,qd 11 .lss 9 10]) (.cond (.s 11) .skip (.exit 0))) (.seq (.block 1 (.seq (.ops [qm 14 0, .i (.call 16 135 false [(.s 14),(qi 3)]), .i (.not 16 (.s 15))]) (.cond (.s 16) (.ops [qm 17 5,qm 18 6, .i (.bin 19 .quo (.s 18) (qi 8)),qm 20 5,qm 21 6, .i (.bin 22 .quo (.s 21) (qi 8)), .i (.iad 23 (.s 20) (.s 22) 1), .i (.ldh 24 (.s 23) 1 false),qm 25 6, .i (.bin 26 .rem (.s 25) (qi 8)), .i (.bin 27 .shl (.c (.val false [.int .u8 1])) (.s 26)),qd 28 .or 24 27, .i (.iad 29 (.s 17) (.s 19) 1), .i (.sth (.s 29) (.s 28) 1)]) .skip))) (.ops [qm 12 6, .i (.bin 13 .add (.s 12) (qi 1)),qm 6 13])))))) (.seq (.ops [qm 30 5,qm 4 30]) .ret))))⟩
theorem CO:cd oN=some pR:=by kernel_rfl
theorem I1 (b:Bytes) (i:Nat) (h:Int) (n:Int) (hn:1≤n∧n≤10) (hi:i≤b.length) (hb:b.length≤1073741824):VC cd oN (ji [] 133 (cur b i h) [(false,[.int .i64 n])]) (fun r p=>∃x:Bytes×Nat×Int,(x.1.length≤2∧x.2.1≤b.length)∧r= [(false,[.o true (some (5,1)) (bytes x.1)])]∧p= [.pt 133 (cur b x.2.1 x.2.2)]):=by
 have h2:=wV hn
 have h3:0≤vS n:=by unfold vS;split <;>omega
 refine ay CO rfl ?_
 simp(disch:=omega) [pR,cur,VZ]
 refine ao (zm n hn) ?_
 simp(disch:=omega) [cur,VZ]
 refine de (σ:=Nat×Nat×Nat×Int×Bytes) (f1:=_) (es0:=_) (by simp(disch:=omega) [VZ];rfl) (by simp(disch:=omega) [VZ];rfl) (fun p=> [(6, .val false [.int .i64 (p.1:Int)]),(5, .val false [.ow 81920 p.2.1])]) (fun p=> [(4096, .pt 0 133 [.sl (bytes b), .int .i64 (p.2.2.1:Int), .int .i64 p.2.2.2.1]),(81920, .sl p.2.1 true true (some (5,1)) (bytes p.2.2.2.2))])
  (fun p g=>(g:Int)+p.1=n∧p.2.2.1≤b.length∧(p.2.2.2.2.length:Int)=vS n) (0,_,i,h,List.replicate (vS n).toNat 0) n.toNat (by simp(disch:=omega) [VZ];rfl) (by simp(disch:=omega) [VZ]) ⟨by simp only;omega,hi,by simp;omega⟩ ?_
 rintro⟨m,v,i2,h2',x⟩ nx g ⟨hg,h5,h6⟩ P hP
 simp only at hg h5 h6
 simp(disch:=omega) [VZ]
 refine ab (fun h8=> ?_) (fun h8=> ?_)
 ·simp(disch:=omega) [VZ]
  refine dD (vC b i2 h2' 3 (by omega) h5 hb) ?_
  rintro⟨y,i3,h3'⟩ h9
  simp only at h9
  have hm:m / 8 < x.length:=by unfold vS at h6;split at h6 <;>omega
  cases y with
  |true=>
   simp(disch:=omega) [cur,VZ]
   exact hP (m+1,v,i3,h3',x) (g - 1) _ _ (by omega) ⟨by simp only;omega,h9,h6⟩ (by simp(disch:=omega) [VZ] <;>rfl) (by simp(disch:=omega) [VZ])
  |false=>
   obtain⟨q1,q2,q3,q4⟩:=PW m
   simp(disch:=omega) [cur,J0,L6,q1,q2,q3,q4,cf hm,Lq,VZ]
   exact hP (m+1,v,i3,h3',x.set (m / 8) (b8 (((x[m / 8].toNat % 2 ^ IntKind.u8.bits|||(IntKind.u8.wrap (2 ^ min (m % 8) IntKind.u8.bits) % 2 ^ IntKind.u8.bits).toNat:Nat):Nat):Int))) (g - 1) _ _ (by omega) ⟨by simp only;omega,h9,by simpa using h6⟩ (by simp(disch:=omega) [VZ] <;>rfl) (by simp(disch:=omega) [VZ])
 ·simp(disch:=omega) [cur,VZ]
  exact⟨x,i2,⟨by omega,h5⟩,rfl,rfl⟩
abbrev sy:Nat:=185
def qD:AF:=⟨2,6,[.cell 4 5 true],(.seq (.ops [.i (.lbox 3 (.s 1)), .i (.lal 4 [.int .i64 0, .int .i64 0, .nils, .nils, .nils])]) (.seq (.ops [qm 7 0,qk 9 241 7,qm 9 0,qk 11 241 9,qm 11 0,qk 13 242 11,qm 13 0,qf 14 3 0,ql 15 3 14 1 false, .i (.call 17 265 false [(.s 13),(.s 15)]), .i (.bld 17 [.int .i64 0, .int .i64 0, .nils, .nils, .nils] [(0,1,(.s 8)),(1,1,(.s 10)),(2,1,(.s 12)),(3,1,(.s 16))]), .i (.lal 5 [.int .i64 0, .int .i64 0, .nils, .nils, .nils]),qs 5 5 17 5]) (.seq (.seq (.ops [qf 18 5 3,ql 19 5 18 1 false,qk 21 266 19,qm 6 20]) (.block 0 (.loop [31,30,29,28,27,26,25,24,23,22,21] (.seq (.seq (.ops [qm 21 6, .i (.bin 22 .gtr (.s 21) (qi 0))]) (.cond (.s 22) .skip (.exit 0))) (.seq (.block 1 (.ops [qf 25 5 4,ql 26 5 25 1 false,qm 27 0,qk 29 242 27, .i (.lsl 29 1 1 [.nils] [(0,1,(.s 28))]), .i (.app 30 22 1 24 (.s 26) (.s 29)),qf 31 5 4,qs 5 31 30 1])) (.ops [qm 23 6, .i (.bin 24 .sub (.s 23) (qi 1)),qm 6 24])))))) (.seq (.ops [ql 32 5 5 5 true,qs 4 4 32 5]) .ret))))⟩
theorem Cz:cd sy=some qD:=by kernel_rfl
theorem vA (b:Bytes) (i:Nat) (h:Int) (l:ah) (hl:1≤l.n∧l.n≤10) (hi:i≤b.length) (hb:b.length≤1073741824):VC cd sy (ji [] 133 (cur b i h) [(true,l.c)]) (fun r p=>∃x:Qc×Nat×Int,(IB x.1∧x.2.1≤b.length)∧r= [(true,x.1.o)]∧p= [.pt 133 (cur b x.2.1 x.2.2)]):=by
 refine ay Cz rfl ?_
 simp(disch:=omega) [qD,cur,ah.c,VZ]
 refine dD (iu b i h hi hb) ?_
 rintro⟨k1,i1,h1⟩ ⟨g1,j1⟩
 simp only at g1 j1
 simp(disch:=omega) [cur,VZ]
 refine dD (iu b i1 h1 j1 hb) ?_
 rintro⟨k2,i2,h2⟩ ⟨g2,j2⟩
 simp only at g2 j2
 simp(disch:=omega) [cur,VZ]
 refine dD (df b i2 h2 j2 hb) ?_
 rintro⟨x3,i3,h3⟩ ⟨g3,j3⟩
 simp only at g3 j3
 simp(disch:=omega) [cur,VZ]
 refine dD (I1 b i3 h3 l.n hl j3 hb) ?_
 rintro⟨x4,i4,h4⟩ ⟨g4,j4⟩
 simp only at g4 j4
 simp(disch:=omega) [cur,VZ]
 refine ao (jC x4 (by omega)) ?_
 simp(disch:=omega) [cur,VZ]
 refine dQ (σ:=Nat×Nat×Nat×Int×List Bytes) (f0:=_) (by simp(disch:=omega) [VZ];rfl) (dk.yd (s:=5) (k:=5) (i:=4) rfl rfl) (f1:=_) (es0:=_) (by simp(disch:=omega) [VZ];rfl) (by simp(disch:=omega) [VZ];rfl) (fun p=> [(6, .val false [.int .i64 (p.1:Int)]),(5, .box [.int .i64 k1, .int .i64 k2, .ow 114688 19, .ow 147456 24, .ow 5 p.2.1])]) (fun p=> [(4096, .pt 0 133 [.sl (bytes b), .int .i64 (p.2.2.1:Int), .int .i64 p.2.2.2.1]),(5, .sl p.2.1 true true (some (22,1)) (bI p.2.2.2.2))])
  (fun p g=>g=p.1∧p.2.2.1≤b.length∧p.2.2.2.2.length+p.1=(aS x4).length∧∀t∈p.2.2.2.2,t.length=32) ((aS x4).length,_,i4,h4,[]) (aS x4).length (by simp(disch:=omega) [VZ];rfl) (by simp(disch:=omega) [bI,VZ]) ⟨rfl,j4,by simp,by simp⟩ ?_
 rintro⟨n,v,i5,h5,x⟩ nx g ⟨hg,a5,a6,a7⟩ P hP
 simp only at hg a5 a6 a7
 have hlb:=dA x4
 simp(disch:=omega) [VZ]
 refine ab (fun h8=> ?_) (fun h8=> ?_)
 ·simp(disch:=omega) [VZ]
  refine dD (df b i5 h5 a5 hb) ?_
  rintro⟨y,i6,h6⟩ ⟨g6,j6⟩
  simp only at g6 j6
  have e1:IntKind.i64.wrap ((n:Int) - 1)=((n - 1:Nat):Int):=by rw[GP (by omega) (by omega)];omega
  have hl:(bI x).length=x.length:=aq x
  simp(disch:=omega) [cur,hl,e1,lU,VZ]
  refine hP (n - 1,_,i6,h6,x++ [y]) (g - 1) _ _ (by omega) ⟨by simp only;omega,j6,by simp;omega,fun z hz=> ?_⟩ (by simp(disch:=omega) [VZ];rfl) (by simp(disch:=omega) [VZ])
  rcases List.mem_append.1 hz with hz|hz
  ·exact a7 z hz
  ·simp only[List.mem_singleton]at hz;subst hz;exact g6
 ·simp(disch:=omega) [cur,VZ]
  exact⟨⟨k1,k2,x3,x4,x⟩,i5,⟨⟨g1,g2,g3,g4,by simp only;omega,a7⟩,a5⟩,rfl,rfl⟩
end Go.Eng.F
namespace Go.Eng.F
def OG (n:Int):Prop:=0≤n∧n≤1152921504606846975
def Qc.rd (q:Qc):Prop:=(OG q.view∧OG q.height)∧q.block.length≤32∧q.bits.length≤2∧q.tags.length≤16∧∀t∈q.tags,t.length≤32
theorem ra {n:Nat} (h:n≤1152921504606846975):OG (n:Int):=⟨by omega,by omega⟩
theorem vt {b:Bytes} {l:ah} {r:Rd} (h:r.wf b):(tI b l r).2.wf b∧(tI b l r).1.rd:=by
 have w1:=ck h
 have w2:=ck w1.1
 have w3:=dI w2.1 32
 simp only[tI]
 split
 ·have w4:=yP b (bE b (bd b (bd b r).2).2 32).2.at_ l.n
  have w5:=fun(r:Rd) (hr:r.wf b)=>dI hr 32
  have w6:=Ic (p:=fun t:Bytes=>t.length≤32) (b:=b) (f:=fun r=>bE b r 32) (fun(r:Rd) hr=>⟨(w5 r hr).1,(w5 r hr).2.1⟩)
  refine⟨E7 (fun r hr=>(w5 r hr).1) _ _ w4.1,⟨ra w1.2,ra w2.2⟩,w3.2.1,w4.2,?_,w6 _ _ w4.1⟩
  simp only[vZ]
  have:=dA (cm b (bE b (bd b (bd b r).2).2 32).2.at_ l.n).1
  omega
 ·exact⟨w3.1,⟨ra w1.2,ra w2.2⟩,w3.2.1,by simp,by simp,by simp⟩
def Head.rd (h:Head):Prop:=(OG h.view∧OG h.height∧OG h.proposer)∧h.parent.length≤32∧h.root.length≤32∧h.qc.rd
theorem kr {b:Bytes} {l:ah} {r:Rd} (h:r.wf b):(cY b l r).2.wf b∧(cY b l r).1.rd:=by
 simp only[cY]
 have w1:=ck h
 generalize bd b r=s1 at w1⊢
 have w2:=ck w1.1
 generalize bd b s1.2=s2 at w2⊢
 have w3:=cN (bad:=decide (s2.1=0)) (c:=5) w2.1 (by omega)
 generalize bJ s2.2 (decide (s2.1=0)) 5=s3 at w3⊢
 have w4:=cS (n:=l.n) (c:=5) w3 (by omega)
 generalize ba b s3 l.n 5=s4 at w4⊢
 have w5:=dI w4.1 32
 generalize bE b s4.2 32=s5 at w5⊢
 have w6:=dI w5.1 32
 generalize bE b s5.2 32=s6 at w6⊢
 have w7:=vt (l:=l) w6.1
 generalize tI b l s6.2=s7 at w7⊢
 exact⟨cN w7.1 (by omega),⟨ra w1.2,ra w2.2,ra w4.2⟩,w5.2.1,w6.2.1,w7.2⟩
theorem Im (h:Head) (h1:0≤h.height) (h2:kM h.height):VC cd eE (aE [(true,h.c)]) (fun rs _=>rs=bl (fits h)):=by
 simp only[kM]at h2
 refine aa ic rfl ?_
 simp(disch:=omega) [eG,Head.c,VY]
 refine ab (fun g1=> ?_) (fun g1=> ?_) <;>simp(disch:=omega) [g1,fits,VY]
 refine ab (fun g2=> ?_) (fun g2=> ?_) <;>simp(disch:=omega) [g1,g2,VY]
 refine ae (aD _ _) rfl rfl ?_
 simp(disch:=omega) [g1,g2,VY]
abbrev gZ:Nat:=111
def n9:AF:=⟨2,6,[.cell 4 10 true],(.seq (.ops [.i (.lbox 2 (.s 0)), .i (.lal 4 qz)]) (.seq (.ops [qm 6 1,qk 8 165 6,qm 8 1,qk 10 165 8, .i (.bld 10 qz [(0,1,(.s 7)),(1,1,(.s 9))]), .i (.lal 5 qz),qs 5 5 10 10]) (.seq (.ops [qm 11 1,qf 12 5 1,ql 13 5 12 1 false, .i (.bin 14 .neq (.s 13) (qi 0)), .i (.call 16 172 false [(.s 11),(.s 14),(qi 5)])]) (.seq (.ops [qm 16 1,qf 17 2 0,ql 18 2 17 1 false, .i (.call 20 167 false [(.s 16),(.s 18),(qi 5)]),qf 20 5 2,qs 5 20 19 1]) (.seq (.ops [qm 21 1,qk 23 166 21,qm 23 1,qk 25 166 23,qf 25 5 3,qs 5 25 22 1,qf 26 5 4,qs 5 26 24 1]) (.seq (.ops [ql 27 2 2 5 true,qm 28 1, .i (.call 30 106 false [(.s 27),(.s 28)]),qf 30 5 5,qs 5 30 29 5]) (.seq (.ops [qm 31 1,ql 32 5 5 10 true,qk 34 171 32, .i (.call 35 172 false [(.s 31),(.s 33),(qi 6)])]) (.seq (.ops [ql 35 5 5 10 true,qs 4 4 35 10]) .ret))))))))⟩
theorem Ai:cd gZ=some n9:=by kernel_rfl
theorem gp (b:Bytes) (l:ah) (r:Rd) (hl:1≤l.n∧l.n≤10) (hr:r.wf b) (hb:b.length≤1073741824):VC cd gZ (ji [(true,l.c)] 215 (bG b r) []) (fun rs p=>rs= [(true,(cY b l r).1.o)]∧p= [.pt 215 (bG b (cY b l r).2)]):=by
 refine ay Ai rfl ?_
 simp(disch:=omega) [n9,bG,ah.c,VZ]
 refine dw (bM b r hr hb) ?_
 have w1:=ck hr
 generalize h1:bd b r=s1 at w1⊢
 simp(disch:=omega) [bG,VZ]
 refine dw (bM b s1.2 w1.1 hb) ?_
 have w2:=ck w1.1
 generalize h2:bd b s1.2=s2 at w2⊢
 simp(disch:=omega) [bG,VZ]
 refine dw (aR b s2.2 (!decide (s2.1=0)) 5) ?_
 simp only[Bool.not_not]
 have w3:=cN (bad:=decide (s2.1=0)) (c:=5) w2.1 (by omega)
 generalize h3:bJ s2.2 (decide (s2.1=0)) 5=s3 at w3⊢
 simp(disch:=omega) [bG,VZ]
 refine dw (cV b s3 l.n 5 w3 hb) ?_
 have w4:=cS (n:=l.n) (c:=5) w3 (by omega)
 generalize h4:ba b s3 l.n 5=s4 at w4⊢
 simp(disch:=omega) [bG,VZ]
 refine dw (cL b s4.2 w4.1 hb) ?_
 have w5:=dI w4.1 32
 generalize h5:bE b s4.2 32=s5 at w5⊢
 simp(disch:=omega) [bG,VZ]
 refine dw (cL b s5.2 w5.1 hb) ?_
 have w6:=dI w5.1 32
 generalize h6:bE b s5.2 32=s6 at w6⊢
 simp(disch:=omega) [bG,VZ]
 refine dw (el b l s6.2 hl w6.1 hb) ?_ (n1:=by simp(disch:=omega) [Qc.o,VZ]) (n3:=by simp(disch:=omega) [Qc.o,VZ])
 have w7:=vt (l:=l) w6.1
 generalize h7:tI b l s6.2=s7 at w7⊢
 simp(disch:=omega) [bG,ah.c,Qc.o,VZ]
 have w2':=ra w2.2
 simp only[OG]at w2'
 refine ao (Im ⟨s1.1,s2.1,s4.1,s5.1,s6.1,s7.1⟩ w2'.1 ⟨by simp only;omega,by simp only;omega⟩) ?_ (ha:=by first|rfl|(simp[Head.c,VY] <;>repeat' constructor))
 simp(disch:=omega) [bG,VZ]
 refine dw (aR b s7.2 (fits ⟨s1.1,s2.1,s4.1,s5.1,s6.1,s7.1⟩) 6) ?_
 have w8:=cN (bad:=(!fits ⟨s1.1,s2.1,s4.1,s5.1,s6.1,s7.1⟩)) (c:=6) w7.1 (by omega)
 generalize h8:bJ s7.2 ((!fits ⟨s1.1,s2.1,s4.1,s5.1,s6.1,s7.1⟩)) 6=s8 at w8⊢
 simp(disch:=omega) [bG,VZ]
 simp(disch:=omega) [cY,h1,h2,h3,h4,h5,h6,h7,h8,Head.o,bG,VZ]
end Go.Eng.F
namespace Go.Eng.F
def ah.rd (l:ah):Prop:=(1≤l.n∧l.n≤10)∧(0≤l.tx∧l.tx≤40)∧(0≤l.txs∧l.txs≤8)∧3≤l.heads∧l.heads≤5
theorem fC {l:ah} (h:l.ok=true):l.rd:=by
 simp only[ah.ok,c9,Bool.and_eq_true,decide_eq_true_eq]at h
 exact⟨h.1.1.1.1,h.1.1.1.2,h.1.1.2,h.2⟩
theorem vz {α:Type} {f:Rd→α×Rd}:∀(k:Nat) (r:Rd),(cg f k r).2.er=0→(cg f k r).1.length=k
 |0,r,_=>rfl
 |k+1,r,h=>by
  rw[cg]at h⊢
  split
  ·rename_i g
   rw[if_pos g]at h
   simp only[List.length_cons,vz k _ h]
  ·rename_i g
   rw[if_neg g]at h
   exact absurd h g
theorem iQ {r:Rd} {bad:Bool} {c:Nat} (h:(bJ r bad c).er=0) (hc:c≠0):bad=false:=by
 unfold bJ at h
 split at h
 ·exact absurd h hc
 ·rename_i g
  cases bad
  ·rfl
  ·exact absurd ⟨h,rfl⟩ g
theorem iP {r:Rd} {bad:Bool} {c:Nat} (h:r.er≠0):bJ r bad c=r:=by
 unfold bJ
 rw[if_neg (fun g=>h g.1)]
theorem sH {α:Type} {f:Rd→α×Rd} {k:Nat} {r:Rd} (h:r.er≠0):cg f k r=([],r):=by
 cases k
 ·rfl
 ·rw[cg,if_neg h]
theorem l0 {α:Type} {f:Rd→α×Rd} {k:Nat} {r:Rd} (h:r.er=0):cg f (k+1) r=((f r).1::(cg f k (f r).2).1,(cg f k (f r).2).2):=by
 rw[cg,if_pos h]
theorem mF (b:Bytes) (r:Rd) (m:Int) (h0:0≤m∧m≤1073741824) (hr:r.wf b) (hb:b.length≤1073741824):VC cd eZ (ji [] 215 (bG b r) [(false,[.int .i64 m])]) (fun rs p=>rs= [(false,[.o true (some (5,1)) (bytes (dH b r m.toNat).1)])]∧p= [.pt 215 (bG b (dH b r m.toNat).2)]):=by
 obtain⟨k,rfl⟩:=Int.eq_ofNat_of_zero_le h0.1
 exact C1 b r k (by omega) hr hb
abbrev gh:Nat:=116
def ly:AF:=⟨2,6,[.cell 4 11 true],(.seq (.ops [.i (.lbox 2 (.s 0)), .i (.lal 4 [.int .i64 0, .int .i64 0, .int .i64 0, .nils, .nils, .int .i64 0, .int .i64 0, .nils, .nils, .nils, .nils])]) (.seq (.ops [ql 8 2 2 5 true,qm 9 1, .i (.call 11 111 false [(.s 8),(.s 9)]), .i (.bld 11 [.int .i64 0, .int .i64 0, .int .i64 0, .nils, .nils, .int .i64 0, .int .i64 0, .nils, .nils, .nils, .nils] [(0,10,(.s 10))]), .i (.lal 5 [.int .i64 0, .int .i64 0, .int .i64 0, .nils, .nils, .int .i64 0, .int .i64 0, .nils, .nils, .nils, .nils]),qs 5 5 11 11]) (.seq (.ops [qm 12 1,qf 13 2 2,ql 14 2 13 1 false, .i (.bin 15 .add (.s 14) (qi 1)), .i (.call 17 167 false [(.s 12),(.s 15),(qi 3)]),qm 6 16]) (.seq (.seq (.ops [.i (.mov 7 (qi 0))]) (.block 0 (.loop [37,36,35,34,33,32,31,30,29,28,27,26,25,24,23,22,21,20,19,18,17] (.seq (.seq (.ops [qm 17 7,qm 18 6,qd 19 .lss 17 18,qm 20 19, .g 20 true 22 (.mov 21 (.s 1)), .g 20 true 23 (.nch 22 (.s 21)), .g 20 true 24 (.fad 23 (.s 22) 2), .g 20 true 25 (.ldh 24 (.s 23) 1 false), .g 20 true 26 (.bin 25 .eql (.s 24) (qi 0)), .i (.pick 26 (.s 20) (.s 25) (qb false))]) (.cond (.s 26) .skip (.exit 0))) (.seq (.block 1 (.ops [qf 29 5 10,ql 30 5 29 1 false,qm 31 1,qf 32 2 1,ql 33 2 32 1 false, .i (.call 35 177 false [(.s 31),(.s 33)]), .i (.lsl 35 1 1 [.nils] [(0,1,(.s 34))]), .i (.app 36 22 1 24 (.s 30) (.s 35)),qf 37 5 10,qs 5 37 36 1])) (.ops [qm 27 7, .i (.bin 28 .add (.s 27) (qi 1)),qm 7 28])))))) (.seq (.ops [qm 38 1,qm 39 1, .i (.nch 40 (.s 39)),qf 41 40 2, .i (.ldh 42 (.s 41) 1 false), .i (.bin 43 .neq (.s 42) (qi 0)),qm 44 43, .g 44 false 46 (.fad 45 (.s 5) 0), .g 44 false 47 (.fad 46 (.s 45) 4), .g 44 false 48 (.ldl 47 5 (.s 46) 1 false), .g 44 false 49 (.fad 48 (.s 5) 10), .g 44 false 50 (.ldl 49 5 (.s 48) 1 false), .g 44 false 51 (.call 51 176 false [(.s 49)]), .g 44 false 52 (.call 52 21 false [(.s 47),(.s 50)]), .i (.pick 52 (.s 44) (qb true) (.s 51)), .i (.call 54 172 false [(.s 38),(.s 52),(qi 7)])]) (.seq (.ops [ql 54 5 5 11 true,qs 4 4 54 11]) .ret))))))⟩
theorem yv:cd gh=some ly:=by kernel_rfl
theorem xm (b:Bytes) (l:ah) (r:Rd) (hL:l.rd) (hr:r.wf b) (hb:b.length≤1073741824):VC cd gh (ji [(true,l.c)] 215 (bG b r) []) (fun rs p=>rs= [(true,(dF b l r).1.o)]∧p= [.pt 215 (bG b (dF b l r).2)]):=by
 refine VC.xb ?_
 obtain⟨hl,hx,ht,hh⟩:=hL
 refine ay yv rfl ?_
 simp(disch:=omega) [ly,bG,ah.c,VZ]
 refine dw (gp b l r hl hr hb) ?_ (n1:=by simp(disch:=omega) [Head.o,VZ]) (n3:=by simp(disch:=omega) [Head.o,VZ])
 have w1:=kr (l:=l) hr
 generalize h1:cY b l r=s1 at w1⊢
 simp(disch:=omega) [bG,ah.c,Head.o,VZ]
 refine dw (cV b s1.2 (l.txs+1) 3 w1.1 hb) ?_
 have w2:=cS (n:=(l.txs+1)) (c:=3) w1.1 (by omega)
 generalize h2:ba b s1.2 (l.txs+1) 3=s2 at w2⊢
 simp(disch:=omega) [bG,VZ]
 have hn:s2.2.er=0→(s2.1:Int)≤l.txs:=by
  intro g
  have e:(ba b s1.2 (l.txs+1) 3).2.er=0:=by rw[h2];exact g
  have:=iQ e (by omega)
  simp only[ba]at h2
  rw[show(bd b s1.2).1=s2.1 by rw[←h2]]at this
  simp only[decide_eq_false_iff_not]at this
  omega
 refine dQ (σ:=Nat×Nat×List Bytes×Rd) (f0:=_) (by simp(disch:=omega) [VZ];rfl) (dk.yd (s:=5) (k:=5) (i:=10) rfl rfl) (f1:=_) (es0:=_) (by simp(disch:=omega) [VZ];rfl) (by simp(disch:=omega) [VZ];rfl) (fun p=> [(7, .val false [.int .i64 (p.1:Int)]),(5, .box [.int .i64 s1.1.view, .int .i64 s1.1.height, .int .i64 s1.1.proposer, .ow 98307 12, .ow 98308 13, .int .i64 s1.1.qc.view, .int .i64 s1.1.qc.height, .ow 98311 16, .ow 98312 17, .ow 98313 18, .ow 5 p.2.1])]) (fun p=> [(4101, .pt 5 215 [.sl (bytes b), .int .i64 (p.2.2.2.at_:Int), .int .i64 (p.2.2.2.er:Int)]),(5, .sl p.2.1 true true (some (22,1)) (bI p.2.2.1))])
  (fun p g=>(g+p.1=s2.1∧p.2.2.1.length=p.1)∧(p.2.2.2.er=0→(s2.1:Int)≤l.txs)∧p.2.2.2.wf b∧cg (fun r=>dH b r l.tx.toNat) s2.1 s2.2=(p.2.2.1++(cg (fun r=>dH b r l.tx.toNat) g p.2.2.2).1,(cg (fun r=>dH b r l.tx.toNat) g p.2.2.2).2)) (0,_,[],s2.2) s2.1 (by simp(disch:=omega) [VZ];rfl) (by simp(disch:=omega) [bI,bG,VZ]) ⟨⟨by simp,rfl⟩,hn,w2.1,by simp⟩ ?_
 have hall:∀t∈(cg (fun r=>dH b r l.tx.toNat) s2.1 s2.2).1,t.length≤40:=yu (p:=fun t:Bytes=>t.length≤40) (b:=b) (fun r hr=>⟨(lu hr _).1,Nat.le_trans (lu hr _).2.1 (by omega)⟩) _ _ w2.1
 rintro⟨i,v,x,⟨qa,qe⟩⟩ nx g0 ⟨⟨hg,h5⟩,h10,h6,h7⟩ P hP
 simp only at hg h5 h6 h7 h10
 have hl2:(bI x).length=i:=by rw[aq];exact h5
 by_cases h9:qe=0
 ·subst h9
  by_cases h8:i < s2.1
  ·have h11:=h10 rfl
   simp(disch:=omega) [h8,bG,VZ]
   refine dw (mF b ⟨qa,0⟩ l.tx (by omega) h6 hb) ?_
   have w5:=lu h6 l.tx.toNat
   obtain⟨g1,rfl⟩:∃g1,g0=g1+1:=⟨g0 - 1,by omega⟩
   rw[l0 rfl]at h7
   simp only at h7
   generalize h12:dH b ⟨qa,0⟩ l.tx.toNat=s5 at w5 h7⊢
   simp(disch:=omega) [bG,hl2,Gb,VZ]
   refine hP (i+1,_,x++ [s5.1],s5.2) g1 _ _ (by omega) ⟨⟨by simp only;omega,by simp[h5]⟩,fun _=>h11,w5.1,by rw[h7];simp⟩ (by simp(disch:=omega) [VZ];rfl) (by simp(disch:=omega) [bG,VZ])
  ·obtain rfl:g0=0:=by omega
   simp only[cg,List.append_nil]at h7
   have hx2:∀t∈x,t.length≤1073741823:=fun t ht=>Nat.le_trans (hall t (by rw[h7];exact ht)) (by omega)
   have h11:=h10 rfl
   simp(disch:=omega) [h8,bG,VZ]
   refine ao (kN _ x rfl (by omega) hx2) ?_
   simp(disch:=omega) [VZ]
   refine ao (aD _ _) ?_
   simp(disch:=omega) [bG,VZ]
   refine dw (aR b ⟨qa,0⟩ (decide (s1.1.root=aX x)) 7) ?_
   simp(disch:=omega) [dF,h1,h2,h7,Block.o,bG,a9,bk,bz,VZ]
 ·rw[sH (k:=g0) (r:=⟨qa,qe⟩) h9]at h7
  simp only[List.append_nil]at h7
  by_cases h8:i < s2.1
  ·skip
   have hx2:∀t∈x,t.length≤1073741823:=fun t ht=>Nat.le_trans (hall t (by rw[h7];exact ht)) (by omega)
   simp(disch:=omega) [h8,h9,bG,VZ]
   refine dw (aR b ⟨qa,qe⟩ true 7) ?_
   have h12:∀bad c,bJ ⟨qa,qe⟩ bad c=⟨qa,qe⟩:=fun bad c=>iP h9
   simp(disch:=omega) [dF,h1,h2,h7,Block.o,bG,a9,bk,bz,h12,VZ]
  ·skip
   have hx2:∀t∈x,t.length≤1073741823:=fun t ht=>Nat.le_trans (hall t (by rw[h7];exact ht)) (by omega)
   simp(disch:=omega) [h8,h9,bG,VZ]
   refine dw (aR b ⟨qa,qe⟩ true 7) ?_
   have h12:∀bad c,bJ ⟨qa,qe⟩ bad c=⟨qa,qe⟩:=fun bad c=>iP h9
   simp(disch:=omega) [dF,h1,h2,h7,Block.o,bG,a9,bk,bz,h12,VZ]
end Go.Eng.F
namespace Go.Eng.F
theorem JK (l:List Head) (h:Head):eH l++ [[.int .i64 h.view, .int .i64 h.height, .int .i64 h.proposer, .sl (bytes h.parent), .sl (bytes h.root), .int .i64 h.qc.view, .int .i64 h.qc.height, .sl (bytes h.qc.block), .sl (bytes h.qc.bits), .sl (bI h.qc.tags)]]=eH (l++ [h]):=by simp[eH,Head.c]
theorem JB {b:Bytes} {l:ah} {r:Rd} (h:r.er≠0):(tI b l r).2=r:=by simp[tI,bd,bE,h]
theorem OG.i64 {n:Int} (h:OG n):kM n:=⟨by have:=h.1;omega,by have:=h.2;omega⟩
theorem Qc.rd.wf {q:Qc} (h:q.rd):q.wf:=by
 obtain⟨⟨h1,h2⟩,h3,h4,h5,h6⟩:=h
 refine⟨h1.i64,h2.i64,?_,?_,?_⟩ <;>simp only[Sz] <;>omega
theorem Head.rd.wf {h:Head} (w:h.rd):h.wf:=by
 obtain⟨⟨h1,h2,h3⟩,h4,h5,h6⟩:=w
 refine⟨h1.i64,h2.i64,h3.i64,?_,?_,h6.wf⟩ <;>simp only[Sz] <;>omega
abbrev f9:Nat:=123
def lC:AF:=⟨2,6,[.cell 4 6 true],(.seq (.ops [.i (.lbox 2 (.s 0)), .i (.lal 4 [.nils, .int .i64 0, .int .i64 0, .nils, .nils, .nils])]) (.seq (.ops [.i (.bld 8 [.nils, .int .i64 0, .int .i64 0, .nils, .nils, .nils] []),qm 9 1,qk 11 165 9, .i (.lal 5 [.nils, .int .i64 0, .int .i64 0, .nils, .nils, .nils]),qs 5 5 8 6,qm 6 10]) (.seq (.ops [qm 11 1,qm 12 6, .i (.bin 13 .geq (.s 12) (qi 3)), .i (.call 15 172 false [(.s 11),(.s 13),(qi 5)])]) (.seq (.ops [qm 15 1,qm 16 6,qf 17 2 4,ql 18 2 17 1 false,qd 19 .leq 16 18, .i (.call 21 172 false [(.s 15),(.s 19),(qi 3)])]) (.seq (.seq (.ops [.i (.mov 7 (qi 0))]) (.block 0 (.loop [40,39,38,37,36,35,34,33,32,31,30,29,28,27,26,25,24,23,22,21] (.seq (.seq (.ops [qm 21 7,qm 22 6,qd 23 .lss 21 22,qm 24 23, .g 24 true 26 (.mov 25 (.s 1)), .g 24 true 27 (.nch 26 (.s 25)), .g 24 true 28 (.fad 27 (.s 26) 2), .g 24 true 29 (.ldh 28 (.s 27) 1 false), .g 24 true 30 (.bin 29 .eql (.s 28) (qi 0)), .i (.pick 30 (.s 24) (.s 29) (qb false))]) (.cond (.s 30) .skip (.exit 0))) (.seq (.block 1 (.ops [qf 33 5 0,ql 34 5 33 1 false,ql 35 2 2 5 true,qm 36 1, .i (.call 38 111 false [(.s 35),(.s 36)]), .i (.lsl 38 10 1 qz [(0,10,(.s 37))]), .i (.app 39 45 10 160 (.s 34) (.s 38)),qf 40 5 0,qs 5 40 39 1])) (.ops [qm 31 7, .i (.bin 32 .add (.s 31) (qi 1)),qm 7 32])))))) (.seq (.ops [ql 41 2 2 5 true,qm 42 1, .i (.call 44 106 false [(.s 41),(.s 42)]),qf 44 5 1,qs 5 44 43 5]) (.seq (.ops [qm 45 1,qm 46 1, .i (.nch 47 (.s 46)),qf 48 47 2, .i (.ldh 49 (.s 48) 1 false), .i (.bin 50 .neq (.s 49) (qi 0)),qm 51 50, .g 51 false 53 (.ldl 52 5 (.s 5) 6 true), .g 51 false 54 (.call 54 179 false [(.s 52)]), .i (.pick 54 (.s 51) (qb true) (.s 53)), .i (.call 56 172 false [(.s 45),(.s 54),(qi 6)])]) (.seq (.ops [ql 56 5 5 6 true,qs 4 4 56 6]) .ret))))))))⟩
theorem xS:cd f9=some lC:=by kernel_rfl
theorem wL (b:Bytes) (l:ah) (r:Rd) (hL:l.rd) (hr:r.wf b) (hb:b.length≤1073741824):VC cd f9 (ji [(true,l.c)] 215 (bG b r) []) (fun rs p=>rs= [(true,(dm b l r).1.o)]∧p= [.pt 215 (bG b (dm b l r).2)]):=by
 refine VC.xb ?_
 obtain⟨hl,hx,ht,hh⟩:=hL
 refine ay xS rfl ?_
 simp(disch:=omega) [lC,bG,ah.c,VZ]
 refine dw (bM b r hr hb) ?_
 have w1:=ck hr
 generalize h1:bd b r=s1 at w1⊢
 simp(disch:=omega) [bG,VZ]
 refine dw (aR b s1.2 (decide (3≤(s1.1:Int))) 5) ?_
 have e2:(!decide (3≤(s1.1:Int)))=decide (s1.1 < 3):=by rw[←decide_not,decide_eq_decide];omega
 rw[e2]
 have w2:=cN (bad:=decide (s1.1 < 3)) (c:=5) w1.1 (by omega)
 generalize h2:bJ s1.2 (decide (s1.1 < 3)) 5=s2 at w2⊢
 simp(disch:=omega) [bG,VZ]
 refine dw (aR b s2 (decide ((s1.1:Int)≤l.heads)) 3) ?_
 have e3:(!decide ((s1.1:Int)≤l.heads))=decide (l.heads < (s1.1:Int)):=by rw[←decide_not,decide_eq_decide];omega
 rw[e3]
 have w3:=cN (bad:=decide (l.heads < (s1.1:Int))) (c:=3) w2 (by omega)
 generalize h3:bJ s2 (decide (l.heads < (s1.1:Int))) 3=s3 at w3⊢
 simp(disch:=omega) [bG,VZ]
 have hn:s3.er=0→3≤s1.1∧(s1.1:Int)≤l.heads:=by
  intro g
  have e:=iQ (by rw[h3];exact g) (by omega)
  have g2:s2.er=0:=by
   have:=iP (r:=s2) (bad:=decide (l.heads < (s1.1:Int))) (c:=3)
   rw[h3]at this
   by_cases g3:s2.er=0
   ·exact g3
   ·rw[←this g3];exact g
  have e2:=iQ (by rw[h2];exact g2) (by omega)
  simp only[decide_eq_false_iff_not]at e e2
  omega
 refine dQ (σ:=Nat×Nat×List Head×Rd) (f0:=_) (by simp(disch:=omega) [VZ];rfl) (dk.yd (s:=5) (k:=5) (i:=0) rfl rfl) (f1:=_) (es0:=_) (by simp(disch:=omega) [VZ];rfl) (by simp(disch:=omega) [VZ];rfl) (fun p=> [(7, .val false [.int .i64 (p.1:Int)]),(5, .box [.ow 5 p.2.1, .int .i64 0, .int .i64 0, .nils, .nils, .nils])]) (fun p=> [(4101, .pt 5 215 [.sl (bytes b), .int .i64 (p.2.2.2.at_:Int), .int .i64 (p.2.2.2.er:Int)]),(5, .sl p.2.1 true true (some (45,10)) (eH p.2.2.1))])
  (fun p g=>(g+p.1=s1.1∧p.2.2.1.length=p.1)∧(p.2.2.2.er=0→3≤s1.1∧(s1.1:Int)≤l.heads)∧p.2.2.2.wf b∧cg (cY b l) s1.1 s3=(p.2.2.1++(cg (cY b l) g p.2.2.2).1,(cg (cY b l) g p.2.2.2).2)) (0,_,[],s3) s1.1 (by simp(disch:=omega) [VZ];rfl) (by simp(disch:=omega) [eH,bG,VZ]) ⟨⟨by simp,rfl⟩,hn,w3,by simp⟩ ?_
 have hall:∀t∈(cg (cY b l) s1.1 s3).1,t.rd:=yu (p:=fun t:Head=>t.rd) (b:=b) (fun r hr=>kr hr) _ _ w3
 rintro⟨i,v,x,⟨qa,qe⟩⟩ nx g0 ⟨⟨hg,h5⟩,h10,h6,h7⟩ P hP
 simp only at hg h5 h6 h7 h10
 have hl2:(eH x).length=i:=by rw[cj];exact h5
 by_cases h9:qe=0
 ·subst h9
  by_cases h8:i < s1.1
  ·have h11:=h10 rfl
   simp(disch:=omega) [h8,bG,VZ]
   refine dw (gp b l ⟨qa,0⟩ hl h6 hb) ?_ (n1:=by simp(disch:=omega) [Head.o,VZ]) (n3:=by simp(disch:=omega) [Head.o,VZ])
   have w5:=kr (l:=l) h6
   obtain⟨g1,rfl⟩:∃g1,g0=g1+1:=⟨g0 - 1,by omega⟩
   rw[l0 rfl]at h7
   simp only at h7
   generalize h12:cY b l ⟨qa,0⟩=s5 at w5 h7⊢
   simp(disch:=omega) [bG,hl2,Head.o,JK,VZ]
   refine hP (i+1,_,x++ [s5.1],s5.2) g1 _ _ (by omega) ⟨⟨by simp only;omega,by simp[h5]⟩,fun _=>h11,w5.1,by rw[h7];simp⟩ (by simp(disch:=omega) [VZ];rfl) (by simp(disch:=omega) [bG,VZ])
  ·obtain rfl:g0=0:=by omega
   simp only[cg,List.append_nil]at h7
   have hx2:∀t∈x,t.wf:=fun t ht=>(hall t (by rw[h7];exact ht)).wf
   simp(disch:=omega) [h8,bG,VZ]
   refine dw (el b l ⟨qa,0⟩ hl h6 hb) ?_ (n1:=by simp(disch:=omega) [Qc.o,VZ]) (n3:=by simp(disch:=omega) [Qc.o,VZ])
   have w13:=vt (l:=l) h6
   generalize h13:tI b l ⟨qa,0⟩=s13 at w13⊢
   obtain⟨q2,⟨qa,qe⟩⟩:=s13
   simp only at w13
   simp(disch:=omega) [bG,Qc.o,VZ]
   by_cases h14:qe=0
   ·subst h14
    have h15:3≤x.length:=by have:=h10 rfl;omega
    simp(disch:=omega) [VZ]
    refine ao (EF ⟨x,q2⟩ (by simp only;omega) ⟨⟨by have:=h10 rfl;simp only[Sz];omega,hx2⟩,w13.2.wf⟩) ?_ (ha:=by first|rfl|(simp[Proof.c,VY] <;>repeat' constructor))
    simp(disch:=omega) [bG,VZ]
    refine dw (aR b ⟨qa,0⟩ (oR ⟨x,q2⟩) 6) ?_
    simp(disch:=omega) [dm,h1,h2,h3,h7,h13,Proof.o,bG,a9,bk,bz,VZ]
   ·simp(disch:=omega) [h14,bG,VZ]
    refine dw (aR b ⟨qa,qe⟩ true 6) ?_
    have h12:∀bad c,bJ ⟨qa,qe⟩ bad c=⟨qa,qe⟩:=fun bad c=>iP h14
    simp(disch:=omega) [dm,h1,h2,h3,h7,h13,Proof.o,bG,a9,bk,bz,h12,VZ]
 ·rw[sH (k:=g0) (r:=⟨qa,qe⟩) h9]at h7
  simp only[List.append_nil]at h7
  by_cases h8:i < s1.1
  ·skip
   have hx2:∀t∈x,t.wf:=fun t ht=>(hall t (by rw[h7];exact ht)).wf
   simp(disch:=omega) [h8,h9,bG,VZ]
   refine dw (el b l ⟨qa,qe⟩ hl h6 hb) ?_ (n1:=by simp(disch:=omega) [Qc.o,VZ]) (n3:=by simp(disch:=omega) [Qc.o,VZ])
   have w13:=vt (l:=l) h6
   have h16:=JB (b:=b) (l:=l) (r:=⟨qa,qe⟩) h9
   generalize h13:tI b l ⟨qa,qe⟩=s13 at w13 h16⊢
   obtain⟨q2,q3⟩:=s13
   simp only at w13 h16
   subst h16
   simp(disch:=omega) [bG,Qc.o,h9,VZ]
   refine dw (aR b ⟨qa,qe⟩ true 6) ?_
   have h12:∀bad c,bJ ⟨qa,qe⟩ bad c=⟨qa,qe⟩:=fun bad c=>iP h9
   simp(disch:=omega) [dm,h1,h2,h3,h7,h13,Proof.o,bG,a9,bk,bz,h12,VZ]
  ·skip
   have hx2:∀t∈x,t.wf:=fun t ht=>(hall t (by rw[h7];exact ht)).wf
   simp(disch:=omega) [h8,h9,bG,VZ]
   refine dw (el b l ⟨qa,qe⟩ hl h6 hb) ?_ (n1:=by simp(disch:=omega) [Qc.o,VZ]) (n3:=by simp(disch:=omega) [Qc.o,VZ])
   have w13:=vt (l:=l) h6
   have h16:=JB (b:=b) (l:=l) (r:=⟨qa,qe⟩) h9
   generalize h13:tI b l ⟨qa,qe⟩=s13 at w13 h16⊢
   obtain⟨q2,q3⟩:=s13
   simp only at w13 h16
   subst h16
   simp(disch:=omega) [bG,Qc.o,h9,VZ]
   refine dw (aR b ⟨qa,qe⟩ true 6) ?_
   have h12:∀bad c,bJ ⟨qa,qe⟩ bad c=⟨qa,qe⟩:=fun bad c=>iP h9
   simp(disch:=omega) [dm,h1,h2,h3,h7,h13,Proof.o,bG,a9,bk,bz,h12,VZ]
end Go.Eng.F
namespace Go.Eng.F
def Tc.o (t:Tc):List E:= [.p (.int .i64 t.view), .o true (some (165,3)) (ix t.entries)]
theorem JD (l:List Entry) (w h:Int) (t:Bytes):ix l++ [[.int .i64 w, .int .i64 h, .sl (bytes t)]]=ix (l++ [⟨w,h,t⟩]):=by simp[ix,Entry.c]
theorem yE {b:Bytes} {l:ah} {v:Int} {k:Nat} {bf:Int} {r:Rd} (h:r.er≠0):fA b l v k bf r=([],r):=by
 cases k
 ·rfl
 ·rw[fA,if_neg h]
theorem vD {b:Bytes} {l:ah} {v:Int} {k:Nat} {bf:Int} {r:Rd} (h:r.er=0):fA b l v (k+1) bf r=
 (let w:=ba b r l.n 5
  let h:=ba b (bJ w.2 (decide ((w.1:Int)≤bf)) 6) v 6
  let t:=bE b h.2 32
  (⟨w.1,h.1,t.1⟩::(fA b l v k w.1 t.2).1,(fA b l v k w.1 t.2).2)):=by
 rw[fA,if_pos h]
abbrev jO:Nat:=119
def tz:AF:=⟨2,6,[.cell 4 2 true],(.seq (.ops [.i (.lbox 2 (.s 0)), .i (.lal 4 [.int .i64 0, .nils])]) (.seq (.ops [qm 10 1,qk 12 165 10, .i (.bld 12 [.int .i64 0, .nils] [(0,1,(.s 11))]), .i (.lal 5 [.int .i64 0, .nils]),qs 5 5 12 2]) (.seq (.ops [qm 13 1,qf 14 2 0,ql 15 2 14 1 false, .i (.bin 16 .add (.s 15) (qi 1)), .i (.call 18 167 false [(.s 13),(.s 16),(qi 3)]),qm 6 17, .i (.mov 7 (qi (-1)))]) (.seq (.seq (.ops [.i (.mov 8 (qi 0))]) (.block 0 (.loop [56,55,54,53,52,51,50,49,48,47,46,45,44,43,42,41,40,39,38,37,36,35,34,33,32,31,30,29,28,27,26,25,24,23,22,21,20,19,18,9] (.seq (.seq (.ops [qm 18 8,qm 19 6,qd 20 .lss 18 19,qm 21 20, .g 21 true 23 (.mov 22 (.s 1)), .g 21 true 24 (.nch 23 (.s 22)), .g 21 true 25 (.fad 24 (.s 23) 2), .g 21 true 26 (.ldh 25 (.s 24) 1 false), .g 21 true 27 (.bin 26 .eql (.s 25) (qi 0)), .i (.pick 27 (.s 21) (.s 26) (qb false))]) (.cond (.s 27) .skip (.exit 0))) (.seq (.block 1 (.seq (.ops [qm 30 1,qf 31 2 0,ql 32 2 31 1 false, .i (.call 34 167 false [(.s 30),(.s 32),(qi 5)]), .i (.bld 34 [.int .i64 0, .int .i64 0, .nils] [(0,1,(.s 33))]), .i (.lal 9 [.int .i64 0, .int .i64 0, .nils]),qs 9 9 34 3]) (.seq (.ops [qm 35 1,qf 36 9 0,ql 37 9 36 1 false,qm 38 7,qd 39 .gtr 37 38, .i (.call 41 172 false [(.s 35),(.s 39),(qi 6)])]) (.seq (.ops [qf 41 9 0,ql 42 9 41 1 false,qm 7 42]) (.seq (.ops [qm 43 1,qf 44 5 0,ql 45 5 44 1 false, .i (.call 47 167 false [(.s 43),(.s 45),(qi 6)]),qf 47 9 1,qs 9 47 46 1]) (.seq (.ops [qm 48 1,qk 50 166 48,qf 50 9 2,qs 9 50 49 1]) (.ops [qf 51 5 1,ql 52 5 51 1 false,ql 53 9 9 3 true, .i (.lsl 54 3 1 [.int .i64 0, .int .i64 0, .nils] [(0,3,(.s 53))]), .i (.app 55 165 3 40 (.s 52) (.s 54)),qf 56 5 1,qs 5 56 55 1]))))))) (.ops [qm 28 8, .i (.bin 29 .add (.s 28) (qi 1)),qm 8 29])))))) (.seq (.ops [ql 57 5 5 2 true,qs 4 4 57 2]) .ret)))))⟩
theorem Dh:cd jO=some tz:=by kernel_rfl
theorem CN (b:Bytes) (l:ah) (r:Rd) (hL:l.rd) (hr:r.wf b) (hb:b.length≤1073741824):VC cd jO (ji [(true,l.c)] 215 (bG b r) []) (fun rs p=>rs= [(true,(Dj b l r).1.o)]∧p= [.pt 215 (bG b (Dj b l r).2)]):=by
 refine VC.xb ?_
 obtain⟨hl,hx,ht,hh⟩:=hL
 refine ay Dh rfl ?_
 simp(disch:=omega) [tz,bG,ah.c,VZ]
 refine dw (bM b r hr hb) ?_
 have w1:=ck hr
 generalize h1:bd b r=s1 at w1⊢
 simp(disch:=omega) [bG,VZ]
 refine dw (cV b s1.2 (l.n+1) 3 w1.1 hb) ?_
 have w2:=cS (n:=(l.n+1)) (c:=3) w1.1 (by omega)
 generalize h2:ba b s1.2 (l.n+1) 3=s2 at w2⊢
 simp(disch:=omega) [bG,VZ]
 have hn:s2.2.er=0→(s2.1:Int)≤l.n:=by
  intro g
  have e:(ba b s1.2 (l.n+1) 3).2.er=0:=by rw[h2];exact g
  have:=iQ e (by omega)
  simp only[ba]at h2
  rw[show(bd b s1.2).1=s2.1 by rw[←h2]]at this
  simp only[decide_eq_false_iff_not]at this
  omega
 refine dQ (σ:=Nat×Nat×Int×List Entry×Rd) (f0:=_) (by simp(disch:=omega) [VZ];rfl) (dk.yd (s:=5) (k:=5) (i:=1) rfl rfl) (f1:=_) (es0:=_) (by simp(disch:=omega) [VZ];rfl) (by simp(disch:=omega) [VZ];rfl) (fun p=> [(8, .val false [.int .i64 (p.1:Int)]),(7, .val false [.int .i64 p.2.2.1]),(5, .box [.int .i64 s1.1, .ow 5 p.2.1])]) (fun p=> [(4101, .pt 5 215 [.sl (bytes b), .int .i64 (p.2.2.2.2.at_:Int), .int .i64 (p.2.2.2.2.er:Int)]),(5, .sl p.2.1 true true (some (165,3)) (ix p.2.2.2.1))])
  (fun p g=>(g+p.1=s2.1∧p.2.2.2.1.length=p.1)∧(p.2.2.2.2.er=0→(s2.1:Int)≤l.n)∧p.2.2.2.2.wf b∧(-1≤p.2.2.1∧p.2.2.1≤1152921504606846975)∧fA b l s1.1 s2.1 (-1) s2.2=(p.2.2.2.1++(fA b l s1.1 g p.2.2.1 p.2.2.2.2).1,(fA b l s1.1 g p.2.2.1 p.2.2.2.2).2)) (0,_, -1,[],s2.2) s2.1 (by simp(disch:=omega) [VZ];rfl) (by simp(disch:=omega) [ix,bG,VZ]) ⟨⟨by simp,rfl⟩,hn,w2.1,⟨by simp,by simp⟩,by simp⟩ ?_
 rintro⟨i,v,bf,x,⟨qa,qe⟩⟩ nx g0 ⟨⟨hg,h5⟩,h10,h6,hbf,h7⟩ P hP
 simp only at hg h5 h6 h7 h10 hbf
 have hl2:(ix x).length=i:=by rw[bZ];exact h5
 by_cases h9:qe=0
 ·subst h9
  by_cases h8:i < s2.1
  ·have h11:=h10 rfl
   simp(disch:=omega) [h8,bG,VZ]
   refine dw (cV b ⟨qa,0⟩ l.n 5 h6 hb) ?_
   have w21:=cS (n:=l.n) (c:=5) h6 (by omega)
   generalize h21:ba b ⟨qa,0⟩ l.n 5=s21 at w21⊢
   simp(disch:=omega) [bG,VZ]
   refine dw (aR b s21.2 (decide (bf < (s21.1:Int))) 6) ?_
   have e22:(!decide (bf < (s21.1:Int)))=decide ((s21.1:Int)≤bf):=by rw[←decide_not,decide_eq_decide];omega
   rw[e22]
   have w22:=cN (bad:=decide ((s21.1:Int)≤bf)) (c:=6) w21.1 (by omega)
   generalize h22:bJ s21.2 (decide ((s21.1:Int)≤bf)) 6=s22 at w22⊢
   simp(disch:=omega) [bG,VZ]
   refine dw (cV b s22 (s1.1:Int) 6 w22 hb) ?_
   have w23:=cS (n:=(s1.1:Int)) (c:=6) w22 (by omega)
   generalize h23:ba b s22 (s1.1:Int) 6=s23 at w23⊢
   simp(disch:=omega) [bG,VZ]
   refine dw (cL b s23.2 w23.1 hb) ?_
   have w24:=dI w23.1 32
   generalize h24:bE b s23.2 32=s24 at w24⊢
   simp(disch:=omega) [bG,VZ]
   obtain⟨g1,rfl⟩:∃g1,g0=g1+1:=⟨g0 - 1,by omega⟩
   rw[vD rfl]at h7
   simp only[h21,h22,h23,h24]at h7
   simp(disch:=omega) [bG,hl2,JD,VZ]
   refine hP (i+1,_,(s21.1:Int),x++ [⟨(s21.1:Int),(s23.1:Int),s24.1⟩],s24.2) g1 _ _ (by omega) ⟨⟨by simp only;omega,by simp[h5]⟩,fun _=>h11,w24.1,⟨by simp only;omega,by have:=w21.2;simp only;omega⟩,by rw[h7];simp⟩ (by simp(disch:=omega) [VZ];rfl) (by simp(disch:=omega) [bG,VZ])
  ·obtain rfl:g0=0:=by omega
   simp only[fA,List.append_nil]at h7
   simp(disch:=omega) [h8,Dj,h1,h2,h7,Tc.o,bG,a9,bk,bz,VZ]
 ·rw[yE (k:=g0) (r:=⟨qa,qe⟩) h9]at h7
  simp only[List.append_nil]at h7
  by_cases h8:i < s2.1
  ·simp(disch:=omega) [h8,h9,Dj,h1,h2,h7,Tc.o,bG,a9,bk,bz,VZ]
  ·simp(disch:=omega) [h8,h9,Dj,h1,h2,h7,Tc.o,bG,a9,bk,bz,VZ]
end Go.Eng.F
namespace Go.Eng.F
theorem dL {r:Rd} {bad:Bool} {c:Nat} (h:(bJ r bad c).er=0):r.er=0:=by
 apply Decidable.byContradiction
 intro g
 rw[iP g]at h
 exact g h
theorem JL {b:Bytes} {r:Rd} (h:(bd b r).2.er=0):r.er=0:=by
 apply Decidable.byContradiction
 intro g
 simp[bd,g]at h
theorem N7 {b:Bytes} {r:Rd} {n:Nat} (h:(bE b r n).2.er=0):r.er=0:=by
 apply Decidable.byContradiction
 intro g
 simp[bE,g]at h
theorem Hh {b:Bytes} {r:Rd} {n:Nat} (h:(dH b r n).2.er=0):r.er=0:=by
 apply Decidable.byContradiction
 intro g
 simp[dH,g]at h
theorem Kv {b:Bytes} {l:ah} {r:Rd} (h:(bP b l r).2.er=0):(bP b l r).1.2.2.1 < (bP b l r).1.2.1∧((bP b l r).1.2.1:Int)≤l.txs:=by
 simp only[bP,ba]at h⊢
 have h1:=Hh h
 have h2:=iQ h1 (by omega)
 have h4:=JL (dL h1)
 have h5:=iQ h4 (by omega)
 simp only[decide_eq_false_iff_not]at h2 h5
 omega
theorem Mb {b:Bytes} {k:Nat} {r:Rd} (h:r.er≠0):(eY (fun r=>bE b r 32) k r).2=r:=by
 induction k with
 |zero=>rfl
 |succ k ih=>
  have e:(bE b r 32).2=r:=by simp[bE,h]
  simp only[eY,e,ih]
theorem ES {b:Bytes}:∀(k:Nat) (r:Rd),(eY (fun r=>bE b r 32) k r).2=(cg (fun r=>bE b r 32) k r).2∧((cg (fun r=>bE b r 32) k r).2.er=0→(eY (fun r=>bE b r 32) k r).1=(cg (fun r=>bE b r 32) k r).1)
 |0,r=>⟨rfl,fun _=>rfl⟩
 |k+1,r=>by
  by_cases h:r.er=0
  ·rw[l0 h]
   have:=ES (b:=b) k (bE b r 32).2
   exact⟨this.1,fun g=>by simp only[eY];rw[this.2 g]⟩
  ·rw[sH h,Mb h]
   exact⟨rfl,fun g=>absurd g h⟩
def eO (b:Bytes) (l:ah) (r:Rd):aU×Rd:=
 let i:=bP b l r
 if i.2.er=0 then
  let p:=eY (fun r=>bE b r 32) (bh i.1.2.2.1 i.1.2.1) i.2
  (⟨i.1.1,i.1.2.1,i.1.2.2.1,i.1.2.2.2,p.1⟩,p.2)
 else(⟨i.1.1,i.1.2.1,i.1.2.2.1,i.1.2.2.2,[]⟩,i.2)
abbrev gT:Nat:=127
def my:AF:=⟨2,6,[.cell 4 5 true],(.seq (.ops [.i (.lbox 2 (.s 0)), .i (.lal 4 [.int .i64 0, .int .i64 0, .int .i64 0, .nils, .nils])]) (.seq (.ops [qm 6 1,qk 8 165 6,qm 8 1,qk 10 165 8, .i (.bld 10 [.int .i64 0, .int .i64 0, .int .i64 0, .nils, .nils] [(0,1,(.s 7)),(1,1,(.s 9))]), .i (.lal 5 [.int .i64 0, .int .i64 0, .int .i64 0, .nils, .nils]),qs 5 5 10 5]) (.seq (.ops [qm 11 1,qf 12 5 1,ql 13 5 12 1 false, .i (.bin 14 .gtr (.s 13) (qi 0)), .i (.call 16 172 false [(.s 11),(.s 14),(qi 5)])]) (.seq (.ops [qm 16 1,qf 17 5 1,ql 18 5 17 1 false,qf 19 2 2,ql 20 2 19 1 false,qd 21 .leq 18 20, .i (.call 23 172 false [(.s 16),(.s 21),(qi 3)])]) (.seq (.ops [qm 23 1,qf 24 5 1,ql 25 5 24 1 false, .i (.call 27 167 false [(.s 23),(.s 25),(qi 5)]),qf 27 5 2,qs 5 27 26 1]) (.seq (.ops [qm 28 1,qf 29 2 1,ql 30 2 29 1 false, .i (.call 32 177 false [(.s 28),(.s 30)]),qf 32 5 3,qs 5 32 31 1]) (.seq (.seq (.ops [qm 33 1, .i (.nch 34 (.s 33)),qf 35 34 2, .i (.ldh 36 (.s 35) 1 false), .i (.bin 37 .eql (.s 36) (qi 0))]) (.cond (.s 37) (.seq (.ops [qf 38 5 2,ql 39 5 38 1 false,qf 40 5 1,ql 41 5 40 1 false, .i (.call 43 180 false [(.s 39),(.s 41)]), .i (.mov 43 (qi 0))]) (.block 0 (.loop [52,51,50,49,48,47,46,45,44] (.seq (.ops [qd 44 .lss 43 42]) (.seq (.cond (.s 44) .skip (.exit 0)) (.seq (.block 1 (.ops [qf 45 5 4,ql 46 5 45 1 false,qm 47 1,qk 49 166 47, .i (.lsl 49 1 1 [.nils] [(0,1,(.s 48))]), .i (.app 50 22 1 24 (.s 46) (.s 49)),qf 51 5 4,qs 5 51 50 1])) (.ops [.i (.bin 52 .add (.s 43) (qi 1)),qm 43 52]))))))) .skip)) (.seq (.ops [ql 53 5 5 5 true,qs 4 4 53 5]) .ret))))))))⟩
theorem zw:cd gT=some my:=by kernel_rfl
theorem yn (b:Bytes) (l:ah) (r:Rd) (hL:l.rd) (hr:r.wf b) (hb:b.length≤1073741824):VC cd gT (ji [(true,l.c)] 215 (bG b r) []) (fun rs p=>rs= [(true,(eO b l r).1.o)]∧p= [.pt 215 (bG b (eO b l r).2)]):=by
 refine VC.xb ?_
 obtain⟨hl,hx,ht,hh⟩:=hL
 have hi:=Kv (b:=b) (l:=l) (r:=r)
 refine ay zw rfl ?_
 simp(disch:=omega) [my,bG,ah.c,VZ]
 refine dw (bM b r hr hb) ?_
 have w1:=ck hr
 generalize h1:bd b r=s1 at w1⊢
 simp(disch:=omega) [bG,VZ]
 refine dw (bM b s1.2 w1.1 hb) ?_
 have w2:=ck w1.1
 generalize h2:bd b s1.2=s2 at w2⊢
 simp(disch:=omega) [bG,VZ]
 refine dw (aR b s2.2 (decide (0 < s2.1)) 5) ?_
 have e3:(!decide (0 < s2.1))=decide (s2.1=0):=by rw[←decide_not,decide_eq_decide];omega
 rw[e3]
 have w3:=cN (bad:=decide (s2.1=0)) (c:=5) w2.1 (by omega)
 generalize h3:bJ s2.2 (decide (s2.1=0)) 5=s3 at w3⊢
 simp(disch:=omega) [bG,VZ]
 refine dw (aR b s3 (decide ((s2.1:Int)≤l.txs)) 3) ?_
 have e4:(!decide ((s2.1:Int)≤l.txs))=decide (l.txs < (s2.1:Int)):=by rw[←decide_not,decide_eq_decide];omega
 rw[e4]
 have w4:=cN (bad:=decide (l.txs < (s2.1:Int))) (c:=3) w3 (by omega)
 generalize h4:bJ s3 (decide (l.txs < (s2.1:Int))) 3=s4 at w4⊢
 simp(disch:=omega) [bG,VZ]
 refine dw (cV b s4 (s2.1:Int) 5 w4 hb) ?_
 have w5:=cS (n:=(s2.1:Int)) (c:=5) w4 (by omega)
 generalize h5:ba b s4 (s2.1:Int) 5=s5 at w5⊢
 simp(disch:=omega) [bG,VZ]
 refine dw (mF b s5.2 l.tx (by omega) w5.1 hb) ?_
 have w6:=lu w5.1 l.tx.toNat
 generalize h6:dH b s5.2 l.tx.toNat=s6 at w6⊢
 simp(disch:=omega) [bG,VZ]
 have hi0:bP b l r=((s1.1,s2.1,s5.1,s6.1),s6.2):=by simp only[bP,h1,h2,h3,h4,h5,h6]
 rw[hi0]at hi
 simp only at hi
 by_cases g:s6.2.er=0
 case neg=>simp(disch:=omega) [g,eO,hi0,aU.o,bG,a9,bk,bz,ag,bI,VZ]
 have hi2:=hi g
 have hpl:=cB s2.1 s5.1
 simp(disch:=omega) [g,VZ]
 refine ao (mA s2.1 s5.1 (by omega) (by omega)) ?_
 simp(disch:=omega) [VZ]
 refine dQ (σ:=Nat×Nat×List Bytes×Rd) (f0:=_) (by simp(disch:=omega) [VZ];rfl) (dk.yd (s:=5) (k:=5) (i:=4) rfl rfl) (f1:=_) (es0:=_) (by simp(disch:=omega) [VZ];rfl) (by simp(disch:=omega) [VZ];rfl) (fun p=> [(43, .val false [.int .i64 (p.1:Int)]),(5, .box [.int .i64 s1.1, .int .i64 s2.1, .int .i64 s5.1, .ow 270336 32, .ow 5 p.2.1])]) (fun p=> [(4101, .pt 5 215 [.sl (bytes b), .int .i64 (p.2.2.2.at_:Int), .int .i64 (p.2.2.2.er:Int)]),(5, .sl p.2.1 true true (some (22,1)) (bI p.2.2.1))])
  (fun p g=>(g+p.1=(bh s5.1 s2.1)∧p.2.2.1.length=p.1)∧p.2.2.2.wf b∧eY (fun r=>bE b r 32) (bh s5.1 s2.1) s6.2=(p.2.2.1++(eY (fun r=>bE b r 32) g p.2.2.2).1,(eY (fun r=>bE b r 32) g p.2.2.2).2)) (0,_,[],s6.2) (bh s5.1 s2.1) (by simp(disch:=omega) [VZ];rfl) (by simp(disch:=omega) [bI,bG,g,VZ]) ⟨⟨by simp,rfl⟩,w6.1,by simp⟩ ?_
 rintro⟨i,v,x,q⟩ nx g0 ⟨⟨hg,h5⟩,h6,h7⟩ P hP
 simp only at hg h5 h6 h7
 have hl2:(bI x).length=i:=by rw[aq];exact h5
 simp(disch:=omega) [VZ]
 refine ab (fun h8=> ?_) (fun h8=> ?_)
 ·simp(disch:=omega) [bG,VZ]
  refine dw (cL b q h6 hb) ?_
  have w25:=dI h6 32
  obtain⟨g1,rfl⟩:∃g1,g0=g1+1:=⟨g0 - 1,by omega⟩
  simp only[eY]at h7
  generalize h9:bE b q 32=s25 at w25 h7⊢
  simp(disch:=omega) [bG,hl2,Gb,VZ]
  refine hP (i+1,_,x++ [s25.1],s25.2) g1 _ _ (by omega) ⟨⟨by simp only;omega,by simp[h5]⟩,w25.1,by rw[h7];simp⟩ (by simp(disch:=omega) [VZ];rfl) (by simp(disch:=omega) [bG,VZ])
 ·obtain rfl:g0=0:=by omega
  simp only[eY,List.append_nil]at h7
  simp(disch:=omega) [eO,hi0,g,h7,aU.o,bG,a9,bk,bz,VZ]
end Go.Eng.F
namespace Go.Eng.F
def cp (x:List E) (z:List E) (r:Rd):List (Bool×List E):=if r.er=0 then [(true,x),(false,[.p (.int .i64 (r.at_:Int))]),(false,[.p (.int .i64 0)])]else [(true,z),(false,[.p (.int .i64 0)]),(false,[.p (.int .i64 (r.er:Int))])]
def QM:List E:= [.p (.int .i64 0), .p (.int .i64 0), .p .nils, .p .nils, .p .nils]
def Hf:List E:= [.p (.int .i64 0), .p (.int .i64 0), .p .nils, .p (.int .i64 0), .p .nils]
def HR:List E:= [.p (.int .i64 0), .p (.int .i64 0), .p (.int .i64 0), .p .nils, .p .nils, .p (.int .i64 0), .p (.int .i64 0), .p .nils, .p .nils, .p .nils]
def A9:List E:= [.p (.int .i64 0), .p (.int .i64 0), .p (.int .i64 0), .p .nils, .p .nils, .p (.int .i64 0), .p (.int .i64 0), .p .nils, .p .nils, .p .nils, .p .nils]
def Q1:List E:= [.p (.int .i64 0), .p .nils]
def Bi:List E:= [.p .nils, .p (.int .i64 0), .p (.int .i64 0), .p .nils, .p .nils, .p .nils]
def HG:List E:= [.p (.int .i64 0), .p (.int .i64 0), .p (.int .i64 0), .p .nils, .p .nils]
abbrev fW:Nat:=101
def fY:AF:=⟨4,6,[.cell 8 5 true, .tmp 9, .tmp 10],(.seq (.ops [.i (.lbox 4 (.s 0)), .i (.lal 8 [.int .i64 0, .int .i64 0, .nils, .int .i64 0, .nils]), .i (.mov 9 (qi 0)), .i (.mov 10 (qi 0))]) (.seq (.ops [.i (.lal 11 [.int .i64 0, .int .i64 0, .nils, .int .i64 0, .nils])]) (.seq (.seq (.ops [ql 14 4 4 5 true,qk 16 95 14, .i (.not 16 (.s 15))]) (.cond (.s 16) (.seq (.ops [ql 17 11 11 5 true,qs 8 8 17 5, .i (.mov 9 (qi 0)), .i (.mov 10 (qi 5))]) .ret) .skip)) (.seq (.ops [qm 18 1,qm 19 2, .i (.bld 20 [.nils, .int .i64 0, .int .i64 0] [(0,1,(.s 18)),(1,1,(.s 19))]), .i (.hbox 21 215 (.s 20)),qm 12 21]) (.seq (.ops [qm 22 3,ql 23 4 4 5 true,qm 24 12, .i (.clv 26 false (.s 22) [(.s 23),(.s 24)]), .i (.lal 13 [.int .i64 0, .int .i64 0, .nils, .int .i64 0, .nils]),qs 13 13 25 5]) (.seq (.seq (.ops [qm 26 12, .i (.nch 27 (.s 26)),qf 28 27 2, .i (.ldh 29 (.s 28) 1 false), .i (.bin 30 .neq (.s 29) (qi 0))]) (.cond (.s 30) (.seq (.ops [ql 31 11 11 5 true,qm 32 12, .i (.nch 33 (.s 32)),qf 34 33 2, .i (.ldh 35 (.s 34) 1 false),qs 8 8 31 5, .i (.mov 9 (qi 0)),qm 10 35]) .ret) .skip)) (.seq (.ops [ql 36 13 13 5 true,qm 37 12, .i (.nch 38 (.s 37)),qf 39 38 1, .i (.ldh 40 (.s 39) 1 false),qs 8 8 36 5,qm 9 40, .i (.mov 10 (qi 0))]) .ret)))))))⟩
theorem oF:cd fW=some fY:=by kernel_rfl
theorem oC (b:Bytes) (l:ah) (k:Nat) (hok:l.ok=true) (hk:k≤b.length) (hb:b.length≤1073741824):VC cd fW (aE [(true,l.c),(false,[.sl (bytes b)]),(false,[.int .i64 (k:Int)]),(false,[.fn gW])]) (fun rs _=>rs=cp (f4 b l ⟨k,0⟩).1.o Hf (f4 b l ⟨k,0⟩).2):=by
 have hr:Rd.wf b ⟨k,0⟩:=⟨hk,by simp⟩
 refine aa oF rfl ?_
 simp(disch:=omega) [fY,ah.c,VZ]
 refine ao (aP l) ?_ (ha:=by first|rfl|(simp[ah.c,VY] <;>repeat' constructor))
 simp(disch:=omega) [hok,VZ]
 refine dw (yx b l ⟨k,0⟩ hr hb) ?_ (n1:=by simp(disch:=omega) [bB.o,VZ]) (n3:=by simp(disch:=omega) [bB.o,VZ])
 generalize h1:f4 b l ⟨k,0⟩=s1
 simp(disch:=omega) [bG,bB.o,VZ]
 by_cases g:s1.2.er=0
 ·simp(disch:=omega) [g,cp,bB.o,VZ]
 ·simp(disch:=omega) [g,cp,Hf,VZ]
abbrev ry:Nat:=25
def rU:AF:=⟨3,5,[.cell 6 5 true, .tmp 7, .tmp 8],(.seq (.ops [.i (.lbox 3 (.s 0)), .i (.lal 6 [.int .i64 0, .int .i64 0, .nils, .int .i64 0, .nils]), .i (.mov 7 (qi 0)), .i (.mov 8 (qi 0))]) (.seq (.ops [ql 9 3 3 5 true,qm 10 1,qm 11 2, .i (.call 13 101 false [(.s 9),(.s 10),(.s 11),(.c (.val false [.fn 102]))]), .i (.ext 13 (.s 12) 0), .i (.ext 14 (.s 12) 1), .i (.ext 15 (.s 12) 2),qs 6 6 13 5,qm 7 14,qm 8 15]) .ret))⟩
theorem BG:cd ry=some rU:=by kernel_rfl
theorem zE (b:Bytes) (l:ah) (k:Nat) (hok:l.ok=true) (hk:k≤b.length) (hb:b.length≤1073741824):VC cd ry (aE [(true,l.c),(false,[.sl (bytes b)]),(false,[.int .i64 (k:Int)])]) (fun rs _=>rs=cp (f4 b l ⟨k,0⟩).1.o Hf (f4 b l ⟨k,0⟩).2):=by
 refine aa BG rfl ?_
 simp(disch:=omega) [rU,ah.c,VZ]
 have h0:=oC b l k hok hk hb
 generalize h1:f4 b l ⟨k,0⟩=s1 at h0⊢
 by_cases g:s1.2.er=0
 ·simp only[cp,if_pos g,bB.o]at h0⊢
  refine ao (h0) ?_ (ha:=by first|rfl|(simp[ah.c,VY] <;>repeat' constructor))
  simp(disch:=omega) [VZ]
 ·simp only[cp,if_neg g,Hf]at h0⊢
  refine ao (h0) ?_ (ha:=by first|rfl|(simp[ah.c,VY] <;>repeat' constructor))
  simp(disch:=omega) [VZ]
abbrev hQ:Nat:=105
def ib:AF:=⟨4,6,[.cell 8 5 true, .tmp 9, .tmp 10],(.seq (.ops [.i (.lbox 4 (.s 0)), .i (.lal 8 [.int .i64 0, .int .i64 0, .nils, .nils, .nils]), .i (.mov 9 (qi 0)), .i (.mov 10 (qi 0))]) (.seq (.ops [.i (.lal 11 [.int .i64 0, .int .i64 0, .nils, .nils, .nils])]) (.seq (.seq (.ops [ql 14 4 4 5 true,qk 16 95 14, .i (.not 16 (.s 15))]) (.cond (.s 16) (.seq (.ops [ql 17 11 11 5 true,qs 8 8 17 5, .i (.mov 9 (qi 0)), .i (.mov 10 (qi 5))]) .ret) .skip)) (.seq (.ops [qm 18 1,qm 19 2, .i (.bld 20 [.nils, .int .i64 0, .int .i64 0] [(0,1,(.s 18)),(1,1,(.s 19))]), .i (.hbox 21 215 (.s 20)),qm 12 21]) (.seq (.ops [qm 22 3,ql 23 4 4 5 true,qm 24 12, .i (.clv 26 false (.s 22) [(.s 23),(.s 24)]), .i (.lal 13 [.int .i64 0, .int .i64 0, .nils, .nils, .nils]),qs 13 13 25 5]) (.seq (.seq (.ops [qm 26 12, .i (.nch 27 (.s 26)),qf 28 27 2, .i (.ldh 29 (.s 28) 1 false), .i (.bin 30 .neq (.s 29) (qi 0))]) (.cond (.s 30) (.seq (.ops [ql 31 11 11 5 true,qm 32 12, .i (.nch 33 (.s 32)),qf 34 33 2, .i (.ldh 35 (.s 34) 1 false),qs 8 8 31 5, .i (.mov 9 (qi 0)),qm 10 35]) .ret) .skip)) (.seq (.ops [ql 36 13 13 5 true,qm 37 12, .i (.nch 38 (.s 37)),qf 39 38 1, .i (.ldh 40 (.s 39) 1 false),qs 8 8 36 5,qm 9 40, .i (.mov 10 (qi 0))]) .ret)))))))⟩
theorem tk:cd hQ=some ib:=by kernel_rfl
theorem tg (b:Bytes) (l:ah) (k:Nat) (hok:l.ok=true) (hk:k≤b.length) (hb:b.length≤1073741824):VC cd hQ (aE [(true,l.c),(false,[.sl (bytes b)]),(false,[.int .i64 (k:Int)]),(false,[.fn jT])]) (fun rs _=>rs=cp (tI b l ⟨k,0⟩).1.o QM (tI b l ⟨k,0⟩).2):=by
 have hr:Rd.wf b ⟨k,0⟩:=⟨hk,by simp⟩
 refine aa tk rfl ?_
 simp(disch:=omega) [ib,ah.c,VZ]
 refine ao (aP l) ?_ (ha:=by first|rfl|(simp[ah.c,VY] <;>repeat' constructor))
 simp(disch:=omega) [hok,VZ]
 refine dw (el b l ⟨k,0⟩ (fC hok).1 hr hb) ?_ (n1:=by simp(disch:=omega) [Qc.o,VZ]) (n3:=by simp(disch:=omega) [Qc.o,VZ])
 generalize h1:tI b l ⟨k,0⟩=s1
 simp(disch:=omega) [bG,Qc.o,VZ]
 by_cases g:s1.2.er=0
 ·simp(disch:=omega) [g,cp,Qc.o,VZ]
 ·simp(disch:=omega) [g,cp,QM,VZ]
abbrev wX:Nat:=28
def xf:AF:=⟨3,5,[.cell 6 5 true, .tmp 7, .tmp 8],(.seq (.ops [.i (.lbox 3 (.s 0)), .i (.lal 6 [.int .i64 0, .int .i64 0, .nils, .nils, .nils]), .i (.mov 7 (qi 0)), .i (.mov 8 (qi 0))]) (.seq (.ops [ql 9 3 3 5 true,qm 10 1,qm 11 2, .i (.call 13 105 false [(.s 9),(.s 10),(.s 11),(.c (.val false [.fn 106]))]), .i (.ext 13 (.s 12) 0), .i (.ext 14 (.s 12) 1), .i (.ext 15 (.s 12) 2),qs 6 6 13 5,qm 7 14,qm 8 15]) .ret))⟩
theorem Gz:cd wX=some xf:=by kernel_rfl
theorem DI (b:Bytes) (l:ah) (k:Nat) (hok:l.ok=true) (hk:k≤b.length) (hb:b.length≤1073741824):VC cd wX (aE [(true,l.c),(false,[.sl (bytes b)]),(false,[.int .i64 (k:Int)])]) (fun rs _=>rs=cp (tI b l ⟨k,0⟩).1.o QM (tI b l ⟨k,0⟩).2):=by
 refine aa Gz rfl ?_
 simp(disch:=omega) [xf,ah.c,VZ]
 have h0:=tg b l k hok hk hb
 generalize h1:tI b l ⟨k,0⟩=s1 at h0⊢
 by_cases g:s1.2.er=0
 ·simp only[cp,if_pos g,Qc.o]at h0⊢
  refine ao (h0) ?_ (ha:=by first|rfl|(simp[ah.c,VY] <;>repeat' constructor))
  simp(disch:=omega) [VZ]
 ·simp only[cp,if_neg g,QM]at h0⊢
  refine ao (h0) ?_ (ha:=by first|rfl|(simp[ah.c,VY] <;>repeat' constructor))
  simp(disch:=omega) [VZ]
abbrev f6:Nat:=110
def fX:AF:=⟨4,6,[.cell 8 10 true, .tmp 9, .tmp 10],(.seq (.ops [.i (.lbox 4 (.s 0)), .i (.lal 8 qz), .i (.mov 9 (qi 0)), .i (.mov 10 (qi 0))]) (.seq (.ops [.i (.lal 11 qz)]) (.seq (.seq (.ops [ql 14 4 4 5 true,qk 16 95 14, .i (.not 16 (.s 15))]) (.cond (.s 16) (.seq (.ops [ql 17 11 11 10 true,qs 8 8 17 10, .i (.mov 9 (qi 0)), .i (.mov 10 (qi 5))]) .ret) .skip)) (.seq (.ops [qm 18 1,qm 19 2, .i (.bld 20 [.nils, .int .i64 0, .int .i64 0] [(0,1,(.s 18)),(1,1,(.s 19))]), .i (.hbox 21 215 (.s 20)),qm 12 21]) (.seq (.ops [qm 22 3,ql 23 4 4 5 true,qm 24 12, .i (.clv 26 false (.s 22) [(.s 23),(.s 24)]), .i (.lal 13 qz),qs 13 13 25 10]) (.seq (.seq (.ops [qm 26 12, .i (.nch 27 (.s 26)),qf 28 27 2, .i (.ldh 29 (.s 28) 1 false), .i (.bin 30 .neq (.s 29) (qi 0))]) (.cond (.s 30) (.seq (.ops [ql 31 11 11 10 true,qm 32 12, .i (.nch 33 (.s 32)),qf 34 33 2, .i (.ldh 35 (.s 34) 1 false),qs 8 8 31 10, .i (.mov 9 (qi 0)),qm 10 35]) .ret) .skip)) (.seq (.ops [ql 36 13 13 10 true,qm 37 12, .i (.nch 38 (.s 37)),qf 39 38 1, .i (.ldh 40 (.s 39) 1 false),qs 8 8 36 10,qm 9 40, .i (.mov 10 (qi 0))]) .ret)))))))⟩
theorem oA:cd f6=some fX:=by kernel_rfl
theorem oD (b:Bytes) (l:ah) (k:Nat) (hok:l.ok=true) (hk:k≤b.length) (hb:b.length≤1073741824):VC cd f6 (aE [(true,l.c),(false,[.sl (bytes b)]),(false,[.int .i64 (k:Int)]),(false,[.fn gZ])]) (fun rs _=>rs=cp (cY b l ⟨k,0⟩).1.o HR (cY b l ⟨k,0⟩).2):=by
 have hr:Rd.wf b ⟨k,0⟩:=⟨hk,by simp⟩
 refine aa oA rfl ?_
 simp(disch:=omega) [fX,ah.c,VZ]
 refine ao (aP l) ?_ (ha:=by first|rfl|(simp[ah.c,VY] <;>repeat' constructor))
 simp(disch:=omega) [hok,VZ]
 refine dw (gp b l ⟨k,0⟩ (fC hok).1 hr hb) ?_ (n1:=by simp(disch:=omega) [Head.o,VZ]) (n3:=by simp(disch:=omega) [Head.o,VZ])
 generalize h1:cY b l ⟨k,0⟩=s1
 simp(disch:=omega) [bG,Head.o,VZ]
 by_cases g:s1.2.er=0
 ·simp(disch:=omega) [g,cp,Head.o,VZ]
 ·simp(disch:=omega) [g,cp,HR,VZ]
abbrev o8:Nat:=31
def qE:AF:=⟨3,5,[.cell 6 10 true, .tmp 7, .tmp 8],(.seq (.ops [.i (.lbox 3 (.s 0)), .i (.lal 6 qz), .i (.mov 7 (qi 0)), .i (.mov 8 (qi 0))]) (.seq (.ops [ql 9 3 3 5 true,qm 10 1,qm 11 2, .i (.call 13 110 false [(.s 9),(.s 10),(.s 11),(.c (.val false [.fn 111]))]), .i (.ext 13 (.s 12) 0), .i (.ext 14 (.s 12) 1), .i (.ext 15 (.s 12) 2),qs 6 6 13 10,qm 7 14,qm 8 15]) .ret))⟩
theorem AM:cd o8=some qE:=by kernel_rfl
theorem zh (b:Bytes) (l:ah) (k:Nat) (hok:l.ok=true) (hk:k≤b.length) (hb:b.length≤1073741824):VC cd o8 (aE [(true,l.c),(false,[.sl (bytes b)]),(false,[.int .i64 (k:Int)])]) (fun rs _=>rs=cp (cY b l ⟨k,0⟩).1.o HR (cY b l ⟨k,0⟩).2):=by
 refine aa AM rfl ?_
 simp(disch:=omega) [qE,ah.c,VZ]
 have h0:=oD b l k hok hk hb
 generalize h1:cY b l ⟨k,0⟩=s1 at h0⊢
 by_cases g:s1.2.er=0
 ·simp only[cp,if_pos g,Head.o]at h0⊢
  refine ao (h0) ?_ (ha:=by first|rfl|(simp[ah.c,VY] <;>repeat' constructor))
  simp(disch:=omega) [VZ]
 ·simp only[cp,if_neg g,HR]at h0⊢
  refine ao (h0) ?_ (ha:=by first|rfl|(simp[ah.c,VY] <;>repeat' constructor))
  simp(disch:=omega) [VZ]
abbrev fx:Nat:=115
def fI:AF:=⟨4,6,[.cell 8 11 true, .tmp 9, .tmp 10],(.seq (.ops [.i (.lbox 4 (.s 0)), .i (.lal 8 [.int .i64 0, .int .i64 0, .int .i64 0, .nils, .nils, .int .i64 0, .int .i64 0, .nils, .nils, .nils, .nils]), .i (.mov 9 (qi 0)), .i (.mov 10 (qi 0))]) (.seq (.ops [.i (.lal 11 [.int .i64 0, .int .i64 0, .int .i64 0, .nils, .nils, .int .i64 0, .int .i64 0, .nils, .nils, .nils, .nils])]) (.seq (.seq (.ops [ql 14 4 4 5 true,qk 16 95 14, .i (.not 16 (.s 15))]) (.cond (.s 16) (.seq (.ops [ql 17 11 11 11 true,qs 8 8 17 11, .i (.mov 9 (qi 0)), .i (.mov 10 (qi 5))]) .ret) .skip)) (.seq (.ops [qm 18 1,qm 19 2, .i (.bld 20 [.nils, .int .i64 0, .int .i64 0] [(0,1,(.s 18)),(1,1,(.s 19))]), .i (.hbox 21 215 (.s 20)),qm 12 21]) (.seq (.ops [qm 22 3,ql 23 4 4 5 true,qm 24 12, .i (.clv 26 false (.s 22) [(.s 23),(.s 24)]), .i (.lal 13 [.int .i64 0, .int .i64 0, .int .i64 0, .nils, .nils, .int .i64 0, .int .i64 0, .nils, .nils, .nils, .nils]),qs 13 13 25 11]) (.seq (.seq (.ops [qm 26 12, .i (.nch 27 (.s 26)),qf 28 27 2, .i (.ldh 29 (.s 28) 1 false), .i (.bin 30 .neq (.s 29) (qi 0))]) (.cond (.s 30) (.seq (.ops [ql 31 11 11 11 true,qm 32 12, .i (.nch 33 (.s 32)),qf 34 33 2, .i (.ldh 35 (.s 34) 1 false),qs 8 8 31 11, .i (.mov 9 (qi 0)),qm 10 35]) .ret) .skip)) (.seq (.ops [ql 36 13 13 11 true,qm 37 12, .i (.nch 38 (.s 37)),qf 39 38 1, .i (.ldh 40 (.s 39) 1 false),qs 8 8 36 11,qm 9 40, .i (.mov 10 (qi 0))]) .ret)))))))⟩
theorem lM:cd fx=some fI:=by kernel_rfl
theorem lW (b:Bytes) (l:ah) (k:Nat) (hok:l.ok=true) (hk:k≤b.length) (hb:b.length≤1073741824):VC cd fx (aE [(true,l.c),(false,[.sl (bytes b)]),(false,[.int .i64 (k:Int)]),(false,[.fn gh])]) (fun rs _=>rs=cp (dF b l ⟨k,0⟩).1.o A9 (dF b l ⟨k,0⟩).2):=by
 have hr:Rd.wf b ⟨k,0⟩:=⟨hk,by simp⟩
 refine aa lM rfl ?_
 simp(disch:=omega) [fI,ah.c,VZ]
 refine ao (aP l) ?_ (ha:=by first|rfl|(simp[ah.c,VY] <;>repeat' constructor))
 simp(disch:=omega) [hok,VZ]
 refine dw (xm b l ⟨k,0⟩ (fC hok) hr hb) ?_ (n1:=by simp(disch:=omega) [Block.o,VZ]) (n3:=by simp(disch:=omega) [Block.o,VZ])
 generalize h1:dF b l ⟨k,0⟩=s1
 simp(disch:=omega) [bG,Block.o,VZ]
 by_cases g:s1.2.er=0
 ·simp(disch:=omega) [g,cp,Block.o,VZ]
 ·simp(disch:=omega) [g,cp,A9,VZ]
abbrev nS:Nat:=35
def mV:AF:=⟨3,5,[.cell 6 11 true, .tmp 7, .tmp 8],(.seq (.ops [.i (.lbox 3 (.s 0)), .i (.lal 6 [.int .i64 0, .int .i64 0, .int .i64 0, .nils, .nils, .int .i64 0, .int .i64 0, .nils, .nils, .nils, .nils]), .i (.mov 7 (qi 0)), .i (.mov 8 (qi 0))]) (.seq (.ops [ql 9 3 3 5 true,qm 10 1,qm 11 2, .i (.call 13 115 false [(.s 9),(.s 10),(.s 11),(.c (.val false [.fn 116]))]), .i (.ext 13 (.s 12) 0), .i (.ext 14 (.s 12) 1), .i (.ext 15 (.s 12) 2),qs 6 6 13 11,qm 7 14,qm 8 15]) .ret))⟩
theorem zk:cd nS=some mV:=by kernel_rfl
theorem xH (b:Bytes) (l:ah) (k:Nat) (hok:l.ok=true) (hk:k≤b.length) (hb:b.length≤1073741824):VC cd nS (aE [(true,l.c),(false,[.sl (bytes b)]),(false,[.int .i64 (k:Int)])]) (fun rs _=>rs=cp (dF b l ⟨k,0⟩).1.o A9 (dF b l ⟨k,0⟩).2):=by
 refine aa zk rfl ?_
 simp(disch:=omega) [mV,ah.c,VZ]
 have h0:=lW b l k hok hk hb
 generalize h1:dF b l ⟨k,0⟩=s1 at h0⊢
 by_cases g:s1.2.er=0
 ·simp only[cp,if_pos g,Block.o]at h0⊢
  refine ao (h0) ?_ (ha:=by first|rfl|(simp[ah.c,VY] <;>repeat' constructor))
  simp(disch:=omega) [VZ]
 ·simp only[cp,if_neg g,A9]at h0⊢
  refine ao (h0) ?_ (ha:=by first|rfl|(simp[ah.c,VY] <;>repeat' constructor))
  simp(disch:=omega) [VZ]
abbrev hG:Nat:=118
def hO:AF:=⟨4,6,[.cell 8 2 true, .tmp 9, .tmp 10],(.seq (.ops [.i (.lbox 4 (.s 0)), .i (.lal 8 [.int .i64 0, .nils]), .i (.mov 9 (qi 0)), .i (.mov 10 (qi 0))]) (.seq (.ops [.i (.lal 11 [.int .i64 0, .nils])]) (.seq (.seq (.ops [ql 14 4 4 5 true,qk 16 95 14, .i (.not 16 (.s 15))]) (.cond (.s 16) (.seq (.ops [ql 17 11 11 2 true,qs 8 8 17 2, .i (.mov 9 (qi 0)), .i (.mov 10 (qi 5))]) .ret) .skip)) (.seq (.ops [qm 18 1,qm 19 2, .i (.bld 20 [.nils, .int .i64 0, .int .i64 0] [(0,1,(.s 18)),(1,1,(.s 19))]), .i (.hbox 21 215 (.s 20)),qm 12 21]) (.seq (.ops [qm 22 3,ql 23 4 4 5 true,qm 24 12, .i (.clv 26 false (.s 22) [(.s 23),(.s 24)]), .i (.lal 13 [.int .i64 0, .nils]),qs 13 13 25 2]) (.seq (.seq (.ops [qm 26 12, .i (.nch 27 (.s 26)),qf 28 27 2, .i (.ldh 29 (.s 28) 1 false), .i (.bin 30 .neq (.s 29) (qi 0))]) (.cond (.s 30) (.seq (.ops [ql 31 11 11 2 true,qm 32 12, .i (.nch 33 (.s 32)),qf 34 33 2, .i (.ldh 35 (.s 34) 1 false),qs 8 8 31 2, .i (.mov 9 (qi 0)),qm 10 35]) .ret) .skip)) (.seq (.ops [ql 36 13 13 2 true,qm 37 12, .i (.nch 38 (.s 37)),qf 39 38 1, .i (.ldh 40 (.s 39) 1 false),qs 8 8 36 2,qm 9 40, .i (.mov 10 (qi 0))]) .ret)))))))⟩
theorem sY:cd hG=some hO:=by kernel_rfl
theorem th (b:Bytes) (l:ah) (k:Nat) (hok:l.ok=true) (hk:k≤b.length) (hb:b.length≤1073741824):VC cd hG (aE [(true,l.c),(false,[.sl (bytes b)]),(false,[.int .i64 (k:Int)]),(false,[.fn jO])]) (fun rs _=>rs=cp (Dj b l ⟨k,0⟩).1.o Q1 (Dj b l ⟨k,0⟩).2):=by
 have hr:Rd.wf b ⟨k,0⟩:=⟨hk,by simp⟩
 refine aa sY rfl ?_
 simp(disch:=omega) [hO,ah.c,VZ]
 refine ao (aP l) ?_ (ha:=by first|rfl|(simp[ah.c,VY] <;>repeat' constructor))
 simp(disch:=omega) [hok,VZ]
 refine dw (CN b l ⟨k,0⟩ (fC hok) hr hb) ?_ (n1:=by simp(disch:=omega) [Tc.o,VZ]) (n3:=by simp(disch:=omega) [Tc.o,VZ])
 generalize h1:Dj b l ⟨k,0⟩=s1
 simp(disch:=omega) [bG,Tc.o,VZ]
 by_cases g:s1.2.er=0
 ·simp(disch:=omega) [g,cp,Tc.o,VZ]
 ·simp(disch:=omega) [g,cp,Q1,VZ]
abbrev vW:Nat:=38
def wE:AF:=⟨3,5,[.cell 6 2 true, .tmp 7, .tmp 8],(.seq (.ops [.i (.lbox 3 (.s 0)), .i (.lal 6 [.int .i64 0, .nils]), .i (.mov 7 (qi 0)), .i (.mov 8 (qi 0))]) (.seq (.ops [ql 9 3 3 5 true,qm 10 1,qm 11 2, .i (.call 13 118 false [(.s 9),(.s 10),(.s 11),(.c (.val false [.fn 119]))]), .i (.ext 13 (.s 12) 0), .i (.ext 14 (.s 12) 1), .i (.ext 15 (.s 12) 2),qs 6 6 13 2,qm 7 14,qm 8 15]) .ret))⟩
theorem F9:cd vW=some wE:=by kernel_rfl
theorem DQ (b:Bytes) (l:ah) (k:Nat) (hok:l.ok=true) (hk:k≤b.length) (hb:b.length≤1073741824):VC cd vW (aE [(true,l.c),(false,[.sl (bytes b)]),(false,[.int .i64 (k:Int)])]) (fun rs _=>rs=cp (Dj b l ⟨k,0⟩).1.o Q1 (Dj b l ⟨k,0⟩).2):=by
 refine aa F9 rfl ?_
 simp(disch:=omega) [wE,ah.c,VZ]
 have h0:=th b l k hok hk hb
 generalize h1:Dj b l ⟨k,0⟩=s1 at h0⊢
 by_cases g:s1.2.er=0
 ·simp only[cp,if_pos g,Tc.o]at h0⊢
  refine ao (h0) ?_ (ha:=by first|rfl|(simp[ah.c,VY] <;>repeat' constructor))
  simp(disch:=omega) [VZ]
 ·simp only[cp,if_neg g,Q1]at h0⊢
  refine ao (h0) ?_ (ha:=by first|rfl|(simp[ah.c,VY] <;>repeat' constructor))
  simp(disch:=omega) [VZ]
abbrev fO:Nat:=122
def fP:AF:=⟨4,6,[.cell 8 6 true, .tmp 9, .tmp 10],(.seq (.ops [.i (.lbox 4 (.s 0)), .i (.lal 8 [.nils, .int .i64 0, .int .i64 0, .nils, .nils, .nils]), .i (.mov 9 (qi 0)), .i (.mov 10 (qi 0))]) (.seq (.ops [.i (.lal 11 [.nils, .int .i64 0, .int .i64 0, .nils, .nils, .nils])]) (.seq (.seq (.ops [ql 14 4 4 5 true,qk 16 95 14, .i (.not 16 (.s 15))]) (.cond (.s 16) (.seq (.ops [ql 17 11 11 6 true,qs 8 8 17 6, .i (.mov 9 (qi 0)), .i (.mov 10 (qi 5))]) .ret) .skip)) (.seq (.ops [qm 18 1,qm 19 2, .i (.bld 20 [.nils, .int .i64 0, .int .i64 0] [(0,1,(.s 18)),(1,1,(.s 19))]), .i (.hbox 21 215 (.s 20)),qm 12 21]) (.seq (.ops [qm 22 3,ql 23 4 4 5 true,qm 24 12, .i (.clv 26 false (.s 22) [(.s 23),(.s 24)]), .i (.lal 13 [.nils, .int .i64 0, .int .i64 0, .nils, .nils, .nils]),qs 13 13 25 6]) (.seq (.seq (.ops [qm 26 12, .i (.nch 27 (.s 26)),qf 28 27 2, .i (.ldh 29 (.s 28) 1 false), .i (.bin 30 .neq (.s 29) (qi 0))]) (.cond (.s 30) (.seq (.ops [ql 31 11 11 6 true,qm 32 12, .i (.nch 33 (.s 32)),qf 34 33 2, .i (.ldh 35 (.s 34) 1 false),qs 8 8 31 6, .i (.mov 9 (qi 0)),qm 10 35]) .ret) .skip)) (.seq (.ops [ql 36 13 13 6 true,qm 37 12, .i (.nch 38 (.s 37)),qf 39 38 1, .i (.ldh 40 (.s 39) 1 false),qs 8 8 36 6,qm 9 40, .i (.mov 10 (qi 0))]) .ret)))))))⟩
theorem mi:cd fO=some fP:=by kernel_rfl
theorem l6 (b:Bytes) (l:ah) (k:Nat) (hok:l.ok=true) (hk:k≤b.length) (hb:b.length≤1073741824):VC cd fO (aE [(true,l.c),(false,[.sl (bytes b)]),(false,[.int .i64 (k:Int)]),(false,[.fn f9])]) (fun rs _=>rs=cp (dm b l ⟨k,0⟩).1.o Bi (dm b l ⟨k,0⟩).2):=by
 have hr:Rd.wf b ⟨k,0⟩:=⟨hk,by simp⟩
 refine aa mi rfl ?_
 simp(disch:=omega) [fP,ah.c,VZ]
 refine ao (aP l) ?_ (ha:=by first|rfl|(simp[ah.c,VY] <;>repeat' constructor))
 simp(disch:=omega) [hok,VZ]
 refine dw (wL b l ⟨k,0⟩ (fC hok) hr hb) ?_ (n1:=by simp(disch:=omega) [Proof.o,VZ]) (n3:=by simp(disch:=omega) [Proof.o,VZ])
 generalize h1:dm b l ⟨k,0⟩=s1
 simp(disch:=omega) [bG,Proof.o,VZ]
 by_cases g:s1.2.er=0
 ·simp(disch:=omega) [g,cp,Proof.o,VZ]
 ·simp(disch:=omega) [g,cp,Bi,VZ]
abbrev mI:Nat:=41
def nJ:AF:=⟨3,5,[.cell 6 6 true, .tmp 7, .tmp 8],(.seq (.ops [.i (.lbox 3 (.s 0)), .i (.lal 6 [.nils, .int .i64 0, .int .i64 0, .nils, .nils, .nils]), .i (.mov 7 (qi 0)), .i (.mov 8 (qi 0))]) (.seq (.ops [ql 9 3 3 5 true,qm 10 1,qm 11 2, .i (.call 13 122 false [(.s 9),(.s 10),(.s 11),(.c (.val false [.fn 123]))]), .i (.ext 13 (.s 12) 0), .i (.ext 14 (.s 12) 1), .i (.ext 15 (.s 12) 2),qs 6 6 13 6,qm 7 14,qm 8 15]) .ret))⟩
theorem zF:cd mI=some nJ:=by kernel_rfl
theorem yg (b:Bytes) (l:ah) (k:Nat) (hok:l.ok=true) (hk:k≤b.length) (hb:b.length≤1073741824):VC cd mI (aE [(true,l.c),(false,[.sl (bytes b)]),(false,[.int .i64 (k:Int)])]) (fun rs _=>rs=cp (dm b l ⟨k,0⟩).1.o Bi (dm b l ⟨k,0⟩).2):=by
 refine aa zF rfl ?_
 simp(disch:=omega) [nJ,ah.c,VZ]
 have h0:=l6 b l k hok hk hb
 generalize h1:dm b l ⟨k,0⟩=s1 at h0⊢
 by_cases g:s1.2.er=0
 ·simp only[cp,if_pos g,Proof.o]at h0⊢
  refine ao (h0) ?_ (ha:=by first|rfl|(simp[ah.c,VY] <;>repeat' constructor))
  simp(disch:=omega) [VZ]
 ·simp only[cp,if_neg g,Bi]at h0⊢
  refine ao (h0) ?_ (ha:=by first|rfl|(simp[ah.c,VY] <;>repeat' constructor))
  simp(disch:=omega) [VZ]
abbrev f5:Nat:=126
def fV:AF:=⟨4,6,[.cell 8 5 true, .tmp 9, .tmp 10],(.seq (.ops [.i (.lbox 4 (.s 0)), .i (.lal 8 [.int .i64 0, .int .i64 0, .int .i64 0, .nils, .nils]), .i (.mov 9 (qi 0)), .i (.mov 10 (qi 0))]) (.seq (.ops [.i (.lal 11 [.int .i64 0, .int .i64 0, .int .i64 0, .nils, .nils])]) (.seq (.seq (.ops [ql 14 4 4 5 true,qk 16 95 14, .i (.not 16 (.s 15))]) (.cond (.s 16) (.seq (.ops [ql 17 11 11 5 true,qs 8 8 17 5, .i (.mov 9 (qi 0)), .i (.mov 10 (qi 5))]) .ret) .skip)) (.seq (.ops [qm 18 1,qm 19 2, .i (.bld 20 [.nils, .int .i64 0, .int .i64 0] [(0,1,(.s 18)),(1,1,(.s 19))]), .i (.hbox 21 215 (.s 20)),qm 12 21]) (.seq (.ops [qm 22 3,ql 23 4 4 5 true,qm 24 12, .i (.clv 26 false (.s 22) [(.s 23),(.s 24)]), .i (.lal 13 [.int .i64 0, .int .i64 0, .int .i64 0, .nils, .nils]),qs 13 13 25 5]) (.seq (.seq (.ops [qm 26 12, .i (.nch 27 (.s 26)),qf 28 27 2, .i (.ldh 29 (.s 28) 1 false), .i (.bin 30 .neq (.s 29) (qi 0))]) (.cond (.s 30) (.seq (.ops [ql 31 11 11 5 true,qm 32 12, .i (.nch 33 (.s 32)),qf 34 33 2, .i (.ldh 35 (.s 34) 1 false),qs 8 8 31 5, .i (.mov 9 (qi 0)),qm 10 35]) .ret) .skip)) (.seq (.ops [ql 36 13 13 5 true,qm 37 12, .i (.nch 38 (.s 37)),qf 39 38 1, .i (.ldh 40 (.s 39) 1 false),qs 8 8 36 5,qm 9 40, .i (.mov 10 (qi 0))]) .ret)))))))⟩
theorem oE:cd f5=some fV:=by kernel_rfl
theorem oB (b:Bytes) (l:ah) (k:Nat) (hok:l.ok=true) (hk:k≤b.length) (hb:b.length≤1073741824):VC cd f5 (aE [(true,l.c),(false,[.sl (bytes b)]),(false,[.int .i64 (k:Int)]),(false,[.fn gT])]) (fun rs _=>rs=cp (eO b l ⟨k,0⟩).1.o HG (eO b l ⟨k,0⟩).2):=by
 have hr:Rd.wf b ⟨k,0⟩:=⟨hk,by simp⟩
 refine aa oE rfl ?_
 simp(disch:=omega) [fV,ah.c,VZ]
 refine ao (aP l) ?_ (ha:=by first|rfl|(simp[ah.c,VY] <;>repeat' constructor))
 simp(disch:=omega) [hok,VZ]
 refine dw (yn b l ⟨k,0⟩ (fC hok) hr hb) ?_ (n1:=by simp(disch:=omega) [aU.o,VZ]) (n3:=by simp(disch:=omega) [aU.o,VZ])
 generalize h1:eO b l ⟨k,0⟩=s1
 simp(disch:=omega) [bG,aU.o,VZ]
 by_cases g:s1.2.er=0
 ·simp(disch:=omega) [g,cp,aU.o,VZ]
 ·simp(disch:=omega) [g,cp,HG,VZ]
abbrev pA:Nat:=44
def sk:AF:=⟨3,5,[.cell 6 5 true, .tmp 7, .tmp 8],(.seq (.ops [.i (.lbox 3 (.s 0)), .i (.lal 6 [.int .i64 0, .int .i64 0, .int .i64 0, .nils, .nils]), .i (.mov 7 (qi 0)), .i (.mov 8 (qi 0))]) (.seq (.ops [ql 9 3 3 5 true,qm 10 1,qm 11 2, .i (.call 13 126 false [(.s 9),(.s 10),(.s 11),(.c (.val false [.fn 127]))]), .i (.ext 13 (.s 12) 0), .i (.ext 14 (.s 12) 1), .i (.ext 15 (.s 12) 2),qs 6 6 13 5,qm 7 14,qm 8 15]) .ret))⟩
theorem Bz:cd pA=some sk:=by kernel_rfl
theorem zZ (b:Bytes) (l:ah) (k:Nat) (hok:l.ok=true) (hk:k≤b.length) (hb:b.length≤1073741824):VC cd pA (aE [(true,l.c),(false,[.sl (bytes b)]),(false,[.int .i64 (k:Int)])]) (fun rs _=>rs=cp (eO b l ⟨k,0⟩).1.o HG (eO b l ⟨k,0⟩).2):=by
 refine aa Bz rfl ?_
 simp(disch:=omega) [sk,ah.c,VZ]
 have h0:=oB b l k hok hk hb
 generalize h1:eO b l ⟨k,0⟩=s1 at h0⊢
 by_cases g:s1.2.er=0
 ·simp only[cp,if_pos g,aU.o]at h0⊢
  refine ao (h0) ?_ (ha:=by first|rfl|(simp[ah.c,VY] <;>repeat' constructor))
  simp(disch:=omega) [VZ]
 ·simp only[cp,if_neg g,HG]at h0⊢
  refine ao (h0) ?_ (ha:=by first|rfl|(simp[ah.c,VY] <;>repeat' constructor))
  simp(disch:=omega) [VZ]
end Go.Eng.F
namespace Go.Eng.F
def strs (l:List ByteArray):List (List D):=l.map fun s=> [.str s]
theorem Ls (l:List ByteArray):(strs l).length=l.length:=by simp[strs]
theorem LK {l:List ByteArray} {i:Nat} (h:i < l.length):(strs l)[i]? =some [.str l[i]]:=by simp[strs,h]
abbrev u9:Nat:=132
def tN:AF:=⟨2,4,[.tmp 4],(.seq (.ops [.i (.mov 4 (.c (.val false [.str ByteArray.empty])))]) (.seq (.seq (.ops [qm 5 0,qm 6 1,qn 7 6, .i (.bin 8 .sub (.s 7) (qi 1)), .i (.call 10 158 false [(.s 5),(qi 0),(.s 8)]), .i (.not 10 (.s 9))]) (.cond (.s 10) (.seq (.ops [.i (.mov 4 (.c (.val false [.str ByteArray.empty])))]) .ret) .skip)) (.seq (.ops [qm 11 1,qm 12 0, .i (.iad 13 (.s 11) (.s 12) 1), .i (.ldh 14 (.s 13) 1 false),qm 4 14]) .ret)))⟩
theorem D5:cd u9=some tN:=by kernel_rfl
theorem ED (l:List ByteArray) (k:Nat) (hl:l.length≤1000):VC cd u9 (aE [(false,[.int .i64 (k:Int)]),(false,[.sl (strs l)])]) (fun rs _=>rs= [(false,[.p (.str ((l[k]?).getD ByteArray.empty))])]):=by
 refine aa D5 rfl ?_
 simp(disch:=omega) [tN,Ls,VY]
 refine ao (aG (k:Int) 0 ((l.length:Int) - 1)) ?_
 simp(disch:=omega) [c9,VY]
 by_cases h:k < l.length
 ·have h1:(k:Int)≤(l.length:Int) - 1:=by omega
  simp(disch:=omega) [h1,LK h,h,VY]
 ·have h1:¬(k:Int)≤(l.length:Int) - 1:=by omega
  simp(disch:=omega) [h1,h,VY]
def kinds:List ByteArray:= [ByteArray.empty,⟨#[118,111,116,101]⟩,⟨#[113,99]⟩,⟨#[104,101,97,100]⟩,⟨#[98,108,111,99,107]⟩,⟨#[116,99]⟩,⟨#[112,114,111,111,102]⟩,⟨#[105,110,99,108]⟩]
def kindName (k:Nat):ByteArray:=(kinds[k]?).getD ByteArray.empty
abbrev nV:Nat:=55
def nO:AF:=⟨1,3,[.tmp 2],(.seq (.ops [.i (.mov 2 (.c (.val false [.str ByteArray.empty])))]) (.seq (.ops [qm 3 0, .i (.bsl 4 9 1 8 [.str ByteArray.empty] [(0,1,(.c (.val false [.str ByteArray.empty]))),(1,1,(.c (.val false [.str ⟨#[118,111,116,101]⟩]))),(2,1,(.c (.val false [.str ⟨#[113,99]⟩]))),(3,1,(.c (.val false [.str ⟨#[104,101,97,100]⟩]))),(4,1,(.c (.val false [.str ⟨#[98,108,111,99,107]⟩]))),(5,1,(.c (.val false [.str ⟨#[116,99]⟩]))),(6,1,(.c (.val false [.str ⟨#[112,114,111,111,102]⟩]))),(7,1,(.c (.val false [.str ⟨#[105,110,99,108]⟩])))]), .i (.call 6 132 false [(.s 3),(.s 4)]),qm 2 5]) .ret))⟩
theorem Ab:cd nV=some nO:=by kernel_rfl
theorem Ik (k:Nat):VC cd nV (aE [(false,[.int .i64 (k:Int)])]) (fun rs _=>rs= [(false,[.p (.str (kindName k))])]):=by
 refine aa Ab rfl ?_
 simp(disch:=omega) [nO,VY]
 refine ao (ED kinds k (by simp[kinds])) ?_
 simp(disch:=omega) [kindName,VY]
theorem pw (k:Nat):kindName k=ByteArray.empty↔k=0∨8≤k:=by
 by_cases h:8≤k
 ·have:kindName k=ByteArray.empty:=by
   unfold kindName
   rw[List.getElem?_eq_none (by simp[kinds];omega)]
   rfl
  exact⟨fun _=> .inr h,fun _=>this⟩
 ·have ne:∀s:ByteArray,s.size≠0→s≠ByteArray.empty:=fun s h1 h2=>h1 (by rw[h2];rfl)
  have hk:k=0∨k=1∨k=2∨k=3∨k=4∨k=5∨k=6∨k=7:=by omega
  rcases hk with rfl|rfl|rfl|rfl|rfl|rfl|rfl|rfl
  ·exact⟨fun _=> .inl rfl,fun _=>rfl⟩
  all_goals exact⟨fun e=>absurd e (ne _ (by decide)),fun e=>by omega⟩
end Go.Eng.F
namespace Go.Eng.F
def aJ.o (m:aJ):List E:= [.p (.int .i64 m.kind), .p (.int .i64 m.vote.view), .p (.int .i64 m.vote.height), .o true (some (5,1)) (bytes m.vote.block), .p (.int .i64 m.vote.who), .o true (some (5,1)) (bytes m.vote.tag), .p (.int .i64 m.qc.view), .p (.int .i64 m.qc.height), .o true (some (5,1)) (bytes m.qc.block), .o true (some (5,1)) (bytes m.qc.bits), .o true (some (22,1)) (bI m.qc.tags), .p (.int .i64 m.head.view), .p (.int .i64 m.head.height), .p (.int .i64 m.head.proposer), .o true (some (5,1)) (bytes m.head.parent), .o true (some (5,1)) (bytes m.head.root), .p (.int .i64 m.head.qc.view), .p (.int .i64 m.head.qc.height), .o true (some (5,1)) (bytes m.head.qc.block), .o true (some (5,1)) (bytes m.head.qc.bits), .o true (some (22,1)) (bI m.head.qc.tags), .p (.int .i64 m.block.head.view), .p (.int .i64 m.block.head.height), .p (.int .i64 m.block.head.proposer), .o true (some (5,1)) (bytes m.block.head.parent), .o true (some (5,1)) (bytes m.block.head.root), .p (.int .i64 m.block.head.qc.view), .p (.int .i64 m.block.head.qc.height), .o true (some (5,1)) (bytes m.block.head.qc.block), .o true (some (5,1)) (bytes m.block.head.qc.bits), .o true (some (22,1)) (bI m.block.head.qc.tags), .o true (some (22,1)) (bI m.block.txs), .p (.int .i64 m.tc.view), .o true (some (165,3)) (ix m.tc.entries), .o true (some (45,10)) (eH m.proof.heads), .p (.int .i64 m.proof.qc.view), .p (.int .i64 m.proof.qc.height), .o true (some (5,1)) (bytes m.proof.qc.block), .o true (some (5,1)) (bytes m.proof.qc.bits), .o true (some (22,1)) (bI m.proof.qc.tags), .p (.int .i64 m.incl.height), .p (.int .i64 m.incl.n), .p (.int .i64 m.incl.idx), .o true (some (5,1)) (bytes m.incl.tx), .o true (some (22,1)) (bI m.incl.path)]
def d9 (b:Bytes) (m:aJ) (r:Rd):aJ×Nat:=if r.er≠0 then(av,r.er)else if r.at_≠b.length then(av,9)else(m,0)
def j0 (l:ah) (b:Bytes):Nat→aJ×Nat
 |1=>d9 b {av with kind:=1,vote:=(f4 b l ⟨1,0⟩).1} (f4 b l ⟨1,0⟩).2
 |2=>d9 b {av with kind:=2,qc:=(tI b l ⟨1,0⟩).1} (tI b l ⟨1,0⟩).2
 |3=>d9 b {av with kind:=3,head:=(cY b l ⟨1,0⟩).1} (cY b l ⟨1,0⟩).2
 |4=>d9 b {av with kind:=4,block:=(dF b l ⟨1,0⟩).1} (dF b l ⟨1,0⟩).2
 |5=>d9 b {av with kind:=5,tc:=(Dj b l ⟨1,0⟩).1} (Dj b l ⟨1,0⟩).2
 |6=>d9 b {av with kind:=6,proof:=(dm b l ⟨1,0⟩).1} (dm b l ⟨1,0⟩).2
 |7=>d9 b {av with kind:=7,incl:=(eO b l ⟨1,0⟩).1} (eO b l ⟨1,0⟩).2
 |_=>(av,8)
def dec (l:ah) (b:Bytes):aJ×Nat:=if l.ok=true then(match b[0]? with|none=>(av,1)|some c=>j0 l b c.toNat)else(av,5)
theorem Am {l:ah} {b:Bytes} {k:Nat} (h:k=0∨8≤k):j0 l b k=(av,8):=by
 unfold j0
 split <;>first|omega|rfl
theorem Au {l:ah} {b:Bytes} (h:¬l.ok=true):dec l b=(av,5):=by simp[dec,h]
theorem sV {l:ah} {b:Bytes} (h:l.ok=true) (hc:¬0 < b.length):dec l b=(av,1):=by
 have:b[0]? =none:=List.getElem?_eq_none (by omega)
 simp[dec,h,this]
theorem J2 {l:ah} {b:Bytes} (h:l.ok=true) (hc:0 < b.length):dec l b=j0 l b b[0].toNat:=by
 have:b[0]? =some b[0]:=List.getElem?_eq_getElem hc
 simp[dec,h,this]
def gw (x:aJ×Nat):List (Bool×List E):= [(true,x.1.o),(false,[.p (.int .i64 (x.2:Int))])]
theorem bm:bI []= []:=rfl
theorem bo:ix []= []:=rfl
theorem bn:eH []= []:=rfl
abbrev tW:Nat:=53
def tJ:AF:=⟨2,7,[.cell 4 45 true, .tmp 5],(.seq (.ops [.i (.lbox 2 (.s 0)), .i (.lal 4 [.int .i64 0, .int .i64 0, .int .i64 0, .nils, .int .i64 0, .nils, .int .i64 0, .int .i64 0, .nils, .nils, .nils, .int .i64 0, .int .i64 0, .int .i64 0, .nils, .nils, .int .i64 0, .int .i64 0, .nils, .nils, .nils, .int .i64 0, .int .i64 0, .int .i64 0, .nils, .nils, .int .i64 0, .int .i64 0, .nils, .nils, .nils, .nils, .int .i64 0, .nils, .nils, .int .i64 0, .int .i64 0, .nils, .nils, .nils, .int .i64 0, .int .i64 0, .int .i64 0, .nils, .nils]), .i (.mov 5 (qi 0))]) (.seq (.block 0 (.seq (.ops [ql 10 2 2 5 true,qk 12 95 10, .i (.not 12 (.s 11)),qm 9 12]) (.cond (.s 9) (.seq (.ops [.i (.bld 13 [.int .i64 0, .int .i64 0, .int .i64 0, .nils, .int .i64 0, .nils, .int .i64 0, .int .i64 0, .nils, .nils, .nils, .int .i64 0, .int .i64 0, .int .i64 0, .nils, .nils, .int .i64 0, .int .i64 0, .nils, .nils, .nils, .int .i64 0, .int .i64 0, .int .i64 0, .nils, .nils, .int .i64 0, .int .i64 0, .nils, .nils, .nils, .nils, .int .i64 0, .nils, .nils, .int .i64 0, .int .i64 0, .nils, .nils, .nils, .int .i64 0, .int .i64 0, .int .i64 0, .nils, .nils] []),qs 4 4 13 45, .i (.mov 5 (qi 5))]) .ret) (.seq (.ops [qm 15 1,qn 16 15, .i (.bin 17 .eql (.s 16) (qi 0)),qm 14 17]) (.cond (.s 14) (.seq (.ops [.i (.bld 18 [.int .i64 0, .int .i64 0, .int .i64 0, .nils, .int .i64 0, .nils, .int .i64 0, .int .i64 0, .nils, .nils, .nils, .int .i64 0, .int .i64 0, .int .i64 0, .nils, .nils, .int .i64 0, .int .i64 0, .nils, .nils, .nils, .int .i64 0, .int .i64 0, .int .i64 0, .nils, .nils, .int .i64 0, .int .i64 0, .nils, .nils, .nils, .nils, .int .i64 0, .nils, .nils, .int .i64 0, .int .i64 0, .nils, .nils, .nils, .int .i64 0, .int .i64 0, .int .i64 0, .nils, .nils] []),qs 4 4 18 45, .i (.mov 5 (qi 1))]) .ret) (.seq (.ops [qm 20 1, .i (.iad 21 (.s 20) (qi 0) 1), .i (.ldh 22 (.s 21) 1 false), .i (.cvi 23 .i64 (.s 22)),qk 25 55 23, .i (.bin 25 .eql (.s 24) (.c (.val false [.str ByteArray.empty]))),qm 19 25]) (.cond (.s 19) (.seq (.ops [.i (.bld 26 [.int .i64 0, .int .i64 0, .int .i64 0, .nils, .int .i64 0, .nils, .int .i64 0, .int .i64 0, .nils, .nils, .nils, .int .i64 0, .int .i64 0, .int .i64 0, .nils, .nils, .int .i64 0, .int .i64 0, .nils, .nils, .nils, .int .i64 0, .int .i64 0, .int .i64 0, .nils, .nils, .int .i64 0, .int .i64 0, .nils, .nils, .nils, .nils, .int .i64 0, .nils, .nils, .int .i64 0, .int .i64 0, .nils, .nils, .nils, .int .i64 0, .int .i64 0, .int .i64 0, .nils, .nils] []),qs 4 4 26 45, .i (.mov 5 (qi 8))]) .ret) .skip))))))) (.seq (.ops [qm 27 1, .i (.iad 28 (.s 27) (qi 0) 1), .i (.ldh 29 (.s 28) 1 false), .i (.cvi 30 .i64 (.s 29)), .i (.bld 31 [.int .i64 0, .int .i64 0, .int .i64 0, .nils, .int .i64 0, .nils, .int .i64 0, .int .i64 0, .nils, .nils, .nils, .int .i64 0, .int .i64 0, .int .i64 0, .nils, .nils, .int .i64 0, .int .i64 0, .nils, .nils, .nils, .int .i64 0, .int .i64 0, .int .i64 0, .nils, .nils, .int .i64 0, .int .i64 0, .nils, .nils, .nils, .nils, .int .i64 0, .nils, .nils, .int .i64 0, .int .i64 0, .nils, .nils, .nils, .int .i64 0, .int .i64 0, .int .i64 0, .nils, .nils] [(0,1,(.s 30))]), .i (.lal 6 [.int .i64 0, .int .i64 0, .int .i64 0, .nils, .int .i64 0, .nils, .int .i64 0, .int .i64 0, .nils, .nils, .nils, .int .i64 0, .int .i64 0, .int .i64 0, .nils, .nils, .int .i64 0, .int .i64 0, .nils, .nils, .nils, .int .i64 0, .int .i64 0, .int .i64 0, .nils, .nils, .int .i64 0, .int .i64 0, .nils, .nils, .nils, .nils, .int .i64 0, .nils, .nils, .int .i64 0, .int .i64 0, .nils, .nils, .nils, .int .i64 0, .int .i64 0, .int .i64 0, .nils, .nils]),qs 6 6 31 45, .i (.mov 7 (qi 0)), .i (.mov 8 (qi 0))]) (.seq (.seq (.ops [qf 32 6 0,ql 33 6 32 1 false]) (.block 1 (.seq (.ops [.i (.bin 43 .eql (.s 33) (qi 1)),qm 42 43]) (.cond (.s 42) (.ops [ql 45 2 2 5 true,qm 46 1, .i (.call 48 25 false [(.s 45),(.s 46),(qi 1)]),qm 44 47, .i (.ext 48 (.s 44) 0), .i (.ext 49 (.s 44) 1), .i (.ext 50 (.s 44) 2),qf 51 6 1,qs 6 51 48 5,qm 7 49,qm 8 50]) (.seq (.ops [.i (.bin 53 .eql (.s 33) (qi 2)),qm 52 53]) (.cond (.s 52) (.ops [ql 55 2 2 5 true,qm 56 1, .i (.call 58 28 false [(.s 55),(.s 56),(qi 1)]),qm 54 57, .i (.ext 58 (.s 54) 0), .i (.ext 59 (.s 54) 1), .i (.ext 60 (.s 54) 2),qf 61 6 6,qs 6 61 58 5,qm 7 59,qm 8 60]) (.seq (.ops [.i (.bin 63 .eql (.s 33) (qi 3)),qm 62 63]) (.cond (.s 62) (.ops [ql 65 2 2 5 true,qm 66 1, .i (.call 68 31 false [(.s 65),(.s 66),(qi 1)]),qm 64 67, .i (.ext 68 (.s 64) 0), .i (.ext 69 (.s 64) 1), .i (.ext 70 (.s 64) 2),qf 71 6 11,qs 6 71 68 10,qm 7 69,qm 8 70]) (.seq (.ops [.i (.bin 73 .eql (.s 33) (qi 4)),qm 72 73]) (.cond (.s 72) (.ops [ql 75 2 2 5 true,qm 76 1, .i (.call 78 35 false [(.s 75),(.s 76),(qi 1)]),qm 74 77, .i (.ext 78 (.s 74) 0), .i (.ext 79 (.s 74) 1), .i (.ext 80 (.s 74) 2),qf 81 6 21,qs 6 81 78 11,qm 7 79,qm 8 80]) (.seq (.ops [.i (.bin 83 .eql (.s 33) (qi 5)),qm 82 83]) (.cond (.s 82) (.ops [ql 85 2 2 5 true,qm 86 1, .i (.call 88 38 false [(.s 85),(.s 86),(qi 1)]),qm 84 87, .i (.ext 88 (.s 84) 0), .i (.ext 89 (.s 84) 1), .i (.ext 90 (.s 84) 2),qf 91 6 32,qs 6 91 88 2,qm 7 89,qm 8 90]) (.seq (.ops [.i (.bin 93 .eql (.s 33) (qi 6)),qm 92 93]) (.cond (.s 92) (.ops [ql 95 2 2 5 true,qm 96 1, .i (.call 98 41 false [(.s 95),(.s 96),(qi 1)]),qm 94 97, .i (.ext 98 (.s 94) 0), .i (.ext 99 (.s 94) 1), .i (.ext 100 (.s 94) 2),qf 101 6 34,qs 6 101 98 6,qm 7 99,qm 8 100]) (.ops [ql 35 2 2 5 true,qm 36 1, .i (.call 38 44 false [(.s 35),(.s 36),(qi 1)]),qm 34 37, .i (.ext 38 (.s 34) 0), .i (.ext 39 (.s 34) 1), .i (.ext 40 (.s 34) 2),qf 41 6 40,qs 6 41 38 5,qm 7 39,qm 8 40]))))))))))))))) (.seq (.seq (.ops [qm 102 8, .i (.bin 103 .eql (.s 102) (qi 0)),qm 104 103, .g 104 true 106 (.mov 105 (.s 7)), .g 104 true 107 (.mov 106 (.s 1)), .g 104 true 108 (.len 107 false (.s 106)), .g 104 true 109 (.bin 108 .neq (.s 105) (.s 107)), .i (.pick 109 (.s 104) (.s 108) (qb false))]) (.cond (.s 109) (.ops [.i (.mov 8 (qi 9))]) .skip)) (.seq (.seq (.ops [qm 110 8, .i (.bin 111 .neq (.s 110) (qi 0))]) (.cond (.s 111) (.seq (.ops [.i (.bld 112 [.int .i64 0, .int .i64 0, .int .i64 0, .nils, .int .i64 0, .nils, .int .i64 0, .int .i64 0, .nils, .nils, .nils, .int .i64 0, .int .i64 0, .int .i64 0, .nils, .nils, .int .i64 0, .int .i64 0, .nils, .nils, .nils, .int .i64 0, .int .i64 0, .int .i64 0, .nils, .nils, .int .i64 0, .int .i64 0, .nils, .nils, .nils, .nils, .int .i64 0, .nils, .nils, .int .i64 0, .int .i64 0, .nils, .nils, .nils, .int .i64 0, .int .i64 0, .int .i64 0, .nils, .nils] []),qm 113 8,qs 4 4 112 45,qm 5 113]) .ret) .skip)) (.seq (.ops [ql 114 6 6 45 true,qs 4 4 114 45, .i (.mov 5 (qi 0))]) .ret)))))))⟩
theorem DZ:cd tW=some tJ:=by kernel_rfl
theorem BT (b:Bytes) (l:ah) (hb:b.length≤1073741824):VC cd tW (aE [(true,l.c),(false,[.sl (bytes b)])]) (fun rs _=>rs=gw (dec l b)):=by
 refine VC.xb ?_
 refine aa DZ rfl ?_
 simp(disch:=omega) [tJ,ah.c,VZ]
 refine ao (aP l) ?_ (ha:=by first|rfl|(simp[ah.c,VY] <;>repeat' constructor))
 simp(disch:=omega) [VZ]
 by_cases hok:l.ok=true
 case neg=>rw[Au hok];simp(disch:=omega) [hok,gw,aJ.o,av,bD,fv,bc,aF,hK,aK,bC,a9,bk,bz,ag,bm,bo,bn,VZ]
 by_cases he:b= []
 case pos=>rw[sV hok (by simp[he])];simp(disch:=omega) [hok,he,gw,aJ.o,av,bD,fv,bc,aF,hK,aK,bC,a9,bk,bz,ag,bm,bo,bn,VZ]
 have hc:0 < b.length:=List.length_pos_iff.2 he
 have h256:b[0].toNat < 256:=UInt8.toNat_lt _
 rw[J2 hok hc]
 simp(disch:=omega) [hok,he,hc,cf hc,VZ]
 refine ao (Ik b[0].toNat) ?_
 by_cases hz:b[0].toNat=0∨8≤b[0].toNat
 case pos=>
  have hz2:=(pw _).2 hz
  rw[Am hz]
  simp(disch:=omega) [hz2,gw,aJ.o,av,bD,fv,bc,aF,hK,aK,bC,a9,bk,bz,ag,bm,bo,bn,VZ]
 have hz2:¬kindName b[0].toNat=ByteArray.empty:=fun e=>hz ((pw _).1 e)
 have hk:b[0].toNat=1∨b[0].toNat=2∨b[0].toNat=3∨b[0].toNat=4∨b[0].toNat=5∨b[0].toNat=6∨b[0].toNat=7:=by omega
 simp(disch:=omega) [hz2,hc,cf hc,VZ]
 generalize b[0].toNat=k at hk⊢
 clear hz hz2
 rcases hk with rfl|rfl|rfl|rfl|rfl|rfl|rfl
 ·simp only[j0]
  have h0:=zE b l 1 hok (by omega) hb
  generalize h1:f4 b l ⟨1,0⟩=s1 at h0⊢
  by_cases g:s1.2.er=0
  ·simp only[cp,if_pos g,bB.o]at h0
   simp(disch:=omega) [VZ]
   refine ao (h0) ?_ (ha:=by first|rfl|(simp[ah.c,VY] <;>repeat' constructor))
   simp(disch:=omega) [VZ]
   by_cases g2:s1.2.at_=b.length
   ·simp(disch:=omega) [g2,d9,g,gw,aJ.o,av,bD,fv,bc,aF,hK,aK,bC,a9,bk,bz,ag,bm,bo,bn,VZ]
   ·have g3:¬(s1.2.at_:Int)=(b.length:Int):=by omega
    simp(disch:=omega) [g2,g3,d9,g,gw,aJ.o,av,bD,fv,bc,aF,hK,aK,bC,a9,bk,bz,ag,bm,bo,bn,VZ]
  ·simp only[cp,if_neg g,Hf]at h0
   simp(disch:=omega) [VZ]
   refine ao (h0) ?_ (ha:=by first|rfl|(simp[ah.c,VY] <;>repeat' constructor))
   simp(disch:=omega) [g,d9,gw,aJ.o,av,bD,fv,bc,aF,hK,aK,bC,a9,bk,bz,ag,bm,bo,bn,VZ]
 ·simp only[j0]
  have h0:=DI b l 1 hok (by omega) hb
  generalize h1:tI b l ⟨1,0⟩=s1 at h0⊢
  by_cases g:s1.2.er=0
  ·simp only[cp,if_pos g,Qc.o]at h0
   simp(disch:=omega) [VZ]
   refine ao (h0) ?_ (ha:=by first|rfl|(simp[ah.c,VY] <;>repeat' constructor))
   simp(disch:=omega) [VZ]
   by_cases g2:s1.2.at_=b.length
   ·simp(disch:=omega) [g2,d9,g,gw,aJ.o,av,bD,fv,bc,aF,hK,aK,bC,a9,bk,bz,ag,bm,bo,bn,VZ]
   ·have g3:¬(s1.2.at_:Int)=(b.length:Int):=by omega
    simp(disch:=omega) [g2,g3,d9,g,gw,aJ.o,av,bD,fv,bc,aF,hK,aK,bC,a9,bk,bz,ag,bm,bo,bn,VZ]
  ·simp only[cp,if_neg g,QM]at h0
   simp(disch:=omega) [VZ]
   refine ao (h0) ?_ (ha:=by first|rfl|(simp[ah.c,VY] <;>repeat' constructor))
   simp(disch:=omega) [g,d9,gw,aJ.o,av,bD,fv,bc,aF,hK,aK,bC,a9,bk,bz,ag,bm,bo,bn,VZ]
 ·simp only[j0]
  have h0:=zh b l 1 hok (by omega) hb
  generalize h1:cY b l ⟨1,0⟩=s1 at h0⊢
  by_cases g:s1.2.er=0
  ·simp only[cp,if_pos g,Head.o]at h0
   simp(disch:=omega) [VZ]
   refine ao (h0) ?_ (ha:=by first|rfl|(simp[ah.c,VY] <;>repeat' constructor))
   simp(disch:=omega) [VZ]
   by_cases g2:s1.2.at_=b.length
   ·simp(disch:=omega) [g2,d9,g,gw,aJ.o,av,bD,fv,bc,aF,hK,aK,bC,a9,bk,bz,ag,bm,bo,bn,VZ]
   ·have g3:¬(s1.2.at_:Int)=(b.length:Int):=by omega
    simp(disch:=omega) [g2,g3,d9,g,gw,aJ.o,av,bD,fv,bc,aF,hK,aK,bC,a9,bk,bz,ag,bm,bo,bn,VZ]
  ·simp only[cp,if_neg g,HR]at h0
   simp(disch:=omega) [VZ]
   refine ao (h0) ?_ (ha:=by first|rfl|(simp[ah.c,VY] <;>repeat' constructor))
   simp(disch:=omega) [g,d9,gw,aJ.o,av,bD,fv,bc,aF,hK,aK,bC,a9,bk,bz,ag,bm,bo,bn,VZ]
 ·simp only[j0]
  have h0:=xH b l 1 hok (by omega) hb
  generalize h1:dF b l ⟨1,0⟩=s1 at h0⊢
  by_cases g:s1.2.er=0
  ·simp only[cp,if_pos g,Block.o]at h0
   simp(disch:=omega) [VZ]
   refine ao (h0) ?_ (ha:=by first|rfl|(simp[ah.c,VY] <;>repeat' constructor))
   simp(disch:=omega) [VZ]
   by_cases g2:s1.2.at_=b.length
   ·simp(disch:=omega) [g2,d9,g,gw,aJ.o,av,bD,fv,bc,aF,hK,aK,bC,a9,bk,bz,ag,bm,bo,bn,VZ]
   ·have g3:¬(s1.2.at_:Int)=(b.length:Int):=by omega
    simp(disch:=omega) [g2,g3,d9,g,gw,aJ.o,av,bD,fv,bc,aF,hK,aK,bC,a9,bk,bz,ag,bm,bo,bn,VZ]
  ·simp only[cp,if_neg g,A9]at h0
   simp(disch:=omega) [VZ]
   refine ao (h0) ?_ (ha:=by first|rfl|(simp[ah.c,VY] <;>repeat' constructor))
   simp(disch:=omega) [g,d9,gw,aJ.o,av,bD,fv,bc,aF,hK,aK,bC,a9,bk,bz,ag,bm,bo,bn,VZ]
 ·simp only[j0]
  have h0:=DQ b l 1 hok (by omega) hb
  generalize h1:Dj b l ⟨1,0⟩=s1 at h0⊢
  by_cases g:s1.2.er=0
  ·simp only[cp,if_pos g,Tc.o]at h0
   simp(disch:=omega) [VZ]
   refine ao (h0) ?_ (ha:=by first|rfl|(simp[ah.c,VY] <;>repeat' constructor))
   simp(disch:=omega) [VZ]
   by_cases g2:s1.2.at_=b.length
   ·simp(disch:=omega) [g2,d9,g,gw,aJ.o,av,bD,fv,bc,aF,hK,aK,bC,a9,bk,bz,ag,bm,bo,bn,VZ]
   ·have g3:¬(s1.2.at_:Int)=(b.length:Int):=by omega
    simp(disch:=omega) [g2,g3,d9,g,gw,aJ.o,av,bD,fv,bc,aF,hK,aK,bC,a9,bk,bz,ag,bm,bo,bn,VZ]
  ·simp only[cp,if_neg g,Q1]at h0
   simp(disch:=omega) [VZ]
   refine ao (h0) ?_ (ha:=by first|rfl|(simp[ah.c,VY] <;>repeat' constructor))
   simp(disch:=omega) [g,d9,gw,aJ.o,av,bD,fv,bc,aF,hK,aK,bC,a9,bk,bz,ag,bm,bo,bn,VZ]
 ·simp only[j0]
  have h0:=yg b l 1 hok (by omega) hb
  generalize h1:dm b l ⟨1,0⟩=s1 at h0⊢
  by_cases g:s1.2.er=0
  ·simp only[cp,if_pos g,Proof.o]at h0
   simp(disch:=omega) [VZ]
   refine ao (h0) ?_ (ha:=by first|rfl|(simp[ah.c,VY] <;>repeat' constructor))
   simp(disch:=omega) [VZ]
   by_cases g2:s1.2.at_=b.length
   ·simp(disch:=omega) [g2,d9,g,gw,aJ.o,av,bD,fv,bc,aF,hK,aK,bC,a9,bk,bz,ag,bm,bo,bn,VZ]
   ·have g3:¬(s1.2.at_:Int)=(b.length:Int):=by omega
    simp(disch:=omega) [g2,g3,d9,g,gw,aJ.o,av,bD,fv,bc,aF,hK,aK,bC,a9,bk,bz,ag,bm,bo,bn,VZ]
  ·simp only[cp,if_neg g,Bi]at h0
   simp(disch:=omega) [VZ]
   refine ao (h0) ?_ (ha:=by first|rfl|(simp[ah.c,VY] <;>repeat' constructor))
   simp(disch:=omega) [g,d9,gw,aJ.o,av,bD,fv,bc,aF,hK,aK,bC,a9,bk,bz,ag,bm,bo,bn,VZ]
 ·simp only[j0]
  have h0:=zZ b l 1 hok (by omega) hb
  generalize h1:eO b l ⟨1,0⟩=s1 at h0⊢
  by_cases g:s1.2.er=0
  ·simp only[cp,if_pos g,aU.o]at h0
   simp(disch:=omega) [VZ]
   refine ao (h0) ?_ (ha:=by first|rfl|(simp[ah.c,VY] <;>repeat' constructor))
   simp(disch:=omega) [VZ]
   by_cases g2:s1.2.at_=b.length
   ·simp(disch:=omega) [g2,d9,g,gw,aJ.o,av,bD,fv,bc,aF,hK,aK,bC,a9,bk,bz,ag,bm,bo,bn,VZ]
   ·have g3:¬(s1.2.at_:Int)=(b.length:Int):=by omega
    simp(disch:=omega) [g2,g3,d9,g,gw,aJ.o,av,bD,fv,bc,aF,hK,aK,bC,a9,bk,bz,ag,bm,bo,bn,VZ]
  ·simp only[cp,if_neg g,HG]at h0
   simp(disch:=omega) [VZ]
   refine ao (h0) ?_ (ha:=by first|rfl|(simp[ah.c,VY] <;>repeat' constructor))
   simp(disch:=omega) [g,d9,gw,aJ.o,av,bD,fv,bc,aF,hK,aK,bC,a9,bk,bz,ag,bm,bo,bn,VZ]
end Go.Eng.F
namespace Go.Eng.F
theorem IB.wc {q:Qc} (h:IB q):q.wc:=by
 have h1:=dG h.view
 have h2:=dG h.height
 have h3:=h.block
 have h4:=h.bits
 have h5:=h.tags
 refine⟨⟨⟨by omega,by omega⟩,⟨by omega,by omega⟩,?_,?_,?_⟩,fun x hx=> ?_⟩ <;>unfold Sz
 ·omega
 ·omega
 ·omega
 ·have:=h.tag x hx;omega
theorem jE (l:ah) (h:Head) (hw:h.wf):VC cd gX (aE [(true,l.c),(true,h.c)]) (fun rs _=>rs= [(false,[.o true (some (5,1)) (bytes (om l h))])]):=
 (yA l h hw).own fun rs ps q=>by
   rw[q,GG,om]
   by_cases h0:bp l h=true
   ·rw[if_pos h0,if_pos h0]
    exact⟨_,by simp[a9,bk,bz],rfl⟩
   ·rw[if_neg h0,if_neg h0]
    exact⟨_,by simp[a9,bk,bz,ag],rfl⟩
theorem Ez (l:ah) (h:Head):(om l h).length≤32:=by
 unfold om
 split
 ·rw[Ar];omega
 ·simp
abbrev qM:Nat:=187
def oV:AF:=⟨2,6,[.cell 4 10 true],(.seq (.ops [.i (.lbox 3 (.s 1)), .i (.lal 4 qz)]) (.seq (.ops [qm 6 0, .i (.call 8 97 false [(.s 6),(qi 200)]), .i (.bin 8 .add (qi 2) (.s 7)),qm 9 0, .i (.call 11 97 false [(.s 9),(qi 200)]), .i (.bin 11 .add (qi 1) (.s 10)),qm 12 0,qf 13 3 0,ql 14 3 13 1 false, .i (.call 16 97 false [(.s 12),(.s 14)]),qm 16 0,qk 18 242 16,qm 18 0,qk 20 242 18,qm 20 0,ql 21 3 3 5 true, .i (.call 23 185 false [(.s 20),(.s 21)]), .i (.bld 23 qz [(0,1,(.s 8)),(1,1,(.s 11)),(2,1,(.s 15)),(3,1,(.s 17)),(4,1,(.s 19)),(5,5,(.s 22))]), .i (.lal 5 qz),qs 5 5 23 10]) (.seq (.ops [qm 24 0,qf 25 5 0,ql 26 5 25 1 false, .i (.call 28 97 false [(.s 24),(.s 26)]),qf 28 5 5,qf 29 28 0,qs 5 29 27 1]) (.seq (.ops [qf 30 5 1,ql 31 5 30 1 false, .i (.bin 32 .sub (.s 31) (qi 1)),qf 33 5 5,qf 34 33 1,qs 5 34 32 1]) (.seq (.ops [qf 35 5 3,ql 36 5 35 1 false,qk 38 143 36,qf 38 5 5,qf 39 38 2,qs 5 39 37 1]) (.seq (.ops [ql 40 5 5 10 true,qs 4 4 40 10]) .ret))))))⟩
theorem Cd:cd qM=some oV:=by kernel_rfl
theorem lP (b:Bytes) (i:Nat) (h:Int) (l:ah) (hl:1≤l.n∧l.n≤10) (hi:i≤b.length) (hb:b.length≤1073741824):VC cd qM (ji [] 133 (cur b i h) [(true,l.c)]) (fun r p=>∃x:Head×Nat×Int,(x.1.wc∧x.2.1≤b.length)∧r= [(true,x.1.o)]∧p= [.pt 133 (cur b x.2.1 x.2.2)]):=by
 obtain⟨m,hm⟩:∃m:Nat,l.n=(m:Int):=⟨l.n.toNat,by omega⟩
 refine ay Cd rfl ?_
 simp(disch:=omega) [oV,cur,ah.c,VZ]
 refine dD (aw b i h 200 (by omega) hi hb) ?_
 rintro⟨k1,i1,h1⟩ ⟨g1,j1⟩
 simp only at g1 j1
 simp(disch:=omega) [cur,VZ]
 refine dD (aw b i1 h1 200 (by omega) j1 hb) ?_
 rintro⟨k2,i2,h2⟩ ⟨g2,j2⟩
 simp only at g2 j2
 simp(disch:=omega) [cur,hm,VZ]
 refine dD (aw b i2 h2 m (by omega) j2 hb) ?_
 rintro⟨k3,i3,h3⟩ ⟨g3,j3⟩
 simp only at g3 j3
 simp(disch:=omega) [cur,VZ]
 refine dD (df b i3 h3 j3 hb) ?_
 rintro⟨x4,i4,h4⟩ ⟨g4,j4⟩
 simp only at g4 j4
 simp(disch:=omega) [cur,VZ]
 refine dD (df b i4 h4 j4 hb) ?_
 rintro⟨x5,i5,h5⟩ ⟨g5,j5⟩
 simp only at g5 j5
 simp(disch:=omega) [cur,VZ]
 refine dD (vA b i5 h5 ⟨(m:Int),l.tx,l.txs,l.frame,l.heads⟩ (by simp only;omega) j5 hb) ?_ (n1:=by intro _;simp(disch:=omega) [ah.c,Qc.o,hm,VZ]) (n3:=by intro _;simp(disch:=omega) [ah.c,Qc.o,hm,VZ])
 rintro⟨q6,i6,h6⟩ ⟨g6,j6⟩
 simp only at g6 j6
 obtain⟨⟨_,_,w3,w4,w5⟩,w6⟩:=g6.wc
 simp(disch:=omega) [cur,Qc.o,VZ]
 refine dD (aw b i6 h6 (2+k1) (by omega) j6 hb) ?_
 rintro⟨k7,i7,h7⟩ ⟨g7,j7⟩
 simp only at g7 j7
 simp(disch:=omega) [cur,VZ]
 refine ao (cc x4 (by omega)) ?_
 simp(disch:=omega) [cur,VZ]
 refine⟨⟨2+k1,1+k2,k3,x4,x5,⟨k7,k2,x4,q6.bits,q6.tags⟩⟩,i7,⟨?_,j7⟩,?_,rfl⟩
 ·refine⟨⟨⟨by simp only;omega,by simp only;omega⟩,⟨by simp only;omega,by simp only;omega⟩,⟨by simp only;omega,by simp only;omega⟩,?_,?_,⟨⟨by simp only;omega,by simp only;omega⟩,⟨by simp only;omega,by simp only;omega⟩,?_,w4,w5⟩⟩,w6⟩
  ·unfold Sz;simp only;omega
  ·unfold Sz;simp only;omega
  ·unfold Sz;simp only;omega
 ·have e1:(1+(k2:Int) - 1)=k2:=by omega
  rw[e1]
  rfl
abbrev oy:Nat:=273
def nc:AF:=⟨3,6,[.tmp 6],(.seq (.ops [.i (.lbox 4 (.s 1)), .i (.mov 6 (.c (.val false [.nils])))]) (.seq (.ops [qm 10 0,ql 11 4 4 5 true, .i (.call 13 187 false [(.s 10),(.s 11)]), .i (.bsl 13 45 10 1 qz [(0,10,(.s 12))]),qm 7 13]) (.seq (.block 0 (.loop [59,58,57,56,55,54,53,52,51,50,49,48,47,46,45,44,43,42,41,40,39,38,37,36,35,34,33,32,31,30,29,28,27,26,25,24,23,22,21,20,19,18,17,16,15,14,9,8] (.seq (.seq (.ops [qm 14 7,qn 15 14,qm 16 2,qd 17 .lss 15 16]) (.cond (.s 17) .skip (.exit 0))) (.block 1 (.seq (.ops [qm 18 7,qm 19 7,qn 20 19, .i (.bin 21 .sub (.s 20) (qi 1)), .i (.iad 22 (.s 18) (.s 21) 10), .i (.ldh 23 (.s 22) 10 true), .i (.lal 8 qz),qs 8 8 23 10]) (.seq (.ops [qm 24 0,ql 25 4 4 5 true, .i (.call 27 187 false [(.s 24),(.s 25)]), .i (.lal 9 qz),qs 9 9 26 10]) (.seq (.ops [qf 27 8 0,ql 28 8 27 1 false, .i (.bin 29 .add (.s 28) (qi 1)),qm 30 0, .i (.call 32 97 false [(.s 30),(qi 6)]), .i (.bin 32 .quo (.s 31) (qi 5)),qd 33 .add 29 32,qf 34 9 0,qs 9 34 33 1]) (.seq (.ops [qf 35 8 1,ql 36 8 35 1 false, .i (.bin 37 .add (.s 36) (qi 1)),qf 38 9 1,qs 9 38 37 1]) (.seq (.ops [ql 39 4 4 5 true,ql 40 8 8 10 true, .i (.call 42 274 false [(.s 39),(.s 40)]),qf 42 9 3,qs 9 42 41 1]) (.seq (.ops [qf 43 8 0,ql 44 8 43 1 false,qf 45 9 5,qf 46 45 0,qs 9 46 44 1]) (.seq (.ops [qf 47 8 1,ql 48 8 47 1 false,qf 49 9 5,qf 50 49 1,qs 9 50 48 1]) (.seq (.ops [qf 51 9 3,ql 52 9 51 1 false,qk 54 143 52,qf 54 9 5,qf 55 54 2,qs 9 55 53 1]) (.ops [qm 56 7,ql 57 9 9 10 true, .i (.lsl 58 10 1 qz [(0,10,(.s 57))]), .i (.app 59 45 10 160 (.s 56) (.s 58)),qm 7 59]))))))))))))) (.seq (.ops [qm 60 7,qm 6 60]) .ret))))⟩
theorem zY:cd oy=some nc:=by kernel_rfl
theorem Hz (b:Bytes) (i:Nat) (h:Int) (l:ah) (n:Nat) (hl:1≤l.n∧l.n≤10) (hn:1≤n∧n≤10) (hi:i≤b.length) (hb:b.length≤1073741824):VC cd oy (ji [] 133 (cur b i h) [(true,l.c),(false,[.int .i64 (n:Int)])]) (fun r p=>∃x:List Head×Nat×Int,((x.1.length=n∧∀y∈x.1,y.wc)∧x.2.1≤b.length)∧r= [(false,[.o true (some (45,10)) (eH x.1)])]∧p= [.pt 133 (cur b x.2.1 x.2.2)]):=by
 refine ay zY rfl ?_
 simp(disch:=omega) [nc,cur,ah.c,VZ]
 refine dD (lP b i h l hl hi hb) ?_ (n1:=by intro _;simp(disch:=omega) [ah.c,Head.o,VZ]) (n3:=by intro _;simp(disch:=omega) [ah.c,Head.o,VZ])
 rintro⟨x1,i1,h1⟩ ⟨g1,j1⟩
 simp only at g1 j1
 simp(disch:=omega) [cur,Head.o,ah.c,VZ]
 have e0: [[D.int .i64 x1.view, .int .i64 x1.height, .int .i64 x1.proposer, .sl (bytes x1.parent), .sl (bytes x1.root), .int .i64 x1.qc.view, .int .i64 x1.qc.height, .sl (bytes x1.qc.block), .sl (bytes x1.qc.bits), .sl (bI x1.qc.tags)]]=eH [x1]:=rfl
 rw[e0]
 refine de (σ:=Nat×Nat×Int×List Head) (f1:=_) (es0:=_) (by simp(disch:=omega) [VZ];rfl) (by simp(disch:=omega) [VZ];rfl) (fun p=> [(7, .val false [.ow 13 p.1])]) (fun p=> [(4096, .pt 0 133 [.sl (bytes b), .int .i64 (p.2.1:Int), .int .i64 p.2.2.1]),(13, .sl p.1 true true (some (45,10)) (eH p.2.2.2))])
  (fun p g=>g+p.2.2.2.length=n∧1≤p.2.2.2.length∧p.2.1≤b.length∧∀y∈p.2.2.2,y.wc) (_,i1,h1,[x1]) (n - 1) (by simp(disch:=omega) [VZ];rfl) (by simp(disch:=omega) [VZ]) ⟨by simp;omega,by simp,j1,by simpa using g1⟩ ?_
 rintro⟨v,i2,h2,x⟩ nx g ⟨hg,h5,h6,h7⟩ P hP
 simp only at hg h5 h6 h7
 have hx:(eH x).length=x.length:=cj x
 simp(disch:=omega) [hx,VZ]
 refine ab (fun h8=> ?_) (fun h8=> ?_)
 ·have e1:IntKind.i64.wrap ((x.length:Int) - 1)=((x.length - 1:Nat):Int):=by rw[GP (by omega) (by omega)];omega
  obtain⟨a,e2,hw⟩:∃a:Head,(∀hq:x.length - 1 < (eH x).length,(eH x)[x.length - 1]'hq=a.c)∧a.wc:=⟨x[x.length - 1]'(by omega),fun hq=>by simp[eH],h7 _ (List.getElem_mem _)⟩
  simp(disch:=omega) [hx,e1,e2,Head.c,VZ]
  refine dD (lP b i2 h2 l hl h6 hb) ?_ (n1:=by intro _;simp(disch:=omega) [ah.c,Head.o,VZ]) (n3:=by intro _;simp(disch:=omega) [ah.c,Head.o,VZ])
  rintro⟨y,i3,h3⟩ ⟨g3,j3⟩
  simp only at g3 j3
  simp(disch:=omega) [cur,Head.o,VZ]
  refine dD (aw b i3 h3 6 (by omega) j3 hb) ?_
  rintro⟨k4,i4,h4⟩ ⟨g4,j4⟩
  simp only at g4 j4
  simp(disch:=omega) [cur,VZ]
  refine ao (jE l a hw.1) ?_ (ha:=by first|rfl|(simp[ah.c,Head.c,VY] <;>repeat' constructor))
  have hhl:=Ez l a
  simp(disch:=omega) [cur,VZ]
  refine ao (cc (om l a) (by omega)) ?_
  have ez:=JK x ⟨IntKind.i64.wrap (IntKind.i64.wrap (a.view+1)+(k4:Int) / 5),IntKind.i64.wrap (a.height+1),y.proposer,om l a,y.root,⟨a.view,a.height,om l a,y.qc.bits,y.qc.tags⟩⟩
  simp only at ez
  simp(disch:=omega) [cur,hx,ez,VZ]
  refine hP (_,i4,h4,x++ [⟨IntKind.i64.wrap (IntKind.i64.wrap (a.view+1)+(k4:Int) / 5),IntKind.i64.wrap (a.height+1),y.proposer,om l a,y.root,⟨a.view,a.height,om l a,y.qc.bits,y.qc.tags⟩⟩]) (g - 1) _ _ (by omega) ⟨by simp;omega,by simp,j4,fun z hz=> ?_⟩ (by simp(disch:=omega) [VZ];rfl) (by simp(disch:=omega) [VZ])
  rcases List.mem_append.1 hz with hz|hz
  ·exact h7 z hz
  ·simp only[List.mem_singleton]at hz
   subst hz
   obtain⟨⟨w1,w2,w3,w4,w5,⟨q1,q2,q3,q4,q5⟩⟩,w7⟩:=g3
   have hs:Sz (om l a).length:=by unfold Sz;omega
   exact⟨⟨QH _,QH _,w3,hs,w5,⟨hw.1.1,hw.1.2.1,hs,q4,q5⟩⟩,w7⟩
 ·simp(disch:=omega) [cur,VZ]
  exact⟨x,i2,⟨⟨by omega,h7⟩,h6⟩,rfl,rfl⟩
abbrev tV:Nat:=270
def tS:AF:=⟨2,5,[.tmp 4],(.seq (.ops [.i (.lbox 3 (.s 1)), .i (.mov 4 (.c (.val false [.nils])))]) (.seq (.ops [.i (.bse 8),qm 5 8]) (.seq (.seq (.ops [qm 9 0,qf 10 3 2,ql 11 3 10 1 false, .i (.bin 12 .add (.s 11) (qi 1)), .i (.call 14 97 false [(.s 9),(.s 12)]),qm 6 13]) (.block 0 (.loop [27,26,25,24,23,22,21,20,19,18,17,16,15,14,7] (.seq (.seq (.ops [qm 14 6, .i (.bin 15 .gtr (.s 14) (qi 0))]) (.cond (.s 15) .skip (.exit 0))) (.seq (.block 1 (.seq (.ops [qf 18 3 1,ql 19 3 18 1 false,qm 7 19]) (.seq (.seq (.ops [qm 20 7, .i (.bin 21 .gtr (.s 20) (qi 6))]) (.cond (.s 21) (.ops [.i (.mov 7 (qi 6))]) .skip)) (.ops [qm 22 5,qm 23 0,qm 24 7, .i (.call 26 138 false [(.s 23),(.s 24)]), .i (.lsl 26 1 1 [.nils] [(0,1,(.s 25))]), .i (.app 27 22 1 24 (.s 22) (.s 26)),qm 5 27])))) (.ops [qm 16 6, .i (.bin 17 .sub (.s 16) (qi 1)),qm 6 17])))))) (.seq (.ops [qm 28 5,qm 4 28]) .ret))))⟩
theorem DW:cd tV=some tS:=by kernel_rfl
theorem Km (b:Bytes) (i:Nat) (h:Int) (l:ah) (hl:l.rd) (hi:i≤b.length) (hb:b.length≤1073741824):VC cd tV (ji [] 133 (cur b i h) [(true,l.c)]) (fun r p=>∃x:List Bytes×Nat×Int,((x.1.length≤8∧∀y∈x.1,y.length≤6)∧x.2.1≤b.length)∧r= [(false,[.o true (some (22,1)) (bI x.1)])]∧p= [.pt 133 (cur b x.2.1 x.2.2)]):=by
 have hl1:=hl.2.1
 have hl2:=hl.2.2.1
 obtain⟨m,hm⟩:∃m:Nat,l.txs=(m:Int):=⟨l.txs.toNat,by omega⟩
 obtain⟨t,ht⟩:∃t:Nat,l.tx=(t:Int):=⟨l.tx.toNat,by omega⟩
 refine ay DW rfl ?_
 simp(disch:=omega) [tS,cur,ah.c,hm,ht,VZ]
 refine dD (aw b i h (m+1) (by omega) hi hb) ?_
 rintro⟨k1,i1,h1⟩ ⟨g1,j1⟩
 simp only at g1 j1
 simp(disch:=omega) [cur,VZ]
 refine de (σ:=Nat×Nat×Nat×Int×List Bytes) (f1:=_) (es0:=_) (by simp(disch:=omega) [VZ];rfl) (by simp(disch:=omega) [VZ];rfl) (fun p=> [(6, .val false [.int .i64 (p.1:Int)]),(5, .val false [.ow 8 p.2.1])]) (fun p=> [(4096, .pt 0 133 [.sl (bytes b), .int .i64 (p.2.2.1:Int), .int .i64 p.2.2.2.1]),(8, .sl p.2.1 true true (some (22,1)) (bI p.2.2.2.2))])
  (fun p g=>g=p.1∧p.2.2.1≤b.length∧p.2.2.2.2.length+p.1≤8∧∀y∈p.2.2.2.2,y.length≤6) (k1,_,i1,h1,[]) k1 (by simp(disch:=omega) [VZ];rfl) (by simp(disch:=omega) [bI,VZ]) ⟨rfl,j1,by simp;omega,by simp⟩ ?_
 rintro⟨n,v,i2,h2,x⟩ nx g ⟨hg,h5,h6,h7⟩ P hP
 simp only at hg h5 h6 h7
 simp(disch:=omega) [VZ]
 refine ab (fun h8=> ?_) (fun h8=> ?_)
 ·have e1:IntKind.i64.wrap ((n:Int) - 1)=((n - 1:Nat):Int):=by rw[GP (by omega) (by omega)];omega
  have hlx:(bI x).length=x.length:=aq x
  simp(disch:=omega) [VZ]
  refine ab (fun h9=> ?_) (fun h9=> ?_)
  ·simp(disch:=omega) [VZ]
   refine dD (gG b i2 h2 6 (by omega) h5 hb) ?_
   rintro⟨y,i3,h3⟩ ⟨g3,j3⟩
   simp only at g3 j3
   simp(disch:=omega) [cur,e1,hlx,lU,VZ]
   refine hP (n - 1,_,i3,h3,x++ [y]) (g - 1) _ _ (by omega) ⟨by simp only;omega,j3,by simp;omega,fun z hz=> ?_⟩ (by simp(disch:=omega) [VZ];rfl) (by simp(disch:=omega) [VZ])
   rcases List.mem_append.1 hz with hz|hz
   ·exact h7 z hz
   ·simp only[List.mem_singleton]at hz;subst hz;omega
  ·simp(disch:=omega) [VZ]
   refine dD (gG b i2 h2 t (by omega) h5 hb) ?_
   rintro⟨y,i3,h3⟩ ⟨g3,j3⟩
   simp only at g3 j3
   simp(disch:=omega) [cur,e1,hlx,lU,VZ]
   refine hP (n - 1,_,i3,h3,x++ [y]) (g - 1) _ _ (by omega) ⟨by simp only;omega,j3,by simp;omega,fun z hz=> ?_⟩ (by simp(disch:=omega) [VZ];rfl) (by simp(disch:=omega) [VZ])
   rcases List.mem_append.1 hz with hz|hz
   ·exact h7 z hz
   ·simp only[List.mem_singleton]at hz;subst hz;omega
 ·simp(disch:=omega) [cur,VZ]
  exact⟨x,i2,⟨⟨by omega,h7⟩,h5⟩,rfl,rfl⟩
theorem BW:bc.wc:=by
 refine⟨⟨⟨by decide,by decide⟩,⟨by decide,by decide⟩,⟨by decide,by decide⟩,by simp[bc,Sz],by simp[bc,Sz],⟨⟨by decide,by decide⟩,⟨by decide,by decide⟩,by simp[bc,fv,Sz],by simp[bc,fv,Sz],by simp[bc,fv,Sz]⟩⟩,fun x hx=>by simp[bc,fv]at hx⟩
def AU (l:ah) (h:Head) (t:List Bytes):Block:=if bg l (fQ h t)=true then fQ h t else aF
theorem KW {l:ah} {h:Head} {t:List Bytes} (hw:h.wc) (ht:t.length≤8∧∀y∈t,y.length≤6):(AU l h t).wx:=by
 have hb:mH t:=⟨by unfold Sz;omega,fun x hx=>by have:=ht.2 x hx;unfold Sz;omega⟩
 unfold AU
 split
 ·exact⟨yO hw hb,fun x hx=>by have:=ht.2 x hx;omega⟩
 ·exact⟨⟨BW,by simp[aF,mH,Sz]⟩,by simp[aF]⟩
theorem yD (l:ah) (h:Head) (t:List Bytes) (hw:h.wc) (ht:t.length≤8∧∀y∈t,y.length≤6):VC cd ja (aE [(true,l.c),(true,h.c),(false,[.sl (bI t)])]) (fun rs _=>rs= [(true,(AU l h t).o),(false,[.p (.bool (bg l (fQ h t)))])]):=
 (zl l h t hw ⟨by unfold Sz;omega,fun x hx=>by have:=ht.2 x hx;unfold Sz;omega⟩ (fun x hx=>by have:=ht.2 x hx;omega)).own fun rs ps q=>by
   rw[q,Ck,AU]
   by_cases h0:bg l (fQ h t)=true
   ·rw[if_pos h0,if_pos h0,h0]
    exact⟨_,by simp[a9,bk,bz,fQ,Block.o],rfl⟩
   ·have h1:bg l (fQ h t)=false:=by simpa using h0
    rw[if_neg h0,if_neg h0,h1]
    exact⟨_,by simp[a9,bk,bz,Block.o,aF,bc,fv,ag,bI],rfl⟩
abbrev oT:Nat:=189
def pZ:AF:=⟨2,5,[.cell 4 11 true],(.seq (.ops [.i (.lbox 3 (.s 1)), .i (.lal 4 [.int .i64 0, .int .i64 0, .int .i64 0, .nils, .nils, .int .i64 0, .int .i64 0, .nils, .nils, .nils, .nils])]) (.seq (.ops [ql 8 3 3 5 true,qm 9 0,ql 10 3 3 5 true, .i (.call 12 187 false [(.s 9),(.s 10)]),qm 12 0,ql 13 3 3 5 true, .i (.call 15 270 false [(.s 12),(.s 13)]), .i (.call 16 269 false [(.s 8),(.s 11),(.s 14)]),qm 7 15, .i (.ext 16 (.s 7) 0), .i (.ext 17 (.s 7) 1), .i (.lal 5 [.int .i64 0, .int .i64 0, .int .i64 0, .nils, .nils, .int .i64 0, .int .i64 0, .nils, .nils, .nils, .nils]),qs 5 5 16 11,qm 6 17]) (.seq (.ops [ql 18 5 5 11 true,qs 4 4 18 11]) .ret)))⟩
theorem Bj:cd oT=some pZ:=by kernel_rfl
theorem IG (b:Bytes) (i:Nat) (h:Int) (l:ah) (hl:l.rd) (hi:i≤b.length) (hb:b.length≤1073741824):VC cd oT (ji [] 133 (cur b i h) [(true,l.c)]) (fun r p=>∃x:Block×Nat×Int,(x.1.wx∧x.2.1≤b.length)∧r= [(true,x.1.o)]∧p= [.pt 133 (cur b x.2.1 x.2.2)]):=by
 refine ay Bj rfl ?_
 simp(disch:=omega) [pZ,cur,ah.c,VZ]
 refine dD (lP b i h l hl.1 hi hb) ?_ (n1:=by intro _;simp(disch:=omega) [ah.c,Head.o,VZ]) (n3:=by intro _;simp(disch:=omega) [ah.c,Head.o,VZ])
 rintro⟨x1,i1,h1⟩ ⟨g1,j1⟩
 simp only at g1 j1
 simp(disch:=omega) [cur,Head.o,VZ]
 refine dD (Km b i1 h1 l hl j1 hb) ?_ (n1:=by intro _;simp(disch:=omega) [ah.c,VZ]) (n3:=by intro _;simp(disch:=omega) [ah.c,VZ])
 rintro⟨x2,i2,h2⟩ ⟨g2,j2⟩
 simp only at g2 j2
 simp(disch:=omega) [cur,VZ]
 refine ao (yD l x1 x2 g1 g2) ?_ (ha:=by first|rfl|(simp[ah.c,Head.c,VY] <;>repeat' constructor))
 have hw:=KW (l:=l) g1 g2
 generalize AU l x1 x2=y at hw
 simp(disch:=omega) [cur,Block.o,VZ]
 exact⟨y,i2,⟨hw,j2⟩,by simp,rfl⟩
end Go.Eng.F
namespace Go.Eng.F
abbrev p0:Nat:=191
def oU:AF:=⟨2,6,[.cell 4 2 true],(.seq (.ops [.i (.lbox 3 (.s 1)), .i (.lal 4 [.int .i64 0, .nils])]) (.seq (.ops [qm 7 0, .i (.call 9 97 false [(.s 7),(qi 200)]), .i (.bin 9 .add (qi 1) (.s 8)), .i (.bld 10 [.int .i64 0, .nils] [(0,1,(.s 9))]), .i (.lal 5 [.int .i64 0, .nils]),qs 5 5 10 2]) (.seq (.seq (.ops [.i (.mov 6 (qi 0))]) (.block 0 (.loop [32,31,30,29,28,27,26,25,24,23,22,21,20,19,18,17,16,15,14,13,12,11] (.seq (.seq (.ops [qm 11 6,qf 12 3 0,ql 13 3 12 1 false,qd 14 .lss 11 13]) (.cond (.s 14) .skip (.exit 0))) (.seq (.block 1 (.seq (.ops [qm 17 0, .i (.call 19 135 false [(.s 17),(qi 3)]), .i (.not 19 (.s 18))]) (.cond (.s 19) (.ops [qf 20 5 1,ql 21 5 20 1 false,qm 22 6,qm 23 0,qf 24 5 0,ql 25 5 24 1 false, .i (.call 27 97 false [(.s 23),(.s 25)]),qm 27 0,qk 29 242 27, .i (.bld 29 [.int .i64 0, .int .i64 0, .nils] [(0,1,(.s 22)),(1,1,(.s 26)),(2,1,(.s 28))]), .i (.lsl 30 3 1 [.int .i64 0, .int .i64 0, .nils] [(0,3,(.s 29))]), .i (.app 31 165 3 40 (.s 21) (.s 30)),qf 32 5 1,qs 5 32 31 1]) .skip))) (.ops [qm 15 6, .i (.bin 16 .add (.s 15) (qi 1)),qm 6 16])))))) (.seq (.ops [ql 33 5 5 2 true,qs 4 4 33 2]) .ret))))⟩
theorem CY:cd p0=some oU:=by kernel_rfl
theorem Iv (b:Bytes) (i:Nat) (h:Int) (l:ah) (hl:1≤l.n∧l.n≤10) (hi:i≤b.length) (hb:b.length≤1073741824):VC cd p0 (ji [] 133 (cur b i h) [(true,l.c)]) (fun r p=>∃x:Tc×Nat×Int,(x.1.wf∧x.2.1≤b.length)∧r= [(true,x.1.o)]∧p= [.pt 133 (cur b x.2.1 x.2.2)]):=by
 refine ay CY rfl ?_
 simp(disch:=omega) [oU,cur,ah.c,VZ]
 refine dD (aw b i h 200 (by omega) hi hb) ?_
 rintro⟨k1,i1,h1⟩ ⟨g1,j1⟩
 simp only at g1 j1
 simp(disch:=omega) [cur,VZ]
 refine dQ (σ:=Nat×Nat×Nat×Int×List Entry) (f0:=_) (by simp(disch:=omega) [VZ];rfl) (dk.yd (s:=5) (k:=5) (i:=1) rfl rfl) (f1:=_) (es0:=_) (by simp(disch:=omega) [VZ];rfl) (by simp(disch:=omega) [VZ];rfl) (fun p=> [(6, .val false [.int .i64 (p.1:Int)]),(5, .box [.int .i64 (1+(k1:Int)), .ow 5 p.2.1])]) (fun p=> [(4096, .pt 0 133 [.sl (bytes b), .int .i64 (p.2.2.1:Int), .int .i64 p.2.2.2.1]),(5, .sl p.2.1 true true (some (165,3)) (ix p.2.2.2.2))])
  (fun p g=>(g:Int)+p.1=l.n∧p.2.2.1≤b.length∧p.2.2.2.2.length≤p.1∧∀r∈p.2.2.2.2,r.wf) (0,_,i1,h1,[]) l.n.toNat (by simp(disch:=omega) [VZ];rfl) (by simp(disch:=omega) [ix,VZ]) ⟨by simp only;omega,j1,by simp,by simp⟩ ?_
 rintro⟨n,v,i2,h2,x⟩ nx g ⟨hg,a5,a6,a7⟩ P hP
 simp only at hg a5 a6 a7
 have hlx:(ix x).length=x.length:=bZ x
 simp(disch:=omega) [VZ]
 refine ab (fun h8=> ?_) (fun h8=> ?_)
 ·simp(disch:=omega) [VZ]
  refine dD (vC b i2 h2 3 (by omega) a5 hb) ?_
  rintro⟨y,i3,h3⟩ j3
  simp only at j3
  cases y with
  |true=>
   simp(disch:=omega) [cur,VZ]
   exact hP (n+1,v,i3,h3,x) (g - 1) _ _ (by omega) ⟨by simp only;omega,j3,by simp only;omega,a7⟩ (by simp(disch:=omega) [VZ] <;>rfl) (by simp(disch:=omega) [VZ])
  |false=>
   simp(disch:=omega) [cur,VZ]
   refine dD (aw b i3 h3 (1+k1) (by omega) j3 hb) ?_
   rintro⟨k4,i4,h4⟩ ⟨g4,j4⟩
   simp only at g4 j4
   simp(disch:=omega) [cur,VZ]
   refine dD (df b i4 h4 j4 hb) ?_
   rintro⟨x5,i5,h5⟩ ⟨g5,j5⟩
   simp only at g5 j5
   simp(disch:=omega) [cur,hlx,JD,VZ]
   refine hP (n+1,_,i5,h5,x++ [⟨n,k4,x5⟩]) (g - 1) _ _ (by omega) ⟨by simp only;omega,j5,by simp;omega,fun z hz=> ?_⟩ (by simp(disch:=omega) [VZ] <;>rfl) (by simp(disch:=omega) [VZ])
   rcases List.mem_append.1 hz with hz|hz
   ·exact a7 z hz
   ·simp only[List.mem_singleton]at hz
    subst hz
    exact⟨⟨by simp only;omega,by simp only;omega⟩,⟨by simp only;omega,by simp only;omega⟩,by unfold Sz;simp only;omega⟩
 ·simp(disch:=omega) [cur,VZ]
  refine⟨⟨1+k1,x⟩,i2,⟨⟨⟨by simp only;omega,by simp only;omega⟩,by unfold Sz;simp only;omega,a7⟩,a5⟩,rfl,rfl⟩
abbrev qh:Nat:=193
def qT:AF:=⟨2,6,[.cell 4 6 true],(.seq (.ops [.i (.lbox 3 (.s 1)), .i (.lal 4 [.nils, .int .i64 0, .int .i64 0, .nils, .nils, .nils])]) (.seq (.ops [qm 7 0,ql 8 3 3 5 true,qm 9 0,qf 10 3 4,ql 11 3 10 1 false, .i (.bin 12 .sub (.s 11) (qi 2)), .i (.call 14 97 false [(.s 9),(.s 12)]), .i (.bin 14 .add (qi 3) (.s 13)), .i (.call 16 273 false [(.s 7),(.s 8),(.s 14)]),qm 16 0,ql 17 3 3 5 true, .i (.call 19 185 false [(.s 16),(.s 17)]), .i (.bld 19 [.nils, .int .i64 0, .int .i64 0, .nils, .nils, .nils] [(0,1,(.s 15)),(1,5,(.s 18))]), .i (.lal 5 [.nils, .int .i64 0, .int .i64 0, .nils, .nils, .nils]),qs 5 5 19 6]) (.seq (.ops [qf 20 5 0,ql 21 5 20 1 false,qf 22 5 0,ql 23 5 22 1 false,qn 24 23, .i (.bin 25 .sub (.s 24) (qi 1)), .i (.iad 26 (.s 21) (.s 25) 10), .i (.ldh 27 (.s 26) 10 true), .i (.lal 6 qz),qs 6 6 27 10]) (.seq (.ops [qf 28 6 0,ql 29 6 28 1 false,qf 30 5 1,qf 31 30 0,qs 5 31 29 1]) (.seq (.ops [qf 32 6 1,ql 33 6 32 1 false,qf 34 5 1,qf 35 34 1,qs 5 35 33 1]) (.seq (.ops [ql 36 3 3 5 true,ql 37 6 6 10 true, .i (.call 39 274 false [(.s 36),(.s 37)]),qf 39 5 1,qf 40 39 2,qs 5 40 38 1]) (.seq (.ops [ql 41 5 5 6 true,qs 4 4 41 6]) .ret)))))))⟩
theorem CK:cd qh=some qT:=by kernel_rfl
theorem Jm (b:Bytes) (i:Nat) (h:Int) (l:ah) (hl:l.rd) (hi:i≤b.length) (hb:b.length≤1073741824):VC cd qh (ji [] 133 (cur b i h) [(true,l.c)]) (fun r p=>∃x:Proof×Nat×Int,(x.1.wc∧x.2.1≤b.length)∧r= [(true,x.1.o)]∧p= [.pt 133 (cur b x.2.1 x.2.2)]):=by
 have hl4:=hl.2.2.2
 obtain⟨m,hm⟩:∃m:Nat,l.heads=(m:Int):=⟨l.heads.toNat,by omega⟩
 have em:(m:Int) - 2=((m - 2:Nat):Int):=by omega
 refine ay CK rfl ?_
 simp(disch:=omega) [qT,cur,ah.c,hm,em,VZ]
 refine dD (aw b i h (m - 2) (by omega) hi hb) ?_
 rintro⟨k1,i1,h1⟩ ⟨g1,j1⟩
 simp only at g1 j1
 simp(disch:=omega) [cur,VZ]
 refine dD (Hz b i1 h1 ⟨l.n,l.tx,l.txs,l.frame,(m:Int)⟩ (3+k1) hl.1 (by omega) j1 hb) ?_ (n1:=by intro _;simp(disch:=omega) [ah.c,VZ]) (n3:=by intro _;simp(disch:=omega) [ah.c,VZ])
 rintro⟨x2,i2,h2⟩ ⟨⟨g2,w2⟩,j2⟩
 simp only at g2 w2 j2
 simp(disch:=omega) [cur,VZ]
 refine dD (vA b i2 h2 ⟨l.n,l.tx,l.txs,l.frame,(m:Int)⟩ hl.1 j2 hb) ?_ (n1:=by intro _;simp(disch:=omega) [ah.c,Qc.o,VZ]) (n3:=by intro _;simp(disch:=omega) [ah.c,Qc.o,VZ])
 rintro⟨x3,i3,h3⟩ ⟨g3,j3⟩
 simp only at g3 j3
 have w3:=g3.wc
 have hx:(eH x2).length=x2.length:=cj x2
 have e1:IntKind.i64.wrap ((x2.length:Int) - 1)=((x2.length - 1:Nat):Int):=by rw[GP (by omega) (by omega)];omega
 obtain⟨a,e2,hw⟩:∃a:Head,(∀hq:x2.length - 1 < (eH x2).length,(eH x2)[x2.length - 1]'hq=a.c)∧a.wc:=⟨x2[x2.length - 1]'(by omega),fun hq=>by simp[eH],w2 _ (List.getElem_mem _)⟩
 have hhl:=Ez ⟨l.n,l.tx,l.txs,l.frame,(m:Int)⟩ a
 simp(disch:=omega) [cur,Qc.o,hx,e1,e2,Head.c,VZ]
 refine ao (jE ⟨l.n,l.tx,l.txs,l.frame,(m:Int)⟩ a hw.1) ?_ (ha:=by first|rfl|(simp[ah.c,Head.c,VY] <;>repeat' constructor))
 generalize om ⟨l.n,l.tx,l.txs,l.frame,(m:Int)⟩ a=y at hhl
 simp(disch:=omega) [cur,Proof.o,VZ]
 refine⟨⟨x2,⟨a.view,a.height,y,x3.bits,x3.tags⟩⟩,i3,⟨?_,j3⟩,?_,rfl⟩
 ·obtain⟨⟨q1,q2,q3,q4,q5⟩,q6⟩:=w3
  have hs:Sz y.length:=by unfold Sz;omega
  exact⟨⟨⟨by unfold Sz;simp only;omega,fun z hz=>(w2 z hz).1⟩,⟨hw.1.1,hw.1.2.1,hs,q4,q5⟩⟩,w2,⟨hw.1.1,hw.1.2.1,hs,q4,q5⟩,q6⟩
 ·simp
end Go.Eng.F
namespace Go.Eng.F
structure Ev where
 kind:Int
 n:Int
 msg:aJ
def Ev.c (e:Ev):List D:= .int .i64 e.kind:: .int .i64 e.n::e.msg.c
def QI (s:Bytes) (a n:Nat):Bytes:=(s.drop (a+8)).take (n - 8)
def MW (k:Nat):List Ev:=if k=0 then []else [⟨1,k,av⟩]
def Qo (l:ah) (d:Bytes):Ev:=if(dec l d).2=0 then⟨3,0,(dec l d).1⟩else⟨2,(dec l d).2,av⟩
def LC (l:ah) (s:Bytes) (cl:Bool):Nat→Nat→Nat→List Ev→List Ev×Nat×Nat
 |0,a,k,e=>(e,k,a)
 |g+1,a,k,e=>
  if a < s.length then
   if(Ap l s a).1=1∧cl=false then(e,k,a)
   else if(Ap l s a).1≠3 then LC l s cl g (a+1) (k+1) e
   else LC l s cl g (a+(Ap l s a).2.toNat) 0 (e++(MW k++ [Qo l (QI s a (Ap l s a).2.toNat)]))
  else(e,k,a)
def O5 (l:ah) (s:Bytes) (cl:Bool) (k:Nat):List Ev×Nat×Nat:=
 let r:=LC l s cl s.length 0 k []
 (r.1++(if cl=true then MW r.2.1 else []),r.2)
end Go.Eng.F
namespace Go.Eng.F
def tail (l:ah) (s:Bytes):Nat×Nat:=if l.ok=true then((O5 l s false 0).2.1,s.length - (O5 l s false 0).2.2)else(0,0)
end Go.Eng.F
namespace Go.Eng.F
def QT (n w:Nat):Bytes:=(List.range w).map fun i=>b8 ((n / 256 ^ i:Nat):Int)
def QB (b:Bytes):Bytes:= [181,70]++QT b.length 2++QT (Sl b) 4++b
def OM (l:ah) (b:Bytes):Bool:=l.ok && c9 b.length 1 l.frame
end Go.Eng.F
namespace Go.Eng.F
abbrev ri:Nat:=195
def qJ:AF:=⟨2,6,[.cell 4 5 true],(.seq (.ops [.i (.lbox 3 (.s 1)), .i (.lal 4 [.int .i64 0, .int .i64 0, .int .i64 0, .nils, .nils])]) (.seq (.ops [qm 8 0, .i (.call 10 97 false [(.s 8),(qi 8)]), .i (.bin 10 .add (qi 1) (.s 9)),qm 5 10]) (.seq (.seq (.ops [qf 11 3 2,ql 12 3 11 1 false, .i (.bin 13 .gtr (.s 12) (qi 0))]) (.cond (.s 13) (.ops [qm 14 0,qf 15 3 2,ql 16 3 15 1 false, .i (.call 18 97 false [(.s 14),(.s 16)]), .i (.bin 18 .add (qi 1) (.s 17)),qm 5 18]) .skip)) (.seq (.ops [qm 19 0, .i (.call 21 97 false [(.s 19),(qi 200)]),qm 21 5,qm 22 0,qm 23 5, .i (.call 25 97 false [(.s 22),(.s 23)]),qm 25 0, .i (.call 27 138 false [(.s 25),(qi 3)]), .i (.bld 27 [.int .i64 0, .int .i64 0, .int .i64 0, .nils, .nils] [(0,1,(.s 20)),(1,1,(.s 21)),(2,1,(.s 24)),(3,1,(.s 26))]), .i (.lal 6 [.int .i64 0, .int .i64 0, .int .i64 0, .nils, .nils]),qs 6 6 27 5]) (.seq (.seq (.ops [qf 28 3 1,ql 29 3 28 1 false, .i (.bin 30 .lss (.s 29) (qi 3))]) (.cond (.s 30) (.ops [qf 31 6 3, .i (.stl 6 (.s 31) (.c (.val false [.nils])) 1)]) .skip)) (.seq (.seq (.ops [qf 32 6 2,ql 33 6 32 1 false,qm 34 5, .i (.call 36 276 false [(.s 33),(.s 34)]),qm 7 35]) (.block 0 (.loop [46,45,44,43,42,41,40,39,38,37,36] (.seq (.seq (.ops [qm 36 7, .i (.bin 37 .gtr (.s 36) (qi 0))]) (.cond (.s 37) .skip (.exit 0))) (.seq (.block 1 (.ops [qf 40 6 4,ql 41 6 40 1 false,qm 42 0,qk 44 242 42, .i (.lsl 44 1 1 [.nils] [(0,1,(.s 43))]), .i (.app 45 22 1 24 (.s 41) (.s 44)),qf 46 6 4,qs 6 46 45 1])) (.ops [qm 38 7, .i (.bin 39 .sub (.s 38) (qi 1)),qm 7 39])))))) (.seq (.ops [ql 47 6 6 5 true,qs 4 4 47 5]) .ret)))))))⟩
theorem Cr:cd ri=some qJ:=by kernel_rfl
theorem I8 (b:Bytes) (i:Nat) (h:Int) (l:ah) (hl:l.rd) (hi:i≤b.length) (hb:b.length≤1073741824):VC cd ri (ji [] 133 (cur b i h) [(true,l.c)]) (fun r p=>∃x:aU×Nat×Int,((x.1.wc∧x.1.tx.length≤3)∧x.2.1≤b.length)∧r= [(true,x.1.o)]∧p= [.pt 133 (cur b x.2.1 x.2.2)]):=by
 refine VC.xb ?_
 have hl2:=hl.2.2.1
 obtain⟨m,hm⟩:∃m:Nat,l.txs=(m:Int):=⟨l.txs.toNat,by omega⟩
 refine ay Cr rfl ?_
 simp(disch:=omega) [qJ,cur,ah.c,hm,VZ]
 refine dD (aw b i h 8 (by omega) hi hb) ?_
 rintro⟨k1,i1,h1⟩ ⟨g1,j1⟩
 simp only at g1 j1
 simp(disch:=omega) [cur,VZ]
 refine ab (fun h0=> ?_) (fun h0=> ?_)
 case refine_1=>
  simp(disch:=omega) [VZ]
  refine dD (aw b i1 h1 m (by omega) j1 hb) ?_
  rintro⟨k2,i2,h2⟩ ⟨g2,j2⟩
  simp only at g2 j2
  simp(disch:=omega) [cur,VZ]
  have hk:k2 < 8:=by omega
  refine dD (aw b i2 h2 200 (by omega) j2 hb) ?_
  rintro⟨k3,i3,h3⟩ ⟨g3,j3⟩
  simp only at g3 j3
  simp(disch:=omega) [cur,VZ]
  refine dD (aw b i3 h3 (1+k2) (by omega) j3 hb) ?_
  rintro⟨k4,i4,h4⟩ ⟨g4,j4⟩
  simp only at g4 j4
  simp(disch:=omega) [cur,VZ]
  refine dD (gG b i4 h4 3 (by omega) j4 hb) ?_
  rintro⟨x5,i5,h5⟩ ⟨g5,j5⟩
  simp only at g5 j5
  have hpl:=cB (1+k2) k4
  simp(disch:=omega) [cur,VZ]
  refine ab (fun h6=> ?_) (fun h6=> ?_)
  case refine_1=>
   simp(disch:=omega) [VZ]
   refine ao (dX (1+k2) k4 (by omega) (by omega)) ?_
   simp(disch:=omega) [VZ]
   refine dQ (σ:=Nat×Nat×Nat×Int×List Bytes) (f0:=_) (by simp(disch:=omega) [VZ];rfl) (dk.yd (s:=6) (k:=5) (i:=4) rfl rfl) (f1:=_) (es0:=_) (by simp(disch:=omega) [VZ];rfl) (by simp(disch:=omega) [VZ];rfl) (fun p=> [(7, .val false [.int .i64 (p.1:Int)]),(6, .box [.int .i64 (k3:Int), .int .i64 (1+(k2:Int)), .int .i64 (k4:Int), .nils, .ow 5 p.2.1])]) (fun p=> [(4096, .pt 0 133 [.sl (bytes b), .int .i64 (p.2.2.1:Int), .int .i64 p.2.2.2.1]),(5, .sl p.2.1 true true (some (22,1)) (bI p.2.2.2.2))])
    (fun p g=>g=p.1∧p.2.2.1≤b.length∧p.2.2.2.2.length+p.1≤9∧∀t∈p.2.2.2.2,t.length=32) (bh k4 (1+k2),_,i5,h5,[]) (bh k4 (1+k2)) (by simp(disch:=omega) [VZ];rfl) (by simp(disch:=omega) [bI,VZ]) ⟨rfl,j5,by simp;omega,by simp⟩ ?_
   rintro⟨n,v,i7,h7,x⟩ nx g ⟨hg,a5,a6,a7⟩ P hP
   simp only at hg a5 a6 a7
   have hlx:(bI x).length=x.length:=aq x
   simp(disch:=omega) [VZ]
   refine ab (fun h8=> ?_) (fun h8=> ?_)
   case refine_1=>
    simp(disch:=omega) [VZ]
    refine dD (df b i7 h7 a5 hb) ?_
    rintro⟨y,i8,h9⟩ ⟨g8,j8⟩
    simp only at g8 j8
    have e1:IntKind.i64.wrap ((n:Int) - 1)=((n - 1:Nat):Int):=by rw[GP (by omega) (by omega)];omega
    simp(disch:=omega) [cur,hlx,e1,lU,VZ]
    refine hP (n - 1,_,i8,h9,x++ [y]) (g - 1) _ _ (by omega) ⟨by simp only;omega,j8,by simp;omega,fun z hz=> ?_⟩ (by simp(disch:=omega) [VZ];rfl) (by simp(disch:=omega) [VZ])
    rcases List.mem_append.1 hz with hz|hz
    ·exact a7 z hz
    ·simp only[List.mem_singleton]at hz;subst hz;exact g8
   case refine_2=>
    simp(disch:=omega) [cur,VZ]
    refine⟨[(true,aU.o ⟨k3,1+k2,k4,[],x⟩)],by simp[a9,bk,bz,aU.o,ag],⟨k3,1+k2,k4,[],x⟩,i7,⟨⟨?_,by simp;try omega⟩,a5⟩,rfl,rfl⟩
    refine⟨⟨by simp only;omega,by simp only;omega⟩,⟨by simp only;omega,by simp only;omega⟩,⟨by simp only;omega,by simp only;omega⟩,by unfold Sz;simp;try omega,⟨by unfold Sz;simp only;omega,fun z hz=>by have:=a7 z hz;unfold Sz;omega⟩⟩
  case refine_2=>
   simp(disch:=omega) [VZ]
   refine ao (dX (1+k2) k4 (by omega) (by omega)) ?_
   simp(disch:=omega) [VZ]
   refine dQ (σ:=Nat×Nat×Nat×Int×List Bytes) (f0:=_) (by simp(disch:=omega) [VZ];rfl) (dk.yd (s:=6) (k:=5) (i:=4) rfl rfl) (f1:=_) (es0:=_) (by simp(disch:=omega) [VZ];rfl) (by simp(disch:=omega) [VZ];rfl) (fun p=> [(7, .val false [.int .i64 (p.1:Int)]),(6, .box [.int .i64 (k3:Int), .int .i64 (1+(k2:Int)), .int .i64 (k4:Int), .ow 229376 29, .ow 5 p.2.1])]) (fun p=> [(4096, .pt 0 133 [.sl (bytes b), .int .i64 (p.2.2.1:Int), .int .i64 p.2.2.2.1]),(5, .sl p.2.1 true true (some (22,1)) (bI p.2.2.2.2))])
    (fun p g=>g=p.1∧p.2.2.1≤b.length∧p.2.2.2.2.length+p.1≤9∧∀t∈p.2.2.2.2,t.length=32) (bh k4 (1+k2),_,i5,h5,[]) (bh k4 (1+k2)) (by simp(disch:=omega) [VZ];rfl) (by simp(disch:=omega) [bI,VZ]) ⟨rfl,j5,by simp;omega,by simp⟩ ?_
   rintro⟨n,v,i7,h7,x⟩ nx g ⟨hg,a5,a6,a7⟩ P hP
   simp only at hg a5 a6 a7
   have hlx:(bI x).length=x.length:=aq x
   simp(disch:=omega) [VZ]
   refine ab (fun h8=> ?_) (fun h8=> ?_)
   case refine_1=>
    simp(disch:=omega) [VZ]
    refine dD (df b i7 h7 a5 hb) ?_
    rintro⟨y,i8,h9⟩ ⟨g8,j8⟩
    simp only at g8 j8
    have e1:IntKind.i64.wrap ((n:Int) - 1)=((n - 1:Nat):Int):=by rw[GP (by omega) (by omega)];omega
    simp(disch:=omega) [cur,hlx,e1,lU,VZ]
    refine hP (n - 1,_,i8,h9,x++ [y]) (g - 1) _ _ (by omega) ⟨by simp only;omega,j8,by simp;omega,fun z hz=> ?_⟩ (by simp(disch:=omega) [VZ];rfl) (by simp(disch:=omega) [VZ])
    rcases List.mem_append.1 hz with hz|hz
    ·exact a7 z hz
    ·simp only[List.mem_singleton]at hz;subst hz;exact g8
   case refine_2=>
    simp(disch:=omega) [cur,VZ]
    refine⟨[(true,aU.o ⟨k3,1+k2,k4,x5,x⟩)],by simp[a9,bk,bz,aU.o,ag],⟨k3,1+k2,k4,x5,x⟩,i7,⟨⟨?_,by simp;try omega⟩,a5⟩,rfl,rfl⟩
    refine⟨⟨by simp only;omega,by simp only;omega⟩,⟨by simp only;omega,by simp only;omega⟩,⟨by simp only;omega,by simp only;omega⟩,by unfold Sz;simp;try omega,⟨by unfold Sz;simp only;omega,fun z hz=>by have:=a7 z hz;unfold Sz;omega⟩⟩
 case refine_2=>
  simp(disch:=omega) [VZ]
  have hk:k1 < 8:=by omega
  refine dD (aw b i1 h1 200 (by omega) j1 hb) ?_
  rintro⟨k3,i3,h3⟩ ⟨g3,j3⟩
  simp only at g3 j3
  simp(disch:=omega) [cur,VZ]
  refine dD (aw b i3 h3 (1+k1) (by omega) j3 hb) ?_
  rintro⟨k4,i4,h4⟩ ⟨g4,j4⟩
  simp only at g4 j4
  simp(disch:=omega) [cur,VZ]
  refine dD (gG b i4 h4 3 (by omega) j4 hb) ?_
  rintro⟨x5,i5,h5⟩ ⟨g5,j5⟩
  simp only at g5 j5
  have hpl:=cB (1+k1) k4
  simp(disch:=omega) [cur,VZ]
  refine ab (fun h6=> ?_) (fun h6=> ?_)
  case refine_1=>
   simp(disch:=omega) [VZ]
   refine ao (dX (1+k1) k4 (by omega) (by omega)) ?_
   simp(disch:=omega) [VZ]
   refine dQ (σ:=Nat×Nat×Nat×Int×List Bytes) (f0:=_) (by simp(disch:=omega) [VZ];rfl) (dk.yd (s:=6) (k:=5) (i:=4) rfl rfl) (f1:=_) (es0:=_) (by simp(disch:=omega) [VZ];rfl) (by simp(disch:=omega) [VZ];rfl) (fun p=> [(7, .val false [.int .i64 (p.1:Int)]),(6, .box [.int .i64 (k3:Int), .int .i64 (1+(k1:Int)), .int .i64 (k4:Int), .nils, .ow 5 p.2.1])]) (fun p=> [(4096, .pt 0 133 [.sl (bytes b), .int .i64 (p.2.2.1:Int), .int .i64 p.2.2.2.1]),(5, .sl p.2.1 true true (some (22,1)) (bI p.2.2.2.2))])
    (fun p g=>g=p.1∧p.2.2.1≤b.length∧p.2.2.2.2.length+p.1≤9∧∀t∈p.2.2.2.2,t.length=32) (bh k4 (1+k1),_,i5,h5,[]) (bh k4 (1+k1)) (by simp(disch:=omega) [VZ];rfl) (by simp(disch:=omega) [bI,VZ]) ⟨rfl,j5,by simp;omega,by simp⟩ ?_
   rintro⟨n,v,i7,h7,x⟩ nx g ⟨hg,a5,a6,a7⟩ P hP
   simp only at hg a5 a6 a7
   have hlx:(bI x).length=x.length:=aq x
   simp(disch:=omega) [VZ]
   refine ab (fun h8=> ?_) (fun h8=> ?_)
   case refine_1=>
    simp(disch:=omega) [VZ]
    refine dD (df b i7 h7 a5 hb) ?_
    rintro⟨y,i8,h9⟩ ⟨g8,j8⟩
    simp only at g8 j8
    have e1:IntKind.i64.wrap ((n:Int) - 1)=((n - 1:Nat):Int):=by rw[GP (by omega) (by omega)];omega
    simp(disch:=omega) [cur,hlx,e1,lU,VZ]
    refine hP (n - 1,_,i8,h9,x++ [y]) (g - 1) _ _ (by omega) ⟨by simp only;omega,j8,by simp;omega,fun z hz=> ?_⟩ (by simp(disch:=omega) [VZ];rfl) (by simp(disch:=omega) [VZ])
    rcases List.mem_append.1 hz with hz|hz
    ·exact a7 z hz
    ·simp only[List.mem_singleton]at hz;subst hz;exact g8
   case refine_2=>
    simp(disch:=omega) [cur,VZ]
    refine⟨[(true,aU.o ⟨k3,1+k1,k4,[],x⟩)],by simp[a9,bk,bz,aU.o,ag],⟨k3,1+k1,k4,[],x⟩,i7,⟨⟨?_,by simp;try omega⟩,a5⟩,rfl,rfl⟩
    refine⟨⟨by simp only;omega,by simp only;omega⟩,⟨by simp only;omega,by simp only;omega⟩,⟨by simp only;omega,by simp only;omega⟩,by unfold Sz;simp;try omega,⟨by unfold Sz;simp only;omega,fun z hz=>by have:=a7 z hz;unfold Sz;omega⟩⟩
  case refine_2=>
   simp(disch:=omega) [VZ]
   refine ao (dX (1+k1) k4 (by omega) (by omega)) ?_
   simp(disch:=omega) [VZ]
   refine dQ (σ:=Nat×Nat×Nat×Int×List Bytes) (f0:=_) (by simp(disch:=omega) [VZ];rfl) (dk.yd (s:=6) (k:=5) (i:=4) rfl rfl) (f1:=_) (es0:=_) (by simp(disch:=omega) [VZ];rfl) (by simp(disch:=omega) [VZ];rfl) (fun p=> [(7, .val false [.int .i64 (p.1:Int)]),(6, .box [.int .i64 (k3:Int), .int .i64 (1+(k1:Int)), .int .i64 (k4:Int), .ow 229376 24, .ow 5 p.2.1])]) (fun p=> [(4096, .pt 0 133 [.sl (bytes b), .int .i64 (p.2.2.1:Int), .int .i64 p.2.2.2.1]),(5, .sl p.2.1 true true (some (22,1)) (bI p.2.2.2.2))])
    (fun p g=>g=p.1∧p.2.2.1≤b.length∧p.2.2.2.2.length+p.1≤9∧∀t∈p.2.2.2.2,t.length=32) (bh k4 (1+k1),_,i5,h5,[]) (bh k4 (1+k1)) (by simp(disch:=omega) [VZ];rfl) (by simp(disch:=omega) [bI,VZ]) ⟨rfl,j5,by simp;omega,by simp⟩ ?_
   rintro⟨n,v,i7,h7,x⟩ nx g ⟨hg,a5,a6,a7⟩ P hP
   simp only at hg a5 a6 a7
   have hlx:(bI x).length=x.length:=aq x
   simp(disch:=omega) [VZ]
   refine ab (fun h8=> ?_) (fun h8=> ?_)
   case refine_1=>
    simp(disch:=omega) [VZ]
    refine dD (df b i7 h7 a5 hb) ?_
    rintro⟨y,i8,h9⟩ ⟨g8,j8⟩
    simp only at g8 j8
    have e1:IntKind.i64.wrap ((n:Int) - 1)=((n - 1:Nat):Int):=by rw[GP (by omega) (by omega)];omega
    simp(disch:=omega) [cur,hlx,e1,lU,VZ]
    refine hP (n - 1,_,i8,h9,x++ [y]) (g - 1) _ _ (by omega) ⟨by simp only;omega,j8,by simp;omega,fun z hz=> ?_⟩ (by simp(disch:=omega) [VZ];rfl) (by simp(disch:=omega) [VZ])
    rcases List.mem_append.1 hz with hz|hz
    ·exact a7 z hz
    ·simp only[List.mem_singleton]at hz;subst hz;exact g8
   case refine_2=>
    simp(disch:=omega) [cur,VZ]
    refine⟨[(true,aU.o ⟨k3,1+k1,k4,x5,x⟩)],by simp[a9,bk,bz,aU.o,ag],⟨k3,1+k1,k4,x5,x⟩,i7,⟨⟨?_,by simp;try omega⟩,a5⟩,rfl,rfl⟩
    refine⟨⟨by simp only;omega,by simp only;omega⟩,⟨by simp only;omega,by simp only;omega⟩,⟨by simp only;omega,by simp only;omega⟩,by unfold Sz;simp;try omega,⟨by unfold Sz;simp only;omega,fun z hz=>by have:=a7 z hz;unfold Sz;omega⟩⟩
theorem I5:fv.wc:=⟨⟨⟨by decide,by decide⟩,⟨by decide,by decide⟩,by simp[fv,Sz],by simp[fv,Sz],by simp[fv,Sz]⟩,fun x hx=>by simp[fv]at hx⟩
theorem GM:av.wc:=by
 refine⟨⟨by decide,by decide⟩,⟨⟨by decide,by decide⟩,⟨by decide,by decide⟩,by simp[av,bD,Sz],⟨by decide,by decide⟩,by simp[av,bD,Sz]⟩,I5,BW,⟨⟨BW,by simp[av,aF,mH,Sz]⟩,by simp[av,aF]⟩,⟨⟨by decide,by decide⟩,by simp[av,hK,Sz],by simp[av,hK]⟩,⟨⟨⟨by simp[av,aK,Sz],by simp[av,aK]⟩,I5.1⟩,by simp[av,aK],I5⟩,⟨⟨by decide,by decide⟩,⟨by decide,by decide⟩,⟨by decide,by decide⟩,by simp[av,bC,Sz],by simp[av,bC,mH,Sz]⟩,by simp[av,bC]⟩
abbrev oW:Nat:=134
def rO:AF:=⟨2,6,[.cell 4 45 true],(.seq (.ops [.i (.lbox 3 (.s 1)), .i (.lal 4 [.int .i64 0, .int .i64 0, .int .i64 0, .nils, .int .i64 0, .nils, .int .i64 0, .int .i64 0, .nils, .nils, .nils, .int .i64 0, .int .i64 0, .int .i64 0, .nils, .nils, .int .i64 0, .int .i64 0, .nils, .nils, .nils, .int .i64 0, .int .i64 0, .int .i64 0, .nils, .nils, .int .i64 0, .int .i64 0, .nils, .nils, .nils, .nils, .int .i64 0, .nils, .nils, .int .i64 0, .int .i64 0, .nils, .nils, .nils, .int .i64 0, .int .i64 0, .int .i64 0, .nils, .nils])]) (.seq (.seq (.ops [qm 5 0, .i (.call 7 97 false [(.s 5),(qi 9)])]) (.block 0 (.seq (.ops [.i (.bin 8 .eql (.s 6) (qi 0)),qm 7 8]) (.cond (.s 7) (.seq (.ops [qm 9 0,ql 10 3 3 5 true, .i (.call 12 185 false [(.s 9),(.s 10)]),qk 13 184 11,qs 4 4 12 45]) .ret) (.seq (.ops [.i (.bin 14 .eql (.s 6) (qi 1)),qm 13 14]) (.cond (.s 13) (.seq (.ops [qm 15 0,ql 16 3 3 5 true, .i (.call 18 187 false [(.s 15),(.s 16)]),qk 19 186 17,qs 4 4 18 45]) .ret) (.seq (.ops [.i (.bin 20 .eql (.s 6) (qi 2)),qm 19 20]) (.cond (.s 19) (.seq (.ops [qm 21 0,ql 22 3 3 5 true, .i (.call 24 189 false [(.s 21),(.s 22)]),qk 25 188 23,qs 4 4 24 45]) .ret) (.seq (.ops [.i (.bin 26 .eql (.s 6) (qi 3)),qm 25 26]) (.cond (.s 25) (.seq (.ops [qm 27 0,ql 28 3 3 5 true, .i (.call 30 191 false [(.s 27),(.s 28)]),qk 31 190 29,qs 4 4 30 45]) .ret) (.seq (.ops [.i (.bin 32 .eql (.s 6) (qi 4)),qm 31 32]) (.cond (.s 31) (.seq (.ops [qm 33 0,ql 34 3 3 5 true, .i (.call 36 193 false [(.s 33),(.s 34)]),qk 37 192 35,qs 4 4 36 45]) .ret) (.seq (.ops [.i (.bin 38 .eql (.s 6) (qi 5)),qm 37 38]) (.cond (.s 37) (.seq (.ops [qf 39 3 2,ql 40 3 39 1 false, .i (.bin 41 .gtr (.s 40) (qi 0))]) (.cond (.s 41) (.seq (.ops [qm 42 0,ql 43 3 3 5 true, .i (.call 45 195 false [(.s 42),(.s 43)]),qk 46 194 44,qs 4 4 45 45]) .ret) .skip)) .skip)))))))))))))) (.seq (.ops [qm 46 0,ql 47 3 3 5 true, .i (.call 49 161 false [(.s 46),(.s 47)]),qk 50 160 48,qs 4 4 49 45]) .ret)))⟩
theorem BI:cd oW=some rO:=by kernel_rfl
theorem Jc (b:Bytes) (i:Nat) (h:Int) (l:ah) (hl:l.rd) (hi:i≤b.length) (hb:b.length≤1073741824):VC cd oW (ji [] 133 (cur b i h) [(true,l.c)]) (fun r p=>∃x:aJ×Nat×Int,(x.1.wc∧x.2.1≤b.length)∧r= [(true,x.1.o)]∧p= [.pt 133 (cur b x.2.1 x.2.2)]):=by
 refine VC.xb ?_
 refine ay BI rfl ?_
 simp(disch:=omega) [rO,cur,ah.c,VZ]
 refine dD (aw b i h 9 (by omega) hi hb) ?_
 rintro⟨k1,i1,h1⟩ ⟨g1,j1⟩
 simp only at g1 j1
 have hk:k1=0∨k1=1∨k1=2∨k1=3∨k1=4∨k1=5∨k1=6∨k1=7∨k1=8:=by omega
 rcases hk with rfl|rfl|rfl|rfl|rfl|rfl|hk
 ·simp(disch:=omega) [cur,VZ]
  refine dD (vA b i1 h1 l hl.1 j1 hb) ?_ (n1:=by intro _;simp(disch:=omega) [ah.c,Qc.o,VZ]) (n3:=by intro _;simp(disch:=omega) [ah.c,Qc.o,VZ])
  rintro⟨x2,i2,h2⟩ ⟨g2,j2⟩
  simp only at g2 j2
  simp(disch:=omega) [cur,Qc.o,VZ]
  refine ao (wO x2 (g2.wc)) ?_ (ha:=by first|rfl|(simp[Qc.c,Head.c,Qc.c,VY] <;>repeat' constructor))
  simp(disch:=omega) [cur,qZ,a9,bk,bz,VZ]
  exact⟨[(true,aJ.o {av with kind:=2,qc:=x2})],by simp[a9,bk,bz,aJ.o,av,bD,fv,bc,aF,hK,aK,bC,ag,bm,bo,bn],{av with kind:=2,qc:=x2},i2,⟨{GM with kind:=⟨by simp only;omega,by simp only;omega⟩,qc:=g2.wc},j2⟩,rfl,rfl⟩
 ·simp(disch:=omega) [cur,VZ]
  refine dD (lP b i1 h1 l hl.1 j1 hb) ?_ (n1:=by intro _;simp(disch:=omega) [ah.c,Head.o,VZ]) (n3:=by intro _;simp(disch:=omega) [ah.c,Head.o,VZ])
  rintro⟨x2,i2,h2⟩ ⟨g2,j2⟩
  simp only at g2 j2
  simp(disch:=omega) [cur,Head.o,VZ]
  refine ao (rH x2 g2) ?_ (ha:=by first|rfl|(simp[Head.c,Head.c,Qc.c,VY] <;>repeat' constructor))
  simp(disch:=omega) [cur,fy,a9,bk,bz,VZ]
  exact⟨[(true,aJ.o {av with kind:=3,head:=x2})],by simp[a9,bk,bz,aJ.o,av,bD,fv,bc,aF,hK,aK,bC,ag,bm,bo,bn],{av with kind:=3,head:=x2},i2,⟨{GM with kind:=⟨by simp only;omega,by simp only;omega⟩,head:=g2},j2⟩,rfl,rfl⟩
 ·simp(disch:=omega) [cur,VZ]
  refine dD (IG b i1 h1 l hl j1 hb) ?_ (n1:=by intro _;simp(disch:=omega) [ah.c,Block.o,VZ]) (n3:=by intro _;simp(disch:=omega) [ah.c,Block.o,VZ])
  rintro⟨x2,i2,h2⟩ ⟨g2,j2⟩
  simp only at g2 j2
  simp(disch:=omega) [cur,Block.o,VZ]
  refine ao (nN x2 g2.1) ?_ (ha:=by first|rfl|(simp[Block.c,Head.c,Qc.c,VY] <;>repeat' constructor))
  simp(disch:=omega) [cur,eu,a9,bk,bz,VZ]
  exact⟨[(true,aJ.o {av with kind:=4,block:=x2})],by simp[a9,bk,bz,aJ.o,av,bD,fv,bc,aF,hK,aK,bC,ag,bm,bo,bn],{av with kind:=4,block:=x2},i2,⟨{GM with kind:=⟨by simp only;omega,by simp only;omega⟩,block:=g2},j2⟩,rfl,rfl⟩
 ·simp(disch:=omega) [cur,VZ]
  refine dD (Iv b i1 h1 l hl.1 j1 hb) ?_ (n1:=by intro _;simp(disch:=omega) [ah.c,Tc.o,VZ]) (n3:=by intro _;simp(disch:=omega) [ah.c,Tc.o,VZ])
  rintro⟨x2,i2,h2⟩ ⟨g2,j2⟩
  simp only at g2 j2
  simp(disch:=omega) [cur,Tc.o,VZ]
  refine ao (wM x2 g2) ?_ (ha:=by first|rfl|(simp[Tc.c,Head.c,Qc.c,VY] <;>repeat' constructor))
  simp(disch:=omega) [cur,oJ,a9,bk,bz,VZ]
  exact⟨[(true,aJ.o {av with kind:=5,tc:=x2})],by simp[a9,bk,bz,aJ.o,av,bD,fv,bc,aF,hK,aK,bC,ag,bm,bo,bn],{av with kind:=5,tc:=x2},i2,⟨{GM with kind:=⟨by simp only;omega,by simp only;omega⟩,tc:=g2},j2⟩,rfl,rfl⟩
 ·simp(disch:=omega) [cur,VZ]
  refine dD (Jm b i1 h1 l hl j1 hb) ?_ (n1:=by intro _;simp(disch:=omega) [ah.c,Proof.o,VZ]) (n3:=by intro _;simp(disch:=omega) [ah.c,Proof.o,VZ])
  rintro⟨x2,i2,h2⟩ ⟨g2,j2⟩
  simp only at g2 j2
  simp(disch:=omega) [cur,Proof.o,VZ]
  refine ao (nQ x2 g2) ?_ (ha:=by first|rfl|(simp[Proof.c,Head.c,Qc.c,VY] <;>repeat' constructor))
  simp(disch:=omega) [cur,ed,a9,bk,bz,VZ]
  exact⟨[(true,aJ.o {av with kind:=6,proof:=x2})],by simp[a9,bk,bz,aJ.o,av,bD,fv,bc,aF,hK,aK,bC,ag,bm,bo,bn],{av with kind:=6,proof:=x2},i2,⟨{GM with kind:=⟨by simp only;omega,by simp only;omega⟩,proof:=g2},j2⟩,rfl,rfl⟩
 ·simp(disch:=omega) [cur,VZ]
  refine ab (fun h5=> ?_) (fun h5=> ?_)
  case refine_2=>
   simp(disch:=omega) [VZ]
   refine dD (CZ b i1 h1 l hl.1 j1 hb) ?_ (n1:=by intro _;simp(disch:=omega) [ah.c,bB.o,VZ]) (n3:=by intro _;simp(disch:=omega) [ah.c,bB.o,VZ])
   rintro⟨x2,i2,h2⟩ ⟨⟨g2,g3,g4,g5,g6⟩,j2⟩
   simp only at g2 g3 g4 g5 g6 j2
   have hw:x2.wf:=⟨dr g2,dr g3,by unfold Sz;omega,by have:=dG g5;have:=hl.1;exact⟨by omega,by omega⟩,by unfold Sz;omega⟩
   simp(disch:=omega) [cur,bB.o,VZ]
   refine ao (iG x2 hw) ?_ (ha:=by first|rfl|(simp[bB.c,VY] <;>repeat' constructor))
   simp(disch:=omega) [cur,eU,a9,bk,bz,VZ]
   exact⟨[(true,aJ.o {av with kind:=1,vote:=x2})],by simp[a9,bk,bz,aJ.o,av,bD,fv,bc,aF,hK,aK,bC,ag,bm,bo,bn],{av with kind:=1,vote:=x2},i2,⟨{GM with kind:=⟨by simp only;omega,by simp only;omega⟩,vote:=hw},j2⟩,rfl,rfl⟩
  simp(disch:=omega) [VZ]
  refine dD (I8 b i1 h1 l hl j1 hb) ?_ (n1:=by intro _;simp(disch:=omega) [ah.c,aU.o,VZ]) (n3:=by intro _;simp(disch:=omega) [ah.c,aU.o,VZ])
  rintro⟨x2,i2,h2⟩ ⟨g2,j2⟩
  simp only at g2 j2
  simp(disch:=omega) [cur,aU.o,VZ]
  refine ao (rk x2 g2.1) ?_ (ha:=by first|rfl|(simp[aU.c,Head.c,Qc.c,VY] <;>repeat' constructor))
  simp(disch:=omega) [cur,fL,a9,bk,bz,VZ]
  exact⟨[(true,aJ.o {av with kind:=7,incl:=x2})],by simp[a9,bk,bz,aJ.o,av,bD,fv,bc,aF,hK,aK,bC,ag,bm,bo,bn],{av with kind:=7,incl:=x2},i2,⟨{GM with kind:=⟨by simp only;omega,by simp only;omega⟩,incl:=g2.1,tx:=by have:=g2.2;simp only;omega},j2⟩,rfl,rfl⟩
 ·have n0:¬k1=0∧¬k1=1∧¬k1=2∧¬k1=3∧¬k1=4∧¬k1=5:=by omega
  have n1:¬(k1:Int)=0∧¬(k1:Int)=1∧¬(k1:Int)=2∧¬(k1:Int)=3∧¬(k1:Int)=4∧¬(k1:Int)=5:=by omega
  simp(disch:=omega) [cur,n0.1,n0.2.1,n0.2.2.1,n0.2.2.2.1,n0.2.2.2.2.1,n0.2.2.2.2.2,n1.1,n1.2.1,n1.2.2.1,n1.2.2.2.1,n1.2.2.2.2.1,n1.2.2.2.2.2,VZ]
  refine dD (CZ b i1 h1 l hl.1 j1 hb) ?_ (n1:=by intro _;simp(disch:=omega) [ah.c,bB.o,VZ]) (n3:=by intro _;simp(disch:=omega) [ah.c,bB.o,VZ])
  rintro⟨x2,i2,h2⟩ ⟨⟨g2,g3,g4,g5,g6⟩,j2⟩
  simp only at g2 g3 g4 g5 g6 j2
  have hw:x2.wf:=⟨dr g2,dr g3,by unfold Sz;omega,by have:=dG g5;have:=hl.1;exact⟨by omega,by omega⟩,by unfold Sz;omega⟩
  simp(disch:=omega) [cur,bB.o,VZ]
  refine ao (iG x2 hw) ?_ (ha:=by first|rfl|(simp[bB.c,VY] <;>repeat' constructor))
  simp(disch:=omega) [cur,eU,a9,bk,bz,VZ]
  exact⟨[(true,aJ.o {av with kind:=1,vote:=x2})],by simp[a9,bk,bz,aJ.o,av,bD,fv,bc,aF,hK,aK,bC,ag,bm,bo,bn],{av with kind:=1,vote:=x2},i2,⟨{GM with kind:=⟨by simp only;omega,by simp only;omega⟩,vote:=hw},j2⟩,rfl,rfl⟩
end Go.Eng.F
namespace Go.Eng.F
end Go.Eng.F
namespace Go.Eng.F
theorem At.le {b:Bytes} {a:Nat} {s:Bytes} (h:At b a s) (h0:0 < s.length):a+s.length≤b.length:=by
 rcases h.len with h1|h1
 ·exact h1
 ·rw[h1]at h0;simp at h0
def Cut (b:Bytes) (a:Nat) (s:Bytes):Prop:=a≤b.length∧∃k,k < s.length∧b.drop a=s.take k
theorem Cut.app {b:Bytes} {a:Nat} {s t:Bytes} (h:Cut b a (s++t)):Cut b a s∨(At b a s∧Cut b (a+s.length) t):=by
 obtain⟨h0,k,hk,h⟩:=h
 by_cases hs:k < s.length
 ·exact .inl ⟨h0,k,hs,by rw[h,List.take_append_of_le_length (by omega)]⟩
 ·have e:b.drop a=s++t.take (k - s.length):=by rw[h,List.take_append,List.take_of_length_le (by omega)]
  have hl:=congrArg List.length e
  simp only[List.length_drop,List.length_append,List.length_take]at hl hk
  refine .inr ⟨⟨_,e⟩,by omega,k - s.length,by omega,?_⟩
  rw[←List.drop_drop,e,List.drop_left]
theorem Cut.nil {b:Bytes} {a:Nat} (h:Cut b a []):False:=by
 obtain⟨_,k,hk,_⟩:=h
 simp at hk
theorem Oz {r:Rd} {c:Nat}:bJ r false c=r:=by simp[bJ]
theorem KZ {l:ah} {h:Head} (w:bp l h=true):isNum h.view=true∧isNum h.height=true∧isNum h.proposer=true∧1≤h.height∧h.proposer < l.n∧h.parent.length=32∧h.root.length=32∧eI l h.qc=true∧fits h=true:=by
 simp only[bp,Bool.and_eq_true]at w
 have h1:=dG w.1.1.1.1.2
 have h2:=dG w.1.1.1.2
 have h3:l.ok=true:=by have:=w.1.1.1.1.1.1;simp only[eI,Bool.and_eq_true]at this;exact this.1.1.1.1.1.1
 have h4:=jG h3
 refine⟨w.1.1.1.1.1.2,by simp only[isNum,c9,decide_eq_true_eq];omega,by simp only[isNum,c9,decide_eq_true_eq];omega,h1.1,by omega,gJ w.1.1.2,gJ w.1.2,w.1.1.1.1.1.1,w.2⟩
theorem I4 {l:ah} {x:Block} (h:bg l x=true):bp l x.head=true∧l.ok=true∧(x.txs.length:Int)≤l.txs∧(∀t∈x.txs,t.length≤l.tx.toNat)∧x.head.root=aX x.txs:=by
 simp only[bg,Bool.and_eq_true,decide_eq_true_eq]at h
 have h3:l.ok=true:=by have:=h.1.1.1;simp only[bp,eI,Bool.and_eq_true]at this;exact this.1.1.1.1.1.1.1.1.1.1.1.1
 refine⟨h.1.1.1,h3,h.1.1.2,fun t ht=> ?_,h.2⟩
 have h2:=h.1.2
 simp only[xl,List.all_eq_true,decide_eq_true_eq]at h2
 have:=h2 t ht
 omega
def BQ (l:ah) (view:Int):Int→List Entry→Prop
 |_,[]=>True
 |bf,e::es=>((0≤e.who∧e.who < l.n∧bf < e.who)∧(0≤e.high∧e.high < view)∧e.tag.length=32)∧BQ l view e.who es
theorem EG {l:ah} {t:Tc} (h:∀i < t.entries.length,b6 l t i=true):∀(es pre:List Entry) (bf:Int),t.entries=pre++es→(pre= []∧bf= -1∨∃d,pre.getLast? =some d∧d.who=bf)→BQ l t.view bf es
 | [],_,_,_,_=>trivial
 |e::es,pre,bf,he,hp=>by
  have hi:t.entries[pre.length]? =some e:=by rw[he];simp
  have h1:=h pre.length (by rw[he];simp)
  simp only[b6,hi,Bool.and_eq_true,Bool.or_eq_true,decide_eq_true_eq]at h1
  obtain⟨⟨⟨a1,a2⟩,a3⟩,a4⟩:=h1
  have b1:=dG a1
  have b2:=dG a2
  refine⟨⟨⟨by omega,by omega,?_⟩,⟨by omega,by omega⟩,gJ a3⟩,EG h es (pre++ [e]) e.who (by rw[he];simp) (.inr ⟨e,by simp,rfl⟩)⟩
  rcases hp with⟨rfl,rfl⟩|⟨d,hd,rfl⟩
  ·omega
  ·have hn:pre≠ []:=by rintro rfl;simp at hd
   have hpl:0 < pre.length:=List.length_pos_iff.2 hn
   have h2:t.entries[pre.length - 1]? =some d:=by
    rw[he,List.getElem?_append_left (by omega),←List.getLast?_eq_getElem?]
    exact hd
   rw[h2]at a4
   rcases a4 with a4|a4
   ·omega
   ·simpa using a4
theorem NI {l:ah} {t:Tc} (h:fS l t=true):l.ok=true∧isNum t.view=true∧(t.entries.length:Int)≤l.n∧BQ l t.view (-1) t.entries:=by
 simp only[fS,Bool.and_eq_true,decide_eq_true_eq,List.all_eq_true,List.mem_range]at h
 exact⟨h.1.1.1,h.1.1.2,h.1.2,EG h.2 t.entries [] (-1) rfl (.inl ⟨rfl,rfl⟩)⟩
theorem IM {l:ah} {p:Proof} (h:b9 l p=true):l.ok=true∧(3≤p.heads.length∧(p.heads.length:Int)≤l.heads)∧(∀h∈p.heads,bp l h=true)∧eI l p.qc=true∧oR p=true:=by
 simp only[b9,Bool.and_eq_true,ir,List.all_eq_true]at h
 have h3:l.ok=true:=by have:=h.1.2;simp only[eI,Bool.and_eq_true]at this;exact this.1.1.1.1.1.1
 have:=dG h.1.1.1
 exact⟨h3,by omega,h.1.1.2,h.1.2,h.2⟩
theorem KR {l:ah} {x:aU} (h:dM l x=true):l.ok=true∧isNum x.height=true∧(1≤x.n∧x.n≤l.txs)∧(0≤x.idx∧x.idx < x.n)∧(x.tx.length:Int)≤l.tx∧x.path.length=bh x.idx.toNat x.n.toNat∧∀t∈x.path,t.length=32:=by
 simp only[dM,Bool.and_eq_true,decide_eq_true_eq,hashes,List.all_eq_true]at h
 have h1:=dG h.1.1.1.1.2
 have h2:=dG h.1.1.1.2
 exact⟨h.1.1.1.1.1.1,h.1.1.1.1.1.2,by omega,by omega,h.1.1.2,h.1.2,fun t ht=>gJ (h.2 t ht)⟩
end Go.Eng.F
namespace Go.Eng.F
theorem At.join {b:Bytes} {a:Nat} {s t:Bytes} (h1:At b a s) (h2:At b (a+s.length) t):At b a (s++t):=by
 obtain⟨u,h1⟩:=h1
 obtain⟨w,h2⟩:=h2
 refine⟨w,?_⟩
 rw[←List.drop_drop,h1,List.drop_left]at h2
 rw[h1,h2,List.append_assoc]
def ma (b:Bytes) (r:Rd) (s:Bytes) (r':Rd):Prop:=r.er=0∧At b r.at_ s∧r'=⟨r.at_+s.length,0⟩
theorem ma.nil {b:Bytes} {r:Rd} (h:r.er=0):ma b r [] r:=⟨h,⟨b.drop r.at_,rfl⟩,by obtain⟨x,y⟩:=r;simp only at h;subst h;rfl⟩
theorem ma.join {b:Bytes} {r r1 r2:Rd} {s t:Bytes} (h1:ma b r s r1) (h2:ma b r1 t r2):ma b r (s++t) r2:=by
 obtain⟨a1,a2,rfl⟩:=h1
 obtain⟨_,b2,rfl⟩:=h2
 exact⟨a1,a2.join b2,by simp only[List.length_append,Nat.add_assoc]⟩
theorem ma.er {b:Bytes} {r r1:Rd} {s:Bytes} (h:ma b r s r1):r1.er=0:=by rw[h.2.2]
theorem Lt:∀(s:Bytes) (k n:Nat),(gv s k n).2.2=0→∃v,(k=0∨0 < v)∧(gv s k n).1=n+v * 128 ^ k∧(gv s k n).2.1=k+(aN v).length∧(∃t,s=aN v++t)∧n+v * 128 ^ k≤1152921504606846975
 | [],k,n,h=>by simp[gv]at h
 |c::r,k,n,h=>by
  have hc:c.toNat < 256:=c.toNat_lt
  have ec:UInt8.ofNat c.toNat=c:=by simp
  rw[gv]at h⊢
  split at h
  ·simp at h
  ·rename_i h1
   rw[if_neg h1]
   split at h
   ·rename_i h2
    rw[if_pos h2]
    split at h
    ·rename_i h3
     rw[if_pos h3]
     refine⟨c.toNat,by omega,rfl,by rw[sN h2];rfl,⟨r,by rw[sN h2,ec];rfl⟩,h3⟩
    ·simp at h
   ·rename_i h2
    rw[if_neg h2]
    obtain⟨v,e1,e2,e3,⟨t,e4⟩,e5⟩:=Lt r (k+1) (n+(c.toNat - 128) * 128 ^ k) h
    have hv:¬v * 128+(c.toNat - 128) < 128:=by omega
    have hd:(v * 128+(c.toNat - 128)) / 128=v:=by omega
    have hm:(v * 128+(c.toNat - 128)) % 128+128=c.toNat:=by omega
    have hb:aN (v * 128+(c.toNat - 128))=c::aN v:=by rw[As hv,hd,hm,ec]
    have hx:n+(c.toNat - 128) * 128 ^ k+v * 128 ^ (k+1)=n+(v * 128+(c.toNat - 128)) * 128 ^ k:=by
     rw[Nat.add_mul,Nat.pow_succ,Nat.mul_comm (128 ^ k) 128,←Nat.mul_assoc]
     omega
    refine⟨v * 128+(c.toNat - 128), .inr (by omega),by rw[e2,hx],by rw[e3,hb,List.length_cons];omega,⟨t,by rw[hb,e4];rfl⟩,by rw[←hx];exact e5⟩
theorem dZ {b:Bytes} {r:Rd} (h:(bd b r).2.er=0):ma b r (aN (bd b r).1) (bd b r).2∧isNum ((bd b r).1:Int)=true:=by
 have h0:=JL h
 simp only[bd,if_pos h0,getVar]at h⊢
 split at h
 ·rename_i h1
  obtain⟨v,_,e1,e2,⟨t,e3⟩,e4⟩:=Lt _ 0 0 h1
  rw[if_pos h1]
  simp only[Nat.zero_add,Nat.pow_zero,Nat.mul_one]at e1 e2 e4
  simp only[e1,e2]
  exact⟨⟨h0,⟨t,e3⟩,rfl⟩,by simp only[isNum,c9,decide_eq_true_eq];omega⟩
 ·rename_i h1
  exact absurd h h1
theorem dK {r:Rd} {bad:Bool} {c:Nat} (h:(bJ r bad c).er=0) (hc:c≠0):bJ r bad c=r∧bad=false:=by
 have e:=iQ h hc
 subst e
 exact⟨Oz,rfl⟩
theorem fb {b:Bytes} {r:Rd} {N:Int} {c:Nat} (h:(ba b r N c).2.er=0) (hc:c≠0):ma b r (aN (ba b r N c).1) (ba b r N c).2∧isNum ((ba b r N c).1:Int)=true∧((ba b r N c).1:Int) < N:=by
 have h1:=dK h hc
 have h2:=dZ (dL h)
 simp only[ba]at h1⊢
 rw[h1.1]
 exact⟨h2.1,h2.2,by simpa using h1.2⟩
theorem vG {b:Bytes} {a n:Nat} (h:(d6 b a n).2.er=0):At b a (d6 b a n).1∧(d6 b a n).1.length=n∧(d6 b a n).2=⟨a+n,0⟩:=by
 unfold d6 at h⊢
 split at h
 ·rename_i h1
  rw[if_pos h1]
  exact⟨⟨(b.drop a).drop n,(List.take_append_drop n (b.drop a)).symm⟩,by simp;omega,rfl⟩
 ·simp at h
theorem gK {b:Bytes} {r:Rd} {n:Nat} (h:(bE b r n).2.er=0):ma b r (bE b r n).1 (bE b r n).2∧(bE b r n).1.length=n:=by
 have h0:=N7 h
 simp only[bE,if_pos h0]at h⊢
 have:=vG h
 exact⟨⟨h0,this.1,by rw[this.2.2,this.2.1]⟩,this.2.1⟩
theorem xQ {b:Bytes} {r:Rd} {m:Nat} (h:(dH b r m).2.er=0):ma b r (hU (dH b r m).1) (dH b r m).2∧(dH b r m).1.length≤m:=by
 have h0:=Hh h
 simp only[dH,if_pos h0,gC]at h⊢
 have ev:getVar b r.at_=bd b r:=by simp[bd,h0]
 rw[ev]at h⊢
 split at h
 ·rename_i h1
  exact absurd h h1
 ·rename_i h1
  rw[if_neg h1]
  split at h
  ·simp at h
  ·rename_i h2
   rw[if_neg h2]
   have g1:=dZ (Decidable.not_not.1 h1)
   have g2:=vG h
   have e2:(bd b r).2=⟨r.at_+(aN (bd b r).1).length,0⟩:=g1.1.2.2
   have g3:ma b (bd b r).2 (d6 b (bd b r).2.at_ (bd b r).1).1 (d6 b (bd b r).2.at_ (bd b r).1).2:=⟨Decidable.not_not.1 h1,g2.1,by rw[g2.2.2,g2.2.1]⟩
   refine⟨?_,by rw[g2.2.1];omega⟩
   have:=g1.1.join g3
   unfold hU
   rw[g2.2.1]
   exact this
theorem Hg {b:Bytes} {a:Nat} {n:Int} (h:(cm b a n).2.er=0):At b a (cm b a n).1∧ef (cm b a n).1 n=true∧(cm b a n).2=⟨a+(cm b a n).1.length,0⟩:=by
 simp only[cm]at h⊢
 split at h
 ·rename_i h1
  exact absurd h h1
 ·rename_i h1
  rw[if_neg h1]
  split at h
  ·rename_i h2
   rw[if_pos h2]
   have g:=vG (Decidable.not_not.1 h1)
   exact⟨g.1,h2,by rw[g.2.2,g.2.1]⟩
  ·simp at h
theorem sM {α:Type} {b:Bytes} {f:Rd→α×Rd} {e:α→Bytes} {p:α→Prop} (hf:∀r,(f r).2.er=0→p (f r).1∧ma b r (e (f r).1) (f r).2):∀(k:Nat) (r:Rd),(cg f k r).2.er=0→(∀x∈(cg f k r).1,p x)∧ma b r ((cg f k r).1.map e).flatten (cg f k r).2
 |0,r,h=>⟨by simp[cg],ma.nil h⟩
 |k+1,r,h=>by
  by_cases h0:r.er=0
  ·rw[l0 h0]at h⊢
   have h1:=sM hf k _ h
   have h2:=hf r h1.2.1
   exact⟨fun x hx=>by
    rcases List.mem_cons.1 hx with rfl|hx
    ·exact h2.1
    ·exact h1.1 x hx,by
    simp only[List.map_cons,List.flatten_cons]
    exact h2.2.join h1.2⟩
  ·rw[sH h0]at h
   exact absurd h h0
theorem HD {b:Bytes} {k:Nat} {r:Rd} (h:(eY (fun r=>bE b r 32) k r).2.er=0):(∀x∈(eY (fun r=>bE b r 32) k r).1,x.length=32)∧ma b r (eY (fun r=>bE b r 32) k r).1.flatten (eY (fun r=>bE b r 32) k r).2:=by
 have h1:=ES (b:=b) k r
 rw[h1.1]at h
 have h2:=h1.2 h
 have h3:=sM (b:=b) (f:=fun r=>bE b r 32) (e:=fun x=>x) (p:=fun x=>x.length=32) (fun r hr=>⟨(gK hr).2,(gK hr).1⟩) k r h
 rw[h2,h1.1]
 simpa using h3
theorem jn {x:Bytes} (h:x.length=32):hash x=true:=by simp[hash,h]
theorem Ku {b:Bytes} {l:ah} {r:Rd} (hl:l.ok=true) (h:(f4 b l r).2.er=0):o5 l (f4 b l r).1=true∧ma b r (K6 (f4 b l r).1) (f4 b l r).2:=by
 have g5:=gK (show(bE b (ba b (bE b (bd b (bd b r).2).2 32).2 l.n 5).2 32).2.er=0 from h)
 have g4:=fb g5.1.1 (by omega)
 have g3:=gK g4.1.1
 have g2:=dZ g3.1.1
 have g1:=dZ g2.1.1
 refine⟨?_,g1.1.join (g2.1.join (g3.1.join (g4.1.join g5.1)))⟩
 have h4:c9 ((ba b (bE b (bd b (bd b r).2).2 32).2 l.n 5).1:Int) 0 (l.n - 1)=true:=by simp only[c9,decide_eq_true_eq];omega
 simp only[o5,f4,hl,g1.2,g2.2,jn g3.2,jn g5.2,h4,Bool.and_self]
theorem Fw {b:Bytes} {l:ah} {r:Rd} (hl:l.ok=true) (h:(tI b l r).2.er=0):eI l (tI b l r).1=true∧ma b r (Ir (tI b l r).1) (tI b l r).2:=by
 by_cases h0:(bE b (bd b (bd b r).2).2 32).2.er=0
 ·simp only[tI,if_pos h0]at h⊢
  have g5:=HD h
  have g3:=gK h0
  have g2:=dZ g3.1.1
  have g1:=dZ g2.1.1
  have g4:=Hg g5.2.1
  have g4':ma b (bE b (bd b (bd b r).2).2 32).2 (cm b (bE b (bd b (bd b r).2).2 32).2.at_ l.n).1 (cm b (bE b (bd b (bd b r).2).2 32).2.at_ l.n).2:=⟨h0,g4.1,g4.2.2⟩
  have h6:=g1.1.join (g2.1.join (g3.1.join (g4'.join g5.2)))
  refine⟨?_,by simp only[Ir,List.append_assoc];exact h6⟩
  have h7:hashes (eY (fun r=>bE b r 32) (aS (cm b (bE b (bd b (bd b r).2).2 32).2.at_ l.n).1).length (cm b (bE b (bd b (bd b r).2).2 32).2.at_ l.n).2).1=true:=by
   simp only[hashes,List.all_eq_true]
   exact fun x hx=>jn (g5.1 x hx)
  simp only[eI,hl,g1.2,g2.2,jn g3.2,g4.2.1,vZ,decide_true,h7,Bool.and_self]
 ·simp only[tI,if_neg h0]at h
  exact absurd h h0
theorem ma.fail {b:Bytes} {r r':Rd} {bad:Bool} {c:Nat} {s:Bytes} (h:ma b (bJ r bad c) s r') (hc:c≠0):ma b r s r':=by
 have e:=(dK h.1 hc).1
 rw[e]at h
 exact h
theorem ma.len {b:Bytes} {r r':Rd} {s t:Bytes} {n m:Nat} (h:ma b r (s++(aN n++t)) r') (e:m=n):ma b r (s++(aN m++t)) r':=by
 rw[e]
 exact h
theorem yB {b:Bytes} {l:ah} {r:Rd} (hl:l.ok=true) (h:(cY b l r).2.er=0):bp l (cY b l r).1=true∧ma b r (dN (cY b l r).1) (cY b l r).2:=by
 simp only[cY]at h⊢
 have f7:=dK h (by omega)
 have h':=dL h
 rw[f7.1]
 have g6:=Fw hl h'
 have g5:=gK g6.2.1
 have g4:=gK g5.1.1
 have g3:=fb g4.1.1 (by omega)
 have f3:=dK g3.1.1 (by omega)
 have g2:=dZ (dL g3.1.1)
 have g1:=dZ g2.1.1
 have h2:c9 ((bd b (bd b r).2).1:Int) 1 1152921504606846975=true:=by
  have a1:=dG g2.2
  have a2:=f3.2
  simp only[decide_eq_false_iff_not]at a2
  simp only[c9,decide_eq_true_eq]
  omega
 have h7:=f7.2
 rw[Bool.not_eq_false']at h7
 generalize e3:ba b (bJ (bd b (bd b r).2).2 (decide ((bd b (bd b r).2).1=0)) 5) l.n 5=s3 at g3 g4 g5 g6 h7⊢
 have h6:=g1.1.join (g2.1.join ((g3.1.fail (by omega)).join (g4.1.join (g5.1.join g6.2))))
 refine⟨?_,by simp only[dN,List.append_assoc,Int.toNat_natCast];exact h6⟩
 have h3:c9 (s3.1:Int) 0 (l.n - 1)=true:=by simp only[c9,decide_eq_true_eq];omega
 simp only[bp,g6.1,g1.2,h2,h3,jn g4.2,jn g5.2,h7,Bool.and_self]
theorem IP {b:Bytes} {l:ah} {r:Rd} (hl:l.ok=true) (h:(dF b l r).2.er=0):bg l (dF b l r).1=true∧ma b r (iW (dF b l r).1) (dF b l r).2:=by
 have hL:=fC hl
 simp only[dF]at h⊢
 have f3:=dK h (by omega)
 have h':=dL h
 rw[f3.1]
 have g3:=sM (b:=b) (f:=fun r=>dH b r l.tx.toNat) (e:=hU) (p:=fun x=>x.length≤l.tx.toNat) (fun r hr=>⟨(xQ hr).2,(xQ hr).1⟩) _ _ h'
 have g4:=vz _ _ h'
 have g2:=fb g3.2.1 (by omega)
 have g1:=yB hl g2.1.1
 have h5:=f3.2
 simp only[decide_eq_false_iff_not,Decidable.not_not]at h5
 generalize ba b (cY b l r).2 (l.txs+1) 3=s2 at g2 g3 g4 h5⊢
 generalize cg (fun r=>dH b r l.tx.toNat) s2.1 s2.2=s3 at g3 g4 h5⊢
 have h6:=g1.2.join (g2.1.join g3.2)
 refine⟨?_,h6.len g4⟩
 have h4:xl l s3.1=true:=by
  simp only[xl,List.all_eq_true,decide_eq_true_eq]
  intro x hx
  have:=g3.1 x hx
  have:=hL.2.1
  omega
 simp only[bg,Bool.and_eq_true,decide_eq_true_eq]
 exact⟨⟨⟨g1.1,by rw[g4];omega⟩,h4⟩,h5⟩
theorem EK {b:Bytes} {l:ah} {view:Int}:∀(k:Nat) (bf:Int) (r:Rd),(fA b l view k bf r).2.er=0→(fA b l view k bf r).1.length=k∧BQ l view bf (fA b l view k bf r).1∧ma b r ((fA b l view k bf r).1.map IA).flatten (fA b l view k bf r).2
 |0,bf,r,h=>⟨rfl,trivial,ma.nil h⟩
 |k+1,bf,r,h=>by
  by_cases h0:r.er=0
  ·simp only[vD h0]at h⊢
   have h1:=EK k _ _ h
   have g3:=gK h1.2.2.1
   have g2:=fb g3.1.1 (by omega)
   have f1:=dK g2.1.1 (by omega)
   have g1:=fb (dL g2.1.1) (by omega)
   have h2:=f1.2
   simp only[decide_eq_false_iff_not]at h2
   generalize ba b (bJ (ba b r l.n 5).2 (decide (((ba b r l.n 5).1:Int)≤bf)) 6) view 6=s2 at g2 g3 h1⊢
   have b1:0≤((ba b r l.n 5).1:Int)∧((ba b r l.n 5).1:Int) < l.n∧bf < ((ba b r l.n 5).1:Int):=⟨by omega,g1.2.2,by omega⟩
   have b2:0≤(s2.1:Int)∧(s2.1:Int) < view:=⟨by omega,g2.2.2⟩
   refine⟨by simp only[List.length_cons,h1.1],⟨⟨b1,b2,g3.2⟩,h1.2.1⟩,?_⟩
   simp only[List.map_cons,List.flatten_cons]
   exact ma.join (g1.1.join ((g2.1.fail (by omega)).join g3.1)) h1.2.2
  ·rw[yE h0]at h
   exact absurd h h0
theorem ym {l:ah} {view:Int}:∀(es:List Entry) (bf:Int),BQ l view bf es→∀(i:Nat) (e:Entry),es[i]? =some e→(0≤e.who∧e.who < l.n)∧(0≤e.high∧e.high < view)∧e.tag.length=32∧(i=0∧bf < e.who∨0 < i∧∃d,es[i - 1]? =some d∧d.who < e.who)
 | [],_,_,i,e,h=>by simp at h
 |x::es,bf,⟨⟨h1,h2,h3⟩,hr⟩,0,e,h=>by
  simp only[List.getElem?_cons_zero,Option.some.injEq]at h
  subst h
  exact⟨⟨h1.1,h1.2.1⟩,h2,h3, .inl ⟨rfl,h1.2.2⟩⟩
 |x::es,bf,⟨⟨h1,h2,h3⟩,hr⟩,i+1,e,h=>by
  rw[List.getElem?_cons_succ]at h
  obtain⟨a1,a2,a3,a4⟩:=ym es x.who hr i e h
  refine⟨a1,a2,a3, .inr ⟨by omega,?_⟩⟩
  rcases a4 with⟨rfl,a4⟩|⟨a5,d,a6,a7⟩
  ·exact⟨x,rfl,a4⟩
  ·refine⟨d,?_,a7⟩
   obtain⟨j,rfl⟩:∃j,i=j+1:=⟨i - 1,by omega⟩
   simpa using a6
theorem OB {b:Bytes} {l:ah} {r:Rd} (hl:l.ok=true) (h:(Dj b l r).2.er=0):fS l (Dj b l r).1=true∧ma b r (Mh (Dj b l r).1) (Dj b l r).2:=by
 simp only[Dj]at h⊢
 have g3:=EK _ _ _ h
 have g2:=fb g3.2.2.1 (by omega)
 have g1:=dZ g2.1.1
 have h6:=g1.1.join (g2.1.join g3.2.2)
 refine⟨?_,h6.len g3.1⟩
 simp only[fS,hl,g1.2,Bool.and_eq_true,decide_eq_true_eq,List.all_eq_true,List.mem_range]
 refine⟨⟨⟨trivial,trivial⟩,by rw[g3.1];omega⟩,fun i hi=> ?_⟩
 have hg:=List.getElem?_eq_getElem hi
 obtain⟨a1,a2,a3,a4⟩:=ym _ _ g3.2.1 i _ hg
 have b1:∀n hi:Int,0≤n→n < hi→c9 n 0 (hi - 1)=true:=fun n hi h1 h2=>by simp only[c9,decide_eq_true_eq];omega
 simp only[b6,hg,b1 _ _ a1.1 a1.2,b1 _ _ a2.1 a2.2,jn a3,Bool.true_and,Bool.or_eq_true,decide_eq_true_eq]
 rcases a4 with⟨a4,_⟩|⟨_,d,a5,a6⟩
 ·exact .inl a4
 ·exact .inr (by rw[a5];simpa using a6)
theorem Jf {b:Bytes} {l:ah} {r:Rd} (hl:l.ok=true) (h:(dm b l r).2.er=0):b9 l (dm b l r).1=true∧ma b r (iR (dm b l r).1) (dm b l r).2:=by
 simp only[dm]at h⊢
 have f3:=dK h (by omega)
 have h':=dL h
 rw[f3.1]
 have g3:=Fw hl h'
 have g2:=sM (b:=b) (f:=cY b l) (e:=dN) (p:=fun x=>bp l x=true) (fun r hr=>yB hl hr) _ _ g3.2.1
 have g4:=vz _ _ g3.2.1
 have f2:=dK g2.2.1 (by omega)
 have f1:=dK (dL g2.2.1) (by omega)
 have g1:=dZ (dL (dL g2.2.1))
 have a3:=f3.2
 rw[Bool.not_eq_false']at a3
 have a1:=f1.2
 have a2:=f2.2
 simp only[decide_eq_false_iff_not]at a1 a2
 generalize cg (cY b l) (bd b r).1 (bJ (bJ (bd b r).2 (decide ((bd b r).1 < 3)) 5) (decide (l.heads < ((bd b r).1:Int))) 3)=s2 at g2 g3 g4 a3⊢
 have h6:=ma.join (s:= []) (ma.nil g1.1.1) (g1.1.join (((g2.2.fail (by omega)).fail (by omega)).join g3.2))
 refine⟨?_,h6.len g4⟩
 simp only[b9,Bool.and_eq_true,ir,List.all_eq_true]
 exact⟨⟨⟨by rw[g4];simp only[c9,decide_eq_true_eq];omega,g2.1⟩,g3.1⟩,a3⟩
theorem Jk {b:Bytes} {l:ah} {r:Rd} (h:(bP b l r).2.er=0):(isNum ((bP b l r).1.1:Int)=true∧(1≤(bP b l r).1.2.1∧((bP b l r).1.2.1:Int)≤l.txs)∧(bP b l r).1.2.2.1 < (bP b l r).1.2.1∧(bP b l r).1.2.2.2.length≤l.tx.toNat)∧ma b r (aN (bP b l r).1.1++(aN (bP b l r).1.2.1++(aN (bP b l r).1.2.2.1++hU (bP b l r).1.2.2.2))) (bP b l r).2:=by
 simp only[bP]at h⊢
 have g4:=xQ h
 have g3:=fb g4.1.1 (by omega)
 have f2:=dK g3.1.1 (by omega)
 have f1:=dK (dL g3.1.1) (by omega)
 have g2:=dZ (dL (dL g3.1.1))
 have g1:=dZ g2.1.1
 have a1:=f1.2
 have a2:=f2.2
 simp only[decide_eq_false_iff_not]at a1 a2
 have a3:=g3.2.2
 exact⟨⟨g1.2,by omega,by omega,g4.2⟩,g1.1.join (g2.1.join (((g3.1.fail (by omega)).fail (by omega)).join g4.1))⟩
theorem KY {b:Bytes} {l:ah} {r:Rd} (hl:l.ok=true) (h:(eO b l r).2.er=0):dM l (eO b l r).1=true∧ma b r (rf (eO b l r).1) (eO b l r).2:=by
 have hL:=fC hl
 have hL1:=hL.2.1
 by_cases h0:(bP b l r).2.er=0
 ·simp only[eO,if_pos h0]at h⊢
  obtain⟨⟨b1,b2,b3,b4⟩,b5⟩:=Jk h0
  have g5:=HD h
  have gl:=vZ (f:=fun r=>bE b r 32) (bh (bP b l r).1.2.2.1 (bP b l r).1.2.1) (bP b l r).2
  generalize eY (fun r=>bE b r 32) (bh (bP b l r).1.2.2.1 (bP b l r).1.2.1) (bP b l r).2=s5 at g5 gl⊢
  generalize bP b l r=s0 at *
  have h6:=b5.join g5.2
  simp only[List.append_assoc]at h6
  refine⟨?_,h6⟩
  have c1:c9 (s0.1.2.1:Int) 1 l.txs=true:=by simp only[c9,decide_eq_true_eq];omega
  have c2:c9 (s0.1.2.2.1:Int) 0 ((s0.1.2.1:Int) - 1)=true:=by simp only[c9,decide_eq_true_eq];omega
  simp only[dM,hl,b1,c1,c2,Bool.true_and,Bool.and_eq_true,decide_eq_true_eq,hashes,List.all_eq_true,Int.toNat_natCast]
  exact⟨⟨by omega,gl⟩,fun x hx=>jn (g5.1 x hx)⟩
 ·simp only[eO,if_neg h0]at h
  exact absurd h h0
end Go.Eng.F
namespace Go.Eng.F
theorem FG {a b:bB}:iD a b=true↔a=b:=by
 obtain⟨_,_,_,_,_⟩:=a
 obtain⟨_,_,_,_,_⟩:=b
 simp[iD,and_assoc]
theorem vH {a b:Qc}:mb a b=true↔a=b:=by
 obtain⟨_,_,_,_,_⟩:=a
 obtain⟨_,_,_,_,_⟩:=b
 simp[mb,and_assoc]
theorem lR {a b:Head}:ej a b=true↔a=b:=by
 obtain⟨_,_,_,_,_,_⟩:=a
 obtain⟨_,_,_,_,_,_⟩:=b
 simp[ej,and_assoc,vH]
theorem DY {a b:Block}:ga a b=true↔a=b:=by
 obtain⟨_,_⟩:=a
 obtain⟨_,_⟩:=b
 simp[ga,lR]
theorem FE {a b:aU}:iT a b=true↔a=b:=by
 obtain⟨_,_,_,_,_⟩:=a
 obtain⟨_,_,_,_,_⟩:=b
 simp[iT,and_assoc]
theorem G8 {a b:Entry}:cZ a b=true↔a=b:=by
 obtain⟨_,_,_⟩:=a
 obtain⟨_,_,_⟩:=b
 simp[cZ,and_assoc]
theorem yR {α:Type} {f:α→α→Bool} (hf:∀x y,f x y=true↔x=y) {a b:List α}:di f a b=true↔a=b:=by
 simp only[di,Bool.and_eq_true,decide_eq_true_eq,List.all_eq_true,List.mem_range]
 constructor
 ·rintro⟨h1,h2⟩
  refine List.ext_getElem h1 fun i hi hj=> ?_
  have:=h2 i hj
  rw[List.getElem?_eq_getElem hi,List.getElem?_eq_getElem hj]at this
  exact(hf _ _).1 this
 ·rintro rfl
  refine⟨rfl,fun i hi=> ?_⟩
  rw[List.getElem?_eq_getElem hi]
  exact(hf _ _).2 rfl
theorem DM {a b:Proof}:eB a b=true↔a=b:=by
 obtain⟨_,_⟩:=a
 obtain⟨_,_⟩:=b
 simp[eB,eA,vH,yR (fun x y=> @lR x y)]
theorem ID {a b:Tc}:fe a b=true↔a=b:=by
 obtain⟨_,_⟩:=a
 obtain⟨_,_⟩:=b
 simp[fe,yR (fun x y=> @G8 x y)]
theorem dU {a b:aJ}:l4 a b=true↔a=b:=by
 obtain⟨_,_,_,_,_,_,_,_⟩:=a
 obtain⟨_,_,_,_,_,_,_,_⟩:=b
 simp[l4,and_assoc,FG,vH,lR,DY,ID,DM,FE]
theorem IK {l:ah} {m:aJ} (h:aV l m=true):m=bH m:=by
 simp only[aV,Bool.and_eq_true]at h
 exact dU.1 h.2
theorem jg {b:Bytes} {m:aJ} {r:Rd} (h:(d9 b m r).2=0):r.er=0∧r.at_=b.length∧d9 b m r=(m,0):=by
 unfold d9 at h⊢
 split at h
 ·rename_i h1;exact absurd h h1
 ·rename_i h1
  rw[if_neg h1]
  split at h
  ·simp at h
  ·rename_i h2
   rw[if_neg h2]
   exact⟨Decidable.not_not.1 h1,Decidable.not_not.1 h2,rfl⟩
theorem OP {b:Bytes} {m:aJ} {r:Rd} (h:(d9 b m r).2≠0):(d9 b m r).1=av:=by
 unfold d9 at h⊢
 split
 ·rfl
 ·split
  ·rfl
  ·rename_i h1 h2
   rw[if_neg h1,if_neg h2]at h
   exact absurd rfl h
theorem lL {b:Bytes} {m:aJ} {r:Rd} (h:r.er≤9):(d9 b m r).2≤9:=by
 unfold d9
 split
 ·exact h
 ·split <;>simp
theorem ma.rest {c:UInt8} {t s:Bytes} {r':Rd} (h:ma (c::t) ⟨1,0⟩ s r') (ha:r'.at_=(c::t).length):t=s:=by
 obtain⟨_,⟨u,hu⟩,h2⟩:=h
 rw[h2]at ha
 simp only[List.length_cons]at ha
 simp only[List.drop_succ_cons,List.drop_zero]at hu
 have hl:=congrArg List.length hu
 rw[List.length_append]at hl
 have:u= []:=List.eq_nil_of_length_eq_zero (by omega)
 rw[this,List.append_nil]at hu
 exact hu
theorem iE {k:Nat} (hk:k < 256) {m:aJ} (h:m.kind=(k:Int)):(dv m).toNat=k:=by
 rw[dv,h]
 exact PF hk
theorem MP {l:ah} {m:aJ} (h:m.kind=1):aA l m=o5 l m.vote∧aW m=K6 m.vote∧bH m= {av with kind:=1,vote:=m.vote}∧(dv m).toNat=1:=by
 refine⟨by simp[aA,h],by simp[aW,h],by simp[bH,h],iE (k:=1) (by omega) h⟩
theorem Ld {l:ah} {m:aJ} (h:m.kind=2):aA l m=eI l m.qc∧aW m=Ir m.qc∧bH m= {av with kind:=2,qc:=m.qc}∧(dv m).toNat=2:=by
 refine⟨by simp[aA,h],by simp[aW,h],by simp[bH,h],iE (k:=2) (by omega) h⟩
theorem MC {l:ah} {m:aJ} (h:m.kind=3):aA l m=bp l m.head∧aW m=dN m.head∧bH m= {av with kind:=3,head:=m.head}∧(dv m).toNat=3:=by
 refine⟨by simp[aA,h],by simp[aW,h],by simp[bH,h],iE (k:=3) (by omega) h⟩
theorem Md {l:ah} {m:aJ} (h:m.kind=4):aA l m=bg l m.block∧aW m=iW m.block∧bH m= {av with kind:=4,block:=m.block}∧(dv m).toNat=4:=by
 refine⟨by simp[aA,h],by simp[aW,h],by simp[bH,h],iE (k:=4) (by omega) h⟩
theorem L4 {l:ah} {m:aJ} (h:m.kind=5):aA l m=fS l m.tc∧aW m=Mh m.tc∧bH m= {av with kind:=5,tc:=m.tc}∧(dv m).toNat=5:=by
 refine⟨by simp[aA,h],by simp[aW,h],by simp[bH,h],iE (k:=5) (by omega) h⟩
theorem Lr {l:ah} {m:aJ} (h:m.kind=6):aA l m=b9 l m.proof∧aW m=iR m.proof∧bH m= {av with kind:=6,proof:=m.proof}∧(dv m).toNat=6:=by
 refine⟨by simp[aA,h],by simp[aW,h],by simp[bH,h],iE (k:=6) (by omega) h⟩
theorem Lh {l:ah} {m:aJ} (h:m.kind=7):aA l m=dM l m.incl∧aW m=rf m.incl∧bH m= {av with kind:=7,incl:=m.incl}∧(dv m).toNat=7:=by
 refine⟨by simp[aA,h],by simp[aW,h],by simp[bH,h],iE (k:=7) (by omega) h⟩
theorem R6 {l:ah} {x:bB} (h:o5 l x=true):aV l {av with kind:=1,vote:=x}=true∧dv {av with kind:=1,vote:=x}=UInt8.ofNat 1∧aW {av with kind:=1,vote:=x}=K6 x:=by
 obtain⟨p1,p2,p3,p4⟩:=MP (l:=l) (m:= {av with kind:=1,vote:=x}) rfl
 exact⟨by simp only[aV,p1,h,Bool.true_and,p3];exact dU.2 rfl,rfl,p2⟩
theorem R9 {l:ah} {x:Qc} (h:eI l x=true):aV l {av with kind:=2,qc:=x}=true∧dv {av with kind:=2,qc:=x}=UInt8.ofNat 2∧aW {av with kind:=2,qc:=x}=Ir x:=by
 obtain⟨p1,p2,p3,p4⟩:=Ld (l:=l) (m:= {av with kind:=2,qc:=x}) rfl
 exact⟨by simp only[aV,p1,h,Bool.true_and,p3];exact dU.2 rfl,rfl,p2⟩
theorem RQ {l:ah} {x:Head} (h:bp l x=true):aV l {av with kind:=3,head:=x}=true∧dv {av with kind:=3,head:=x}=UInt8.ofNat 3∧aW {av with kind:=3,head:=x}=dN x:=by
 obtain⟨p1,p2,p3,p4⟩:=MC (l:=l) (m:= {av with kind:=3,head:=x}) rfl
 exact⟨by simp only[aV,p1,h,Bool.true_and,p3];exact dU.2 rfl,rfl,p2⟩
theorem RP {l:ah} {x:Block} (h:bg l x=true):aV l {av with kind:=4,block:=x}=true∧dv {av with kind:=4,block:=x}=UInt8.ofNat 4∧aW {av with kind:=4,block:=x}=iW x:=by
 obtain⟨p1,p2,p3,p4⟩:=Md (l:=l) (m:= {av with kind:=4,block:=x}) rfl
 exact⟨by simp only[aV,p1,h,Bool.true_and,p3];exact dU.2 rfl,rfl,p2⟩
theorem RR {l:ah} {x:Tc} (h:fS l x=true):aV l {av with kind:=5,tc:=x}=true∧dv {av with kind:=5,tc:=x}=UInt8.ofNat 5∧aW {av with kind:=5,tc:=x}=Mh x:=by
 obtain⟨p1,p2,p3,p4⟩:=L4 (l:=l) (m:= {av with kind:=5,tc:=x}) rfl
 exact⟨by simp only[aV,p1,h,Bool.true_and,p3];exact dU.2 rfl,rfl,p2⟩
theorem RX {l:ah} {x:Proof} (h:b9 l x=true):aV l {av with kind:=6,proof:=x}=true∧dv {av with kind:=6,proof:=x}=UInt8.ofNat 6∧aW {av with kind:=6,proof:=x}=iR x:=by
 obtain⟨p1,p2,p3,p4⟩:=Lr (l:=l) (m:= {av with kind:=6,proof:=x}) rfl
 exact⟨by simp only[aV,p1,h,Bool.true_and,p3];exact dU.2 rfl,rfl,p2⟩
theorem RY {l:ah} {x:aU} (h:dM l x=true):aV l {av with kind:=7,incl:=x}=true∧dv {av with kind:=7,incl:=x}=UInt8.ofNat 7∧aW {av with kind:=7,incl:=x}=rf x:=by
 obtain⟨p1,p2,p3,p4⟩:=Lh (l:=l) (m:= {av with kind:=7,incl:=x}) rfl
 exact⟨by simp only[aV,p1,h,Bool.true_and,p3];exact dU.2 rfl,rfl,p2⟩
theorem M0 {l:ah} {c:UInt8} {t:Bytes} (hl:l.ok=true) (h:(j0 l (c::t) c.toNat).2=0):∃m,j0 l (c::t) c.toNat=(m,0)∧aV l m=true∧dv m::aW m=c::t:=by
 have hc:c.toNat < 256:=c.toNat_lt
 have ec:UInt8.ofNat c.toNat=c:=by simp
 have hk:c.toNat=1∨c.toNat=2∨c.toNat=3∨c.toNat=4∨c.toNat=5∨c.toNat=6∨c.toNat=7:=by
  apply Decidable.byContradiction
  intro hn
  rw[Am (by omega)]at h
  simp at h
 generalize hk0:c.toNat=k at h hk ec⊢
 rcases hk with rfl|rfl|rfl|rfl|rfl|rfl|rfl
 ·simp only[j0]at h⊢
  obtain⟨g1,g2,g3⟩:=jg h
  obtain⟨g4,g5⟩:=Ku hl g1
  obtain⟨p1,p2,p3⟩:=R6 g4
  exact⟨_,g3,p1,by rw[p2,p3,←g5.rest g2,ec]⟩
 ·simp only[j0]at h⊢
  obtain⟨g1,g2,g3⟩:=jg h
  obtain⟨g4,g5⟩:=Fw hl g1
  obtain⟨p1,p2,p3⟩:=R9 g4
  exact⟨_,g3,p1,by rw[p2,p3,←g5.rest g2,ec]⟩
 ·simp only[j0]at h⊢
  obtain⟨g1,g2,g3⟩:=jg h
  obtain⟨g4,g5⟩:=yB hl g1
  obtain⟨p1,p2,p3⟩:=RQ g4
  exact⟨_,g3,p1,by rw[p2,p3,←g5.rest g2,ec]⟩
 ·simp only[j0]at h⊢
  obtain⟨g1,g2,g3⟩:=jg h
  obtain⟨g4,g5⟩:=IP hl g1
  obtain⟨p1,p2,p3⟩:=RP g4
  exact⟨_,g3,p1,by rw[p2,p3,←g5.rest g2,ec]⟩
 ·simp only[j0]at h⊢
  obtain⟨g1,g2,g3⟩:=jg h
  obtain⟨g4,g5⟩:=OB hl g1
  obtain⟨p1,p2,p3⟩:=RR g4
  exact⟨_,g3,p1,by rw[p2,p3,←g5.rest g2,ec]⟩
 ·simp only[j0]at h⊢
  obtain⟨g1,g2,g3⟩:=jg h
  obtain⟨g4,g5⟩:=Jf hl g1
  obtain⟨p1,p2,p3⟩:=RX g4
  exact⟨_,g3,p1,by rw[p2,p3,←g5.rest g2,ec]⟩
 ·simp only[j0]at h⊢
  obtain⟨g1,g2,g3⟩:=jg h
  obtain⟨g4,g5⟩:=KY hl g1
  obtain⟨p1,p2,p3⟩:=RY g4
  exact⟨_,g3,p1,by rw[p2,p3,←g5.rest g2,ec]⟩
theorem OO {l:ah} {b:Bytes} (h:(dec l b).2=0):∃m,dec l b=(m,0)∧aV l m=true∧dv m::aW m=b:=by
 by_cases hl:l.ok=true
 ·cases b with
  |nil=>rw[sV hl (by simp)]at h;simp at h
  |cons c t=>
   have e:=J2 (b:=c::t) hl (by simp)
   rw[e]at h⊢
   exact M0 hl h
 ·rw[Au hl]at h
  simp at h
theorem L7 {b:Bytes} {l:ah} {r:Rd} (h:r.wf b):(f4 b l r).2.er≤9:=by
 have h5:=(dI (cS (n:=l.n) (c:=5) (dI (ck (ck h).1).1 32).1 (by omega)).1 32).1.2
 exact h5
theorem Qt {b:Bytes} {l:ah} {r:Rd} (h:r.wf b):(tI b l r).2.er≤9:=(vt h).1.2
theorem MI {b:Bytes} {l:ah} {r:Rd} (h:r.wf b):(cY b l r).2.er≤9:=(kr h).1.2
theorem KT {b:Bytes} {l:ah} {r:Rd} (h:r.wf b):(dF b l r).2.er≤9:=by
 have h2:=(cS (n:=l.txs+1) (c:=3) (kr (l:=l) h).1 (by omega)).1
 simp only[dF]
 exact(cN (Cq (f:=fun r=>dH b r l.tx.toNat) (fun r hr=>(lu hr _).1) _ _ h2) (by omega)).2
theorem H8 {b:Bytes} {l:ah} {view:Int}:∀(k:Nat) (bf:Int) (r:Rd),r.wf b→(fA b l view k bf r).2.wf b
 |0,bf,r,h=>h
 |k+1,bf,r,h=>by
  by_cases h0:r.er=0
  ·rw[vD h0]
   exact H8 k _ _ (dI (cS (cN (cS h (by omega)).1 (by omega)) (by omega)).1 32).1
  ·rw[yE h0]
   exact h
theorem Ph {b:Bytes} {l:ah} {r:Rd} (h:r.wf b):(Dj b l r).2.er≤9:=by
 simp only[Dj]
 exact(H8 _ _ _ (cS (n:=l.n+1) (c:=3) (ck h).1 (by omega)).1).2
theorem Ks {b:Bytes} {l:ah} {r:Rd} (h:r.wf b):(dm b l r).2.er≤9:=by
 have h2:(bJ (bJ (bd b r).2 (decide ((bd b r).1 < 3)) 5) (decide (l.heads < ((bd b r).1:Int))) 3).wf b:=cN (cN (ck h).1 (by omega)) (by omega)
 simp only[dm]
 exact(cN (vt (Cq (f:=cY b l) (fun r hr=>(kr hr).1) _ _ h2)).1 (by omega)).2
theorem Ln {b:Bytes} {l:ah} {r:Rd} (h:r.wf b):(eO b l r).2.er≤9:=by
 have h2:(bP b l r).2.wf b:=by
  simp only[bP]
  exact(lu (cS (cN (cN (ck (ck h).1).1 (by omega)) (by omega)) (by omega)).1 _).1
 simp only[eO]
 split
 ·exact(E7 (fun r hr=>(dI hr 32).1) _ _ h2).2
 ·exact h2.2
theorem Pd (l:ah) (b:Bytes):(dec l b).2≤9:=by
 by_cases hl:l.ok=true
 ·by_cases hb:0 < b.length
  ·rw[J2 hl hb]
   by_cases hk:b[0].toNat=0∨8≤b[0].toNat
   ·rw[Am hk]
    simp
   ·have hL:=fC hl
    have w:Rd.wf b ⟨1,0⟩:=⟨by simp only;omega,by simp⟩
    have hk2:b[0].toNat=1∨b[0].toNat=2∨b[0].toNat=3∨b[0].toNat=4∨b[0].toNat=5∨b[0].toNat=6∨b[0].toNat=7:=by omega
    generalize b[0].toNat=k at hk2⊢
    rcases hk2 with rfl|rfl|rfl|rfl|rfl|rfl|rfl
    ·exact lL (L7 (l:=l) w)
    ·exact lL (Qt (l:=l) w)
    ·exact lL (MI (l:=l) w)
    ·exact lL (KT (l:=l) w)
    ·exact lL (Ph (l:=l) w)
    ·exact lL (Ks (l:=l) w)
    ·exact lL (Ln (l:=l) w)
  ·rw[sV hl hb]
   simp
 ·rw[Au hl]
  simp
theorem PS {l:ah} {b:Bytes} (h:(dec l b).2≠0):(dec l b).1=av:=by
 by_cases hl:l.ok=true
 ·by_cases hb:0 < b.length
  ·rw[J2 hl hb]at h⊢
   by_cases hk:b[0].toNat=0∨8≤b[0].toNat
   ·rw[Am hk]
   ·have hk2:b[0].toNat=1∨b[0].toNat=2∨b[0].toNat=3∨b[0].toNat=4∨b[0].toNat=5∨b[0].toNat=6∨b[0].toNat=7:=by omega
    generalize b[0].toNat=k at hk2 h⊢
    rcases hk2 with rfl|rfl|rfl|rfl|rfl|rfl|rfl <;>(simp only[j0]at h⊢;exact OP h)
  ·rw[sV hl hb]
 ·rw[Au hl]
end Go.Eng.F
namespace Go.Eng.F
end Go.Eng.F
