import Derived.Test.YtanfobggenpcaaaGreatGb
import Derived.Test.YtanfobggenpcaaaGreatGg
import Derived.Test.YtanfobggenpcaaaGreatGh
set_option maxRecDepth 100000
set_option linter.unusedSimpArgs false
set_option linter.unusedVariables false
namespace Go.Eng.F
theorem Fu (l:List Bytes) (x:Bytes):bm l++ [[.sl (bytes x)]]=bm (l++ [x]):=by simp[bm]
theorem yp (b:Bytes) (a:Nat) (n:Int):(dM b a n).2.wf b∧(dM b a n).1.length≤2:=by
 refine⟨(HI b a n).1,?_⟩
 simp only[dM]
 split
 ·simp
 ·split
  ·exact Kx ‹_›
  ·simp
def aW.o (v:aW):List E:= [.p (.int .i64 v.view), .p (.int .i64 v.height), .o true (some (5,1)) (bytes v.block), .p (.int .i64 v.who), .o true (some (5,1)) (bytes v.tag)]
abbrev gJ:Nat:=102
def mH:AF:=⟨2,5,[.cell 4 5 true],(.seq (.ops [.i (.lbox 2 (.s 0)), .i (.lal 4 [.int .i64 0, .int .i64 0, .nils, .int .i64 0, .nils])]) (.seq (.ops [qm 5 1,qk 7 165 5,qm 7 1,qk 9 165 7,qm 9 1,qk 11 166 9,qm 11 1,qf 12 2 0,ql 13 2 12 1 false, .i (.call 15 167 false [(.s 11),(.s 13),(qi 5)]),qm 15 1,qk 17 166 15, .i (.bld 17 [.int .i64 0, .int .i64 0, .nils, .int .i64 0, .nils] [(0,1,(.s 6)),(1,1,(.s 8)),(2,1,(.s 10)),(3,1,(.s 14)),(4,1,(.s 16))]),qs 4 4 17 5]) .ret))⟩
theorem y6:cd gJ=some mH:=by kernel_rfl
theorem xp (b:Bytes) (l:ah) (r:Rd) (hr:r.wf b) (hb:b.length≤1073741824):VC cd gJ (iO [(true,l.c)] 215 (bk b r) []) (fun rs p=>rs= [(true,(kV b l r).1.o)]∧p= [.pt 215 (bk b (kV b l r).2)]):=by
 refine aw y6 rfl ?_
 simp(disch:=omega) [mH,bk,ah.c,VZ]
 refine dc (bz b r hr hb) ?_
 have w1:=dk hr
 generalize h1:cZ b r=s1 at w1⊢
 simp(disch:=omega) [bk,VZ]
 refine dc (bz b s1.2 w1.1 hb) ?_
 have w2:=dk w1.1
 generalize h2:cZ b s1.2=s2 at w2⊢
 simp(disch:=omega) [bk,VZ]
 refine dc (cm b s2.2 w2.1 hb) ?_
 have w3:=eC w2.1 32
 generalize h3:cf b s2.2 32=s3 at w3⊢
 simp(disch:=omega) [bk,VZ]
 refine dc (cG b s3.2 l.n 5 w3.1 hb) ?_
 have w4:=eQ (n:=l.n) (c:=5) w3.1 (by omega)
 generalize h4:bP b s3.2 l.n 5=s4 at w4⊢
 simp(disch:=omega) [bk,VZ]
 refine dc (cm b s4.2 w4.1 hb) ?_
 have w5:=eC w4.1 32
 generalize h5:cf b s4.2 32=s5 at w5⊢
 simp(disch:=omega) [bk,VZ]
 simp(disch:=omega) [kV,h1,h2,h3,h4,h5,aW.o,bk,VZ]
abbrev jP:Nat:=106
def th:AF:=⟨2,6,[.cell 4 5 true],(.seq (.ops [.i (.lbox 2 (.s 0)), .i (.lal 4 [.int .i64 0, .int .i64 0, .nils, .nils, .nils])]) (.seq (.ops [qm 6 1,qk 8 165 6,qm 8 1,qk 10 165 8,qm 10 1,qk 12 166 10, .i (.bld 12 [.int .i64 0, .int .i64 0, .nils, .nils, .nils] [(0,1,(.s 7)),(1,1,(.s 9)),(2,1,(.s 11))]), .i (.lal 5 [.int .i64 0, .int .i64 0, .nils, .nils, .nils]),qs 5 5 12 5]) (.seq (.seq (.ops [qm 13 1, .i (.nch 14 (.s 13)),qf 15 14 2, .i (.ldh 16 (.s 15) 1 false), .i (.bin 17 .neq (.s 16) (qi 0))]) (.cond (.s 17) (.seq (.ops [ql 18 5 5 5 true,qs 4 4 18 5]) .ret) .skip)) (.seq (.ops [qm 20 1,qm 21 1,qm 22 1, .i (.nch 23 (.s 22)),qf 24 23 0, .i (.ldh 25 (.s 24) 1 false),qm 26 1, .i (.nch 27 (.s 26)),qf 28 27 1, .i (.ldh 29 (.s 28) 1 false),qf 30 2 0,ql 31 2 30 1 false, .i (.call 33 170 false [(.s 25),(.s 29),(.s 31)]),qm 19 32, .i (.ext 33 (.s 19) 0), .i (.ext 34 (.s 19) 1), .i (.ext 35 (.s 19) 2),qf 36 5 3,qs 5 36 33 1, .i (.nch 37 (.s 20)),qf 38 37 1, .i (.sth (.s 38) (.s 34) 1), .i (.nch 39 (.s 21)),qf 40 39 2, .i (.sth (.s 40) (.s 35) 1)]) (.seq (.seq (.ops [qf 41 5 3,ql 42 5 41 1 false,qk 44 169 42, .i (.mov 44 (qi 0))]) (.block 0 (.loop [53,52,51,50,49,48,47,46,45] (.seq (.ops [qd 45 .lss 44 43]) (.seq (.cond (.s 45) .skip (.exit 0)) (.seq (.block 1 (.ops [qf 46 5 4,ql 47 5 46 1 false,qm 48 1,qk 50 166 48, .i (.lsl 50 1 1 [.nils] [(0,1,(.s 49))]), .i (.app 51 22 1 24 (.s 47) (.s 50)),qf 52 5 4,qs 5 52 51 1])) (.ops [.i (.bin 53 .add (.s 44) (qi 1)),qm 44 53]))))))) (.seq (.ops [ql 54 5 5 5 true,qs 4 4 54 5]) .ret))))))⟩
theorem C7:cd jP=some th:=by kernel_rfl
theorem dP (b:Bytes) (l:ah) (r:Rd) (hl:1≤l.n∧l.n≤10) (hr:r.wf b) (hb:b.length≤1073741824):VC cd jP (iO [(true,l.c)] 215 (bk b r) []) (fun rs p=>rs= [(true,(yd b l r).1.o)]∧p= [.pt 215 (bk b (yd b l r).2)]):=by
 refine VC.xQ ?_
 refine aw C7 rfl ?_
 simp(disch:=omega) [th,bk,ah.c,VZ]
 refine dc (bz b r hr hb) ?_
 have w1:=dk hr
 generalize h1:cZ b r=s1 at w1⊢
 simp(disch:=omega) [bk,VZ]
 refine dc (bz b s1.2 w1.1 hb) ?_
 have w2:=dk w1.1
 generalize h2:cZ b s1.2=s2 at w2⊢
 simp(disch:=omega) [bk,VZ]
 refine dc (cm b s2.2 w2.1 hb) ?_
 have w3:=eC w2.1 32
 generalize h3:cf b s2.2 32=s3 at w3⊢
 simp(disch:=omega) [bk,VZ]
 by_cases g:s3.2.er=0
 case neg=>simp(disch:=omega) [g,yd,h1,h2,h3,Qc.o,bk,br,bN,bT,ak,bm,VZ]
 simp(disch:=omega) [g,VZ]
 refine ae (zH b s3.2.at_ l.n hl w3.1.1 hb) rfl rfl ?_
 have w4:=yp b s3.2.at_ l.n
 generalize h4:dM b s3.2.at_ l.n=s4 at w4⊢
 simp(disch:=omega) [Jc,VZ]
 refine ae (iY s4.1 (by omega)) rfl rfl ?_
 simp(disch:=omega) [VZ]
 refine dq (σ:=Nat×Nat×List Bytes×Rd) (f0:=_) (by simp(disch:=omega) [VZ];rfl) (c5.xo (s:=5) (k:=5) (i:=4) rfl rfl) (f1:=_) (es0:=_) (by simp(disch:=omega) [VZ];rfl) (by simp(disch:=omega) [VZ];rfl) (fun p=> [(44, .val false [.int .i64 (p.1:Int)]),(5, .box [.int .i64 s1.1, .int .i64 s2.1, .ow 106496 19, .ow 278528 24, .ow 5 p.2.1])]) (fun p=> [(4101, .pt 5 215 [.sl (bytes b), .int .i64 (p.2.2.2.at_:Int), .int .i64 (p.2.2.2.er:Int)]),(5, .sl p.2.1 true true (some (22,1)) (bm p.2.2.1))])
  (fun p g=>(g+p.1=(aQ s4.1).length∧p.2.2.1.length=p.1)∧p.2.2.2.wf b∧gd (fun r=>cf b r 32) (aQ s4.1).length s4.2=(p.2.2.1++(gd (fun r=>cf b r 32) g p.2.2.2).1,(gd (fun r=>cf b r 32) g p.2.2.2).2)) (0,_,[],s4.2) (aQ s4.1).length (by simp(disch:=omega) [VZ];rfl) (by simp(disch:=omega) [bm,bk,VZ]) ⟨⟨by simp,rfl⟩,w4.1,by simp⟩ ?_
 rintro⟨i,v,x,q⟩ nx g0 ⟨⟨hg,h5⟩,h6,h7⟩ P hP
 simp only at hg h5 h6 h7
 have hl:(bm x).length=i:=by rw[aq];exact h5
 simp(disch:=omega) [VZ]
 have hb4:=db s4.1
 refine ab (fun h8=> ?_) (fun h8=> ?_)
 ·simp(disch:=omega) [bk,VZ]
  refine dc (cm b q h6 hb) ?_
  have w5:=eC h6 32
  obtain⟨g1,rfl⟩:∃g1,g0=g1+1:=⟨g0 - 1,by omega⟩
  simp only[gd]at h7
  generalize h9:cf b q 32=s5 at w5 h7⊢
  simp(disch:=omega) [bk,hl,Fu,VZ]
  refine hP (i+1,_,x++ [s5.1],s5.2) g1 _ _ (by omega) ⟨⟨by simp only;omega,by simp[h5]⟩,w5.1,by rw[h7];simp⟩ (by simp(disch:=omega) [VZ];rfl) (by simp(disch:=omega) [bk,VZ])
 ·obtain rfl:g0=0:=by omega
  simp only[gd,List.append_nil]at h7
  simp(disch:=omega) [yd,h1,h2,h3,h4,g,h7,Qc.o,bk,br,bN,bT,VZ]
end Go.Eng.F
namespace Go.Eng.F
abbrev kY:Nat:=241
def j9:AF:=⟨1,4,[.tmp 2],(.seq (.ops [.i (.mov 2 (qi 0))]) (.seq (.ops [qm 3 0,qm 4 0, .i (.call 6 97 false [(.s 4),(qi 100)]),qm 6 0, .i (.call 8 97 false [(.s 6),(qi 100000)]), .i (.bsl 8 3 1 11 [.int .i64 0] [(0,1,(qi 0)),(1,1,(qi 1)),(2,1,(qi 127)),(3,1,(qi 128)),(4,1,(qi 300)),(5,1,(qi 16383)),(6,1,(qi 16384)),(7,1,(qi 1152921504606846975)),(8,1,(qi 1152921504606846974)),(9,1,(.s 5)),(10,1,(.s 7))]), .i (.call 10 155 false [(.s 3),(.s 8)]),qm 2 9]) .ret))⟩
theorem xA:cd kY=some j9:=by kernel_rfl
theorem hK (b:Bytes) (i:Nat) (h:Int) (hi:i≤b.length) (hb:b.length≤1073741824):VC cd kY (iO [] 133 (cur b i h) []) (fun r p=>∃x:Int×Nat×Int,(isNum x.1=true∧x.2.1≤b.length)∧r=it x.1∧p= [.pt 133 (cur b x.2.1 x.2.2)]):=by
 refine aw xA rfl ?_
 simp(disch:=omega) [j9,cur,VZ]
 refine dz (aC b i h 100 (by omega) hi hb) ?_
 rintro⟨k1,i1,h1⟩ ⟨g1,j1⟩
 simp only at g1 j1
 simp(disch:=omega) [cur,VZ]
 refine dz (aC b i1 h1 100000 (by omega) j1 hb) ?_
 rintro⟨k2,i2,h2⟩ ⟨g2,j2⟩
 simp only at g2 j2
 simp(disch:=omega) [cur,VZ]
 refine dz (iB b i2 h2 [0,1,127,128,300,16383,16384,1152921504606846975,1152921504606846974,(k1:Int),(k2:Int)] (by simp) (by simp) j2 hb) ?_
 rintro⟨k3,i3,h3⟩ ⟨g3,j3⟩
 simp only at g3 j3
 simp(disch:=omega) [cur,VZ]
 simp only[List.mem_cons,List.not_mem_nil,or_false]at g3
 exact⟨k3,i3,⟨by simp only[isNum,dv,decide_eq_true_eq];omega,j3⟩,rfl,rfl⟩
theorem hQ {n:Int} (h:isNum n=true):lq n:=by
 have:=cY h
 exact⟨by omega,by omega⟩
abbrev qH:Nat:=161
def qo:AF:=⟨2,5,[.cell 4 5 true],(.seq (.ops [.i (.lbox 3 (.s 1)), .i (.lal 4 [.int .i64 0, .int .i64 0, .nils, .int .i64 0, .nils])]) (.seq (.ops [qm 5 0,qk 7 241 5,qm 7 0,qk 9 241 7,qm 9 0,qk 11 242 9,qm 11 0,qf 12 3 0,ql 13 3 12 1 false, .i (.call 15 97 false [(.s 11),(.s 13)]),qm 15 0,qk 17 242 15, .i (.bld 17 [.int .i64 0, .int .i64 0, .nils, .int .i64 0, .nils] [(0,1,(.s 6)),(1,1,(.s 8)),(2,1,(.s 10)),(3,1,(.s 14)),(4,1,(.s 16))]),qs 4 4 17 5]) .ret))⟩
theorem Ci:cd qH=some qo:=by kernel_rfl
theorem uO (b:Bytes) (i:Nat) (h:Int) (l:ah) (hl:1≤l.n∧l.n≤10) (hi:i≤b.length) (hb:b.length≤1073741824):VC cd qH (iO [] 133 (cur b i h) [(true,l.c)]) (fun r p=>∃x:aW×Nat×Int,((isNum x.1.view=true∧isNum x.1.height=true∧x.1.block.length=32∧dv x.1.who 0 (l.n - 1)=true∧x.1.tag.length=32)∧x.2.1≤b.length)∧r= [(true,x.1.o)]∧p= [.pt 133 (cur b x.2.1 x.2.2)]):=by
 refine aw Ci rfl ?_
 simp(disch:=omega) [qo,cur,ah.c,VZ]
 refine dz (hK b i h hi hb) ?_
 rintro⟨k1,i1,h1⟩ ⟨g1,j1⟩
 simp only at g1 j1
 simp(disch:=omega) [cur,VZ]
 refine dz (hK b i1 h1 j1 hb) ?_
 rintro⟨k2,i2,h2⟩ ⟨g2,j2⟩
 simp only at g2 j2
 simp(disch:=omega) [cur,VZ]
 refine dz (cR b i2 h2 j2 hb) ?_
 rintro⟨x3,i3,h3⟩ ⟨g3,j3⟩
 simp only at g3 j3
 obtain⟨m,hm⟩:∃m:Nat,l.n=(m:Int):=⟨l.n.toNat,by omega⟩
 simp(disch:=omega) [cur,hm,VZ]
 refine dz (aC b i3 h3 m (by omega) j3 hb) ?_
 rintro⟨k4,i4,h4⟩ ⟨g4,j4⟩
 simp only at g4 j4
 simp(disch:=omega) [cur,VZ]
 refine dz (cR b i4 h4 j4 hb) ?_
 rintro⟨x5,i5,h5⟩ ⟨g5,j5⟩
 simp only at g5 j5
 simp(disch:=omega) [cur,VZ]
 refine⟨⟨k1,k2,x3,k4,x5⟩,i5,⟨⟨g1,g2,g3,by simp only[dv,decide_eq_true_eq];omega,g5⟩,j5⟩,rfl,rfl⟩
abbrev oA:Nat:=317
def qy:AF:=⟨1,4,[.tmp 2],(.seq (.ops [.i (.mov 2 (.c (.val false [.nils])))]) (.seq (.seq (.ops [qm 3 0,qk 5 279 3, .i (.not 5 (.s 4))]) (.cond (.s 5) (.seq (.ops [.i (.mov 2 (.c (.val false [.nils])))]) .ret) .skip)) (.seq (.ops [qm 6 0,qk 8 341 6, .i (.mks 8 5 1 1 [.int .u8 0] (.s 7)),qm 2 8]) .ret)))⟩
theorem Ay:cd oA=some qy:=by kernel_rfl
theorem zE (n:Int) (hn:1≤n∧n≤10):VC cd oA (aB [(false,[.int .i64 n])]) (fun rs _=>rs= [(false,[.o true (some (5,1)) (bytes (List.replicate (tg n).toNat 0))])]):=by
 have h1:dv n 1 10=true:=by simp only[dv,decide_eq_true_eq];omega
 have h2:=wk hn
 have h3:0≤tg n:=by unfold tg;split <;>omega
 refine aa Ay rfl ?_
 simp(disch:=omega) [qy,VY]
 refine ao (eL n) ?_
 simp(disch:=omega) [h1,VY]
 refine ao (kc n (by omega) (by omega)) ?_
 have e1:List.replicate (tg n).toNat [D.int .u8 0]=bytes (List.replicate (tg n).toNat 0):=u9 _
 simp(disch:=omega) [h3,e1,VY]
theorem KB (x:Bytes) (j:Nat) (y z:Int):(bytes x).set j [.int .u8 (aG .or .u8 y z)]=bytes (x.set j (b8 ((BitVec.ofInt IntKind.u8.bits y|||BitVec.ofInt IntKind.u8.bits z).toNat:Int))):=uJ x j _
abbrev ra:Nat:=265
def o5:AF:=⟨2,5,[.tmp 4],(.seq (.ops [.i (.mov 4 (.c (.val false [.nils])))]) (.seq (.ops [qm 7 1,qk 9 317 7,qm 5 8]) (.seq (.seq (.ops [.i (.mov 6 (qi 0))]) (.block 0 (.loop [29,28,27,26,25,24,23,22,21,20,19,18,17,16,15,14,13,12,11,10,9] (.seq (.seq (.ops [qm 9 6,qm 10 1,qd 11 .lss 9 10]) (.cond (.s 11) .skip (.exit 0))) (.seq (.block 1 (.seq (.ops [qm 14 0, .i (.call 16 135 false [(.s 14),(qi 3)]), .i (.not 16 (.s 15))]) (.cond (.s 16) (.ops [qm 17 5,qm 18 6, .i (.bin 19 .quo (.s 18) (qi 8)),qm 20 5,qm 21 6, .i (.bin 22 .quo (.s 21) (qi 8)), .i (.iad 23 (.s 20) (.s 22) 1), .i (.ldh 24 (.s 23) 1 false),qm 25 6, .i (.bin 26 .rem (.s 25) (qi 8)), .i (.bin 27 .shl (.c (.val false [.int .u8 1])) (.s 26)),qd 28 .or 24 27, .i (.iad 29 (.s 17) (.s 19) 1), .i (.sth (.s 29) (.s 28) 1)]) .skip))) (.ops [qm 12 6, .i (.bin 13 .add (.s 12) (qi 1)),qm 6 13])))))) (.seq (.ops [qm 30 5,qm 4 30]) .ret))))⟩
theorem Ag:cd ra=some o5:=by kernel_rfl
theorem H7 (b:Bytes) (i:Nat) (h:Int) (n:Int) (hn:1≤n∧n≤10) (hi:i≤b.length) (hb:b.length≤1073741824):VC cd ra (iO [] 133 (cur b i h) [(false,[.int .i64 n])]) (fun r p=>∃x:Bytes×Nat×Int,(x.1.length≤2∧x.2.1≤b.length)∧r= [(false,[.o true (some (5,1)) (bytes x.1)])]∧p= [.pt 133 (cur b x.2.1 x.2.2)]):=by
 have h2:=wk hn
 have h3:0≤tg n:=by unfold tg;split <;>omega
 refine aw Ag rfl ?_
 simp(disch:=omega) [o5,cur,VZ]
 refine ao (zE n hn) ?_
 simp(disch:=omega) [cur,VZ]
 refine cQ (σ:=Nat×Nat×Nat×Int×Bytes) (f1:=_) (es0:=_) (by simp(disch:=omega) [VZ];rfl) (by simp(disch:=omega) [VZ];rfl) (fun p=> [(6, .val false [.int .i64 (p.1:Int)]),(5, .val false [.ow 81920 p.2.1])]) (fun p=> [(4096, .pt 0 133 [.sl (bytes b), .int .i64 (p.2.2.1:Int), .int .i64 p.2.2.2.1]),(81920, .sl p.2.1 true true (some (5,1)) (bytes p.2.2.2.2))])
  (fun p g=>(g:Int)+p.1=n∧p.2.2.1≤b.length∧(p.2.2.2.2.length:Int)=tg n) (0,_,i,h,List.replicate (tg n).toNat 0) n.toNat (by simp(disch:=omega) [VZ];rfl) (by simp(disch:=omega) [VZ]) ⟨by simp only;omega,hi,by simp;omega⟩ ?_
 rintro⟨m,v,i2,h2',x⟩ nx g ⟨hg,h5,h6⟩ P hP
 simp only at hg h5 h6
 simp(disch:=omega) [VZ]
 refine ab (fun h8=> ?_) (fun h8=> ?_)
 ·simp(disch:=omega) [VZ]
  refine dz (BX b i2 h2' 3 (by omega) h5 hb) ?_
  rintro⟨y,i3,h3'⟩ h9
  simp only at h9
  have hm:m / 8 < x.length:=by unfold tg at h6;split at h6 <;>omega
  cases y with
  |true=>
   simp(disch:=omega) [cur,VZ]
   exact hP (m+1,v,i3,h3',x) (g - 1) _ _ (by omega) ⟨by simp only;omega,h9,h6⟩ (by simp(disch:=omega) [VZ] <;>rfl) (by simp(disch:=omega) [VZ])
  |false=>
   obtain⟨q1,q2,q3,q4⟩:=NQ m
   simp(disch:=omega) [cur,IB,Lz,q1,q2,q3,q4,d6 hm,KB,VZ]
   exact hP (m+1,v,i3,h3',x.set (m / 8) (b8 (((x[m / 8].toNat % 2 ^ IntKind.u8.bits|||(IntKind.u8.wrap (2 ^ min (m % 8) IntKind.u8.bits) % 2 ^ IntKind.u8.bits).toNat:Nat):Nat):Int))) (g - 1) _ _ (by omega) ⟨by simp only;omega,h9,by simpa using h6⟩ (by simp(disch:=omega) [VZ] <;>rfl) (by simp(disch:=omega) [VZ])
 ·simp(disch:=omega) [cur,VZ]
  exact⟨x,i2,⟨by omega,h5⟩,rfl,rfl⟩
abbrev oH:Nat:=185
def qg:AF:=⟨2,6,[.cell 4 5 true],(.seq (.ops [.i (.lbox 3 (.s 1)), .i (.lal 4 [.int .i64 0, .int .i64 0, .nils, .nils, .nils])]) (.seq (.ops [qm 7 0,qk 9 241 7,qm 9 0,qk 11 241 9,qm 11 0,qk 13 242 11,qm 13 0,qf 14 3 0,ql 15 3 14 1 false, .i (.call 17 265 false [(.s 13),(.s 15)]), .i (.bld 17 [.int .i64 0, .int .i64 0, .nils, .nils, .nils] [(0,1,(.s 8)),(1,1,(.s 10)),(2,1,(.s 12)),(3,1,(.s 16))]), .i (.lal 5 [.int .i64 0, .int .i64 0, .nils, .nils, .nils]),qs 5 5 17 5]) (.seq (.seq (.ops [qf 18 5 3,ql 19 5 18 1 false,qk 21 266 19,qm 6 20]) (.block 0 (.loop [31,30,29,28,27,26,25,24,23,22,21] (.seq (.seq (.ops [qm 21 6, .i (.bin 22 .gtr (.s 21) (qi 0))]) (.cond (.s 22) .skip (.exit 0))) (.seq (.block 1 (.ops [qf 25 5 4,ql 26 5 25 1 false,qm 27 0,qk 29 242 27, .i (.lsl 29 1 1 [.nils] [(0,1,(.s 28))]), .i (.app 30 22 1 24 (.s 26) (.s 29)),qf 31 5 4,qs 5 31 30 1])) (.ops [qm 23 6, .i (.bin 24 .sub (.s 23) (qi 1)),qm 6 24])))))) (.seq (.ops [ql 32 5 5 5 true,qs 4 4 32 5]) .ret))))⟩
theorem A3:cd oH=some qg:=by kernel_rfl
theorem u6 (b:Bytes) (i:Nat) (h:Int) (l:ah) (hl:1≤l.n∧l.n≤10) (hi:i≤b.length) (hb:b.length≤1073741824):VC cd oH (iO [] 133 (cur b i h) [(true,l.c)]) (fun r p=>∃x:Qc×Nat×Int,(Ie x.1∧x.2.1≤b.length)∧r= [(true,x.1.o)]∧p= [.pt 133 (cur b x.2.1 x.2.2)]):=by
 refine aw A3 rfl ?_
 simp(disch:=omega) [qg,cur,ah.c,VZ]
 refine dz (hK b i h hi hb) ?_
 rintro⟨k1,i1,h1⟩ ⟨g1,j1⟩
 simp only at g1 j1
 simp(disch:=omega) [cur,VZ]
 refine dz (hK b i1 h1 j1 hb) ?_
 rintro⟨k2,i2,h2⟩ ⟨g2,j2⟩
 simp only at g2 j2
 simp(disch:=omega) [cur,VZ]
 refine dz (cR b i2 h2 j2 hb) ?_
 rintro⟨x3,i3,h3⟩ ⟨g3,j3⟩
 simp only at g3 j3
 simp(disch:=omega) [cur,VZ]
 refine dz (H7 b i3 h3 l.n hl j3 hb) ?_
 rintro⟨x4,i4,h4⟩ ⟨g4,j4⟩
 simp only at g4 j4
 simp(disch:=omega) [cur,VZ]
 refine ao (jo x4 (by omega)) ?_
 simp(disch:=omega) [cur,VZ]
 refine dq (σ:=Nat×Nat×Nat×Int×List Bytes) (f0:=_) (by simp(disch:=omega) [VZ];rfl) (c5.xo (s:=5) (k:=5) (i:=4) rfl rfl) (f1:=_) (es0:=_) (by simp(disch:=omega) [VZ];rfl) (by simp(disch:=omega) [VZ];rfl) (fun p=> [(6, .val false [.int .i64 (p.1:Int)]),(5, .box [.int .i64 k1, .int .i64 k2, .ow 114688 19, .ow 147456 24, .ow 5 p.2.1])]) (fun p=> [(4096, .pt 0 133 [.sl (bytes b), .int .i64 (p.2.2.1:Int), .int .i64 p.2.2.2.1]),(5, .sl p.2.1 true true (some (22,1)) (bm p.2.2.2.2))])
  (fun p g=>g=p.1∧p.2.2.1≤b.length∧p.2.2.2.2.length+p.1=(aQ x4).length∧∀t∈p.2.2.2.2,t.length=32) ((aQ x4).length,_,i4,h4,[]) (aQ x4).length (by simp(disch:=omega) [VZ];rfl) (by simp(disch:=omega) [bm,VZ]) ⟨rfl,j4,by simp,by simp⟩ ?_
 rintro⟨n,v,i5,h5,x⟩ nx g ⟨hg,a5,a6,a7⟩ P hP
 simp only at hg a5 a6 a7
 have hlb:=db x4
 simp(disch:=omega) [VZ]
 refine ab (fun h8=> ?_) (fun h8=> ?_)
 ·simp(disch:=omega) [VZ]
  refine dz (cR b i5 h5 a5 hb) ?_
  rintro⟨y,i6,h6⟩ ⟨g6,j6⟩
  simp only at g6 j6
  have e1:IntKind.i64.wrap ((n:Int) - 1)=((n - 1:Nat):Int):=by rw[Hq (by omega) (by omega)];omega
  have hl:(bm x).length=x.length:=aq x
  simp(disch:=omega) [cur,hl,e1,lN,VZ]
  refine hP (n - 1,_,i6,h6,x++ [y]) (g - 1) _ _ (by omega) ⟨by simp only;omega,j6,by simp;omega,fun z hz=> ?_⟩ (by simp(disch:=omega) [VZ];rfl) (by simp(disch:=omega) [VZ])
  rcases List.mem_append.1 hz with hz|hz
  ·exact a7 z hz
  ·simp only[List.mem_singleton]at hz;subst hz;exact g6
 ·simp(disch:=omega) [cur,VZ]
  exact⟨⟨k1,k2,x3,x4,x⟩,i5,⟨⟨g1,g2,g3,g4,by simp only;omega,a7⟩,a5⟩,rfl,rfl⟩
end Go.Eng.F
namespace Go.Eng.F
def Mv (n:Int):Prop:=0≤n∧n≤1152921504606846975
def Qc.rd (q:Qc):Prop:=(Mv q.view∧Mv q.height)∧q.block.length≤32∧q.bits.length≤2∧q.tags.length≤16∧∀t∈q.tags,t.length≤32
theorem qq {n:Nat} (h:n≤1152921504606846975):Mv (n:Int):=⟨by omega,by omega⟩
theorem Bb {b:Bytes} {l:ah} {r:Rd} (h:r.wf b):(yd b l r).2.wf b∧(yd b l r).1.rd:=by
 have w1:=dk h
 have w2:=dk w1.1
 have w3:=eC w2.1 32
 simp only[yd]
 split
 ·have w4:=yp b (cf b (cZ b (cZ b r).2).2 32).2.at_ l.n
  have w5:=fun(r:Rd) (hr:r.wf b)=>eC hr 32
  have w6:=GI (p:=fun t:Bytes=>t.length≤32) (b:=b) (f:=fun r=>cf b r 32) (fun(r:Rd) hr=>⟨(w5 r hr).1,(w5 r hr).2.1⟩)
  refine⟨Jj (fun r hr=>(w5 r hr).1) _ _ w4.1,⟨qq w1.2,qq w2.2⟩,w3.2.1,w4.2,?_,w6 _ _ w4.1⟩
  simp only[Hm]
  have:=db (dM b (cf b (cZ b (cZ b r).2).2 32).2.at_ l.n).1
  omega
 ·exact⟨w3.1,⟨qq w1.2,qq w2.2⟩,w3.2.1,by simp,by simp,by simp⟩
def Head.rd (h:Head):Prop:=(Mv h.view∧Mv h.height∧Mv h.proposer)∧h.parent.length≤32∧h.root.length≤32∧h.qc.rd
theorem Bi {b:Bytes} {l:ah} {r:Rd} (h:r.wf b):(dG b l r).2.wf b∧(dG b l r).1.rd:=by
 simp only[dG]
 have w1:=dk h
 generalize cZ b r=s1 at w1⊢
 have w2:=dk w1.1
 generalize cZ b s1.2=s2 at w2⊢
 have w3:=eA (bad:=decide (s2.1=0)) (c:=5) w2.1 (by omega)
 generalize b5 s2.2 (decide (s2.1=0)) 5=s3 at w3⊢
 have w4:=eQ (n:=l.n) (c:=5) w3 (by omega)
 generalize bP b s3 l.n 5=s4 at w4⊢
 have w5:=eC w4.1 32
 generalize cf b s4.2 32=s5 at w5⊢
 have w6:=eC w5.1 32
 generalize cf b s5.2 32=s6 at w6⊢
 have w7:=Bb (l:=l) w6.1
 generalize yd b l s6.2=s7 at w7⊢
 exact⟨eA w7.1 (by omega),⟨qq w1.2,qq w2.2,qq w4.2⟩,w5.2.1,w6.2.1,w7.2⟩
theorem FU (h:Head) (h1:0≤h.height) (h2:lq h.height):VC cd ei (aB [(true,h.c)]) (fun rs _=>rs=bl (fits h)):=by
 simp only[lq]at h2
 refine aa gM rfl ?_
 simp(disch:=omega) [ef,Head.c,VY]
 refine ab (fun g1=> ?_) (fun g1=> ?_) <;>simp(disch:=omega) [g1,fits,VY]
 refine ab (fun g2=> ?_) (fun g2=> ?_) <;>simp(disch:=omega) [g1,g2,VY]
 refine ae (aD _ _) rfl rfl ?_
 simp(disch:=omega) [g1,g2,VY]
abbrev gE:Nat:=111
def nF:AF:=⟨2,6,[.cell 4 10 true],(.seq (.ops [.i (.lbox 2 (.s 0)), .i (.lal 4 qz)]) (.seq (.ops [qm 6 1,qk 8 165 6,qm 8 1,qk 10 165 8, .i (.bld 10 qz [(0,1,(.s 7)),(1,1,(.s 9))]), .i (.lal 5 qz),qs 5 5 10 10]) (.seq (.ops [qm 11 1,qf 12 5 1,ql 13 5 12 1 false, .i (.bin 14 .neq (.s 13) (qi 0)), .i (.call 16 172 false [(.s 11),(.s 14),(qi 5)])]) (.seq (.ops [qm 16 1,qf 17 2 0,ql 18 2 17 1 false, .i (.call 20 167 false [(.s 16),(.s 18),(qi 5)]),qf 20 5 2,qs 5 20 19 1]) (.seq (.ops [qm 21 1,qk 23 166 21,qm 23 1,qk 25 166 23,qf 25 5 3,qs 5 25 22 1,qf 26 5 4,qs 5 26 24 1]) (.seq (.ops [ql 27 2 2 5 true,qm 28 1, .i (.call 30 106 false [(.s 27),(.s 28)]),qf 30 5 5,qs 5 30 29 5]) (.seq (.ops [qm 31 1,ql 32 5 5 10 true,qk 34 171 32, .i (.call 35 172 false [(.s 31),(.s 33),(qi 6)])]) (.seq (.ops [ql 35 5 5 10 true,qs 4 4 35 10]) .ret))))))))⟩
theorem y0:cd gE=some nF:=by kernel_rfl
theorem fS (b:Bytes) (l:ah) (r:Rd) (hl:1≤l.n∧l.n≤10) (hr:r.wf b) (hb:b.length≤1073741824):VC cd gE (iO [(true,l.c)] 215 (bk b r) []) (fun rs p=>rs= [(true,(dG b l r).1.o)]∧p= [.pt 215 (bk b (dG b l r).2)]):=by
 refine aw y0 rfl ?_
 simp(disch:=omega) [nF,bk,ah.c,VZ]
 refine dc (bz b r hr hb) ?_
 have w1:=dk hr
 generalize h1:cZ b r=s1 at w1⊢
 simp(disch:=omega) [bk,VZ]
 refine dc (bz b s1.2 w1.1 hb) ?_
 have w2:=dk w1.1
 generalize h2:cZ b s1.2=s2 at w2⊢
 simp(disch:=omega) [bk,VZ]
 refine dc (aP b s2.2 (!decide (s2.1=0)) 5) ?_
 simp only[Bool.not_not]
 have w3:=eA (bad:=decide (s2.1=0)) (c:=5) w2.1 (by omega)
 generalize h3:b5 s2.2 (decide (s2.1=0)) 5=s3 at w3⊢
 simp(disch:=omega) [bk,VZ]
 refine dc (cG b s3 l.n 5 w3 hb) ?_
 have w4:=eQ (n:=l.n) (c:=5) w3 (by omega)
 generalize h4:bP b s3 l.n 5=s4 at w4⊢
 simp(disch:=omega) [bk,VZ]
 refine dc (cm b s4.2 w4.1 hb) ?_
 have w5:=eC w4.1 32
 generalize h5:cf b s4.2 32=s5 at w5⊢
 simp(disch:=omega) [bk,VZ]
 refine dc (cm b s5.2 w5.1 hb) ?_
 have w6:=eC w5.1 32
 generalize h6:cf b s5.2 32=s6 at w6⊢
 simp(disch:=omega) [bk,VZ]
 refine dc (dP b l s6.2 hl w6.1 hb) ?_ (n1:=by simp(disch:=omega) [Qc.o,VZ]) (n3:=by simp(disch:=omega) [Qc.o,VZ])
 have w7:=Bb (l:=l) w6.1
 generalize h7:yd b l s6.2=s7 at w7⊢
 simp(disch:=omega) [bk,ah.c,Qc.o,VZ]
 have w2':=qq w2.2
 simp only[Mv]at w2'
 refine ao (FU ⟨s1.1,s2.1,s4.1,s5.1,s6.1,s7.1⟩ w2'.1 ⟨by simp only;omega,by simp only;omega⟩) ?_ (ha:=by first|rfl|(simp[Head.c,VY] <;>repeat' constructor))
 simp(disch:=omega) [bk,VZ]
 refine dc (aP b s7.2 (fits ⟨s1.1,s2.1,s4.1,s5.1,s6.1,s7.1⟩) 6) ?_
 have w8:=eA (bad:=(!fits ⟨s1.1,s2.1,s4.1,s5.1,s6.1,s7.1⟩)) (c:=6) w7.1 (by omega)
 generalize h8:b5 s7.2 ((!fits ⟨s1.1,s2.1,s4.1,s5.1,s6.1,s7.1⟩)) 6=s8 at w8⊢
 simp(disch:=omega) [bk,VZ]
 simp(disch:=omega) [dG,h1,h2,h3,h4,h5,h6,h7,h8,Head.o,bk,VZ]
end Go.Eng.F
namespace Go.Eng.F
def ah.rd (l:ah):Prop:=(1≤l.n∧l.n≤10)∧(0≤l.tx∧l.tx≤40)∧(0≤l.txs∧l.txs≤8)∧3≤l.heads∧l.heads≤5
theorem iA {l:ah} (h:l.ok=true):l.rd:=by
 simp only[ah.ok,dv,Bool.and_eq_true,decide_eq_true_eq]at h
 exact⟨h.1.1.1.1,h.1.1.1.2,h.1.1.2,h.2⟩
theorem lv {r:Rd} {bad:Bool} {c:Nat} (h:(b5 r bad c).er=0) (hc:c≠0):bad=false:=by
 unfold b5 at h
 split at h
 ·exact absurd h hc
 ·rename_i g
  cases bad
  ·rfl
  ·exact absurd ⟨h,rfl⟩ g
theorem iL {r:Rd} {bad:Bool} {c:Nat} (h:r.er≠0):b5 r bad c=r:=by
 unfold b5
 rw[if_neg (fun g=>h g.1)]
theorem xf {α:Type} {f:Rd→α×Rd} {k:Nat} {r:Rd} (h:r.er≠0):dt f k r=([],r):=by
 cases k
 ·rfl
 ·rw[dt,if_neg h]
theorem lR {α:Type} {f:Rd→α×Rd} {k:Nat} {r:Rd} (h:r.er=0):dt f (k+1) r=((f r).1::(dt f k (f r).2).1,(dt f k (f r).2).2):=by
 rw[dt,if_pos h]
theorem m8 (b:Bytes) (r:Rd) (m:Int) (h0:0≤m∧m≤1073741824) (hr:r.wf b) (hb:b.length≤1073741824):VC cd eM (iO [] 215 (bk b r) [(false,[.int .i64 m])]) (fun rs p=>rs= [(false,[.o true (some (5,1)) (bytes (dV b r m.toNat).1)])]∧p= [.pt 215 (bk b (dV b r m.toNat).2)]):=by
 obtain⟨k,rfl⟩:=Int.eq_ofNat_of_zero_le h0.1
 exact Cc b r k (by omega) hr hb
abbrev fR:Nat:=116
def kA:AF:=⟨2,6,[.cell 4 11 true],(.seq (.ops [.i (.lbox 2 (.s 0)), .i (.lal 4 [.int .i64 0, .int .i64 0, .int .i64 0, .nils, .nils, .int .i64 0, .int .i64 0, .nils, .nils, .nils, .nils])]) (.seq (.ops [ql 8 2 2 5 true,qm 9 1, .i (.call 11 111 false [(.s 8),(.s 9)]), .i (.bld 11 [.int .i64 0, .int .i64 0, .int .i64 0, .nils, .nils, .int .i64 0, .int .i64 0, .nils, .nils, .nils, .nils] [(0,10,(.s 10))]), .i (.lal 5 [.int .i64 0, .int .i64 0, .int .i64 0, .nils, .nils, .int .i64 0, .int .i64 0, .nils, .nils, .nils, .nils]),qs 5 5 11 11]) (.seq (.ops [qm 12 1,qf 13 2 2,ql 14 2 13 1 false, .i (.bin 15 .add (.s 14) (qi 1)), .i (.call 17 167 false [(.s 12),(.s 15),(qi 3)]),qm 6 16]) (.seq (.seq (.ops [.i (.mov 7 (qi 0))]) (.block 0 (.loop [37,36,35,34,33,32,31,30,29,28,27,26,25,24,23,22,21,20,19,18,17] (.seq (.seq (.ops [qm 17 7,qm 18 6,qd 19 .lss 17 18,qm 20 19, .g 20 true 22 (.mov 21 (.s 1)), .g 20 true 23 (.nch 22 (.s 21)), .g 20 true 24 (.fad 23 (.s 22) 2), .g 20 true 25 (.ldh 24 (.s 23) 1 false), .g 20 true 26 (.bin 25 .eql (.s 24) (qi 0)), .i (.pick 26 (.s 20) (.s 25) (qb false))]) (.cond (.s 26) .skip (.exit 0))) (.seq (.block 1 (.ops [qf 29 5 10,ql 30 5 29 1 false,qm 31 1,qf 32 2 1,ql 33 2 32 1 false, .i (.call 35 177 false [(.s 31),(.s 33)]), .i (.lsl 35 1 1 [.nils] [(0,1,(.s 34))]), .i (.app 36 22 1 24 (.s 30) (.s 35)),qf 37 5 10,qs 5 37 36 1])) (.ops [qm 27 7, .i (.bin 28 .add (.s 27) (qi 1)),qm 7 28])))))) (.seq (.ops [qm 38 1,qm 39 1, .i (.nch 40 (.s 39)),qf 41 40 2, .i (.ldh 42 (.s 41) 1 false), .i (.bin 43 .neq (.s 42) (qi 0)),qm 44 43, .g 44 false 46 (.fad 45 (.s 5) 0), .g 44 false 47 (.fad 46 (.s 45) 4), .g 44 false 48 (.ldl 47 5 (.s 46) 1 false), .g 44 false 49 (.fad 48 (.s 5) 10), .g 44 false 50 (.ldl 49 5 (.s 48) 1 false), .g 44 false 51 (.call 51 176 false [(.s 49)]), .g 44 false 52 (.call 52 21 false [(.s 47),(.s 50)]), .i (.pick 52 (.s 44) (qb true) (.s 51)), .i (.call 54 172 false [(.s 38),(.s 52),(qi 7)])]) (.seq (.ops [ql 54 5 5 11 true,qs 4 4 54 11]) .ret))))))⟩
theorem xH:cd fR=some kA:=by kernel_rfl
theorem wJ (b:Bytes) (l:ah) (r:Rd) (hL:l.rd) (hr:r.wf b) (hb:b.length≤1073741824):VC cd fR (iO [(true,l.c)] 215 (bk b r) []) (fun rs p=>rs= [(true,(eN b l r).1.o)]∧p= [.pt 215 (bk b (eN b l r).2)]):=by
 refine VC.xQ ?_
 obtain⟨hl,hx,ht,hh⟩:=hL
 refine aw xH rfl ?_
 simp(disch:=omega) [kA,bk,ah.c,VZ]
 refine dc (fS b l r hl hr hb) ?_ (n1:=by simp(disch:=omega) [Head.o,VZ]) (n3:=by simp(disch:=omega) [Head.o,VZ])
 have w1:=Bi (l:=l) hr
 generalize h1:dG b l r=s1 at w1⊢
 simp(disch:=omega) [bk,ah.c,Head.o,VZ]
 refine dc (cG b s1.2 (l.txs+1) 3 w1.1 hb) ?_
 have w2:=eQ (n:=(l.txs+1)) (c:=3) w1.1 (by omega)
 generalize h2:bP b s1.2 (l.txs+1) 3=s2 at w2⊢
 simp(disch:=omega) [bk,VZ]
 have hn:s2.2.er=0→(s2.1:Int)≤l.txs:=by
  intro g
  have e:(bP b s1.2 (l.txs+1) 3).2.er=0:=by rw[h2];exact g
  have:=lv e (by omega)
  simp only[bP]at h2
  rw[show(cZ b s1.2).1=s2.1 by rw[←h2]]at this
  simp only[decide_eq_false_iff_not]at this
  omega
 refine dq (σ:=Nat×Nat×List Bytes×Rd) (f0:=_) (by simp(disch:=omega) [VZ];rfl) (c5.xo (s:=5) (k:=5) (i:=10) rfl rfl) (f1:=_) (es0:=_) (by simp(disch:=omega) [VZ];rfl) (by simp(disch:=omega) [VZ];rfl) (fun p=> [(7, .val false [.int .i64 (p.1:Int)]),(5, .box [.int .i64 s1.1.view, .int .i64 s1.1.height, .int .i64 s1.1.proposer, .ow 98307 12, .ow 98308 13, .int .i64 s1.1.qc.view, .int .i64 s1.1.qc.height, .ow 98311 16, .ow 98312 17, .ow 98313 18, .ow 5 p.2.1])]) (fun p=> [(4101, .pt 5 215 [.sl (bytes b), .int .i64 (p.2.2.2.at_:Int), .int .i64 (p.2.2.2.er:Int)]),(5, .sl p.2.1 true true (some (22,1)) (bm p.2.2.1))])
  (fun p g=>(g+p.1=s2.1∧p.2.2.1.length=p.1)∧(p.2.2.2.er=0→(s2.1:Int)≤l.txs)∧p.2.2.2.wf b∧dt (fun r=>dV b r l.tx.toNat) s2.1 s2.2=(p.2.2.1++(dt (fun r=>dV b r l.tx.toNat) g p.2.2.2).1,(dt (fun r=>dV b r l.tx.toNat) g p.2.2.2).2)) (0,_,[],s2.2) s2.1 (by simp(disch:=omega) [VZ];rfl) (by simp(disch:=omega) [bm,bk,VZ]) ⟨⟨by simp,rfl⟩,hn,w2.1,by simp⟩ ?_
 have hall:∀t∈(dt (fun r=>dV b r l.tx.toNat) s2.1 s2.2).1,t.length≤40:=x7 (p:=fun t:Bytes=>t.length≤40) (b:=b) (fun r hr=>⟨(wG hr _).1,Nat.le_trans (wG hr _).2.1 (by omega)⟩) _ _ w2.1
 rintro⟨i,v,x,⟨qa,qe⟩⟩ nx g0 ⟨⟨hg,h5⟩,h10,h6,h7⟩ P hP
 simp only at hg h5 h6 h7 h10
 have hl2:(bm x).length=i:=by rw[aq];exact h5
 by_cases h9:qe=0
 ·subst h9
  by_cases h8:i < s2.1
  ·have h11:=h10 rfl
   simp(disch:=omega) [h8,bk,VZ]
   refine dc (m8 b ⟨qa,0⟩ l.tx (by omega) h6 hb) ?_
   have w5:=wG h6 l.tx.toNat
   obtain⟨g1,rfl⟩:∃g1,g0=g1+1:=⟨g0 - 1,by omega⟩
   rw[lR rfl]at h7
   simp only at h7
   generalize h12:dV b ⟨qa,0⟩ l.tx.toNat=s5 at w5 h7⊢
   simp(disch:=omega) [bk,hl2,Fu,VZ]
   refine hP (i+1,_,x++ [s5.1],s5.2) g1 _ _ (by omega) ⟨⟨by simp only;omega,by simp[h5]⟩,fun _=>h11,w5.1,by rw[h7];simp⟩ (by simp(disch:=omega) [VZ];rfl) (by simp(disch:=omega) [bk,VZ])
  ·obtain rfl:g0=0:=by omega
   simp only[dt,List.append_nil]at h7
   have hx2:∀t∈x,t.length≤1073741823:=fun t ht=>Nat.le_trans (hall t (by rw[h7];exact ht)) (by omega)
   have h11:=h10 rfl
   simp(disch:=omega) [h8,bk,VZ]
   refine ao (jT _ x rfl (by omega) hx2) ?_
   simp(disch:=omega) [VZ]
   refine ao (aD _ _) ?_
   simp(disch:=omega) [bk,VZ]
   refine dc (aP b ⟨qa,0⟩ (decide (s1.1.root=aR x)) 7) ?_
   simp(disch:=omega) [eN,h1,h2,h7,Block.o,bk,br,bN,bT,VZ]
 ·rw[xf (k:=g0) (r:=⟨qa,qe⟩) h9]at h7
  simp only[List.append_nil]at h7
  by_cases h8:i < s2.1
  ·skip
   have hx2:∀t∈x,t.length≤1073741823:=fun t ht=>Nat.le_trans (hall t (by rw[h7];exact ht)) (by omega)
   simp(disch:=omega) [h8,h9,bk,VZ]
   refine dc (aP b ⟨qa,qe⟩ true 7) ?_
   have h12:∀bad c,b5 ⟨qa,qe⟩ bad c=⟨qa,qe⟩:=fun bad c=>iL h9
   simp(disch:=omega) [eN,h1,h2,h7,Block.o,bk,br,bN,bT,h12,VZ]
  ·skip
   have hx2:∀t∈x,t.length≤1073741823:=fun t ht=>Nat.le_trans (hall t (by rw[h7];exact ht)) (by omega)
   simp(disch:=omega) [h8,h9,bk,VZ]
   refine dc (aP b ⟨qa,qe⟩ true 7) ?_
   have h12:∀bad c,b5 ⟨qa,qe⟩ bad c=⟨qa,qe⟩:=fun bad c=>iL h9
   simp(disch:=omega) [eN,h1,h2,h7,Block.o,bk,br,bN,bT,h12,VZ]
end Go.Eng.F
namespace Go.Eng.F
theorem Je (l:List Head) (h:Head):el l++ [[.int .i64 h.view, .int .i64 h.height, .int .i64 h.proposer, .sl (bytes h.parent), .sl (bytes h.root), .int .i64 h.qc.view, .int .i64 h.qc.height, .sl (bytes h.qc.block), .sl (bytes h.qc.bits), .sl (bm h.qc.tags)]]=el (l++ [h]):=by simp[el,Head.c]
theorem IF {b:Bytes} {l:ah} {r:Rd} (h:r.er≠0):(yd b l r).2=r:=by simp[yd,cZ,cf,h]
theorem Mv.i64 {n:Int} (h:Mv n):lq n:=⟨by have:=h.1;omega,by have:=h.2;omega⟩
theorem Qc.rd.wf {q:Qc} (h:q.rd):q.wf:=by
 obtain⟨⟨h1,h2⟩,h3,h4,h5,h6⟩:=h
 refine⟨h1.i64,h2.i64,?_,?_,?_⟩ <;>simp only[Sz] <;>omega
theorem Head.rd.wf {h:Head} (w:h.rd):h.wf:=by
 obtain⟨⟨h1,h2,h3⟩,h4,h5,h6⟩:=w
 refine⟨h1.i64,h2.i64,h3.i64,?_,?_,h6.wf⟩ <;>simp only[Sz] <;>omega
abbrev fQ:Nat:=123
def kW:AF:=⟨2,6,[.cell 4 6 true],(.seq (.ops [.i (.lbox 2 (.s 0)), .i (.lal 4 [.nils, .int .i64 0, .int .i64 0, .nils, .nils, .nils])]) (.seq (.ops [.i (.bld 8 [.nils, .int .i64 0, .int .i64 0, .nils, .nils, .nils] []),qm 9 1,qk 11 165 9, .i (.lal 5 [.nils, .int .i64 0, .int .i64 0, .nils, .nils, .nils]),qs 5 5 8 6,qm 6 10]) (.seq (.ops [qm 11 1,qm 12 6, .i (.bin 13 .geq (.s 12) (qi 3)), .i (.call 15 172 false [(.s 11),(.s 13),(qi 5)])]) (.seq (.ops [qm 15 1,qm 16 6,qf 17 2 4,ql 18 2 17 1 false,qd 19 .leq 16 18, .i (.call 21 172 false [(.s 15),(.s 19),(qi 3)])]) (.seq (.seq (.ops [.i (.mov 7 (qi 0))]) (.block 0 (.loop [40,39,38,37,36,35,34,33,32,31,30,29,28,27,26,25,24,23,22,21] (.seq (.seq (.ops [qm 21 7,qm 22 6,qd 23 .lss 21 22,qm 24 23, .g 24 true 26 (.mov 25 (.s 1)), .g 24 true 27 (.nch 26 (.s 25)), .g 24 true 28 (.fad 27 (.s 26) 2), .g 24 true 29 (.ldh 28 (.s 27) 1 false), .g 24 true 30 (.bin 29 .eql (.s 28) (qi 0)), .i (.pick 30 (.s 24) (.s 29) (qb false))]) (.cond (.s 30) .skip (.exit 0))) (.seq (.block 1 (.ops [qf 33 5 0,ql 34 5 33 1 false,ql 35 2 2 5 true,qm 36 1, .i (.call 38 111 false [(.s 35),(.s 36)]), .i (.lsl 38 10 1 qz [(0,10,(.s 37))]), .i (.app 39 45 10 160 (.s 34) (.s 38)),qf 40 5 0,qs 5 40 39 1])) (.ops [qm 31 7, .i (.bin 32 .add (.s 31) (qi 1)),qm 7 32])))))) (.seq (.ops [ql 41 2 2 5 true,qm 42 1, .i (.call 44 106 false [(.s 41),(.s 42)]),qf 44 5 1,qs 5 44 43 5]) (.seq (.ops [qm 45 1,qm 46 1, .i (.nch 47 (.s 46)),qf 48 47 2, .i (.ldh 49 (.s 48) 1 false), .i (.bin 50 .neq (.s 49) (qi 0)),qm 51 50, .g 51 false 53 (.ldl 52 5 (.s 5) 6 true), .g 51 false 54 (.call 54 179 false [(.s 52)]), .i (.pick 54 (.s 51) (qb true) (.s 53)), .i (.call 56 172 false [(.s 45),(.s 54),(qi 6)])]) (.seq (.ops [ql 56 5 5 6 true,qs 4 4 56 6]) .ret))))))))⟩
theorem xB:cd fQ=some kW:=by kernel_rfl
theorem wP (b:Bytes) (l:ah) (r:Rd) (hL:l.rd) (hr:r.wf b) (hb:b.length≤1073741824):VC cd fQ (iO [(true,l.c)] 215 (bk b r) []) (fun rs p=>rs= [(true,(ej b l r).1.o)]∧p= [.pt 215 (bk b (ej b l r).2)]):=by
 refine VC.xQ ?_
 obtain⟨hl,hx,ht,hh⟩:=hL
 refine aw xB rfl ?_
 simp(disch:=omega) [kW,bk,ah.c,VZ]
 refine dc (bz b r hr hb) ?_
 have w1:=dk hr
 generalize h1:cZ b r=s1 at w1⊢
 simp(disch:=omega) [bk,VZ]
 refine dc (aP b s1.2 (decide (3≤(s1.1:Int))) 5) ?_
 have e2:(!decide (3≤(s1.1:Int)))=decide (s1.1 < 3):=by rw[←decide_not,decide_eq_decide];omega
 rw[e2]
 have w2:=eA (bad:=decide (s1.1 < 3)) (c:=5) w1.1 (by omega)
 generalize h2:b5 s1.2 (decide (s1.1 < 3)) 5=s2 at w2⊢
 simp(disch:=omega) [bk,VZ]
 refine dc (aP b s2 (decide ((s1.1:Int)≤l.heads)) 3) ?_
 have e3:(!decide ((s1.1:Int)≤l.heads))=decide (l.heads < (s1.1:Int)):=by rw[←decide_not,decide_eq_decide];omega
 rw[e3]
 have w3:=eA (bad:=decide (l.heads < (s1.1:Int))) (c:=3) w2 (by omega)
 generalize h3:b5 s2 (decide (l.heads < (s1.1:Int))) 3=s3 at w3⊢
 simp(disch:=omega) [bk,VZ]
 have hn:s3.er=0→3≤s1.1∧(s1.1:Int)≤l.heads:=by
  intro g
  have e:=lv (by rw[h3];exact g) (by omega)
  have g2:s2.er=0:=by
   have:=iL (r:=s2) (bad:=decide (l.heads < (s1.1:Int))) (c:=3)
   rw[h3]at this
   by_cases g3:s2.er=0
   ·exact g3
   ·rw[←this g3];exact g
  have e2:=lv (by rw[h2];exact g2) (by omega)
  simp only[decide_eq_false_iff_not]at e e2
  omega
 refine dq (σ:=Nat×Nat×List Head×Rd) (f0:=_) (by simp(disch:=omega) [VZ];rfl) (c5.xo (s:=5) (k:=5) (i:=0) rfl rfl) (f1:=_) (es0:=_) (by simp(disch:=omega) [VZ];rfl) (by simp(disch:=omega) [VZ];rfl) (fun p=> [(7, .val false [.int .i64 (p.1:Int)]),(5, .box [.ow 5 p.2.1, .int .i64 0, .int .i64 0, .nils, .nils, .nils])]) (fun p=> [(4101, .pt 5 215 [.sl (bytes b), .int .i64 (p.2.2.2.at_:Int), .int .i64 (p.2.2.2.er:Int)]),(5, .sl p.2.1 true true (some (45,10)) (el p.2.2.1))])
  (fun p g=>(g+p.1=s1.1∧p.2.2.1.length=p.1)∧(p.2.2.2.er=0→3≤s1.1∧(s1.1:Int)≤l.heads)∧p.2.2.2.wf b∧dt (dG b l) s1.1 s3=(p.2.2.1++(dt (dG b l) g p.2.2.2).1,(dt (dG b l) g p.2.2.2).2)) (0,_,[],s3) s1.1 (by simp(disch:=omega) [VZ];rfl) (by simp(disch:=omega) [el,bk,VZ]) ⟨⟨by simp,rfl⟩,hn,w3,by simp⟩ ?_
 have hall:∀t∈(dt (dG b l) s1.1 s3).1,t.rd:=x7 (p:=fun t:Head=>t.rd) (b:=b) (fun r hr=>Bi hr) _ _ w3
 rintro⟨i,v,x,⟨qa,qe⟩⟩ nx g0 ⟨⟨hg,h5⟩,h10,h6,h7⟩ P hP
 simp only at hg h5 h6 h7 h10
 have hl2:(el x).length=i:=by rw[bS];exact h5
 by_cases h9:qe=0
 ·subst h9
  by_cases h8:i < s1.1
  ·have h11:=h10 rfl
   simp(disch:=omega) [h8,bk,VZ]
   refine dc (fS b l ⟨qa,0⟩ hl h6 hb) ?_ (n1:=by simp(disch:=omega) [Head.o,VZ]) (n3:=by simp(disch:=omega) [Head.o,VZ])
   have w5:=Bi (l:=l) h6
   obtain⟨g1,rfl⟩:∃g1,g0=g1+1:=⟨g0 - 1,by omega⟩
   rw[lR rfl]at h7
   simp only at h7
   generalize h12:dG b l ⟨qa,0⟩=s5 at w5 h7⊢
   simp(disch:=omega) [bk,hl2,Head.o,Je,VZ]
   refine hP (i+1,_,x++ [s5.1],s5.2) g1 _ _ (by omega) ⟨⟨by simp only;omega,by simp[h5]⟩,fun _=>h11,w5.1,by rw[h7];simp⟩ (by simp(disch:=omega) [VZ];rfl) (by simp(disch:=omega) [bk,VZ])
  ·obtain rfl:g0=0:=by omega
   simp only[dt,List.append_nil]at h7
   have hx2:∀t∈x,t.wf:=fun t ht=>(hall t (by rw[h7];exact ht)).wf
   simp(disch:=omega) [h8,bk,VZ]
   refine dc (dP b l ⟨qa,0⟩ hl h6 hb) ?_ (n1:=by simp(disch:=omega) [Qc.o,VZ]) (n3:=by simp(disch:=omega) [Qc.o,VZ])
   have w13:=Bb (l:=l) h6
   generalize h13:yd b l ⟨qa,0⟩=s13 at w13⊢
   obtain⟨q2,⟨qa,qe⟩⟩:=s13
   simp only at w13
   simp(disch:=omega) [bk,Qc.o,VZ]
   by_cases h14:qe=0
   ·subst h14
    have h15:3≤x.length:=by have:=h10 rfl;omega
    simp(disch:=omega) [VZ]
    refine ao (D4 ⟨x,q2⟩ (by simp only;omega) ⟨⟨by have:=h10 rfl;simp only[Sz];omega,hx2⟩,w13.2.wf⟩) ?_ (ha:=by first|rfl|(simp[Proof.c,VY] <;>repeat' constructor))
    simp(disch:=omega) [bk,VZ]
    refine dc (aP b ⟨qa,0⟩ (lZ ⟨x,q2⟩) 6) ?_
    simp(disch:=omega) [ej,h1,h2,h3,h7,h13,Proof.o,bk,br,bN,bT,VZ]
   ·simp(disch:=omega) [h14,bk,VZ]
    refine dc (aP b ⟨qa,qe⟩ true 6) ?_
    have h12:∀bad c,b5 ⟨qa,qe⟩ bad c=⟨qa,qe⟩:=fun bad c=>iL h14
    simp(disch:=omega) [ej,h1,h2,h3,h7,h13,Proof.o,bk,br,bN,bT,h12,VZ]
 ·rw[xf (k:=g0) (r:=⟨qa,qe⟩) h9]at h7
  simp only[List.append_nil]at h7
  by_cases h8:i < s1.1
  ·skip
   have hx2:∀t∈x,t.wf:=fun t ht=>(hall t (by rw[h7];exact ht)).wf
   simp(disch:=omega) [h8,h9,bk,VZ]
   refine dc (dP b l ⟨qa,qe⟩ hl h6 hb) ?_ (n1:=by simp(disch:=omega) [Qc.o,VZ]) (n3:=by simp(disch:=omega) [Qc.o,VZ])
   have w13:=Bb (l:=l) h6
   have h16:=IF (b:=b) (l:=l) (r:=⟨qa,qe⟩) h9
   generalize h13:yd b l ⟨qa,qe⟩=s13 at w13 h16⊢
   obtain⟨q2,q3⟩:=s13
   simp only at w13 h16
   subst h16
   simp(disch:=omega) [bk,Qc.o,h9,VZ]
   refine dc (aP b ⟨qa,qe⟩ true 6) ?_
   have h12:∀bad c,b5 ⟨qa,qe⟩ bad c=⟨qa,qe⟩:=fun bad c=>iL h9
   simp(disch:=omega) [ej,h1,h2,h3,h7,h13,Proof.o,bk,br,bN,bT,h12,VZ]
  ·skip
   have hx2:∀t∈x,t.wf:=fun t ht=>(hall t (by rw[h7];exact ht)).wf
   simp(disch:=omega) [h8,h9,bk,VZ]
   refine dc (dP b l ⟨qa,qe⟩ hl h6 hb) ?_ (n1:=by simp(disch:=omega) [Qc.o,VZ]) (n3:=by simp(disch:=omega) [Qc.o,VZ])
   have w13:=Bb (l:=l) h6
   have h16:=IF (b:=b) (l:=l) (r:=⟨qa,qe⟩) h9
   generalize h13:yd b l ⟨qa,qe⟩=s13 at w13 h16⊢
   obtain⟨q2,q3⟩:=s13
   simp only at w13 h16
   subst h16
   simp(disch:=omega) [bk,Qc.o,h9,VZ]
   refine dc (aP b ⟨qa,qe⟩ true 6) ?_
   have h12:∀bad c,b5 ⟨qa,qe⟩ bad c=⟨qa,qe⟩:=fun bad c=>iL h9
   simp(disch:=omega) [ej,h1,h2,h3,h7,h13,Proof.o,bk,br,bN,bT,h12,VZ]
end Go.Eng.F
namespace Go.Eng.F
def Tc.o (t:Tc):List E:= [.p (.int .i64 t.view), .o true (some (165,3)) (hX t.entries)]
theorem IG (l:List Entry) (w h:Int) (t:Bytes):hX l++ [[.int .i64 w, .int .i64 h, .sl (bytes t)]]=hX (l++ [⟨w,h,t⟩]):=by simp[hX,Entry.c]
theorem Jz {b:Bytes} {l:ah} {v:Int} {k:Nat} {bf:Int} {r:Rd} (h:r.er≠0):jl b l v k bf r=([],r):=by
 cases k
 ·rfl
 ·rw[jl,if_neg h]
theorem Bk {b:Bytes} {l:ah} {v:Int} {k:Nat} {bf:Int} {r:Rd} (h:r.er=0):jl b l v (k+1) bf r=
 (let w:=bP b r l.n 5
  let h:=bP b (b5 w.2 (decide ((w.1:Int)≤bf)) 6) v 6
  let t:=cf b h.2 32
  (⟨w.1,h.1,t.1⟩::(jl b l v k w.1 t.2).1,(jl b l v k w.1 t.2).2)):=by
 rw[jl,if_pos h]
abbrev jR:Nat:=119
def uC:AF:=⟨2,6,[.cell 4 2 true],(.seq (.ops [.i (.lbox 2 (.s 0)), .i (.lal 4 [.int .i64 0, .nils])]) (.seq (.ops [qm 10 1,qk 12 165 10, .i (.bld 12 [.int .i64 0, .nils] [(0,1,(.s 11))]), .i (.lal 5 [.int .i64 0, .nils]),qs 5 5 12 2]) (.seq (.ops [qm 13 1,qf 14 2 0,ql 15 2 14 1 false, .i (.bin 16 .add (.s 15) (qi 1)), .i (.call 18 167 false [(.s 13),(.s 16),(qi 3)]),qm 6 17, .i (.mov 7 (qi (-1)))]) (.seq (.seq (.ops [.i (.mov 8 (qi 0))]) (.block 0 (.loop [56,55,54,53,52,51,50,49,48,47,46,45,44,43,42,41,40,39,38,37,36,35,34,33,32,31,30,29,28,27,26,25,24,23,22,21,20,19,18,9] (.seq (.seq (.ops [qm 18 8,qm 19 6,qd 20 .lss 18 19,qm 21 20, .g 21 true 23 (.mov 22 (.s 1)), .g 21 true 24 (.nch 23 (.s 22)), .g 21 true 25 (.fad 24 (.s 23) 2), .g 21 true 26 (.ldh 25 (.s 24) 1 false), .g 21 true 27 (.bin 26 .eql (.s 25) (qi 0)), .i (.pick 27 (.s 21) (.s 26) (qb false))]) (.cond (.s 27) .skip (.exit 0))) (.seq (.block 1 (.seq (.ops [qm 30 1,qf 31 2 0,ql 32 2 31 1 false, .i (.call 34 167 false [(.s 30),(.s 32),(qi 5)]), .i (.bld 34 [.int .i64 0, .int .i64 0, .nils] [(0,1,(.s 33))]), .i (.lal 9 [.int .i64 0, .int .i64 0, .nils]),qs 9 9 34 3]) (.seq (.ops [qm 35 1,qf 36 9 0,ql 37 9 36 1 false,qm 38 7,qd 39 .gtr 37 38, .i (.call 41 172 false [(.s 35),(.s 39),(qi 6)])]) (.seq (.ops [qf 41 9 0,ql 42 9 41 1 false,qm 7 42]) (.seq (.ops [qm 43 1,qf 44 5 0,ql 45 5 44 1 false, .i (.call 47 167 false [(.s 43),(.s 45),(qi 6)]),qf 47 9 1,qs 9 47 46 1]) (.seq (.ops [qm 48 1,qk 50 166 48,qf 50 9 2,qs 9 50 49 1]) (.ops [qf 51 5 1,ql 52 5 51 1 false,ql 53 9 9 3 true, .i (.lsl 54 3 1 [.int .i64 0, .int .i64 0, .nils] [(0,3,(.s 53))]), .i (.app 55 165 3 40 (.s 52) (.s 54)),qf 56 5 1,qs 5 56 55 1]))))))) (.ops [qm 28 8, .i (.bin 29 .add (.s 28) (qi 1)),qm 8 29])))))) (.seq (.ops [ql 57 5 5 2 true,qs 4 4 57 2]) .ret)))))⟩
theorem CG:cd jR=some uC:=by kernel_rfl
theorem BT (b:Bytes) (l:ah) (r:Rd) (hL:l.rd) (hr:r.wf b) (hb:b.length≤1073741824):VC cd jR (iO [(true,l.c)] 215 (bk b r) []) (fun rs p=>rs= [(true,(H3 b l r).1.o)]∧p= [.pt 215 (bk b (H3 b l r).2)]):=by
 refine VC.xQ ?_
 obtain⟨hl,hx,ht,hh⟩:=hL
 refine aw CG rfl ?_
 simp(disch:=omega) [uC,bk,ah.c,VZ]
 refine dc (bz b r hr hb) ?_
 have w1:=dk hr
 generalize h1:cZ b r=s1 at w1⊢
 simp(disch:=omega) [bk,VZ]
 refine dc (cG b s1.2 (l.n+1) 3 w1.1 hb) ?_
 have w2:=eQ (n:=(l.n+1)) (c:=3) w1.1 (by omega)
 generalize h2:bP b s1.2 (l.n+1) 3=s2 at w2⊢
 simp(disch:=omega) [bk,VZ]
 have hn:s2.2.er=0→(s2.1:Int)≤l.n:=by
  intro g
  have e:(bP b s1.2 (l.n+1) 3).2.er=0:=by rw[h2];exact g
  have:=lv e (by omega)
  simp only[bP]at h2
  rw[show(cZ b s1.2).1=s2.1 by rw[←h2]]at this
  simp only[decide_eq_false_iff_not]at this
  omega
 refine dq (σ:=Nat×Nat×Int×List Entry×Rd) (f0:=_) (by simp(disch:=omega) [VZ];rfl) (c5.xo (s:=5) (k:=5) (i:=1) rfl rfl) (f1:=_) (es0:=_) (by simp(disch:=omega) [VZ];rfl) (by simp(disch:=omega) [VZ];rfl) (fun p=> [(8, .val false [.int .i64 (p.1:Int)]),(7, .val false [.int .i64 p.2.2.1]),(5, .box [.int .i64 s1.1, .ow 5 p.2.1])]) (fun p=> [(4101, .pt 5 215 [.sl (bytes b), .int .i64 (p.2.2.2.2.at_:Int), .int .i64 (p.2.2.2.2.er:Int)]),(5, .sl p.2.1 true true (some (165,3)) (hX p.2.2.2.1))])
  (fun p g=>(g+p.1=s2.1∧p.2.2.2.1.length=p.1)∧(p.2.2.2.2.er=0→(s2.1:Int)≤l.n)∧p.2.2.2.2.wf b∧(-1≤p.2.2.1∧p.2.2.1≤1152921504606846975)∧jl b l s1.1 s2.1 (-1) s2.2=(p.2.2.2.1++(jl b l s1.1 g p.2.2.1 p.2.2.2.2).1,(jl b l s1.1 g p.2.2.1 p.2.2.2.2).2)) (0,_, -1,[],s2.2) s2.1 (by simp(disch:=omega) [VZ];rfl) (by simp(disch:=omega) [hX,bk,VZ]) ⟨⟨by simp,rfl⟩,hn,w2.1,⟨by simp,by simp⟩,by simp⟩ ?_
 rintro⟨i,v,bf,x,⟨qa,qe⟩⟩ nx g0 ⟨⟨hg,h5⟩,h10,h6,hbf,h7⟩ P hP
 simp only at hg h5 h6 h7 h10 hbf
 have hl2:(hX x).length=i:=by rw[bK];exact h5
 by_cases h9:qe=0
 ·subst h9
  by_cases h8:i < s2.1
  ·have h11:=h10 rfl
   simp(disch:=omega) [h8,bk,VZ]
   refine dc (cG b ⟨qa,0⟩ l.n 5 h6 hb) ?_
   have w21:=eQ (n:=l.n) (c:=5) h6 (by omega)
   generalize h21:bP b ⟨qa,0⟩ l.n 5=s21 at w21⊢
   simp(disch:=omega) [bk,VZ]
   refine dc (aP b s21.2 (decide (bf < (s21.1:Int))) 6) ?_
   have e22:(!decide (bf < (s21.1:Int)))=decide ((s21.1:Int)≤bf):=by rw[←decide_not,decide_eq_decide];omega
   rw[e22]
   have w22:=eA (bad:=decide ((s21.1:Int)≤bf)) (c:=6) w21.1 (by omega)
   generalize h22:b5 s21.2 (decide ((s21.1:Int)≤bf)) 6=s22 at w22⊢
   simp(disch:=omega) [bk,VZ]
   refine dc (cG b s22 (s1.1:Int) 6 w22 hb) ?_
   have w23:=eQ (n:=(s1.1:Int)) (c:=6) w22 (by omega)
   generalize h23:bP b s22 (s1.1:Int) 6=s23 at w23⊢
   simp(disch:=omega) [bk,VZ]
   refine dc (cm b s23.2 w23.1 hb) ?_
   have w24:=eC w23.1 32
   generalize h24:cf b s23.2 32=s24 at w24⊢
   simp(disch:=omega) [bk,VZ]
   obtain⟨g1,rfl⟩:∃g1,g0=g1+1:=⟨g0 - 1,by omega⟩
   rw[Bk rfl]at h7
   simp only[h21,h22,h23,h24]at h7
   simp(disch:=omega) [bk,hl2,IG,VZ]
   refine hP (i+1,_,(s21.1:Int),x++ [⟨(s21.1:Int),(s23.1:Int),s24.1⟩],s24.2) g1 _ _ (by omega) ⟨⟨by simp only;omega,by simp[h5]⟩,fun _=>h11,w24.1,⟨by simp only;omega,by have:=w21.2;simp only;omega⟩,by rw[h7];simp⟩ (by simp(disch:=omega) [VZ];rfl) (by simp(disch:=omega) [bk,VZ])
  ·obtain rfl:g0=0:=by omega
   simp only[jl,List.append_nil]at h7
   simp(disch:=omega) [h8,H3,h1,h2,h7,Tc.o,bk,br,bN,bT,VZ]
 ·rw[Jz (k:=g0) (r:=⟨qa,qe⟩) h9]at h7
  simp only[List.append_nil]at h7
  by_cases h8:i < s2.1
  ·simp(disch:=omega) [h8,h9,H3,h1,h2,h7,Tc.o,bk,br,bN,bT,VZ]
  ·simp(disch:=omega) [h8,h9,H3,h1,h2,h7,Tc.o,bk,br,bN,bT,VZ]
end Go.Eng.F
namespace Go.Eng.F
theorem Kz {r:Rd} {bad:Bool} {c:Nat} (h:(b5 r bad c).er=0):r.er=0:=by
 apply Decidable.byContradiction
 intro g
 rw[iL g]at h
 exact g h
theorem Me {b:Bytes} {r:Rd} (h:(cZ b r).2.er=0):r.er=0:=by
 apply Decidable.byContradiction
 intro g
 simp[cZ,g]at h
theorem Lw {b:Bytes} {r:Rd} {n:Nat} (h:(dV b r n).2.er=0):r.er=0:=by
 apply Decidable.byContradiction
 intro g
 simp[dV,g]at h
theorem JR {b:Bytes} {l:ah} {r:Rd} (h:(jB b l r).2.er=0):(jB b l r).1.2.2.1 < (jB b l r).1.2.1∧((jB b l r).1.2.1:Int)≤l.txs:=by
 simp only[jB,bP]at h⊢
 have h1:=Lw h
 have h2:=lv h1 (by omega)
 have h4:=Me (Kz h1)
 have h5:=lv h4 (by omega)
 simp only[decide_eq_false_iff_not]at h2 h5
 omega
theorem Kh {b:Bytes} {k:Nat} {r:Rd} (h:r.er≠0):(gd (fun r=>cf b r 32) k r).2=r:=by
 induction k with
 |zero=>rfl
 |succ k ih=>
  have e:(cf b r 32).2=r:=by simp[cf,h]
  simp only[gd,e,ih]
theorem DW {b:Bytes}:∀(k:Nat) (r:Rd),(gd (fun r=>cf b r 32) k r).2=(dt (fun r=>cf b r 32) k r).2∧((dt (fun r=>cf b r 32) k r).2.er=0→(gd (fun r=>cf b r 32) k r).1=(dt (fun r=>cf b r 32) k r).1)
 |0,r=>⟨rfl,fun _=>rfl⟩
 |k+1,r=>by
  by_cases h:r.er=0
  ·rw[lR h]
   have:=DW (b:=b) k (cf b r 32).2
   exact⟨this.1,fun g=>by simp only[gd];rw[this.2 g]⟩
  ·rw[xf h,Kh h]
   exact⟨rfl,fun g=>absurd g h⟩
def jr (b:Bytes) (l:ah) (r:Rd):aN×Rd:=
 let i:=jB b l r
 if i.2.er=0 then
  let p:=gd (fun r=>cf b r 32) (aZ i.1.2.2.1 i.1.2.1) i.2
  (⟨i.1.1,i.1.2.1,i.1.2.2.1,i.1.2.2.2,p.1⟩,p.2)
 else(⟨i.1.1,i.1.2.1,i.1.2.2.1,i.1.2.2.2,[]⟩,i.2)
abbrev gG:Nat:=127
def mC:AF:=⟨2,6,[.cell 4 5 true],(.seq (.ops [.i (.lbox 2 (.s 0)), .i (.lal 4 [.int .i64 0, .int .i64 0, .int .i64 0, .nils, .nils])]) (.seq (.ops [qm 6 1,qk 8 165 6,qm 8 1,qk 10 165 8, .i (.bld 10 [.int .i64 0, .int .i64 0, .int .i64 0, .nils, .nils] [(0,1,(.s 7)),(1,1,(.s 9))]), .i (.lal 5 [.int .i64 0, .int .i64 0, .int .i64 0, .nils, .nils]),qs 5 5 10 5]) (.seq (.ops [qm 11 1,qf 12 5 1,ql 13 5 12 1 false, .i (.bin 14 .gtr (.s 13) (qi 0)), .i (.call 16 172 false [(.s 11),(.s 14),(qi 5)])]) (.seq (.ops [qm 16 1,qf 17 5 1,ql 18 5 17 1 false,qf 19 2 2,ql 20 2 19 1 false,qd 21 .leq 18 20, .i (.call 23 172 false [(.s 16),(.s 21),(qi 3)])]) (.seq (.ops [qm 23 1,qf 24 5 1,ql 25 5 24 1 false, .i (.call 27 167 false [(.s 23),(.s 25),(qi 5)]),qf 27 5 2,qs 5 27 26 1]) (.seq (.ops [qm 28 1,qf 29 2 1,ql 30 2 29 1 false, .i (.call 32 177 false [(.s 28),(.s 30)]),qf 32 5 3,qs 5 32 31 1]) (.seq (.seq (.ops [qm 33 1, .i (.nch 34 (.s 33)),qf 35 34 2, .i (.ldh 36 (.s 35) 1 false), .i (.bin 37 .eql (.s 36) (qi 0))]) (.cond (.s 37) (.seq (.ops [qf 38 5 2,ql 39 5 38 1 false,qf 40 5 1,ql 41 5 40 1 false, .i (.call 43 180 false [(.s 39),(.s 41)]), .i (.mov 43 (qi 0))]) (.block 0 (.loop [52,51,50,49,48,47,46,45,44] (.seq (.ops [qd 44 .lss 43 42]) (.seq (.cond (.s 44) .skip (.exit 0)) (.seq (.block 1 (.ops [qf 45 5 4,ql 46 5 45 1 false,qm 47 1,qk 49 166 47, .i (.lsl 49 1 1 [.nils] [(0,1,(.s 48))]), .i (.app 50 22 1 24 (.s 46) (.s 49)),qf 51 5 4,qs 5 51 50 1])) (.ops [.i (.bin 52 .add (.s 43) (qi 1)),qm 43 52]))))))) .skip)) (.seq (.ops [ql 53 5 5 5 true,qs 4 4 53 5]) .ret))))))))⟩
theorem zB:cd gG=some mC:=by kernel_rfl
theorem xj (b:Bytes) (l:ah) (r:Rd) (hL:l.rd) (hr:r.wf b) (hb:b.length≤1073741824):VC cd gG (iO [(true,l.c)] 215 (bk b r) []) (fun rs p=>rs= [(true,(jr b l r).1.o)]∧p= [.pt 215 (bk b (jr b l r).2)]):=by
 refine VC.xQ ?_
 obtain⟨hl,hx,ht,hh⟩:=hL
 have hi:=JR (b:=b) (l:=l) (r:=r)
 refine aw zB rfl ?_
 simp(disch:=omega) [mC,bk,ah.c,VZ]
 refine dc (bz b r hr hb) ?_
 have w1:=dk hr
 generalize h1:cZ b r=s1 at w1⊢
 simp(disch:=omega) [bk,VZ]
 refine dc (bz b s1.2 w1.1 hb) ?_
 have w2:=dk w1.1
 generalize h2:cZ b s1.2=s2 at w2⊢
 simp(disch:=omega) [bk,VZ]
 refine dc (aP b s2.2 (decide (0 < s2.1)) 5) ?_
 have e3:(!decide (0 < s2.1))=decide (s2.1=0):=by rw[←decide_not,decide_eq_decide];omega
 rw[e3]
 have w3:=eA (bad:=decide (s2.1=0)) (c:=5) w2.1 (by omega)
 generalize h3:b5 s2.2 (decide (s2.1=0)) 5=s3 at w3⊢
 simp(disch:=omega) [bk,VZ]
 refine dc (aP b s3 (decide ((s2.1:Int)≤l.txs)) 3) ?_
 have e4:(!decide ((s2.1:Int)≤l.txs))=decide (l.txs < (s2.1:Int)):=by rw[←decide_not,decide_eq_decide];omega
 rw[e4]
 have w4:=eA (bad:=decide (l.txs < (s2.1:Int))) (c:=3) w3 (by omega)
 generalize h4:b5 s3 (decide (l.txs < (s2.1:Int))) 3=s4 at w4⊢
 simp(disch:=omega) [bk,VZ]
 refine dc (cG b s4 (s2.1:Int) 5 w4 hb) ?_
 have w5:=eQ (n:=(s2.1:Int)) (c:=5) w4 (by omega)
 generalize h5:bP b s4 (s2.1:Int) 5=s5 at w5⊢
 simp(disch:=omega) [bk,VZ]
 refine dc (m8 b s5.2 l.tx (by omega) w5.1 hb) ?_
 have w6:=wG w5.1 l.tx.toNat
 generalize h6:dV b s5.2 l.tx.toNat=s6 at w6⊢
 simp(disch:=omega) [bk,VZ]
 have hi0:jB b l r=((s1.1,s2.1,s5.1,s6.1),s6.2):=by simp only[jB,h1,h2,h3,h4,h5,h6]
 rw[hi0]at hi
 simp only at hi
 by_cases g:s6.2.er=0
 case neg=>simp(disch:=omega) [g,jr,hi0,aN.o,bk,br,bN,bT,ak,bm,VZ]
 have hi2:=hi g
 have hpl:=cv s2.1 s5.1
 simp(disch:=omega) [g,VZ]
 refine ao (mi s2.1 s5.1 (by omega) (by omega)) ?_
 simp(disch:=omega) [VZ]
 refine dq (σ:=Nat×Nat×List Bytes×Rd) (f0:=_) (by simp(disch:=omega) [VZ];rfl) (c5.xo (s:=5) (k:=5) (i:=4) rfl rfl) (f1:=_) (es0:=_) (by simp(disch:=omega) [VZ];rfl) (by simp(disch:=omega) [VZ];rfl) (fun p=> [(43, .val false [.int .i64 (p.1:Int)]),(5, .box [.int .i64 s1.1, .int .i64 s2.1, .int .i64 s5.1, .ow 270336 32, .ow 5 p.2.1])]) (fun p=> [(4101, .pt 5 215 [.sl (bytes b), .int .i64 (p.2.2.2.at_:Int), .int .i64 (p.2.2.2.er:Int)]),(5, .sl p.2.1 true true (some (22,1)) (bm p.2.2.1))])
  (fun p g=>(g+p.1=(aZ s5.1 s2.1)∧p.2.2.1.length=p.1)∧p.2.2.2.wf b∧gd (fun r=>cf b r 32) (aZ s5.1 s2.1) s6.2=(p.2.2.1++(gd (fun r=>cf b r 32) g p.2.2.2).1,(gd (fun r=>cf b r 32) g p.2.2.2).2)) (0,_,[],s6.2) (aZ s5.1 s2.1) (by simp(disch:=omega) [VZ];rfl) (by simp(disch:=omega) [bm,bk,g,VZ]) ⟨⟨by simp,rfl⟩,w6.1,by simp⟩ ?_
 rintro⟨i,v,x,q⟩ nx g0 ⟨⟨hg,h5⟩,h6,h7⟩ P hP
 simp only at hg h5 h6 h7
 have hl2:(bm x).length=i:=by rw[aq];exact h5
 simp(disch:=omega) [VZ]
 refine ab (fun h8=> ?_) (fun h8=> ?_)
 ·simp(disch:=omega) [bk,VZ]
  refine dc (cm b q h6 hb) ?_
  have w25:=eC h6 32
  obtain⟨g1,rfl⟩:∃g1,g0=g1+1:=⟨g0 - 1,by omega⟩
  simp only[gd]at h7
  generalize h9:cf b q 32=s25 at w25 h7⊢
  simp(disch:=omega) [bk,hl2,Fu,VZ]
  refine hP (i+1,_,x++ [s25.1],s25.2) g1 _ _ (by omega) ⟨⟨by simp only;omega,by simp[h5]⟩,w25.1,by rw[h7];simp⟩ (by simp(disch:=omega) [VZ];rfl) (by simp(disch:=omega) [bk,VZ])
 ·obtain rfl:g0=0:=by omega
  simp only[gd,List.append_nil]at h7
  simp(disch:=omega) [jr,hi0,g,h7,aN.o,bk,br,bN,bT,VZ]
end Go.Eng.F
namespace Go.Eng.F
def di (x:List E) (z:List E) (r:Rd):List (Bool×List E):=if r.er=0 then [(true,x),(false,[.p (.int .i64 (r.at_:Int))]),(false,[.p (.int .i64 0)])]else [(true,z),(false,[.p (.int .i64 0)]),(false,[.p (.int .i64 (r.er:Int))])]
def Qf:List E:= [.p (.int .i64 0), .p (.int .i64 0), .p .nils, .p .nils, .p .nils]
def Jg:List E:= [.p (.int .i64 0), .p (.int .i64 0), .p .nils, .p (.int .i64 0), .p .nils]
def IX:List E:= [.p (.int .i64 0), .p (.int .i64 0), .p (.int .i64 0), .p .nils, .p .nils, .p (.int .i64 0), .p (.int .i64 0), .p .nils, .p .nils, .p .nils]
def Et:List E:= [.p (.int .i64 0), .p (.int .i64 0), .p (.int .i64 0), .p .nils, .p .nils, .p (.int .i64 0), .p (.int .i64 0), .p .nils, .p .nils, .p .nils, .p .nils]
def Qg:List E:= [.p (.int .i64 0), .p .nils]
def EW:List E:= [.p .nils, .p (.int .i64 0), .p (.int .i64 0), .p .nils, .p .nils, .p .nils]
def IE:List E:= [.p (.int .i64 0), .p (.int .i64 0), .p (.int .i64 0), .p .nils, .p .nils]
abbrev fF:Nat:=101
def fK:AF:=⟨4,6,[.cell 8 5 true, .tmp 9, .tmp 10],(.seq (.ops [.i (.lbox 4 (.s 0)), .i (.lal 8 [.int .i64 0, .int .i64 0, .nils, .int .i64 0, .nils]), .i (.mov 9 (qi 0)), .i (.mov 10 (qi 0))]) (.seq (.ops [.i (.lal 11 [.int .i64 0, .int .i64 0, .nils, .int .i64 0, .nils])]) (.seq (.seq (.ops [ql 14 4 4 5 true,qk 16 95 14, .i (.not 16 (.s 15))]) (.cond (.s 16) (.seq (.ops [ql 17 11 11 5 true,qs 8 8 17 5, .i (.mov 9 (qi 0)), .i (.mov 10 (qi 5))]) .ret) .skip)) (.seq (.ops [qm 18 1,qm 19 2, .i (.bld 20 [.nils, .int .i64 0, .int .i64 0] [(0,1,(.s 18)),(1,1,(.s 19))]), .i (.hbox 21 215 (.s 20)),qm 12 21]) (.seq (.ops [qm 22 3,ql 23 4 4 5 true,qm 24 12, .i (.clv 26 false (.s 22) [(.s 23),(.s 24)]), .i (.lal 13 [.int .i64 0, .int .i64 0, .nils, .int .i64 0, .nils]),qs 13 13 25 5]) (.seq (.seq (.ops [qm 26 12, .i (.nch 27 (.s 26)),qf 28 27 2, .i (.ldh 29 (.s 28) 1 false), .i (.bin 30 .neq (.s 29) (qi 0))]) (.cond (.s 30) (.seq (.ops [ql 31 11 11 5 true,qm 32 12, .i (.nch 33 (.s 32)),qf 34 33 2, .i (.ldh 35 (.s 34) 1 false),qs 8 8 31 5, .i (.mov 9 (qi 0)),qm 10 35]) .ret) .skip)) (.seq (.ops [ql 36 13 13 5 true,qm 37 12, .i (.nch 38 (.s 37)),qf 39 38 1, .i (.ldh 40 (.s 39) 1 false),qs 8 8 36 5,qm 9 40, .i (.mov 10 (qi 0))]) .ret)))))))⟩
theorem od:cd fF=some fK:=by kernel_rfl
theorem ob (b:Bytes) (l:ah) (k:Nat) (hok:l.ok=true) (hk:k≤b.length) (hb:b.length≤1073741824):VC cd fF (aB [(true,l.c),(false,[.sl (bytes b)]),(false,[.int .i64 (k:Int)]),(false,[.fn gJ])]) (fun rs _=>rs=di (kV b l ⟨k,0⟩).1.o Jg (kV b l ⟨k,0⟩).2):=by
 have hr:Rd.wf b ⟨k,0⟩:=⟨hk,by simp⟩
 refine aa od rfl ?_
 simp(disch:=omega) [fK,ah.c,VZ]
 refine ao (aT l) ?_ (ha:=by first|rfl|(simp[ah.c,VY] <;>repeat' constructor))
 simp(disch:=omega) [hok,VZ]
 refine dc (xp b l ⟨k,0⟩ hr hb) ?_ (n1:=by simp(disch:=omega) [aW.o,VZ]) (n3:=by simp(disch:=omega) [aW.o,VZ])
 generalize h1:kV b l ⟨k,0⟩=s1
 simp(disch:=omega) [bk,aW.o,VZ]
 by_cases g:s1.2.er=0
 ·simp(disch:=omega) [g,di,aW.o,VZ]
 ·simp(disch:=omega) [g,di,Jg,VZ]
abbrev iz:Nat:=25
def ot:AF:=⟨3,5,[.cell 6 5 true, .tmp 7, .tmp 8],(.seq (.ops [.i (.lbox 3 (.s 0)), .i (.lal 6 [.int .i64 0, .int .i64 0, .nils, .int .i64 0, .nils]), .i (.mov 7 (qi 0)), .i (.mov 8 (qi 0))]) (.seq (.ops [ql 9 3 3 5 true,qm 10 1,qm 11 2, .i (.call 13 101 false [(.s 9),(.s 10),(.s 11),(.c (.val false [.fn 102]))]), .i (.ext 13 (.s 12) 0), .i (.ext 14 (.s 12) 1), .i (.ext 15 (.s 12) 2),qs 6 6 13 5,qm 7 14,qm 8 15]) .ret))⟩
theorem Aw:cd iz=some ot:=by kernel_rfl
theorem yS (b:Bytes) (l:ah) (k:Nat) (hok:l.ok=true) (hk:k≤b.length) (hb:b.length≤1073741824):VC cd iz (aB [(true,l.c),(false,[.sl (bytes b)]),(false,[.int .i64 (k:Int)])]) (fun rs _=>rs=di (kV b l ⟨k,0⟩).1.o Jg (kV b l ⟨k,0⟩).2):=by
 refine aa Aw rfl ?_
 simp(disch:=omega) [ot,ah.c,VZ]
 have h0:=ob b l k hok hk hb
 generalize h1:kV b l ⟨k,0⟩=s1 at h0⊢
 by_cases g:s1.2.er=0
 ·simp only[di,if_pos g,aW.o]at h0⊢
  refine ao (h0) ?_ (ha:=by first|rfl|(simp[ah.c,VY] <;>repeat' constructor))
  simp(disch:=omega) [VZ]
 ·simp only[di,if_neg g,Jg]at h0⊢
  refine ao (h0) ?_ (ha:=by first|rfl|(simp[ah.c,VY] <;>repeat' constructor))
  simp(disch:=omega) [VZ]
abbrev gP:Nat:=105
def gL:AF:=⟨4,6,[.cell 8 5 true, .tmp 9, .tmp 10],(.seq (.ops [.i (.lbox 4 (.s 0)), .i (.lal 8 [.int .i64 0, .int .i64 0, .nils, .nils, .nils]), .i (.mov 9 (qi 0)), .i (.mov 10 (qi 0))]) (.seq (.ops [.i (.lal 11 [.int .i64 0, .int .i64 0, .nils, .nils, .nils])]) (.seq (.seq (.ops [ql 14 4 4 5 true,qk 16 95 14, .i (.not 16 (.s 15))]) (.cond (.s 16) (.seq (.ops [ql 17 11 11 5 true,qs 8 8 17 5, .i (.mov 9 (qi 0)), .i (.mov 10 (qi 5))]) .ret) .skip)) (.seq (.ops [qm 18 1,qm 19 2, .i (.bld 20 [.nils, .int .i64 0, .int .i64 0] [(0,1,(.s 18)),(1,1,(.s 19))]), .i (.hbox 21 215 (.s 20)),qm 12 21]) (.seq (.ops [qm 22 3,ql 23 4 4 5 true,qm 24 12, .i (.clv 26 false (.s 22) [(.s 23),(.s 24)]), .i (.lal 13 [.int .i64 0, .int .i64 0, .nils, .nils, .nils]),qs 13 13 25 5]) (.seq (.seq (.ops [qm 26 12, .i (.nch 27 (.s 26)),qf 28 27 2, .i (.ldh 29 (.s 28) 1 false), .i (.bin 30 .neq (.s 29) (qi 0))]) (.cond (.s 30) (.seq (.ops [ql 31 11 11 5 true,qm 32 12, .i (.nch 33 (.s 32)),qf 34 33 2, .i (.ldh 35 (.s 34) 1 false),qs 8 8 31 5, .i (.mov 9 (qi 0)),qm 10 35]) .ret) .skip)) (.seq (.ops [ql 36 13 13 5 true,qm 37 12, .i (.nch 38 (.s 37)),qf 39 38 1, .i (.ldh 40 (.s 39) 1 false),qs 8 8 36 5,qm 9 40, .i (.mov 10 (qi 0))]) .ret)))))))⟩
theorem sK:cd gP=some gL:=by kernel_rfl
theorem sM (b:Bytes) (l:ah) (k:Nat) (hok:l.ok=true) (hk:k≤b.length) (hb:b.length≤1073741824):VC cd gP (aB [(true,l.c),(false,[.sl (bytes b)]),(false,[.int .i64 (k:Int)]),(false,[.fn jP])]) (fun rs _=>rs=di (yd b l ⟨k,0⟩).1.o Qf (yd b l ⟨k,0⟩).2):=by
 have hr:Rd.wf b ⟨k,0⟩:=⟨hk,by simp⟩
 refine aa sK rfl ?_
 simp(disch:=omega) [gL,ah.c,VZ]
 refine ao (aT l) ?_ (ha:=by first|rfl|(simp[ah.c,VY] <;>repeat' constructor))
 simp(disch:=omega) [hok,VZ]
 refine dc (dP b l ⟨k,0⟩ (iA hok).1 hr hb) ?_ (n1:=by simp(disch:=omega) [Qc.o,VZ]) (n3:=by simp(disch:=omega) [Qc.o,VZ])
 generalize h1:yd b l ⟨k,0⟩=s1
 simp(disch:=omega) [bk,Qc.o,VZ]
 by_cases g:s1.2.er=0
 ·simp(disch:=omega) [g,di,Qc.o,VZ]
 ·simp(disch:=omega) [g,di,Qf,VZ]
abbrev lX:Nat:=28
def wm:AF:=⟨3,5,[.cell 6 5 true, .tmp 7, .tmp 8],(.seq (.ops [.i (.lbox 3 (.s 0)), .i (.lal 6 [.int .i64 0, .int .i64 0, .nils, .nils, .nils]), .i (.mov 7 (qi 0)), .i (.mov 8 (qi 0))]) (.seq (.ops [ql 9 3 3 5 true,qm 10 1,qm 11 2, .i (.call 13 105 false [(.s 9),(.s 10),(.s 11),(.c (.val false [.fn 106]))]), .i (.ext 13 (.s 12) 0), .i (.ext 14 (.s 12) 1), .i (.ext 15 (.s 12) 2),qs 6 6 13 5,qm 7 14,qm 8 15]) .ret))⟩
theorem EG:cd lX=some wm:=by kernel_rfl
theorem Df (b:Bytes) (l:ah) (k:Nat) (hok:l.ok=true) (hk:k≤b.length) (hb:b.length≤1073741824):VC cd lX (aB [(true,l.c),(false,[.sl (bytes b)]),(false,[.int .i64 (k:Int)])]) (fun rs _=>rs=di (yd b l ⟨k,0⟩).1.o Qf (yd b l ⟨k,0⟩).2):=by
 refine aa EG rfl ?_
 simp(disch:=omega) [wm,ah.c,VZ]
 have h0:=sM b l k hok hk hb
 generalize h1:yd b l ⟨k,0⟩=s1 at h0⊢
 by_cases g:s1.2.er=0
 ·simp only[di,if_pos g,Qc.o]at h0⊢
  refine ao (h0) ?_ (ha:=by first|rfl|(simp[ah.c,VY] <;>repeat' constructor))
  simp(disch:=omega) [VZ]
 ·simp only[di,if_neg g,Qf]at h0⊢
  refine ao (h0) ?_ (ha:=by first|rfl|(simp[ah.c,VY] <;>repeat' constructor))
  simp(disch:=omega) [VZ]
abbrev fN:Nat:=110
def fL:AF:=⟨4,6,[.cell 8 10 true, .tmp 9, .tmp 10],(.seq (.ops [.i (.lbox 4 (.s 0)), .i (.lal 8 qz), .i (.mov 9 (qi 0)), .i (.mov 10 (qi 0))]) (.seq (.ops [.i (.lal 11 qz)]) (.seq (.seq (.ops [ql 14 4 4 5 true,qk 16 95 14, .i (.not 16 (.s 15))]) (.cond (.s 16) (.seq (.ops [ql 17 11 11 10 true,qs 8 8 17 10, .i (.mov 9 (qi 0)), .i (.mov 10 (qi 5))]) .ret) .skip)) (.seq (.ops [qm 18 1,qm 19 2, .i (.bld 20 [.nils, .int .i64 0, .int .i64 0] [(0,1,(.s 18)),(1,1,(.s 19))]), .i (.hbox 21 215 (.s 20)),qm 12 21]) (.seq (.ops [qm 22 3,ql 23 4 4 5 true,qm 24 12, .i (.clv 26 false (.s 22) [(.s 23),(.s 24)]), .i (.lal 13 qz),qs 13 13 25 10]) (.seq (.seq (.ops [qm 26 12, .i (.nch 27 (.s 26)),qf 28 27 2, .i (.ldh 29 (.s 28) 1 false), .i (.bin 30 .neq (.s 29) (qi 0))]) (.cond (.s 30) (.seq (.ops [ql 31 11 11 10 true,qm 32 12, .i (.nch 33 (.s 32)),qf 34 33 2, .i (.ldh 35 (.s 34) 1 false),qs 8 8 31 10, .i (.mov 9 (qi 0)),qm 10 35]) .ret) .skip)) (.seq (.ops [ql 36 13 13 10 true,qm 37 12, .i (.nch 38 (.s 37)),qf 39 38 1, .i (.ldh 40 (.s 39) 1 false),qs 8 8 36 10,qm 9 40, .i (.mov 10 (qi 0))]) .ret)))))))⟩
theorem oe:cd fN=some fL:=by kernel_rfl
theorem oh (b:Bytes) (l:ah) (k:Nat) (hok:l.ok=true) (hk:k≤b.length) (hb:b.length≤1073741824):VC cd fN (aB [(true,l.c),(false,[.sl (bytes b)]),(false,[.int .i64 (k:Int)]),(false,[.fn gE])]) (fun rs _=>rs=di (dG b l ⟨k,0⟩).1.o IX (dG b l ⟨k,0⟩).2):=by
 have hr:Rd.wf b ⟨k,0⟩:=⟨hk,by simp⟩
 refine aa oe rfl ?_
 simp(disch:=omega) [fL,ah.c,VZ]
 refine ao (aT l) ?_ (ha:=by first|rfl|(simp[ah.c,VY] <;>repeat' constructor))
 simp(disch:=omega) [hok,VZ]
 refine dc (fS b l ⟨k,0⟩ (iA hok).1 hr hb) ?_ (n1:=by simp(disch:=omega) [Head.o,VZ]) (n3:=by simp(disch:=omega) [Head.o,VZ])
 generalize h1:dG b l ⟨k,0⟩=s1
 simp(disch:=omega) [bk,Head.o,VZ]
 by_cases g:s1.2.er=0
 ·simp(disch:=omega) [g,di,Head.o,VZ]
 ·simp(disch:=omega) [g,di,IX,VZ]
abbrev ie:Nat:=31
def p0:AF:=⟨3,5,[.cell 6 10 true, .tmp 7, .tmp 8],(.seq (.ops [.i (.lbox 3 (.s 0)), .i (.lal 6 qz), .i (.mov 7 (qi 0)), .i (.mov 8 (qi 0))]) (.seq (.ops [ql 9 3 3 5 true,qm 10 1,qm 11 2, .i (.call 13 110 false [(.s 9),(.s 10),(.s 11),(.c (.val false [.fn 111]))]), .i (.ext 13 (.s 12) 0), .i (.ext 14 (.s 12) 1), .i (.ext 15 (.s 12) 2),qs 6 6 13 10,qm 7 14,qm 8 15]) .ret))⟩
theorem AA:cd ie=some p0:=by kernel_rfl
theorem yP (b:Bytes) (l:ah) (k:Nat) (hok:l.ok=true) (hk:k≤b.length) (hb:b.length≤1073741824):VC cd ie (aB [(true,l.c),(false,[.sl (bytes b)]),(false,[.int .i64 (k:Int)])]) (fun rs _=>rs=di (dG b l ⟨k,0⟩).1.o IX (dG b l ⟨k,0⟩).2):=by
 refine aa AA rfl ?_
 simp(disch:=omega) [p0,ah.c,VZ]
 have h0:=oh b l k hok hk hb
 generalize h1:dG b l ⟨k,0⟩=s1 at h0⊢
 by_cases g:s1.2.er=0
 ·simp only[di,if_pos g,Head.o]at h0⊢
  refine ao (h0) ?_ (ha:=by first|rfl|(simp[ah.c,VY] <;>repeat' constructor))
  simp(disch:=omega) [VZ]
 ·simp only[di,if_neg g,IX]at h0⊢
  refine ao (h0) ?_ (ha:=by first|rfl|(simp[ah.c,VY] <;>repeat' constructor))
  simp(disch:=omega) [VZ]
abbrev fu:Nat:=115
def fC:AF:=⟨4,6,[.cell 8 11 true, .tmp 9, .tmp 10],(.seq (.ops [.i (.lbox 4 (.s 0)), .i (.lal 8 [.int .i64 0, .int .i64 0, .int .i64 0, .nils, .nils, .int .i64 0, .int .i64 0, .nils, .nils, .nils, .nils]), .i (.mov 9 (qi 0)), .i (.mov 10 (qi 0))]) (.seq (.ops [.i (.lal 11 [.int .i64 0, .int .i64 0, .int .i64 0, .nils, .nils, .int .i64 0, .int .i64 0, .nils, .nils, .nils, .nils])]) (.seq (.seq (.ops [ql 14 4 4 5 true,qk 16 95 14, .i (.not 16 (.s 15))]) (.cond (.s 16) (.seq (.ops [ql 17 11 11 11 true,qs 8 8 17 11, .i (.mov 9 (qi 0)), .i (.mov 10 (qi 5))]) .ret) .skip)) (.seq (.ops [qm 18 1,qm 19 2, .i (.bld 20 [.nils, .int .i64 0, .int .i64 0] [(0,1,(.s 18)),(1,1,(.s 19))]), .i (.hbox 21 215 (.s 20)),qm 12 21]) (.seq (.ops [qm 22 3,ql 23 4 4 5 true,qm 24 12, .i (.clv 26 false (.s 22) [(.s 23),(.s 24)]), .i (.lal 13 [.int .i64 0, .int .i64 0, .int .i64 0, .nils, .nils, .int .i64 0, .int .i64 0, .nils, .nils, .nils, .nils]),qs 13 13 25 11]) (.seq (.seq (.ops [qm 26 12, .i (.nch 27 (.s 26)),qf 28 27 2, .i (.ldh 29 (.s 28) 1 false), .i (.bin 30 .neq (.s 29) (qi 0))]) (.cond (.s 30) (.seq (.ops [ql 31 11 11 11 true,qm 32 12, .i (.nch 33 (.s 32)),qf 34 33 2, .i (.ldh 35 (.s 34) 1 false),qs 8 8 31 11, .i (.mov 9 (qi 0)),qm 10 35]) .ret) .skip)) (.seq (.ops [ql 36 13 13 11 true,qm 37 12, .i (.nch 38 (.s 37)),qf 39 38 1, .i (.ldh 40 (.s 39) 1 false),qs 8 8 36 11,qm 9 40, .i (.mov 10 (qi 0))]) .ret)))))))⟩
theorem lW:cd fu=some fC:=by kernel_rfl
theorem l5 (b:Bytes) (l:ah) (k:Nat) (hok:l.ok=true) (hk:k≤b.length) (hb:b.length≤1073741824):VC cd fu (aB [(true,l.c),(false,[.sl (bytes b)]),(false,[.int .i64 (k:Int)]),(false,[.fn fR])]) (fun rs _=>rs=di (eN b l ⟨k,0⟩).1.o Et (eN b l ⟨k,0⟩).2):=by
 have hr:Rd.wf b ⟨k,0⟩:=⟨hk,by simp⟩
 refine aa lW rfl ?_
 simp(disch:=omega) [fC,ah.c,VZ]
 refine ao (aT l) ?_ (ha:=by first|rfl|(simp[ah.c,VY] <;>repeat' constructor))
 simp(disch:=omega) [hok,VZ]
 refine dc (wJ b l ⟨k,0⟩ (iA hok) hr hb) ?_ (n1:=by simp(disch:=omega) [Block.o,VZ]) (n3:=by simp(disch:=omega) [Block.o,VZ])
 generalize h1:eN b l ⟨k,0⟩=s1
 simp(disch:=omega) [bk,Block.o,VZ]
 by_cases g:s1.2.er=0
 ·simp(disch:=omega) [g,di,Block.o,VZ]
 ·simp(disch:=omega) [g,di,Et,VZ]
abbrev gC:Nat:=35
def mS:AF:=⟨3,5,[.cell 6 11 true, .tmp 7, .tmp 8],(.seq (.ops [.i (.lbox 3 (.s 0)), .i (.lal 6 [.int .i64 0, .int .i64 0, .int .i64 0, .nils, .nils, .int .i64 0, .int .i64 0, .nils, .nils, .nils, .nils]), .i (.mov 7 (qi 0)), .i (.mov 8 (qi 0))]) (.seq (.ops [ql 9 3 3 5 true,qm 10 1,qm 11 2, .i (.call 13 115 false [(.s 9),(.s 10),(.s 11),(.c (.val false [.fn 116]))]), .i (.ext 13 (.s 12) 0), .i (.ext 14 (.s 12) 1), .i (.ext 15 (.s 12) 2),qs 6 6 13 11,qm 7 14,qm 8 15]) .ret))⟩
theorem zz:cd gC=some mS:=by kernel_rfl
theorem xx (b:Bytes) (l:ah) (k:Nat) (hok:l.ok=true) (hk:k≤b.length) (hb:b.length≤1073741824):VC cd gC (aB [(true,l.c),(false,[.sl (bytes b)]),(false,[.int .i64 (k:Int)])]) (fun rs _=>rs=di (eN b l ⟨k,0⟩).1.o Et (eN b l ⟨k,0⟩).2):=by
 refine aa zz rfl ?_
 simp(disch:=omega) [mS,ah.c,VZ]
 have h0:=l5 b l k hok hk hb
 generalize h1:eN b l ⟨k,0⟩=s1 at h0⊢
 by_cases g:s1.2.er=0
 ·simp only[di,if_pos g,Block.o]at h0⊢
  refine ao (h0) ?_ (ha:=by first|rfl|(simp[ah.c,VY] <;>repeat' constructor))
  simp(disch:=omega) [VZ]
 ·simp only[di,if_neg g,Et]at h0⊢
  refine ao (h0) ?_ (ha:=by first|rfl|(simp[ah.c,VY] <;>repeat' constructor))
  simp(disch:=omega) [VZ]
abbrev gT:Nat:=118
def gS:AF:=⟨4,6,[.cell 8 2 true, .tmp 9, .tmp 10],(.seq (.ops [.i (.lbox 4 (.s 0)), .i (.lal 8 [.int .i64 0, .nils]), .i (.mov 9 (qi 0)), .i (.mov 10 (qi 0))]) (.seq (.ops [.i (.lal 11 [.int .i64 0, .nils])]) (.seq (.seq (.ops [ql 14 4 4 5 true,qk 16 95 14, .i (.not 16 (.s 15))]) (.cond (.s 16) (.seq (.ops [ql 17 11 11 2 true,qs 8 8 17 2, .i (.mov 9 (qi 0)), .i (.mov 10 (qi 5))]) .ret) .skip)) (.seq (.ops [qm 18 1,qm 19 2, .i (.bld 20 [.nils, .int .i64 0, .int .i64 0] [(0,1,(.s 18)),(1,1,(.s 19))]), .i (.hbox 21 215 (.s 20)),qm 12 21]) (.seq (.ops [qm 22 3,ql 23 4 4 5 true,qm 24 12, .i (.clv 26 false (.s 22) [(.s 23),(.s 24)]), .i (.lal 13 [.int .i64 0, .nils]),qs 13 13 25 2]) (.seq (.seq (.ops [qm 26 12, .i (.nch 27 (.s 26)),qf 28 27 2, .i (.ldh 29 (.s 28) 1 false), .i (.bin 30 .neq (.s 29) (qi 0))]) (.cond (.s 30) (.seq (.ops [ql 31 11 11 2 true,qm 32 12, .i (.nch 33 (.s 32)),qf 34 33 2, .i (.ldh 35 (.s 34) 1 false),qs 8 8 31 2, .i (.mov 9 (qi 0)),qm 10 35]) .ret) .skip)) (.seq (.ops [ql 36 13 13 2 true,qm 37 12, .i (.nch 38 (.s 37)),qf 39 38 1, .i (.ldh 40 (.s 39) 1 false),qs 8 8 36 2,qm 9 40, .i (.mov 10 (qi 0))]) .ret)))))))⟩
theorem sE:cd gT=some gS:=by kernel_rfl
theorem sI (b:Bytes) (l:ah) (k:Nat) (hok:l.ok=true) (hk:k≤b.length) (hb:b.length≤1073741824):VC cd gT (aB [(true,l.c),(false,[.sl (bytes b)]),(false,[.int .i64 (k:Int)]),(false,[.fn jR])]) (fun rs _=>rs=di (H3 b l ⟨k,0⟩).1.o Qg (H3 b l ⟨k,0⟩).2):=by
 have hr:Rd.wf b ⟨k,0⟩:=⟨hk,by simp⟩
 refine aa sE rfl ?_
 simp(disch:=omega) [gS,ah.c,VZ]
 refine ao (aT l) ?_ (ha:=by first|rfl|(simp[ah.c,VY] <;>repeat' constructor))
 simp(disch:=omega) [hok,VZ]
 refine dc (BT b l ⟨k,0⟩ (iA hok) hr hb) ?_ (n1:=by simp(disch:=omega) [Tc.o,VZ]) (n3:=by simp(disch:=omega) [Tc.o,VZ])
 generalize h1:H3 b l ⟨k,0⟩=s1
 simp(disch:=omega) [bk,Tc.o,VZ]
 by_cases g:s1.2.er=0
 ·simp(disch:=omega) [g,di,Tc.o,VZ]
 ·simp(disch:=omega) [g,di,Qg,VZ]
abbrev lC:Nat:=38
def vV:AF:=⟨3,5,[.cell 6 2 true, .tmp 7, .tmp 8],(.seq (.ops [.i (.lbox 3 (.s 0)), .i (.lal 6 [.int .i64 0, .nils]), .i (.mov 7 (qi 0)), .i (.mov 8 (qi 0))]) (.seq (.ops [ql 9 3 3 5 true,qm 10 1,qm 11 2, .i (.call 13 118 false [(.s 9),(.s 10),(.s 11),(.c (.val false [.fn 119]))]), .i (.ext 13 (.s 12) 0), .i (.ext 14 (.s 12) 1), .i (.ext 15 (.s 12) 2),qs 6 6 13 2,qm 7 14,qm 8 15]) .ret))⟩
theorem Fg:cd lC=some vV:=by kernel_rfl
theorem CQ (b:Bytes) (l:ah) (k:Nat) (hok:l.ok=true) (hk:k≤b.length) (hb:b.length≤1073741824):VC cd lC (aB [(true,l.c),(false,[.sl (bytes b)]),(false,[.int .i64 (k:Int)])]) (fun rs _=>rs=di (H3 b l ⟨k,0⟩).1.o Qg (H3 b l ⟨k,0⟩).2):=by
 refine aa Fg rfl ?_
 simp(disch:=omega) [vV,ah.c,VZ]
 have h0:=sI b l k hok hk hb
 generalize h1:H3 b l ⟨k,0⟩=s1 at h0⊢
 by_cases g:s1.2.er=0
 ·simp only[di,if_pos g,Tc.o]at h0⊢
  refine ao (h0) ?_ (ha:=by first|rfl|(simp[ah.c,VY] <;>repeat' constructor))
  simp(disch:=omega) [VZ]
 ·simp only[di,if_neg g,Qg]at h0⊢
  refine ao (h0) ?_ (ha:=by first|rfl|(simp[ah.c,VY] <;>repeat' constructor))
  simp(disch:=omega) [VZ]
abbrev fh:Nat:=122
def fq:AF:=⟨4,6,[.cell 8 6 true, .tmp 9, .tmp 10],(.seq (.ops [.i (.lbox 4 (.s 0)), .i (.lal 8 [.nils, .int .i64 0, .int .i64 0, .nils, .nils, .nils]), .i (.mov 9 (qi 0)), .i (.mov 10 (qi 0))]) (.seq (.ops [.i (.lal 11 [.nils, .int .i64 0, .int .i64 0, .nils, .nils, .nils])]) (.seq (.seq (.ops [ql 14 4 4 5 true,qk 16 95 14, .i (.not 16 (.s 15))]) (.cond (.s 16) (.seq (.ops [ql 17 11 11 6 true,qs 8 8 17 6, .i (.mov 9 (qi 0)), .i (.mov 10 (qi 5))]) .ret) .skip)) (.seq (.ops [qm 18 1,qm 19 2, .i (.bld 20 [.nils, .int .i64 0, .int .i64 0] [(0,1,(.s 18)),(1,1,(.s 19))]), .i (.hbox 21 215 (.s 20)),qm 12 21]) (.seq (.ops [qm 22 3,ql 23 4 4 5 true,qm 24 12, .i (.clv 26 false (.s 22) [(.s 23),(.s 24)]), .i (.lal 13 [.nils, .int .i64 0, .int .i64 0, .nils, .nils, .nils]),qs 13 13 25 6]) (.seq (.seq (.ops [qm 26 12, .i (.nch 27 (.s 26)),qf 28 27 2, .i (.ldh 29 (.s 28) 1 false), .i (.bin 30 .neq (.s 29) (qi 0))]) (.cond (.s 30) (.seq (.ops [ql 31 11 11 6 true,qm 32 12, .i (.nch 33 (.s 32)),qf 34 33 2, .i (.ldh 35 (.s 34) 1 false),qs 8 8 31 6, .i (.mov 9 (qi 0)),qm 10 35]) .ret) .skip)) (.seq (.ops [ql 36 13 13 6 true,qm 37 12, .i (.nch 38 (.s 37)),qf 39 38 1, .i (.ldh 40 (.s 39) 1 false),qs 8 8 36 6,qm 9 40, .i (.mov 10 (qi 0))]) .ret)))))))⟩
theorem lQ:cd fh=some fq:=by kernel_rfl
theorem l7 (b:Bytes) (l:ah) (k:Nat) (hok:l.ok=true) (hk:k≤b.length) (hb:b.length≤1073741824):VC cd fh (aB [(true,l.c),(false,[.sl (bytes b)]),(false,[.int .i64 (k:Int)]),(false,[.fn fQ])]) (fun rs _=>rs=di (ej b l ⟨k,0⟩).1.o EW (ej b l ⟨k,0⟩).2):=by
 have hr:Rd.wf b ⟨k,0⟩:=⟨hk,by simp⟩
 refine aa lQ rfl ?_
 simp(disch:=omega) [fq,ah.c,VZ]
 refine ao (aT l) ?_ (ha:=by first|rfl|(simp[ah.c,VY] <;>repeat' constructor))
 simp(disch:=omega) [hok,VZ]
 refine dc (wP b l ⟨k,0⟩ (iA hok) hr hb) ?_ (n1:=by simp(disch:=omega) [Proof.o,VZ]) (n3:=by simp(disch:=omega) [Proof.o,VZ])
 generalize h1:ej b l ⟨k,0⟩=s1
 simp(disch:=omega) [bk,Proof.o,VZ]
 by_cases g:s1.2.er=0
 ·simp(disch:=omega) [g,di,Proof.o,VZ]
 ·simp(disch:=omega) [g,di,EW,VZ]
abbrev gA:Nat:=41
def mR:AF:=⟨3,5,[.cell 6 6 true, .tmp 7, .tmp 8],(.seq (.ops [.i (.lbox 3 (.s 0)), .i (.lal 6 [.nils, .int .i64 0, .int .i64 0, .nils, .nils, .nils]), .i (.mov 7 (qi 0)), .i (.mov 8 (qi 0))]) (.seq (.ops [ql 9 3 3 5 true,qm 10 1,qm 11 2, .i (.call 13 122 false [(.s 9),(.s 10),(.s 11),(.c (.val false [.fn 123]))]), .i (.ext 13 (.s 12) 0), .i (.ext 14 (.s 12) 1), .i (.ext 15 (.s 12) 2),qs 6 6 13 6,qm 7 14,qm 8 15]) .ret))⟩
theorem yV:cd gA=some mR:=by kernel_rfl
theorem wU (b:Bytes) (l:ah) (k:Nat) (hok:l.ok=true) (hk:k≤b.length) (hb:b.length≤1073741824):VC cd gA (aB [(true,l.c),(false,[.sl (bytes b)]),(false,[.int .i64 (k:Int)])]) (fun rs _=>rs=di (ej b l ⟨k,0⟩).1.o EW (ej b l ⟨k,0⟩).2):=by
 refine aa yV rfl ?_
 simp(disch:=omega) [mR,ah.c,VZ]
 have h0:=l7 b l k hok hk hb
 generalize h1:ej b l ⟨k,0⟩=s1 at h0⊢
 by_cases g:s1.2.er=0
 ·simp only[di,if_pos g,Proof.o]at h0⊢
  refine ao (h0) ?_ (ha:=by first|rfl|(simp[ah.c,VY] <;>repeat' constructor))
  simp(disch:=omega) [VZ]
 ·simp only[di,if_neg g,EW]at h0⊢
  refine ao (h0) ?_ (ha:=by first|rfl|(simp[ah.c,VY] <;>repeat' constructor))
  simp(disch:=omega) [VZ]
abbrev fG:Nat:=126
def fM:AF:=⟨4,6,[.cell 8 5 true, .tmp 9, .tmp 10],(.seq (.ops [.i (.lbox 4 (.s 0)), .i (.lal 8 [.int .i64 0, .int .i64 0, .int .i64 0, .nils, .nils]), .i (.mov 9 (qi 0)), .i (.mov 10 (qi 0))]) (.seq (.ops [.i (.lal 11 [.int .i64 0, .int .i64 0, .int .i64 0, .nils, .nils])]) (.seq (.seq (.ops [ql 14 4 4 5 true,qk 16 95 14, .i (.not 16 (.s 15))]) (.cond (.s 16) (.seq (.ops [ql 17 11 11 5 true,qs 8 8 17 5, .i (.mov 9 (qi 0)), .i (.mov 10 (qi 5))]) .ret) .skip)) (.seq (.ops [qm 18 1,qm 19 2, .i (.bld 20 [.nils, .int .i64 0, .int .i64 0] [(0,1,(.s 18)),(1,1,(.s 19))]), .i (.hbox 21 215 (.s 20)),qm 12 21]) (.seq (.ops [qm 22 3,ql 23 4 4 5 true,qm 24 12, .i (.clv 26 false (.s 22) [(.s 23),(.s 24)]), .i (.lal 13 [.int .i64 0, .int .i64 0, .int .i64 0, .nils, .nils]),qs 13 13 25 5]) (.seq (.seq (.ops [qm 26 12, .i (.nch 27 (.s 26)),qf 28 27 2, .i (.ldh 29 (.s 28) 1 false), .i (.bin 30 .neq (.s 29) (qi 0))]) (.cond (.s 30) (.seq (.ops [ql 31 11 11 5 true,qm 32 12, .i (.nch 33 (.s 32)),qf 34 33 2, .i (.ldh 35 (.s 34) 1 false),qs 8 8 31 5, .i (.mov 9 (qi 0)),qm 10 35]) .ret) .skip)) (.seq (.ops [ql 36 13 13 5 true,qm 37 12, .i (.nch 38 (.s 37)),qf 39 38 1, .i (.ldh 40 (.s 39) 1 false),qs 8 8 36 5,qm 9 40, .i (.mov 10 (qi 0))]) .ret)))))))⟩
theorem n9:cd fG=some fM:=by kernel_rfl
theorem og (b:Bytes) (l:ah) (k:Nat) (hok:l.ok=true) (hk:k≤b.length) (hb:b.length≤1073741824):VC cd fG (aB [(true,l.c),(false,[.sl (bytes b)]),(false,[.int .i64 (k:Int)]),(false,[.fn gG])]) (fun rs _=>rs=di (jr b l ⟨k,0⟩).1.o IE (jr b l ⟨k,0⟩).2):=by
 have hr:Rd.wf b ⟨k,0⟩:=⟨hk,by simp⟩
 refine aa n9 rfl ?_
 simp(disch:=omega) [fM,ah.c,VZ]
 refine ao (aT l) ?_ (ha:=by first|rfl|(simp[ah.c,VY] <;>repeat' constructor))
 simp(disch:=omega) [hok,VZ]
 refine dc (xj b l ⟨k,0⟩ (iA hok) hr hb) ?_ (n1:=by simp(disch:=omega) [aN.o,VZ]) (n3:=by simp(disch:=omega) [aN.o,VZ])
 generalize h1:jr b l ⟨k,0⟩=s1
 simp(disch:=omega) [bk,aN.o,VZ]
 by_cases g:s1.2.er=0
 ·simp(disch:=omega) [g,di,aN.o,VZ]
 ·simp(disch:=omega) [g,di,IE,VZ]
abbrev ij:Nat:=44
def rf:AF:=⟨3,5,[.cell 6 5 true, .tmp 7, .tmp 8],(.seq (.ops [.i (.lbox 3 (.s 0)), .i (.lal 6 [.int .i64 0, .int .i64 0, .int .i64 0, .nils, .nils]), .i (.mov 7 (qi 0)), .i (.mov 8 (qi 0))]) (.seq (.ops [ql 9 3 3 5 true,qm 10 1,qm 11 2, .i (.call 13 126 false [(.s 9),(.s 10),(.s 11),(.c (.val false [.fn 127]))]), .i (.ext 13 (.s 12) 0), .i (.ext 14 (.s 12) 1), .i (.ext 15 (.s 12) 2),qs 6 6 13 5,qm 7 14,qm 8 15]) .ret))⟩
theorem Bn:cd ij=some rf:=by kernel_rfl
theorem zr (b:Bytes) (l:ah) (k:Nat) (hok:l.ok=true) (hk:k≤b.length) (hb:b.length≤1073741824):VC cd ij (aB [(true,l.c),(false,[.sl (bytes b)]),(false,[.int .i64 (k:Int)])]) (fun rs _=>rs=di (jr b l ⟨k,0⟩).1.o IE (jr b l ⟨k,0⟩).2):=by
 refine aa Bn rfl ?_
 simp(disch:=omega) [rf,ah.c,VZ]
 have h0:=og b l k hok hk hb
 generalize h1:jr b l ⟨k,0⟩=s1 at h0⊢
 by_cases g:s1.2.er=0
 ·simp only[di,if_pos g,aN.o]at h0⊢
  refine ao (h0) ?_ (ha:=by first|rfl|(simp[ah.c,VY] <;>repeat' constructor))
  simp(disch:=omega) [VZ]
 ·simp only[di,if_neg g,IE]at h0⊢
  refine ao (h0) ?_ (ha:=by first|rfl|(simp[ah.c,VY] <;>repeat' constructor))
  simp(disch:=omega) [VZ]
end Go.Eng.F
namespace Go.Eng.F
def kinds:List ByteArray:= [ByteArray.empty,⟨#[118,111,116,101]⟩,⟨#[113,99]⟩,⟨#[104,101,97,100]⟩,⟨#[98,108,111,99,107]⟩,⟨#[116,99]⟩,⟨#[112,114,111,111,102]⟩,⟨#[105,110,99,108]⟩]
end Go.Eng.F
namespace Go.Eng.F
def aS.o (m:aS):List E:= [.p (.int .i64 m.kind), .p (.int .i64 m.vote.view), .p (.int .i64 m.vote.height), .o true (some (5,1)) (bytes m.vote.block), .p (.int .i64 m.vote.who), .o true (some (5,1)) (bytes m.vote.tag), .p (.int .i64 m.qc.view), .p (.int .i64 m.qc.height), .o true (some (5,1)) (bytes m.qc.block), .o true (some (5,1)) (bytes m.qc.bits), .o true (some (22,1)) (bm m.qc.tags), .p (.int .i64 m.head.view), .p (.int .i64 m.head.height), .p (.int .i64 m.head.proposer), .o true (some (5,1)) (bytes m.head.parent), .o true (some (5,1)) (bytes m.head.root), .p (.int .i64 m.head.qc.view), .p (.int .i64 m.head.qc.height), .o true (some (5,1)) (bytes m.head.qc.block), .o true (some (5,1)) (bytes m.head.qc.bits), .o true (some (22,1)) (bm m.head.qc.tags), .p (.int .i64 m.block.head.view), .p (.int .i64 m.block.head.height), .p (.int .i64 m.block.head.proposer), .o true (some (5,1)) (bytes m.block.head.parent), .o true (some (5,1)) (bytes m.block.head.root), .p (.int .i64 m.block.head.qc.view), .p (.int .i64 m.block.head.qc.height), .o true (some (5,1)) (bytes m.block.head.qc.block), .o true (some (5,1)) (bytes m.block.head.qc.bits), .o true (some (22,1)) (bm m.block.head.qc.tags), .o true (some (22,1)) (bm m.block.txs), .p (.int .i64 m.tc.view), .o true (some (165,3)) (hX m.tc.entries), .o true (some (45,10)) (el m.proof.heads), .p (.int .i64 m.proof.qc.view), .p (.int .i64 m.proof.qc.height), .o true (some (5,1)) (bytes m.proof.qc.block), .o true (some (5,1)) (bytes m.proof.qc.bits), .o true (some (22,1)) (bm m.proof.qc.tags), .p (.int .i64 m.incl.height), .p (.int .i64 m.incl.n), .p (.int .i64 m.incl.idx), .o true (some (5,1)) (bytes m.incl.tx), .o true (some (22,1)) (bm m.incl.path)]
def HT (b:Bytes) (m:aS) (r:Rd):aS×Nat:=if r.er≠0 then(aK,r.er)else if r.at_≠b.length then(aK,9)else(m,0)
def Qo (l:ah) (b:Bytes):Nat→aS×Nat
 |1=>HT b {aK with kind:=1,vote:=(kV b l ⟨1,0⟩).1} (kV b l ⟨1,0⟩).2
 |2=>HT b {aK with kind:=2,qc:=(yd b l ⟨1,0⟩).1} (yd b l ⟨1,0⟩).2
 |3=>HT b {aK with kind:=3,head:=(dG b l ⟨1,0⟩).1} (dG b l ⟨1,0⟩).2
 |4=>HT b {aK with kind:=4,block:=(eN b l ⟨1,0⟩).1} (eN b l ⟨1,0⟩).2
 |5=>HT b {aK with kind:=5,tc:=(H3 b l ⟨1,0⟩).1} (H3 b l ⟨1,0⟩).2
 |6=>HT b {aK with kind:=6,proof:=(ej b l ⟨1,0⟩).1} (ej b l ⟨1,0⟩).2
 |7=>HT b {aK with kind:=7,incl:=(jr b l ⟨1,0⟩).1} (jr b l ⟨1,0⟩).2
 |_=>(aK,8)
def dec (l:ah) (b:Bytes):aS×Nat:=if l.ok=true then(match b[0]? with|none=>(aK,1)|some c=>Qo l b c.toNat)else(aK,5)
theorem hH:bm []= []:=rfl
theorem hD:hX []= []:=rfl
theorem hC:el []= []:=rfl
end Go.Eng.F
namespace Go.Eng.F
theorem Ie.wc {q:Qc} (h:Ie q):q.wc:=by
 have h1:=cY h.view
 have h2:=cY h.height
 have h3:=h.block
 have h4:=h.bits
 have h5:=h.tags
 refine⟨⟨⟨by omega,by omega⟩,⟨by omega,by omega⟩,?_,?_,?_⟩,fun x hx=> ?_⟩ <;>unfold Sz
 ·omega
 ·omega
 ·omega
 ·have:=h.tag x hx;omega
theorem jg (l:ah) (h:Head) (hw:h.wf):VC cd gx (aB [(true,l.c),(true,h.c)]) (fun rs _=>rs= [(false,[.o true (some (5,1)) (bytes (me l h))])]):=
 (xd l h hw).own fun rs ps q=>by
   rw[q,pS,me]
   by_cases h0:bg l h=true
   ·rw[if_pos h0,if_pos h0]
    exact⟨_,by simp[br,bN,bT],rfl⟩
   ·rw[if_neg h0,if_neg h0]
    exact⟨_,by simp[br,bN,bT,ak],rfl⟩
theorem DT (l:ah) (h:Head):(me l h).length≤32:=by
 unfold me
 split
 ·rw[vU];omega
 ·simp
abbrev oU:Nat:=187
def rb:AF:=⟨2,6,[.cell 4 10 true],(.seq (.ops [.i (.lbox 3 (.s 1)), .i (.lal 4 qz)]) (.seq (.ops [qm 6 0, .i (.call 8 97 false [(.s 6),(qi 200)]), .i (.bin 8 .add (qi 2) (.s 7)),qm 9 0, .i (.call 11 97 false [(.s 9),(qi 200)]), .i (.bin 11 .add (qi 1) (.s 10)),qm 12 0,qf 13 3 0,ql 14 3 13 1 false, .i (.call 16 97 false [(.s 12),(.s 14)]),qm 16 0,qk 18 242 16,qm 18 0,qk 20 242 18,qm 20 0,ql 21 3 3 5 true, .i (.call 23 185 false [(.s 20),(.s 21)]), .i (.bld 23 qz [(0,1,(.s 8)),(1,1,(.s 11)),(2,1,(.s 15)),(3,1,(.s 17)),(4,1,(.s 19)),(5,5,(.s 22))]), .i (.lal 5 qz),qs 5 5 23 10]) (.seq (.ops [qm 24 0,qf 25 5 0,ql 26 5 25 1 false, .i (.call 28 97 false [(.s 24),(.s 26)]),qf 28 5 5,qf 29 28 0,qs 5 29 27 1]) (.seq (.ops [qf 30 5 1,ql 31 5 30 1 false, .i (.bin 32 .sub (.s 31) (qi 1)),qf 33 5 5,qf 34 33 1,qs 5 34 32 1]) (.seq (.ops [qf 35 5 3,ql 36 5 35 1 false,qk 38 143 36,qf 38 5 5,qf 39 38 2,qs 5 39 37 1]) (.seq (.ops [ql 40 5 5 10 true,qs 4 4 40 10]) .ret))))))⟩
theorem Bv:cd oU=some rb:=by kernel_rfl
theorem l0 (b:Bytes) (i:Nat) (h:Int) (l:ah) (hl:1≤l.n∧l.n≤10) (hi:i≤b.length) (hb:b.length≤1073741824):VC cd oU (iO [] 133 (cur b i h) [(true,l.c)]) (fun r p=>∃x:Head×Nat×Int,(x.1.wc∧x.2.1≤b.length)∧r= [(true,x.1.o)]∧p= [.pt 133 (cur b x.2.1 x.2.2)]):=by
 obtain⟨m,hm⟩:∃m:Nat,l.n=(m:Int):=⟨l.n.toNat,by omega⟩
 refine aw Bv rfl ?_
 simp(disch:=omega) [rb,cur,ah.c,VZ]
 refine dz (aC b i h 200 (by omega) hi hb) ?_
 rintro⟨k1,i1,h1⟩ ⟨g1,j1⟩
 simp only at g1 j1
 simp(disch:=omega) [cur,VZ]
 refine dz (aC b i1 h1 200 (by omega) j1 hb) ?_
 rintro⟨k2,i2,h2⟩ ⟨g2,j2⟩
 simp only at g2 j2
 simp(disch:=omega) [cur,hm,VZ]
 refine dz (aC b i2 h2 m (by omega) j2 hb) ?_
 rintro⟨k3,i3,h3⟩ ⟨g3,j3⟩
 simp only at g3 j3
 simp(disch:=omega) [cur,VZ]
 refine dz (cR b i3 h3 j3 hb) ?_
 rintro⟨x4,i4,h4⟩ ⟨g4,j4⟩
 simp only at g4 j4
 simp(disch:=omega) [cur,VZ]
 refine dz (cR b i4 h4 j4 hb) ?_
 rintro⟨x5,i5,h5⟩ ⟨g5,j5⟩
 simp only at g5 j5
 simp(disch:=omega) [cur,VZ]
 refine dz (u6 b i5 h5 ⟨(m:Int),l.tx,l.txs,l.frame,l.heads⟩ (by simp only;omega) j5 hb) ?_ (n1:=by intro _;simp(disch:=omega) [ah.c,Qc.o,hm,VZ]) (n3:=by intro _;simp(disch:=omega) [ah.c,Qc.o,hm,VZ])
 rintro⟨q6,i6,h6⟩ ⟨g6,j6⟩
 simp only at g6 j6
 obtain⟨⟨_,_,w3,w4,w5⟩,w6⟩:=g6.wc
 simp(disch:=omega) [cur,Qc.o,VZ]
 refine dz (aC b i6 h6 (2+k1) (by omega) j6 hb) ?_
 rintro⟨k7,i7,h7⟩ ⟨g7,j7⟩
 simp only at g7 j7
 simp(disch:=omega) [cur,VZ]
 refine ao (bY x4 (by omega)) ?_
 simp(disch:=omega) [cur,VZ]
 refine⟨⟨2+k1,1+k2,k3,x4,x5,⟨k7,k2,x4,q6.bits,q6.tags⟩⟩,i7,⟨?_,j7⟩,?_,rfl⟩
 ·refine⟨⟨⟨by simp only;omega,by simp only;omega⟩,⟨by simp only;omega,by simp only;omega⟩,⟨by simp only;omega,by simp only;omega⟩,?_,?_,⟨⟨by simp only;omega,by simp only;omega⟩,⟨by simp only;omega,by simp only;omega⟩,?_,w4,w5⟩⟩,w6⟩
  ·unfold Sz;simp only;omega
  ·unfold Sz;simp only;omega
  ·unfold Sz;simp only;omega
 ·have e1:(1+(k2:Int) - 1)=k2:=by omega
  rw[e1]
  rfl
abbrev nE:Nat:=273
def nQ:AF:=⟨3,6,[.tmp 6],(.seq (.ops [.i (.lbox 4 (.s 1)), .i (.mov 6 (.c (.val false [.nils])))]) (.seq (.ops [qm 10 0,ql 11 4 4 5 true, .i (.call 13 187 false [(.s 10),(.s 11)]), .i (.bsl 13 45 10 1 qz [(0,10,(.s 12))]),qm 7 13]) (.seq (.block 0 (.loop [59,58,57,56,55,54,53,52,51,50,49,48,47,46,45,44,43,42,41,40,39,38,37,36,35,34,33,32,31,30,29,28,27,26,25,24,23,22,21,20,19,18,17,16,15,14,9,8] (.seq (.seq (.ops [qm 14 7,qn 15 14,qm 16 2,qd 17 .lss 15 16]) (.cond (.s 17) .skip (.exit 0))) (.block 1 (.seq (.ops [qm 18 7,qm 19 7,qn 20 19, .i (.bin 21 .sub (.s 20) (qi 1)), .i (.iad 22 (.s 18) (.s 21) 10), .i (.ldh 23 (.s 22) 10 true), .i (.lal 8 qz),qs 8 8 23 10]) (.seq (.ops [qm 24 0,ql 25 4 4 5 true, .i (.call 27 187 false [(.s 24),(.s 25)]), .i (.lal 9 qz),qs 9 9 26 10]) (.seq (.ops [qf 27 8 0,ql 28 8 27 1 false, .i (.bin 29 .add (.s 28) (qi 1)),qm 30 0, .i (.call 32 97 false [(.s 30),(qi 6)]), .i (.bin 32 .quo (.s 31) (qi 5)),qd 33 .add 29 32,qf 34 9 0,qs 9 34 33 1]) (.seq (.ops [qf 35 8 1,ql 36 8 35 1 false, .i (.bin 37 .add (.s 36) (qi 1)),qf 38 9 1,qs 9 38 37 1]) (.seq (.ops [ql 39 4 4 5 true,ql 40 8 8 10 true, .i (.call 42 274 false [(.s 39),(.s 40)]),qf 42 9 3,qs 9 42 41 1]) (.seq (.ops [qf 43 8 0,ql 44 8 43 1 false,qf 45 9 5,qf 46 45 0,qs 9 46 44 1]) (.seq (.ops [qf 47 8 1,ql 48 8 47 1 false,qf 49 9 5,qf 50 49 1,qs 9 50 48 1]) (.seq (.ops [qf 51 9 3,ql 52 9 51 1 false,qk 54 143 52,qf 54 9 5,qf 55 54 2,qs 9 55 53 1]) (.ops [qm 56 7,ql 57 9 9 10 true, .i (.lsl 58 10 1 qz [(0,10,(.s 57))]), .i (.app 59 45 10 160 (.s 56) (.s 58)),qm 7 59]))))))))))))) (.seq (.ops [qm 60 7,qm 6 60]) .ret))))⟩
theorem zi:cd nE=some nQ:=by kernel_rfl
theorem Gc (b:Bytes) (i:Nat) (h:Int) (l:ah) (n:Nat) (hl:1≤l.n∧l.n≤10) (hn:1≤n∧n≤10) (hi:i≤b.length) (hb:b.length≤1073741824):VC cd nE (iO [] 133 (cur b i h) [(true,l.c),(false,[.int .i64 (n:Int)])]) (fun r p=>∃x:List Head×Nat×Int,((x.1.length=n∧∀y∈x.1,y.wc)∧x.2.1≤b.length)∧r= [(false,[.o true (some (45,10)) (el x.1)])]∧p= [.pt 133 (cur b x.2.1 x.2.2)]):=by
 refine aw zi rfl ?_
 simp(disch:=omega) [nQ,cur,ah.c,VZ]
 refine dz (l0 b i h l hl hi hb) ?_ (n1:=by intro _;simp(disch:=omega) [ah.c,Head.o,VZ]) (n3:=by intro _;simp(disch:=omega) [ah.c,Head.o,VZ])
 rintro⟨x1,i1,h1⟩ ⟨g1,j1⟩
 simp only at g1 j1
 simp(disch:=omega) [cur,Head.o,ah.c,VZ]
 have e0: [[D.int .i64 x1.view, .int .i64 x1.height, .int .i64 x1.proposer, .sl (bytes x1.parent), .sl (bytes x1.root), .int .i64 x1.qc.view, .int .i64 x1.qc.height, .sl (bytes x1.qc.block), .sl (bytes x1.qc.bits), .sl (bm x1.qc.tags)]]=el [x1]:=rfl
 rw[e0]
 refine cQ (σ:=Nat×Nat×Int×List Head) (f1:=_) (es0:=_) (by simp(disch:=omega) [VZ];rfl) (by simp(disch:=omega) [VZ];rfl) (fun p=> [(7, .val false [.ow 13 p.1])]) (fun p=> [(4096, .pt 0 133 [.sl (bytes b), .int .i64 (p.2.1:Int), .int .i64 p.2.2.1]),(13, .sl p.1 true true (some (45,10)) (el p.2.2.2))])
  (fun p g=>g+p.2.2.2.length=n∧1≤p.2.2.2.length∧p.2.1≤b.length∧∀y∈p.2.2.2,y.wc) (_,i1,h1,[x1]) (n - 1) (by simp(disch:=omega) [VZ];rfl) (by simp(disch:=omega) [VZ]) ⟨by simp;omega,by simp,j1,by simpa using g1⟩ ?_
 rintro⟨v,i2,h2,x⟩ nx g ⟨hg,h5,h6,h7⟩ P hP
 simp only at hg h5 h6 h7
 have hx:(el x).length=x.length:=bS x
 simp(disch:=omega) [hx,VZ]
 refine ab (fun h8=> ?_) (fun h8=> ?_)
 ·have e1:IntKind.i64.wrap ((x.length:Int) - 1)=((x.length - 1:Nat):Int):=by rw[Hq (by omega) (by omega)];omega
  obtain⟨a,e2,hw⟩:∃a:Head,(∀hq:x.length - 1 < (el x).length,(el x)[x.length - 1]'hq=a.c)∧a.wc:=⟨x[x.length - 1]'(by omega),fun hq=>by simp[el],h7 _ (List.getElem_mem _)⟩
  simp(disch:=omega) [hx,e1,e2,Head.c,VZ]
  refine dz (l0 b i2 h2 l hl h6 hb) ?_ (n1:=by intro _;simp(disch:=omega) [ah.c,Head.o,VZ]) (n3:=by intro _;simp(disch:=omega) [ah.c,Head.o,VZ])
  rintro⟨y,i3,h3⟩ ⟨g3,j3⟩
  simp only at g3 j3
  simp(disch:=omega) [cur,Head.o,VZ]
  refine dz (aC b i3 h3 6 (by omega) j3 hb) ?_
  rintro⟨k4,i4,h4⟩ ⟨g4,j4⟩
  simp only at g4 j4
  simp(disch:=omega) [cur,VZ]
  refine ao (jg l a hw.1) ?_ (ha:=by first|rfl|(simp[ah.c,Head.c,VY] <;>repeat' constructor))
  have hhl:=DT l a
  simp(disch:=omega) [cur,VZ]
  refine ao (bY (me l a) (by omega)) ?_
  have ez:=Je x ⟨IntKind.i64.wrap (IntKind.i64.wrap (a.view+1)+(k4:Int) / 5),IntKind.i64.wrap (a.height+1),y.proposer,me l a,y.root,⟨a.view,a.height,me l a,y.qc.bits,y.qc.tags⟩⟩
  simp only at ez
  simp(disch:=omega) [cur,hx,ez,VZ]
  refine hP (_,i4,h4,x++ [⟨IntKind.i64.wrap (IntKind.i64.wrap (a.view+1)+(k4:Int) / 5),IntKind.i64.wrap (a.height+1),y.proposer,me l a,y.root,⟨a.view,a.height,me l a,y.qc.bits,y.qc.tags⟩⟩]) (g - 1) _ _ (by omega) ⟨by simp;omega,by simp,j4,fun z hz=> ?_⟩ (by simp(disch:=omega) [VZ];rfl) (by simp(disch:=omega) [VZ])
  rcases List.mem_append.1 hz with hz|hz
  ·exact h7 z hz
  ·simp only[List.mem_singleton]at hz
   subst hz
   obtain⟨⟨w1,w2,w3,w4,w5,⟨q1,q2,q3,q4,q5⟩⟩,w7⟩:=g3
   have hs:Sz (me l a).length:=by unfold Sz;omega
   exact⟨⟨P3 _,P3 _,w3,hs,w5,⟨hw.1.1,hw.1.2.1,hs,q4,q5⟩⟩,w7⟩
 ·simp(disch:=omega) [cur,VZ]
  exact⟨x,i2,⟨⟨by omega,h7⟩,h6⟩,rfl,rfl⟩
abbrev sS:Nat:=270
def tX:AF:=⟨2,5,[.tmp 4],(.seq (.ops [.i (.lbox 3 (.s 1)), .i (.mov 4 (.c (.val false [.nils])))]) (.seq (.ops [.i (.bse 8),qm 5 8]) (.seq (.seq (.ops [qm 9 0,qf 10 3 2,ql 11 3 10 1 false, .i (.bin 12 .add (.s 11) (qi 1)), .i (.call 14 97 false [(.s 9),(.s 12)]),qm 6 13]) (.block 0 (.loop [27,26,25,24,23,22,21,20,19,18,17,16,15,14,7] (.seq (.seq (.ops [qm 14 6, .i (.bin 15 .gtr (.s 14) (qi 0))]) (.cond (.s 15) .skip (.exit 0))) (.seq (.block 1 (.seq (.ops [qf 18 3 1,ql 19 3 18 1 false,qm 7 19]) (.seq (.seq (.ops [qm 20 7, .i (.bin 21 .gtr (.s 20) (qi 6))]) (.cond (.s 21) (.ops [.i (.mov 7 (qi 6))]) .skip)) (.ops [qm 22 5,qm 23 0,qm 24 7, .i (.call 26 138 false [(.s 23),(.s 24)]), .i (.lsl 26 1 1 [.nils] [(0,1,(.s 25))]), .i (.app 27 22 1 24 (.s 22) (.s 26)),qm 5 27])))) (.ops [qm 16 6, .i (.bin 17 .sub (.s 16) (qi 1)),qm 6 17])))))) (.seq (.ops [qm 28 5,qm 4 28]) .ret))))⟩
theorem CD:cd sS=some tX:=by kernel_rfl
theorem JM (b:Bytes) (i:Nat) (h:Int) (l:ah) (hl:l.rd) (hi:i≤b.length) (hb:b.length≤1073741824):VC cd sS (iO [] 133 (cur b i h) [(true,l.c)]) (fun r p=>∃x:List Bytes×Nat×Int,((x.1.length≤8∧∀y∈x.1,y.length≤6)∧x.2.1≤b.length)∧r= [(false,[.o true (some (22,1)) (bm x.1)])]∧p= [.pt 133 (cur b x.2.1 x.2.2)]):=by
 have hl1:=hl.2.1
 have hl2:=hl.2.2.1
 obtain⟨m,hm⟩:∃m:Nat,l.txs=(m:Int):=⟨l.txs.toNat,by omega⟩
 obtain⟨t,ht⟩:∃t:Nat,l.tx=(t:Int):=⟨l.tx.toNat,by omega⟩
 refine aw CD rfl ?_
 simp(disch:=omega) [tX,cur,ah.c,hm,ht,VZ]
 refine dz (aC b i h (m+1) (by omega) hi hb) ?_
 rintro⟨k1,i1,h1⟩ ⟨g1,j1⟩
 simp only at g1 j1
 simp(disch:=omega) [cur,VZ]
 refine cQ (σ:=Nat×Nat×Nat×Int×List Bytes) (f1:=_) (es0:=_) (by simp(disch:=omega) [VZ];rfl) (by simp(disch:=omega) [VZ];rfl) (fun p=> [(6, .val false [.int .i64 (p.1:Int)]),(5, .val false [.ow 8 p.2.1])]) (fun p=> [(4096, .pt 0 133 [.sl (bytes b), .int .i64 (p.2.2.1:Int), .int .i64 p.2.2.2.1]),(8, .sl p.2.1 true true (some (22,1)) (bm p.2.2.2.2))])
  (fun p g=>g=p.1∧p.2.2.1≤b.length∧p.2.2.2.2.length+p.1≤8∧∀y∈p.2.2.2.2,y.length≤6) (k1,_,i1,h1,[]) k1 (by simp(disch:=omega) [VZ];rfl) (by simp(disch:=omega) [bm,VZ]) ⟨rfl,j1,by simp;omega,by simp⟩ ?_
 rintro⟨n,v,i2,h2,x⟩ nx g ⟨hg,h5,h6,h7⟩ P hP
 simp only at hg h5 h6 h7
 simp(disch:=omega) [VZ]
 refine ab (fun h8=> ?_) (fun h8=> ?_)
 ·have e1:IntKind.i64.wrap ((n:Int) - 1)=((n - 1:Nat):Int):=by rw[Hq (by omega) (by omega)];omega
  have hlx:(bm x).length=x.length:=aq x
  simp(disch:=omega) [VZ]
  refine ab (fun h9=> ?_) (fun h9=> ?_)
  ·simp(disch:=omega) [VZ]
   refine dz (iW b i2 h2 6 (by omega) h5 hb) ?_
   rintro⟨y,i3,h3⟩ ⟨g3,j3⟩
   simp only at g3 j3
   simp(disch:=omega) [cur,e1,hlx,lN,VZ]
   refine hP (n - 1,_,i3,h3,x++ [y]) (g - 1) _ _ (by omega) ⟨by simp only;omega,j3,by simp;omega,fun z hz=> ?_⟩ (by simp(disch:=omega) [VZ];rfl) (by simp(disch:=omega) [VZ])
   rcases List.mem_append.1 hz with hz|hz
   ·exact h7 z hz
   ·simp only[List.mem_singleton]at hz;subst hz;omega
  ·simp(disch:=omega) [VZ]
   refine dz (iW b i2 h2 t (by omega) h5 hb) ?_
   rintro⟨y,i3,h3⟩ ⟨g3,j3⟩
   simp only at g3 j3
   simp(disch:=omega) [cur,e1,hlx,lN,VZ]
   refine hP (n - 1,_,i3,h3,x++ [y]) (g - 1) _ _ (by omega) ⟨by simp only;omega,j3,by simp;omega,fun z hz=> ?_⟩ (by simp(disch:=omega) [VZ];rfl) (by simp(disch:=omega) [VZ])
   rcases List.mem_append.1 hz with hz|hz
   ·exact h7 z hz
   ·simp only[List.mem_singleton]at hz;subst hz;omega
 ·simp(disch:=omega) [cur,VZ]
  exact⟨x,i2,⟨⟨by omega,h7⟩,h5⟩,rfl,rfl⟩
theorem Aq:cu.wc:=by
 refine⟨⟨⟨by decide,by decide⟩,⟨by decide,by decide⟩,⟨by decide,by decide⟩,by simp[cu,Sz],by simp[cu,Sz],⟨⟨by decide,by decide⟩,⟨by decide,by decide⟩,by simp[cu,oc,Sz],by simp[cu,oc,Sz],by simp[cu,oc,Sz]⟩⟩,fun x hx=>by simp[cu,oc]at hx⟩
def BL (l:ah) (h:Head) (t:List Bytes):Block:=if ba l (fy h t)=true then fy h t else bC
theorem Jw {l:ah} {h:Head} {t:List Bytes} (hw:h.wc) (ht:t.length≤8∧∀y∈t,y.length≤6):(BL l h t).wx:=by
 have hb:mY t:=⟨by unfold Sz;omega,fun x hx=>by have:=ht.2 x hx;unfold Sz;omega⟩
 unfold BL
 split
 ·exact⟨yC hw hb,fun x hx=>by have:=ht.2 x hx;omega⟩
 ·exact⟨⟨Aq,by simp[bC,mY,Sz]⟩,by simp[bC]⟩
theorem xR (l:ah) (h:Head) (t:List Bytes) (hw:h.wc) (ht:t.length≤8∧∀y∈t,y.length≤6):VC cd iG (aB [(true,l.c),(true,h.c),(false,[.sl (bm t)])]) (fun rs _=>rs= [(true,(BL l h t).o),(false,[.p (.bool (ba l (fy h t)))])]):=
 (zO l h t hw ⟨by unfold Sz;omega,fun x hx=>by have:=ht.2 x hx;unfold Sz;omega⟩ (fun x hx=>by have:=ht.2 x hx;omega)).own fun rs ps q=>by
   rw[q,B9,BL]
   by_cases h0:ba l (fy h t)=true
   ·rw[if_pos h0,if_pos h0,h0]
    exact⟨_,by simp[br,bN,bT,fy,Block.o],rfl⟩
   ·have h1:ba l (fy h t)=false:=by simpa using h0
    rw[if_neg h0,if_neg h0,h1]
    exact⟨_,by simp[br,bN,bT,Block.o,bC,cu,oc,ak,bm],rfl⟩
abbrev pL:Nat:=189
def pr:AF:=⟨2,5,[.cell 4 11 true],(.seq (.ops [.i (.lbox 3 (.s 1)), .i (.lal 4 [.int .i64 0, .int .i64 0, .int .i64 0, .nils, .nils, .int .i64 0, .int .i64 0, .nils, .nils, .nils, .nils])]) (.seq (.ops [ql 8 3 3 5 true,qm 9 0,ql 10 3 3 5 true, .i (.call 12 187 false [(.s 9),(.s 10)]),qm 12 0,ql 13 3 3 5 true, .i (.call 15 270 false [(.s 12),(.s 13)]), .i (.call 16 269 false [(.s 8),(.s 11),(.s 14)]),qm 7 15, .i (.ext 16 (.s 7) 0), .i (.ext 17 (.s 7) 1), .i (.lal 5 [.int .i64 0, .int .i64 0, .int .i64 0, .nils, .nils, .int .i64 0, .int .i64 0, .nils, .nils, .nils, .nils]),qs 5 5 16 11,qm 6 17]) (.seq (.ops [ql 18 5 5 11 true,qs 4 4 18 11]) .ret)))⟩
theorem AN:cd pL=some pr:=by kernel_rfl
theorem Il (b:Bytes) (i:Nat) (h:Int) (l:ah) (hl:l.rd) (hi:i≤b.length) (hb:b.length≤1073741824):VC cd pL (iO [] 133 (cur b i h) [(true,l.c)]) (fun r p=>∃x:Block×Nat×Int,(x.1.wx∧x.2.1≤b.length)∧r= [(true,x.1.o)]∧p= [.pt 133 (cur b x.2.1 x.2.2)]):=by
 refine aw AN rfl ?_
 simp(disch:=omega) [pr,cur,ah.c,VZ]
 refine dz (l0 b i h l hl.1 hi hb) ?_ (n1:=by intro _;simp(disch:=omega) [ah.c,Head.o,VZ]) (n3:=by intro _;simp(disch:=omega) [ah.c,Head.o,VZ])
 rintro⟨x1,i1,h1⟩ ⟨g1,j1⟩
 simp only at g1 j1
 simp(disch:=omega) [cur,Head.o,VZ]
 refine dz (JM b i1 h1 l hl j1 hb) ?_ (n1:=by intro _;simp(disch:=omega) [ah.c,VZ]) (n3:=by intro _;simp(disch:=omega) [ah.c,VZ])
 rintro⟨x2,i2,h2⟩ ⟨g2,j2⟩
 simp only at g2 j2
 simp(disch:=omega) [cur,VZ]
 refine ao (xR l x1 x2 g1 g2) ?_ (ha:=by first|rfl|(simp[ah.c,Head.c,VY] <;>repeat' constructor))
 have hw:=Jw (l:=l) g1 g2
 generalize BL l x1 x2=y at hw
 simp(disch:=omega) [cur,Block.o,VZ]
 exact⟨y,i2,⟨hw,j2⟩,by simp,rfl⟩
end Go.Eng.F
namespace Go.Eng.F
abbrev rk:Nat:=191
def pf:AF:=⟨2,6,[.cell 4 2 true],(.seq (.ops [.i (.lbox 3 (.s 1)), .i (.lal 4 [.int .i64 0, .nils])]) (.seq (.ops [qm 7 0, .i (.call 9 97 false [(.s 7),(qi 200)]), .i (.bin 9 .add (qi 1) (.s 8)), .i (.bld 10 [.int .i64 0, .nils] [(0,1,(.s 9))]), .i (.lal 5 [.int .i64 0, .nils]),qs 5 5 10 2]) (.seq (.seq (.ops [.i (.mov 6 (qi 0))]) (.block 0 (.loop [32,31,30,29,28,27,26,25,24,23,22,21,20,19,18,17,16,15,14,13,12,11] (.seq (.seq (.ops [qm 11 6,qf 12 3 0,ql 13 3 12 1 false,qd 14 .lss 11 13]) (.cond (.s 14) .skip (.exit 0))) (.seq (.block 1 (.seq (.ops [qm 17 0, .i (.call 19 135 false [(.s 17),(qi 3)]), .i (.not 19 (.s 18))]) (.cond (.s 19) (.ops [qf 20 5 1,ql 21 5 20 1 false,qm 22 6,qm 23 0,qf 24 5 0,ql 25 5 24 1 false, .i (.call 27 97 false [(.s 23),(.s 25)]),qm 27 0,qk 29 242 27, .i (.bld 29 [.int .i64 0, .int .i64 0, .nils] [(0,1,(.s 22)),(1,1,(.s 26)),(2,1,(.s 28))]), .i (.lsl 30 3 1 [.int .i64 0, .int .i64 0, .nils] [(0,3,(.s 29))]), .i (.app 31 165 3 40 (.s 21) (.s 30)),qf 32 5 1,qs 5 32 31 1]) .skip))) (.ops [qm 15 6, .i (.bin 16 .add (.s 15) (qi 1)),qm 6 16])))))) (.seq (.ops [ql 33 5 5 2 true,qs 4 4 33 2]) .ret))))⟩
theorem Ak:cd rk=some pf:=by kernel_rfl
theorem H0 (b:Bytes) (i:Nat) (h:Int) (l:ah) (hl:1≤l.n∧l.n≤10) (hi:i≤b.length) (hb:b.length≤1073741824):VC cd rk (iO [] 133 (cur b i h) [(true,l.c)]) (fun r p=>∃x:Tc×Nat×Int,(x.1.wf∧x.2.1≤b.length)∧r= [(true,x.1.o)]∧p= [.pt 133 (cur b x.2.1 x.2.2)]):=by
 refine aw Ak rfl ?_
 simp(disch:=omega) [pf,cur,ah.c,VZ]
 refine dz (aC b i h 200 (by omega) hi hb) ?_
 rintro⟨k1,i1,h1⟩ ⟨g1,j1⟩
 simp only at g1 j1
 simp(disch:=omega) [cur,VZ]
 refine dq (σ:=Nat×Nat×Nat×Int×List Entry) (f0:=_) (by simp(disch:=omega) [VZ];rfl) (c5.xo (s:=5) (k:=5) (i:=1) rfl rfl) (f1:=_) (es0:=_) (by simp(disch:=omega) [VZ];rfl) (by simp(disch:=omega) [VZ];rfl) (fun p=> [(6, .val false [.int .i64 (p.1:Int)]),(5, .box [.int .i64 (1+(k1:Int)), .ow 5 p.2.1])]) (fun p=> [(4096, .pt 0 133 [.sl (bytes b), .int .i64 (p.2.2.1:Int), .int .i64 p.2.2.2.1]),(5, .sl p.2.1 true true (some (165,3)) (hX p.2.2.2.2))])
  (fun p g=>(g:Int)+p.1=l.n∧p.2.2.1≤b.length∧p.2.2.2.2.length≤p.1∧∀r∈p.2.2.2.2,r.wf) (0,_,i1,h1,[]) l.n.toNat (by simp(disch:=omega) [VZ];rfl) (by simp(disch:=omega) [hX,VZ]) ⟨by simp only;omega,j1,by simp,by simp⟩ ?_
 rintro⟨n,v,i2,h2,x⟩ nx g ⟨hg,a5,a6,a7⟩ P hP
 simp only at hg a5 a6 a7
 have hlx:(hX x).length=x.length:=bK x
 simp(disch:=omega) [VZ]
 refine ab (fun h8=> ?_) (fun h8=> ?_)
 ·simp(disch:=omega) [VZ]
  refine dz (BX b i2 h2 3 (by omega) a5 hb) ?_
  rintro⟨y,i3,h3⟩ j3
  simp only at j3
  cases y with
  |true=>
   simp(disch:=omega) [cur,VZ]
   exact hP (n+1,v,i3,h3,x) (g - 1) _ _ (by omega) ⟨by simp only;omega,j3,by simp only;omega,a7⟩ (by simp(disch:=omega) [VZ] <;>rfl) (by simp(disch:=omega) [VZ])
  |false=>
   simp(disch:=omega) [cur,VZ]
   refine dz (aC b i3 h3 (1+k1) (by omega) j3 hb) ?_
   rintro⟨k4,i4,h4⟩ ⟨g4,j4⟩
   simp only at g4 j4
   simp(disch:=omega) [cur,VZ]
   refine dz (cR b i4 h4 j4 hb) ?_
   rintro⟨x5,i5,h5⟩ ⟨g5,j5⟩
   simp only at g5 j5
   simp(disch:=omega) [cur,hlx,IG,VZ]
   refine hP (n+1,_,i5,h5,x++ [⟨n,k4,x5⟩]) (g - 1) _ _ (by omega) ⟨by simp only;omega,j5,by simp;omega,fun z hz=> ?_⟩ (by simp(disch:=omega) [VZ] <;>rfl) (by simp(disch:=omega) [VZ])
   rcases List.mem_append.1 hz with hz|hz
   ·exact a7 z hz
   ·simp only[List.mem_singleton]at hz
    subst hz
    exact⟨⟨by simp only;omega,by simp only;omega⟩,⟨by simp only;omega,by simp only;omega⟩,by unfold Sz;simp only;omega⟩
 ·simp(disch:=omega) [cur,VZ]
  refine⟨⟨1+k1,x⟩,i2,⟨⟨⟨by simp only;omega,by simp only;omega⟩,by unfold Sz;simp only;omega,a7⟩,a5⟩,rfl,rfl⟩
abbrev rD:Nat:=193
def qN:AF:=⟨2,6,[.cell 4 6 true],(.seq (.ops [.i (.lbox 3 (.s 1)), .i (.lal 4 [.nils, .int .i64 0, .int .i64 0, .nils, .nils, .nils])]) (.seq (.ops [qm 7 0,ql 8 3 3 5 true,qm 9 0,qf 10 3 4,ql 11 3 10 1 false, .i (.bin 12 .sub (.s 11) (qi 2)), .i (.call 14 97 false [(.s 9),(.s 12)]), .i (.bin 14 .add (qi 3) (.s 13)), .i (.call 16 273 false [(.s 7),(.s 8),(.s 14)]),qm 16 0,ql 17 3 3 5 true, .i (.call 19 185 false [(.s 16),(.s 17)]), .i (.bld 19 [.nils, .int .i64 0, .int .i64 0, .nils, .nils, .nils] [(0,1,(.s 15)),(1,5,(.s 18))]), .i (.lal 5 [.nils, .int .i64 0, .int .i64 0, .nils, .nils, .nils]),qs 5 5 19 6]) (.seq (.ops [qf 20 5 0,ql 21 5 20 1 false,qf 22 5 0,ql 23 5 22 1 false,qn 24 23, .i (.bin 25 .sub (.s 24) (qi 1)), .i (.iad 26 (.s 21) (.s 25) 10), .i (.ldh 27 (.s 26) 10 true), .i (.lal 6 qz),qs 6 6 27 10]) (.seq (.ops [qf 28 6 0,ql 29 6 28 1 false,qf 30 5 1,qf 31 30 0,qs 5 31 29 1]) (.seq (.ops [qf 32 6 1,ql 33 6 32 1 false,qf 34 5 1,qf 35 34 1,qs 5 35 33 1]) (.seq (.ops [ql 36 3 3 5 true,ql 37 6 6 10 true, .i (.call 39 274 false [(.s 36),(.s 37)]),qf 39 5 1,qf 40 39 2,qs 5 40 38 1]) (.seq (.ops [ql 41 5 5 6 true,qs 4 4 41 6]) .ret)))))))⟩
theorem Cp:cd rD=some qN:=by kernel_rfl
theorem H9 (b:Bytes) (i:Nat) (h:Int) (l:ah) (hl:l.rd) (hi:i≤b.length) (hb:b.length≤1073741824):VC cd rD (iO [] 133 (cur b i h) [(true,l.c)]) (fun r p=>∃x:Proof×Nat×Int,(x.1.wc∧x.2.1≤b.length)∧r= [(true,x.1.o)]∧p= [.pt 133 (cur b x.2.1 x.2.2)]):=by
 have hl4:=hl.2.2.2
 obtain⟨m,hm⟩:∃m:Nat,l.heads=(m:Int):=⟨l.heads.toNat,by omega⟩
 have em:(m:Int) - 2=((m - 2:Nat):Int):=by omega
 refine aw Cp rfl ?_
 simp(disch:=omega) [qN,cur,ah.c,hm,em,VZ]
 refine dz (aC b i h (m - 2) (by omega) hi hb) ?_
 rintro⟨k1,i1,h1⟩ ⟨g1,j1⟩
 simp only at g1 j1
 simp(disch:=omega) [cur,VZ]
 refine dz (Gc b i1 h1 ⟨l.n,l.tx,l.txs,l.frame,(m:Int)⟩ (3+k1) hl.1 (by omega) j1 hb) ?_ (n1:=by intro _;simp(disch:=omega) [ah.c,VZ]) (n3:=by intro _;simp(disch:=omega) [ah.c,VZ])
 rintro⟨x2,i2,h2⟩ ⟨⟨g2,w2⟩,j2⟩
 simp only at g2 w2 j2
 simp(disch:=omega) [cur,VZ]
 refine dz (u6 b i2 h2 ⟨l.n,l.tx,l.txs,l.frame,(m:Int)⟩ hl.1 j2 hb) ?_ (n1:=by intro _;simp(disch:=omega) [ah.c,Qc.o,VZ]) (n3:=by intro _;simp(disch:=omega) [ah.c,Qc.o,VZ])
 rintro⟨x3,i3,h3⟩ ⟨g3,j3⟩
 simp only at g3 j3
 have w3:=g3.wc
 have hx:(el x2).length=x2.length:=bS x2
 have e1:IntKind.i64.wrap ((x2.length:Int) - 1)=((x2.length - 1:Nat):Int):=by rw[Hq (by omega) (by omega)];omega
 obtain⟨a,e2,hw⟩:∃a:Head,(∀hq:x2.length - 1 < (el x2).length,(el x2)[x2.length - 1]'hq=a.c)∧a.wc:=⟨x2[x2.length - 1]'(by omega),fun hq=>by simp[el],w2 _ (List.getElem_mem _)⟩
 have hhl:=DT ⟨l.n,l.tx,l.txs,l.frame,(m:Int)⟩ a
 simp(disch:=omega) [cur,Qc.o,hx,e1,e2,Head.c,VZ]
 refine ao (jg ⟨l.n,l.tx,l.txs,l.frame,(m:Int)⟩ a hw.1) ?_ (ha:=by first|rfl|(simp[ah.c,Head.c,VY] <;>repeat' constructor))
 generalize me ⟨l.n,l.tx,l.txs,l.frame,(m:Int)⟩ a=y at hhl
 simp(disch:=omega) [cur,Proof.o,VZ]
 refine⟨⟨x2,⟨a.view,a.height,y,x3.bits,x3.tags⟩⟩,i3,⟨?_,j3⟩,?_,rfl⟩
 ·obtain⟨⟨q1,q2,q3,q4,q5⟩,q6⟩:=w3
  have hs:Sz y.length:=by unfold Sz;omega
  exact⟨⟨⟨by unfold Sz;simp only;omega,fun z hz=>(w2 z hz).1⟩,⟨hw.1.1,hw.1.2.1,hs,q4,q5⟩⟩,w2,⟨hw.1.1,hw.1.2.1,hs,q4,q5⟩,q6⟩
 ·simp
end Go.Eng.F
namespace Go.Eng.F
structure Ev where
 kind:Int
 n:Int
 msg:aS
def Ev.c (e:Ev):List D:= .int .i64 e.kind:: .int .i64 e.n::e.msg.c
def PS (s:Bytes) (a n:Nat):Bytes:=(s.drop (a+8)).take (n - 8)
def KU (k:Nat):List Ev:=if k=0 then []else [⟨1,k,aK⟩]
def NU (l:ah) (d:Bytes):Ev:=if(dec l d).2=0 then⟨3,0,(dec l d).1⟩else⟨2,(dec l d).2,aK⟩
def LD (l:ah) (s:Bytes) (cl:Bool):Nat→Nat→Nat→List Ev→List Ev×Nat×Nat
 |0,a,k,e=>(e,k,a)
 |g+1,a,k,e=>
  if a < s.length then
   if(zS l s a).1=1∧cl=false then(e,k,a)
   else if(zS l s a).1≠3 then LD l s cl g (a+1) (k+1) e
   else LD l s cl g (a+(zS l s a).2.toNat) 0 (e++(KU k++ [NU l (PS s a (zS l s a).2.toNat)]))
  else(e,k,a)
def NH (l:ah) (s:Bytes) (cl:Bool) (k:Nat):List Ev×Nat×Nat:=
 let r:=LD l s cl s.length 0 k []
 (r.1++(if cl=true then KU r.2.1 else []),r.2)
end Go.Eng.F
namespace Go.Eng.F
def tail (l:ah) (s:Bytes):Nat×Nat:=if l.ok=true then((NH l s false 0).2.1,s.length - (NH l s false 0).2.2)else(0,0)
end Go.Eng.F
namespace Go.Eng.F
end Go.Eng.F
namespace Go.Eng.F
abbrev r9:Nat:=195
def qt:AF:=⟨2,6,[.cell 4 5 true],(.seq (.ops [.i (.lbox 3 (.s 1)), .i (.lal 4 [.int .i64 0, .int .i64 0, .int .i64 0, .nils, .nils])]) (.seq (.ops [qm 8 0, .i (.call 10 97 false [(.s 8),(qi 8)]), .i (.bin 10 .add (qi 1) (.s 9)),qm 5 10]) (.seq (.seq (.ops [qf 11 3 2,ql 12 3 11 1 false, .i (.bin 13 .gtr (.s 12) (qi 0))]) (.cond (.s 13) (.ops [qm 14 0,qf 15 3 2,ql 16 3 15 1 false, .i (.call 18 97 false [(.s 14),(.s 16)]), .i (.bin 18 .add (qi 1) (.s 17)),qm 5 18]) .skip)) (.seq (.ops [qm 19 0, .i (.call 21 97 false [(.s 19),(qi 200)]),qm 21 5,qm 22 0,qm 23 5, .i (.call 25 97 false [(.s 22),(.s 23)]),qm 25 0, .i (.call 27 138 false [(.s 25),(qi 3)]), .i (.bld 27 [.int .i64 0, .int .i64 0, .int .i64 0, .nils, .nils] [(0,1,(.s 20)),(1,1,(.s 21)),(2,1,(.s 24)),(3,1,(.s 26))]), .i (.lal 6 [.int .i64 0, .int .i64 0, .int .i64 0, .nils, .nils]),qs 6 6 27 5]) (.seq (.seq (.ops [qf 28 3 1,ql 29 3 28 1 false, .i (.bin 30 .lss (.s 29) (qi 3))]) (.cond (.s 30) (.ops [qf 31 6 3, .i (.stl 6 (.s 31) (.c (.val false [.nils])) 1)]) .skip)) (.seq (.seq (.ops [qf 32 6 2,ql 33 6 32 1 false,qm 34 5, .i (.call 36 276 false [(.s 33),(.s 34)]),qm 7 35]) (.block 0 (.loop [46,45,44,43,42,41,40,39,38,37,36] (.seq (.seq (.ops [qm 36 7, .i (.bin 37 .gtr (.s 36) (qi 0))]) (.cond (.s 37) .skip (.exit 0))) (.seq (.block 1 (.ops [qf 40 6 4,ql 41 6 40 1 false,qm 42 0,qk 44 242 42, .i (.lsl 44 1 1 [.nils] [(0,1,(.s 43))]), .i (.app 45 22 1 24 (.s 41) (.s 44)),qf 46 6 4,qs 6 46 45 1])) (.ops [qm 38 7, .i (.bin 39 .sub (.s 38) (qi 1)),qm 7 39])))))) (.seq (.ops [ql 47 6 6 5 true,qs 4 4 47 5]) .ret)))))))⟩
theorem BK:cd r9=some qt:=by kernel_rfl
theorem Iw (b:Bytes) (i:Nat) (h:Int) (l:ah) (hl:l.rd) (hi:i≤b.length) (hb:b.length≤1073741824):VC cd r9 (iO [] 133 (cur b i h) [(true,l.c)]) (fun r p=>∃x:aN×Nat×Int,((x.1.wc∧x.1.tx.length≤3)∧x.2.1≤b.length)∧r= [(true,x.1.o)]∧p= [.pt 133 (cur b x.2.1 x.2.2)]):=by
 refine VC.xQ ?_
 have hl2:=hl.2.2.1
 obtain⟨m,hm⟩:∃m:Nat,l.txs=(m:Int):=⟨l.txs.toNat,by omega⟩
 refine aw BK rfl ?_
 simp(disch:=omega) [qt,cur,ah.c,hm,VZ]
 refine dz (aC b i h 8 (by omega) hi hb) ?_
 rintro⟨k1,i1,h1⟩ ⟨g1,j1⟩
 simp only at g1 j1
 simp(disch:=omega) [cur,VZ]
 refine ab (fun h0=> ?_) (fun h0=> ?_)
 case refine_1=>
  simp(disch:=omega) [VZ]
  refine dz (aC b i1 h1 m (by omega) j1 hb) ?_
  rintro⟨k2,i2,h2⟩ ⟨g2,j2⟩
  simp only at g2 j2
  simp(disch:=omega) [cur,VZ]
  have hk:k2 < 8:=by omega
  refine dz (aC b i2 h2 200 (by omega) j2 hb) ?_
  rintro⟨k3,i3,h3⟩ ⟨g3,j3⟩
  simp only at g3 j3
  simp(disch:=omega) [cur,VZ]
  refine dz (aC b i3 h3 (1+k2) (by omega) j3 hb) ?_
  rintro⟨k4,i4,h4⟩ ⟨g4,j4⟩
  simp only at g4 j4
  simp(disch:=omega) [cur,VZ]
  refine dz (iW b i4 h4 3 (by omega) j4 hb) ?_
  rintro⟨x5,i5,h5⟩ ⟨g5,j5⟩
  simp only at g5 j5
  have hpl:=cv (1+k2) k4
  simp(disch:=omega) [cur,VZ]
  refine ab (fun h6=> ?_) (fun h6=> ?_)
  case refine_1=>
   simp(disch:=omega) [VZ]
   refine ao (dB (1+k2) k4 (by omega) (by omega)) ?_
   simp(disch:=omega) [VZ]
   refine dq (σ:=Nat×Nat×Nat×Int×List Bytes) (f0:=_) (by simp(disch:=omega) [VZ];rfl) (c5.xo (s:=6) (k:=5) (i:=4) rfl rfl) (f1:=_) (es0:=_) (by simp(disch:=omega) [VZ];rfl) (by simp(disch:=omega) [VZ];rfl) (fun p=> [(7, .val false [.int .i64 (p.1:Int)]),(6, .box [.int .i64 (k3:Int), .int .i64 (1+(k2:Int)), .int .i64 (k4:Int), .nils, .ow 5 p.2.1])]) (fun p=> [(4096, .pt 0 133 [.sl (bytes b), .int .i64 (p.2.2.1:Int), .int .i64 p.2.2.2.1]),(5, .sl p.2.1 true true (some (22,1)) (bm p.2.2.2.2))])
    (fun p g=>g=p.1∧p.2.2.1≤b.length∧p.2.2.2.2.length+p.1≤9∧∀t∈p.2.2.2.2,t.length=32) (aZ k4 (1+k2),_,i5,h5,[]) (aZ k4 (1+k2)) (by simp(disch:=omega) [VZ];rfl) (by simp(disch:=omega) [bm,VZ]) ⟨rfl,j5,by simp;omega,by simp⟩ ?_
   rintro⟨n,v,i7,h7,x⟩ nx g ⟨hg,a5,a6,a7⟩ P hP
   simp only at hg a5 a6 a7
   have hlx:(bm x).length=x.length:=aq x
   simp(disch:=omega) [VZ]
   refine ab (fun h8=> ?_) (fun h8=> ?_)
   case refine_1=>
    simp(disch:=omega) [VZ]
    refine dz (cR b i7 h7 a5 hb) ?_
    rintro⟨y,i8,h9⟩ ⟨g8,j8⟩
    simp only at g8 j8
    have e1:IntKind.i64.wrap ((n:Int) - 1)=((n - 1:Nat):Int):=by rw[Hq (by omega) (by omega)];omega
    simp(disch:=omega) [cur,hlx,e1,lN,VZ]
    refine hP (n - 1,_,i8,h9,x++ [y]) (g - 1) _ _ (by omega) ⟨by simp only;omega,j8,by simp;omega,fun z hz=> ?_⟩ (by simp(disch:=omega) [VZ];rfl) (by simp(disch:=omega) [VZ])
    rcases List.mem_append.1 hz with hz|hz
    ·exact a7 z hz
    ·simp only[List.mem_singleton]at hz;subst hz;exact g8
   case refine_2=>
    simp(disch:=omega) [cur,VZ]
    refine⟨[(true,aN.o ⟨k3,1+k2,k4,[],x⟩)],by simp[br,bN,bT,aN.o,ak],⟨k3,1+k2,k4,[],x⟩,i7,⟨⟨?_,by simp;try omega⟩,a5⟩,rfl,rfl⟩
    refine⟨⟨by simp only;omega,by simp only;omega⟩,⟨by simp only;omega,by simp only;omega⟩,⟨by simp only;omega,by simp only;omega⟩,by unfold Sz;simp;try omega,⟨by unfold Sz;simp only;omega,fun z hz=>by have:=a7 z hz;unfold Sz;omega⟩⟩
  case refine_2=>
   simp(disch:=omega) [VZ]
   refine ao (dB (1+k2) k4 (by omega) (by omega)) ?_
   simp(disch:=omega) [VZ]
   refine dq (σ:=Nat×Nat×Nat×Int×List Bytes) (f0:=_) (by simp(disch:=omega) [VZ];rfl) (c5.xo (s:=6) (k:=5) (i:=4) rfl rfl) (f1:=_) (es0:=_) (by simp(disch:=omega) [VZ];rfl) (by simp(disch:=omega) [VZ];rfl) (fun p=> [(7, .val false [.int .i64 (p.1:Int)]),(6, .box [.int .i64 (k3:Int), .int .i64 (1+(k2:Int)), .int .i64 (k4:Int), .ow 229376 29, .ow 5 p.2.1])]) (fun p=> [(4096, .pt 0 133 [.sl (bytes b), .int .i64 (p.2.2.1:Int), .int .i64 p.2.2.2.1]),(5, .sl p.2.1 true true (some (22,1)) (bm p.2.2.2.2))])
    (fun p g=>g=p.1∧p.2.2.1≤b.length∧p.2.2.2.2.length+p.1≤9∧∀t∈p.2.2.2.2,t.length=32) (aZ k4 (1+k2),_,i5,h5,[]) (aZ k4 (1+k2)) (by simp(disch:=omega) [VZ];rfl) (by simp(disch:=omega) [bm,VZ]) ⟨rfl,j5,by simp;omega,by simp⟩ ?_
   rintro⟨n,v,i7,h7,x⟩ nx g ⟨hg,a5,a6,a7⟩ P hP
   simp only at hg a5 a6 a7
   have hlx:(bm x).length=x.length:=aq x
   simp(disch:=omega) [VZ]
   refine ab (fun h8=> ?_) (fun h8=> ?_)
   case refine_1=>
    simp(disch:=omega) [VZ]
    refine dz (cR b i7 h7 a5 hb) ?_
    rintro⟨y,i8,h9⟩ ⟨g8,j8⟩
    simp only at g8 j8
    have e1:IntKind.i64.wrap ((n:Int) - 1)=((n - 1:Nat):Int):=by rw[Hq (by omega) (by omega)];omega
    simp(disch:=omega) [cur,hlx,e1,lN,VZ]
    refine hP (n - 1,_,i8,h9,x++ [y]) (g - 1) _ _ (by omega) ⟨by simp only;omega,j8,by simp;omega,fun z hz=> ?_⟩ (by simp(disch:=omega) [VZ];rfl) (by simp(disch:=omega) [VZ])
    rcases List.mem_append.1 hz with hz|hz
    ·exact a7 z hz
    ·simp only[List.mem_singleton]at hz;subst hz;exact g8
   case refine_2=>
    simp(disch:=omega) [cur,VZ]
    refine⟨[(true,aN.o ⟨k3,1+k2,k4,x5,x⟩)],by simp[br,bN,bT,aN.o,ak],⟨k3,1+k2,k4,x5,x⟩,i7,⟨⟨?_,by simp;try omega⟩,a5⟩,rfl,rfl⟩
    refine⟨⟨by simp only;omega,by simp only;omega⟩,⟨by simp only;omega,by simp only;omega⟩,⟨by simp only;omega,by simp only;omega⟩,by unfold Sz;simp;try omega,⟨by unfold Sz;simp only;omega,fun z hz=>by have:=a7 z hz;unfold Sz;omega⟩⟩
 case refine_2=>
  simp(disch:=omega) [VZ]
  have hk:k1 < 8:=by omega
  refine dz (aC b i1 h1 200 (by omega) j1 hb) ?_
  rintro⟨k3,i3,h3⟩ ⟨g3,j3⟩
  simp only at g3 j3
  simp(disch:=omega) [cur,VZ]
  refine dz (aC b i3 h3 (1+k1) (by omega) j3 hb) ?_
  rintro⟨k4,i4,h4⟩ ⟨g4,j4⟩
  simp only at g4 j4
  simp(disch:=omega) [cur,VZ]
  refine dz (iW b i4 h4 3 (by omega) j4 hb) ?_
  rintro⟨x5,i5,h5⟩ ⟨g5,j5⟩
  simp only at g5 j5
  have hpl:=cv (1+k1) k4
  simp(disch:=omega) [cur,VZ]
  refine ab (fun h6=> ?_) (fun h6=> ?_)
  case refine_1=>
   simp(disch:=omega) [VZ]
   refine ao (dB (1+k1) k4 (by omega) (by omega)) ?_
   simp(disch:=omega) [VZ]
   refine dq (σ:=Nat×Nat×Nat×Int×List Bytes) (f0:=_) (by simp(disch:=omega) [VZ];rfl) (c5.xo (s:=6) (k:=5) (i:=4) rfl rfl) (f1:=_) (es0:=_) (by simp(disch:=omega) [VZ];rfl) (by simp(disch:=omega) [VZ];rfl) (fun p=> [(7, .val false [.int .i64 (p.1:Int)]),(6, .box [.int .i64 (k3:Int), .int .i64 (1+(k1:Int)), .int .i64 (k4:Int), .nils, .ow 5 p.2.1])]) (fun p=> [(4096, .pt 0 133 [.sl (bytes b), .int .i64 (p.2.2.1:Int), .int .i64 p.2.2.2.1]),(5, .sl p.2.1 true true (some (22,1)) (bm p.2.2.2.2))])
    (fun p g=>g=p.1∧p.2.2.1≤b.length∧p.2.2.2.2.length+p.1≤9∧∀t∈p.2.2.2.2,t.length=32) (aZ k4 (1+k1),_,i5,h5,[]) (aZ k4 (1+k1)) (by simp(disch:=omega) [VZ];rfl) (by simp(disch:=omega) [bm,VZ]) ⟨rfl,j5,by simp;omega,by simp⟩ ?_
   rintro⟨n,v,i7,h7,x⟩ nx g ⟨hg,a5,a6,a7⟩ P hP
   simp only at hg a5 a6 a7
   have hlx:(bm x).length=x.length:=aq x
   simp(disch:=omega) [VZ]
   refine ab (fun h8=> ?_) (fun h8=> ?_)
   case refine_1=>
    simp(disch:=omega) [VZ]
    refine dz (cR b i7 h7 a5 hb) ?_
    rintro⟨y,i8,h9⟩ ⟨g8,j8⟩
    simp only at g8 j8
    have e1:IntKind.i64.wrap ((n:Int) - 1)=((n - 1:Nat):Int):=by rw[Hq (by omega) (by omega)];omega
    simp(disch:=omega) [cur,hlx,e1,lN,VZ]
    refine hP (n - 1,_,i8,h9,x++ [y]) (g - 1) _ _ (by omega) ⟨by simp only;omega,j8,by simp;omega,fun z hz=> ?_⟩ (by simp(disch:=omega) [VZ];rfl) (by simp(disch:=omega) [VZ])
    rcases List.mem_append.1 hz with hz|hz
    ·exact a7 z hz
    ·simp only[List.mem_singleton]at hz;subst hz;exact g8
   case refine_2=>
    simp(disch:=omega) [cur,VZ]
    refine⟨[(true,aN.o ⟨k3,1+k1,k4,[],x⟩)],by simp[br,bN,bT,aN.o,ak],⟨k3,1+k1,k4,[],x⟩,i7,⟨⟨?_,by simp;try omega⟩,a5⟩,rfl,rfl⟩
    refine⟨⟨by simp only;omega,by simp only;omega⟩,⟨by simp only;omega,by simp only;omega⟩,⟨by simp only;omega,by simp only;omega⟩,by unfold Sz;simp;try omega,⟨by unfold Sz;simp only;omega,fun z hz=>by have:=a7 z hz;unfold Sz;omega⟩⟩
  case refine_2=>
   simp(disch:=omega) [VZ]
   refine ao (dB (1+k1) k4 (by omega) (by omega)) ?_
   simp(disch:=omega) [VZ]
   refine dq (σ:=Nat×Nat×Nat×Int×List Bytes) (f0:=_) (by simp(disch:=omega) [VZ];rfl) (c5.xo (s:=6) (k:=5) (i:=4) rfl rfl) (f1:=_) (es0:=_) (by simp(disch:=omega) [VZ];rfl) (by simp(disch:=omega) [VZ];rfl) (fun p=> [(7, .val false [.int .i64 (p.1:Int)]),(6, .box [.int .i64 (k3:Int), .int .i64 (1+(k1:Int)), .int .i64 (k4:Int), .ow 229376 24, .ow 5 p.2.1])]) (fun p=> [(4096, .pt 0 133 [.sl (bytes b), .int .i64 (p.2.2.1:Int), .int .i64 p.2.2.2.1]),(5, .sl p.2.1 true true (some (22,1)) (bm p.2.2.2.2))])
    (fun p g=>g=p.1∧p.2.2.1≤b.length∧p.2.2.2.2.length+p.1≤9∧∀t∈p.2.2.2.2,t.length=32) (aZ k4 (1+k1),_,i5,h5,[]) (aZ k4 (1+k1)) (by simp(disch:=omega) [VZ];rfl) (by simp(disch:=omega) [bm,VZ]) ⟨rfl,j5,by simp;omega,by simp⟩ ?_
   rintro⟨n,v,i7,h7,x⟩ nx g ⟨hg,a5,a6,a7⟩ P hP
   simp only at hg a5 a6 a7
   have hlx:(bm x).length=x.length:=aq x
   simp(disch:=omega) [VZ]
   refine ab (fun h8=> ?_) (fun h8=> ?_)
   case refine_1=>
    simp(disch:=omega) [VZ]
    refine dz (cR b i7 h7 a5 hb) ?_
    rintro⟨y,i8,h9⟩ ⟨g8,j8⟩
    simp only at g8 j8
    have e1:IntKind.i64.wrap ((n:Int) - 1)=((n - 1:Nat):Int):=by rw[Hq (by omega) (by omega)];omega
    simp(disch:=omega) [cur,hlx,e1,lN,VZ]
    refine hP (n - 1,_,i8,h9,x++ [y]) (g - 1) _ _ (by omega) ⟨by simp only;omega,j8,by simp;omega,fun z hz=> ?_⟩ (by simp(disch:=omega) [VZ];rfl) (by simp(disch:=omega) [VZ])
    rcases List.mem_append.1 hz with hz|hz
    ·exact a7 z hz
    ·simp only[List.mem_singleton]at hz;subst hz;exact g8
   case refine_2=>
    simp(disch:=omega) [cur,VZ]
    refine⟨[(true,aN.o ⟨k3,1+k1,k4,x5,x⟩)],by simp[br,bN,bT,aN.o,ak],⟨k3,1+k1,k4,x5,x⟩,i7,⟨⟨?_,by simp;try omega⟩,a5⟩,rfl,rfl⟩
    refine⟨⟨by simp only;omega,by simp only;omega⟩,⟨by simp only;omega,by simp only;omega⟩,⟨by simp only;omega,by simp only;omega⟩,by unfold Sz;simp;try omega,⟨by unfold Sz;simp only;omega,fun z hz=>by have:=a7 z hz;unfold Sz;omega⟩⟩
theorem HS:oc.wc:=⟨⟨⟨by decide,by decide⟩,⟨by decide,by decide⟩,by simp[oc,Sz],by simp[oc,Sz],by simp[oc,Sz]⟩,fun x hx=>by simp[oc]at hx⟩
theorem EU:aK.wc:=by
 refine⟨⟨by decide,by decide⟩,⟨⟨by decide,by decide⟩,⟨by decide,by decide⟩,by simp[aK,du,Sz],⟨by decide,by decide⟩,by simp[aK,du,Sz]⟩,HS,Aq,⟨⟨Aq,by simp[aK,bC,mY,Sz]⟩,by simp[aK,bC]⟩,⟨⟨by decide,by decide⟩,by simp[aK,xP,Sz],by simp[aK,xP]⟩,⟨⟨⟨by simp[aK,bR,Sz],by simp[aK,bR]⟩,HS.1⟩,by simp[aK,bR],HS⟩,⟨⟨by decide,by decide⟩,⟨by decide,by decide⟩,⟨by decide,by decide⟩,by simp[aK,dg,Sz],by simp[aK,dg,mY,Sz]⟩,by simp[aK,dg]⟩
abbrev qh:Nat:=134
def qF:AF:=⟨2,6,[.cell 4 45 true],(.seq (.ops [.i (.lbox 3 (.s 1)), .i (.lal 4 [.int .i64 0, .int .i64 0, .int .i64 0, .nils, .int .i64 0, .nils, .int .i64 0, .int .i64 0, .nils, .nils, .nils, .int .i64 0, .int .i64 0, .int .i64 0, .nils, .nils, .int .i64 0, .int .i64 0, .nils, .nils, .nils, .int .i64 0, .int .i64 0, .int .i64 0, .nils, .nils, .int .i64 0, .int .i64 0, .nils, .nils, .nils, .nils, .int .i64 0, .nils, .nils, .int .i64 0, .int .i64 0, .nils, .nils, .nils, .int .i64 0, .int .i64 0, .int .i64 0, .nils, .nils])]) (.seq (.seq (.ops [qm 5 0, .i (.call 7 97 false [(.s 5),(qi 9)])]) (.block 0 (.seq (.ops [.i (.bin 8 .eql (.s 6) (qi 0)),qm 7 8]) (.cond (.s 7) (.seq (.ops [qm 9 0,ql 10 3 3 5 true, .i (.call 12 185 false [(.s 9),(.s 10)]),qk 13 184 11,qs 4 4 12 45]) .ret) (.seq (.ops [.i (.bin 14 .eql (.s 6) (qi 1)),qm 13 14]) (.cond (.s 13) (.seq (.ops [qm 15 0,ql 16 3 3 5 true, .i (.call 18 187 false [(.s 15),(.s 16)]),qk 19 186 17,qs 4 4 18 45]) .ret) (.seq (.ops [.i (.bin 20 .eql (.s 6) (qi 2)),qm 19 20]) (.cond (.s 19) (.seq (.ops [qm 21 0,ql 22 3 3 5 true, .i (.call 24 189 false [(.s 21),(.s 22)]),qk 25 188 23,qs 4 4 24 45]) .ret) (.seq (.ops [.i (.bin 26 .eql (.s 6) (qi 3)),qm 25 26]) (.cond (.s 25) (.seq (.ops [qm 27 0,ql 28 3 3 5 true, .i (.call 30 191 false [(.s 27),(.s 28)]),qk 31 190 29,qs 4 4 30 45]) .ret) (.seq (.ops [.i (.bin 32 .eql (.s 6) (qi 4)),qm 31 32]) (.cond (.s 31) (.seq (.ops [qm 33 0,ql 34 3 3 5 true, .i (.call 36 193 false [(.s 33),(.s 34)]),qk 37 192 35,qs 4 4 36 45]) .ret) (.seq (.ops [.i (.bin 38 .eql (.s 6) (qi 5)),qm 37 38]) (.cond (.s 37) (.seq (.ops [qf 39 3 2,ql 40 3 39 1 false, .i (.bin 41 .gtr (.s 40) (qi 0))]) (.cond (.s 41) (.seq (.ops [qm 42 0,ql 43 3 3 5 true, .i (.call 45 195 false [(.s 42),(.s 43)]),qk 46 194 44,qs 4 4 45 45]) .ret) .skip)) .skip)))))))))))))) (.seq (.ops [qm 46 0,ql 47 3 3 5 true, .i (.call 49 161 false [(.s 46),(.s 47)]),qk 50 160 48,qs 4 4 49 45]) .ret)))⟩
theorem AH:cd qh=some qF:=by kernel_rfl
theorem HL (b:Bytes) (i:Nat) (h:Int) (l:ah) (hl:l.rd) (hi:i≤b.length) (hb:b.length≤1073741824):VC cd qh (iO [] 133 (cur b i h) [(true,l.c)]) (fun r p=>∃x:aS×Nat×Int,(x.1.wc∧x.2.1≤b.length)∧r= [(true,x.1.o)]∧p= [.pt 133 (cur b x.2.1 x.2.2)]):=by
 refine VC.xQ ?_
 refine aw AH rfl ?_
 simp(disch:=omega) [qF,cur,ah.c,VZ]
 refine dz (aC b i h 9 (by omega) hi hb) ?_
 rintro⟨k1,i1,h1⟩ ⟨g1,j1⟩
 simp only at g1 j1
 have hk:k1=0∨k1=1∨k1=2∨k1=3∨k1=4∨k1=5∨k1=6∨k1=7∨k1=8:=by omega
 rcases hk with rfl|rfl|rfl|rfl|rfl|rfl|hk
 ·simp(disch:=omega) [cur,VZ]
  refine dz (u6 b i1 h1 l hl.1 j1 hb) ?_ (n1:=by intro _;simp(disch:=omega) [ah.c,Qc.o,VZ]) (n3:=by intro _;simp(disch:=omega) [ah.c,Qc.o,VZ])
  rintro⟨x2,i2,h2⟩ ⟨g2,j2⟩
  simp only at g2 j2
  simp(disch:=omega) [cur,Qc.o,VZ]
  refine ao (vq x2 (g2.wc)) ?_ (ha:=by first|rfl|(simp[Qc.c,Head.c,Qc.c,VY] <;>repeat' constructor))
  simp(disch:=omega) [cur,rQ,br,bN,bT,VZ]
  exact⟨[(true,aS.o {aK with kind:=2,qc:=x2})],by simp[br,bN,bT,aS.o,aK,du,oc,cu,bC,xP,bR,dg,ak,hH,hD,hC],{aK with kind:=2,qc:=x2},i2,⟨{EU with kind:=⟨by simp only;omega,by simp only;omega⟩,qc:=g2.wc},j2⟩,rfl,rfl⟩
 ·simp(disch:=omega) [cur,VZ]
  refine dz (l0 b i1 h1 l hl.1 j1 hb) ?_ (n1:=by intro _;simp(disch:=omega) [ah.c,Head.o,VZ]) (n3:=by intro _;simp(disch:=omega) [ah.c,Head.o,VZ])
  rintro⟨x2,i2,h2⟩ ⟨g2,j2⟩
  simp only at g2 j2
  simp(disch:=omega) [cur,Head.o,VZ]
  refine ao (qL x2 g2) ?_ (ha:=by first|rfl|(simp[Head.c,Head.c,Qc.c,VY] <;>repeat' constructor))
  simp(disch:=omega) [cur,fc,br,bN,bT,VZ]
  exact⟨[(true,aS.o {aK with kind:=3,head:=x2})],by simp[br,bN,bT,aS.o,aK,du,oc,cu,bC,xP,bR,dg,ak,hH,hD,hC],{aK with kind:=3,head:=x2},i2,⟨{EU with kind:=⟨by simp only;omega,by simp only;omega⟩,head:=g2},j2⟩,rfl,rfl⟩
 ·simp(disch:=omega) [cur,VZ]
  refine dz (Il b i1 h1 l hl j1 hb) ?_ (n1:=by intro _;simp(disch:=omega) [ah.c,Block.o,VZ]) (n3:=by intro _;simp(disch:=omega) [ah.c,Block.o,VZ])
  rintro⟨x2,i2,h2⟩ ⟨g2,j2⟩
  simp only at g2 j2
  simp(disch:=omega) [cur,Block.o,VZ]
  refine ao (nB x2 g2.1) ?_ (ha:=by first|rfl|(simp[Block.c,Head.c,Qc.c,VY] <;>repeat' constructor))
  simp(disch:=omega) [cur,dO,br,bN,bT,VZ]
  exact⟨[(true,aS.o {aK with kind:=4,block:=x2})],by simp[br,bN,bT,aS.o,aK,du,oc,cu,bC,xP,bR,dg,ak,hH,hD,hC],{aK with kind:=4,block:=x2},i2,⟨{EU with kind:=⟨by simp only;omega,by simp only;omega⟩,block:=g2},j2⟩,rfl,rfl⟩
 ·simp(disch:=omega) [cur,VZ]
  refine dz (H0 b i1 h1 l hl.1 j1 hb) ?_ (n1:=by intro _;simp(disch:=omega) [ah.c,Tc.o,VZ]) (n3:=by intro _;simp(disch:=omega) [ah.c,Tc.o,VZ])
  rintro⟨x2,i2,h2⟩ ⟨g2,j2⟩
  simp only at g2 j2
  simp(disch:=omega) [cur,Tc.o,VZ]
  refine ao (wj x2 g2) ?_ (ha:=by first|rfl|(simp[Tc.c,Head.c,Qc.c,VY] <;>repeat' constructor))
  simp(disch:=omega) [cur,oP,br,bN,bT,VZ]
  exact⟨[(true,aS.o {aK with kind:=5,tc:=x2})],by simp[br,bN,bT,aS.o,aK,du,oc,cu,bC,xP,bR,dg,ak,hH,hD,hC],{aK with kind:=5,tc:=x2},i2,⟨{EU with kind:=⟨by simp only;omega,by simp only;omega⟩,tc:=g2},j2⟩,rfl,rfl⟩
 ·simp(disch:=omega) [cur,VZ]
  refine dz (H9 b i1 h1 l hl j1 hb) ?_ (n1:=by intro _;simp(disch:=omega) [ah.c,Proof.o,VZ]) (n3:=by intro _;simp(disch:=omega) [ah.c,Proof.o,VZ])
  rintro⟨x2,i2,h2⟩ ⟨g2,j2⟩
  simp only at g2 j2
  simp(disch:=omega) [cur,Proof.o,VZ]
  refine ao (mO x2 g2) ?_ (ha:=by first|rfl|(simp[Proof.c,Head.c,Qc.c,VY] <;>repeat' constructor))
  simp(disch:=omega) [cur,d4,br,bN,bT,VZ]
  exact⟨[(true,aS.o {aK with kind:=6,proof:=x2})],by simp[br,bN,bT,aS.o,aK,du,oc,cu,bC,xP,bR,dg,ak,hH,hD,hC],{aK with kind:=6,proof:=x2},i2,⟨{EU with kind:=⟨by simp only;omega,by simp only;omega⟩,proof:=g2},j2⟩,rfl,rfl⟩
 ·simp(disch:=omega) [cur,VZ]
  refine ab (fun h5=> ?_) (fun h5=> ?_)
  case refine_2=>
   simp(disch:=omega) [VZ]
   refine dz (uO b i1 h1 l hl.1 j1 hb) ?_ (n1:=by intro _;simp(disch:=omega) [ah.c,aW.o,VZ]) (n3:=by intro _;simp(disch:=omega) [ah.c,aW.o,VZ])
   rintro⟨x2,i2,h2⟩ ⟨⟨g2,g3,g4,g5,g6⟩,j2⟩
   simp only at g2 g3 g4 g5 g6 j2
   have hw:x2.wf:=⟨hQ g2,hQ g3,by unfold Sz;omega,by have:=cY g5;have:=hl.1;exact⟨by omega,by omega⟩,by unfold Sz;omega⟩
   simp(disch:=omega) [cur,aW.o,VZ]
   refine ao (fb x2 hw) ?_ (ha:=by first|rfl|(simp[aW.c,VY] <;>repeat' constructor))
   simp(disch:=omega) [cur,ec,br,bN,bT,VZ]
   exact⟨[(true,aS.o {aK with kind:=1,vote:=x2})],by simp[br,bN,bT,aS.o,aK,du,oc,cu,bC,xP,bR,dg,ak,hH,hD,hC],{aK with kind:=1,vote:=x2},i2,⟨{EU with kind:=⟨by simp only;omega,by simp only;omega⟩,vote:=hw},j2⟩,rfl,rfl⟩
  simp(disch:=omega) [VZ]
  refine dz (Iw b i1 h1 l hl j1 hb) ?_ (n1:=by intro _;simp(disch:=omega) [ah.c,aN.o,VZ]) (n3:=by intro _;simp(disch:=omega) [ah.c,aN.o,VZ])
  rintro⟨x2,i2,h2⟩ ⟨g2,j2⟩
  simp only at g2 j2
  simp(disch:=omega) [cur,aN.o,VZ]
  refine ao (o7 x2 g2.1) ?_ (ha:=by first|rfl|(simp[aN.c,Head.c,Qc.c,VY] <;>repeat' constructor))
  simp(disch:=omega) [cur,eX,br,bN,bT,VZ]
  exact⟨[(true,aS.o {aK with kind:=7,incl:=x2})],by simp[br,bN,bT,aS.o,aK,du,oc,cu,bC,xP,bR,dg,ak,hH,hD,hC],{aK with kind:=7,incl:=x2},i2,⟨{EU with kind:=⟨by simp only;omega,by simp only;omega⟩,incl:=g2.1,tx:=by have:=g2.2;simp only;omega},j2⟩,rfl,rfl⟩
 ·have n0:¬k1=0∧¬k1=1∧¬k1=2∧¬k1=3∧¬k1=4∧¬k1=5:=by omega
  have n1:¬(k1:Int)=0∧¬(k1:Int)=1∧¬(k1:Int)=2∧¬(k1:Int)=3∧¬(k1:Int)=4∧¬(k1:Int)=5:=by omega
  simp(disch:=omega) [cur,n0.1,n0.2.1,n0.2.2.1,n0.2.2.2.1,n0.2.2.2.2.1,n0.2.2.2.2.2,n1.1,n1.2.1,n1.2.2.1,n1.2.2.2.1,n1.2.2.2.2.1,n1.2.2.2.2.2,VZ]
  refine dz (uO b i1 h1 l hl.1 j1 hb) ?_ (n1:=by intro _;simp(disch:=omega) [ah.c,aW.o,VZ]) (n3:=by intro _;simp(disch:=omega) [ah.c,aW.o,VZ])
  rintro⟨x2,i2,h2⟩ ⟨⟨g2,g3,g4,g5,g6⟩,j2⟩
  simp only at g2 g3 g4 g5 g6 j2
  have hw:x2.wf:=⟨hQ g2,hQ g3,by unfold Sz;omega,by have:=cY g5;have:=hl.1;exact⟨by omega,by omega⟩,by unfold Sz;omega⟩
  simp(disch:=omega) [cur,aW.o,VZ]
  refine ao (fb x2 hw) ?_ (ha:=by first|rfl|(simp[aW.c,VY] <;>repeat' constructor))
  simp(disch:=omega) [cur,ec,br,bN,bT,VZ]
  exact⟨[(true,aS.o {aK with kind:=1,vote:=x2})],by simp[br,bN,bT,aS.o,aK,du,oc,cu,bC,xP,bR,dg,ak,hH,hD,hC],{aK with kind:=1,vote:=x2},i2,⟨{EU with kind:=⟨by simp only;omega,by simp only;omega⟩,vote:=hw},j2⟩,rfl,rfl⟩
end Go.Eng.F
namespace Go.Eng.F
end Go.Eng.F
namespace Go.Eng.F
theorem jN {n:Int} (h:isNum n=true):((n.toNat:Nat):Int)=n∧n.toNat≤1152921504606846975:=by
 have:=cY h
 omega
theorem At.le {b:Bytes} {a:Nat} {s:Bytes} (h:At b a s) (h0:0 < s.length):a+s.length≤b.length:=by
 rcases h.len with h1|h1
 ·exact h1
 ·rw[h1]at h0;simp at h0
def Cut (b:Bytes) (a:Nat) (s:Bytes):Prop:=a≤b.length∧∃k,k < s.length∧b.drop a=s.take k
theorem Cut.app {b:Bytes} {a:Nat} {s t:Bytes} (h:Cut b a (s++t)):Cut b a s∨(At b a s∧Cut b (a+s.length) t):=by
 obtain⟨h0,k,hk,h⟩:=h
 by_cases hs:k < s.length
 ·exact .inl ⟨h0,k,hs,by rw[h,List.take_append_of_le_length (by omega)]⟩
 ·have e:b.drop a=s++t.take (k - s.length):=by rw[h,List.take_append,List.take_of_length_le (by omega)]
  have hl:=congrArg List.length e
  simp only[List.length_drop,List.length_append,List.length_take]at hl hk
  refine .inr ⟨⟨_,e⟩,by omega,k - s.length,by omega,?_⟩
  rw[←List.drop_drop,e,List.drop_left]
theorem Cut.nil {b:Bytes} {a:Nat} (h:Cut b a []):False:=by
 obtain⟨_,k,hk,_⟩:=h
 simp at hk
theorem so {r:Rd} {c:Nat}:b5 r false c=r:=by simp[b5]
theorem f6 {b:Bytes} {a n:Nat} {N:Int} {c:Nat} (h:At b a (aH n)) (hn:n≤1152921504606846975) (hN:(n:Int) < N):bP b ⟨a,0⟩ N c=(n,⟨a+(aH n).length,0⟩):=by
 have e:decide (N≤(n:Int))=false:=by simp;omega
 simp only[bP,eE h hn,e,so]
theorem lY {b:Bytes} {a:Nat} {s:Bytes} (h:At b a s) (hn:s.length=32):cf b ⟨a,0⟩ 32=(s,⟨a+s.length,0⟩):=by
 rw[LS h hn (by omega),hn]
theorem Hi {b:Bytes} {a m:Nat} {x:Bytes} (h:At b a (fI x)) (hx:x.length≤m) (hm:m≤1152921504606846975):dV b ⟨a,0⟩ m=(x,⟨a+(fI x).length,0⟩):=by
 have hp:=KX x.length
 have hl:=h.le (by simp only[fI,List.length_append];omega)
 unfold fI at h hl⊢
 have e:=eE h.app.1 (by omega)
 simp only[cZ,if_true]at e
 have h2:=h.app.2.take
 rw[List.length_append]at hl⊢
 simp only[dV,if_true,f9,e,ne_eq,not_true_eq_false,if_false,if_neg (show ¬m < x.length by omega),fe,if_pos (show a+(aH x.length).length+x.length≤b.length by omega),h2]
 simp only[Nat.add_assoc]
theorem Mq {x:Bytes} {n:Int} (h:dm x n=true):(tg n).toNat=x.length∧0 < x.length:=by
 simp only[dm,Bool.and_eq_true,decide_eq_true_eq]at h
 have h1:=cY h.1.1
 have h2:=h.1.2
 have h3:1≤tg n:=by unfold tg;split <;>omega
 omega
theorem Ij {b:Bytes} {a:Nat} {x:Bytes} {n:Int} (h:At b a x) (hx:dm x n=true):dM b a n=(x,⟨a+x.length,0⟩):=by
 obtain⟨e,h0⟩:=Mq hx
 have hl:=h.le h0
 have h2:=h.take
 simp only[dM,e,fe,if_pos hl,h2,ne_eq,not_true_eq_false,if_false,hx,if_true]
theorem vH {α:Type} {b:Bytes} {f:Rd→α×Rd} {e:α→Bytes}:∀(xs:List α) (a:Nat),(∀x∈xs,∀a,At b a (e x)→f ⟨a,0⟩=(x,⟨a+(e x).length,0⟩))→At b a (xs.map e).flatten→dt f xs.length ⟨a,0⟩=(xs,⟨a+(xs.map e).flatten.length,0⟩)
 | [],a,_,_=>rfl
 |x::xs,a,hf,h=>by
  rw[List.map_cons,List.flatten_cons]at h⊢
  have h1:=hf x (by simp) a h.app.1
  have h2:=vH xs _ (fun y hy=>hf y (by simp[hy])) h.app.2
  rw[List.length_cons,lR rfl,h1]
  simp only[h2,List.length_append,Nat.add_assoc]
theorem Iz {b:Bytes} {xs:List Bytes} {a k:Nat} (h:At b a xs.flatten) (hx:∀x∈xs,x.length=32) (hk:xs.length=k):gd (fun r=>cf b r 32) k ⟨a,0⟩=(xs,⟨a+xs.flatten.length,0⟩):=by
 subst hk
 have h2:=vH (b:=b) (f:=fun r=>cf b r 32) (e:=fun x=>x) xs a (fun x hm a h=>lY h (hx x hm)) (by simpa using h)
 have h3:=DW (b:=b) xs.length ⟨a,0⟩
 rw[h2]at h3
 exact Prod.ext (h3.2 rfl) (by rw[h3.1];simp)
theorem La {b:Bytes} {l:ah} {v:aW} {a:Nat} (hv:jL l v=true) (h:At b a (xL v)):kV b l ⟨a,0⟩=(v,⟨a+(xL v).length,0⟩):=by
 have hs:=zX hv
 have h4:v.who < l.n:=by simp only[jL,Bool.and_eq_true]at hv;have:=cY hv.2;omega
 obtain⟨c1,n1⟩:=jN hs.view
 obtain⟨c2,n2⟩:=jN hs.height
 obtain⟨c3,n3⟩:=jN hs.who
 unfold xL at h⊢
 obtain⟨p1,h⟩:=h.app
 obtain⟨p2,h⟩:=h.app
 obtain⟨p3,h⟩:=h.app
 obtain⟨p4,p5⟩:=h.app
 simp only[kV,eE p1 n1,eE p2 n2,lY p3 hs.block,f6 (N:=l.n) (c:=5) p4 n3 (by omega),lY p5 hs.tag,c1,c2,c3]
 simp only[List.length_append,Nat.add_assoc]
theorem Ox {l:ah} {q:Qc} (h:eg l q=true):dm q.bits l.n=true∧q.tags.length=(aQ q.bits).length:=by
 simp only[eg,Bool.and_eq_true,decide_eq_true_eq]at h
 exact⟨h.1.1.2,h.1.2⟩
theorem Iu {b:Bytes} {l:ah} {q:Qc} {a:Nat} (hq:eg l q=true) (h:At b a (vy q)):yd b l ⟨a,0⟩=(q,⟨a+(vy q).length,0⟩):=by
 have hs:=lE hq
 obtain⟨hb,ht⟩:=Ox hq
 obtain⟨c1,n1⟩:=jN hs.view
 obtain⟨c2,n2⟩:=jN hs.height
 simp only[vy,List.append_assoc]at h⊢
 obtain⟨p1,h⟩:=h.app
 obtain⟨p2,h⟩:=h.app
 obtain⟨p3,h⟩:=h.app
 obtain⟨p4,p5⟩:=h.app
 simp only[yd,eE p1 n1,eE p2 n2,lY p3 hs.block,if_true,Ij p4 hb,Iz p5 hs.tag ht,c1,c2]
 simp only[List.length_append,Nat.add_assoc]
theorem JP {l:ah} {h:Head} (w:bg l h=true):isNum h.view=true∧isNum h.height=true∧isNum h.proposer=true∧1≤h.height∧h.proposer < l.n∧h.parent.length=32∧h.root.length=32∧eg l h.qc=true∧fits h=true:=by
 simp only[bg,Bool.and_eq_true]at w
 have h1:=cY w.1.1.1.1.2
 have h2:=cY w.1.1.1.2
 have h3:l.ok=true:=by have:=w.1.1.1.1.1.1;simp only[eg,Bool.and_eq_true]at this;exact this.1.1.1.1.1.1
 have h4:=jv h3
 refine⟨w.1.1.1.1.1.2,by simp only[isNum,dv,decide_eq_true_eq];omega,by simp only[isNum,dv,decide_eq_true_eq];omega,h1.1,by omega,gl w.1.1.2,gl w.1.2,w.1.1.1.1.1.1,w.2⟩
theorem A7 {b:Bytes} {l:ah} {x:Head} {a:Nat} (hx:bg l x=true) (h:At b a (bE x)):dG b l ⟨a,0⟩=(x,⟨a+(bE x).length,0⟩):=by
 obtain⟨w1,w2,w3,w4,w5,w6,w7,w8,w9⟩:=JP hx
 obtain⟨c1,n1⟩:=jN w1
 obtain⟨c2,n2⟩:=jN w2
 obtain⟨c3,n3⟩:=jN w3
 have d0:decide (x.height.toNat=0)=false:=by simp;omega
 simp only[bE,List.append_assoc]at h⊢
 obtain⟨p1,h⟩:=h.app
 obtain⟨p2,h⟩:=h.app
 obtain⟨p3,h⟩:=h.app
 obtain⟨p4,h⟩:=h.app
 obtain⟨p5,p6⟩:=h.app
 have w9':fits ⟨x.view,x.height,x.proposer,x.parent,x.root,x.qc⟩=true:=w9
 simp only[dG,eE p1 n1,eE p2 n2,d0,so,f6 p3 n3 (show((x.proposer.toNat:Nat):Int) < l.n by omega),lY p4 w6,lY p5 w7,Iu w8 p6,c1,c2,c3,w9',Bool.not_true]
 simp only[List.length_append,Nat.add_assoc]
theorem HM {l:ah} {x:Block} (h:ba l x=true):bg l x.head=true∧l.ok=true∧(x.txs.length:Int)≤l.txs∧(∀t∈x.txs,t.length≤l.tx.toNat)∧x.head.root=aR x.txs:=by
 simp only[ba,Bool.and_eq_true,decide_eq_true_eq]at h
 have h3:l.ok=true:=by have:=h.1.1.1;simp only[bg,eg,Bool.and_eq_true]at this;exact this.1.1.1.1.1.1.1.1.1.1.1.1
 refine⟨h.1.1.1,h3,h.1.1.2,fun t ht=> ?_,h.2⟩
 have h2:=h.1.2
 simp only[Ch,List.all_eq_true,decide_eq_true_eq]at h2
 have:=h2 t ht
 omega
theorem JA {b:Bytes} {l:ah} {x:Block} {a:Nat} (hx:ba l x=true) (h:At b a (cC x)):eN b l ⟨a,0⟩=(x,⟨a+(cC x).length,0⟩):=by
 obtain⟨w1,w2,w3,w4,w5⟩:=HM hx
 have hl:=iA w2
 unfold cC at h⊢
 obtain⟨p1,h⟩:=h.app
 obtain⟨p2,p3⟩:=h.app
 have e3:=vH (f:=fun r=>dV b r l.tx.toNat) (e:=fI) x.txs _ (fun t ht a h=>Hi h (w4 t ht) (by have:=hl.2.1;omega)) p3
 have d0:decide (x.head.root≠aR x.txs)=false:=by simp[w5]
 simp only[eN,A7 w1 p1,f6 p2 (show x.txs.length≤1152921504606846975 by have:=hl.2.2.1;omega) (show(x.txs.length:Int) < l.txs+1 by omega),e3,d0,so]
 simp only[List.length_append,Nat.add_assoc]
def FK (l:ah) (view:Int):Int→List Entry→Prop
 |_,[]=>True
 |bf,e::es=>((0≤e.who∧e.who < l.n∧bf < e.who)∧(0≤e.high∧e.high < view)∧e.tag.length=32)∧FK l view e.who es
theorem DE {l:ah} {t:Tc} (h:∀i < t.entries.length,bQ l t i=true):∀(es pre:List Entry) (bf:Int),t.entries=pre++es→(pre= []∧bf= -1∨∃d,pre.getLast? =some d∧d.who=bf)→FK l t.view bf es
 | [],_,_,_,_=>trivial
 |e::es,pre,bf,he,hp=>by
  have hi:t.entries[pre.length]? =some e:=by rw[he];simp
  have h1:=h pre.length (by rw[he];simp)
  simp only[bQ,hi,Bool.and_eq_true,Bool.or_eq_true,decide_eq_true_eq]at h1
  obtain⟨⟨⟨a1,a2⟩,a3⟩,a4⟩:=h1
  have b1:=cY a1
  have b2:=cY a2
  refine⟨⟨⟨by omega,by omega,?_⟩,⟨by omega,by omega⟩,gl a3⟩,DE h es (pre++ [e]) e.who (by rw[he];simp) (.inr ⟨e,by simp,rfl⟩)⟩
  rcases hp with⟨rfl,rfl⟩|⟨d,hd,rfl⟩
  ·omega
  ·have hn:pre≠ []:=by rintro rfl;simp at hd
   have hpl:0 < pre.length:=List.length_pos_iff.2 hn
   have h2:t.entries[pre.length - 1]? =some d:=by
    rw[he,List.getElem?_append_left (by omega),←List.getLast?_eq_getElem?]
    exact hd
   rw[h2]at a4
   rcases a4 with a4|a4
   ·omega
   ·simpa using a4
theorem Mx {l:ah} {t:Tc} (h:f3 l t=true):l.ok=true∧isNum t.view=true∧(t.entries.length:Int)≤l.n∧FK l t.view (-1) t.entries:=by
 simp only[f3,Bool.and_eq_true,decide_eq_true_eq,List.all_eq_true,List.mem_range]at h
 exact⟨h.1.1.1,h.1.1.2,h.1.2,DE h.2 t.entries [] (-1) rfl (.inl ⟨rfl,rfl⟩)⟩
theorem Om {b:Bytes} {l:ah} {view bf:Int} {e:Entry} {a:Nat} (h1:0≤e.who∧e.who < l.n∧bf < e.who) (h2:0≤e.high∧e.high < view) (hl:l.n≤10) (hv:view≤1152921504606846975):((e.who.toNat:Nat):Int)=e.who∧e.who.toNat≤1152921504606846975∧((e.high.toNat:Nat):Int)=e.high∧e.high.toNat≤1152921504606846975∧decide (e.who≤bf)=false:=by
 refine⟨by omega,by omega,by omega,by omega,by simp;omega⟩
theorem GS {b:Bytes} {l:ah} {view:Int} (hl:l.n≤10) (hv:view≤1152921504606846975):∀(es:List Entry) (bf:Int) (a:Nat),FK l view bf es→At b a (es.map Dk).flatten→jl b l view es.length bf ⟨a,0⟩=(es,⟨a+(es.map Dk).flatten.length,0⟩)
 | [],bf,a,_,_=>rfl
 |e::es,bf,a,⟨⟨h1,h2,h3⟩,hr⟩,h=>by
  obtain⟨c1,n1,c2,n2,d0⟩:=Om (b:=b) (a:=a) h1 h2 hl hv
  rw[List.map_cons,List.flatten_cons]at h⊢
  obtain⟨hh,hn⟩:=h.app
  unfold Dk at hh
  obtain⟨p1,hh⟩:=hh.app
  obtain⟨p2,p3⟩:=hh.app
  have h4:=GS hl hv es e.who _ hr hn
  simp only[Dk,List.length_append,←Nat.add_assoc]at h4⊢
  rw[List.length_cons,Bk rfl]
  simp only[f6 (N:=l.n) (c:=5) p1 n1 (by omega),d0,so,f6 (N:=view) (c:=6) p2 n2 (by omega),lY p3 h3,c1,c2,h4]
theorem O2 {b:Bytes} {l:ah} {t:Tc} {a:Nat} (hx:f3 l t=true) (h:At b a (zt t)):H3 b l ⟨a,0⟩=(t,⟨a+(zt t).length,0⟩):=by
 obtain⟨w1,w2,w3,w4⟩:=Mx hx
 have hl:=iA w1
 obtain⟨c1,n1⟩:=jN w2
 unfold zt at h⊢
 obtain⟨p1,h⟩:=h.app
 obtain⟨p2,p3⟩:=h.app
 have e3:=GS (l:=l) (view:=t.view) hl.1.2 (by omega) t.entries (-1) _ w4 p3
 simp only[H3,eE p1 n1,f6 p2 (show t.entries.length≤1152921504606846975 by have:=hl.1;omega) (show(t.entries.length:Int) < l.n+1 by omega),c1,e3]
 simp only[List.length_append,Nat.add_assoc]
theorem Ih {l:ah} {p:Proof} (h:b9 l p=true):l.ok=true∧(3≤p.heads.length∧(p.heads.length:Int)≤l.heads)∧(∀h∈p.heads,bg l h=true)∧eg l p.qc=true∧lZ p=true:=by
 simp only[b9,Bool.and_eq_true,iR,List.all_eq_true]at h
 have h3:l.ok=true:=by have:=h.1.2;simp only[eg,Bool.and_eq_true]at this;exact this.1.1.1.1.1.1
 have:=cY h.1.1.1
 exact⟨h3,by omega,h.1.1.2,h.1.2,h.2⟩
theorem JK {b:Bytes} {l:ah} {p:Proof} {a:Nat} (hx:b9 l p=true) (h:At b a (cw p)):ej b l ⟨a,0⟩=(p,⟨a+(cw p).length,0⟩):=by
 obtain⟨w1,w2,w3,w4,w5⟩:=Ih hx
 have hl:=iA w1
 unfold cw at h⊢
 obtain⟨p1,h⟩:=h.app
 obtain⟨p2,p3⟩:=h.app
 have e2:=vH (f:=dG b l) (e:=bE) p.heads _ (fun t ht a h=>A7 (w3 t ht) h) p2
 have d1:decide (p.heads.length < 3)=false:=by simp;omega
 have d2:decide (l.heads < (p.heads.length:Int))=false:=by simp;omega
 have d3:lZ ⟨p.heads,p.qc⟩=true:=w5
 simp only[ej,eE p1 (show p.heads.length≤1152921504606846975 by have:=hl.2.2.2;omega),d1,d2,so,e2,Iu w4 p3,d3,Bool.not_true]
 simp only[List.length_append,Nat.add_assoc]
theorem JG {l:ah} {x:aN} (h:dJ l x=true):l.ok=true∧isNum x.height=true∧(1≤x.n∧x.n≤l.txs)∧(0≤x.idx∧x.idx < x.n)∧(x.tx.length:Int)≤l.tx∧x.path.length=aZ x.idx.toNat x.n.toNat∧∀t∈x.path,t.length=32:=by
 simp only[dJ,Bool.and_eq_true,decide_eq_true_eq,hashes,List.all_eq_true]at h
 have h1:=cY h.1.1.1.1.2
 have h2:=cY h.1.1.1.2
 exact⟨h.1.1.1.1.1.1,h.1.1.1.1.1.2,by omega,by omega,h.1.1.2,h.1.2,fun t ht=>gl (h.2 t ht)⟩
theorem Li {b:Bytes} {l:ah} {x:aN} {a:Nat} (hx:dJ l x=true) (h:At b a (dH x)):jr b l ⟨a,0⟩=(x,⟨a+(dH x).length,0⟩):=by
 obtain⟨w1,w2,w3,w4,w5,w6,w7⟩:=JG hx
 have hl:=iA w1
 have hl1:=hl.2.1
 have hl2:=hl.2.2.1
 obtain⟨c1,n1⟩:=jN w2
 have c2:((x.n.toNat:Nat):Int)=x.n:=by omega
 have c3:((x.idx.toNat:Nat):Int)=x.idx:=by omega
 unfold dH at h⊢
 obtain⟨p1,h⟩:=h.app
 obtain⟨p2,h⟩:=h.app
 obtain⟨p3,h⟩:=h.app
 obtain⟨p4,p5⟩:=h.app
 have d1:decide (x.n.toNat=0)=false:=by simp;omega
 have d2:decide (l.txs < x.n)=false:=by simp;omega
 have e:jB b l ⟨a,0⟩=((x.height.toNat,x.n.toNat,x.idx.toNat,x.tx),⟨a+(aH x.height.toNat).length+(aH x.n.toNat).length+(aH x.idx.toNat).length+(fI x.tx).length,0⟩):=by
  simp only[jB,eE p1 n1,eE p2 (show x.n.toNat≤1152921504606846975 by omega),c2,d1,d2,so,f6 (N:=x.n) (c:=5) p3 (show x.idx.toNat≤1152921504606846975 by omega) (by omega),Hi p4 (show x.tx.length≤l.tx.toNat by omega) (by omega)]
 simp only[jr,e,if_true,Iz p5 w7 w6,c1,c2,c3]
 simp only[List.length_append,Nat.add_assoc]
end Go.Eng.F
namespace Go.Eng.F
theorem At.join {b:Bytes} {a:Nat} {s t:Bytes} (h1:At b a s) (h2:At b (a+s.length) t):At b a (s++t):=by
 obtain⟨u,h1⟩:=h1
 obtain⟨w,h2⟩:=h2
 refine⟨w,?_⟩
 rw[←List.drop_drop,h1,List.drop_left]at h2
 rw[h1,h2,List.append_assoc]
def JJ (b:Bytes) (r:Rd) (s:Bytes) (r':Rd):Prop:=r.er=0∧At b r.at_ s∧r'=⟨r.at_+s.length,0⟩
theorem JJ.nil {b:Bytes} {r:Rd} (h:r.er=0):JJ b r [] r:=⟨h,⟨b.drop r.at_,rfl⟩,by obtain⟨x,y⟩:=r;simp only at h;subst h;rfl⟩
theorem JJ.join {b:Bytes} {r r1 r2:Rd} {s t:Bytes} (h1:JJ b r s r1) (h2:JJ b r1 t r2):JJ b r (s++t) r2:=by
 obtain⟨a1,a2,rfl⟩:=h1
 obtain⟨_,b2,rfl⟩:=h2
 exact⟨a1,a2.join b2,by simp only[List.length_append,Nat.add_assoc]⟩
theorem JJ.er {b:Bytes} {r r1:Rd} {s:Bytes} (h:JJ b r s r1):r1.er=0:=by rw[h.2.2]
theorem Ja {x:Bytes} (h:x.length=32):hash x=true:=by simp[hash,h]
theorem JJ.len {b:Bytes} {r r':Rd} {s t:Bytes} {n m:Nat} (h:JJ b r (s++(aH n++t)) r') (e:m=n):JJ b r (s++(aH m++t)) r':=by
 rw[e]
 exact h
end Go.Eng.F
namespace Go.Eng.F
theorem vg {a b:aW}:iH a b=true↔a=b:=by
 obtain⟨_,_,_,_,_⟩:=a
 obtain⟨_,_,_,_,_⟩:=b
 simp[iH,and_assoc]
theorem lH {a b:Qc}:l3 a b=true↔a=b:=by
 obtain⟨_,_,_,_,_⟩:=a
 obtain⟨_,_,_,_,_⟩:=b
 simp[l3,and_assoc]
theorem g9 {a b:Head}:dR a b=true↔a=b:=by
 obtain⟨_,_,_,_,_,_⟩:=a
 obtain⟨_,_,_,_,_,_⟩:=b
 simp[dR,and_assoc,lH]
theorem tZ {a b:Block}:fY a b=true↔a=b:=by
 obtain⟨_,_⟩:=a
 obtain⟨_,_⟩:=b
 simp[fY,g9]
theorem wg {a b:aN}:ix a b=true↔a=b:=by
 obtain⟨_,_,_,_,_⟩:=a
 obtain⟨_,_,_,_,_⟩:=b
 simp[ix,and_assoc]
theorem G3 {a b:Entry}:cL a b=true↔a=b:=by
 obtain⟨_,_,_⟩:=a
 obtain⟨_,_,_⟩:=b
 simp[cL,and_assoc]
theorem yk {α:Type} {f:α→α→Bool} (hf:∀x y,f x y=true↔x=y) {a b:List α}:cW f a b=true↔a=b:=by
 simp only[cW,Bool.and_eq_true,decide_eq_true_eq,List.all_eq_true,List.mem_range]
 constructor
 ·rintro⟨h1,h2⟩
  refine List.ext_getElem h1 fun i hi hj=> ?_
  have:=h2 i hj
  rw[List.getElem?_eq_getElem hi,List.getElem?_eq_getElem hj]at this
  exact(hf _ _).1 this
 ·rintro rfl
  refine⟨rfl,fun i hi=> ?_⟩
  rw[List.getElem?_eq_getElem hi]
  exact(hf _ _).2 rfl
theorem tW {a b:Proof}:d7 a b=true↔a=b:=by
 obtain⟨_,_⟩:=a
 obtain⟨_,_⟩:=b
 simp[d7,d8,lH,yk (fun x y=> @g9 x y)]
theorem Ce {a b:Tc}:eK a b=true↔a=b:=by
 obtain⟨_,_⟩:=a
 obtain⟨_,_⟩:=b
 simp[eK,yk (fun x y=> @G3 x y)]
theorem F4 {a b:aS}:l4 a b=true↔a=b:=by
 obtain⟨_,_,_,_,_,_,_,_⟩:=a
 obtain⟨_,_,_,_,_,_,_,_⟩:=b
 simp[l4,and_assoc,vg,lH,g9,tZ,Ce,tW,wg]
theorem JJ.rest {c:UInt8} {t s:Bytes} {r':Rd} (h:JJ (c::t) ⟨1,0⟩ s r') (ha:r'.at_=(c::t).length):t=s:=by
 obtain⟨_,⟨u,hu⟩,h2⟩:=h
 rw[h2]at ha
 simp only[List.length_cons]at ha
 simp only[List.drop_succ_cons,List.drop_zero]at hu
 have hl:=congrArg List.length hu
 rw[List.length_append]at hl
 have:u= []:=List.eq_nil_of_length_eq_zero (by omega)
 rw[this,List.append_nil]at hu
 exact hu
theorem ig {k:Nat} (hk:k < 256) {m:aS} (h:m.kind=(k:Int)):(gj m).toNat=k:=by
 rw[gj,h]
 exact Ik hk
theorem Ki {l:ah} {m:aS} (h:m.kind=1):ay l m=jL l m.vote∧bb m=xL m.vote∧bn m= {aK with kind:=1,vote:=m.vote}∧(gj m).toNat=1:=by
 refine⟨by simp[ay,h],by simp[bb,h],by simp[bn,h],ig (k:=1) (by omega) h⟩
theorem Pb {l:ah} {m:aS} (h:m.kind=2):ay l m=eg l m.qc∧bb m=vy m.qc∧bn m= {aK with kind:=2,qc:=m.qc}∧(gj m).toNat=2:=by
 refine⟨by simp[ay,h],by simp[bb,h],by simp[bn,h],ig (k:=2) (by omega) h⟩
theorem Oc {l:ah} {m:aS} (h:m.kind=3):ay l m=bg l m.head∧bb m=bE m.head∧bn m= {aK with kind:=3,head:=m.head}∧(gj m).toNat=3:=by
 refine⟨by simp[ay,h],by simp[bb,h],by simp[bn,h],ig (k:=3) (by omega) h⟩
theorem O4 {l:ah} {m:aS} (h:m.kind=4):ay l m=ba l m.block∧bb m=cC m.block∧bn m= {aK with kind:=4,block:=m.block}∧(gj m).toNat=4:=by
 refine⟨by simp[ay,h],by simp[bb,h],by simp[bn,h],ig (k:=4) (by omega) h⟩
theorem OI {l:ah} {m:aS} (h:m.kind=5):ay l m=f3 l m.tc∧bb m=zt m.tc∧bn m= {aK with kind:=5,tc:=m.tc}∧(gj m).toNat=5:=by
 refine⟨by simp[ay,h],by simp[bb,h],by simp[bn,h],ig (k:=5) (by omega) h⟩
theorem Ot {l:ah} {m:aS} (h:m.kind=6):ay l m=b9 l m.proof∧bb m=cw m.proof∧bn m= {aK with kind:=6,proof:=m.proof}∧(gj m).toNat=6:=by
 refine⟨by simp[ay,h],by simp[bb,h],by simp[bn,h],ig (k:=6) (by omega) h⟩
theorem OR {l:ah} {m:aS} (h:m.kind=7):ay l m=dJ l m.incl∧bb m=dH m.incl∧bn m= {aK with kind:=7,incl:=m.incl}∧(gj m).toNat=7:=by
 refine⟨by simp[ay,h],by simp[bb,h],by simp[bn,h],ig (k:=7) (by omega) h⟩
theorem Qp {l:ah} {x:aW} (h:jL l x=true):bx l {aK with kind:=1,vote:=x}=true∧gj {aK with kind:=1,vote:=x}=UInt8.ofNat 1∧bb {aK with kind:=1,vote:=x}=xL x:=by
 obtain⟨p1,p2,p3,p4⟩:=Ki (l:=l) (m:= {aK with kind:=1,vote:=x}) rfl
 exact⟨by simp only[bx,p1,h,Bool.true_and,p3];exact F4.2 rfl,rfl,p2⟩
end Go.Eng.F
namespace Go.Eng.F
theorem HJ {l:ah} {v:aW} (h:jL l v=true):bx l {aK with kind:=1,vote:=v}=true:=(Qp h).1
theorem PF {l:ah} {v:aW} (hl:l.ok=true) (h:isNum v.view=true∧isNum v.height=true∧v.block.length=32∧dv v.who 0 (l.n - 1)=true∧v.tag.length=32):jL l v=true:=by
 simp only[jL,hl,h.1,h.2.1,Ja h.2.2.1,h.2.2.2.1,Ja h.2.2.2.2,Bool.and_self]
theorem PH {l:ah} {v:aW} (hl:l.rd) (h:isNum v.view=true∧isNum v.height=true∧v.block.length=32∧dv v.who 0 (l.n - 1)=true∧v.tag.length=32):v.wf:=by
 obtain⟨g2,g3,g4,g5,g6⟩:=h
 exact⟨hQ g2,hQ g3,by unfold Sz;omega,by have:=cY g5;have:=hl.1;exact⟨by omega,by omega⟩,by unfold Sz;omega⟩
abbrev mP:Nat:=96
def nY:AF:=⟨2,5,[.cell 4 45 true],(.seq (.ops [.i (.lbox 3 (.s 1)), .i (.lal 4 [.int .i64 0, .int .i64 0, .int .i64 0, .nils, .int .i64 0, .nils, .int .i64 0, .int .i64 0, .nils, .nils, .nils, .int .i64 0, .int .i64 0, .int .i64 0, .nils, .nils, .int .i64 0, .int .i64 0, .nils, .nils, .nils, .int .i64 0, .int .i64 0, .int .i64 0, .nils, .nils, .int .i64 0, .int .i64 0, .nils, .nils, .nils, .nils, .int .i64 0, .nils, .nils, .int .i64 0, .int .i64 0, .nils, .nils, .nils, .int .i64 0, .int .i64 0, .int .i64 0, .nils, .nils])]) (.seq (.ops [qm 6 0,ql 7 3 3 5 true, .i (.call 9 134 false [(.s 6),(.s 7)]), .i (.lal 5 [.int .i64 0, .int .i64 0, .int .i64 0, .nils, .int .i64 0, .nils, .int .i64 0, .int .i64 0, .nils, .nils, .nils, .int .i64 0, .int .i64 0, .int .i64 0, .nils, .nils, .int .i64 0, .int .i64 0, .nils, .nils, .nils, .int .i64 0, .int .i64 0, .int .i64 0, .nils, .nils, .int .i64 0, .int .i64 0, .nils, .nils, .nils, .nils, .int .i64 0, .nils, .nils, .int .i64 0, .int .i64 0, .nils, .nils, .nils, .int .i64 0, .int .i64 0, .int .i64 0, .nils, .nils]),qs 5 5 8 45]) (.seq (.seq (.ops [ql 9 3 3 5 true,ql 10 5 5 45 true, .i (.call 12 159 false [(.s 9),(.s 10)]), .i (.not 12 (.s 11))]) (.cond (.s 12) (.seq (.ops [qm 13 0,ql 14 3 3 5 true, .i (.call 16 161 false [(.s 13),(.s 14)]),qk 17 160 15,qs 4 4 16 45]) .ret) .skip)) (.seq (.ops [ql 17 5 5 45 true,qs 4 4 17 45]) .ret))))⟩
theorem zq:cd mP=some nY:=by kernel_rfl
theorem Hk (b:Bytes) (i:Nat) (h:Int) (l:ah) (hl:l.ok=true) (hi:i≤b.length) (hb:b.length≤1073741824):VC cd mP (iO [] 133 (cur b i h) [(true,l.c)]) (fun r p=>∃x:aS×Nat×Int,((x.1.wc∧bx l x.1=true)∧x.2.1≤b.length)∧r= [(true,x.1.o)]∧p= [.pt 133 (cur b x.2.1 x.2.2)]):=by
 have hL:=iA hl
 refine VC.xQ ?_
 refine aw zq rfl ?_
 simp(disch:=omega) [nY,cur,ah.c,VZ]
 refine dz (HL b i h l hL hi hb) ?_ (n1:=by intro _;simp(disch:=omega) [ah.c,aS.o,VZ]) (n3:=by intro _;simp(disch:=omega) [ah.c,aS.o,VZ])
 rintro⟨m,i1,h1⟩ ⟨g1,j1⟩
 simp only at g1 j1
 simp(disch:=omega) [cur,aS.o,VZ]
 refine ao (CS l m g1) ?_ (ha:=by first|rfl|(simp[ah.c,aS.c,VY] <;>repeat' constructor))
 simp(disch:=omega) [VZ]
 refine an (fun h0=> ?_) (fun h0=> ?_)
 ·simp(disch:=omega) [h0,cur,br,bN,bT,VZ]
  exact⟨[(true,aS.o m)],by simp[br,bN,bT,aS.o],m,i1,⟨⟨g1,h0⟩,j1⟩,rfl,rfl⟩
 ·simp(disch:=omega) [h0,VZ]
  refine dz (uO b i1 h1 l hL.1 j1 hb) ?_ (n1:=by intro _;simp(disch:=omega) [ah.c,aW.o,VZ]) (n3:=by intro _;simp(disch:=omega) [ah.c,aW.o,VZ])
  rintro⟨x2,i2,h2⟩ ⟨g2,j2⟩
  simp only at g2 j2
  have hw:=PH hL g2
  have hv:=PF hl g2
  simp(disch:=omega) [cur,aW.o,VZ]
  refine ao (fb x2 hw) ?_ (ha:=by first|rfl|(simp[aW.c,VY] <;>repeat' constructor))
  simp(disch:=omega) [cur,ec,br,bN,bT,VZ]
  exact⟨[(true,aS.o {aK with kind:=1,vote:=x2})],by simp[br,bN,bT,aS.o,aK,du,oc,cu,bC,xP,bR,dg,ak,hH,hD,hC],{aK with kind:=1,vote:=x2},i2,⟨⟨{EU with kind:=⟨by simp only;omega,by simp only;omega⟩,vote:=hw},HJ hv⟩,j2⟩,rfl,rfl⟩
abbrev oL:Nat:=22
def qT:AF:=⟨2,4,[.cell 4 45 true],(.seq (.ops [.i (.lbox 3 (.s 1)), .i (.lal 4 [.int .i64 0, .int .i64 0, .int .i64 0, .nils, .int .i64 0, .nils, .int .i64 0, .int .i64 0, .nils, .nils, .nils, .int .i64 0, .int .i64 0, .int .i64 0, .nils, .nils, .int .i64 0, .int .i64 0, .nils, .nils, .nils, .int .i64 0, .int .i64 0, .int .i64 0, .nils, .nils, .int .i64 0, .int .i64 0, .nils, .nils, .nils, .nils, .int .i64 0, .nils, .nils, .int .i64 0, .int .i64 0, .nils, .nils, .nils, .int .i64 0, .int .i64 0, .int .i64 0, .nils, .nils])]) (.seq (.ops [qm 6 0,qk 8 88 6,qm 5 7]) (.seq (.ops [qm 8 5,ql 9 3 3 5 true, .i (.call 11 96 false [(.s 8),(.s 9)]),qs 4 4 10 45]) .ret)))⟩
theorem BG:cd oL=some qT:=by kernel_rfl
theorem HC (b:Bytes) (l:ah) (hl:l.ok=true) (hb:b.length≤1073741824):VC cd oL (aB [(false,[.sl (bytes b)]),(true,l.c)]) (fun r _=>∃x:aS,(x.wc∧bx l x=true)∧r= [(true,x.o)]):=by
 refine aa BG rfl ?_
 simp(disch:=omega) [qT,ah.c,VY]
 refine QC (xG b hb) ?_
 intro h _
 simp(disch:=omega) [cur,Eu,VZ]
 refine dz (Hk b 0 h l hl (Nat.zero_le _) hb) ?_ (n1:=by intro _;simp(disch:=omega) [ah.c,aS.o,VZ]) (n3:=by intro _;simp(disch:=omega) [ah.c,aS.o,VZ])
 rintro⟨m,i1,h1⟩ ⟨g1,j1⟩
 simp only at g1 j1
 simp(disch:=omega) [cur,aS.o,VZ]
 exact⟨m,g1,by simp⟩
abbrev o8:Nat:=23
def rm:AF:=⟨2,5,[.tmp 4],(.seq (.ops [.i (.mov 4 (qi 0))]) (.seq (.ops [qm 6 0,qk 8 88 6,qm 5 7]) (.seq (.ops [qm 8 5,qm 9 5, .i (.nch 10 (.s 9)),qf 11 10 2, .i (.ldh 12 (.s 11) 1 false), .i (.bin 13 .add (.s 12) (qi 777)), .i (.nch 14 (.s 8)),qf 15 14 2, .i (.sth (.s 15) (.s 13) 1)]) (.seq (.ops [qm 16 5,qm 17 1, .i (.call 19 97 false [(.s 16),(.s 17)]),qm 4 18]) .ret))))⟩
theorem AY:cd o8=some rm:=by kernel_rfl
theorem HF (b:Bytes) (n:Nat) (hn:n≤4294967296) (hb:b.length≤1073741824):VC cd o8 (aB [(false,[.sl (bytes b)]),(false,[.int .i64 (n:Int)])]) (fun r _=>∃x:Nat,(x < n∨x=0)∧r=it x):=by
 refine aa AY rfl ?_
 simp(disch:=omega) [rm,VY]
 refine QC (xG b hb) ?_
 intro h _
 simp(disch:=omega) [cur,Eu,VZ]
 refine dz (aC b 0 _ n hn (Nat.zero_le _) hb) ?_
 rintro⟨k,i1,h1⟩ ⟨g1,j1⟩
 simp only at g1 j1
 simp(disch:=omega) [cur,VZ]
 rcases g1 with g1|g1
 ·exact .inl ⟨k,g1,rfl⟩
 ·exact .inr g1
end Go.Eng.F
namespace Go.Eng.F
end Go.Eng.F
namespace Go.Eng.F
theorem JV {l:ah} {m:aS} (h:bx l m=true):vR l m=((gj m::bb m).length:Int):=by
 simp only[vR,h,if_true,List.length_cons]
 omega
end Go.Eng.F
namespace Go.Eng.F
end Go.Eng.F
namespace Go.Eng.F
theorem law_code {n:Nat} (hc:∀b:Bytes,VC cd n (aB [(false,[.sl (bytes b)])]) (fun rs _=>rs=bl true)):∀h vs,EL h [.sl (.int .u8)] vs→WC cd n vs h (fun r _=>r= .val false [.bool true]):=by
 intro h vs ha
 obtain⟨cs,v,S,r,rfl,hv,hr⟩:=ha
 obtain⟨x,rfl⟩:=gw hv.ok
 have e:JT [(.sl (.int .u8),Cz x)]= [(false,[.sl (bytes x)])]:=by simp only[JT,List.map,gI,Ty.agg]
 have hc:=hc x
 rw[←e]at hc
 have ha:lA h [(.sl (.int .u8),Cz x)] ((Ty.agg (.sl (.int .u8)),cs)::r):=⟨cs,r,rfl,⟨S,hv⟩,hr⟩
 refine(hc.wc ha (ts:= [(.bool, .b true)]) fun rs q=>by rw[q];exact PX true).mono ?_
 rintro r' h' ⟨t,css,S',rfl,rfl,hres,_⟩
 obtain⟨cs',cr,S1,S2,rfl,rfl,h1,h2⟩:=hres
 obtain⟨rfl,rfl⟩:=h2
 obtain⟨b,rfl,e2,_⟩:=h1.bool
 simp only[Tv.b.injEq]at e2
 subst e2
 rfl
end Go.Eng.F
namespace Go.Eng.F
theorem uZ (p s t:Bytes):At (p++s++t) p.length s:=⟨t,by rw[List.append_assoc,List.drop_left]⟩
theorem KW {l:ah} {x:aW} {p:Bytes} (h:jL l x=true) (hl:l.ok=true) (hp:p.length+(xL x).length≤1000000):VC cd iz (aB [(true,l.c),(false,[.sl (bytes (p++xL x++ [7]))]),(false,[.int .i64 (p.length:Int)])]) (fun rs _=>rs= [(true,x.o),(false,[.p (.int .i64 ((p.length+(xL x).length:Nat):Int))]),(false,[.p (.int .i64 0)])]):=by
 have h1:=yS (p++xL x++ [7]) l p.length hl (by simp only[List.length_append];omega) (by simp only[List.length_append,List.length_cons,List.length_nil];omega)
 rw[La h (uZ p (xL x) [7])]at h1
 exact h1
theorem NN {l:ah} {x:Qc} {p:Bytes} (h:eg l x=true) (hl:l.ok=true) (hp:p.length+(vy x).length≤1000000):VC cd lX (aB [(true,l.c),(false,[.sl (bytes (p++vy x++ [7]))]),(false,[.int .i64 (p.length:Int)])]) (fun rs _=>rs= [(true,x.o),(false,[.p (.int .i64 ((p.length+(vy x).length:Nat):Int))]),(false,[.p (.int .i64 0)])]):=by
 have h1:=Df (p++vy x++ [7]) l p.length hl (by simp only[List.length_append];omega) (by simp only[List.length_append,List.length_cons,List.length_nil];omega)
 rw[Iu h (uZ p (vy x) [7])]at h1
 exact h1
theorem Lh {l:ah} {x:Head} {p:Bytes} (h:bg l x=true) (hl:l.ok=true) (hp:p.length+(bE x).length≤1000000):VC cd ie (aB [(true,l.c),(false,[.sl (bytes (p++bE x++ [7]))]),(false,[.int .i64 (p.length:Int)])]) (fun rs _=>rs= [(true,x.o),(false,[.p (.int .i64 ((p.length+(bE x).length:Nat):Int))]),(false,[.p (.int .i64 0)])]):=by
 have h1:=yP (p++bE x++ [7]) l p.length hl (by simp only[List.length_append];omega) (by simp only[List.length_append,List.length_cons,List.length_nil];omega)
 rw[A7 h (uZ p (bE x) [7])]at h1
 exact h1
theorem Jq {l:ah} {x:Block} {p:Bytes} (h:ba l x=true) (hl:l.ok=true) (hp:p.length+(cC x).length≤1000000):VC cd gC (aB [(true,l.c),(false,[.sl (bytes (p++cC x++ [7]))]),(false,[.int .i64 (p.length:Int)])]) (fun rs _=>rs= [(true,x.o),(false,[.p (.int .i64 ((p.length+(cC x).length:Nat):Int))]),(false,[.p (.int .i64 0)])]):=by
 have h1:=xx (p++cC x++ [7]) l p.length hl (by simp only[List.length_append];omega) (by simp only[List.length_append,List.length_cons,List.length_nil];omega)
 rw[JA h (uZ p (cC x) [7])]at h1
 exact h1
theorem OM {l:ah} {x:Tc} {p:Bytes} (h:f3 l x=true) (hl:l.ok=true) (hp:p.length+(zt x).length≤1000000):VC cd lC (aB [(true,l.c),(false,[.sl (bytes (p++zt x++ [7]))]),(false,[.int .i64 (p.length:Int)])]) (fun rs _=>rs= [(true,x.o),(false,[.p (.int .i64 ((p.length+(zt x).length:Nat):Int))]),(false,[.p (.int .i64 0)])]):=by
 have h1:=CQ (p++zt x++ [7]) l p.length hl (by simp only[List.length_append];omega) (by simp only[List.length_append,List.length_cons,List.length_nil];omega)
 rw[O2 h (uZ p (zt x) [7])]at h1
 exact h1
theorem J1 {l:ah} {x:Proof} {p:Bytes} (h:b9 l x=true) (hl:l.ok=true) (hp:p.length+(cw x).length≤1000000):VC cd gA (aB [(true,l.c),(false,[.sl (bytes (p++cw x++ [7]))]),(false,[.int .i64 (p.length:Int)])]) (fun rs _=>rs= [(true,x.o),(false,[.p (.int .i64 ((p.length+(cw x).length:Nat):Int))]),(false,[.p (.int .i64 0)])]):=by
 have h1:=wU (p++cw x++ [7]) l p.length hl (by simp only[List.length_append];omega) (by simp only[List.length_append,List.length_cons,List.length_nil];omega)
 rw[JK h (uZ p (cw x) [7])]at h1
 exact h1
theorem Kn {l:ah} {x:aN} {p:Bytes} (h:dJ l x=true) (hl:l.ok=true) (hp:p.length+(dH x).length≤1000000):VC cd ij (aB [(true,l.c),(false,[.sl (bytes (p++dH x++ [7]))]),(false,[.int .i64 (p.length:Int)])]) (fun rs _=>rs= [(true,x.o),(false,[.p (.int .i64 ((p.length+(dH x).length:Nat):Int))]),(false,[.p (.int .i64 0)])]):=by
 have h1:=zr (p++dH x++ [7]) l p.length hl (by simp only[List.length_append];omega) (by simp only[List.length_append,List.length_cons,List.length_nil];omega)
 rw[Li h (uZ p (dH x) [7])]at h1
 exact h1
abbrev o6:Nat:=4
def oo:AF:=⟨1,9,[.tmp 2],(.seq (.ops [.i (.mov 2 (qb false))]) (.seq (.seq (.ops [qm 32 0,qn 33 32, .i (.bin 34 .gtr (.s 33) (qi 1048576))]) (.cond (.s 34) (.seq (.ops [.i (.mov 2 (qb true))]) .ret) .skip)) (.seq (.ops [qm 35 0,qk 37 14 35, .i (.lal 3 [.int .i64 0, .int .i64 0, .int .i64 0, .int .i64 0, .int .i64 0]),qs 3 3 36 5]) (.seq (.ops [qm 37 0,ql 38 3 3 5 true, .i (.call 40 22 false [(.s 37),(.s 38)]), .i (.lal 4 [.int .i64 0, .int .i64 0, .int .i64 0, .nils, .int .i64 0, .nils, .int .i64 0, .int .i64 0, .nils, .nils, .nils, .int .i64 0, .int .i64 0, .int .i64 0, .nils, .nils, .int .i64 0, .int .i64 0, .nils, .nils, .nils, .int .i64 0, .int .i64 0, .int .i64 0, .nils, .nils, .int .i64 0, .int .i64 0, .nils, .nils, .nils, .nils, .int .i64 0, .nils, .nils, .int .i64 0, .int .i64 0, .nils, .nils, .nils, .int .i64 0, .int .i64 0, .int .i64 0, .nils, .nils]),qs 4 4 39 45]) (.seq (.ops [qm 40 0, .i (.call 42 23 false [(.s 40),(qi 3)]), .i (.bin 42 .add (qi 1) (.s 41)),qm 5 42]) (.seq (.ops [qm 43 5, .i (.mks 44 5 1 1 [.int .u8 0] (.s 43)),qm 6 44]) (.seq (.ops [.i (.mov 7 (qi 0))]) (.seq (.ops [.i (.mov 8 (qi 0))]) (.seq (.ops [.i (.bse 45),qm 9 45]) (.seq (.ops [.i (.mov 10 (qb false))]) (.seq (.seq (.ops [qf 46 4 0,ql 47 4 46 1 false]) (.block 0 (.seq (.ops [.i (.bin 75 .eql (.s 47) (qi 1)),qm 74 75]) (.cond (.s 74) (.seq (.ops [ql 77 3 3 5 true,qm 78 6,qf 79 4 1,ql 80 4 79 5 true, .i (.call 82 24 false [(.s 77),(.s 78),(.s 80)]),qm 76 81, .i (.ext 82 (.s 76) 0), .i (.ext 83 (.s 76) 1),qm 9 82]) (.seq (.ops [ql 85 3 3 5 true, .i (.bse 86),qm 87 9, .i (.app 88 5 1 1 (.s 86) (.s 87)), .i (.lsl 89 1 1 [.int .u8 0] [(0,1,(.c (.val false [.int .u8 7])))]), .i (.app 90 5 1 1 (.s 88) (.s 89)),qm 91 5, .i (.call 93 25 false [(.s 85),(.s 90),(.s 91)]),qm 84 92, .i (.ext 93 (.s 84) 0), .i (.ext 94 (.s 84) 1), .i (.ext 95 (.s 84) 2), .i (.lal 11 [.int .i64 0, .int .i64 0, .nils, .int .i64 0, .nils]),qs 11 11 93 5,qm 12 94,qm 13 95]) (.seq (.ops [ql 96 11 11 5 true,qf 97 4 1,ql 98 4 97 5 true, .i (.call 100 26 false [(.s 96),(.s 98)]),qm 10 99]) (.seq (.ops [qm 100 12,qm 7 100]) (.ops [qm 101 13,qm 8 101]))))) (.seq (.ops [.i (.bin 103 .eql (.s 47) (qi 2)),qm 102 103]) (.cond (.s 102) (.seq (.ops [ql 105 3 3 5 true,qm 106 6,qf 107 4 6,ql 108 4 107 5 true, .i (.call 110 27 false [(.s 105),(.s 106),(.s 108)]),qm 104 109, .i (.ext 110 (.s 104) 0), .i (.ext 111 (.s 104) 1),qm 9 110]) (.seq (.ops [ql 113 3 3 5 true, .i (.bse 114),qm 115 9, .i (.app 116 5 1 1 (.s 114) (.s 115)), .i (.lsl 117 1 1 [.int .u8 0] [(0,1,(.c (.val false [.int .u8 7])))]), .i (.app 118 5 1 1 (.s 116) (.s 117)),qm 119 5, .i (.call 121 28 false [(.s 113),(.s 118),(.s 119)]),qm 112 120, .i (.ext 121 (.s 112) 0), .i (.ext 122 (.s 112) 1), .i (.ext 123 (.s 112) 2), .i (.lal 14 [.int .i64 0, .int .i64 0, .nils, .nils, .nils]),qs 14 14 121 5,qm 15 122,qm 16 123]) (.seq (.ops [ql 124 14 14 5 true,qf 125 4 6,ql 126 4 125 5 true, .i (.call 128 29 false [(.s 124),(.s 126)]),qm 10 127]) (.seq (.ops [qm 128 15,qm 7 128]) (.ops [qm 129 16,qm 8 129]))))) (.seq (.ops [.i (.bin 131 .eql (.s 47) (qi 3)),qm 130 131]) (.cond (.s 130) (.seq (.ops [ql 133 3 3 5 true,qm 134 6,qf 135 4 11,ql 136 4 135 10 true, .i (.call 138 30 false [(.s 133),(.s 134),(.s 136)]),qm 132 137, .i (.ext 138 (.s 132) 0), .i (.ext 139 (.s 132) 1),qm 9 138]) (.seq (.ops [ql 141 3 3 5 true, .i (.bse 142),qm 143 9, .i (.app 144 5 1 1 (.s 142) (.s 143)), .i (.lsl 145 1 1 [.int .u8 0] [(0,1,(.c (.val false [.int .u8 7])))]), .i (.app 146 5 1 1 (.s 144) (.s 145)),qm 147 5, .i (.call 149 31 false [(.s 141),(.s 146),(.s 147)]),qm 140 148, .i (.ext 149 (.s 140) 0), .i (.ext 150 (.s 140) 1), .i (.ext 151 (.s 140) 2), .i (.lal 17 qz),qs 17 17 149 10,qm 18 150,qm 19 151]) (.seq (.ops [ql 152 17 17 10 true,qf 153 4 11,ql 154 4 153 10 true, .i (.call 156 32 false [(.s 152),(.s 154)]),qm 156 155, .g 156 true 158 (.ldl 157 3 (.s 3) 5 true), .g 156 true 159 (.ldl 158 17 (.s 17) 10 true), .g 156 true 160 (.call 160 33 false [(.s 157),(.s 158)]), .g 156 true 161 (.len 160 false (.s 159)), .g 156 true 162 (.bin 161 .eql (.s 160) (qi 32)), .i (.pick 162 (.s 156) (.s 161) (qb false)),qm 10 162]) (.seq (.ops [qm 163 18,qm 7 163]) (.ops [qm 164 19,qm 8 164]))))) (.seq (.ops [.i (.bin 166 .eql (.s 47) (qi 4)),qm 165 166]) (.cond (.s 165) (.seq (.ops [ql 168 3 3 5 true,qm 169 6,qf 170 4 21,ql 171 4 170 11 true, .i (.call 173 34 false [(.s 168),(.s 169),(.s 171)]),qm 167 172, .i (.ext 173 (.s 167) 0), .i (.ext 174 (.s 167) 1),qm 9 173]) (.seq (.ops [ql 176 3 3 5 true, .i (.bse 177),qm 178 9, .i (.app 179 5 1 1 (.s 177) (.s 178)), .i (.lsl 180 1 1 [.int .u8 0] [(0,1,(.c (.val false [.int .u8 7])))]), .i (.app 181 5 1 1 (.s 179) (.s 180)),qm 182 5, .i (.call 184 35 false [(.s 176),(.s 181),(.s 182)]),qm 175 183, .i (.ext 184 (.s 175) 0), .i (.ext 185 (.s 175) 1), .i (.ext 186 (.s 175) 2), .i (.lal 20 [.int .i64 0, .int .i64 0, .int .i64 0, .nils, .nils, .int .i64 0, .int .i64 0, .nils, .nils, .nils, .nils]),qs 20 20 184 11,qm 21 185,qm 22 186]) (.seq (.ops [ql 187 20 20 11 true,qf 188 4 21,ql 189 4 188 11 true, .i (.call 191 36 false [(.s 187),(.s 189)]),qm 10 190]) (.seq (.ops [qm 191 21,qm 7 191]) (.ops [qm 192 22,qm 8 192]))))) (.seq (.ops [.i (.bin 194 .eql (.s 47) (qi 5)),qm 193 194]) (.cond (.s 193) (.seq (.ops [ql 196 3 3 5 true,qm 197 6,qf 198 4 32,ql 199 4 198 2 true, .i (.call 201 37 false [(.s 196),(.s 197),(.s 199)]),qm 195 200, .i (.ext 201 (.s 195) 0), .i (.ext 202 (.s 195) 1),qm 9 201]) (.seq (.ops [ql 204 3 3 5 true, .i (.bse 205),qm 206 9, .i (.app 207 5 1 1 (.s 205) (.s 206)), .i (.lsl 208 1 1 [.int .u8 0] [(0,1,(.c (.val false [.int .u8 7])))]), .i (.app 209 5 1 1 (.s 207) (.s 208)),qm 210 5, .i (.call 212 38 false [(.s 204),(.s 209),(.s 210)]),qm 203 211, .i (.ext 212 (.s 203) 0), .i (.ext 213 (.s 203) 1), .i (.ext 214 (.s 203) 2), .i (.lal 23 [.int .i64 0, .nils]),qs 23 23 212 2,qm 24 213,qm 25 214]) (.seq (.ops [ql 215 23 23 2 true,qf 216 4 32,ql 217 4 216 2 true, .i (.call 219 39 false [(.s 215),(.s 217)]),qm 10 218]) (.seq (.ops [qm 219 24,qm 7 219]) (.ops [qm 220 25,qm 8 220]))))) (.seq (.ops [.i (.bin 222 .eql (.s 47) (qi 6)),qm 221 222]) (.cond (.s 221) (.seq (.ops [ql 224 3 3 5 true,qm 225 6,qf 226 4 34,ql 227 4 226 6 true, .i (.call 229 40 false [(.s 224),(.s 225),(.s 227)]),qm 223 228, .i (.ext 229 (.s 223) 0), .i (.ext 230 (.s 223) 1),qm 9 229]) (.seq (.ops [ql 232 3 3 5 true, .i (.bse 233),qm 234 9, .i (.app 235 5 1 1 (.s 233) (.s 234)), .i (.lsl 236 1 1 [.int .u8 0] [(0,1,(.c (.val false [.int .u8 7])))]), .i (.app 237 5 1 1 (.s 235) (.s 236)),qm 238 5, .i (.call 240 41 false [(.s 232),(.s 237),(.s 238)]),qm 231 239, .i (.ext 240 (.s 231) 0), .i (.ext 241 (.s 231) 1), .i (.ext 242 (.s 231) 2), .i (.lal 26 [.nils, .int .i64 0, .int .i64 0, .nils, .nils, .nils]),qs 26 26 240 6,qm 27 241,qm 28 242]) (.seq (.ops [ql 243 26 26 6 true,qf 244 4 34,ql 245 4 244 6 true, .i (.call 247 42 false [(.s 243),(.s 245)]),qm 10 246]) (.seq (.ops [qm 247 27,qm 7 247]) (.ops [qm 248 28,qm 8 248]))))) (.seq (.ops [ql 49 3 3 5 true,qm 50 6,qf 51 4 40,ql 52 4 51 5 true, .i (.call 54 43 false [(.s 49),(.s 50),(.s 52)]),qm 48 53, .i (.ext 54 (.s 48) 0), .i (.ext 55 (.s 48) 1),qm 9 54]) (.seq (.ops [ql 57 3 3 5 true, .i (.bse 58),qm 59 9, .i (.app 60 5 1 1 (.s 58) (.s 59)), .i (.lsl 61 1 1 [.int .u8 0] [(0,1,(.c (.val false [.int .u8 7])))]), .i (.app 62 5 1 1 (.s 60) (.s 61)),qm 63 5, .i (.call 65 44 false [(.s 57),(.s 62),(.s 63)]),qm 56 64, .i (.ext 65 (.s 56) 0), .i (.ext 66 (.s 56) 1), .i (.ext 67 (.s 56) 2), .i (.lal 29 [.int .i64 0, .int .i64 0, .int .i64 0, .nils, .nils]),qs 29 29 65 5,qm 30 66,qm 31 67]) (.seq (.ops [ql 68 29 29 5 true,qf 69 4 40,ql 70 4 69 5 true, .i (.call 72 45 false [(.s 68),(.s 70)]),qm 10 71]) (.seq (.ops [qm 72 30,qm 7 72]) (.ops [qm 73 31,qm 8 73]))))))))))))))))))) (.seq (.ops [qm 249 10,qm 250 249, .g 250 true 252 (.mov 251 (.s 8)), .g 250 true 253 (.bin 252 .eql (.s 251) (qi 0)), .i (.pick 253 (.s 250) (.s 252) (qb false)),qm 254 253, .g 254 true 256 (.mov 255 (.s 7)), .g 254 true 257 (.mov 256 (.s 9)), .g 254 true 258 (.len 257 false (.s 256)), .g 254 true 259 (.bin 258 .eql (.s 255) (.s 257)), .i (.pick 259 (.s 254) (.s 258) (qb false)),qm 260 259, .g 260 true 262 (.mov 261 (.s 9)), .g 260 true 263 (.len 262 false (.s 261)), .g 260 true 264 (.mov 263 (.s 5)), .g 260 true 265 (.ldl 264 3 (.s 3) 5 true), .g 260 true 266 (.ldl 265 4 (.s 4) 45 true), .g 260 true 267 (.call 267 46 false [(.s 264),(.s 265)]), .g 260 true 268 (.bin 267 .add (.s 263) (.s 266)), .g 260 true 269 (.bin 268 .sub (.s 267) (qi 1)), .g 260 true 270 (.bin 269 .eql (.s 262) (.s 268)), .i (.pick 270 (.s 260) (.s 269) (qb false)),qm 2 270]) .ret))))))))))))⟩
theorem Cm:cd o6=some oo:=by kernel_rfl
theorem FnParts_ok (b:Bytes):VC cd o6 (aB [(false,[.sl (bytes b)])]) (fun rs _=>rs=bl true):=by
 refine aa Cm rfl ?_
 simp(disch:=omega) [oo,ag,VZ]
 refine ab (fun h0=> ?_) (fun h0=> ?_)
 ·simp(disch:=omega) [VZ]
 have hb:b.length≤1048576:=by omega
 simp(disch:=omega) [VZ]
 refine Qs (CX b (by omega)) ?_
 rintro l ⟨hl,hf⟩
 simp(disch:=omega) [ah.e,VZ]
 refine Qs (HC b l hl (by omega)) ?_ (ha:=by first|rfl|(simp[ah.c,VY] <;>repeat' constructor))
 rintro m ⟨hw,hm⟩
 simp(disch:=omega) [aS.o,VZ]
 refine Qs (HF b 3 (by omega) (by omega)) ?_
 rintro n hn
 have hn3:n < 3:=by omega
 have hp:=A6 hm
 have hsz:=JV hm
 have hlen:=JO hp
 have hrep:List.replicate (1+n) [D.int .u8 0]=bytes (List.replicate (1+n) 0):=u9 _
 have htn:(1+(n:Int)).toNat=1+n:=by omega
 have hpl:(List.replicate (1+n) (0:UInt8)).length=1+n:=by simp
 have hat:((List.replicate (1+n) (0:UInt8)).length:Int)=1+(n:Int):=by rw[hpl];omega
 generalize hpre:List.replicate (1+n) (0:UInt8)=p at hrep hpl hat
 have q1:(0:Int)≤1+(n:Int):=by omega
 rcases ju hp with e|e|e|e|e|e|e
 ·obtain⟨p1,p2,p3,p4⟩:=Ki (l:=l) e
  rw[p1]at hp
  rw[List.length_cons,p2]at hsz
  rw[p2]at hlen
  have hput:=(gB l p m.vote (by omega)).re (bj hp)
  have hget:=KW (p:=p) hp hl (by omega)
  have hsame:=k9 m.vote m.vote
  rw[vg.2 rfl]at hsame
  rw[hat]at hget
  have hlb:(p++xL m.vote).length=p.length+(xL m.vote).length:=List.length_append
  have h7:bytes (p++xL m.vote)++ [[D.int .u8 7]]=bytes (p++xL m.vote++ [7]):=by simp[bytes]
  simp(disch:=omega) [e,htn,hrep,q1,VZ]
  refine ao (hput) ?_ (ha:=by first|rfl|(simp[ah.c,aW.c,Head.c,VY] <;>repeat' constructor))
  simp(disch:=omega) [h7,ag,VZ]
  refine ao (hget) ?_ (ha:=by first|rfl|(simp[ah.c,VY] <;>repeat' constructor))
  simp(disch:=omega) [aW.o,VZ]
  refine ao (hsame) ?_ (ha:=by first|rfl|(simp[aW.c,Head.c,VY] <;>repeat' constructor))
  simp(disch:=omega) [VZ]
  refine ao (cB l m hw) ?_ (ha:=by first|rfl|(simp[ah.c,aS.c,e,VY] <;>repeat' constructor))
  have hfin:(p.length:Int)+((xL m.vote).length:Int)=1+(n:Int)+(((xL m.vote).length+1:Nat):Int) - 1:=by omega
  have hfi2:(p.length:Int)+((xL m.vote).length:Int)=1+(n:Int)+(((xL m.vote).length:Int)+1) - 1:=by omega
  simp(disch:=omega) [hsz,ag,hfin,hfi2,VZ]
 ·obtain⟨p1,p2,p3,p4⟩:=Pb (l:=l) e
  rw[p1]at hp
  rw[List.length_cons,p2]at hsz
  rw[p2]at hlen
  have hput:=(jC l p m.qc hw.qc.1 (by omega)).re (bj hp)
  have hget:=NN (p:=p) hp hl (by omega)
  have hsame:=fv m.qc m.qc hw.qc.1 hw.qc.1
  rw[lH.2 rfl]at hsame
  rw[hat]at hget
  have hlb:(p++vy m.qc).length=p.length+(vy m.qc).length:=List.length_append
  have h7:bytes (p++vy m.qc)++ [[D.int .u8 7]]=bytes (p++vy m.qc++ [7]):=by simp[bytes]
  simp(disch:=omega) [e,htn,hrep,q1,VZ]
  refine ao (hput) ?_ (ha:=by first|rfl|(simp[ah.c,Qc.c,Head.c,VY] <;>repeat' constructor))
  simp(disch:=omega) [h7,ag,VZ]
  refine ao (hget) ?_ (ha:=by first|rfl|(simp[ah.c,VY] <;>repeat' constructor))
  simp(disch:=omega) [Qc.o,VZ]
  refine ao (hsame) ?_ (ha:=by first|rfl|(simp[Qc.c,Head.c,VY] <;>repeat' constructor))
  simp(disch:=omega) [VZ]
  refine ao (cB l m hw) ?_ (ha:=by first|rfl|(simp[ah.c,aS.c,e,VY] <;>repeat' constructor))
  have hfin:(p.length:Int)+((vy m.qc).length:Int)=1+(n:Int)+(((vy m.qc).length+1:Nat):Int) - 1:=by omega
  have hfi2:(p.length:Int)+((vy m.qc).length:Int)=1+(n:Int)+(((vy m.qc).length:Int)+1) - 1:=by omega
  simp(disch:=omega) [hsz,ag,hfin,hfi2,VZ]
 ·obtain⟨p1,p2,p3,p4⟩:=Oc (l:=l) e
  rw[p1]at hp
  rw[List.length_cons,p2]at hsz
  rw[p2]at hlen
  have hput:=(dF l p m.head hw.head.1 (by omega)).re (bj hp)
  have hget:=Lh (p:=p) hp hl (by omega)
  have hsame:=eb m.head m.head hw.head.1 hw.head.1
  rw[g9.2 rfl]at hsame
  rw[hat]at hget
  have hlb:(p++bE m.head).length=p.length+(bE m.head).length:=List.length_append
  have h7:bytes (p++bE m.head)++ [[D.int .u8 7]]=bytes (p++bE m.head++ [7]):=by simp[bytes]
  simp(disch:=omega) [e,htn,hrep,q1,VZ]
  refine ao (hput) ?_ (ha:=by first|rfl|(simp[ah.c,Head.c,Head.c,VY] <;>repeat' constructor))
  simp(disch:=omega) [h7,ag,VZ]
  refine ao (hget) ?_ (ha:=by first|rfl|(simp[ah.c,VY] <;>repeat' constructor))
  simp(disch:=omega) [Head.o,VZ]
  refine ao (hsame) ?_ (ha:=by first|rfl|(simp[Head.c,Head.c,VY] <;>repeat' constructor))
  simp(disch:=omega) [VZ]
  refine ao ((xT l m.head hw.head.1).re (by rw[pS,if_pos hp])) ?_ (ha:=by first|rfl|(simp[ah.c,Head.c,VY] <;>repeat' constructor))
  simp(disch:=omega) [vU,ag,VZ]
  refine ao (cB l m hw) ?_ (ha:=by first|rfl|(simp[ah.c,aS.c,e,VY] <;>repeat' constructor))
  have hfin:(p.length:Int)+((bE m.head).length:Int)=1+(n:Int)+(((bE m.head).length+1:Nat):Int) - 1:=by omega
  have hfi2:(p.length:Int)+((bE m.head).length:Int)=1+(n:Int)+(((bE m.head).length:Int)+1) - 1:=by omega
  simp(disch:=omega) [hsz,ag,hfin,hfi2,VZ]
 ·obtain⟨p1,p2,p3,p4⟩:=O4 (l:=l) e
  rw[p1]at hp
  rw[List.length_cons,p2]at hsz
  rw[p2]at hlen
  have hput:=(fZ l p m.block hw.block (by omega)).re (bj hp)
  have hget:=Jq (p:=p) hp hl (by omega)
  have hsame:=jq m.block m.block hw.block.1 hw.block.1
  rw[tZ.2 rfl]at hsame
  rw[hat]at hget
  have hlb:(p++cC m.block).length=p.length+(cC m.block).length:=List.length_append
  have h7:bytes (p++cC m.block)++ [[D.int .u8 7]]=bytes (p++cC m.block++ [7]):=by simp[bytes]
  simp(disch:=omega) [e,htn,hrep,q1,VZ]
  refine ao (hput) ?_ (ha:=by first|rfl|(simp[ah.c,Block.c,Head.c,VY] <;>repeat' constructor))
  simp(disch:=omega) [h7,ag,VZ]
  refine ao (hget) ?_ (ha:=by first|rfl|(simp[ah.c,VY] <;>repeat' constructor))
  simp(disch:=omega) [Block.o,VZ]
  refine ao (hsame) ?_ (ha:=by first|rfl|(simp[Block.c,Head.c,VY] <;>repeat' constructor))
  simp(disch:=omega) [VZ]
  refine ao (cB l m hw) ?_ (ha:=by first|rfl|(simp[ah.c,aS.c,e,VY] <;>repeat' constructor))
  have hfin:(p.length:Int)+((cC m.block).length:Int)=1+(n:Int)+(((cC m.block).length+1:Nat):Int) - 1:=by omega
  have hfi2:(p.length:Int)+((cC m.block).length:Int)=1+(n:Int)+(((cC m.block).length:Int)+1) - 1:=by omega
  simp(disch:=omega) [hsz,ag,hfin,hfi2,VZ]
 ·obtain⟨p1,p2,p3,p4⟩:=OI (l:=l) e
  rw[p1]at hp
  rw[List.length_cons,p2]at hsz
  rw[p2]at hlen
  have hput:=(jD l p m.tc hw.tc (by omega)).re (bj hp)
  have hget:=OM (p:=p) hp hl (by omega)
  have hsame:=oj m.tc m.tc hw.tc hw.tc
  rw[Ce.2 rfl]at hsame
  rw[hat]at hget
  have hlb:(p++zt m.tc).length=p.length+(zt m.tc).length:=List.length_append
  have h7:bytes (p++zt m.tc)++ [[D.int .u8 7]]=bytes (p++zt m.tc++ [7]):=by simp[bytes]
  simp(disch:=omega) [e,htn,hrep,q1,VZ]
  refine ao (hput) ?_ (ha:=by first|rfl|(simp[ah.c,Tc.c,Head.c,VY] <;>repeat' constructor))
  simp(disch:=omega) [h7,ag,VZ]
  refine ao (hget) ?_ (ha:=by first|rfl|(simp[ah.c,VY] <;>repeat' constructor))
  simp(disch:=omega) [Tc.o,VZ]
  refine ao (hsame) ?_ (ha:=by first|rfl|(simp[Tc.c,Head.c,VY] <;>repeat' constructor))
  simp(disch:=omega) [VZ]
  refine ao (cB l m hw) ?_ (ha:=by first|rfl|(simp[ah.c,aS.c,e,VY] <;>repeat' constructor))
  have hfin:(p.length:Int)+((zt m.tc).length:Int)=1+(n:Int)+(((zt m.tc).length+1:Nat):Int) - 1:=by omega
  have hfi2:(p.length:Int)+((zt m.tc).length:Int)=1+(n:Int)+(((zt m.tc).length:Int)+1) - 1:=by omega
  simp(disch:=omega) [hsz,ag,hfin,hfi2,VZ]
 ·obtain⟨p1,p2,p3,p4⟩:=Ot (l:=l) e
  rw[p1]at hp
  rw[List.length_cons,p2]at hsz
  rw[p2]at hlen
  have hput:=(fX l p m.proof hw.proof (by omega)).re (bj hp)
  have hget:=J1 (p:=p) hp hl (by omega)
  have hsame:=iV m.proof m.proof hw.proof.1 hw.proof.1
  rw[tW.2 rfl]at hsame
  rw[hat]at hget
  have hlb:(p++cw m.proof).length=p.length+(cw m.proof).length:=List.length_append
  have h7:bytes (p++cw m.proof)++ [[D.int .u8 7]]=bytes (p++cw m.proof++ [7]):=by simp[bytes]
  simp(disch:=omega) [e,htn,hrep,q1,VZ]
  refine ao (hput) ?_ (ha:=by first|rfl|(simp[ah.c,Proof.c,Head.c,VY] <;>repeat' constructor))
  simp(disch:=omega) [h7,ag,VZ]
  refine ao (hget) ?_ (ha:=by first|rfl|(simp[ah.c,VY] <;>repeat' constructor))
  simp(disch:=omega) [Proof.o,VZ]
  refine ao (hsame) ?_ (ha:=by first|rfl|(simp[Proof.c,Head.c,VY] <;>repeat' constructor))
  simp(disch:=omega) [VZ]
  refine ao (cB l m hw) ?_ (ha:=by first|rfl|(simp[ah.c,aS.c,e,VY] <;>repeat' constructor))
  have hfin:(p.length:Int)+((cw m.proof).length:Int)=1+(n:Int)+(((cw m.proof).length+1:Nat):Int) - 1:=by omega
  have hfi2:(p.length:Int)+((cw m.proof).length:Int)=1+(n:Int)+(((cw m.proof).length:Int)+1) - 1:=by omega
  simp(disch:=omega) [hsz,ag,hfin,hfi2,VZ]
 ·obtain⟨p1,p2,p3,p4⟩:=OR (l:=l) e
  rw[p1]at hp
  rw[List.length_cons,p2]at hsz
  rw[p2]at hlen
  have hput:=(gF l p m.incl hw.incl hw.tx (by omega)).re (bj hp)
  have hget:=Kn (p:=p) hp hl (by omega)
  have hsame:=kn m.incl m.incl hw.incl hw.incl
  rw[wg.2 rfl]at hsame
  rw[hat]at hget
  have hlb:(p++dH m.incl).length=p.length+(dH m.incl).length:=List.length_append
  have h7:bytes (p++dH m.incl)++ [[D.int .u8 7]]=bytes (p++dH m.incl++ [7]):=by simp[bytes]
  simp(disch:=omega) [e,htn,hrep,q1,VZ]
  refine ao (hput) ?_ (ha:=by first|rfl|(simp[ah.c,aN.c,Head.c,VY] <;>repeat' constructor))
  simp(disch:=omega) [h7,ag,VZ]
  refine ao (hget) ?_ (ha:=by first|rfl|(simp[ah.c,VY] <;>repeat' constructor))
  simp(disch:=omega) [aN.o,VZ]
  refine ao (hsame) ?_ (ha:=by first|rfl|(simp[aN.c,Head.c,VY] <;>repeat' constructor))
  simp(disch:=omega) [VZ]
  refine ao (cB l m hw) ?_ (ha:=by first|rfl|(simp[ah.c,aS.c,e,VY] <;>repeat' constructor))
  have hfin:(p.length:Int)+((dH m.incl).length:Int)=1+(n:Int)+(((dH m.incl).length+1:Nat):Int) - 1:=by omega
  have hfi2:(p.length:Int)+((dH m.incl).length:Int)=1+(n:Int)+(((dH m.incl).length:Int)+1) - 1:=by omega
  simp(disch:=omega) [hsz,ag,hfin,hfi2,VZ]
end Go.Eng.F
