import Derived.Test.YtlhapfligolmcaaGreatGb
import Derived.Test.YtlhapfligolmcaaGreatGe
import Derived.Test.YtlhapfligolmcaaGreatGf
import Derived.Test.YtlhapfligolmcaaGreatGi
set_option maxRecDepth 100000
set_option linter.unusedSimpArgs false
set_option linter.unusedVariables false
namespace Go.Eng.U
theorem Cp {l:List C} (h:l.length=5):∃x0 x1 x2 x3 x4,l= [x0,x1,x2,x3,x4]:=by
 rcases l with _|⟨x0,l⟩
 ·simp at h
 rcases l with _|⟨x1,l⟩
 ·simp at h
 rcases l with _|⟨x2,l⟩
 ·simp at h
 rcases l with _|⟨x3,l⟩
 ·simp at h
 rcases l with _|⟨x4,l⟩
 ·simp at h
 ·simp at h;exact⟨x0,x1,x2,x3,x4,by simp[h]⟩
def NM:AF:=⟨1,5,[.cell 2 5 true],(.seq (.ops [.i (.lbox 1 (.s 0)), .i (.lal 2 [.int .i64 0, .int .i64 0, .int .i64 0, .int .i64 0, .int .i64 0])]) (.seq (.ops [.i (.lal 3 [.int .i64 0, .int .i64 0, .int .i64 0, .int .i64 0, .int .i64 0])]) (.seq (.ops [qf 4 1 0,ql 5 1 4 1 false,qf 6 3 0,qs 3 6 5 1]) (.seq (.ops [qf 7 1 1,ql 8 1 7 1 false,qf 9 3 1,qs 3 9 8 1]) (.seq (.ops [qf 10 1 2,ql 11 1 10 1 false,qf 12 3 2,qs 3 12 11 1]) (.seq (.ops [qf 13 1 3,ql 14 1 13 1 false,qf 15 3 3,qs 3 15 14 1]) (.seq (.ops [qf 16 1 4,ql 17 1 16 1 false,qf 18 3 4,qs 3 18 17 1]) (.seq (.ops [ql 19 3 3 5 true,qs 2 2 19 5]) .ret))))))))⟩
theorem Oq:cd 31=some NM:=by kernel_rfl
theorem tC:mM cd 31 TLimits:=by
 intro h cs v S hv hw
 obtain⟨vs,rfl,q0⟩:=hv.st
 obtain⟨v0,r0,S0,T0,rfl,rfl,h0,q1⟩:=q0.step
 obtain⟨n0,e0,rfl,rfl,lo0,hi0⟩:=h0.int
 obtain⟨v1,r1,S1,T1,rfl,rfl,h1,q2⟩:=q1.step
 obtain⟨n1,e1,rfl,rfl,lo1,hi1⟩:=h1.int
 obtain⟨v2,r2,S2,T2,rfl,rfl,h2,q3⟩:=q2.step
 obtain⟨n2,e2,rfl,rfl,lo2,hi2⟩:=h2.int
 obtain⟨v3,r3,S3,T3,rfl,rfl,h3,q4⟩:=q3.step
 obtain⟨n3,e3,rfl,rfl,lo3,hi3⟩:=h3.int
 obtain⟨v4,r4,S4,T4,rfl,rfl,h4,q5⟩:=q4.step
 obtain⟨n4,e4,rfl,rfl,lo4,hi4⟩:=h4.int
 obtain⟨_,rfl,rfl⟩:=q5
 have hsz:cs.length=5:=hv.size
 simp only[Ty.size,Ty.aN,Nat.reduceAdd,Nat.zero_add,List.drop_zero]at e0 e1 e2 e3 e4 hsz
 simp only[wt,dg]at hw
 refine aw Oq rfl ?_
 simp(disch:=omega) only[ae,NM,e0,e1,e2,e3,e4,hsz,ax,au,SX,SU,SL,reduceCtorEq,Nat.reduceAdd,Nat.reduceLeDiff,reduceIte]
 exact⟨[],_,_,by simp,rfl,⟨_,rfl,(Rs.mk (Rp.mkInt lo0 hi0) (Rs.mk (Rp.mkInt lo1 hi1) (Rs.mk (Rp.mkInt lo2 hi2) (Rs.mk (Rp.mkInt lo3 hi3) (Rs.mk (Rp.mkInt lo4 hi4) Rs.nil)))))⟩,by simp[cY],by simp⟩
def Np:AF:=⟨2,4,[.tmp 4],(.seq (.ops [.i (.mov 4 (qi 0))]) (.seq (.ops [qm 5 1,qm 6 0,qn 7 6,qd 8 .sub 5 7,qm 1 8]) (.seq (.seq (.ops [qm 9 1, .i (.bin 10 .lss (.s 9) (qi 0))]) (.cond (.s 10) (.seq (.ops [.i (.mov 4 (qi (-1)))]) .ret) .skip)) (.seq (.ops [qm 11 1,qm 4 11]) .ret))))⟩
theorem NA:cd 149=some Np:=by kernel_rfl
theorem eM:c8 cd 149 (.sl (.int .u8)):=JQ NA
def H7:AF:=⟨2,5,[.tmp 4],(.seq (.ops [.i (.lbox 2 (.s 0)), .i (.mov 4 (qi 0))]) (.seq (.ops [qf 5 2 2,ql 6 2 5 1 false,qm 7 1, .i (.call 9 149 false [(.s 6),(.s 7)]),qm 1 8]) (.seq (.seq (.ops [qm 9 1, .i (.bin 10 .lss (.s 9) (qi 0))]) (.cond (.s 10) (.seq (.ops [.i (.mov 4 (qi (-1)))]) .ret) .skip)) (.seq (.ops [qf 11 2 4,ql 12 2 11 1 false,qm 13 1, .i (.call 15 149 false [(.s 12),(.s 13)]),qm 1 14]) (.seq (.seq (.ops [qm 15 1, .i (.bin 16 .lss (.s 15) (qi 0))]) (.cond (.s 16) (.seq (.ops [.i (.mov 4 (qi (-1)))]) .ret) .skip)) (.seq (.ops [qm 17 1,qm 4 17]) .ret))))))⟩
theorem On:cd 79=some H7:=by kernel_rfl
theorem I8:c8 cd 79 cq:=by
 intro h cs v S k hv hk
 obtain⟨vs,rfl,q0⟩:=hv.st
 obtain⟨v0,r0,S0,T0,rfl,rfl,h0,q1⟩:=q0.step
 obtain⟨n0,e0,rfl,rfl,lo0,hi0⟩:=h0.int
 obtain⟨v1,r1,S1,T1,rfl,rfl,h1,q2⟩:=q1.step
 obtain⟨n1,e1,rfl,rfl,lo1,hi1⟩:=h1.int
 obtain⟨v2,r2,S2,T2,rfl,rfl,h2,q3⟩:=q2.step
 obtain⟨c2,e2⟩:=h2.one rfl
 rw[e2]at h2
 obtain⟨v3,r3,S3,T3,rfl,rfl,h3,q4⟩:=q3.step
 obtain⟨n3,e3,rfl,rfl,lo3,hi3⟩:=h3.int
 obtain⟨v4,r4,S4,T4,rfl,rfl,h4,q5⟩:=q4.step
 obtain⟨c4,e4⟩:=h4.one rfl
 rw[e4]at h4
 obtain⟨_,rfl,rfl⟩:=q5
 have hsz:cs.length=5:=hv.size
 simp only[Ty.size,Ty.aN,Nat.reduceAdd,Nat.zero_add,List.drop_zero]at e0 e1 e2 e3 e4 hsz
 have hw:wt (.r [.i n0, .i n1,v2, .i n3,v4])=wt v2+wt v4:=by simp only[wt,dg];omega
 rw[hw]
 refine aw On rfl ?_
 simp(disch:=omega) only[H7,e0,e1,e2,e3,e4,hsz,ax,au,SX,SU,SL,reduceCtorEq,Nat.reduceAdd,Nat.reduceLeDiff,reduceIte]
 refine c8.go eM h2 (k:=k) (by omega) (fun hf0=> ?_) (fun hf0=> ?_)
 case refine_2=>
  simp(disch:=omega) only[ae,H7,e0,e1,e2,e3,e4,hsz,ax,au,SX,SU,SL,reduceCtorEq,Nat.reduceAdd,Nat.reduceLeDiff,reduceIte]
  refine aq (fun hn=> ?_) (fun hn=>absurd (show(-1:Int) < 0 by omega) hn)
  simp(disch:=omega) only[H7,e0,e1,e2,e3,e4,hsz,ax,au,SX,SU,SL,reduceCtorEq,Nat.reduceAdd,Nat.reduceLeDiff,reduceIte]
  rw[if_neg (by omega)]
 simp(disch:=omega) only[ae,H7,e0,e1,e2,e3,e4,hsz,ax,au,SX,SU,SL,reduceCtorEq,Nat.reduceAdd,Nat.reduceLeDiff,reduceIte]
 refine aq (fun hn=>absurd hn (by omega)) (fun hn=> ?_)
 simp(disch:=omega) only[H7,e0,e1,e2,e3,e4,hsz,ax,au,SX,SU,SL,reduceCtorEq,Nat.reduceAdd,Nat.reduceLeDiff,reduceIte]
 refine c8.go eM h4 (k:=k - wt v2) (by omega) (fun hf1=> ?_) (fun hf1=> ?_)
 case refine_2=>
  simp(disch:=omega) only[ae,H7,e0,e1,e2,e3,e4,hsz,ax,au,SX,SU,SL,reduceCtorEq,Nat.reduceAdd,Nat.reduceLeDiff,reduceIte]
  refine aq (fun hn=> ?_) (fun hn=>absurd (show(-1:Int) < 0 by omega) hn)
  simp(disch:=omega) only[H7,e0,e1,e2,e3,e4,hsz,ax,au,SX,SU,SL,reduceCtorEq,Nat.reduceAdd,Nat.reduceLeDiff,reduceIte]
  rw[if_neg (by omega)]
 simp(disch:=omega) only[ae,H7,e0,e1,e2,e3,e4,hsz,ax,au,SX,SU,SL,reduceCtorEq,Nat.reduceAdd,Nat.reduceLeDiff,reduceIte]
 refine aq (fun hn=>absurd hn (by omega)) (fun hn=> ?_)
 simp(disch:=omega) only[H7,e0,e1,e2,e3,e4,hsz,ax,au,SX,SU,SL,reduceCtorEq,Nat.reduceAdd,Nat.reduceLeDiff,reduceIte]
 congr 3
 omega
def MY:AF:=⟨2,5,[.tmp 4],(.seq (.ops [.i (.mov 4 (qi 0))]) (.seq (.ops [qm 6 1,qm 7 0,qn 8 7,qd 9 .sub 6 8,qm 1 9]) (.seq (.seq (.ops [qm 10 1, .i (.bin 11 .lss (.s 10) (qi 0))]) (.cond (.s 11) (.seq (.ops [.i (.mov 4 (qi (-1)))]) .ret) .skip)) (.seq (.seq (.ops [.i (.mov 5 (qi 0))]) (.block 0 (.loop [25,24,23,22,21,20,19,18,17,16,15,14,13,12] (.seq (.seq (.ops [qm 12 5,qm 13 0,qn 14 13,qd 15 .lss 12 14]) (.cond (.s 15) .skip (.exit 0))) (.seq (.block 1 (.seq (.ops [qm 18 0,qm 19 5, .i (.iad 20 (.s 18) (.s 19) 1), .i (.ldh 21 (.s 20) 1 false),qm 22 1, .i (.call 24 149 false [(.s 21),(.s 22)]),qm 1 23]) (.seq (.ops [qm 24 1, .i (.bin 25 .lss (.s 24) (qi 0))]) (.cond (.s 25) (.seq (.ops [.i (.mov 4 (qi (-1)))]) .ret) .skip)))) (.ops [qm 16 5, .i (.bin 17 .add (.s 16) (qi 1)),qm 5 17])))))) (.seq (.ops [qm 26 1,qm 4 26]) .ret)))))⟩
theorem M4:cd 150=some MY:=by kernel_rfl
theorem tf:c8 cd 150 (.sl (.sl (.int .u8))):=Gn M4 eM
def Eg:AF:=⟨2,5,[.tmp 4],(.seq (.ops [.i (.lbox 2 (.s 0)), .i (.mov 4 (qi 0))]) (.seq (.ops [qf 5 2 2,ql 6 2 5 1 false,qm 7 1, .i (.call 9 149 false [(.s 6),(.s 7)]),qm 1 8]) (.seq (.seq (.ops [qm 9 1, .i (.bin 10 .lss (.s 9) (qi 0))]) (.cond (.s 10) (.seq (.ops [.i (.mov 4 (qi (-1)))]) .ret) .skip)) (.seq (.ops [qf 11 2 3,ql 12 2 11 1 false,qm 13 1, .i (.call 15 149 false [(.s 12),(.s 13)]),qm 1 14]) (.seq (.seq (.ops [qm 15 1, .i (.bin 16 .lss (.s 15) (qi 0))]) (.cond (.s 16) (.seq (.ops [.i (.mov 4 (qi (-1)))]) .ret) .skip)) (.seq (.ops [qf 17 2 4,ql 18 2 17 1 false,qm 19 1, .i (.call 21 150 false [(.s 18),(.s 19)]),qm 1 20]) (.seq (.seq (.ops [qm 21 1, .i (.bin 22 .lss (.s 21) (qi 0))]) (.cond (.s 22) (.seq (.ops [.i (.mov 4 (qi (-1)))]) .ret) .skip)) (.seq (.ops [qm 23 1,qm 4 23]) .ret))))))))⟩
theorem Of:cd 80=some Eg:=by kernel_rfl
theorem HO:c8 cd 80 fZ:=by
 intro h cs v S k hv hk
 obtain⟨vs,rfl,q0⟩:=hv.st
 obtain⟨v0,r0,S0,T0,rfl,rfl,h0,q1⟩:=q0.step
 obtain⟨n0,e0,rfl,rfl,lo0,hi0⟩:=h0.int
 obtain⟨v1,r1,S1,T1,rfl,rfl,h1,q2⟩:=q1.step
 obtain⟨n1,e1,rfl,rfl,lo1,hi1⟩:=h1.int
 obtain⟨v2,r2,S2,T2,rfl,rfl,h2,q3⟩:=q2.step
 obtain⟨c2,e2⟩:=h2.one rfl
 rw[e2]at h2
 obtain⟨v3,r3,S3,T3,rfl,rfl,h3,q4⟩:=q3.step
 obtain⟨c3,e3⟩:=h3.one rfl
 rw[e3]at h3
 obtain⟨v4,r4,S4,T4,rfl,rfl,h4,q5⟩:=q4.step
 obtain⟨c4,e4⟩:=h4.one rfl
 rw[e4]at h4
 obtain⟨_,rfl,rfl⟩:=q5
 have hsz:cs.length=5:=hv.size
 simp only[Ty.size,Ty.aN,Nat.reduceAdd,Nat.zero_add,List.drop_zero]at e0 e1 e2 e3 e4 hsz
 have hw:wt (.r [.i n0, .i n1,v2,v3,v4])=wt v2+wt v3+wt v4:=by simp only[wt,dg];omega
 rw[hw]
 refine aw Of rfl ?_
 simp(disch:=omega) only[Eg,e0,e1,e2,e3,e4,hsz,ax,au,SX,SU,SL,reduceCtorEq,Nat.reduceAdd,Nat.reduceLeDiff,reduceIte]
 refine c8.go eM h2 (k:=k) (by omega) (fun hf0=> ?_) (fun hf0=> ?_)
 case refine_2=>
  simp(disch:=omega) only[ae,Eg,e0,e1,e2,e3,e4,hsz,ax,au,SX,SU,SL,reduceCtorEq,Nat.reduceAdd,Nat.reduceLeDiff,reduceIte]
  refine aq (fun hn=> ?_) (fun hn=>absurd (show(-1:Int) < 0 by omega) hn)
  simp(disch:=omega) only[Eg,e0,e1,e2,e3,e4,hsz,ax,au,SX,SU,SL,reduceCtorEq,Nat.reduceAdd,Nat.reduceLeDiff,reduceIte]
  rw[if_neg (by omega)]
 simp(disch:=omega) only[ae,Eg,e0,e1,e2,e3,e4,hsz,ax,au,SX,SU,SL,reduceCtorEq,Nat.reduceAdd,Nat.reduceLeDiff,reduceIte]
 refine aq (fun hn=>absurd hn (by omega)) (fun hn=> ?_)
 simp(disch:=omega) only[Eg,e0,e1,e2,e3,e4,hsz,ax,au,SX,SU,SL,reduceCtorEq,Nat.reduceAdd,Nat.reduceLeDiff,reduceIte]
 refine c8.go eM h3 (k:=k - wt v2) (by omega) (fun hf1=> ?_) (fun hf1=> ?_)
 case refine_2=>
  simp(disch:=omega) only[ae,Eg,e0,e1,e2,e3,e4,hsz,ax,au,SX,SU,SL,reduceCtorEq,Nat.reduceAdd,Nat.reduceLeDiff,reduceIte]
  refine aq (fun hn=> ?_) (fun hn=>absurd (show(-1:Int) < 0 by omega) hn)
  simp(disch:=omega) only[Eg,e0,e1,e2,e3,e4,hsz,ax,au,SX,SU,SL,reduceCtorEq,Nat.reduceAdd,Nat.reduceLeDiff,reduceIte]
  rw[if_neg (by omega)]
 simp(disch:=omega) only[ae,Eg,e0,e1,e2,e3,e4,hsz,ax,au,SX,SU,SL,reduceCtorEq,Nat.reduceAdd,Nat.reduceLeDiff,reduceIte]
 refine aq (fun hn=>absurd hn (by omega)) (fun hn=> ?_)
 simp(disch:=omega) only[Eg,e0,e1,e2,e3,e4,hsz,ax,au,SX,SU,SL,reduceCtorEq,Nat.reduceAdd,Nat.reduceLeDiff,reduceIte]
 refine c8.go tf h4 (k:=k - wt v2 - wt v3) (by omega) (fun hf2=> ?_) (fun hf2=> ?_)
 case refine_2=>
  simp(disch:=omega) only[ae,Eg,e0,e1,e2,e3,e4,hsz,ax,au,SX,SU,SL,reduceCtorEq,Nat.reduceAdd,Nat.reduceLeDiff,reduceIte]
  refine aq (fun hn=> ?_) (fun hn=>absurd (show(-1:Int) < 0 by omega) hn)
  simp(disch:=omega) only[Eg,e0,e1,e2,e3,e4,hsz,ax,au,SX,SU,SL,reduceCtorEq,Nat.reduceAdd,Nat.reduceLeDiff,reduceIte]
  rw[if_neg (by omega)]
 simp(disch:=omega) only[ae,Eg,e0,e1,e2,e3,e4,hsz,ax,au,SX,SU,SL,reduceCtorEq,Nat.reduceAdd,Nat.reduceLeDiff,reduceIte]
 refine aq (fun hn=>absurd hn (by omega)) (fun hn=> ?_)
 simp(disch:=omega) only[Eg,e0,e1,e2,e3,e4,hsz,ax,au,SX,SU,SL,reduceCtorEq,Nat.reduceAdd,Nat.reduceLeDiff,reduceIte]
 congr 3
 omega
theorem DV {l:List C} (h:l.length=10):∃x0 x1 x2 x3 x4 x5 x6 x7 x8 x9,l= [x0,x1,x2,x3,x4,x5,x6,x7,x8,x9]:=by
 rcases l with _|⟨x0,l⟩
 ·simp at h
 rcases l with _|⟨x1,l⟩
 ·simp at h
 rcases l with _|⟨x2,l⟩
 ·simp at h
 rcases l with _|⟨x3,l⟩
 ·simp at h
 rcases l with _|⟨x4,l⟩
 ·simp at h
 rcases l with _|⟨x5,l⟩
 ·simp at h
 rcases l with _|⟨x6,l⟩
 ·simp at h
 rcases l with _|⟨x7,l⟩
 ·simp at h
 rcases l with _|⟨x8,l⟩
 ·simp at h
 rcases l with _|⟨x9,l⟩
 ·simp at h
 ·simp at h;exact⟨x0,x1,x2,x3,x4,x5,x6,x7,x8,x9,by simp[h]⟩
def ET:AF:=⟨2,5,[.tmp 4],(.seq (.ops [.i (.lbox 2 (.s 0)), .i (.mov 4 (qi 0))]) (.seq (.ops [qf 5 2 3,ql 6 2 5 1 false,qm 7 1, .i (.call 9 149 false [(.s 6),(.s 7)]),qm 1 8]) (.seq (.seq (.ops [qm 9 1, .i (.bin 10 .lss (.s 9) (qi 0))]) (.cond (.s 10) (.seq (.ops [.i (.mov 4 (qi (-1)))]) .ret) .skip)) (.seq (.ops [qf 11 2 4,ql 12 2 11 1 false,qm 13 1, .i (.call 15 149 false [(.s 12),(.s 13)]),qm 1 14]) (.seq (.seq (.ops [qm 15 1, .i (.bin 16 .lss (.s 15) (qi 0))]) (.cond (.s 16) (.seq (.ops [.i (.mov 4 (qi (-1)))]) .ret) .skip)) (.seq (.ops [qf 17 2 5,ql 18 2 17 5 true,qm 19 1, .i (.call 21 80 false [(.s 18),(.s 19)]),qm 1 20]) (.seq (.seq (.ops [qm 21 1, .i (.bin 22 .lss (.s 21) (qi 0))]) (.cond (.s 22) (.seq (.ops [.i (.mov 4 (qi (-1)))]) .ret) .skip)) (.seq (.ops [qm 23 1,qm 4 23]) .ret))))))))⟩
theorem Oo:cd 81=some ET:=by kernel_rfl
theorem BA:c8 cd 81 ao:=by
 intro h cs v S k hv hk
 obtain⟨vs,rfl,q0⟩:=hv.st
 obtain⟨v0,r0,S0,T0,rfl,rfl,h0,q1⟩:=q0.step
 obtain⟨n0,e0,rfl,rfl,lo0,hi0⟩:=h0.int
 obtain⟨v1,r1,S1,T1,rfl,rfl,h1,q2⟩:=q1.step
 obtain⟨n1,e1,rfl,rfl,lo1,hi1⟩:=h1.int
 obtain⟨v2,r2,S2,T2,rfl,rfl,h2,q3⟩:=q2.step
 obtain⟨n2,e2,rfl,rfl,lo2,hi2⟩:=h2.int
 obtain⟨v3,r3,S3,T3,rfl,rfl,h3,q4⟩:=q3.step
 obtain⟨c3,e3⟩:=h3.one rfl
 rw[e3]at h3
 obtain⟨v4,r4,S4,T4,rfl,rfl,h4,q5⟩:=q4.step
 obtain⟨c4,e4⟩:=h4.one rfl
 rw[e4]at h4
 obtain⟨v5,r5,S5,T5,rfl,rfl,h5,q6⟩:=q5.step
 obtain⟨_,rfl,rfl⟩:=q6
 have hsz:cs.length=10:=hv.size
 simp only[Ty.size,Ty.aN,Nat.reduceAdd,Nat.zero_add,List.drop_zero]at e0 e1 e2 e3 e4 hsz h5
 have hw:wt (.r [.i n0, .i n1, .i n2,v3,v4,v5])=wt v3+wt v4+wt v5:=by simp only[wt,dg];omega
 rw[hw]
 refine aw Oo rfl ?_
 simp(disch:=omega) only[ET,e0,e1,e2,e3,e4,hsz,ax,au,SX,SU,SL,reduceCtorEq,Nat.reduceAdd,Nat.reduceLeDiff,reduceIte]
 refine c8.go eM h3 (k:=k) (by omega) (fun hf0=> ?_) (fun hf0=> ?_)
 case refine_2=>
  simp(disch:=omega) only[ae,ET,e0,e1,e2,e3,e4,hsz,ax,au,SX,SU,SL,reduceCtorEq,Nat.reduceAdd,Nat.reduceLeDiff,reduceIte]
  refine aq (fun hn=> ?_) (fun hn=>absurd (show(-1:Int) < 0 by omega) hn)
  simp(disch:=omega) only[ET,e0,e1,e2,e3,e4,hsz,ax,au,SX,SU,SL,reduceCtorEq,Nat.reduceAdd,Nat.reduceLeDiff,reduceIte]
  rw[if_neg (by omega)]
 simp(disch:=omega) only[ae,ET,e0,e1,e2,e3,e4,hsz,ax,au,SX,SU,SL,reduceCtorEq,Nat.reduceAdd,Nat.reduceLeDiff,reduceIte]
 refine aq (fun hn=>absurd hn (by omega)) (fun hn=> ?_)
 simp(disch:=omega) only[ET,e0,e1,e2,e3,e4,hsz,ax,au,SX,SU,SL,reduceCtorEq,Nat.reduceAdd,Nat.reduceLeDiff,reduceIte]
 refine c8.go eM h4 (k:=k - wt v3) (by omega) (fun hf1=> ?_) (fun hf1=> ?_)
 case refine_2=>
  simp(disch:=omega) only[ae,ET,e0,e1,e2,e3,e4,hsz,ax,au,SX,SU,SL,reduceCtorEq,Nat.reduceAdd,Nat.reduceLeDiff,reduceIte]
  refine aq (fun hn=> ?_) (fun hn=>absurd (show(-1:Int) < 0 by omega) hn)
  simp(disch:=omega) only[ET,e0,e1,e2,e3,e4,hsz,ax,au,SX,SU,SL,reduceCtorEq,Nat.reduceAdd,Nat.reduceLeDiff,reduceIte]
  rw[if_neg (by omega)]
 simp(disch:=omega) only[ae,ET,e0,e1,e2,e3,e4,hsz,ax,au,SX,SU,SL,reduceCtorEq,Nat.reduceAdd,Nat.reduceLeDiff,reduceIte]
 refine aq (fun hn=>absurd hn (by omega)) (fun hn=> ?_)
 simp(disch:=omega) only[ET,e0,e1,e2,e3,e4,hsz,ax,au,SX,SU,SL,reduceCtorEq,Nat.reduceAdd,Nat.reduceLeDiff,reduceIte]
 refine c8.go HO h5 (k:=k - wt v3 - wt v4) (by omega) (fun hf2=> ?_) (fun hf2=> ?_)
 case refine_2=>
  simp(disch:=omega) only[ae,ET,e0,e1,e2,e3,e4,hsz,ax,au,SX,SU,SL,reduceCtorEq,Nat.reduceAdd,Nat.reduceLeDiff,reduceIte]
  refine aq (fun hn=> ?_) (fun hn=>absurd (show(-1:Int) < 0 by omega) hn)
  simp(disch:=omega) only[ET,e0,e1,e2,e3,e4,hsz,ax,au,SX,SU,SL,reduceCtorEq,Nat.reduceAdd,Nat.reduceLeDiff,reduceIte]
  rw[if_neg (by omega)]
 simp(disch:=omega) only[ae,ET,e0,e1,e2,e3,e4,hsz,ax,au,SX,SU,SL,reduceCtorEq,Nat.reduceAdd,Nat.reduceLeDiff,reduceIte]
 refine aq (fun hn=>absurd hn (by omega)) (fun hn=> ?_)
 simp(disch:=omega) only[ET,e0,e1,e2,e3,e4,hsz,ax,au,SX,SU,SL,reduceCtorEq,Nat.reduceAdd,Nat.reduceLeDiff,reduceIte]
 congr 3
 omega
theorem Lw {l:List C} (h:l.length=11):∃x0 x1 x2 x3 x4 x5 x6 x7 x8 x9 x10,l= [x0,x1,x2,x3,x4,x5,x6,x7,x8,x9,x10]:=by
 rcases l with _|⟨x0,l⟩
 ·simp at h
 rcases l with _|⟨x1,l⟩
 ·simp at h
 rcases l with _|⟨x2,l⟩
 ·simp at h
 rcases l with _|⟨x3,l⟩
 ·simp at h
 rcases l with _|⟨x4,l⟩
 ·simp at h
 rcases l with _|⟨x5,l⟩
 ·simp at h
 rcases l with _|⟨x6,l⟩
 ·simp at h
 rcases l with _|⟨x7,l⟩
 ·simp at h
 rcases l with _|⟨x8,l⟩
 ·simp at h
 rcases l with _|⟨x9,l⟩
 ·simp at h
 rcases l with _|⟨x10,l⟩
 ·simp at h
 ·simp at h;exact⟨x0,x1,x2,x3,x4,x5,x6,x7,x8,x9,x10,by simp[h]⟩
def Ie:AF:=⟨2,5,[.tmp 4],(.seq (.ops [.i (.lbox 2 (.s 0)), .i (.mov 4 (qi 0))]) (.seq (.ops [qf 5 2 0,ql 6 2 5 10 true,qm 7 1, .i (.call 9 81 false [(.s 6),(.s 7)]),qm 1 8]) (.seq (.seq (.ops [qm 9 1, .i (.bin 10 .lss (.s 9) (qi 0))]) (.cond (.s 10) (.seq (.ops [.i (.mov 4 (qi (-1)))]) .ret) .skip)) (.seq (.ops [qf 11 2 10,ql 12 2 11 1 false,qm 13 1, .i (.call 15 150 false [(.s 12),(.s 13)]),qm 1 14]) (.seq (.seq (.ops [qm 15 1, .i (.bin 16 .lss (.s 15) (qi 0))]) (.cond (.s 16) (.seq (.ops [.i (.mov 4 (qi (-1)))]) .ret) .skip)) (.seq (.ops [qm 17 1,qm 4 17]) .ret))))))⟩
theorem Ot:cd 82=some Ie:=by kernel_rfl
theorem G6:c8 cd 82 bL:=by
 intro h cs v S k hv hk
 obtain⟨vs,rfl,q0⟩:=hv.st
 obtain⟨v0,r0,S0,T0,rfl,rfl,h0,q1⟩:=q0.step
 obtain⟨v1,r1,S1,T1,rfl,rfl,h1,q2⟩:=q1.step
 obtain⟨c1,e1⟩:=h1.one rfl
 rw[e1]at h1
 obtain⟨_,rfl,rfl⟩:=q2
 have hsz:cs.length=11:=hv.size
 simp only[Ty.size,Ty.aN,Nat.reduceAdd,Nat.zero_add,List.drop_zero]at e1 hsz h0
 have hw:wt (.r [v0,v1])=wt v0+wt v1:=by simp only[wt,dg];omega
 rw[hw]
 refine aw Ot rfl ?_
 simp(disch:=omega) only[Ie,e1,hsz,ax,au,SX,SU,SL,reduceCtorEq,Nat.reduceAdd,Nat.reduceLeDiff,reduceIte]
 refine c8.go BA h0 (k:=k) (by omega) (fun hf0=> ?_) (fun hf0=> ?_)
 case refine_2=>
  simp(disch:=omega) only[ae,Ie,e1,hsz,ax,au,SX,SU,SL,reduceCtorEq,Nat.reduceAdd,Nat.reduceLeDiff,reduceIte]
  refine aq (fun hn=> ?_) (fun hn=>absurd (show(-1:Int) < 0 by omega) hn)
  simp(disch:=omega) only[Ie,e1,hsz,ax,au,SX,SU,SL,reduceCtorEq,Nat.reduceAdd,Nat.reduceLeDiff,reduceIte]
  rw[if_neg (by omega)]
 simp(disch:=omega) only[ae,Ie,e1,hsz,ax,au,SX,SU,SL,reduceCtorEq,Nat.reduceAdd,Nat.reduceLeDiff,reduceIte]
 refine aq (fun hn=>absurd hn (by omega)) (fun hn=> ?_)
 simp(disch:=omega) only[Ie,e1,hsz,ax,au,SX,SU,SL,reduceCtorEq,Nat.reduceAdd,Nat.reduceLeDiff,reduceIte]
 refine c8.go tf h1 (k:=k - wt v0) (by omega) (fun hf1=> ?_) (fun hf1=> ?_)
 case refine_2=>
  simp(disch:=omega) only[ae,Ie,e1,hsz,ax,au,SX,SU,SL,reduceCtorEq,Nat.reduceAdd,Nat.reduceLeDiff,reduceIte]
  refine aq (fun hn=> ?_) (fun hn=>absurd (show(-1:Int) < 0 by omega) hn)
  simp(disch:=omega) only[Ie,e1,hsz,ax,au,SX,SU,SL,reduceCtorEq,Nat.reduceAdd,Nat.reduceLeDiff,reduceIte]
  rw[if_neg (by omega)]
 simp(disch:=omega) only[ae,Ie,e1,hsz,ax,au,SX,SU,SL,reduceCtorEq,Nat.reduceAdd,Nat.reduceLeDiff,reduceIte]
 refine aq (fun hn=>absurd hn (by omega)) (fun hn=> ?_)
 simp(disch:=omega) only[Ie,e1,hsz,ax,au,SX,SU,SL,reduceCtorEq,Nat.reduceAdd,Nat.reduceLeDiff,reduceIte]
 congr 3
 omega
theorem Mx {l:List C} (h:l.length=3):∃x0 x1 x2,l= [x0,x1,x2]:=by
 rcases l with _|⟨x0,l⟩
 ·simp at h
 rcases l with _|⟨x1,l⟩
 ·simp at h
 rcases l with _|⟨x2,l⟩
 ·simp at h
 ·simp at h;exact⟨x0,x1,x2,by simp[h]⟩
def FD:AF:=⟨2,4,[.tmp 4],(.seq (.ops [.i (.lbox 2 (.s 0)), .i (.mov 4 (qi 0))]) (.seq (.ops [qf 5 2 2,ql 6 2 5 1 false,qm 7 1, .i (.call 9 149 false [(.s 6),(.s 7)]),qm 1 8]) (.seq (.seq (.ops [qm 9 1, .i (.bin 10 .lss (.s 9) (qi 0))]) (.cond (.s 10) (.seq (.ops [.i (.mov 4 (qi (-1)))]) .ret) .skip)) (.seq (.ops [qm 11 1,qm 4 11]) .ret))))⟩
theorem M7:cd 226=some FD:=by kernel_rfl
theorem Gq:c8 cd 226 aQ:=by
 intro h cs v S k hv hk
 obtain⟨vs,rfl,q0⟩:=hv.st
 obtain⟨v0,r0,S0,T0,rfl,rfl,h0,q1⟩:=q0.step
 obtain⟨n0,e0,rfl,rfl,lo0,hi0⟩:=h0.int
 obtain⟨v1,r1,S1,T1,rfl,rfl,h1,q2⟩:=q1.step
 obtain⟨n1,e1,rfl,rfl,lo1,hi1⟩:=h1.int
 obtain⟨v2,r2,S2,T2,rfl,rfl,h2,q3⟩:=q2.step
 obtain⟨c2,e2⟩:=h2.one rfl
 rw[e2]at h2
 obtain⟨_,rfl,rfl⟩:=q3
 have hsz:cs.length=3:=hv.size
 simp only[Ty.size,Ty.aN,Nat.reduceAdd,Nat.zero_add,List.drop_zero]at e0 e1 e2 hsz
 have hw:wt (.r [.i n0, .i n1,v2])=wt v2:=by simp only[wt,dg];omega
 rw[hw]
 refine aw M7 rfl ?_
 simp(disch:=omega) only[FD,e0,e1,e2,hsz,ax,au,SX,SU,SL,reduceCtorEq,Nat.reduceAdd,Nat.reduceLeDiff,reduceIte]
 refine c8.go eM h2 (k:=k) (by omega) (fun hf0=> ?_) (fun hf0=> ?_)
 case refine_2=>
  simp(disch:=omega) only[ae,FD,e0,e1,e2,hsz,ax,au,SX,SU,SL,reduceCtorEq,Nat.reduceAdd,Nat.reduceLeDiff,reduceIte]
  refine aq (fun hn=> ?_) (fun hn=>absurd (show(-1:Int) < 0 by omega) hn)
  simp(disch:=omega) only[FD,e0,e1,e2,hsz,ax,au,SX,SU,SL,reduceCtorEq,Nat.reduceAdd,Nat.reduceLeDiff,reduceIte]
  rw[if_neg (by omega)]
 simp(disch:=omega) only[ae,FD,e0,e1,e2,hsz,ax,au,SX,SU,SL,reduceCtorEq,Nat.reduceAdd,Nat.reduceLeDiff,reduceIte]
 refine aq (fun hn=>absurd hn (by omega)) (fun hn=> ?_)
 simp(disch:=omega) only[FD,e0,e1,e2,hsz,ax,au,SX,SU,SL,reduceCtorEq,Nat.reduceAdd,Nat.reduceLeDiff,reduceIte]
 congr 3
 omega
def MZ:AF:=⟨2,5,[.tmp 4],(.seq (.ops [.i (.mov 4 (qi 0))]) (.seq (.ops [qm 6 1,qm 7 0,qn 8 7,qd 9 .sub 6 8,qm 1 9]) (.seq (.seq (.ops [qm 10 1, .i (.bin 11 .lss (.s 10) (qi 0))]) (.cond (.s 11) (.seq (.ops [.i (.mov 4 (qi (-1)))]) .ret) .skip)) (.seq (.seq (.ops [.i (.mov 5 (qi 0))]) (.block 0 (.loop [25,24,23,22,21,20,19,18,17,16,15,14,13,12] (.seq (.seq (.ops [qm 12 5,qm 13 0,qn 14 13,qd 15 .lss 12 14]) (.cond (.s 15) .skip (.exit 0))) (.seq (.block 1 (.seq (.ops [qm 18 0,qm 19 5, .i (.iad 20 (.s 18) (.s 19) 3), .i (.ldh 21 (.s 20) 3 true),qm 22 1, .i (.call 24 226 false [(.s 21),(.s 22)]),qm 1 23]) (.seq (.ops [qm 24 1, .i (.bin 25 .lss (.s 24) (qi 0))]) (.cond (.s 25) (.seq (.ops [.i (.mov 4 (qi (-1)))]) .ret) .skip)))) (.ops [qm 16 5, .i (.bin 17 .add (.s 16) (qi 1)),qm 5 17])))))) (.seq (.ops [qm 26 1,qm 4 26]) .ret)))))⟩
theorem ND:cd 151=some MZ:=by kernel_rfl
theorem FZ:c8 cd 151 (.sl aQ):=Gn ND Gq
theorem Ml {l:List C} (h:l.length=2):∃x0 x1,l= [x0,x1]:=by
 rcases l with _|⟨x0,l⟩
 ·simp at h
 rcases l with _|⟨x1,l⟩
 ·simp at h
 ·simp at h;exact⟨x0,x1,by simp[h]⟩
def LG:AF:=⟨2,4,[.tmp 4],(.seq (.ops [.i (.lbox 2 (.s 0)), .i (.mov 4 (qi 0))]) (.seq (.ops [qf 5 2 1,ql 6 2 5 1 false,qm 7 1, .i (.call 9 151 false [(.s 6),(.s 7)]),qm 1 8]) (.seq (.seq (.ops [qm 9 1, .i (.bin 10 .lss (.s 9) (qi 0))]) (.cond (.s 10) (.seq (.ops [.i (.mov 4 (qi (-1)))]) .ret) .skip)) (.seq (.ops [qm 11 1,qm 4 11]) .ret))))⟩
theorem OB:cd 83=some LG:=by kernel_rfl
theorem L7:c8 cd 83 yB:=by
 intro h cs v S k hv hk
 obtain⟨vs,rfl,q0⟩:=hv.st
 obtain⟨v0,r0,S0,T0,rfl,rfl,h0,q1⟩:=q0.step
 obtain⟨n0,e0,rfl,rfl,lo0,hi0⟩:=h0.int
 obtain⟨v1,r1,S1,T1,rfl,rfl,h1,q2⟩:=q1.step
 obtain⟨c1,e1⟩:=h1.one rfl
 rw[e1]at h1
 obtain⟨_,rfl,rfl⟩:=q2
 have hsz:cs.length=2:=hv.size
 simp only[Ty.size,Ty.aN,Nat.reduceAdd,Nat.zero_add,List.drop_zero]at e0 e1 hsz
 have hw:wt (.r [.i n0,v1])=wt v1:=by simp only[wt,dg];omega
 rw[hw]
 refine aw OB rfl ?_
 simp(disch:=omega) only[LG,e0,e1,hsz,ax,au,SX,SU,SL,reduceCtorEq,Nat.reduceAdd,Nat.reduceLeDiff,reduceIte]
 refine c8.go FZ h1 (k:=k) (by omega) (fun hf0=> ?_) (fun hf0=> ?_)
 case refine_2=>
  simp(disch:=omega) only[ae,LG,e0,e1,hsz,ax,au,SX,SU,SL,reduceCtorEq,Nat.reduceAdd,Nat.reduceLeDiff,reduceIte]
  refine aq (fun hn=> ?_) (fun hn=>absurd (show(-1:Int) < 0 by omega) hn)
  simp(disch:=omega) only[LG,e0,e1,hsz,ax,au,SX,SU,SL,reduceCtorEq,Nat.reduceAdd,Nat.reduceLeDiff,reduceIte]
  rw[if_neg (by omega)]
 simp(disch:=omega) only[ae,LG,e0,e1,hsz,ax,au,SX,SU,SL,reduceCtorEq,Nat.reduceAdd,Nat.reduceLeDiff,reduceIte]
 refine aq (fun hn=>absurd hn (by omega)) (fun hn=> ?_)
 simp(disch:=omega) only[LG,e0,e1,hsz,ax,au,SX,SU,SL,reduceCtorEq,Nat.reduceAdd,Nat.reduceLeDiff,reduceIte]
 congr 3
 omega
def Ol:AF:=⟨2,5,[.tmp 4],(.seq (.ops [.i (.mov 4 (qi 0))]) (.seq (.ops [qm 6 1,qm 7 0,qn 8 7,qd 9 .sub 6 8,qm 1 9]) (.seq (.seq (.ops [qm 10 1, .i (.bin 11 .lss (.s 10) (qi 0))]) (.cond (.s 11) (.seq (.ops [.i (.mov 4 (qi (-1)))]) .ret) .skip)) (.seq (.seq (.ops [.i (.mov 5 (qi 0))]) (.block 0 (.loop [25,24,23,22,21,20,19,18,17,16,15,14,13,12] (.seq (.seq (.ops [qm 12 5,qm 13 0,qn 14 13,qd 15 .lss 12 14]) (.cond (.s 15) .skip (.exit 0))) (.seq (.block 1 (.seq (.ops [qm 18 0,qm 19 5, .i (.iad 20 (.s 18) (.s 19) 10), .i (.ldh 21 (.s 20) 10 true),qm 22 1, .i (.call 24 81 false [(.s 21),(.s 22)]),qm 1 23]) (.seq (.ops [qm 24 1, .i (.bin 25 .lss (.s 24) (qi 0))]) (.cond (.s 25) (.seq (.ops [.i (.mov 4 (qi (-1)))]) .ret) .skip)))) (.ops [qm 16 5, .i (.bin 17 .add (.s 16) (qi 1)),qm 5 17])))))) (.seq (.ops [qm 26 1,qm 4 26]) .ret)))))⟩
theorem N7:cd 64=some Ol:=by kernel_rfl
theorem Hm:c8 cd 64 (.sl ao):=Gn N7 BA
theorem LP {l:List C} (h:l.length=6):∃x0 x1 x2 x3 x4 x5,l= [x0,x1,x2,x3,x4,x5]:=by
 rcases l with _|⟨x0,l⟩
 ·simp at h
 rcases l with _|⟨x1,l⟩
 ·simp at h
 rcases l with _|⟨x2,l⟩
 ·simp at h
 rcases l with _|⟨x3,l⟩
 ·simp at h
 rcases l with _|⟨x4,l⟩
 ·simp at h
 rcases l with _|⟨x5,l⟩
 ·simp at h
 ·simp at h;exact⟨x0,x1,x2,x3,x4,x5,by simp[h]⟩
def Ia:AF:=⟨2,5,[.tmp 4],(.seq (.ops [.i (.lbox 2 (.s 0)), .i (.mov 4 (qi 0))]) (.seq (.ops [qf 5 2 0,ql 6 2 5 1 false,qm 7 1, .i (.call 9 64 false [(.s 6),(.s 7)]),qm 1 8]) (.seq (.seq (.ops [qm 9 1, .i (.bin 10 .lss (.s 9) (qi 0))]) (.cond (.s 10) (.seq (.ops [.i (.mov 4 (qi (-1)))]) .ret) .skip)) (.seq (.ops [qf 11 2 1,ql 12 2 11 5 true,qm 13 1, .i (.call 15 80 false [(.s 12),(.s 13)]),qm 1 14]) (.seq (.seq (.ops [qm 15 1, .i (.bin 16 .lss (.s 15) (qi 0))]) (.cond (.s 16) (.seq (.ops [.i (.mov 4 (qi (-1)))]) .ret) .skip)) (.seq (.ops [qm 17 1,qm 4 17]) .ret))))))⟩
theorem Oi:cd 84=some Ia:=by kernel_rfl
theorem Gj:c8 cd 84 cj:=by
 intro h cs v S k hv hk
 obtain⟨vs,rfl,q0⟩:=hv.st
 obtain⟨v0,r0,S0,T0,rfl,rfl,h0,q1⟩:=q0.step
 obtain⟨c0,e0⟩:=h0.one rfl
 rw[e0]at h0
 obtain⟨v1,r1,S1,T1,rfl,rfl,h1,q2⟩:=q1.step
 obtain⟨_,rfl,rfl⟩:=q2
 have hsz:cs.length=6:=hv.size
 simp only[Ty.size,Ty.aN,Nat.reduceAdd,Nat.zero_add,List.drop_zero]at e0 hsz h1
 have hw:wt (.r [v0,v1])=wt v0+wt v1:=by simp only[wt,dg];omega
 rw[hw]
 refine aw Oi rfl ?_
 simp(disch:=omega) only[Ia,e0,hsz,ax,au,SX,SU,SL,reduceCtorEq,Nat.reduceAdd,Nat.reduceLeDiff,reduceIte]
 refine c8.go Hm h0 (k:=k) (by omega) (fun hf0=> ?_) (fun hf0=> ?_)
 case refine_2=>
  simp(disch:=omega) only[ae,Ia,e0,hsz,ax,au,SX,SU,SL,reduceCtorEq,Nat.reduceAdd,Nat.reduceLeDiff,reduceIte]
  refine aq (fun hn=> ?_) (fun hn=>absurd (show(-1:Int) < 0 by omega) hn)
  simp(disch:=omega) only[Ia,e0,hsz,ax,au,SX,SU,SL,reduceCtorEq,Nat.reduceAdd,Nat.reduceLeDiff,reduceIte]
  rw[if_neg (by omega)]
 simp(disch:=omega) only[ae,Ia,e0,hsz,ax,au,SX,SU,SL,reduceCtorEq,Nat.reduceAdd,Nat.reduceLeDiff,reduceIte]
 refine aq (fun hn=>absurd hn (by omega)) (fun hn=> ?_)
 simp(disch:=omega) only[Ia,e0,hsz,ax,au,SX,SU,SL,reduceCtorEq,Nat.reduceAdd,Nat.reduceLeDiff,reduceIte]
 refine c8.go HO h1 (k:=k - wt v0) (by omega) (fun hf1=> ?_) (fun hf1=> ?_)
 case refine_2=>
  simp(disch:=omega) only[ae,Ia,e0,hsz,ax,au,SX,SU,SL,reduceCtorEq,Nat.reduceAdd,Nat.reduceLeDiff,reduceIte]
  refine aq (fun hn=> ?_) (fun hn=>absurd (show(-1:Int) < 0 by omega) hn)
  simp(disch:=omega) only[Ia,e0,hsz,ax,au,SX,SU,SL,reduceCtorEq,Nat.reduceAdd,Nat.reduceLeDiff,reduceIte]
  rw[if_neg (by omega)]
 simp(disch:=omega) only[ae,Ia,e0,hsz,ax,au,SX,SU,SL,reduceCtorEq,Nat.reduceAdd,Nat.reduceLeDiff,reduceIte]
 refine aq (fun hn=>absurd hn (by omega)) (fun hn=> ?_)
 simp(disch:=omega) only[Ia,e0,hsz,ax,au,SX,SU,SL,reduceCtorEq,Nat.reduceAdd,Nat.reduceLeDiff,reduceIte]
 congr 3
 omega
def H9:AF:=⟨2,5,[.tmp 4],(.seq (.ops [.i (.lbox 2 (.s 0)), .i (.mov 4 (qi 0))]) (.seq (.ops [qf 5 2 3,ql 6 2 5 1 false,qm 7 1, .i (.call 9 149 false [(.s 6),(.s 7)]),qm 1 8]) (.seq (.seq (.ops [qm 9 1, .i (.bin 10 .lss (.s 9) (qi 0))]) (.cond (.s 10) (.seq (.ops [.i (.mov 4 (qi (-1)))]) .ret) .skip)) (.seq (.ops [qf 11 2 4,ql 12 2 11 1 false,qm 13 1, .i (.call 15 150 false [(.s 12),(.s 13)]),qm 1 14]) (.seq (.seq (.ops [qm 15 1, .i (.bin 16 .lss (.s 15) (qi 0))]) (.cond (.s 16) (.seq (.ops [.i (.mov 4 (qi (-1)))]) .ret) .skip)) (.seq (.ops [qm 17 1,qm 4 17]) .ret))))))⟩
theorem NX:cd 85=some H9:=by kernel_rfl
theorem IZ:c8 cd 85 gW:=by
 intro h cs v S k hv hk
 obtain⟨vs,rfl,q0⟩:=hv.st
 obtain⟨v0,r0,S0,T0,rfl,rfl,h0,q1⟩:=q0.step
 obtain⟨n0,e0,rfl,rfl,lo0,hi0⟩:=h0.int
 obtain⟨v1,r1,S1,T1,rfl,rfl,h1,q2⟩:=q1.step
 obtain⟨n1,e1,rfl,rfl,lo1,hi1⟩:=h1.int
 obtain⟨v2,r2,S2,T2,rfl,rfl,h2,q3⟩:=q2.step
 obtain⟨n2,e2,rfl,rfl,lo2,hi2⟩:=h2.int
 obtain⟨v3,r3,S3,T3,rfl,rfl,h3,q4⟩:=q3.step
 obtain⟨c3,e3⟩:=h3.one rfl
 rw[e3]at h3
 obtain⟨v4,r4,S4,T4,rfl,rfl,h4,q5⟩:=q4.step
 obtain⟨c4,e4⟩:=h4.one rfl
 rw[e4]at h4
 obtain⟨_,rfl,rfl⟩:=q5
 have hsz:cs.length=5:=hv.size
 simp only[Ty.size,Ty.aN,Nat.reduceAdd,Nat.zero_add,List.drop_zero]at e0 e1 e2 e3 e4 hsz
 have hw:wt (.r [.i n0, .i n1, .i n2,v3,v4])=wt v3+wt v4:=by simp only[wt,dg];omega
 rw[hw]
 refine aw NX rfl ?_
 simp(disch:=omega) only[H9,e0,e1,e2,e3,e4,hsz,ax,au,SX,SU,SL,reduceCtorEq,Nat.reduceAdd,Nat.reduceLeDiff,reduceIte]
 refine c8.go eM h3 (k:=k) (by omega) (fun hf0=> ?_) (fun hf0=> ?_)
 case refine_2=>
  simp(disch:=omega) only[ae,H9,e0,e1,e2,e3,e4,hsz,ax,au,SX,SU,SL,reduceCtorEq,Nat.reduceAdd,Nat.reduceLeDiff,reduceIte]
  refine aq (fun hn=> ?_) (fun hn=>absurd (show(-1:Int) < 0 by omega) hn)
  simp(disch:=omega) only[H9,e0,e1,e2,e3,e4,hsz,ax,au,SX,SU,SL,reduceCtorEq,Nat.reduceAdd,Nat.reduceLeDiff,reduceIte]
  rw[if_neg (by omega)]
 simp(disch:=omega) only[ae,H9,e0,e1,e2,e3,e4,hsz,ax,au,SX,SU,SL,reduceCtorEq,Nat.reduceAdd,Nat.reduceLeDiff,reduceIte]
 refine aq (fun hn=>absurd hn (by omega)) (fun hn=> ?_)
 simp(disch:=omega) only[H9,e0,e1,e2,e3,e4,hsz,ax,au,SX,SU,SL,reduceCtorEq,Nat.reduceAdd,Nat.reduceLeDiff,reduceIte]
 refine c8.go tf h4 (k:=k - wt v3) (by omega) (fun hf1=> ?_) (fun hf1=> ?_)
 case refine_2=>
  simp(disch:=omega) only[ae,H9,e0,e1,e2,e3,e4,hsz,ax,au,SX,SU,SL,reduceCtorEq,Nat.reduceAdd,Nat.reduceLeDiff,reduceIte]
  refine aq (fun hn=> ?_) (fun hn=>absurd (show(-1:Int) < 0 by omega) hn)
  simp(disch:=omega) only[H9,e0,e1,e2,e3,e4,hsz,ax,au,SX,SU,SL,reduceCtorEq,Nat.reduceAdd,Nat.reduceLeDiff,reduceIte]
  rw[if_neg (by omega)]
 simp(disch:=omega) only[ae,H9,e0,e1,e2,e3,e4,hsz,ax,au,SX,SU,SL,reduceCtorEq,Nat.reduceAdd,Nat.reduceLeDiff,reduceIte]
 refine aq (fun hn=>absurd hn (by omega)) (fun hn=> ?_)
 simp(disch:=omega) only[H9,e0,e1,e2,e3,e4,hsz,ax,au,SX,SU,SL,reduceCtorEq,Nat.reduceAdd,Nat.reduceLeDiff,reduceIte]
 congr 3
 omega
def ra:AF:=⟨2,6,[.tmp 4],(.seq (.ops [.i (.lbox 2 (.s 0)), .i (.mov 4 (qi 0))]) (.seq (.ops [qf 5 2 1,ql 6 2 5 5 true,qm 7 1, .i (.call 9 79 false [(.s 6),(.s 7)]),qm 1 8]) (.seq (.seq (.ops [qm 9 1, .i (.bin 10 .lss (.s 9) (qi 0))]) (.cond (.s 10) (.seq (.ops [.i (.mov 4 (qi (-1)))]) .ret) .skip)) (.seq (.ops [qf 11 2 6,ql 12 2 11 5 true,qm 13 1, .i (.call 15 80 false [(.s 12),(.s 13)]),qm 1 14]) (.seq (.seq (.ops [qm 15 1, .i (.bin 16 .lss (.s 15) (qi 0))]) (.cond (.s 16) (.seq (.ops [.i (.mov 4 (qi (-1)))]) .ret) .skip)) (.seq (.ops [qf 17 2 11,ql 18 2 17 10 true,qm 19 1, .i (.call 21 81 false [(.s 18),(.s 19)]),qm 1 20]) (.seq (.seq (.ops [qm 21 1, .i (.bin 22 .lss (.s 21) (qi 0))]) (.cond (.s 22) (.seq (.ops [.i (.mov 4 (qi (-1)))]) .ret) .skip)) (.seq (.ops [qf 23 2 21,ql 24 2 23 11 true,qm 25 1, .i (.call 27 82 false [(.s 24),(.s 25)]),qm 1 26]) (.seq (.seq (.ops [qm 27 1, .i (.bin 28 .lss (.s 27) (qi 0))]) (.cond (.s 28) (.seq (.ops [.i (.mov 4 (qi (-1)))]) .ret) .skip)) (.seq (.ops [qf 29 2 32,ql 30 2 29 2 true,qm 31 1, .i (.call 33 83 false [(.s 30),(.s 31)]),qm 1 32]) (.seq (.seq (.ops [qm 33 1, .i (.bin 34 .lss (.s 33) (qi 0))]) (.cond (.s 34) (.seq (.ops [.i (.mov 4 (qi (-1)))]) .ret) .skip)) (.seq (.ops [qf 35 2 34,ql 36 2 35 6 true,qm 37 1, .i (.call 39 84 false [(.s 36),(.s 37)]),qm 1 38]) (.seq (.seq (.ops [qm 39 1, .i (.bin 40 .lss (.s 39) (qi 0))]) (.cond (.s 40) (.seq (.ops [.i (.mov 4 (qi (-1)))]) .ret) .skip)) (.seq (.ops [qf 41 2 40,ql 42 2 41 5 true,qm 43 1, .i (.call 45 85 false [(.s 42),(.s 43)]),qm 1 44]) (.seq (.seq (.ops [qm 45 1, .i (.bin 46 .lss (.s 45) (qi 0))]) (.cond (.s 46) (.seq (.ops [.i (.mov 4 (qi (-1)))]) .ret) .skip)) (.seq (.ops [qm 47 1,qm 4 47]) .ret))))))))))))))))⟩
theorem NZ:cd 29=some ra:=by kernel_rfl
theorem LD:c8 cd 29 TMsg:=by
 intro h cs v S k hv hk
 obtain⟨vs,rfl,q0⟩:=hv.st
 obtain⟨v0,r0,S0,T0,rfl,rfl,h0,q1⟩:=q0.step
 obtain⟨n0,e0,rfl,rfl,lo0,hi0⟩:=h0.int
 obtain⟨v1,r1,S1,T1,rfl,rfl,h1,q2⟩:=q1.step
 obtain⟨v2,r2,S2,T2,rfl,rfl,h2,q3⟩:=q2.step
 obtain⟨v3,r3,S3,T3,rfl,rfl,h3,q4⟩:=q3.step
 obtain⟨v4,r4,S4,T4,rfl,rfl,h4,q5⟩:=q4.step
 obtain⟨v5,r5,S5,T5,rfl,rfl,h5,q6⟩:=q5.step
 obtain⟨v6,r6,S6,T6,rfl,rfl,h6,q7⟩:=q6.step
 obtain⟨v7,r7,S7,T7,rfl,rfl,h7,q8⟩:=q7.step
 obtain⟨_,rfl,rfl⟩:=q8
 have hsz:cs.length=45:=hv.size
 simp only[Ty.size,Ty.aN,Nat.reduceAdd,Nat.zero_add,List.drop_zero]at e0 hsz h1 h2 h3 h4 h5 h6 h7
 have hw:wt (.r [.i n0,v1,v2,v3,v4,v5,v6,v7])=wt v1+wt v2+wt v3+wt v4+wt v5+wt v6+wt v7:=by simp only[wt,dg];omega
 rw[hw]
 refine aw NZ rfl ?_
 simp(disch:=omega) only[ra,e0,hsz,ax,au,SX,SU,SL,reduceCtorEq,Nat.reduceAdd,Nat.reduceLeDiff,reduceIte]
 refine c8.go I8 h1 (k:=k) (by omega) (fun hf0=> ?_) (fun hf0=> ?_)
 case refine_2=>
  simp(disch:=omega) only[ae,ra,e0,hsz,ax,au,SX,SU,SL,reduceCtorEq,Nat.reduceAdd,Nat.reduceLeDiff,reduceIte]
  refine aq (fun hn=> ?_) (fun hn=>absurd (show(-1:Int) < 0 by omega) hn)
  simp(disch:=omega) only[ra,e0,hsz,ax,au,SX,SU,SL,reduceCtorEq,Nat.reduceAdd,Nat.reduceLeDiff,reduceIte]
  rw[if_neg (by omega)]
 simp(disch:=omega) only[ae,ra,e0,hsz,ax,au,SX,SU,SL,reduceCtorEq,Nat.reduceAdd,Nat.reduceLeDiff,reduceIte]
 refine aq (fun hn=>absurd hn (by omega)) (fun hn=> ?_)
 simp(disch:=omega) only[ra,e0,hsz,ax,au,SX,SU,SL,reduceCtorEq,Nat.reduceAdd,Nat.reduceLeDiff,reduceIte]
 refine c8.go HO h2 (k:=k - wt v1) (by omega) (fun hf1=> ?_) (fun hf1=> ?_)
 case refine_2=>
  simp(disch:=omega) only[ae,ra,e0,hsz,ax,au,SX,SU,SL,reduceCtorEq,Nat.reduceAdd,Nat.reduceLeDiff,reduceIte]
  refine aq (fun hn=> ?_) (fun hn=>absurd (show(-1:Int) < 0 by omega) hn)
  simp(disch:=omega) only[ra,e0,hsz,ax,au,SX,SU,SL,reduceCtorEq,Nat.reduceAdd,Nat.reduceLeDiff,reduceIte]
  rw[if_neg (by omega)]
 simp(disch:=omega) only[ae,ra,e0,hsz,ax,au,SX,SU,SL,reduceCtorEq,Nat.reduceAdd,Nat.reduceLeDiff,reduceIte]
 refine aq (fun hn=>absurd hn (by omega)) (fun hn=> ?_)
 simp(disch:=omega) only[ra,e0,hsz,ax,au,SX,SU,SL,reduceCtorEq,Nat.reduceAdd,Nat.reduceLeDiff,reduceIte]
 refine c8.go BA h3 (k:=k - wt v1 - wt v2) (by omega) (fun hf2=> ?_) (fun hf2=> ?_)
 case refine_2=>
  simp(disch:=omega) only[ae,ra,e0,hsz,ax,au,SX,SU,SL,reduceCtorEq,Nat.reduceAdd,Nat.reduceLeDiff,reduceIte]
  refine aq (fun hn=> ?_) (fun hn=>absurd (show(-1:Int) < 0 by omega) hn)
  simp(disch:=omega) only[ra,e0,hsz,ax,au,SX,SU,SL,reduceCtorEq,Nat.reduceAdd,Nat.reduceLeDiff,reduceIte]
  rw[if_neg (by omega)]
 simp(disch:=omega) only[ae,ra,e0,hsz,ax,au,SX,SU,SL,reduceCtorEq,Nat.reduceAdd,Nat.reduceLeDiff,reduceIte]
 refine aq (fun hn=>absurd hn (by omega)) (fun hn=> ?_)
 simp(disch:=omega) only[ra,e0,hsz,ax,au,SX,SU,SL,reduceCtorEq,Nat.reduceAdd,Nat.reduceLeDiff,reduceIte]
 refine c8.go G6 h4 (k:=k - wt v1 - wt v2 - wt v3) (by omega) (fun hf3=> ?_) (fun hf3=> ?_)
 case refine_2=>
  simp(disch:=omega) only[ae,ra,e0,hsz,ax,au,SX,SU,SL,reduceCtorEq,Nat.reduceAdd,Nat.reduceLeDiff,reduceIte]
  refine aq (fun hn=> ?_) (fun hn=>absurd (show(-1:Int) < 0 by omega) hn)
  simp(disch:=omega) only[ra,e0,hsz,ax,au,SX,SU,SL,reduceCtorEq,Nat.reduceAdd,Nat.reduceLeDiff,reduceIte]
  rw[if_neg (by omega)]
 simp(disch:=omega) only[ae,ra,e0,hsz,ax,au,SX,SU,SL,reduceCtorEq,Nat.reduceAdd,Nat.reduceLeDiff,reduceIte]
 refine aq (fun hn=>absurd hn (by omega)) (fun hn=> ?_)
 simp(disch:=omega) only[ra,e0,hsz,ax,au,SX,SU,SL,reduceCtorEq,Nat.reduceAdd,Nat.reduceLeDiff,reduceIte]
 refine c8.go L7 h5 (k:=k - wt v1 - wt v2 - wt v3 - wt v4) (by omega) (fun hf4=> ?_) (fun hf4=> ?_)
 case refine_2=>
  simp(disch:=omega) only[ae,ra,e0,hsz,ax,au,SX,SU,SL,reduceCtorEq,Nat.reduceAdd,Nat.reduceLeDiff,reduceIte]
  refine aq (fun hn=> ?_) (fun hn=>absurd (show(-1:Int) < 0 by omega) hn)
  simp(disch:=omega) only[ra,e0,hsz,ax,au,SX,SU,SL,reduceCtorEq,Nat.reduceAdd,Nat.reduceLeDiff,reduceIte]
  rw[if_neg (by omega)]
 simp(disch:=omega) only[ae,ra,e0,hsz,ax,au,SX,SU,SL,reduceCtorEq,Nat.reduceAdd,Nat.reduceLeDiff,reduceIte]
 refine aq (fun hn=>absurd hn (by omega)) (fun hn=> ?_)
 simp(disch:=omega) only[ra,e0,hsz,ax,au,SX,SU,SL,reduceCtorEq,Nat.reduceAdd,Nat.reduceLeDiff,reduceIte]
 refine c8.go Gj h6 (k:=k - wt v1 - wt v2 - wt v3 - wt v4 - wt v5) (by omega) (fun hf5=> ?_) (fun hf5=> ?_)
 case refine_2=>
  simp(disch:=omega) only[ae,ra,e0,hsz,ax,au,SX,SU,SL,reduceCtorEq,Nat.reduceAdd,Nat.reduceLeDiff,reduceIte]
  refine aq (fun hn=> ?_) (fun hn=>absurd (show(-1:Int) < 0 by omega) hn)
  simp(disch:=omega) only[ra,e0,hsz,ax,au,SX,SU,SL,reduceCtorEq,Nat.reduceAdd,Nat.reduceLeDiff,reduceIte]
  rw[if_neg (by omega)]
 simp(disch:=omega) only[ae,ra,e0,hsz,ax,au,SX,SU,SL,reduceCtorEq,Nat.reduceAdd,Nat.reduceLeDiff,reduceIte]
 refine aq (fun hn=>absurd hn (by omega)) (fun hn=> ?_)
 simp(disch:=omega) only[ra,e0,hsz,ax,au,SX,SU,SL,reduceCtorEq,Nat.reduceAdd,Nat.reduceLeDiff,reduceIte]
 refine c8.go IZ h7 (k:=k - wt v1 - wt v2 - wt v3 - wt v4 - wt v5 - wt v6) (by omega) (fun hf6=> ?_) (fun hf6=> ?_)
 case refine_2=>
  simp(disch:=omega) only[ae,ra,e0,hsz,ax,au,SX,SU,SL,reduceCtorEq,Nat.reduceAdd,Nat.reduceLeDiff,reduceIte]
  refine aq (fun hn=> ?_) (fun hn=>absurd (show(-1:Int) < 0 by omega) hn)
  simp(disch:=omega) only[ra,e0,hsz,ax,au,SX,SU,SL,reduceCtorEq,Nat.reduceAdd,Nat.reduceLeDiff,reduceIte]
  rw[if_neg (by omega)]
 simp(disch:=omega) only[ae,ra,e0,hsz,ax,au,SX,SU,SL,reduceCtorEq,Nat.reduceAdd,Nat.reduceLeDiff,reduceIte]
 refine aq (fun hn=>absurd hn (by omega)) (fun hn=> ?_)
 simp(disch:=omega) only[ra,e0,hsz,ax,au,SX,SU,SL,reduceCtorEq,Nat.reduceAdd,Nat.reduceLeDiff,reduceIte]
 congr 3
 omega
def Nn:AF:=⟨1,5,[.tmp 2],(.seq (.ops [.i (.mov 2 (.c (.val false [.nils])))]) (.seq (.ops [qm 5 0,qn 6 5, .i (.mks 7 5 1 1 [.int .u8 0] (.s 6)),qm 3 7]) (.seq (.seq (.ops [.i (.mov 4 (qi 0))]) (.block 0 (.loop [20,19,18,17,16,15,14,13,12,11,10,9,8] (.seq (.seq (.ops [qm 8 4,qm 9 0,qn 10 9,qd 11 .lss 8 10]) (.cond (.s 11) .skip (.exit 0))) (.seq (.block 1 (.ops [qm 14 3,qm 15 4,qm 16 0,qm 17 4, .i (.iad 18 (.s 16) (.s 17) 1), .i (.ldh 19 (.s 18) 1 false), .i (.iad 20 (.s 14) (.s 15) 1), .i (.sth (.s 20) (.s 19) 1)])) (.ops [qm 12 4, .i (.bin 13 .add (.s 12) (qi 1)),qm 4 13])))))) (.seq (.ops [qm 21 3,qm 2 21]) .ret))))⟩
theorem Nw:cd 174=some Nn:=by kernel_rfl
theorem eL:mM cd 174 (.sl (.int .u8)):=Ir Nw (by omega)
def MP:AF:=⟨1,5,[.cell 2 5 true],(.seq (.ops [.i (.lbox 1 (.s 0)), .i (.lal 2 [.int .i64 0, .int .i64 0, .nils, .int .i64 0, .nils])]) (.seq (.ops [.i (.lal 3 [.int .i64 0, .int .i64 0, .nils, .int .i64 0, .nils])]) (.seq (.ops [qf 4 1 0,ql 5 1 4 1 false,qf 6 3 0,qs 3 6 5 1]) (.seq (.ops [qf 7 1 1,ql 8 1 7 1 false,qf 9 3 1,qs 3 9 8 1]) (.seq (.ops [qf 10 1 2,ql 11 1 10 1 false,qk 13 174 11,qf 13 3 2,qs 3 13 12 1]) (.seq (.ops [qf 14 1 3,ql 15 1 14 1 false,qf 16 3 3,qs 3 16 15 1]) (.seq (.ops [qf 17 1 4,ql 18 1 17 1 false,qk 20 174 18,qf 20 3 4,qs 3 20 19 1]) (.seq (.ops [ql 21 3 3 5 true,qs 2 2 21 5]) .ret))))))))⟩
theorem Oz:cd 90=some MP:=by kernel_rfl
theorem IP:mM cd 90 cq:=by
 intro h cs v S hv hw
 obtain⟨vs,rfl,q0⟩:=hv.st
 obtain⟨v0,r0,S0,T0,rfl,rfl,h0,q1⟩:=q0.step
 obtain⟨n0,e0,rfl,rfl,lo0,hi0⟩:=h0.int
 obtain⟨v1,r1,S1,T1,rfl,rfl,h1,q2⟩:=q1.step
 obtain⟨n1,e1,rfl,rfl,lo1,hi1⟩:=h1.int
 obtain⟨v2,r2,S2,T2,rfl,rfl,h2,q3⟩:=q2.step
 obtain⟨c2,e2⟩:=h2.one rfl
 rw[e2]at h2
 obtain⟨v3,r3,S3,T3,rfl,rfl,h3,q4⟩:=q3.step
 obtain⟨n3,e3,rfl,rfl,lo3,hi3⟩:=h3.int
 obtain⟨v4,r4,S4,T4,rfl,rfl,h4,q5⟩:=q4.step
 obtain⟨c4,e4⟩:=h4.one rfl
 rw[e4]at h4
 obtain⟨_,rfl,rfl⟩:=q5
 have hsz:cs.length=5:=hv.size
 simp only[Ty.size,Ty.aN,Nat.reduceAdd,Nat.zero_add,List.drop_zero]at e0 e1 e2 e3 e4 hsz
 simp only[wt,dg]at hw
 refine aw Oz rfl ?_
 simp(disch:=omega) only[ae,MP,e0,e1,e2,e3,e4,hsz,ax,au,SX,SU,SL,reduceCtorEq,Nat.reduceAdd,Nat.reduceLeDiff,reduceIte]
 refine aH (eL h2 (by omega)) ?_
 rintro r0 g0 ⟨t0,d0,U0,rfl,rfl,z0,o0,l0⟩
 obtain⟨y0_0,rfl⟩:=z0.one rfl
 simp(disch:=omega) only[ae,MP,e0,e1,e2,e3,e4,hsz,ax,au,SX,SU,SL,reduceCtorEq,Nat.reduceAdd,Nat.reduceLeDiff,reduceIte]
 refine aH (eL (h4.app) (by omega)) ?_
 rintro r1 g1 ⟨t1,d1,U1,rfl,rfl,z1,o1,l1⟩
 obtain⟨y1_0,rfl⟩:=z1.one rfl
 simp(disch:=omega) only[ae,MP,e0,e1,e2,e3,e4,hsz,ax,au,SX,SU,SL,reduceCtorEq,Nat.reduceAdd,Nat.reduceLeDiff,reduceIte]
 refine⟨(t0++t1),_,_,by simp only[List.append_assoc],rfl,⟨_,rfl,(Rs.mk (Rp.mkInt lo0 hi0) (Rs.mk (Rp.mkInt lo1 hi1) (Rs.mk (z0.app) (Rs.mk (Rp.mkInt lo3 hi3) (Rs.mk z1 Rs.nil)))))⟩,?_⟩
 have fr:=(jF.step (jF.step (jF.nil h) z0.lt o0 l0) z1.lt o1 l1)
 simpa only[List.nil_append,List.append_nil,List.append_assoc]using fr.both
def M1:AF:=⟨1,5,[.tmp 2],(.seq (.ops [.i (.mov 2 (.c (.val false [.nils])))]) (.seq (.ops [qm 5 0,qn 6 5, .i (.mks 7 22 1 24 [.nils] (.s 6)),qm 3 7]) (.seq (.seq (.ops [.i (.mov 4 (qi 0))]) (.block 0 (.loop [21,20,19,18,17,16,15,14,13,12,11,10,9,8] (.seq (.seq (.ops [qm 8 4,qm 9 0,qn 10 9,qd 11 .lss 8 10]) (.cond (.s 11) .skip (.exit 0))) (.seq (.block 1 (.ops [qm 14 3,qm 15 4,qm 16 0,qm 17 4, .i (.iad 18 (.s 16) (.s 17) 1), .i (.ldh 19 (.s 18) 1 false),qk 21 174 19, .i (.iad 21 (.s 14) (.s 15) 1), .i (.sth (.s 21) (.s 20) 1)])) (.ops [qm 12 4, .i (.bin 13 .add (.s 12) (qi 1)),qm 4 13])))))) (.seq (.ops [qm 22 3,qm 2 22]) .ret))))⟩
theorem Nq:cd 175=some M1:=by kernel_rfl
theorem sV:mM cd 175 (.sl (.sl (.int .u8))):=GC Nq (by omega) rfl eL
def My:AF:=⟨1,5,[.cell 2 5 true],(.seq (.ops [.i (.lbox 1 (.s 0)), .i (.lal 2 [.int .i64 0, .int .i64 0, .nils, .nils, .nils])]) (.seq (.ops [.i (.lal 3 [.int .i64 0, .int .i64 0, .nils, .nils, .nils])]) (.seq (.ops [qf 4 1 0,ql 5 1 4 1 false,qf 6 3 0,qs 3 6 5 1]) (.seq (.ops [qf 7 1 1,ql 8 1 7 1 false,qf 9 3 1,qs 3 9 8 1]) (.seq (.ops [qf 10 1 2,ql 11 1 10 1 false,qk 13 174 11,qf 13 3 2,qs 3 13 12 1]) (.seq (.ops [qf 14 1 3,ql 15 1 14 1 false,qk 17 174 15,qf 17 3 3,qs 3 17 16 1]) (.seq (.ops [qf 18 1 4,ql 19 1 18 1 false,qk 21 175 19,qf 21 3 4,qs 3 21 20 1]) (.seq (.ops [ql 22 3 3 5 true,qs 2 2 22 5]) .ret))))))))⟩
theorem OA:cd 91=some My:=by kernel_rfl
theorem G7:mM cd 91 fZ:=by
 intro h cs v S hv hw
 obtain⟨vs,rfl,q0⟩:=hv.st
 obtain⟨v0,r0,S0,T0,rfl,rfl,h0,q1⟩:=q0.step
 obtain⟨n0,e0,rfl,rfl,lo0,hi0⟩:=h0.int
 obtain⟨v1,r1,S1,T1,rfl,rfl,h1,q2⟩:=q1.step
 obtain⟨n1,e1,rfl,rfl,lo1,hi1⟩:=h1.int
 obtain⟨v2,r2,S2,T2,rfl,rfl,h2,q3⟩:=q2.step
 obtain⟨c2,e2⟩:=h2.one rfl
 rw[e2]at h2
 obtain⟨v3,r3,S3,T3,rfl,rfl,h3,q4⟩:=q3.step
 obtain⟨c3,e3⟩:=h3.one rfl
 rw[e3]at h3
 obtain⟨v4,r4,S4,T4,rfl,rfl,h4,q5⟩:=q4.step
 obtain⟨c4,e4⟩:=h4.one rfl
 rw[e4]at h4
 obtain⟨_,rfl,rfl⟩:=q5
 have hsz:cs.length=5:=hv.size
 simp only[Ty.size,Ty.aN,Nat.reduceAdd,Nat.zero_add,List.drop_zero]at e0 e1 e2 e3 e4 hsz
 simp only[wt,dg]at hw
 refine aw OA rfl ?_
 simp(disch:=omega) only[ae,My,e0,e1,e2,e3,e4,hsz,ax,au,SX,SU,SL,reduceCtorEq,Nat.reduceAdd,Nat.reduceLeDiff,reduceIte]
 refine aH (eL h2 (by omega)) ?_
 rintro r0 g0 ⟨t0,d0,U0,rfl,rfl,z0,o0,l0⟩
 obtain⟨y0_0,rfl⟩:=z0.one rfl
 simp(disch:=omega) only[ae,My,e0,e1,e2,e3,e4,hsz,ax,au,SX,SU,SL,reduceCtorEq,Nat.reduceAdd,Nat.reduceLeDiff,reduceIte]
 refine aH (eL (h3.app) (by omega)) ?_
 rintro r1 g1 ⟨t1,d1,U1,rfl,rfl,z1,o1,l1⟩
 obtain⟨y1_0,rfl⟩:=z1.one rfl
 simp(disch:=omega) only[ae,My,e0,e1,e2,e3,e4,hsz,ax,au,SX,SU,SL,reduceCtorEq,Nat.reduceAdd,Nat.reduceLeDiff,reduceIte]
 refine aH (sV ((h4.app).app) (by omega)) ?_
 rintro r2 g2 ⟨t2,d2,U2,rfl,rfl,z2,o2,l2⟩
 obtain⟨y2_0,rfl⟩:=z2.one rfl
 simp(disch:=omega) only[ae,My,e0,e1,e2,e3,e4,hsz,ax,au,SX,SU,SL,reduceCtorEq,Nat.reduceAdd,Nat.reduceLeDiff,reduceIte]
 refine⟨(t0++(t1++t2)),_,_,by simp only[List.append_assoc],rfl,⟨_,rfl,(Rs.mk (Rp.mkInt lo0 hi0) (Rs.mk (Rp.mkInt lo1 hi1) (Rs.mk ((z0.app).app) (Rs.mk (z1.app) (Rs.mk z2 Rs.nil)))))⟩,?_⟩
 have fr:=(jF.step (jF.step (jF.step (jF.nil h) z0.lt o0 l0) z1.lt o1 l1) z2.lt o2 l2)
 simpa only[List.nil_append,List.append_nil,List.append_assoc]using fr.both
def MF:AF:=⟨1,5,[.cell 2 10 true],(.seq (.ops [.i (.lbox 1 (.s 0)), .i (.lal 2 qz)]) (.seq (.ops [.i (.lal 3 qz)]) (.seq (.ops [qf 4 1 0,ql 5 1 4 1 false,qf 6 3 0,qs 3 6 5 1]) (.seq (.ops [qf 7 1 1,ql 8 1 7 1 false,qf 9 3 1,qs 3 9 8 1]) (.seq (.ops [qf 10 1 2,ql 11 1 10 1 false,qf 12 3 2,qs 3 12 11 1]) (.seq (.ops [qf 13 1 3,ql 14 1 13 1 false,qk 16 174 14,qf 16 3 3,qs 3 16 15 1]) (.seq (.ops [qf 17 1 4,ql 18 1 17 1 false,qk 20 174 18,qf 20 3 4,qs 3 20 19 1]) (.seq (.ops [qf 21 1 5,ql 22 1 21 5 true,qk 24 91 22,qf 24 3 5,qs 3 24 23 5]) (.seq (.ops [ql 25 3 3 10 true,qs 2 2 25 10]) .ret)))))))))⟩
theorem Om:cd 92=some MF:=by kernel_rfl
theorem zZ:mM cd 92 ao:=by
 intro h cs v S hv hw
 obtain⟨vs,rfl,q0⟩:=hv.st
 obtain⟨v0,r0,S0,T0,rfl,rfl,h0,q1⟩:=q0.step
 obtain⟨n0,e0,rfl,rfl,lo0,hi0⟩:=h0.int
 obtain⟨v1,r1,S1,T1,rfl,rfl,h1,q2⟩:=q1.step
 obtain⟨n1,e1,rfl,rfl,lo1,hi1⟩:=h1.int
 obtain⟨v2,r2,S2,T2,rfl,rfl,h2,q3⟩:=q2.step
 obtain⟨n2,e2,rfl,rfl,lo2,hi2⟩:=h2.int
 obtain⟨v3,r3,S3,T3,rfl,rfl,h3,q4⟩:=q3.step
 obtain⟨c3,e3⟩:=h3.one rfl
 rw[e3]at h3
 obtain⟨v4,r4,S4,T4,rfl,rfl,h4,q5⟩:=q4.step
 obtain⟨c4,e4⟩:=h4.one rfl
 rw[e4]at h4
 obtain⟨v5,r5,S5,T5,rfl,rfl,h5,q6⟩:=q5.step
 obtain⟨_,rfl,rfl⟩:=q6
 have hsz:cs.length=10:=hv.size
 simp only[Ty.size,Ty.aN,Nat.reduceAdd,Nat.zero_add,List.drop_zero]at e0 e1 e2 e3 e4 hsz h5
 simp only[wt,dg]at hw
 refine aw Om rfl ?_
 simp(disch:=omega) only[ae,MF,e0,e1,e2,e3,e4,hsz,ax,au,SX,SU,SL,reduceCtorEq,Nat.reduceAdd,Nat.reduceLeDiff,reduceIte]
 refine aH (eL h3 (by omega)) ?_
 rintro r0 g0 ⟨t0,d0,U0,rfl,rfl,z0,o0,l0⟩
 obtain⟨y0_0,rfl⟩:=z0.one rfl
 simp(disch:=omega) only[ae,MF,e0,e1,e2,e3,e4,hsz,ax,au,SX,SU,SL,reduceCtorEq,Nat.reduceAdd,Nat.reduceLeDiff,reduceIte]
 refine aH (eL (h4.app) (by omega)) ?_
 rintro r1 g1 ⟨t1,d1,U1,rfl,rfl,z1,o1,l1⟩
 obtain⟨y1_0,rfl⟩:=z1.one rfl
 simp(disch:=omega) only[ae,MF,e0,e1,e2,e3,e4,hsz,ax,au,SX,SU,SL,reduceCtorEq,Nat.reduceAdd,Nat.reduceLeDiff,reduceIte]
 refine aH (G7 ((h5.app).app) (by omega)) ?_
 rintro r2 g2 ⟨t2,d2,U2,rfl,rfl,z2,o2,l2⟩
 obtain⟨y2_0,y2_1,y2_2,y2_3,y2_4,rfl⟩:=Cp z2.size
 simp(disch:=omega) only[ae,MF,e0,e1,e2,e3,e4,hsz,ax,au,SX,SU,SL,reduceCtorEq,Nat.reduceAdd,Nat.reduceLeDiff,reduceIte]
 refine⟨(t0++(t1++t2)),_,_,by simp only[List.append_assoc],rfl,⟨_,rfl,(Rs.mk (Rp.mkInt lo0 hi0) (Rs.mk (Rp.mkInt lo1 hi1) (Rs.mk (Rp.mkInt lo2 hi2) (Rs.mk ((z0.app).app) (Rs.mk (z1.app) (Rs.mk z2 Rs.nil))))))⟩,?_⟩
 have fr:=(jF.step (jF.step (jF.step (jF.nil h) z0.lt o0 l0) z1.lt o1 l1) z2.lt o2 l2)
 simpa only[List.nil_append,List.append_nil,List.append_assoc]using fr.both
def MM:AF:=⟨1,4,[.cell 2 11 true],(.seq (.ops [.i (.lbox 1 (.s 0)), .i (.lal 2 [.int .i64 0, .int .i64 0, .int .i64 0, .nils, .nils, .int .i64 0, .int .i64 0, .nils, .nils, .nils, .nils])]) (.seq (.ops [.i (.lal 3 [.int .i64 0, .int .i64 0, .int .i64 0, .nils, .nils, .int .i64 0, .int .i64 0, .nils, .nils, .nils, .nils])]) (.seq (.ops [qf 4 1 0,ql 5 1 4 10 true,qk 7 92 5,qf 7 3 0,qs 3 7 6 10]) (.seq (.ops [qf 8 1 10,ql 9 1 8 1 false,qk 11 175 9,qf 11 3 10,qs 3 11 10 1]) (.seq (.ops [ql 12 3 3 11 true,qs 2 2 12 11]) .ret)))))⟩
theorem Oc:cd 93=some MM:=by kernel_rfl
theorem Hr:mM cd 93 bL:=by
 intro h cs v S hv hw
 obtain⟨vs,rfl,q0⟩:=hv.st
 obtain⟨v0,r0,S0,T0,rfl,rfl,h0,q1⟩:=q0.step
 obtain⟨v1,r1,S1,T1,rfl,rfl,h1,q2⟩:=q1.step
 obtain⟨c1,e1⟩:=h1.one rfl
 rw[e1]at h1
 obtain⟨_,rfl,rfl⟩:=q2
 have hsz:cs.length=11:=hv.size
 simp only[Ty.size,Ty.aN,Nat.reduceAdd,Nat.zero_add,List.drop_zero]at e1 hsz h0
 simp only[wt,dg]at hw
 refine aw Oc rfl ?_
 simp(disch:=omega) only[ae,MM,e1,hsz,ax,au,SX,SU,SL,reduceCtorEq,Nat.reduceAdd,Nat.reduceLeDiff,reduceIte]
 refine aH (zZ h0 (by omega)) ?_
 rintro r0 g0 ⟨t0,d0,U0,rfl,rfl,z0,o0,l0⟩
 obtain⟨y0_0,y0_1,y0_2,y0_3,y0_4,y0_5,y0_6,y0_7,y0_8,y0_9,rfl⟩:=DV z0.size
 simp(disch:=omega) only[ae,MM,e1,hsz,ax,au,SX,SU,SL,reduceCtorEq,Nat.reduceAdd,Nat.reduceLeDiff,reduceIte]
 refine aH (sV (h1.app) (by omega)) ?_
 rintro r1 g1 ⟨t1,d1,U1,rfl,rfl,z1,o1,l1⟩
 obtain⟨y1_0,rfl⟩:=z1.one rfl
 simp(disch:=omega) only[ae,MM,e1,hsz,ax,au,SX,SU,SL,reduceCtorEq,Nat.reduceAdd,Nat.reduceLeDiff,reduceIte]
 refine⟨(t0++t1),_,_,by simp only[List.append_assoc],rfl,⟨_,rfl,(Rs.mk (z0.app) (Rs.mk z1 Rs.nil))⟩,?_⟩
 have fr:=(jF.step (jF.step (jF.nil h) z0.lt o0 l0) z1.lt o1 l1)
 simpa only[List.nil_append,List.append_nil,List.append_assoc]using fr.both
def Lz:AF:=⟨1,4,[.cell 2 3 true],(.seq (.ops [.i (.lbox 1 (.s 0)), .i (.lal 2 [.int .i64 0, .int .i64 0, .nils])]) (.seq (.ops [.i (.lal 3 [.int .i64 0, .int .i64 0, .nils])]) (.seq (.ops [qf 4 1 0,ql 5 1 4 1 false,qf 6 3 0,qs 3 6 5 1]) (.seq (.ops [qf 7 1 1,ql 8 1 7 1 false,qf 9 3 1,qs 3 9 8 1]) (.seq (.ops [qf 10 1 2,ql 11 1 10 1 false,qk 13 174 11,qf 13 3 2,qs 3 13 12 1]) (.seq (.ops [ql 14 3 3 3 true,qs 2 2 14 3]) .ret))))))⟩
theorem Nc:cd 239=some Lz:=by kernel_rfl
theorem Hv:mM cd 239 aQ:=by
 intro h cs v S hv hw
 obtain⟨vs,rfl,q0⟩:=hv.st
 obtain⟨v0,r0,S0,T0,rfl,rfl,h0,q1⟩:=q0.step
 obtain⟨n0,e0,rfl,rfl,lo0,hi0⟩:=h0.int
 obtain⟨v1,r1,S1,T1,rfl,rfl,h1,q2⟩:=q1.step
 obtain⟨n1,e1,rfl,rfl,lo1,hi1⟩:=h1.int
 obtain⟨v2,r2,S2,T2,rfl,rfl,h2,q3⟩:=q2.step
 obtain⟨c2,e2⟩:=h2.one rfl
 rw[e2]at h2
 obtain⟨_,rfl,rfl⟩:=q3
 have hsz:cs.length=3:=hv.size
 simp only[Ty.size,Ty.aN,Nat.reduceAdd,Nat.zero_add,List.drop_zero]at e0 e1 e2 hsz
 simp only[wt,dg]at hw
 refine aw Nc rfl ?_
 simp(disch:=omega) only[ae,Lz,e0,e1,e2,hsz,ax,au,SX,SU,SL,reduceCtorEq,Nat.reduceAdd,Nat.reduceLeDiff,reduceIte]
 refine aH (eL h2 (by omega)) ?_
 rintro r0 g0 ⟨t0,d0,U0,rfl,rfl,z0,o0,l0⟩
 obtain⟨y0_0,rfl⟩:=z0.one rfl
 simp(disch:=omega) only[ae,Lz,e0,e1,e2,hsz,ax,au,SX,SU,SL,reduceCtorEq,Nat.reduceAdd,Nat.reduceLeDiff,reduceIte]
 refine⟨t0,_,_,by simp only[List.append_assoc],rfl,⟨_,rfl,(Rs.mk (Rp.mkInt lo0 hi0) (Rs.mk (Rp.mkInt lo1 hi1) (Rs.mk z0 Rs.nil)))⟩,?_⟩
 have fr:=(jF.step (jF.nil h) z0.lt o0 l0)
 simpa only[List.nil_append,List.append_nil,List.append_assoc]using fr.both
def M8:AF:=⟨1,5,[.tmp 2],(.seq (.ops [.i (.mov 2 (.c (.val false [.nils])))]) (.seq (.ops [qm 5 0,qn 6 5, .i (.mks 7 237 3 40 [.int .i64 0, .int .i64 0, .nils] (.s 6)),qm 3 7]) (.seq (.seq (.ops [.i (.mov 4 (qi 0))]) (.block 0 (.loop [21,20,19,18,17,16,15,14,13,12,11,10,9,8] (.seq (.seq (.ops [qm 8 4,qm 9 0,qn 10 9,qd 11 .lss 8 10]) (.cond (.s 11) .skip (.exit 0))) (.seq (.block 1 (.ops [qm 14 3,qm 15 4,qm 16 0,qm 17 4, .i (.iad 18 (.s 16) (.s 17) 3), .i (.ldh 19 (.s 18) 3 true),qk 21 239 19, .i (.iad 21 (.s 14) (.s 15) 3), .i (.sth (.s 21) (.s 20) 3)])) (.ops [qm 12 4, .i (.bin 13 .add (.s 12) (qi 1)),qm 4 13])))))) (.seq (.ops [qm 22 3,qm 2 22]) .ret))))⟩
theorem M5:cd 176=some M8:=by kernel_rfl
theorem Fo:mM cd 176 (.sl aQ):=GC M5 (by omega) rfl Hv
def Nv:AF:=⟨1,4,[.cell 2 2 true],(.seq (.ops [.i (.lbox 1 (.s 0)), .i (.lal 2 [.int .i64 0, .nils])]) (.seq (.ops [.i (.lal 3 [.int .i64 0, .nils])]) (.seq (.ops [qf 4 1 0,ql 5 1 4 1 false,qf 6 3 0,qs 3 6 5 1]) (.seq (.ops [qf 7 1 1,ql 8 1 7 1 false,qk 10 176 8,qf 10 3 1,qs 3 10 9 1]) (.seq (.ops [ql 11 3 3 2 true,qs 2 2 11 2]) .ret)))))⟩
theorem Ok:cd 94=some Nv:=by kernel_rfl
theorem MD:mM cd 94 yB:=by
 intro h cs v S hv hw
 obtain⟨vs,rfl,q0⟩:=hv.st
 obtain⟨v0,r0,S0,T0,rfl,rfl,h0,q1⟩:=q0.step
 obtain⟨n0,e0,rfl,rfl,lo0,hi0⟩:=h0.int
 obtain⟨v1,r1,S1,T1,rfl,rfl,h1,q2⟩:=q1.step
 obtain⟨c1,e1⟩:=h1.one rfl
 rw[e1]at h1
 obtain⟨_,rfl,rfl⟩:=q2
 have hsz:cs.length=2:=hv.size
 simp only[Ty.size,Ty.aN,Nat.reduceAdd,Nat.zero_add,List.drop_zero]at e0 e1 hsz
 simp only[wt,dg]at hw
 refine aw Ok rfl ?_
 simp(disch:=omega) only[ae,Nv,e0,e1,hsz,ax,au,SX,SU,SL,reduceCtorEq,Nat.reduceAdd,Nat.reduceLeDiff,reduceIte]
 refine aH (Fo h1 (by omega)) ?_
 rintro r0 g0 ⟨t0,d0,U0,rfl,rfl,z0,o0,l0⟩
 obtain⟨y0_0,rfl⟩:=z0.one rfl
 simp(disch:=omega) only[ae,Nv,e0,e1,hsz,ax,au,SX,SU,SL,reduceCtorEq,Nat.reduceAdd,Nat.reduceLeDiff,reduceIte]
 refine⟨t0,_,_,by simp only[List.append_assoc],rfl,⟨_,rfl,(Rs.mk (Rp.mkInt lo0 hi0) (Rs.mk z0 Rs.nil))⟩,?_⟩
 have fr:=(jF.step (jF.nil h) z0.lt o0 l0)
 simpa only[List.nil_append,List.append_nil,List.append_assoc]using fr.both
def Ob:AF:=⟨1,5,[.tmp 2],(.seq (.ops [.i (.mov 2 (.c (.val false [.nils])))]) (.seq (.ops [qm 5 0,qn 6 5, .i (.mks 7 40 10 160 qz (.s 6)),qm 3 7]) (.seq (.seq (.ops [.i (.mov 4 (qi 0))]) (.block 0 (.loop [21,20,19,18,17,16,15,14,13,12,11,10,9,8] (.seq (.seq (.ops [qm 8 4,qm 9 0,qn 10 9,qd 11 .lss 8 10]) (.cond (.s 11) .skip (.exit 0))) (.seq (.block 1 (.ops [qm 14 3,qm 15 4,qm 16 0,qm 17 4, .i (.iad 18 (.s 16) (.s 17) 10), .i (.ldh 19 (.s 18) 10 true),qk 21 92 19, .i (.iad 21 (.s 14) (.s 15) 10), .i (.sth (.s 21) (.s 20) 10)])) (.ops [qm 12 4, .i (.bin 13 .add (.s 12) (qi 1)),qm 4 13])))))) (.seq (.ops [qm 22 3,qm 2 22]) .ret))))⟩
theorem Oe:cd 69=some Ob:=by kernel_rfl
theorem Gc:mM cd 69 (.sl ao):=GC Oe (by omega) rfl zZ
def MN:AF:=⟨1,4,[.cell 2 6 true],(.seq (.ops [.i (.lbox 1 (.s 0)), .i (.lal 2 [.nils, .int .i64 0, .int .i64 0, .nils, .nils, .nils])]) (.seq (.ops [.i (.lal 3 [.nils, .int .i64 0, .int .i64 0, .nils, .nils, .nils])]) (.seq (.ops [qf 4 1 0,ql 5 1 4 1 false,qk 7 69 5,qf 7 3 0,qs 3 7 6 1]) (.seq (.ops [qf 8 1 1,ql 9 1 8 5 true,qk 11 91 9,qf 11 3 1,qs 3 11 10 5]) (.seq (.ops [ql 12 3 3 6 true,qs 2 2 12 6]) .ret)))))⟩
theorem Ow:cd 95=some MN:=by kernel_rfl
theorem Gm:mM cd 95 cj:=by
 intro h cs v S hv hw
 obtain⟨vs,rfl,q0⟩:=hv.st
 obtain⟨v0,r0,S0,T0,rfl,rfl,h0,q1⟩:=q0.step
 obtain⟨c0,e0⟩:=h0.one rfl
 rw[e0]at h0
 obtain⟨v1,r1,S1,T1,rfl,rfl,h1,q2⟩:=q1.step
 obtain⟨_,rfl,rfl⟩:=q2
 have hsz:cs.length=6:=hv.size
 simp only[Ty.size,Ty.aN,Nat.reduceAdd,Nat.zero_add,List.drop_zero]at e0 hsz h1
 simp only[wt,dg]at hw
 refine aw Ow rfl ?_
 simp(disch:=omega) only[ae,MN,e0,hsz,ax,au,SX,SU,SL,reduceCtorEq,Nat.reduceAdd,Nat.reduceLeDiff,reduceIte]
 refine aH (Gc h0 (by omega)) ?_
 rintro r0 g0 ⟨t0,d0,U0,rfl,rfl,z0,o0,l0⟩
 obtain⟨y0_0,rfl⟩:=z0.one rfl
 simp(disch:=omega) only[ae,MN,e0,hsz,ax,au,SX,SU,SL,reduceCtorEq,Nat.reduceAdd,Nat.reduceLeDiff,reduceIte]
 refine aH (G7 (h1.app) (by omega)) ?_
 rintro r1 g1 ⟨t1,d1,U1,rfl,rfl,z1,o1,l1⟩
 obtain⟨y1_0,y1_1,y1_2,y1_3,y1_4,rfl⟩:=Cp z1.size
 simp(disch:=omega) only[ae,MN,e0,hsz,ax,au,SX,SU,SL,reduceCtorEq,Nat.reduceAdd,Nat.reduceLeDiff,reduceIte]
 refine⟨(t0++t1),_,_,by simp only[List.append_assoc],rfl,⟨_,rfl,(Rs.mk (z0.app) (Rs.mk z1 Rs.nil))⟩,?_⟩
 have fr:=(jF.step (jF.step (jF.nil h) z0.lt o0 l0) z1.lt o1 l1)
 simpa only[List.nil_append,List.append_nil,List.append_assoc]using fr.both
def MQ:AF:=⟨1,5,[.cell 2 5 true],(.seq (.ops [.i (.lbox 1 (.s 0)), .i (.lal 2 [.int .i64 0, .int .i64 0, .int .i64 0, .nils, .nils])]) (.seq (.ops [.i (.lal 3 [.int .i64 0, .int .i64 0, .int .i64 0, .nils, .nils])]) (.seq (.ops [qf 4 1 0,ql 5 1 4 1 false,qf 6 3 0,qs 3 6 5 1]) (.seq (.ops [qf 7 1 1,ql 8 1 7 1 false,qf 9 3 1,qs 3 9 8 1]) (.seq (.ops [qf 10 1 2,ql 11 1 10 1 false,qf 12 3 2,qs 3 12 11 1]) (.seq (.ops [qf 13 1 3,ql 14 1 13 1 false,qk 16 174 14,qf 16 3 3,qs 3 16 15 1]) (.seq (.ops [qf 17 1 4,ql 18 1 17 1 false,qk 20 175 18,qf 20 3 4,qs 3 20 19 1]) (.seq (.ops [ql 21 3 3 5 true,qs 2 2 21 5]) .ret))))))))⟩
theorem N3:cd 96=some MQ:=by kernel_rfl
theorem Jh:mM cd 96 gW:=by
 intro h cs v S hv hw
 obtain⟨vs,rfl,q0⟩:=hv.st
 obtain⟨v0,r0,S0,T0,rfl,rfl,h0,q1⟩:=q0.step
 obtain⟨n0,e0,rfl,rfl,lo0,hi0⟩:=h0.int
 obtain⟨v1,r1,S1,T1,rfl,rfl,h1,q2⟩:=q1.step
 obtain⟨n1,e1,rfl,rfl,lo1,hi1⟩:=h1.int
 obtain⟨v2,r2,S2,T2,rfl,rfl,h2,q3⟩:=q2.step
 obtain⟨n2,e2,rfl,rfl,lo2,hi2⟩:=h2.int
 obtain⟨v3,r3,S3,T3,rfl,rfl,h3,q4⟩:=q3.step
 obtain⟨c3,e3⟩:=h3.one rfl
 rw[e3]at h3
 obtain⟨v4,r4,S4,T4,rfl,rfl,h4,q5⟩:=q4.step
 obtain⟨c4,e4⟩:=h4.one rfl
 rw[e4]at h4
 obtain⟨_,rfl,rfl⟩:=q5
 have hsz:cs.length=5:=hv.size
 simp only[Ty.size,Ty.aN,Nat.reduceAdd,Nat.zero_add,List.drop_zero]at e0 e1 e2 e3 e4 hsz
 simp only[wt,dg]at hw
 refine aw N3 rfl ?_
 simp(disch:=omega) only[ae,MQ,e0,e1,e2,e3,e4,hsz,ax,au,SX,SU,SL,reduceCtorEq,Nat.reduceAdd,Nat.reduceLeDiff,reduceIte]
 refine aH (eL h3 (by omega)) ?_
 rintro r0 g0 ⟨t0,d0,U0,rfl,rfl,z0,o0,l0⟩
 obtain⟨y0_0,rfl⟩:=z0.one rfl
 simp(disch:=omega) only[ae,MQ,e0,e1,e2,e3,e4,hsz,ax,au,SX,SU,SL,reduceCtorEq,Nat.reduceAdd,Nat.reduceLeDiff,reduceIte]
 refine aH (sV (h4.app) (by omega)) ?_
 rintro r1 g1 ⟨t1,d1,U1,rfl,rfl,z1,o1,l1⟩
 obtain⟨y1_0,rfl⟩:=z1.one rfl
 simp(disch:=omega) only[ae,MQ,e0,e1,e2,e3,e4,hsz,ax,au,SX,SU,SL,reduceCtorEq,Nat.reduceAdd,Nat.reduceLeDiff,reduceIte]
 refine⟨(t0++t1),_,_,by simp only[List.append_assoc],rfl,⟨_,rfl,(Rs.mk (Rp.mkInt lo0 hi0) (Rs.mk (Rp.mkInt lo1 hi1) (Rs.mk (Rp.mkInt lo2 hi2) (Rs.mk (z0.app) (Rs.mk z1 Rs.nil)))))⟩,?_⟩
 have fr:=(jF.step (jF.step (jF.nil h) z0.lt o0 l0) z1.lt o1 l1)
 simpa only[List.nil_append,List.append_nil,List.append_assoc]using fr.both
def IE:AF:=⟨1,6,[.cell 2 45 true],(.seq (.ops [.i (.lbox 1 (.s 0)), .i (.lal 2 [.int .i64 0, .int .i64 0, .int .i64 0, .nils, .int .i64 0, .nils, .int .i64 0, .int .i64 0, .nils, .nils, .nils, .int .i64 0, .int .i64 0, .int .i64 0, .nils, .nils, .int .i64 0, .int .i64 0, .nils, .nils, .nils, .int .i64 0, .int .i64 0, .int .i64 0, .nils, .nils, .int .i64 0, .int .i64 0, .nils, .nils, .nils, .nils, .int .i64 0, .nils, .nils, .int .i64 0, .int .i64 0, .nils, .nils, .nils, .int .i64 0, .int .i64 0, .int .i64 0, .nils, .nils])]) (.seq (.ops [.i (.lal 3 [.int .i64 0, .int .i64 0, .int .i64 0, .nils, .int .i64 0, .nils, .int .i64 0, .int .i64 0, .nils, .nils, .nils, .int .i64 0, .int .i64 0, .int .i64 0, .nils, .nils, .int .i64 0, .int .i64 0, .nils, .nils, .nils, .int .i64 0, .int .i64 0, .int .i64 0, .nils, .nils, .int .i64 0, .int .i64 0, .nils, .nils, .nils, .nils, .int .i64 0, .nils, .nils, .int .i64 0, .int .i64 0, .nils, .nils, .nils, .int .i64 0, .int .i64 0, .int .i64 0, .nils, .nils])]) (.seq (.ops [qf 4 1 0,ql 5 1 4 1 false,qf 6 3 0,qs 3 6 5 1]) (.seq (.ops [qf 7 1 1,ql 8 1 7 5 true,qk 10 90 8,qf 10 3 1,qs 3 10 9 5]) (.seq (.ops [qf 11 1 6,ql 12 1 11 5 true,qk 14 91 12,qf 14 3 6,qs 3 14 13 5]) (.seq (.ops [qf 15 1 11,ql 16 1 15 10 true,qk 18 92 16,qf 18 3 11,qs 3 18 17 10]) (.seq (.ops [qf 19 1 21,ql 20 1 19 11 true,qk 22 93 20,qf 22 3 21,qs 3 22 21 11]) (.seq (.ops [qf 23 1 32,ql 24 1 23 2 true,qk 26 94 24,qf 26 3 32,qs 3 26 25 2]) (.seq (.ops [qf 27 1 34,ql 28 1 27 6 true,qk 30 95 28,qf 30 3 34,qs 3 30 29 6]) (.seq (.ops [qf 31 1 40,ql 32 1 31 5 true,qk 34 96 32,qf 34 3 40,qs 3 34 33 5]) (.seq (.ops [ql 35 3 3 45 true,qs 2 2 35 45]) .ret)))))))))))⟩
theorem N1:cd 32=some IE:=by kernel_rfl
theorem Bt:mM cd 32 TMsg:=by
 intro h cs v S hv hw
 obtain⟨vs,rfl,q0⟩:=hv.st
 obtain⟨v0,r0,S0,T0,rfl,rfl,h0,q1⟩:=q0.step
 obtain⟨n0,e0,rfl,rfl,lo0,hi0⟩:=h0.int
 obtain⟨v1,r1,S1,T1,rfl,rfl,h1,q2⟩:=q1.step
 obtain⟨v2,r2,S2,T2,rfl,rfl,h2,q3⟩:=q2.step
 obtain⟨v3,r3,S3,T3,rfl,rfl,h3,q4⟩:=q3.step
 obtain⟨v4,r4,S4,T4,rfl,rfl,h4,q5⟩:=q4.step
 obtain⟨v5,r5,S5,T5,rfl,rfl,h5,q6⟩:=q5.step
 obtain⟨v6,r6,S6,T6,rfl,rfl,h6,q7⟩:=q6.step
 obtain⟨v7,r7,S7,T7,rfl,rfl,h7,q8⟩:=q7.step
 obtain⟨_,rfl,rfl⟩:=q8
 have hsz:cs.length=45:=hv.size
 simp only[Ty.size,Ty.aN,Nat.reduceAdd,Nat.zero_add,List.drop_zero]at e0 hsz h1 h2 h3 h4 h5 h6 h7
 simp only[wt,dg]at hw
 refine aw N1 rfl ?_
 simp(disch:=omega) only[ae,IE,e0,hsz,ax,au,SX,SU,SL,reduceCtorEq,Nat.reduceAdd,Nat.reduceLeDiff,reduceIte]
 refine aH (IP h1 (by omega)) ?_
 rintro r0 g0 ⟨t0,d0,U0,rfl,rfl,z0,o0,l0⟩
 obtain⟨y0_0,y0_1,y0_2,y0_3,y0_4,rfl⟩:=Cp z0.size
 simp(disch:=omega) only[ae,IE,e0,hsz,ax,au,SX,SU,SL,reduceCtorEq,Nat.reduceAdd,Nat.reduceLeDiff,reduceIte]
 refine aH (G7 (h2.app) (by omega)) ?_
 rintro r1 g1 ⟨t1,d1,U1,rfl,rfl,z1,o1,l1⟩
 obtain⟨y1_0,y1_1,y1_2,y1_3,y1_4,rfl⟩:=Cp z1.size
 simp(disch:=omega) only[ae,IE,e0,hsz,ax,au,SX,SU,SL,reduceCtorEq,Nat.reduceAdd,Nat.reduceLeDiff,reduceIte]
 refine aH (zZ ((h3.app).app) (by omega)) ?_
 rintro r2 g2 ⟨t2,d2,U2,rfl,rfl,z2,o2,l2⟩
 obtain⟨y2_0,y2_1,y2_2,y2_3,y2_4,y2_5,y2_6,y2_7,y2_8,y2_9,rfl⟩:=DV z2.size
 simp(disch:=omega) only[ae,IE,e0,hsz,ax,au,SX,SU,SL,reduceCtorEq,Nat.reduceAdd,Nat.reduceLeDiff,reduceIte]
 refine aH (Hr (((h4.app).app).app) (by omega)) ?_
 rintro r3 g3 ⟨t3,d3,U3,rfl,rfl,z3,o3,l3⟩
 obtain⟨y3_0,y3_1,y3_2,y3_3,y3_4,y3_5,y3_6,y3_7,y3_8,y3_9,y3_10,rfl⟩:=Lw z3.size
 simp(disch:=omega) only[ae,IE,e0,hsz,ax,au,SX,SU,SL,reduceCtorEq,Nat.reduceAdd,Nat.reduceLeDiff,reduceIte]
 refine aH (MD ((((h5.app).app).app).app) (by omega)) ?_
 rintro r4 g4 ⟨t4,d4,U4,rfl,rfl,z4,o4,l4⟩
 obtain⟨y4_0,y4_1,rfl⟩:=Ml z4.size
 simp(disch:=omega) only[ae,IE,e0,hsz,ax,au,SX,SU,SL,reduceCtorEq,Nat.reduceAdd,Nat.reduceLeDiff,reduceIte]
 refine aH (Gm (((((h6.app).app).app).app).app) (by omega)) ?_
 rintro r5 g5 ⟨t5,d5,U5,rfl,rfl,z5,o5,l5⟩
 obtain⟨y5_0,y5_1,y5_2,y5_3,y5_4,y5_5,rfl⟩:=LP z5.size
 simp(disch:=omega) only[ae,IE,e0,hsz,ax,au,SX,SU,SL,reduceCtorEq,Nat.reduceAdd,Nat.reduceLeDiff,reduceIte]
 refine aH (Jh ((((((h7.app).app).app).app).app).app) (by omega)) ?_
 rintro r6 g6 ⟨t6,d6,U6,rfl,rfl,z6,o6,l6⟩
 obtain⟨y6_0,y6_1,y6_2,y6_3,y6_4,rfl⟩:=Cp z6.size
 simp(disch:=omega) only[ae,IE,e0,hsz,ax,au,SX,SU,SL,reduceCtorEq,Nat.reduceAdd,Nat.reduceLeDiff,reduceIte]
 refine⟨(t0++(t1++(t2++(t3++(t4++(t5++t6)))))),_,_,by simp only[List.append_assoc],rfl,⟨_,rfl,(Rs.mk (Rp.mkInt lo0 hi0) (Rs.mk ((((((z0.app).app).app).app).app).app) (Rs.mk (((((z1.app).app).app).app).app) (Rs.mk ((((z2.app).app).app).app) (Rs.mk (((z3.app).app).app) (Rs.mk ((z4.app).app) (Rs.mk (z5.app) (Rs.mk z6 Rs.nil))))))))⟩,?_⟩
 have fr:=(jF.step (jF.step (jF.step (jF.step (jF.step (jF.step (jF.step (jF.nil h) z0.lt o0 l0) z1.lt o1 l1) z2.lt o2 l2) z3.lt o3 l3) z4.lt o4 l4) z5.lt o5 l5) z6.lt o6 l6)
 simpa only[List.nil_append,List.append_nil,List.append_assoc]using fr.both
def N4:AF:=⟨2,5,[.tmp 4],(.seq (.ops [.i (.mov 4 (qb false))]) (.seq (.seq (.ops [qm 6 0,qn 7 6,qm 8 1,qn 9 8,qd 10 .neq 7 9]) (.cond (.s 10) (.seq (.ops [.i (.mov 4 (qb false))]) .ret) .skip)) (.seq (.seq (.ops [.i (.mov 5 (qi 0))]) (.block 0 (.loop [25,24,23,22,21,20,19,18,17,16,15,14,13,12,11] (.seq (.seq (.ops [qm 11 5,qm 12 0,qn 13 12,qd 14 .lss 11 13]) (.cond (.s 14) .skip (.exit 0))) (.seq (.block 1 (.seq (.ops [qm 17 0,qm 18 5, .i (.iad 19 (.s 17) (.s 18) 1), .i (.ldh 20 (.s 19) 1 false),qm 21 1,qm 22 5, .i (.iad 23 (.s 21) (.s 22) 1), .i (.ldh 24 (.s 23) 1 false),qd 25 .neq 20 24]) (.cond (.s 25) (.seq (.ops [.i (.mov 4 (qb false))]) .ret) .skip))) (.ops [qm 15 5, .i (.bin 16 .add (.s 15) (qi 1)),qm 5 16])))))) (.seq (.ops [.i (.mov 4 (qb true))]) .ret))))⟩
theorem Og:cd 39=some N4:=by kernel_rfl
theorem dy:cO cd 39 (.sl (.int .u8)):=Jm Og
def uT:AF:=⟨2,6,[.tmp 4],(.seq (.ops [.i (.lbox 2 (.s 0)), .i (.lbox 3 (.s 1)), .i (.mov 4 (qb false))]) (.seq (.seq (.ops [qf 5 2 0,ql 6 2 5 1 false,qf 7 3 0,ql 8 3 7 1 false,qd 9 .neq 6 8]) (.cond (.s 9) (.seq (.ops [.i (.mov 4 (qb false))]) .ret) .skip)) (.seq (.seq (.ops [qf 10 2 1,ql 11 2 10 1 false,qf 12 3 1,ql 13 3 12 1 false,qd 14 .neq 11 13]) (.cond (.s 14) (.seq (.ops [.i (.mov 4 (qb false))]) .ret) .skip)) (.seq (.seq (.ops [qf 15 2 2,ql 16 2 15 1 false,qf 17 3 2,ql 18 3 17 1 false, .i (.call 20 39 false [(.s 16),(.s 18)]), .i (.not 20 (.s 19))]) (.cond (.s 20) (.seq (.ops [.i (.mov 4 (qb false))]) .ret) .skip)) (.seq (.seq (.ops [qf 21 2 3,ql 22 2 21 1 false,qf 23 3 3,ql 24 3 23 1 false,qd 25 .neq 22 24]) (.cond (.s 25) (.seq (.ops [.i (.mov 4 (qb false))]) .ret) .skip)) (.seq (.seq (.ops [qf 26 2 4,ql 27 2 26 1 false,qf 28 3 4,ql 29 3 28 1 false, .i (.call 31 39 false [(.s 27),(.s 29)]), .i (.not 31 (.s 30))]) (.cond (.s 31) (.seq (.ops [.i (.mov 4 (qb false))]) .ret) .skip)) (.seq (.ops [.i (.mov 4 (qb true))]) .ret)))))))⟩
theorem Ng:cd 100=some uT:=by kernel_rfl
theorem I5:cO cd 100 cq:=by
 intro h ca cb va vb Sa Sb ha hb
 obtain⟨avs,rfl,aq0⟩:=ha.st
 obtain⟨av0,ar0,aS0,aT0,rfl,rfl,ah0,aq1⟩:=aq0.step
 obtain⟨an0,ae0,rfl,rfl,alo0,ahi0⟩:=ah0.int
 obtain⟨av1,ar1,aS1,aT1,rfl,rfl,ah1,aq2⟩:=aq1.step
 obtain⟨an1,ae1,rfl,rfl,alo1,ahi1⟩:=ah1.int
 obtain⟨av2,ar2,aS2,aT2,rfl,rfl,ah2,aq3⟩:=aq2.step
 obtain⟨ac2,ae2⟩:=ah2.one rfl
 rw[ae2]at ah2
 obtain⟨av3,ar3,aS3,aT3,rfl,rfl,ah3,aq4⟩:=aq3.step
 obtain⟨an3,ae3,rfl,rfl,alo3,ahi3⟩:=ah3.int
 obtain⟨av4,ar4,aS4,aT4,rfl,rfl,ah4,aq5⟩:=aq4.step
 obtain⟨ac4,ae4⟩:=ah4.one rfl
 rw[ae4]at ah4
 obtain⟨_,rfl,rfl⟩:=aq5
 have ahsz:ca.length=5:=ha.size
 obtain⟨bvs,rfl,bq0⟩:=hb.st
 obtain⟨bv0,br0,bS0,bT0,rfl,rfl,bh0,bq1⟩:=bq0.step
 obtain⟨bn0,be0,rfl,rfl,blo0,bhi0⟩:=bh0.int
 obtain⟨bv1,br1,bS1,bT1,rfl,rfl,bh1,bq2⟩:=bq1.step
 obtain⟨bn1,be1,rfl,rfl,blo1,bhi1⟩:=bh1.int
 obtain⟨bv2,br2,bS2,bT2,rfl,rfl,bh2,bq3⟩:=bq2.step
 obtain⟨bc2,be2⟩:=bh2.one rfl
 rw[be2]at bh2
 obtain⟨bv3,br3,bS3,bT3,rfl,rfl,bh3,bq4⟩:=bq3.step
 obtain⟨bn3,be3,rfl,rfl,blo3,bhi3⟩:=bh3.int
 obtain⟨bv4,br4,bS4,bT4,rfl,rfl,bh4,bq5⟩:=bq4.step
 obtain⟨bc4,be4⟩:=bh4.one rfl
 rw[be4]at bh4
 obtain⟨_,rfl,rfl⟩:=bq5
 have bhsz:cb.length=5:=hb.size
 simp only[Ty.size,Ty.aN,Nat.reduceAdd,Nat.zero_add,List.drop_zero]at ae0 ae1 ae2 ae3 ae4 ahsz be0 be1 be2 be3 be4 bhsz
 refine aw Ng rfl ?_
 simp(disch:=omega) only[ae,uT,ae0,ae1,ae2,ae3,ae4,ahsz,be0,be1,be2,be3,be4,bhsz,ax,au,SX,SU,SL,reduceCtorEq,Nat.reduceAdd,Nat.reduceLeDiff,reduceIte]
 refine aq (fun hn=> ?_) (fun hn=> ?_)
 case refine_1=>
  simp(disch:=omega) only[ae,uT,ae0,ae1,ae2,ae3,ae4,ahsz,be0,be1,be2,be3,be4,bhsz,ax,au,SX,SU,SL,reduceCtorEq,Nat.reduceAdd,Nat.reduceLeDiff,reduceIte]
  simp[hn]
 have d0:an0=bn0:=by omega
 subst d0
 simp(disch:=omega) only[ae,uT,ae0,ae1,ae2,ae3,ae4,ahsz,be0,be1,be2,be3,be4,bhsz,ax,au,SX,SU,SL,reduceCtorEq,Nat.reduceAdd,Nat.reduceLeDiff,reduceIte]
 refine aq (fun hn=> ?_) (fun hn=> ?_)
 case refine_1=>
  simp(disch:=omega) only[ae,uT,ae0,ae1,ae2,ae3,ae4,ahsz,be0,be1,be2,be3,be4,bhsz,ax,au,SX,SU,SL,reduceCtorEq,Nat.reduceAdd,Nat.reduceLeDiff,reduceIte]
  simp[hn]
 have d1:an1=bn1:=by omega
 subst d1
 simp(disch:=omega) only[ae,uT,ae0,ae1,ae2,ae3,ae4,ahsz,be0,be1,be2,be3,be4,bhsz,ax,au,SX,SU,SL,reduceCtorEq,Nat.reduceAdd,Nat.reduceLeDiff,reduceIte]
 refine cO.go dy ah2 bh2 (fun d2=> ?_) (fun d2=> ?_)
 case refine_2=>
  simp(disch:=omega) only[ae,uT,ae0,ae1,ae2,ae3,ae4,ahsz,be0,be1,be2,be3,be4,bhsz,ax,au,SX,SU,SL,reduceCtorEq,Nat.reduceAdd,Nat.reduceLeDiff,reduceIte]
  simp[d2]
 subst d2
 simp(disch:=omega) only[ae,uT,ae0,ae1,ae2,ae3,ae4,ahsz,be0,be1,be2,be3,be4,bhsz,ax,au,SX,SU,SL,reduceCtorEq,Nat.reduceAdd,Nat.reduceLeDiff,reduceIte]
 refine aq (fun hn=> ?_) (fun hn=> ?_)
 case refine_1=>
  simp(disch:=omega) only[ae,uT,ae0,ae1,ae2,ae3,ae4,ahsz,be0,be1,be2,be3,be4,bhsz,ax,au,SX,SU,SL,reduceCtorEq,Nat.reduceAdd,Nat.reduceLeDiff,reduceIte]
  simp[hn]
 have d3:an3=bn3:=by omega
 subst d3
 simp(disch:=omega) only[ae,uT,ae0,ae1,ae2,ae3,ae4,ahsz,be0,be1,be2,be3,be4,bhsz,ax,au,SX,SU,SL,reduceCtorEq,Nat.reduceAdd,Nat.reduceLeDiff,reduceIte]
 refine cO.go dy ah4 bh4 (fun d4=> ?_) (fun d4=> ?_)
 case refine_2=>
  simp(disch:=omega) only[ae,uT,ae0,ae1,ae2,ae3,ae4,ahsz,be0,be1,be2,be3,be4,bhsz,ax,au,SX,SU,SL,reduceCtorEq,Nat.reduceAdd,Nat.reduceLeDiff,reduceIte]
  simp[d4]
 subst d4
 simp(disch:=omega) only[ae,uT,ae0,ae1,ae2,ae3,ae4,ahsz,be0,be1,be2,be3,be4,bhsz,ax,au,SX,SU,SL,reduceCtorEq,Nat.reduceAdd,Nat.reduceLeDiff,reduceIte]
def MV:AF:=⟨2,5,[.tmp 4],(.seq (.ops [.i (.mov 4 (qb false))]) (.seq (.seq (.ops [qm 6 0,qn 7 6,qm 8 1,qn 9 8,qd 10 .neq 7 9]) (.cond (.s 10) (.seq (.ops [.i (.mov 4 (qb false))]) .ret) .skip)) (.seq (.seq (.ops [.i (.mov 5 (qi 0))]) (.block 0 (.loop [26,25,24,23,22,21,20,19,18,17,16,15,14,13,12,11] (.seq (.seq (.ops [qm 11 5,qm 12 0,qn 13 12,qd 14 .lss 11 13]) (.cond (.s 14) .skip (.exit 0))) (.seq (.block 1 (.seq (.ops [qm 17 0,qm 18 5, .i (.iad 19 (.s 17) (.s 18) 1), .i (.ldh 20 (.s 19) 1 false),qm 21 1,qm 22 5, .i (.iad 23 (.s 21) (.s 22) 1), .i (.ldh 24 (.s 23) 1 false), .i (.call 26 39 false [(.s 20),(.s 24)]), .i (.not 26 (.s 25))]) (.cond (.s 26) (.seq (.ops [.i (.mov 4 (qb false))]) .ret) .skip))) (.ops [qm 15 5, .i (.bin 16 .add (.s 15) (qi 1)),qm 5 16])))))) (.seq (.ops [.i (.mov 4 (qb true))]) .ret))))⟩
theorem Nj:cd 195=some MV:=by kernel_rfl
theorem sZ:cO cd 195 (.sl (.sl (.int .u8))):=HZ Nj dy
def vM:AF:=⟨2,6,[.tmp 4],(.seq (.ops [.i (.lbox 2 (.s 0)), .i (.lbox 3 (.s 1)), .i (.mov 4 (qb false))]) (.seq (.seq (.ops [qf 5 2 0,ql 6 2 5 1 false,qf 7 3 0,ql 8 3 7 1 false,qd 9 .neq 6 8]) (.cond (.s 9) (.seq (.ops [.i (.mov 4 (qb false))]) .ret) .skip)) (.seq (.seq (.ops [qf 10 2 1,ql 11 2 10 1 false,qf 12 3 1,ql 13 3 12 1 false,qd 14 .neq 11 13]) (.cond (.s 14) (.seq (.ops [.i (.mov 4 (qb false))]) .ret) .skip)) (.seq (.seq (.ops [qf 15 2 2,ql 16 2 15 1 false,qf 17 3 2,ql 18 3 17 1 false, .i (.call 20 39 false [(.s 16),(.s 18)]), .i (.not 20 (.s 19))]) (.cond (.s 20) (.seq (.ops [.i (.mov 4 (qb false))]) .ret) .skip)) (.seq (.seq (.ops [qf 21 2 3,ql 22 2 21 1 false,qf 23 3 3,ql 24 3 23 1 false, .i (.call 26 39 false [(.s 22),(.s 24)]), .i (.not 26 (.s 25))]) (.cond (.s 26) (.seq (.ops [.i (.mov 4 (qb false))]) .ret) .skip)) (.seq (.seq (.ops [qf 27 2 4,ql 28 2 27 1 false,qf 29 3 4,ql 30 3 29 1 false, .i (.call 32 195 false [(.s 28),(.s 30)]), .i (.not 32 (.s 31))]) (.cond (.s 32) (.seq (.ops [.i (.mov 4 (qb false))]) .ret) .skip)) (.seq (.ops [.i (.mov 4 (qb true))]) .ret)))))))⟩
theorem MW:cd 101=some vM:=by kernel_rfl
theorem HJ:cO cd 101 fZ:=by
 intro h ca cb va vb Sa Sb ha hb
 obtain⟨avs,rfl,aq0⟩:=ha.st
 obtain⟨av0,ar0,aS0,aT0,rfl,rfl,ah0,aq1⟩:=aq0.step
 obtain⟨an0,ae0,rfl,rfl,alo0,ahi0⟩:=ah0.int
 obtain⟨av1,ar1,aS1,aT1,rfl,rfl,ah1,aq2⟩:=aq1.step
 obtain⟨an1,ae1,rfl,rfl,alo1,ahi1⟩:=ah1.int
 obtain⟨av2,ar2,aS2,aT2,rfl,rfl,ah2,aq3⟩:=aq2.step
 obtain⟨ac2,ae2⟩:=ah2.one rfl
 rw[ae2]at ah2
 obtain⟨av3,ar3,aS3,aT3,rfl,rfl,ah3,aq4⟩:=aq3.step
 obtain⟨ac3,ae3⟩:=ah3.one rfl
 rw[ae3]at ah3
 obtain⟨av4,ar4,aS4,aT4,rfl,rfl,ah4,aq5⟩:=aq4.step
 obtain⟨ac4,ae4⟩:=ah4.one rfl
 rw[ae4]at ah4
 obtain⟨_,rfl,rfl⟩:=aq5
 have ahsz:ca.length=5:=ha.size
 obtain⟨bvs,rfl,bq0⟩:=hb.st
 obtain⟨bv0,br0,bS0,bT0,rfl,rfl,bh0,bq1⟩:=bq0.step
 obtain⟨bn0,be0,rfl,rfl,blo0,bhi0⟩:=bh0.int
 obtain⟨bv1,br1,bS1,bT1,rfl,rfl,bh1,bq2⟩:=bq1.step
 obtain⟨bn1,be1,rfl,rfl,blo1,bhi1⟩:=bh1.int
 obtain⟨bv2,br2,bS2,bT2,rfl,rfl,bh2,bq3⟩:=bq2.step
 obtain⟨bc2,be2⟩:=bh2.one rfl
 rw[be2]at bh2
 obtain⟨bv3,br3,bS3,bT3,rfl,rfl,bh3,bq4⟩:=bq3.step
 obtain⟨bc3,be3⟩:=bh3.one rfl
 rw[be3]at bh3
 obtain⟨bv4,br4,bS4,bT4,rfl,rfl,bh4,bq5⟩:=bq4.step
 obtain⟨bc4,be4⟩:=bh4.one rfl
 rw[be4]at bh4
 obtain⟨_,rfl,rfl⟩:=bq5
 have bhsz:cb.length=5:=hb.size
 simp only[Ty.size,Ty.aN,Nat.reduceAdd,Nat.zero_add,List.drop_zero]at ae0 ae1 ae2 ae3 ae4 ahsz be0 be1 be2 be3 be4 bhsz
 refine aw MW rfl ?_
 simp(disch:=omega) only[ae,vM,ae0,ae1,ae2,ae3,ae4,ahsz,be0,be1,be2,be3,be4,bhsz,ax,au,SX,SU,SL,reduceCtorEq,Nat.reduceAdd,Nat.reduceLeDiff,reduceIte]
 refine aq (fun hn=> ?_) (fun hn=> ?_)
 case refine_1=>
  simp(disch:=omega) only[ae,vM,ae0,ae1,ae2,ae3,ae4,ahsz,be0,be1,be2,be3,be4,bhsz,ax,au,SX,SU,SL,reduceCtorEq,Nat.reduceAdd,Nat.reduceLeDiff,reduceIte]
  simp[hn]
 have d0:an0=bn0:=by omega
 subst d0
 simp(disch:=omega) only[ae,vM,ae0,ae1,ae2,ae3,ae4,ahsz,be0,be1,be2,be3,be4,bhsz,ax,au,SX,SU,SL,reduceCtorEq,Nat.reduceAdd,Nat.reduceLeDiff,reduceIte]
 refine aq (fun hn=> ?_) (fun hn=> ?_)
 case refine_1=>
  simp(disch:=omega) only[ae,vM,ae0,ae1,ae2,ae3,ae4,ahsz,be0,be1,be2,be3,be4,bhsz,ax,au,SX,SU,SL,reduceCtorEq,Nat.reduceAdd,Nat.reduceLeDiff,reduceIte]
  simp[hn]
 have d1:an1=bn1:=by omega
 subst d1
 simp(disch:=omega) only[ae,vM,ae0,ae1,ae2,ae3,ae4,ahsz,be0,be1,be2,be3,be4,bhsz,ax,au,SX,SU,SL,reduceCtorEq,Nat.reduceAdd,Nat.reduceLeDiff,reduceIte]
 refine cO.go dy ah2 bh2 (fun d2=> ?_) (fun d2=> ?_)
 case refine_2=>
  simp(disch:=omega) only[ae,vM,ae0,ae1,ae2,ae3,ae4,ahsz,be0,be1,be2,be3,be4,bhsz,ax,au,SX,SU,SL,reduceCtorEq,Nat.reduceAdd,Nat.reduceLeDiff,reduceIte]
  simp[d2]
 subst d2
 simp(disch:=omega) only[ae,vM,ae0,ae1,ae2,ae3,ae4,ahsz,be0,be1,be2,be3,be4,bhsz,ax,au,SX,SU,SL,reduceCtorEq,Nat.reduceAdd,Nat.reduceLeDiff,reduceIte]
 refine cO.go dy ah3 bh3 (fun d3=> ?_) (fun d3=> ?_)
 case refine_2=>
  simp(disch:=omega) only[ae,vM,ae0,ae1,ae2,ae3,ae4,ahsz,be0,be1,be2,be3,be4,bhsz,ax,au,SX,SU,SL,reduceCtorEq,Nat.reduceAdd,Nat.reduceLeDiff,reduceIte]
  simp[d3]
 subst d3
 simp(disch:=omega) only[ae,vM,ae0,ae1,ae2,ae3,ae4,ahsz,be0,be1,be2,be3,be4,bhsz,ax,au,SX,SU,SL,reduceCtorEq,Nat.reduceAdd,Nat.reduceLeDiff,reduceIte]
 refine cO.go sZ ah4 bh4 (fun d4=> ?_) (fun d4=> ?_)
 case refine_2=>
  simp(disch:=omega) only[ae,vM,ae0,ae1,ae2,ae3,ae4,ahsz,be0,be1,be2,be3,be4,bhsz,ax,au,SX,SU,SL,reduceCtorEq,Nat.reduceAdd,Nat.reduceLeDiff,reduceIte]
  simp[d4]
 subst d4
 simp(disch:=omega) only[ae,vM,ae0,ae1,ae2,ae3,ae4,ahsz,be0,be1,be2,be3,be4,bhsz,ax,au,SX,SU,SL,reduceCtorEq,Nat.reduceAdd,Nat.reduceLeDiff,reduceIte]
def EI:AF:=⟨2,6,[.tmp 4],(.seq (.ops [.i (.lbox 2 (.s 0)), .i (.lbox 3 (.s 1)), .i (.mov 4 (qb false))]) (.seq (.seq (.ops [qf 5 2 0,ql 6 2 5 1 false,qf 7 3 0,ql 8 3 7 1 false,qd 9 .neq 6 8]) (.cond (.s 9) (.seq (.ops [.i (.mov 4 (qb false))]) .ret) .skip)) (.seq (.seq (.ops [qf 10 2 1,ql 11 2 10 1 false,qf 12 3 1,ql 13 3 12 1 false,qd 14 .neq 11 13]) (.cond (.s 14) (.seq (.ops [.i (.mov 4 (qb false))]) .ret) .skip)) (.seq (.seq (.ops [qf 15 2 2,ql 16 2 15 1 false,qf 17 3 2,ql 18 3 17 1 false,qd 19 .neq 16 18]) (.cond (.s 19) (.seq (.ops [.i (.mov 4 (qb false))]) .ret) .skip)) (.seq (.seq (.ops [qf 20 2 3,ql 21 2 20 1 false,qf 22 3 3,ql 23 3 22 1 false, .i (.call 25 39 false [(.s 21),(.s 23)]), .i (.not 25 (.s 24))]) (.cond (.s 25) (.seq (.ops [.i (.mov 4 (qb false))]) .ret) .skip)) (.seq (.seq (.ops [qf 26 2 4,ql 27 2 26 1 false,qf 28 3 4,ql 29 3 28 1 false, .i (.call 31 39 false [(.s 27),(.s 29)]), .i (.not 31 (.s 30))]) (.cond (.s 31) (.seq (.ops [.i (.mov 4 (qb false))]) .ret) .skip)) (.seq (.seq (.ops [qf 32 2 5,ql 33 2 32 5 true,qf 34 3 5,ql 35 3 34 5 true, .i (.call 37 101 false [(.s 33),(.s 35)]), .i (.not 37 (.s 36))]) (.cond (.s 37) (.seq (.ops [.i (.mov 4 (qb false))]) .ret) .skip)) (.seq (.ops [.i (.mov 4 (qb true))]) .ret))))))))⟩
theorem Oa:cd 73=some EI:=by kernel_rfl
theorem AG:cO cd 73 ao:=by
 intro h ca cb va vb Sa Sb ha hb
 obtain⟨avs,rfl,aq0⟩:=ha.st
 obtain⟨av0,ar0,aS0,aT0,rfl,rfl,ah0,aq1⟩:=aq0.step
 obtain⟨an0,ae0,rfl,rfl,alo0,ahi0⟩:=ah0.int
 obtain⟨av1,ar1,aS1,aT1,rfl,rfl,ah1,aq2⟩:=aq1.step
 obtain⟨an1,ae1,rfl,rfl,alo1,ahi1⟩:=ah1.int
 obtain⟨av2,ar2,aS2,aT2,rfl,rfl,ah2,aq3⟩:=aq2.step
 obtain⟨an2,ae2,rfl,rfl,alo2,ahi2⟩:=ah2.int
 obtain⟨av3,ar3,aS3,aT3,rfl,rfl,ah3,aq4⟩:=aq3.step
 obtain⟨ac3,ae3⟩:=ah3.one rfl
 rw[ae3]at ah3
 obtain⟨av4,ar4,aS4,aT4,rfl,rfl,ah4,aq5⟩:=aq4.step
 obtain⟨ac4,ae4⟩:=ah4.one rfl
 rw[ae4]at ah4
 obtain⟨av5,ar5,aS5,aT5,rfl,rfl,ah5,aq6⟩:=aq5.step
 obtain⟨_,rfl,rfl⟩:=aq6
 have ahsz:ca.length=10:=ha.size
 obtain⟨bvs,rfl,bq0⟩:=hb.st
 obtain⟨bv0,br0,bS0,bT0,rfl,rfl,bh0,bq1⟩:=bq0.step
 obtain⟨bn0,be0,rfl,rfl,blo0,bhi0⟩:=bh0.int
 obtain⟨bv1,br1,bS1,bT1,rfl,rfl,bh1,bq2⟩:=bq1.step
 obtain⟨bn1,be1,rfl,rfl,blo1,bhi1⟩:=bh1.int
 obtain⟨bv2,br2,bS2,bT2,rfl,rfl,bh2,bq3⟩:=bq2.step
 obtain⟨bn2,be2,rfl,rfl,blo2,bhi2⟩:=bh2.int
 obtain⟨bv3,br3,bS3,bT3,rfl,rfl,bh3,bq4⟩:=bq3.step
 obtain⟨bc3,be3⟩:=bh3.one rfl
 rw[be3]at bh3
 obtain⟨bv4,br4,bS4,bT4,rfl,rfl,bh4,bq5⟩:=bq4.step
 obtain⟨bc4,be4⟩:=bh4.one rfl
 rw[be4]at bh4
 obtain⟨bv5,br5,bS5,bT5,rfl,rfl,bh5,bq6⟩:=bq5.step
 obtain⟨_,rfl,rfl⟩:=bq6
 have bhsz:cb.length=10:=hb.size
 simp only[Ty.size,Ty.aN,Nat.reduceAdd,Nat.zero_add,List.drop_zero]at ae0 ae1 ae2 ae3 ae4 ahsz be0 be1 be2 be3 be4 bhsz ah5 bh5
 refine aw Oa rfl ?_
 simp(disch:=omega) only[ae,EI,ae0,ae1,ae2,ae3,ae4,ahsz,be0,be1,be2,be3,be4,bhsz,ax,au,SX,SU,SL,reduceCtorEq,Nat.reduceAdd,Nat.reduceLeDiff,reduceIte]
 refine aq (fun hn=> ?_) (fun hn=> ?_)
 case refine_1=>
  simp(disch:=omega) only[ae,EI,ae0,ae1,ae2,ae3,ae4,ahsz,be0,be1,be2,be3,be4,bhsz,ax,au,SX,SU,SL,reduceCtorEq,Nat.reduceAdd,Nat.reduceLeDiff,reduceIte]
  simp[hn]
 have d0:an0=bn0:=by omega
 subst d0
 simp(disch:=omega) only[ae,EI,ae0,ae1,ae2,ae3,ae4,ahsz,be0,be1,be2,be3,be4,bhsz,ax,au,SX,SU,SL,reduceCtorEq,Nat.reduceAdd,Nat.reduceLeDiff,reduceIte]
 refine aq (fun hn=> ?_) (fun hn=> ?_)
 case refine_1=>
  simp(disch:=omega) only[ae,EI,ae0,ae1,ae2,ae3,ae4,ahsz,be0,be1,be2,be3,be4,bhsz,ax,au,SX,SU,SL,reduceCtorEq,Nat.reduceAdd,Nat.reduceLeDiff,reduceIte]
  simp[hn]
 have d1:an1=bn1:=by omega
 subst d1
 simp(disch:=omega) only[ae,EI,ae0,ae1,ae2,ae3,ae4,ahsz,be0,be1,be2,be3,be4,bhsz,ax,au,SX,SU,SL,reduceCtorEq,Nat.reduceAdd,Nat.reduceLeDiff,reduceIte]
 refine aq (fun hn=> ?_) (fun hn=> ?_)
 case refine_1=>
  simp(disch:=omega) only[ae,EI,ae0,ae1,ae2,ae3,ae4,ahsz,be0,be1,be2,be3,be4,bhsz,ax,au,SX,SU,SL,reduceCtorEq,Nat.reduceAdd,Nat.reduceLeDiff,reduceIte]
  simp[hn]
 have d2:an2=bn2:=by omega
 subst d2
 simp(disch:=omega) only[ae,EI,ae0,ae1,ae2,ae3,ae4,ahsz,be0,be1,be2,be3,be4,bhsz,ax,au,SX,SU,SL,reduceCtorEq,Nat.reduceAdd,Nat.reduceLeDiff,reduceIte]
 refine cO.go dy ah3 bh3 (fun d3=> ?_) (fun d3=> ?_)
 case refine_2=>
  simp(disch:=omega) only[ae,EI,ae0,ae1,ae2,ae3,ae4,ahsz,be0,be1,be2,be3,be4,bhsz,ax,au,SX,SU,SL,reduceCtorEq,Nat.reduceAdd,Nat.reduceLeDiff,reduceIte]
  simp[d3]
 subst d3
 simp(disch:=omega) only[ae,EI,ae0,ae1,ae2,ae3,ae4,ahsz,be0,be1,be2,be3,be4,bhsz,ax,au,SX,SU,SL,reduceCtorEq,Nat.reduceAdd,Nat.reduceLeDiff,reduceIte]
 refine cO.go dy ah4 bh4 (fun d4=> ?_) (fun d4=> ?_)
 case refine_2=>
  simp(disch:=omega) only[ae,EI,ae0,ae1,ae2,ae3,ae4,ahsz,be0,be1,be2,be3,be4,bhsz,ax,au,SX,SU,SL,reduceCtorEq,Nat.reduceAdd,Nat.reduceLeDiff,reduceIte]
  simp[d4]
 subst d4
 simp(disch:=omega) only[ae,EI,ae0,ae1,ae2,ae3,ae4,ahsz,be0,be1,be2,be3,be4,bhsz,ax,au,SX,SU,SL,reduceCtorEq,Nat.reduceAdd,Nat.reduceLeDiff,reduceIte]
 refine cO.go HJ ah5 bh5 (fun d5=> ?_) (fun d5=> ?_)
 case refine_2=>
  simp(disch:=omega) only[ae,EI,ae0,ae1,ae2,ae3,ae4,ahsz,be0,be1,be2,be3,be4,bhsz,ax,au,SX,SU,SL,reduceCtorEq,Nat.reduceAdd,Nat.reduceLeDiff,reduceIte]
  simp[d5]
 subst d5
 simp(disch:=omega) only[ae,EI,ae0,ae1,ae2,ae3,ae4,ahsz,be0,be1,be2,be3,be4,bhsz,ax,au,SX,SU,SL,reduceCtorEq,Nat.reduceAdd,Nat.reduceLeDiff,reduceIte]
def Fv:AF:=⟨2,5,[.tmp 4],(.seq (.ops [.i (.lbox 2 (.s 0)), .i (.lbox 3 (.s 1)), .i (.mov 4 (qb false))]) (.seq (.seq (.ops [qf 5 2 0,ql 6 2 5 10 true,qf 7 3 0,ql 8 3 7 10 true, .i (.call 10 73 false [(.s 6),(.s 8)]), .i (.not 10 (.s 9))]) (.cond (.s 10) (.seq (.ops [.i (.mov 4 (qb false))]) .ret) .skip)) (.seq (.seq (.ops [qf 11 2 10,ql 12 2 11 1 false,qf 13 3 10,ql 14 3 13 1 false, .i (.call 16 195 false [(.s 12),(.s 14)]), .i (.not 16 (.s 15))]) (.cond (.s 16) (.seq (.ops [.i (.mov 4 (qb false))]) .ret) .skip)) (.seq (.ops [.i (.mov 4 (qb true))]) .ret))))⟩
theorem NG:cd 102=some Fv:=by kernel_rfl
theorem Gu:cO cd 102 bL:=by
 intro h ca cb va vb Sa Sb ha hb
 obtain⟨avs,rfl,aq0⟩:=ha.st
 obtain⟨av0,ar0,aS0,aT0,rfl,rfl,ah0,aq1⟩:=aq0.step
 obtain⟨av1,ar1,aS1,aT1,rfl,rfl,ah1,aq2⟩:=aq1.step
 obtain⟨ac1,ae1⟩:=ah1.one rfl
 rw[ae1]at ah1
 obtain⟨_,rfl,rfl⟩:=aq2
 have ahsz:ca.length=11:=ha.size
 obtain⟨bvs,rfl,bq0⟩:=hb.st
 obtain⟨bv0,br0,bS0,bT0,rfl,rfl,bh0,bq1⟩:=bq0.step
 obtain⟨bv1,br1,bS1,bT1,rfl,rfl,bh1,bq2⟩:=bq1.step
 obtain⟨bc1,be1⟩:=bh1.one rfl
 rw[be1]at bh1
 obtain⟨_,rfl,rfl⟩:=bq2
 have bhsz:cb.length=11:=hb.size
 simp only[Ty.size,Ty.aN,Nat.reduceAdd,Nat.zero_add,List.drop_zero]at ae1 ahsz be1 bhsz ah0 bh0
 refine aw NG rfl ?_
 simp(disch:=omega) only[ae,Fv,ae1,ahsz,be1,bhsz,ax,au,SX,SU,SL,reduceCtorEq,Nat.reduceAdd,Nat.reduceLeDiff,reduceIte]
 refine cO.go AG ah0 bh0 (fun d0=> ?_) (fun d0=> ?_)
 case refine_2=>
  simp(disch:=omega) only[ae,Fv,ae1,ahsz,be1,bhsz,ax,au,SX,SU,SL,reduceCtorEq,Nat.reduceAdd,Nat.reduceLeDiff,reduceIte]
  simp[d0]
 subst d0
 simp(disch:=omega) only[ae,Fv,ae1,ahsz,be1,bhsz,ax,au,SX,SU,SL,reduceCtorEq,Nat.reduceAdd,Nat.reduceLeDiff,reduceIte]
 refine cO.go sZ ah1 bh1 (fun d1=> ?_) (fun d1=> ?_)
 case refine_2=>
  simp(disch:=omega) only[ae,Fv,ae1,ahsz,be1,bhsz,ax,au,SX,SU,SL,reduceCtorEq,Nat.reduceAdd,Nat.reduceLeDiff,reduceIte]
  simp[d1]
 subst d1
 simp(disch:=omega) only[ae,Fv,ae1,ahsz,be1,bhsz,ax,au,SX,SU,SL,reduceCtorEq,Nat.reduceAdd,Nat.reduceLeDiff,reduceIte]
def CI:AF:=⟨2,5,[.tmp 4],(.seq (.ops [.i (.lbox 2 (.s 0)), .i (.lbox 3 (.s 1)), .i (.mov 4 (qb false))]) (.seq (.seq (.ops [qf 5 2 0,ql 6 2 5 1 false,qf 7 3 0,ql 8 3 7 1 false,qd 9 .neq 6 8]) (.cond (.s 9) (.seq (.ops [.i (.mov 4 (qb false))]) .ret) .skip)) (.seq (.seq (.ops [qf 10 2 1,ql 11 2 10 1 false,qf 12 3 1,ql 13 3 12 1 false,qd 14 .neq 11 13]) (.cond (.s 14) (.seq (.ops [.i (.mov 4 (qb false))]) .ret) .skip)) (.seq (.seq (.ops [qf 15 2 2,ql 16 2 15 1 false,qf 17 3 2,ql 18 3 17 1 false, .i (.call 20 39 false [(.s 16),(.s 18)]), .i (.not 20 (.s 19))]) (.cond (.s 20) (.seq (.ops [.i (.mov 4 (qb false))]) .ret) .skip)) (.seq (.ops [.i (.mov 4 (qb true))]) .ret)))))⟩
theorem NB:cd 254=some CI:=by kernel_rfl
theorem HE:cO cd 254 aQ:=by
 intro h ca cb va vb Sa Sb ha hb
 obtain⟨avs,rfl,aq0⟩:=ha.st
 obtain⟨av0,ar0,aS0,aT0,rfl,rfl,ah0,aq1⟩:=aq0.step
 obtain⟨an0,ae0,rfl,rfl,alo0,ahi0⟩:=ah0.int
 obtain⟨av1,ar1,aS1,aT1,rfl,rfl,ah1,aq2⟩:=aq1.step
 obtain⟨an1,ae1,rfl,rfl,alo1,ahi1⟩:=ah1.int
 obtain⟨av2,ar2,aS2,aT2,rfl,rfl,ah2,aq3⟩:=aq2.step
 obtain⟨ac2,ae2⟩:=ah2.one rfl
 rw[ae2]at ah2
 obtain⟨_,rfl,rfl⟩:=aq3
 have ahsz:ca.length=3:=ha.size
 obtain⟨bvs,rfl,bq0⟩:=hb.st
 obtain⟨bv0,br0,bS0,bT0,rfl,rfl,bh0,bq1⟩:=bq0.step
 obtain⟨bn0,be0,rfl,rfl,blo0,bhi0⟩:=bh0.int
 obtain⟨bv1,br1,bS1,bT1,rfl,rfl,bh1,bq2⟩:=bq1.step
 obtain⟨bn1,be1,rfl,rfl,blo1,bhi1⟩:=bh1.int
 obtain⟨bv2,br2,bS2,bT2,rfl,rfl,bh2,bq3⟩:=bq2.step
 obtain⟨bc2,be2⟩:=bh2.one rfl
 rw[be2]at bh2
 obtain⟨_,rfl,rfl⟩:=bq3
 have bhsz:cb.length=3:=hb.size
 simp only[Ty.size,Ty.aN,Nat.reduceAdd,Nat.zero_add,List.drop_zero]at ae0 ae1 ae2 ahsz be0 be1 be2 bhsz
 refine aw NB rfl ?_
 simp(disch:=omega) only[ae,CI,ae0,ae1,ae2,ahsz,be0,be1,be2,bhsz,ax,au,SX,SU,SL,reduceCtorEq,Nat.reduceAdd,Nat.reduceLeDiff,reduceIte]
 refine aq (fun hn=> ?_) (fun hn=> ?_)
 case refine_1=>
  simp(disch:=omega) only[ae,CI,ae0,ae1,ae2,ahsz,be0,be1,be2,bhsz,ax,au,SX,SU,SL,reduceCtorEq,Nat.reduceAdd,Nat.reduceLeDiff,reduceIte]
  simp[hn]
 have d0:an0=bn0:=by omega
 subst d0
 simp(disch:=omega) only[ae,CI,ae0,ae1,ae2,ahsz,be0,be1,be2,bhsz,ax,au,SX,SU,SL,reduceCtorEq,Nat.reduceAdd,Nat.reduceLeDiff,reduceIte]
 refine aq (fun hn=> ?_) (fun hn=> ?_)
 case refine_1=>
  simp(disch:=omega) only[ae,CI,ae0,ae1,ae2,ahsz,be0,be1,be2,bhsz,ax,au,SX,SU,SL,reduceCtorEq,Nat.reduceAdd,Nat.reduceLeDiff,reduceIte]
  simp[hn]
 have d1:an1=bn1:=by omega
 subst d1
 simp(disch:=omega) only[ae,CI,ae0,ae1,ae2,ahsz,be0,be1,be2,bhsz,ax,au,SX,SU,SL,reduceCtorEq,Nat.reduceAdd,Nat.reduceLeDiff,reduceIte]
 refine cO.go dy ah2 bh2 (fun d2=> ?_) (fun d2=> ?_)
 case refine_2=>
  simp(disch:=omega) only[ae,CI,ae0,ae1,ae2,ahsz,be0,be1,be2,bhsz,ax,au,SX,SU,SL,reduceCtorEq,Nat.reduceAdd,Nat.reduceLeDiff,reduceIte]
  simp[d2]
 subst d2
 simp(disch:=omega) only[ae,CI,ae0,ae1,ae2,ahsz,be0,be1,be2,bhsz,ax,au,SX,SU,SL,reduceCtorEq,Nat.reduceAdd,Nat.reduceLeDiff,reduceIte]
def Nt:AF:=⟨2,5,[.tmp 4],(.seq (.ops [.i (.mov 4 (qb false))]) (.seq (.seq (.ops [qm 6 0,qn 7 6,qm 8 1,qn 9 8,qd 10 .neq 7 9]) (.cond (.s 10) (.seq (.ops [.i (.mov 4 (qb false))]) .ret) .skip)) (.seq (.seq (.ops [.i (.mov 5 (qi 0))]) (.block 0 (.loop [26,25,24,23,22,21,20,19,18,17,16,15,14,13,12,11] (.seq (.seq (.ops [qm 11 5,qm 12 0,qn 13 12,qd 14 .lss 11 13]) (.cond (.s 14) .skip (.exit 0))) (.seq (.block 1 (.seq (.ops [qm 17 0,qm 18 5, .i (.iad 19 (.s 17) (.s 18) 3), .i (.ldh 20 (.s 19) 3 true),qm 21 1,qm 22 5, .i (.iad 23 (.s 21) (.s 22) 3), .i (.ldh 24 (.s 23) 3 true), .i (.call 26 254 false [(.s 20),(.s 24)]), .i (.not 26 (.s 25))]) (.cond (.s 26) (.seq (.ops [.i (.mov 4 (qb false))]) .ret) .skip))) (.ops [qm 15 5, .i (.bin 16 .add (.s 15) (qi 1)),qm 5 16])))))) (.seq (.ops [.i (.mov 4 (qb true))]) .ret))))⟩
theorem Nd:cd 196=some Nt:=by kernel_rfl
theorem FJ:cO cd 196 (.sl aQ):=HZ Nd HE
def FL:AF:=⟨2,5,[.tmp 4],(.seq (.ops [.i (.lbox 2 (.s 0)), .i (.lbox 3 (.s 1)), .i (.mov 4 (qb false))]) (.seq (.seq (.ops [qf 5 2 0,ql 6 2 5 1 false,qf 7 3 0,ql 8 3 7 1 false,qd 9 .neq 6 8]) (.cond (.s 9) (.seq (.ops [.i (.mov 4 (qb false))]) .ret) .skip)) (.seq (.seq (.ops [qf 10 2 1,ql 11 2 10 1 false,qf 12 3 1,ql 13 3 12 1 false, .i (.call 15 196 false [(.s 11),(.s 13)]), .i (.not 15 (.s 14))]) (.cond (.s 15) (.seq (.ops [.i (.mov 4 (qb false))]) .ret) .skip)) (.seq (.ops [.i (.mov 4 (qb true))]) .ret))))⟩
theorem Nu:cd 103=some FL:=by kernel_rfl
theorem LM:cO cd 103 yB:=by
 intro h ca cb va vb Sa Sb ha hb
 obtain⟨avs,rfl,aq0⟩:=ha.st
 obtain⟨av0,ar0,aS0,aT0,rfl,rfl,ah0,aq1⟩:=aq0.step
 obtain⟨an0,ae0,rfl,rfl,alo0,ahi0⟩:=ah0.int
 obtain⟨av1,ar1,aS1,aT1,rfl,rfl,ah1,aq2⟩:=aq1.step
 obtain⟨ac1,ae1⟩:=ah1.one rfl
 rw[ae1]at ah1
 obtain⟨_,rfl,rfl⟩:=aq2
 have ahsz:ca.length=2:=ha.size
 obtain⟨bvs,rfl,bq0⟩:=hb.st
 obtain⟨bv0,br0,bS0,bT0,rfl,rfl,bh0,bq1⟩:=bq0.step
 obtain⟨bn0,be0,rfl,rfl,blo0,bhi0⟩:=bh0.int
 obtain⟨bv1,br1,bS1,bT1,rfl,rfl,bh1,bq2⟩:=bq1.step
 obtain⟨bc1,be1⟩:=bh1.one rfl
 rw[be1]at bh1
 obtain⟨_,rfl,rfl⟩:=bq2
 have bhsz:cb.length=2:=hb.size
 simp only[Ty.size,Ty.aN,Nat.reduceAdd,Nat.zero_add,List.drop_zero]at ae0 ae1 ahsz be0 be1 bhsz
 refine aw Nu rfl ?_
 simp(disch:=omega) only[ae,FL,ae0,ae1,ahsz,be0,be1,bhsz,ax,au,SX,SU,SL,reduceCtorEq,Nat.reduceAdd,Nat.reduceLeDiff,reduceIte]
 refine aq (fun hn=> ?_) (fun hn=> ?_)
 case refine_1=>
  simp(disch:=omega) only[ae,FL,ae0,ae1,ahsz,be0,be1,bhsz,ax,au,SX,SU,SL,reduceCtorEq,Nat.reduceAdd,Nat.reduceLeDiff,reduceIte]
  simp[hn]
 have d0:an0=bn0:=by omega
 subst d0
 simp(disch:=omega) only[ae,FL,ae0,ae1,ahsz,be0,be1,bhsz,ax,au,SX,SU,SL,reduceCtorEq,Nat.reduceAdd,Nat.reduceLeDiff,reduceIte]
 refine cO.go FJ ah1 bh1 (fun d1=> ?_) (fun d1=> ?_)
 case refine_2=>
  simp(disch:=omega) only[ae,FL,ae0,ae1,ahsz,be0,be1,bhsz,ax,au,SX,SU,SL,reduceCtorEq,Nat.reduceAdd,Nat.reduceLeDiff,reduceIte]
  simp[d1]
 subst d1
 simp(disch:=omega) only[ae,FL,ae0,ae1,ahsz,be0,be1,bhsz,ax,au,SX,SU,SL,reduceCtorEq,Nat.reduceAdd,Nat.reduceLeDiff,reduceIte]
def Ou:AF:=⟨2,5,[.tmp 4],(.seq (.ops [.i (.mov 4 (qb false))]) (.seq (.seq (.ops [qm 6 0,qn 7 6,qm 8 1,qn 9 8,qd 10 .neq 7 9]) (.cond (.s 10) (.seq (.ops [.i (.mov 4 (qb false))]) .ret) .skip)) (.seq (.seq (.ops [.i (.mov 5 (qi 0))]) (.block 0 (.loop [26,25,24,23,22,21,20,19,18,17,16,15,14,13,12,11] (.seq (.seq (.ops [qm 11 5,qm 12 0,qn 13 12,qd 14 .lss 11 13]) (.cond (.s 14) .skip (.exit 0))) (.seq (.block 1 (.seq (.ops [qm 17 0,qm 18 5, .i (.iad 19 (.s 17) (.s 18) 10), .i (.ldh 20 (.s 19) 10 true),qm 21 1,qm 22 5, .i (.iad 23 (.s 21) (.s 22) 10), .i (.ldh 24 (.s 23) 10 true), .i (.call 26 73 false [(.s 20),(.s 24)]), .i (.not 26 (.s 25))]) (.cond (.s 26) (.seq (.ops [.i (.mov 4 (qb false))]) .ret) .skip))) (.ops [qm 15 5, .i (.bin 16 .add (.s 15) (qi 1)),qm 5 16])))))) (.seq (.ops [.i (.mov 4 (qb true))]) .ret))))⟩
theorem N5:cd 22=some Ou:=by kernel_rfl
theorem Gb:cO cd 22 (.sl ao):=HZ N5 AG
def Fu:AF:=⟨2,5,[.tmp 4],(.seq (.ops [.i (.lbox 2 (.s 0)), .i (.lbox 3 (.s 1)), .i (.mov 4 (qb false))]) (.seq (.seq (.ops [qf 5 2 0,ql 6 2 5 1 false,qf 7 3 0,ql 8 3 7 1 false, .i (.call 10 22 false [(.s 6),(.s 8)]), .i (.not 10 (.s 9))]) (.cond (.s 10) (.seq (.ops [.i (.mov 4 (qb false))]) .ret) .skip)) (.seq (.seq (.ops [qf 11 2 1,ql 12 2 11 5 true,qf 13 3 1,ql 14 3 13 5 true, .i (.call 16 101 false [(.s 12),(.s 14)]), .i (.not 16 (.s 15))]) (.cond (.s 16) (.seq (.ops [.i (.mov 4 (qb false))]) .ret) .skip)) (.seq (.ops [.i (.mov 4 (qb true))]) .ret))))⟩
theorem MR:cd 104=some Fu:=by kernel_rfl
theorem Gz:cO cd 104 cj:=by
 intro h ca cb va vb Sa Sb ha hb
 obtain⟨avs,rfl,aq0⟩:=ha.st
 obtain⟨av0,ar0,aS0,aT0,rfl,rfl,ah0,aq1⟩:=aq0.step
 obtain⟨ac0,ae0⟩:=ah0.one rfl
 rw[ae0]at ah0
 obtain⟨av1,ar1,aS1,aT1,rfl,rfl,ah1,aq2⟩:=aq1.step
 obtain⟨_,rfl,rfl⟩:=aq2
 have ahsz:ca.length=6:=ha.size
 obtain⟨bvs,rfl,bq0⟩:=hb.st
 obtain⟨bv0,br0,bS0,bT0,rfl,rfl,bh0,bq1⟩:=bq0.step
 obtain⟨bc0,be0⟩:=bh0.one rfl
 rw[be0]at bh0
 obtain⟨bv1,br1,bS1,bT1,rfl,rfl,bh1,bq2⟩:=bq1.step
 obtain⟨_,rfl,rfl⟩:=bq2
 have bhsz:cb.length=6:=hb.size
 simp only[Ty.size,Ty.aN,Nat.reduceAdd,Nat.zero_add,List.drop_zero]at ae0 ahsz be0 bhsz ah1 bh1
 refine aw MR rfl ?_
 simp(disch:=omega) only[ae,Fu,ae0,ahsz,be0,bhsz,ax,au,SX,SU,SL,reduceCtorEq,Nat.reduceAdd,Nat.reduceLeDiff,reduceIte]
 refine cO.go Gb ah0 bh0 (fun d0=> ?_) (fun d0=> ?_)
 case refine_2=>
  simp(disch:=omega) only[ae,Fu,ae0,ahsz,be0,bhsz,ax,au,SX,SU,SL,reduceCtorEq,Nat.reduceAdd,Nat.reduceLeDiff,reduceIte]
  simp[d0]
 subst d0
 simp(disch:=omega) only[ae,Fu,ae0,ahsz,be0,bhsz,ax,au,SX,SU,SL,reduceCtorEq,Nat.reduceAdd,Nat.reduceLeDiff,reduceIte]
 refine cO.go HJ ah1 bh1 (fun d1=> ?_) (fun d1=> ?_)
 case refine_2=>
  simp(disch:=omega) only[ae,Fu,ae0,ahsz,be0,bhsz,ax,au,SX,SU,SL,reduceCtorEq,Nat.reduceAdd,Nat.reduceLeDiff,reduceIte]
  simp[d1]
 subst d1
 simp(disch:=omega) only[ae,Fu,ae0,ahsz,be0,bhsz,ax,au,SX,SU,SL,reduceCtorEq,Nat.reduceAdd,Nat.reduceLeDiff,reduceIte]
def uS:AF:=⟨2,6,[.tmp 4],(.seq (.ops [.i (.lbox 2 (.s 0)), .i (.lbox 3 (.s 1)), .i (.mov 4 (qb false))]) (.seq (.seq (.ops [qf 5 2 0,ql 6 2 5 1 false,qf 7 3 0,ql 8 3 7 1 false,qd 9 .neq 6 8]) (.cond (.s 9) (.seq (.ops [.i (.mov 4 (qb false))]) .ret) .skip)) (.seq (.seq (.ops [qf 10 2 1,ql 11 2 10 1 false,qf 12 3 1,ql 13 3 12 1 false,qd 14 .neq 11 13]) (.cond (.s 14) (.seq (.ops [.i (.mov 4 (qb false))]) .ret) .skip)) (.seq (.seq (.ops [qf 15 2 2,ql 16 2 15 1 false,qf 17 3 2,ql 18 3 17 1 false,qd 19 .neq 16 18]) (.cond (.s 19) (.seq (.ops [.i (.mov 4 (qb false))]) .ret) .skip)) (.seq (.seq (.ops [qf 20 2 3,ql 21 2 20 1 false,qf 22 3 3,ql 23 3 22 1 false, .i (.call 25 39 false [(.s 21),(.s 23)]), .i (.not 25 (.s 24))]) (.cond (.s 25) (.seq (.ops [.i (.mov 4 (qb false))]) .ret) .skip)) (.seq (.seq (.ops [qf 26 2 4,ql 27 2 26 1 false,qf 28 3 4,ql 29 3 28 1 false, .i (.call 31 195 false [(.s 27),(.s 29)]), .i (.not 31 (.s 30))]) (.cond (.s 31) (.seq (.ops [.i (.mov 4 (qb false))]) .ret) .skip)) (.seq (.ops [.i (.mov 4 (qb true))]) .ret)))))))⟩
theorem Nb:cd 105=some uS:=by kernel_rfl
end Go.Eng.U
namespace Go.Eng.U
theorem JC:cO cd 105 gW:=by
 intro h ca cb va vb Sa Sb ha hb
 obtain⟨avs,rfl,aq0⟩:=ha.st
 obtain⟨av0,ar0,aS0,aT0,rfl,rfl,ah0,aq1⟩:=aq0.step
 obtain⟨an0,ae0,rfl,rfl,alo0,ahi0⟩:=ah0.int
 obtain⟨av1,ar1,aS1,aT1,rfl,rfl,ah1,aq2⟩:=aq1.step
 obtain⟨an1,ae1,rfl,rfl,alo1,ahi1⟩:=ah1.int
 obtain⟨av2,ar2,aS2,aT2,rfl,rfl,ah2,aq3⟩:=aq2.step
 obtain⟨an2,ae2,rfl,rfl,alo2,ahi2⟩:=ah2.int
 obtain⟨av3,ar3,aS3,aT3,rfl,rfl,ah3,aq4⟩:=aq3.step
 obtain⟨ac3,ae3⟩:=ah3.one rfl
 rw[ae3]at ah3
 obtain⟨av4,ar4,aS4,aT4,rfl,rfl,ah4,aq5⟩:=aq4.step
 obtain⟨ac4,ae4⟩:=ah4.one rfl
 rw[ae4]at ah4
 obtain⟨_,rfl,rfl⟩:=aq5
 have ahsz:ca.length=5:=ha.size
 obtain⟨bvs,rfl,bq0⟩:=hb.st
 obtain⟨bv0,br0,bS0,bT0,rfl,rfl,bh0,bq1⟩:=bq0.step
 obtain⟨bn0,be0,rfl,rfl,blo0,bhi0⟩:=bh0.int
 obtain⟨bv1,br1,bS1,bT1,rfl,rfl,bh1,bq2⟩:=bq1.step
 obtain⟨bn1,be1,rfl,rfl,blo1,bhi1⟩:=bh1.int
 obtain⟨bv2,br2,bS2,bT2,rfl,rfl,bh2,bq3⟩:=bq2.step
 obtain⟨bn2,be2,rfl,rfl,blo2,bhi2⟩:=bh2.int
 obtain⟨bv3,br3,bS3,bT3,rfl,rfl,bh3,bq4⟩:=bq3.step
 obtain⟨bc3,be3⟩:=bh3.one rfl
 rw[be3]at bh3
 obtain⟨bv4,br4,bS4,bT4,rfl,rfl,bh4,bq5⟩:=bq4.step
 obtain⟨bc4,be4⟩:=bh4.one rfl
 rw[be4]at bh4
 obtain⟨_,rfl,rfl⟩:=bq5
 have bhsz:cb.length=5:=hb.size
 simp only[Ty.size,Ty.aN,Nat.reduceAdd,Nat.zero_add,List.drop_zero]at ae0 ae1 ae2 ae3 ae4 ahsz be0 be1 be2 be3 be4 bhsz
 refine aw Nb rfl ?_
 simp(disch:=omega) only[ae,uS,ae0,ae1,ae2,ae3,ae4,ahsz,be0,be1,be2,be3,be4,bhsz,ax,au,SX,SU,SL,reduceCtorEq,Nat.reduceAdd,Nat.reduceLeDiff,reduceIte]
 refine aq (fun hn=> ?_) (fun hn=> ?_)
 case refine_1=>
  simp(disch:=omega) only[ae,uS,ae0,ae1,ae2,ae3,ae4,ahsz,be0,be1,be2,be3,be4,bhsz,ax,au,SX,SU,SL,reduceCtorEq,Nat.reduceAdd,Nat.reduceLeDiff,reduceIte]
  simp[hn]
 have d0:an0=bn0:=by omega
 subst d0
 simp(disch:=omega) only[ae,uS,ae0,ae1,ae2,ae3,ae4,ahsz,be0,be1,be2,be3,be4,bhsz,ax,au,SX,SU,SL,reduceCtorEq,Nat.reduceAdd,Nat.reduceLeDiff,reduceIte]
 refine aq (fun hn=> ?_) (fun hn=> ?_)
 case refine_1=>
  simp(disch:=omega) only[ae,uS,ae0,ae1,ae2,ae3,ae4,ahsz,be0,be1,be2,be3,be4,bhsz,ax,au,SX,SU,SL,reduceCtorEq,Nat.reduceAdd,Nat.reduceLeDiff,reduceIte]
  simp[hn]
 have d1:an1=bn1:=by omega
 subst d1
 simp(disch:=omega) only[ae,uS,ae0,ae1,ae2,ae3,ae4,ahsz,be0,be1,be2,be3,be4,bhsz,ax,au,SX,SU,SL,reduceCtorEq,Nat.reduceAdd,Nat.reduceLeDiff,reduceIte]
 refine aq (fun hn=> ?_) (fun hn=> ?_)
 case refine_1=>
  simp(disch:=omega) only[ae,uS,ae0,ae1,ae2,ae3,ae4,ahsz,be0,be1,be2,be3,be4,bhsz,ax,au,SX,SU,SL,reduceCtorEq,Nat.reduceAdd,Nat.reduceLeDiff,reduceIte]
  simp[hn]
 have d2:an2=bn2:=by omega
 subst d2
 simp(disch:=omega) only[ae,uS,ae0,ae1,ae2,ae3,ae4,ahsz,be0,be1,be2,be3,be4,bhsz,ax,au,SX,SU,SL,reduceCtorEq,Nat.reduceAdd,Nat.reduceLeDiff,reduceIte]
 refine cO.go dy ah3 bh3 (fun d3=> ?_) (fun d3=> ?_)
 case refine_2=>
  simp(disch:=omega) only[ae,uS,ae0,ae1,ae2,ae3,ae4,ahsz,be0,be1,be2,be3,be4,bhsz,ax,au,SX,SU,SL,reduceCtorEq,Nat.reduceAdd,Nat.reduceLeDiff,reduceIte]
  simp[d3]
 subst d3
 simp(disch:=omega) only[ae,uS,ae0,ae1,ae2,ae3,ae4,ahsz,be0,be1,be2,be3,be4,bhsz,ax,au,SX,SU,SL,reduceCtorEq,Nat.reduceAdd,Nat.reduceLeDiff,reduceIte]
 refine cO.go sZ ah4 bh4 (fun d4=> ?_) (fun d4=> ?_)
 case refine_2=>
  simp(disch:=omega) only[ae,uS,ae0,ae1,ae2,ae3,ae4,ahsz,be0,be1,be2,be3,be4,bhsz,ax,au,SX,SU,SL,reduceCtorEq,Nat.reduceAdd,Nat.reduceLeDiff,reduceIte]
  simp[d4]
 subst d4
 simp(disch:=omega) only[ae,uS,ae0,ae1,ae2,ae3,ae4,ahsz,be0,be1,be2,be3,be4,bhsz,ax,au,SX,SU,SL,reduceCtorEq,Nat.reduceAdd,Nat.reduceLeDiff,reduceIte]
def BL:AF:=⟨2,6,[.tmp 4],(.seq (.ops [.i (.lbox 2 (.s 0)), .i (.lbox 3 (.s 1)), .i (.mov 4 (qb false))]) (.seq (.seq (.ops [qf 5 2 0,ql 6 2 5 1 false,qf 7 3 0,ql 8 3 7 1 false,qd 9 .neq 6 8]) (.cond (.s 9) (.seq (.ops [.i (.mov 4 (qb false))]) .ret) .skip)) (.seq (.seq (.ops [qf 10 2 1,ql 11 2 10 5 true,qf 12 3 1,ql 13 3 12 5 true, .i (.call 15 100 false [(.s 11),(.s 13)]), .i (.not 15 (.s 14))]) (.cond (.s 15) (.seq (.ops [.i (.mov 4 (qb false))]) .ret) .skip)) (.seq (.seq (.ops [qf 16 2 6,ql 17 2 16 5 true,qf 18 3 6,ql 19 3 18 5 true, .i (.call 21 101 false [(.s 17),(.s 19)]), .i (.not 21 (.s 20))]) (.cond (.s 21) (.seq (.ops [.i (.mov 4 (qb false))]) .ret) .skip)) (.seq (.seq (.ops [qf 22 2 11,ql 23 2 22 10 true,qf 24 3 11,ql 25 3 24 10 true, .i (.call 27 73 false [(.s 23),(.s 25)]), .i (.not 27 (.s 26))]) (.cond (.s 27) (.seq (.ops [.i (.mov 4 (qb false))]) .ret) .skip)) (.seq (.seq (.ops [qf 28 2 21,ql 29 2 28 11 true,qf 30 3 21,ql 31 3 30 11 true, .i (.call 33 102 false [(.s 29),(.s 31)]), .i (.not 33 (.s 32))]) (.cond (.s 33) (.seq (.ops [.i (.mov 4 (qb false))]) .ret) .skip)) (.seq (.seq (.ops [qf 34 2 32,ql 35 2 34 2 true,qf 36 3 32,ql 37 3 36 2 true, .i (.call 39 103 false [(.s 35),(.s 37)]), .i (.not 39 (.s 38))]) (.cond (.s 39) (.seq (.ops [.i (.mov 4 (qb false))]) .ret) .skip)) (.seq (.seq (.ops [qf 40 2 34,ql 41 2 40 6 true,qf 42 3 34,ql 43 3 42 6 true, .i (.call 45 104 false [(.s 41),(.s 43)]), .i (.not 45 (.s 44))]) (.cond (.s 45) (.seq (.ops [.i (.mov 4 (qb false))]) .ret) .skip)) (.seq (.seq (.ops [qf 46 2 40,ql 47 2 46 5 true,qf 48 3 40,ql 49 3 48 5 true, .i (.call 51 105 false [(.s 47),(.s 49)]), .i (.not 51 (.s 50))]) (.cond (.s 51) (.seq (.ops [.i (.mov 4 (qb false))]) .ret) .skip)) (.seq (.ops [.i (.mov 4 (qb true))]) .ret))))))))))⟩
theorem Oy:cd 34=some BL:=by kernel_rfl
theorem KY:cO cd 34 TMsg:=by
 intro h ca cb va vb Sa Sb ha hb
 obtain⟨avs,rfl,aq0⟩:=ha.st
 obtain⟨av0,ar0,aS0,aT0,rfl,rfl,ah0,aq1⟩:=aq0.step
 obtain⟨an0,ae0,rfl,rfl,alo0,ahi0⟩:=ah0.int
 obtain⟨av1,ar1,aS1,aT1,rfl,rfl,ah1,aq2⟩:=aq1.step
 obtain⟨av2,ar2,aS2,aT2,rfl,rfl,ah2,aq3⟩:=aq2.step
 obtain⟨av3,ar3,aS3,aT3,rfl,rfl,ah3,aq4⟩:=aq3.step
 obtain⟨av4,ar4,aS4,aT4,rfl,rfl,ah4,aq5⟩:=aq4.step
 obtain⟨av5,ar5,aS5,aT5,rfl,rfl,ah5,aq6⟩:=aq5.step
 obtain⟨av6,ar6,aS6,aT6,rfl,rfl,ah6,aq7⟩:=aq6.step
 obtain⟨av7,ar7,aS7,aT7,rfl,rfl,ah7,aq8⟩:=aq7.step
 obtain⟨_,rfl,rfl⟩:=aq8
 have ahsz:ca.length=45:=ha.size
 obtain⟨bvs,rfl,bq0⟩:=hb.st
 obtain⟨bv0,br0,bS0,bT0,rfl,rfl,bh0,bq1⟩:=bq0.step
 obtain⟨bn0,be0,rfl,rfl,blo0,bhi0⟩:=bh0.int
 obtain⟨bv1,br1,bS1,bT1,rfl,rfl,bh1,bq2⟩:=bq1.step
 obtain⟨bv2,br2,bS2,bT2,rfl,rfl,bh2,bq3⟩:=bq2.step
 obtain⟨bv3,br3,bS3,bT3,rfl,rfl,bh3,bq4⟩:=bq3.step
 obtain⟨bv4,br4,bS4,bT4,rfl,rfl,bh4,bq5⟩:=bq4.step
 obtain⟨bv5,br5,bS5,bT5,rfl,rfl,bh5,bq6⟩:=bq5.step
 obtain⟨bv6,br6,bS6,bT6,rfl,rfl,bh6,bq7⟩:=bq6.step
 obtain⟨bv7,br7,bS7,bT7,rfl,rfl,bh7,bq8⟩:=bq7.step
 obtain⟨_,rfl,rfl⟩:=bq8
 have bhsz:cb.length=45:=hb.size
 simp only[Ty.size,Ty.aN,Nat.reduceAdd,Nat.zero_add,List.drop_zero]at ae0 ahsz be0 bhsz ah1 ah2 ah3 ah4 ah5 ah6 ah7 bh1 bh2 bh3 bh4 bh5 bh6 bh7
 refine aw Oy rfl ?_
 simp(disch:=omega) only[ae,BL,ae0,ahsz,be0,bhsz,ax,au,SX,SU,SL,reduceCtorEq,Nat.reduceAdd,Nat.reduceLeDiff,reduceIte]
 refine aq (fun hn=> ?_) (fun hn=> ?_)
 case refine_1=>
  simp(disch:=omega) only[ae,BL,ae0,ahsz,be0,bhsz,ax,au,SX,SU,SL,reduceCtorEq,Nat.reduceAdd,Nat.reduceLeDiff,reduceIte]
  simp[hn]
 have d0:an0=bn0:=by omega
 subst d0
 simp(disch:=omega) only[ae,BL,ae0,ahsz,be0,bhsz,ax,au,SX,SU,SL,reduceCtorEq,Nat.reduceAdd,Nat.reduceLeDiff,reduceIte]
 refine cO.go I5 ah1 bh1 (fun d1=> ?_) (fun d1=> ?_)
 case refine_2=>
  simp(disch:=omega) only[ae,BL,ae0,ahsz,be0,bhsz,ax,au,SX,SU,SL,reduceCtorEq,Nat.reduceAdd,Nat.reduceLeDiff,reduceIte]
  simp[d1]
 subst d1
 simp(disch:=omega) only[ae,BL,ae0,ahsz,be0,bhsz,ax,au,SX,SU,SL,reduceCtorEq,Nat.reduceAdd,Nat.reduceLeDiff,reduceIte]
 refine cO.go HJ ah2 bh2 (fun d2=> ?_) (fun d2=> ?_)
 case refine_2=>
  simp(disch:=omega) only[ae,BL,ae0,ahsz,be0,bhsz,ax,au,SX,SU,SL,reduceCtorEq,Nat.reduceAdd,Nat.reduceLeDiff,reduceIte]
  simp[d2]
 subst d2
 simp(disch:=omega) only[ae,BL,ae0,ahsz,be0,bhsz,ax,au,SX,SU,SL,reduceCtorEq,Nat.reduceAdd,Nat.reduceLeDiff,reduceIte]
 refine cO.go AG ah3 bh3 (fun d3=> ?_) (fun d3=> ?_)
 case refine_2=>
  simp(disch:=omega) only[ae,BL,ae0,ahsz,be0,bhsz,ax,au,SX,SU,SL,reduceCtorEq,Nat.reduceAdd,Nat.reduceLeDiff,reduceIte]
  simp[d3]
 subst d3
 simp(disch:=omega) only[ae,BL,ae0,ahsz,be0,bhsz,ax,au,SX,SU,SL,reduceCtorEq,Nat.reduceAdd,Nat.reduceLeDiff,reduceIte]
 refine cO.go Gu ah4 bh4 (fun d4=> ?_) (fun d4=> ?_)
 case refine_2=>
  simp(disch:=omega) only[ae,BL,ae0,ahsz,be0,bhsz,ax,au,SX,SU,SL,reduceCtorEq,Nat.reduceAdd,Nat.reduceLeDiff,reduceIte]
  simp[d4]
 subst d4
 simp(disch:=omega) only[ae,BL,ae0,ahsz,be0,bhsz,ax,au,SX,SU,SL,reduceCtorEq,Nat.reduceAdd,Nat.reduceLeDiff,reduceIte]
 refine cO.go LM ah5 bh5 (fun d5=> ?_) (fun d5=> ?_)
 case refine_2=>
  simp(disch:=omega) only[ae,BL,ae0,ahsz,be0,bhsz,ax,au,SX,SU,SL,reduceCtorEq,Nat.reduceAdd,Nat.reduceLeDiff,reduceIte]
  simp[d5]
 subst d5
 simp(disch:=omega) only[ae,BL,ae0,ahsz,be0,bhsz,ax,au,SX,SU,SL,reduceCtorEq,Nat.reduceAdd,Nat.reduceLeDiff,reduceIte]
 refine cO.go Gz ah6 bh6 (fun d6=> ?_) (fun d6=> ?_)
 case refine_2=>
  simp(disch:=omega) only[ae,BL,ae0,ahsz,be0,bhsz,ax,au,SX,SU,SL,reduceCtorEq,Nat.reduceAdd,Nat.reduceLeDiff,reduceIte]
  simp[d6]
 subst d6
 simp(disch:=omega) only[ae,BL,ae0,ahsz,be0,bhsz,ax,au,SX,SU,SL,reduceCtorEq,Nat.reduceAdd,Nat.reduceLeDiff,reduceIte]
 refine cO.go JC ah7 bh7 (fun d7=> ?_) (fun d7=> ?_)
 case refine_2=>
  simp(disch:=omega) only[ae,BL,ae0,ahsz,be0,bhsz,ax,au,SX,SU,SL,reduceCtorEq,Nat.reduceAdd,Nat.reduceLeDiff,reduceIte]
  simp[d7]
 subst d7
 simp(disch:=omega) only[ae,BL,ae0,ahsz,be0,bhsz,ax,au,SX,SU,SL,reduceCtorEq,Nat.reduceAdd,Nat.reduceLeDiff,reduceIte]
def N9:AF:=⟨2,5,[.tmp 4],(.seq (.ops [.i (.mov 4 (qi 0))]) (.seq (.seq (.ops [.i (.mov 5 (qi 0))]) (.block 0 (.loop [18,17,16,15,14,13,12,11,10,9,8,7,6] (.seq (.seq (.ops [qm 6 5,qm 7 0,qn 8 7,qd 9 .lss 6 8]) (.cond (.s 9) .skip (.exit 0))) (.seq (.block 1 (.seq (.ops [qm 12 0,qm 13 5,qm 14 1, .i (.cvi 15 .u8 (.s 14)), .i (.iad 16 (.s 12) (.s 13) 1), .i (.sth (.s 16) (.s 15) 1)]) (.ops [qm 17 1, .i (.bin 18 .add (.s 17) (qi 1)),qm 1 18]))) (.ops [qm 10 5, .i (.bin 11 .add (.s 10) (qi 1)),qm 5 11])))))) (.seq (.ops [qm 19 1,qm 4 19]) .ret)))⟩
theorem NY:cd 41=some N9:=by kernel_rfl
theorem cS:cI cd 41 (.sl (.int .u8)):=IL NY
def JI:AF:=⟨2,4,[.tmp 4],(.seq (.ops [.i (.lbox 2 (.s 0)), .i (.mov 4 (qi 0))]) (.seq (.ops [qf 5 2 2,ql 6 2 5 1 false,qm 7 1, .i (.call 9 41 false [(.s 6),(.s 7)]),qm 1 8]) (.seq (.ops [qf 9 2 4,ql 10 2 9 1 false,qm 11 1, .i (.call 13 41 false [(.s 10),(.s 11)]),qm 1 12]) (.seq (.ops [qm 13 1,qm 4 13]) .ret))))⟩
theorem Ni:cd 106=some JI:=by kernel_rfl
theorem JA:cI cd 106 cq:=by
 intro h cs v S k hv ho hk
 obtain⟨vs,rfl,q0⟩:=hv.st
 obtain⟨v0,r0,S0,T0,rfl,rfl,h0,q1⟩:=q0.step
 obtain⟨n0,e0,rfl,rfl,lo0,hi0⟩:=h0.int
 obtain⟨v1,r1,S1,T1,rfl,rfl,h1,q2⟩:=q1.step
 obtain⟨n1,e1,rfl,rfl,lo1,hi1⟩:=h1.int
 obtain⟨v2,r2,S2,T2,rfl,rfl,h2,q3⟩:=q2.step
 obtain⟨c2,e2⟩:=h2.one rfl
 rw[e2]at h2
 obtain⟨v3,r3,S3,T3,rfl,rfl,h3,q4⟩:=q3.step
 obtain⟨n3,e3,rfl,rfl,lo3,hi3⟩:=h3.int
 obtain⟨v4,r4,S4,T4,rfl,rfl,h4,q5⟩:=q4.step
 obtain⟨c4,e4⟩:=h4.one rfl
 rw[e4]at h4
 obtain⟨_,rfl,rfl⟩:=q5
 have hsz:cs.length=5:=hv.size
 simp only[Ty.size,Ty.aN,Nat.reduceAdd,Nat.zero_add,List.drop_zero]at e0 e1 e2 e3 e4 hsz
 have hcn:bc cq (.r [.i n0, .i n1,v2, .i n3,v4])=(0+(0+(bc (.sl (.int .u8)) v2+(0+(bc (.sl (.int .u8)) v4+0))))):=rfl
 have hmk:et cq (.r [.i n0, .i n1,v2, .i n3,v4]) k= .r [.i n0, .i n1,et (.sl (.int .u8)) v2 (k), .i n3,et (.sl (.int .u8)) v4 (k+bc (.sl (.int .u8)) v2)]:=rfl
 rw[hmk]
 rw[hcn]at hk⊢
 simp only[List.nil_append,List.append_nil]at ho⊢
 obtain⟨o2,ho2,x2,xx2⟩:=ho.split
 have o4:=ho2
 refine aw Ni rfl ?_
 simp(disch:=omega) only[ae,JI,e0,e1,e2,e3,e4,hsz,ax,au,SX,SU,SL,reduceCtorEq,Nat.reduceAdd,Nat.reduceLeDiff,reduceIte]
 refine cI.go cS h2 o2 (k:=k) (by omega) (fun g2 w2 z2=> ?_)
 simp(disch:=omega) only[ae,JI,e0,e1,e2,e3,e4,hsz,ax,au,SX,SU,SL,reduceCtorEq,Nat.reduceAdd,Nat.reduceLeDiff,reduceIte]
 refine cI.go cS (h4.wrote w2 (fun i hi=>xx2 i (by simp[hi]))) (w2.cP o4) (k:=k+bc (.sl (.int .u8)) v2) (by omega) (fun g4 w4 z4=> ?_)
 simp(disch:=omega) only[ae,JI,e0,e1,e2,e3,e4,hsz,ax,au,SX,SU,SL,reduceCtorEq,Nat.reduceAdd,Nat.reduceLeDiff,reduceIte]
 have fin:Rs g4 [(.int .i64),(.int .i64),(.sl (.int .u8)),(.int .i64),(.sl (.int .u8))] (cs.drop 0) [.i n0, .i n1,et (.sl (.int .u8)) v2 (k), .i n3,et (.sl (.int .u8)) v4 (k+bc (.sl (.int .u8)) v2)] _:=(Rs.bk (o:=0) (Rp.eY e0 lo0 hi0) (Rs.bk (o:=1) (Rp.eY e1 lo1 hi1) (Rs.bk (o:=2) (Rp.jT e2 (z2.wrote w4 (fun i hi hn=>x2 i hi (by simp[hn])))) (Rs.bk (o:=3) (Rp.eY e3 lo3 hi3) (Rs.bk (o:=4) (Rp.jT e4 z4) (Rs.fin (Nat.le_of_eq hsz)))))))
 simp only[List.nil_append,List.append_nil,List.drop_zero]at fin
 have wr:=(((cz.refl ho.2).more w2 (fun i hi=>by simp[hi])).more w4 (fun i hi=>by simp[hi]))
 first
  |exact⟨wr,_,rfl,fin⟩
  |(refine⟨?_,wr,_,rfl,fin⟩
    congr 3
    omega)
def Ov:AF:=⟨2,5,[.tmp 4],(.seq (.ops [.i (.mov 4 (qi 0))]) (.seq (.seq (.ops [.i (.mov 5 (qi 0))]) (.block 0 (.loop [17,16,15,14,13,12,11,10,9,8,7,6] (.seq (.seq (.ops [qm 6 5,qm 7 0,qn 8 7,qd 9 .lss 6 8]) (.cond (.s 9) .skip (.exit 0))) (.seq (.block 1 (.ops [qm 12 0,qm 13 5, .i (.iad 14 (.s 12) (.s 13) 1), .i (.ldh 15 (.s 14) 1 false),qm 16 1, .i (.call 18 41 false [(.s 15),(.s 16)]),qm 1 17])) (.ops [qm 10 5, .i (.bin 11 .add (.s 10) (qi 1)),qm 5 11])))))) (.seq (.ops [qm 18 1,qm 4 18]) .ret)))⟩
theorem N6:cd 77=some Ov:=by kernel_rfl
theorem oD:cI cd 77 (.sl (.sl (.int .u8))):=Ma N6 cS
def Hk:AF:=⟨2,5,[.tmp 4],(.seq (.ops [.i (.lbox 2 (.s 0)), .i (.mov 4 (qi 0))]) (.seq (.ops [qf 5 2 2,ql 6 2 5 1 false,qm 7 1, .i (.call 9 41 false [(.s 6),(.s 7)]),qm 1 8]) (.seq (.ops [qf 9 2 3,ql 10 2 9 1 false,qm 11 1, .i (.call 13 41 false [(.s 10),(.s 11)]),qm 1 12]) (.seq (.ops [qf 13 2 4,ql 14 2 13 1 false,qm 15 1, .i (.call 17 77 false [(.s 14),(.s 15)]),qm 1 16]) (.seq (.ops [qm 17 1,qm 4 17]) .ret)))))⟩
theorem M0:cd 107=some Hk:=by kernel_rfl
theorem Ht:cI cd 107 fZ:=by
 intro h cs v S k hv ho hk
 obtain⟨vs,rfl,q0⟩:=hv.st
 obtain⟨v0,r0,S0,T0,rfl,rfl,h0,q1⟩:=q0.step
 obtain⟨n0,e0,rfl,rfl,lo0,hi0⟩:=h0.int
 obtain⟨v1,r1,S1,T1,rfl,rfl,h1,q2⟩:=q1.step
 obtain⟨n1,e1,rfl,rfl,lo1,hi1⟩:=h1.int
 obtain⟨v2,r2,S2,T2,rfl,rfl,h2,q3⟩:=q2.step
 obtain⟨c2,e2⟩:=h2.one rfl
 rw[e2]at h2
 obtain⟨v3,r3,S3,T3,rfl,rfl,h3,q4⟩:=q3.step
 obtain⟨c3,e3⟩:=h3.one rfl
 rw[e3]at h3
 obtain⟨v4,r4,S4,T4,rfl,rfl,h4,q5⟩:=q4.step
 obtain⟨c4,e4⟩:=h4.one rfl
 rw[e4]at h4
 obtain⟨_,rfl,rfl⟩:=q5
 have hsz:cs.length=5:=hv.size
 simp only[Ty.size,Ty.aN,Nat.reduceAdd,Nat.zero_add,List.drop_zero]at e0 e1 e2 e3 e4 hsz
 have hcn:bc fZ (.r [.i n0, .i n1,v2,v3,v4])=(0+(0+(bc (.sl (.int .u8)) v2+(bc (.sl (.int .u8)) v3+(bc (.sl (.sl (.int .u8))) v4+0))))):=rfl
 have hmk:et fZ (.r [.i n0, .i n1,v2,v3,v4]) k= .r [.i n0, .i n1,et (.sl (.int .u8)) v2 (k),et (.sl (.int .u8)) v3 (k+bc (.sl (.int .u8)) v2),et (.sl (.sl (.int .u8))) v4 (k+bc (.sl (.int .u8)) v2+bc (.sl (.int .u8)) v3)]:=rfl
 rw[hmk]
 rw[hcn]at hk⊢
 simp only[List.nil_append,List.append_nil]at ho⊢
 obtain⟨o2,ho2,x2,xx2⟩:=ho.split
 obtain⟨o3,ho3,x3,xx3⟩:=ho2.split
 have o4:=ho3
 refine aw M0 rfl ?_
 simp(disch:=omega) only[ae,Hk,e0,e1,e2,e3,e4,hsz,ax,au,SX,SU,SL,reduceCtorEq,Nat.reduceAdd,Nat.reduceLeDiff,reduceIte]
 refine cI.go cS h2 o2 (k:=k) (by omega) (fun g2 w2 z2=> ?_)
 simp(disch:=omega) only[ae,Hk,e0,e1,e2,e3,e4,hsz,ax,au,SX,SU,SL,reduceCtorEq,Nat.reduceAdd,Nat.reduceLeDiff,reduceIte]
 refine cI.go cS (h3.wrote w2 (fun i hi=>xx2 i (by simp[hi]))) (w2.cP o3) (k:=k+bc (.sl (.int .u8)) v2) (by omega) (fun g3 w3 z3=> ?_)
 simp(disch:=omega) only[ae,Hk,e0,e1,e2,e3,e4,hsz,ax,au,SX,SU,SL,reduceCtorEq,Nat.reduceAdd,Nat.reduceLeDiff,reduceIte]
 refine cI.go oD ((h4.wrote w2 (fun i hi=>xx2 i (by simp[hi]))).wrote w3 (fun i hi=>xx3 i (by simp[hi]))) (w3.cP (w2.cP o4)) (k:=k+bc (.sl (.int .u8)) v2+bc (.sl (.int .u8)) v3) (by omega) (fun g4 w4 z4=> ?_)
 simp(disch:=omega) only[ae,Hk,e0,e1,e2,e3,e4,hsz,ax,au,SX,SU,SL,reduceCtorEq,Nat.reduceAdd,Nat.reduceLeDiff,reduceIte]
 have fin:Rs g4 [(.int .i64),(.int .i64),(.sl (.int .u8)),(.sl (.int .u8)),(.sl (.sl (.int .u8)))] (cs.drop 0) [.i n0, .i n1,et (.sl (.int .u8)) v2 (k),et (.sl (.int .u8)) v3 (k+bc (.sl (.int .u8)) v2),et (.sl (.sl (.int .u8))) v4 (k+bc (.sl (.int .u8)) v2+bc (.sl (.int .u8)) v3)] _:=(Rs.bk (o:=0) (Rp.eY e0 lo0 hi0) (Rs.bk (o:=1) (Rp.eY e1 lo1 hi1) (Rs.bk (o:=2) (Rp.jT e2 ((z2.wrote w3 (fun i hi hn=>x2 i hi (by simp[hn]))).wrote w4 (fun i hi hn=>x2 i hi (by simp[hn])))) (Rs.bk (o:=3) (Rp.jT e3 (z3.wrote w4 (fun i hi hn=>x3 i hi (by simp[hn])))) (Rs.bk (o:=4) (Rp.jT e4 z4) (Rs.fin (Nat.le_of_eq hsz)))))))
 simp only[List.nil_append,List.append_nil,List.drop_zero]at fin
 have wr:=((((cz.refl ho.2).more w2 (fun i hi=>by simp[hi])).more w3 (fun i hi=>by simp[hi])).more w4 (fun i hi=>by simp[hi]))
 first
  |exact⟨wr,_,rfl,fin⟩
  |(refine⟨?_,wr,_,rfl,fin⟩
    congr 3
    omega)
def Gl:AF:=⟨2,5,[.tmp 4],(.seq (.ops [.i (.lbox 2 (.s 0)), .i (.mov 4 (qi 0))]) (.seq (.ops [qf 5 2 3,ql 6 2 5 1 false,qm 7 1, .i (.call 9 41 false [(.s 6),(.s 7)]),qm 1 8]) (.seq (.ops [qf 9 2 4,ql 10 2 9 1 false,qm 11 1, .i (.call 13 41 false [(.s 10),(.s 11)]),qm 1 12]) (.seq (.ops [qf 13 2 5,ql 14 2 13 5 true,qm 15 1, .i (.call 17 107 false [(.s 14),(.s 15)]),qm 1 16]) (.seq (.ops [qm 17 1,qm 4 17]) .ret)))))⟩
theorem NI:cd 108=some Gl:=by kernel_rfl
theorem E1:cI cd 108 ao:=by
 intro h cs v S k hv ho hk
 obtain⟨vs,rfl,q0⟩:=hv.st
 obtain⟨v0,r0,S0,T0,rfl,rfl,h0,q1⟩:=q0.step
 obtain⟨n0,e0,rfl,rfl,lo0,hi0⟩:=h0.int
 obtain⟨v1,r1,S1,T1,rfl,rfl,h1,q2⟩:=q1.step
 obtain⟨n1,e1,rfl,rfl,lo1,hi1⟩:=h1.int
 obtain⟨v2,r2,S2,T2,rfl,rfl,h2,q3⟩:=q2.step
 obtain⟨n2,e2,rfl,rfl,lo2,hi2⟩:=h2.int
 obtain⟨v3,r3,S3,T3,rfl,rfl,h3,q4⟩:=q3.step
 obtain⟨c3,e3⟩:=h3.one rfl
 rw[e3]at h3
 obtain⟨v4,r4,S4,T4,rfl,rfl,h4,q5⟩:=q4.step
 obtain⟨c4,e4⟩:=h4.one rfl
 rw[e4]at h4
 obtain⟨v5,r5,S5,T5,rfl,rfl,h5,q6⟩:=q5.step
 obtain⟨_,rfl,rfl⟩:=q6
 have hsz:cs.length=10:=hv.size
 simp only[Ty.size,Ty.aN,Nat.reduceAdd,Nat.zero_add,List.drop_zero]at e0 e1 e2 e3 e4 hsz h5
 have hcn:bc ao (.r [.i n0, .i n1, .i n2,v3,v4,v5])=(0+(0+(0+(bc (.sl (.int .u8)) v3+(bc (.sl (.int .u8)) v4+(bc fZ v5+0)))))):=rfl
 have hmk:et ao (.r [.i n0, .i n1, .i n2,v3,v4,v5]) k= .r [.i n0, .i n1, .i n2,et (.sl (.int .u8)) v3 (k),et (.sl (.int .u8)) v4 (k+bc (.sl (.int .u8)) v3),et fZ v5 (k+bc (.sl (.int .u8)) v3+bc (.sl (.int .u8)) v4)]:=rfl
 rw[hmk]
 rw[hcn]at hk⊢
 simp only[List.nil_append,List.append_nil]at ho⊢
 obtain⟨o3,ho3,x3,xx3⟩:=ho.split
 obtain⟨o4,ho4,x4,xx4⟩:=ho3.split
 have o5:=ho4
 refine aw NI rfl ?_
 simp(disch:=omega) only[ae,Gl,e0,e1,e2,e3,e4,hsz,ax,au,SX,SU,SL,reduceCtorEq,Nat.reduceAdd,Nat.reduceLeDiff,reduceIte]
 refine cI.go cS h3 o3 (k:=k) (by omega) (fun g3 w3 z3=> ?_)
 simp(disch:=omega) only[ae,Gl,e0,e1,e2,e3,e4,hsz,ax,au,SX,SU,SL,reduceCtorEq,Nat.reduceAdd,Nat.reduceLeDiff,reduceIte]
 refine cI.go cS (h4.wrote w3 (fun i hi=>xx3 i (by simp[hi]))) (w3.cP o4) (k:=k+bc (.sl (.int .u8)) v3) (by omega) (fun g4 w4 z4=> ?_)
 simp(disch:=omega) only[ae,Gl,e0,e1,e2,e3,e4,hsz,ax,au,SX,SU,SL,reduceCtorEq,Nat.reduceAdd,Nat.reduceLeDiff,reduceIte]
 refine cI.go Ht ((h5.wrote w3 (fun i hi=>xx3 i (by simp[hi]))).wrote w4 (fun i hi=>xx4 i (by simp[hi]))) (w4.cP (w3.cP o5)) (k:=k+bc (.sl (.int .u8)) v3+bc (.sl (.int .u8)) v4) (by omega) (fun g5 w5 z5=> ?_)
 simp(disch:=omega) only[ae,Gl,e0,e1,e2,e3,e4,hsz,ax,au,SX,SU,SL,reduceCtorEq,Nat.reduceAdd,Nat.reduceLeDiff,reduceIte]
 have fin:Rs g5 [(.int .i64),(.int .i64),(.int .i64),(.sl (.int .u8)),(.sl (.int .u8)),fZ] (cs.drop 0) [.i n0, .i n1, .i n2,et (.sl (.int .u8)) v3 (k),et (.sl (.int .u8)) v4 (k+bc (.sl (.int .u8)) v3),et fZ v5 (k+bc (.sl (.int .u8)) v3+bc (.sl (.int .u8)) v4)] _:=(Rs.bk (o:=0) (Rp.eY e0 lo0 hi0) (Rs.bk (o:=1) (Rp.eY e1 lo1 hi1) (Rs.bk (o:=2) (Rp.eY e2 lo2 hi2) (Rs.bk (o:=3) (Rp.jT e3 ((z3.wrote w4 (fun i hi hn=>x3 i hi (by simp[hn]))).wrote w5 (fun i hi hn=>x3 i hi (by simp[hn])))) (Rs.bk (o:=4) (Rp.jT e4 (z4.wrote w5 (fun i hi hn=>x4 i hi (by simp[hn])))) (Rs.bk (o:=5) z5 (Rs.fin (Nat.le_of_eq hsz))))))))
 simp only[List.nil_append,List.append_nil,List.drop_zero]at fin
 have wr:=((((cz.refl ho.2).more w3 (fun i hi=>by simp[hi])).more w4 (fun i hi=>by simp[hi])).more w5 (fun i hi=>by simp[hi]))
 first
  |exact⟨wr,_,rfl,fin⟩
  |(refine⟨?_,wr,_,rfl,fin⟩
    congr 3
    omega)
def I1:AF:=⟨2,4,[.tmp 4],(.seq (.ops [.i (.lbox 2 (.s 0)), .i (.mov 4 (qi 0))]) (.seq (.ops [qf 5 2 0,ql 6 2 5 10 true,qm 7 1, .i (.call 9 108 false [(.s 6),(.s 7)]),qm 1 8]) (.seq (.ops [qf 9 2 10,ql 10 2 9 1 false,qm 11 1, .i (.call 13 77 false [(.s 10),(.s 11)]),qm 1 12]) (.seq (.ops [qm 13 1,qm 4 13]) .ret))))⟩
theorem NC:cd 109=some I1:=by kernel_rfl
theorem H0:cI cd 109 bL:=by
 intro h cs v S k hv ho hk
 obtain⟨vs,rfl,q0⟩:=hv.st
 obtain⟨v0,r0,S0,T0,rfl,rfl,h0,q1⟩:=q0.step
 obtain⟨v1,r1,S1,T1,rfl,rfl,h1,q2⟩:=q1.step
 obtain⟨c1,e1⟩:=h1.one rfl
 rw[e1]at h1
 obtain⟨_,rfl,rfl⟩:=q2
 have hsz:cs.length=11:=hv.size
 simp only[Ty.size,Ty.aN,Nat.reduceAdd,Nat.zero_add,List.drop_zero]at e1 hsz h0
 have hcn:bc bL (.r [v0,v1])=(bc ao v0+(bc (.sl (.sl (.int .u8))) v1+0)):=rfl
 have hmk:et bL (.r [v0,v1]) k= .r [et ao v0 (k),et (.sl (.sl (.int .u8))) v1 (k+bc ao v0)]:=rfl
 rw[hmk]
 rw[hcn]at hk⊢
 simp only[List.nil_append,List.append_nil]at ho⊢
 obtain⟨o0,ho0,x0,xx0⟩:=ho.split
 have o1:=ho0
 refine aw NC rfl ?_
 simp(disch:=omega) only[ae,I1,e1,hsz,ax,au,SX,SU,SL,reduceCtorEq,Nat.reduceAdd,Nat.reduceLeDiff,reduceIte]
 refine cI.go E1 h0 o0 (k:=k) (by omega) (fun g0 w0 z0=> ?_)
 simp(disch:=omega) only[ae,I1,e1,hsz,ax,au,SX,SU,SL,reduceCtorEq,Nat.reduceAdd,Nat.reduceLeDiff,reduceIte]
 refine cI.go oD (h1.wrote w0 (fun i hi=>xx0 i (by simp[hi]))) (w0.cP o1) (k:=k+bc ao v0) (by omega) (fun g1 w1 z1=> ?_)
 simp(disch:=omega) only[ae,I1,e1,hsz,ax,au,SX,SU,SL,reduceCtorEq,Nat.reduceAdd,Nat.reduceLeDiff,reduceIte]
 have fin:Rs g1 [ao,(.sl (.sl (.int .u8)))] (cs.drop 0) [et ao v0 (k),et (.sl (.sl (.int .u8))) v1 (k+bc ao v0)] _:=(Rs.bk (o:=0) (z0.wrote w1 (fun i hi hn=>x0 i hi (by simp[hn]))) (Rs.bk (o:=10) (Rp.jT e1 z1) (Rs.fin (Nat.le_of_eq hsz))))
 simp only[List.nil_append,List.append_nil,List.drop_zero]at fin
 have wr:=(((cz.refl ho.2).more w0 (fun i hi=>by simp[hi])).more w1 (fun i hi=>by simp[hi]))
 first
  |exact⟨wr,_,rfl,fin⟩
  |(refine⟨?_,wr,_,rfl,fin⟩
    congr 3
    omega)
def FM:AF:=⟨2,6,[.tmp 4],(.seq (.ops [.i (.mov 4 (qi 0))]) (.seq (.seq (.ops [.i (.mov 5 (qi 0))]) (.block 0 (.loop [32,31,30,29,28,27,26,25,24,23,22,21,20,19,18,17,16,15,14,13,12,11,10,9,8,7,6] (.seq (.seq (.ops [qm 6 5,qm 7 0,qn 8 7,qd 9 .lss 6 8]) (.cond (.s 9) .skip (.exit 0))) (.seq (.block 1 (.seq (.ops [qm 12 0,qm 13 5,qm 14 1, .i (.iad 15 (.s 12) (.s 13) 3),qf 16 15 0, .i (.sth (.s 16) (.s 14) 1)]) (.seq (.ops [qm 17 1, .i (.bin 18 .add (.s 17) (qi 1)),qm 1 18]) (.seq (.ops [qm 19 0,qm 20 5,qm 21 1, .i (.iad 22 (.s 19) (.s 20) 3),qf 23 22 1, .i (.sth (.s 23) (.s 21) 1)]) (.seq (.ops [qm 24 1, .i (.bin 25 .add (.s 24) (qi 1)),qm 1 25]) (.ops [qm 26 0,qm 27 5, .i (.iad 28 (.s 26) (.s 27) 3),qf 29 28 2, .i (.ldh 30 (.s 29) 1 false),qm 31 1, .i (.call 33 41 false [(.s 30),(.s 31)]),qm 1 32])))))) (.ops [qm 10 5, .i (.bin 11 .add (.s 10) (qi 1)),qm 5 11])))))) (.seq (.ops [qm 33 1,qm 4 33]) .ret)))⟩
theorem M3:cd 197=some FM:=by kernel_rfl
theorem FB:cI cd 197 (.sl aQ):=by
 intro h cs v S k hv ho hk
 obtain⟨c,xs,id,off,bs,S',rfl,rfl,hm,hl,hat,hce,hbs,hel,hS⟩:=hv.view
 have hcn:bc (.sl aQ) (.l xs)=(xs.map (bn aQ)).sum:=rfl
 have hmk:et (.sl aQ) (.l xs) k= .l (xe (vW aQ) (bn aQ) xs k):=rfl
 rw[hcn]at hk⊢
 rw[hmk]
 have hsub:∀j∈S',j∈S:=fun j hj=>by
  rcases hS with e|⟨_,_,e⟩
  ·rw[e];simp[hj]
  ·rw[e]at hj;cases hj
 have hnd:S'.Nodup:=by
  rcases hS with e|⟨_,_,e⟩
  ·have:=ho.1
   rw[e]at this
   exact(List.nodup_cons.1 this).2
  ·rw[e];simp
 have hid:0 < xs.length→id∉S'∧id∈S:=fun hp=>by
  rcases hS with e|⟨e,_,_⟩
  ·have:=ho.1
   rw[e]at this
   exact⟨(List.nodup_cons.1 this).1,by rw[e];simp⟩
  ·rw[e]at hp;simp at hp
 have hown:∃ty,0 < xs.length→h[id]? =some (.own ty bs):=by
  by_cases hp:0 < xs.length
  ·obtain⟨ty,cs,e⟩:=ho.2 id (hid hp).2
   have:=(hce hp).1
   rw[aD e]at this
   cases this
   exact⟨ty,fun _=>e⟩
  ·exact⟨0,fun e=>absurd e hp⟩
 obtain⟨ty,hty⟩:=hown
 have hs1:aQ.size=3:=rfl
 rw[hs1]at hat hbs
 refine aw M3 rfl ?_
 simp(disch:=omega) only[FM,SX,SU,SL,reduceCtorEq,Nat.reduceAdd,Nat.reduceLeDiff,reduceIte]
 refine ed (σ:=Nat) (f1:=_) (by simp only[SX,SU,SL,reduceCtorEq,Nat.reduceAdd,Nat.reduceLeDiff,reduceIte];rfl) (fun i=> [(5, .val false [.int .i64 i]),(1, .val false [.int .i64 ((k+((xs.take i).map (bn aQ)).sum:Nat):Int)])])
  (fun i g h'=>g=xs.length - i∧i≤xs.length∧cz h h' S∧(0 < xs.length→∃bs',h'[id]? =some (.own ty bs')∧bs'.length=bs.length∧aZ (Rp h' aQ) (F5 aQ xs k i) ((bs'.drop off).take (xs.length * aQ.size)) S')∧(i=0→h'=h)) 0 xs.length (by simp only[List.take_zero,List.map_nil,List.sum_nil,SX,SU,SL,reduceCtorEq,Nat.reduceAdd,Nat.reduceLeDiff,reduceIte];rfl)
  ⟨by omega,by omega,cz.refl ho.2,fun hp=>⟨bs,hty hp,rfl,by rw[yx];exact hel⟩,fun _=>rfl⟩ ?_
 rintro i g h' ⟨hg,hi,hw,hblk,hz0⟩
 simp(disch:=omega) only[FM,hl,au,SX,SU,SL,reduceCtorEq,Nat.reduceAdd,Nat.reduceLeDiff,reduceIte]
 refine aq (fun hlt=> ?_) (fun hlt=> ?_)
 ·have hix:i < xs.length:=by omega
  obtain⟨bs',hb1,hb2,he⟩:=hblk (by omega)
  clear hblk
  obtain⟨hidS',hidS⟩:=hid (by omega)
  have hsi:=wQ (g:=bn aQ) (List.getElem?_eq_getElem hix)
  have hsl:=Dt (g:=bn aQ) xs (i+1)
  have hfit:off+i * 3+3≤bs'.length:=by
   have:=Nat.mul_le_mul_right 3 hix
   rw[Nat.succ_mul]at this
   omega
  have hme:i * 3+3≤xs.length * 3:=by
   have:=Nat.mul_le_mul_right 3 hix
   rw[Nat.succ_mul]at this
   exact this
  obtain⟨Si,k1,k2,k3,k4⟩:=he.turn hnd (Bs hix)
  rw[gp hix,hs1]at k1
  obtain⟨x0,x1,x2,hx⟩:=Mx k1.size
  rw[hx]at k1
  obtain⟨pre,post,hpl,rfl⟩:=Hy hx hfit
  have hat':=hat i hix
  rw[←hpl]at hat'
  have hidlt:id < h'.length:=(List.getElem?_eq_some_iff.1 hb1).1
  have hset:∀b,(h'.set id b)[id]? =some b:=fun b=>cL hidlt
  have hnid:id∉Si:=fun hm=>hidS' (k2 id hm)
  have hoi:cY h' Si:=⟨k3,fun j hj=>(hw.cP ho).2 j (hsub j (k2 j hj))⟩
  obtain⟨p_vs,p_hv,p_q0⟩:=k1.st
  obtain⟨p_v0,p_r0,p_S0,p_T0,rfl,rfl,p_h0,p_q1⟩:=p_q0.step
  simp only[Ty.size,Ty.aN,Nat.reduceAdd,Nat.zero_add,List.drop_zero,List.drop_succ_cons,List.take_succ_cons,List.take_zero]at p_h0
  obtain⟨n0,e0,rfl,rfl,lo0,hi0⟩:=p_h0.int
  simp only[List.cons.injEq,and_true]at e0
  subst e0
  obtain⟨p_v1,p_r1,p_S1,p_T1,rfl,rfl,p_h1,p_q2⟩:=p_q1.step
  simp only[Ty.size,Ty.aN,Nat.reduceAdd,Nat.zero_add,List.drop_zero,List.drop_succ_cons,List.take_succ_cons,List.take_zero]at p_h1
  obtain⟨n1,e1,rfl,rfl,lo1,hi1⟩:=p_h1.int
  simp only[List.cons.injEq,and_true]at e1
  subst e1
  obtain⟨p_v2,p_r2,p_S2,p_T2,rfl,rfl,p_h2,p_q3⟩:=p_q2.step
  simp only[Ty.size,Ty.aN,Nat.reduceAdd,Nat.zero_add,List.drop_zero,List.drop_succ_cons,List.take_succ_cons,List.take_zero]at p_h2
  have h2:=p_h2
  obtain⟨_,rfl,rfl⟩:=p_q3
  have hxi:xs[i]= .r [.i n0, .i n1,p_v2]:=p_hv
  rw[hxi]at hsi
  simp only[List.nil_append,List.append_nil]at k2 k3 hnid hoi k4
  have hcne:bn aQ (.r [.i n0, .i n1,p_v2])=(1+(1+(bn (.sl (.int .u8)) p_v2+0))):=rfl
  rw[hcne]at hsi
  have o2:=hoi
  have hcs:∀ty b,H.cells (h'.set id (.own ty b)) id=some b:=fun ty b=>aD (hset _)
  have hcb:h'.cells id=_:=aD hb1
  simp(disch:=omega) only[ae,FM,hl,hat',hb1,hset,hcs,hcb,List.set_set,fG,fF,fC,fP,fx,fH,fv,fO,List.length_append,List.cons_append,List.nil_append,List.length_set,ax,au,dN,uy,SX,SU,SL,reduceCtorEq,Nat.reduceAdd,Nat.reduceLeDiff,reduceIte]
  have hn2:id∉p_S2:=fun hm=>hnid (by simp[hm])
  refine cI.go cS (h2.set hn2) (cY.set o2 hidlt) (k:=(((k+((xs.take i).map (bn aQ)).sum)+1)+1)) (by rw[dN];omega) (fun g2 w2 z2=> ?_)
  have hb_2:=w2.2.1 id hn2
  simp only[hb1,hset,hcs,hcb]at hb_2
  have hlt_2:id < g2.length:=(List.getElem?_eq_some_iff.1 hb_2).1
  have hset_2:∀b,(g2.set id b)[id]? =some b:=fun b=>cL hlt_2
  have hcs_2:∀ty b,H.cells (g2.set id (.own ty b)) id=some b:=fun ty b=>aD (hset_2 _)
  have hcb_2:g2.cells id=_:=aD hb_2
  simp(disch:=omega) only[ae,FM,hl,hat',hb_2,hset_2,hcs_2,hcb_2,List.set_set,fG,fF,fC,fP,fx,fH,fv,fO,List.length_append,List.cons_append,List.nil_append,List.length_set,ax,au,dN,uy,SX,SU,SL,reduceCtorEq,Nat.reduceAdd,Nat.reduceLeDiff,reduceIte]
  have wF0:cz h' h' (id::(p_S2)):=cz.refl (fun j hj=>by
   rcases List.mem_cons.1 hj with rfl|hj
   ·exact⟨_,_,hb1⟩
   ·exact hoi.2 j hj)
  have hmkE:vW aQ xs[i] (k+((xs.take i).map (bn aQ)).sum)= .r [.i (IntKind.i64.wrap (((k+((xs.take i).map (bn aQ)).sum):Nat):Int)), .i (IntKind.i64.wrap ((((k+((xs.take i).map (bn aQ)).sum)+1):Nat):Int)),vW (.sl (.int .u8)) p_v2 ((((k+((xs.take i).map (bn aQ)).sum)+1)+1))]:=by rw[hxi];rfl
  simp only[D5]at z2
  have wF:=((wF0.set (by simp) hidlt).more w2 (fun i hi=>by simp[hi]))
  have hnew:=Rp.Lo (Rs.mk (Rp.mkNat (n:=(k+((xs.take i).map (bn aQ)).sum)) (by omega)) (Rs.mk (Rp.mkNat (n:=((k+((xs.take i).map (bn aQ)).sum)+1)) (by omega)) (Rs.mk z2 Rs.nil)))
  simp only[List.cons_append,List.nil_append,List.append_nil]at hnew
  rw[←hmkE]at hnew
  have hE:=k4 _ _ _ (fun j hj hn=>bQ (wF.2.1 j (fun hm=>by
   rcases List.mem_cons.1 hm with rfl|hm
   ·exact hidS' hj
   ·exact hn hm))) hnew
  rw[yg hix]at hE
  refine⟨i+1,xs.length - (i+1),by omega,?_,rfl,by omega,hw.more wF (fun j hj=> ?_),fun _=>⟨pre++C.int .i64 (((k+((xs.take i).map (bn aQ)).sum):Nat):Int)::C.int .i64 ((((k+((xs.take i).map (bn aQ)).sum)+1):Nat):Int)::x2::post,by first|exact rfl|exact hb_2,?_,?_⟩,fun e=>by omega⟩
  ·have e1:k+((xs.take (i+1)).map (bn aQ)).sum=((((k+((xs.take i).map (bn aQ)).sum)+1)+1)+bn (.sl (.int .u8)) p_v2):=by omega
   rw[e1]
  ·rcases List.mem_cons.1 hj with rfl|hj
   ·exact hidS
   ·exact hsub j (k2 j hj)
  ·rw[←hb2];simp
  ·have ht:=HN (l:= [C.int .i64 n0,C.int .i64 n1,x2]) (l':= [C.int .i64 (((k+((xs.take i).map (bn aQ)).sum):Nat):Int),C.int .i64 ((((k+((xs.take i).map (bn aQ)).sum)+1):Nat):Int),x2]) (post:=post) hpl rfl (m:=xs.length * 3) (by simpa using hme)
   rw[hs1]at hE
   rw[←ht]at hE
   exact hE
 ·simp(disch:=omega) only[FM,SX,SU,SL,reduceCtorEq,Nat.reduceAdd,Nat.reduceLeDiff,reduceIte]
  have hi':i=xs.length:=by omega
  subst hi'
  rw[List.take_length]
  refine⟨rfl,hw,?_⟩
  by_cases hp:0 < xs.length
  ·obtain⟨bs',hb1,hb2,he⟩:=hblk hp
   rw[Ad]at he
   refine⟨_,rfl,?_, .inr ⟨id,off,bs',S',_,?_,aD hb1,?_,?_,?_, .inl rfl⟩⟩
   ·rw[dm];simp only[maxLen];omega
   ·rw[dm];rw[(hce hp).2]
   ·rw[dm,hb2,hs1];exact hbs
   ·rcases hS with e|⟨e,_⟩
    ·exact e
    ·rw[e]at hp;simp at hp
   ·rw[dm];exact he
  ·have hx:xs= []:=List.eq_nil_of_length_eq_zero (by omega)
   subst hx
   rw[hz0 rfl]
   exact hv
def KT:AF:=⟨2,4,[.tmp 4],(.seq (.ops [.i (.lbox 2 (.s 0)), .i (.mov 4 (qi 0))]) (.seq (.ops [qf 5 2 1,ql 6 2 5 1 false,qm 7 1, .i (.call 9 197 false [(.s 6),(.s 7)]),qm 1 8]) (.seq (.ops [qm 9 1,qm 4 9]) .ret)))⟩
theorem Nr:cd 110=some KT:=by kernel_rfl
theorem Mp:cI cd 110 yB:=by
 intro h cs v S k hv ho hk
 obtain⟨vs,rfl,q0⟩:=hv.st
 obtain⟨v0,r0,S0,T0,rfl,rfl,h0,q1⟩:=q0.step
 obtain⟨n0,e0,rfl,rfl,lo0,hi0⟩:=h0.int
 obtain⟨v1,r1,S1,T1,rfl,rfl,h1,q2⟩:=q1.step
 obtain⟨c1,e1⟩:=h1.one rfl
 rw[e1]at h1
 obtain⟨_,rfl,rfl⟩:=q2
 have hsz:cs.length=2:=hv.size
 simp only[Ty.size,Ty.aN,Nat.reduceAdd,Nat.zero_add,List.drop_zero]at e0 e1 hsz
 have hcn:bc yB (.r [.i n0,v1])=(0+(bc (.sl aQ) v1+0)):=rfl
 have hmk:et yB (.r [.i n0,v1]) k= .r [.i n0,et (.sl aQ) v1 (k)]:=rfl
 rw[hmk]
 rw[hcn]at hk⊢
 simp only[List.nil_append,List.append_nil]at ho⊢
 have o1:=ho
 refine aw Nr rfl ?_
 simp(disch:=omega) only[ae,KT,e0,e1,hsz,ax,au,SX,SU,SL,reduceCtorEq,Nat.reduceAdd,Nat.reduceLeDiff,reduceIte]
 refine cI.go FB h1 o1 (k:=k) (by omega) (fun g1 w1 z1=> ?_)
 simp(disch:=omega) only[ae,KT,e0,e1,hsz,ax,au,SX,SU,SL,reduceCtorEq,Nat.reduceAdd,Nat.reduceLeDiff,reduceIte]
 have fin:Rs g1 [(.int .i64),(.sl aQ)] (cs.drop 0) [.i n0,et (.sl aQ) v1 (k)] _:=(Rs.bk (o:=0) (Rp.eY e0 lo0 hi0) (Rs.bk (o:=1) (Rp.jT e1 z1) (Rs.fin (Nat.le_of_eq hsz))))
 simp only[List.nil_append,List.append_nil,List.drop_zero]at fin
 have wr:=((cz.refl ho.2).more w1 (fun i hi=>by simp[hi]))
 first
  |exact⟨wr,_,rfl,fin⟩
  |(refine⟨?_,wr,_,rfl,fin⟩
    congr 3
    omega)
def Ib:AF:=⟨2,7,[.tmp 4],(.seq (.ops [.i (.mov 4 (qi 0))]) (.seq (.seq (.ops [.i (.mov 5 (qi 0))]) (.block 0 (.loop [86,85,84,83,82,81,80,79,78,77,76,75,74,73,72,71,70,69,68,67,66,65,64,63,62,61,60,59,58,57,56,55,54,53,52,51,50,49,48,47,46,45,44,43,42,41,40,39,38,37,36,35,34,33,32,31,30,29,28,27,26,25,24,23,22,21,20,19,18,17,16,15,14,13,12,11,10,9,8,7,6] (.seq (.seq (.ops [qm 6 5,qm 7 0,qn 8 7,qd 9 .lss 6 8]) (.cond (.s 9) .skip (.exit 0))) (.seq (.block 1 (.seq (.ops [qm 12 0,qm 13 5,qm 14 1, .i (.iad 15 (.s 12) (.s 13) 10),qf 16 15 0, .i (.sth (.s 16) (.s 14) 1)]) (.seq (.ops [qm 17 1, .i (.bin 18 .add (.s 17) (qi 1)),qm 1 18]) (.seq (.ops [qm 19 0,qm 20 5,qm 21 1, .i (.iad 22 (.s 19) (.s 20) 10),qf 23 22 1, .i (.sth (.s 23) (.s 21) 1)]) (.seq (.ops [qm 24 1, .i (.bin 25 .add (.s 24) (qi 1)),qm 1 25]) (.seq (.ops [qm 26 0,qm 27 5,qm 28 1, .i (.iad 29 (.s 26) (.s 27) 10),qf 30 29 2, .i (.sth (.s 30) (.s 28) 1)]) (.seq (.ops [qm 31 1, .i (.bin 32 .add (.s 31) (qi 1)),qm 1 32]) (.seq (.ops [qm 33 0,qm 34 5, .i (.iad 35 (.s 33) (.s 34) 10),qf 36 35 3, .i (.ldh 37 (.s 36) 1 false),qm 38 1, .i (.call 40 41 false [(.s 37),(.s 38)]),qm 1 39]) (.seq (.ops [qm 40 0,qm 41 5, .i (.iad 42 (.s 40) (.s 41) 10),qf 43 42 4, .i (.ldh 44 (.s 43) 1 false),qm 45 1, .i (.call 47 41 false [(.s 44),(.s 45)]),qm 1 46]) (.seq (.ops [qm 47 0,qm 48 5,qm 49 1, .i (.iad 50 (.s 47) (.s 48) 10),qf 51 50 5,qf 52 51 0, .i (.sth (.s 52) (.s 49) 1)]) (.seq (.ops [qm 53 1, .i (.bin 54 .add (.s 53) (qi 1)),qm 1 54]) (.seq (.ops [qm 55 0,qm 56 5,qm 57 1, .i (.iad 58 (.s 55) (.s 56) 10),qf 59 58 5,qf 60 59 1, .i (.sth (.s 60) (.s 57) 1)]) (.seq (.ops [qm 61 1, .i (.bin 62 .add (.s 61) (qi 1)),qm 1 62]) (.seq (.ops [qm 63 0,qm 64 5, .i (.iad 65 (.s 63) (.s 64) 10),qf 66 65 5,qf 67 66 2, .i (.ldh 68 (.s 67) 1 false),qm 69 1, .i (.call 71 41 false [(.s 68),(.s 69)]),qm 1 70]) (.seq (.ops [qm 71 0,qm 72 5, .i (.iad 73 (.s 71) (.s 72) 10),qf 74 73 5,qf 75 74 3, .i (.ldh 76 (.s 75) 1 false),qm 77 1, .i (.call 79 41 false [(.s 76),(.s 77)]),qm 1 78]) (.ops [qm 79 0,qm 80 5, .i (.iad 81 (.s 79) (.s 80) 10),qf 82 81 5,qf 83 82 4, .i (.ldh 84 (.s 83) 1 false),qm 85 1, .i (.call 87 77 false [(.s 84),(.s 85)]),qm 1 86])))))))))))))))) (.ops [qm 10 5, .i (.bin 11 .add (.s 10) (qi 1)),qm 5 11])))))) (.seq (.ops [qm 87 1,qm 4 87]) .ret)))⟩
theorem Oj:cd 27=some Ib:=by kernel_rfl
theorem HB:cI cd 27 (.sl ao):=by
 intro h cs v S k hv ho hk
 obtain⟨c,xs,id,off,bs,S',rfl,rfl,hm,hl,hat,hce,hbs,hel,hS⟩:=hv.view
 have hcn:bc (.sl ao) (.l xs)=(xs.map (bn ao)).sum:=rfl
 have hmk:et (.sl ao) (.l xs) k= .l (xe (vW ao) (bn ao) xs k):=rfl
 rw[hcn]at hk⊢
 rw[hmk]
 have hsub:∀j∈S',j∈S:=fun j hj=>by
  rcases hS with e|⟨_,_,e⟩
  ·rw[e];simp[hj]
  ·rw[e]at hj;cases hj
 have hnd:S'.Nodup:=by
  rcases hS with e|⟨_,_,e⟩
  ·have:=ho.1
   rw[e]at this
   exact(List.nodup_cons.1 this).2
  ·rw[e];simp
 have hid:0 < xs.length→id∉S'∧id∈S:=fun hp=>by
  rcases hS with e|⟨e,_,_⟩
  ·have:=ho.1
   rw[e]at this
   exact⟨(List.nodup_cons.1 this).1,by rw[e];simp⟩
  ·rw[e]at hp;simp at hp
 have hown:∃ty,0 < xs.length→h[id]? =some (.own ty bs):=by
  by_cases hp:0 < xs.length
  ·obtain⟨ty,cs,e⟩:=ho.2 id (hid hp).2
   have:=(hce hp).1
   rw[aD e]at this
   cases this
   exact⟨ty,fun _=>e⟩
  ·exact⟨0,fun e=>absurd e hp⟩
 obtain⟨ty,hty⟩:=hown
 have hs1:ao.size=10:=rfl
 rw[hs1]at hat hbs
 refine aw Oj rfl ?_
 simp(disch:=omega) only[Ib,SX,SU,SL,reduceCtorEq,Nat.reduceAdd,Nat.reduceLeDiff,reduceIte]
 refine ed (σ:=Nat) (f1:=_) (by simp only[SX,SU,SL,reduceCtorEq,Nat.reduceAdd,Nat.reduceLeDiff,reduceIte];rfl) (fun i=> [(5, .val false [.int .i64 i]),(1, .val false [.int .i64 ((k+((xs.take i).map (bn ao)).sum:Nat):Int)])])
  (fun i g h'=>g=xs.length - i∧i≤xs.length∧cz h h' S∧(0 < xs.length→∃bs',h'[id]? =some (.own ty bs')∧bs'.length=bs.length∧aZ (Rp h' ao) (F5 ao xs k i) ((bs'.drop off).take (xs.length * ao.size)) S')∧(i=0→h'=h)) 0 xs.length (by simp only[List.take_zero,List.map_nil,List.sum_nil,SX,SU,SL,reduceCtorEq,Nat.reduceAdd,Nat.reduceLeDiff,reduceIte];rfl)
  ⟨by omega,by omega,cz.refl ho.2,fun hp=>⟨bs,hty hp,rfl,by rw[yx];exact hel⟩,fun _=>rfl⟩ ?_
 rintro i g h' ⟨hg,hi,hw,hblk,hz0⟩
 simp(disch:=omega) only[Ib,hl,au,SX,SU,SL,reduceCtorEq,Nat.reduceAdd,Nat.reduceLeDiff,reduceIte]
 refine aq (fun hlt=> ?_) (fun hlt=> ?_)
 ·have hix:i < xs.length:=by omega
  obtain⟨bs',hb1,hb2,he⟩:=hblk (by omega)
  clear hblk
  obtain⟨hidS',hidS⟩:=hid (by omega)
  have hsi:=wQ (g:=bn ao) (List.getElem?_eq_getElem hix)
  have hsl:=Dt (g:=bn ao) xs (i+1)
  have hfit:off+i * 10+10≤bs'.length:=by
   have:=Nat.mul_le_mul_right 10 hix
   rw[Nat.succ_mul]at this
   omega
  have hme:i * 10+10≤xs.length * 10:=by
   have:=Nat.mul_le_mul_right 10 hix
   rw[Nat.succ_mul]at this
   exact this
  obtain⟨Si,k1,k2,k3,k4⟩:=he.turn hnd (Bs hix)
  rw[gp hix,hs1]at k1
  obtain⟨x0,x1,x2,x3,x4,x5,x6,x7,x8,x9,hx⟩:=DV k1.size
  rw[hx]at k1
  obtain⟨pre,post,hpl,rfl⟩:=Hy hx hfit
  have hat':=hat i hix
  rw[←hpl]at hat'
  have hidlt:id < h'.length:=(List.getElem?_eq_some_iff.1 hb1).1
  have hset:∀b,(h'.set id b)[id]? =some b:=fun b=>cL hidlt
  have hnid:id∉Si:=fun hm=>hidS' (k2 id hm)
  have hoi:cY h' Si:=⟨k3,fun j hj=>(hw.cP ho).2 j (hsub j (k2 j hj))⟩
  obtain⟨p_vs,p_hv,p_q0⟩:=k1.st
  obtain⟨p_v0,p_r0,p_S0,p_T0,rfl,rfl,p_h0,p_q1⟩:=p_q0.step
  simp only[Ty.size,Ty.aN,Nat.reduceAdd,Nat.zero_add,List.drop_zero,List.drop_succ_cons,List.take_succ_cons,List.take_zero]at p_h0
  obtain⟨n0,e0,rfl,rfl,lo0,hi0⟩:=p_h0.int
  simp only[List.cons.injEq,and_true]at e0
  subst e0
  obtain⟨p_v1,p_r1,p_S1,p_T1,rfl,rfl,p_h1,p_q2⟩:=p_q1.step
  simp only[Ty.size,Ty.aN,Nat.reduceAdd,Nat.zero_add,List.drop_zero,List.drop_succ_cons,List.take_succ_cons,List.take_zero]at p_h1
  obtain⟨n1,e1,rfl,rfl,lo1,hi1⟩:=p_h1.int
  simp only[List.cons.injEq,and_true]at e1
  subst e1
  obtain⟨p_v2,p_r2,p_S2,p_T2,rfl,rfl,p_h2,p_q3⟩:=p_q2.step
  simp only[Ty.size,Ty.aN,Nat.reduceAdd,Nat.zero_add,List.drop_zero,List.drop_succ_cons,List.take_succ_cons,List.take_zero]at p_h2
  obtain⟨n2,e2,rfl,rfl,lo2,hi2⟩:=p_h2.int
  simp only[List.cons.injEq,and_true]at e2
  subst e2
  obtain⟨p_v3,p_r3,p_S3,p_T3,rfl,rfl,p_h3,p_q4⟩:=p_q3.step
  simp only[Ty.size,Ty.aN,Nat.reduceAdd,Nat.zero_add,List.drop_zero,List.drop_succ_cons,List.take_succ_cons,List.take_zero]at p_h3
  have h3:=p_h3
  obtain⟨p_v4,p_r4,p_S4,p_T4,rfl,rfl,p_h4,p_q5⟩:=p_q4.step
  simp only[Ty.size,Ty.aN,Nat.reduceAdd,Nat.zero_add,List.drop_zero,List.drop_succ_cons,List.take_succ_cons,List.take_zero]at p_h4
  have h4:=p_h4
  obtain⟨p_v5,p_r5,p_S5,p_T5,rfl,rfl,p_h5,p_q6⟩:=p_q5.step
  simp only[Ty.size,Ty.aN,Nat.reduceAdd,Nat.zero_add,List.drop_zero,List.drop_succ_cons,List.take_succ_cons,List.take_zero]at p_h5
  obtain⟨p5_vs,p5_hv,p5_q0⟩:=p_h5.st
  obtain⟨p5_v0,p5_r0,p5_S0,p5_T0,rfl,rfl,p5_h0,p5_q1⟩:=p5_q0.step
  simp only[Ty.size,Ty.aN,Nat.reduceAdd,Nat.zero_add,List.drop_zero,List.drop_succ_cons,List.take_succ_cons,List.take_zero]at p5_h0
  obtain⟨n5,e5,rfl,rfl,lo5,hi5⟩:=p5_h0.int
  simp only[List.cons.injEq,and_true]at e5
  subst e5
  obtain⟨p5_v1,p5_r1,p5_S1,p5_T1,rfl,rfl,p5_h1,p5_q2⟩:=p5_q1.step
  simp only[Ty.size,Ty.aN,Nat.reduceAdd,Nat.zero_add,List.drop_zero,List.drop_succ_cons,List.take_succ_cons,List.take_zero]at p5_h1
  obtain⟨n6,e6,rfl,rfl,lo6,hi6⟩:=p5_h1.int
  simp only[List.cons.injEq,and_true]at e6
  subst e6
  obtain⟨p5_v2,p5_r2,p5_S2,p5_T2,rfl,rfl,p5_h2,p5_q3⟩:=p5_q2.step
  simp only[Ty.size,Ty.aN,Nat.reduceAdd,Nat.zero_add,List.drop_zero,List.drop_succ_cons,List.take_succ_cons,List.take_zero]at p5_h2
  have h7:=p5_h2
  obtain⟨p5_v3,p5_r3,p5_S3,p5_T3,rfl,rfl,p5_h3,p5_q4⟩:=p5_q3.step
  simp only[Ty.size,Ty.aN,Nat.reduceAdd,Nat.zero_add,List.drop_zero,List.drop_succ_cons,List.take_succ_cons,List.take_zero]at p5_h3
  have h8:=p5_h3
  obtain⟨p5_v4,p5_r4,p5_S4,p5_T4,rfl,rfl,p5_h4,p5_q5⟩:=p5_q4.step
  simp only[Ty.size,Ty.aN,Nat.reduceAdd,Nat.zero_add,List.drop_zero,List.drop_succ_cons,List.take_succ_cons,List.take_zero]at p5_h4
  have h9:=p5_h4
  obtain⟨_,rfl,rfl⟩:=p5_q5
  subst p5_hv
  obtain⟨_,rfl,rfl⟩:=p_q6
  have hxi:xs[i]= .r [.i n0, .i n1, .i n2,p_v3,p_v4, .r [.i n5, .i n6,p5_v2,p5_v3,p5_v4]]:=p_hv
  rw[hxi]at hsi
  simp only[List.nil_append,List.append_nil]at k2 k3 hnid hoi k4
  have hcne:bn ao (.r [.i n0, .i n1, .i n2,p_v3,p_v4, .r [.i n5, .i n6,p5_v2,p5_v3,p5_v4]])=(1+(1+(1+(bn (.sl (.int .u8)) p_v3+(bn (.sl (.int .u8)) p_v4+((1+(1+(bn (.sl (.int .u8)) p5_v2+(bn (.sl (.int .u8)) p5_v3+(bn (.sl (.sl (.int .u8))) p5_v4+0)))))+0)))))):=rfl
  rw[hcne]at hsi
  obtain⟨o3,ho3,y3,yy3⟩:=hoi.split
  obtain⟨o4,ho4,y4,yy4⟩:=ho3.split
  obtain⟨o7,ho7,y7,yy7⟩:=ho4.split
  obtain⟨o8,ho8,y8,yy8⟩:=ho7.split
  have o9:=ho8
  have hcs:∀ty b,H.cells (h'.set id (.own ty b)) id=some b:=fun ty b=>aD (hset _)
  have hcb:h'.cells id=_:=aD hb1
  simp(disch:=omega) only[ae,Ib,hl,hat',hb1,hset,hcs,hcb,List.set_set,fG,fF,fC,fP,fx,fH,fv,fO,List.length_append,List.cons_append,List.nil_append,List.length_set,ax,au,dN,uy,SX,SU,SL,reduceCtorEq,Nat.reduceAdd,Nat.reduceLeDiff,reduceIte]
  have hn3:id∉p_S3:=fun hm=>hnid (by simp[hm])
  have hn4:id∉p_S4:=fun hm=>hnid (by simp[hm])
  have hn7:id∉p5_S2:=fun hm=>hnid (by simp[hm])
  have hn8:id∉p5_S3:=fun hm=>hnid (by simp[hm])
  have hn9:id∉p5_S4:=fun hm=>hnid (by simp[hm])
  refine cI.go cS (h3.set hn3) (cY.set o3 hidlt) (k:=((((k+((xs.take i).map (bn ao)).sum)+1)+1)+1)) (by rw[dN];omega) (fun g3 w3 z3=> ?_)
  have hb_3:=w3.2.1 id hn3
  simp only[hb1,hset,hcs,hcb]at hb_3
  have hlt_3:id < g3.length:=(List.getElem?_eq_some_iff.1 hb_3).1
  have hset_3:∀b,(g3.set id b)[id]? =some b:=fun b=>cL hlt_3
  have hcs_3:∀ty b,H.cells (g3.set id (.own ty b)) id=some b:=fun ty b=>aD (hset_3 _)
  have hcb_3:g3.cells id=_:=aD hb_3
  simp(disch:=omega) only[ae,Ib,hl,hat',hb_3,hset_3,hcs_3,hcb_3,List.set_set,fG,fF,fC,fP,fx,fH,fv,fO,List.length_append,List.cons_append,List.nil_append,List.length_set,ax,au,dN,uy,SX,SU,SL,reduceCtorEq,Nat.reduceAdd,Nat.reduceLeDiff,reduceIte]
  refine cI.go cS ((h4.set hn4).wrote w3 (fun i hi=>yy3 i (by simp[hi]))) (w3.cP (cY.set o4 hidlt)) (k:=(((((k+((xs.take i).map (bn ao)).sum)+1)+1)+1)+bn (.sl (.int .u8)) p_v3)) (by rw[dN];omega) (fun g4 w4 z4=> ?_)
  have hb_4:=w4.2.1 id hn4
  simp only[hb_3,hset_3,hcs_3,hcb_3]at hb_4
  have hlt_4:id < g4.length:=(List.getElem?_eq_some_iff.1 hb_4).1
  have hset_4:∀b,(g4.set id b)[id]? =some b:=fun b=>cL hlt_4
  have hcs_4:∀ty b,H.cells (g4.set id (.own ty b)) id=some b:=fun ty b=>aD (hset_4 _)
  have hcb_4:g4.cells id=_:=aD hb_4
  simp(disch:=omega) only[ae,Ib,hl,hat',hb_4,hset_4,hcs_4,hcb_4,List.set_set,fG,fF,fC,fP,fx,fH,fv,fO,List.length_append,List.cons_append,List.nil_append,List.length_set,ax,au,dN,uy,SX,SU,SL,reduceCtorEq,Nat.reduceAdd,Nat.reduceLeDiff,reduceIte]
  refine cI.go cS ((((h7.set hn7).wrote w3 (fun i hi=>yy3 i (by simp[hi]))).wrote w4 (fun i hi=>yy4 i (by simp[hi]))).set hn7) (cY.set (w4.cP (w3.cP (cY.set o7 hidlt))) hlt_4) (k:=((((((((k+((xs.take i).map (bn ao)).sum)+1)+1)+1)+bn (.sl (.int .u8)) p_v3)+bn (.sl (.int .u8)) p_v4)+1)+1)) (by rw[dN];omega) (fun g7 w7 z7=> ?_)
  have hb_7:=w7.2.1 id hn7
  simp only[hb_4,hset_4,hcs_4,hcb_4]at hb_7
  have hlt_7:id < g7.length:=(List.getElem?_eq_some_iff.1 hb_7).1
  have hset_7:∀b,(g7.set id b)[id]? =some b:=fun b=>cL hlt_7
  have hcs_7:∀ty b,H.cells (g7.set id (.own ty b)) id=some b:=fun ty b=>aD (hset_7 _)
  have hcb_7:g7.cells id=_:=aD hb_7
  simp(disch:=omega) only[ae,Ib,hl,hat',hb_7,hset_7,hcs_7,hcb_7,List.set_set,fG,fF,fC,fP,fx,fH,fv,fO,List.length_append,List.cons_append,List.nil_append,List.length_set,ax,au,dN,uy,SX,SU,SL,reduceCtorEq,Nat.reduceAdd,Nat.reduceLeDiff,reduceIte]
  refine cI.go cS (((((h8.set hn8).wrote w3 (fun i hi=>yy3 i (by simp[hi]))).wrote w4 (fun i hi=>yy4 i (by simp[hi]))).set hn8).wrote w7 (fun i hi=>yy7 i (by simp[hi]))) (w7.cP (cY.set (w4.cP (w3.cP (cY.set o8 hidlt))) hlt_4)) (k:=(((((((((k+((xs.take i).map (bn ao)).sum)+1)+1)+1)+bn (.sl (.int .u8)) p_v3)+bn (.sl (.int .u8)) p_v4)+1)+1)+bn (.sl (.int .u8)) p5_v2)) (by rw[dN];omega) (fun g8 w8 z8=> ?_)
  have hb_8:=w8.2.1 id hn8
  simp only[hb_7,hset_7,hcs_7,hcb_7]at hb_8
  have hlt_8:id < g8.length:=(List.getElem?_eq_some_iff.1 hb_8).1
  have hset_8:∀b,(g8.set id b)[id]? =some b:=fun b=>cL hlt_8
  have hcs_8:∀ty b,H.cells (g8.set id (.own ty b)) id=some b:=fun ty b=>aD (hset_8 _)
  have hcb_8:g8.cells id=_:=aD hb_8
  simp(disch:=omega) only[ae,Ib,hl,hat',hb_8,hset_8,hcs_8,hcb_8,List.set_set,fG,fF,fC,fP,fx,fH,fv,fO,List.length_append,List.cons_append,List.nil_append,List.length_set,ax,au,dN,uy,SX,SU,SL,reduceCtorEq,Nat.reduceAdd,Nat.reduceLeDiff,reduceIte]
  refine cI.go oD ((((((h9.set hn9).wrote w3 (fun i hi=>yy3 i (by simp[hi]))).wrote w4 (fun i hi=>yy4 i (by simp[hi]))).set hn9).wrote w7 (fun i hi=>yy7 i (by simp[hi]))).wrote w8 (fun i hi=>yy8 i (by simp[hi]))) (w8.cP (w7.cP (cY.set (w4.cP (w3.cP (cY.set o9 hidlt))) hlt_4))) (k:=((((((((((k+((xs.take i).map (bn ao)).sum)+1)+1)+1)+bn (.sl (.int .u8)) p_v3)+bn (.sl (.int .u8)) p_v4)+1)+1)+bn (.sl (.int .u8)) p5_v2)+bn (.sl (.int .u8)) p5_v3)) (by rw[dN];omega) (fun g9 w9 z9=> ?_)
  have hb_9:=w9.2.1 id hn9
  simp only[hb_8,hset_8,hcs_8,hcb_8]at hb_9
  have hlt_9:id < g9.length:=(List.getElem?_eq_some_iff.1 hb_9).1
  have hset_9:∀b,(g9.set id b)[id]? =some b:=fun b=>cL hlt_9
  have hcs_9:∀ty b,H.cells (g9.set id (.own ty b)) id=some b:=fun ty b=>aD (hset_9 _)
  have hcb_9:g9.cells id=_:=aD hb_9
  simp(disch:=omega) only[ae,Ib,hl,hat',hb_9,hset_9,hcs_9,hcb_9,List.set_set,fG,fF,fC,fP,fx,fH,fv,fO,List.length_append,List.cons_append,List.nil_append,List.length_set,ax,au,dN,uy,SX,SU,SL,reduceCtorEq,Nat.reduceAdd,Nat.reduceLeDiff,reduceIte]
  have wF0:cz h' h' (id::(p_S3++(p_S4++(p5_S2++(p5_S3++(p5_S4)))))):=cz.refl (fun j hj=>by
   rcases List.mem_cons.1 hj with rfl|hj
   ·exact⟨_,_,hb1⟩
   ·exact hoi.2 j hj)
  have hmkE:vW ao xs[i] (k+((xs.take i).map (bn ao)).sum)= .r [.i (IntKind.i64.wrap (((k+((xs.take i).map (bn ao)).sum):Nat):Int)), .i (IntKind.i64.wrap ((((k+((xs.take i).map (bn ao)).sum)+1):Nat):Int)), .i (IntKind.i64.wrap (((((k+((xs.take i).map (bn ao)).sum)+1)+1):Nat):Int)),vW (.sl (.int .u8)) p_v3 (((((k+((xs.take i).map (bn ao)).sum)+1)+1)+1)),vW (.sl (.int .u8)) p_v4 ((((((k+((xs.take i).map (bn ao)).sum)+1)+1)+1)+bn (.sl (.int .u8)) p_v3)), .r [.i (IntKind.i64.wrap ((((((((k+((xs.take i).map (bn ao)).sum)+1)+1)+1)+bn (.sl (.int .u8)) p_v3)+bn (.sl (.int .u8)) p_v4):Nat):Int)), .i (IntKind.i64.wrap (((((((((k+((xs.take i).map (bn ao)).sum)+1)+1)+1)+bn (.sl (.int .u8)) p_v3)+bn (.sl (.int .u8)) p_v4)+1):Nat):Int)),vW (.sl (.int .u8)) p5_v2 (((((((((k+((xs.take i).map (bn ao)).sum)+1)+1)+1)+bn (.sl (.int .u8)) p_v3)+bn (.sl (.int .u8)) p_v4)+1)+1)),vW (.sl (.int .u8)) p5_v3 ((((((((((k+((xs.take i).map (bn ao)).sum)+1)+1)+1)+bn (.sl (.int .u8)) p_v3)+bn (.sl (.int .u8)) p_v4)+1)+1)+bn (.sl (.int .u8)) p5_v2)),vW (.sl (.sl (.int .u8))) p5_v4 (((((((((((k+((xs.take i).map (bn ao)).sum)+1)+1)+1)+bn (.sl (.int .u8)) p_v3)+bn (.sl (.int .u8)) p_v4)+1)+1)+bn (.sl (.int .u8)) p5_v2)+bn (.sl (.int .u8)) p5_v3))]]:=by rw[hxi];rfl
  simp only[D5]at z3 z4 z7 z8 z9
  have wF:=(((((((wF0.set (by simp) hidlt).more w3 (fun i hi=>by simp[hi])).more w4 (fun i hi=>by simp[hi])).set (by simp) hlt_4).more w7 (fun i hi=>by simp[hi])).more w8 (fun i hi=>by simp[hi])).more w9 (fun i hi=>by simp[hi]))
  have hnew:=Rp.Lo (Rs.mk (Rp.mkNat (n:=(k+((xs.take i).map (bn ao)).sum)) (by omega)) (Rs.mk (Rp.mkNat (n:=((k+((xs.take i).map (bn ao)).sum)+1)) (by omega)) (Rs.mk (Rp.mkNat (n:=(((k+((xs.take i).map (bn ao)).sum)+1)+1)) (by omega)) (Rs.mk (((((z3.wrote w4 (fun i hi hn=>y3 i hi (by simp[hn]))).set hn3).wrote w7 (fun i hi hn=>y3 i hi (by simp[hn]))).wrote w8 (fun i hi hn=>y3 i hi (by simp[hn]))).wrote w9 (fun i hi hn=>y3 i hi (by simp[hn]))) (Rs.mk ((((z4.set hn4).wrote w7 (fun i hi hn=>y4 i hi (by simp[hn]))).wrote w8 (fun i hi hn=>y4 i hi (by simp[hn]))).wrote w9 (fun i hi hn=>y4 i hi (by simp[hn]))) (Rs.mk (Rp.Lo (Rs.mk (Rp.mkNat (n:=((((((k+((xs.take i).map (bn ao)).sum)+1)+1)+1)+bn (.sl (.int .u8)) p_v3)+bn (.sl (.int .u8)) p_v4)) (by omega)) (Rs.mk (Rp.mkNat (n:=(((((((k+((xs.take i).map (bn ao)).sum)+1)+1)+1)+bn (.sl (.int .u8)) p_v3)+bn (.sl (.int .u8)) p_v4)+1)) (by omega)) (Rs.mk ((z7.wrote w8 (fun i hi hn=>y7 i hi (by simp[hn]))).wrote w9 (fun i hi hn=>y7 i hi (by simp[hn]))) (Rs.mk (z8.wrote w9 (fun i hi hn=>y8 i hi (by simp[hn]))) (Rs.mk z9 Rs.nil)))))) Rs.nil))))))
  simp only[List.cons_append,List.nil_append,List.append_nil]at hnew
  rw[←hmkE]at hnew
  have hE:=k4 _ _ _ (fun j hj hn=>bQ (wF.2.1 j (fun hm=>by
   rcases List.mem_cons.1 hm with rfl|hm
   ·exact hidS' hj
   ·exact hn hm))) hnew
  rw[yg hix]at hE
  refine⟨i+1,xs.length - (i+1),by omega,?_,rfl,by omega,hw.more wF (fun j hj=> ?_),fun _=>⟨pre++C.int .i64 (((k+((xs.take i).map (bn ao)).sum):Nat):Int)::C.int .i64 ((((k+((xs.take i).map (bn ao)).sum)+1):Nat):Int)::C.int .i64 (((((k+((xs.take i).map (bn ao)).sum)+1)+1):Nat):Int)::x3::x4::C.int .i64 ((((((((k+((xs.take i).map (bn ao)).sum)+1)+1)+1)+bn (.sl (.int .u8)) p_v3)+bn (.sl (.int .u8)) p_v4):Nat):Int)::C.int .i64 (((((((((k+((xs.take i).map (bn ao)).sum)+1)+1)+1)+bn (.sl (.int .u8)) p_v3)+bn (.sl (.int .u8)) p_v4)+1):Nat):Int)::x7::x8::x9::post,by first|exact rfl|exact hb_9,?_,?_⟩,fun e=>by omega⟩
  ·have e1:k+((xs.take (i+1)).map (bn ao)).sum=(((((((((((k+((xs.take i).map (bn ao)).sum)+1)+1)+1)+bn (.sl (.int .u8)) p_v3)+bn (.sl (.int .u8)) p_v4)+1)+1)+bn (.sl (.int .u8)) p5_v2)+bn (.sl (.int .u8)) p5_v3)+bn (.sl (.sl (.int .u8))) p5_v4):=by omega
   rw[e1]
  ·rcases List.mem_cons.1 hj with rfl|hj
   ·exact hidS
   ·exact hsub j (k2 j hj)
  ·rw[←hb2];simp
  ·have ht:=HN (l:= [C.int .i64 n0,C.int .i64 n1,C.int .i64 n2,x3,x4,C.int .i64 n5,C.int .i64 n6,x7,x8,x9]) (l':= [C.int .i64 (((k+((xs.take i).map (bn ao)).sum):Nat):Int),C.int .i64 ((((k+((xs.take i).map (bn ao)).sum)+1):Nat):Int),C.int .i64 (((((k+((xs.take i).map (bn ao)).sum)+1)+1):Nat):Int),x3,x4,C.int .i64 ((((((((k+((xs.take i).map (bn ao)).sum)+1)+1)+1)+bn (.sl (.int .u8)) p_v3)+bn (.sl (.int .u8)) p_v4):Nat):Int),C.int .i64 (((((((((k+((xs.take i).map (bn ao)).sum)+1)+1)+1)+bn (.sl (.int .u8)) p_v3)+bn (.sl (.int .u8)) p_v4)+1):Nat):Int),x7,x8,x9]) (post:=post) hpl rfl (m:=xs.length * 10) (by simpa using hme)
   rw[hs1]at hE
   rw[←ht]at hE
   exact hE
 ·simp(disch:=omega) only[Ib,SX,SU,SL,reduceCtorEq,Nat.reduceAdd,Nat.reduceLeDiff,reduceIte]
  have hi':i=xs.length:=by omega
  subst hi'
  rw[List.take_length]
  refine⟨rfl,hw,?_⟩
  by_cases hp:0 < xs.length
  ·obtain⟨bs',hb1,hb2,he⟩:=hblk hp
   rw[Ad]at he
   refine⟨_,rfl,?_, .inr ⟨id,off,bs',S',_,?_,aD hb1,?_,?_,?_, .inl rfl⟩⟩
   ·rw[dm];simp only[maxLen];omega
   ·rw[dm];rw[(hce hp).2]
   ·rw[dm,hb2,hs1];exact hbs
   ·rcases hS with e|⟨e,_⟩
    ·exact e
    ·rw[e]at hp;simp at hp
   ·rw[dm];exact he
  ·have hx:xs= []:=List.eq_nil_of_length_eq_zero (by omega)
   subst hx
   rw[hz0 rfl]
   exact hv
def Jf:AF:=⟨2,4,[.tmp 4],(.seq (.ops [.i (.lbox 2 (.s 0)), .i (.mov 4 (qi 0))]) (.seq (.ops [qf 5 2 0,ql 6 2 5 1 false,qm 7 1, .i (.call 9 27 false [(.s 6),(.s 7)]),qm 1 8]) (.seq (.ops [qf 9 2 1,ql 10 2 9 5 true,qm 11 1, .i (.call 13 107 false [(.s 10),(.s 11)]),qm 1 12]) (.seq (.ops [qm 13 1,qm 4 13]) .ret))))⟩
theorem MS:cd 111=some Jf:=by kernel_rfl
theorem GI:cI cd 111 cj:=by
 intro h cs v S k hv ho hk
 obtain⟨vs,rfl,q0⟩:=hv.st
 obtain⟨v0,r0,S0,T0,rfl,rfl,h0,q1⟩:=q0.step
 obtain⟨c0,e0⟩:=h0.one rfl
 rw[e0]at h0
 obtain⟨v1,r1,S1,T1,rfl,rfl,h1,q2⟩:=q1.step
 obtain⟨_,rfl,rfl⟩:=q2
 have hsz:cs.length=6:=hv.size
 simp only[Ty.size,Ty.aN,Nat.reduceAdd,Nat.zero_add,List.drop_zero]at e0 hsz h1
 have hcn:bc cj (.r [v0,v1])=(bc (.sl ao) v0+(bc fZ v1+0)):=rfl
 have hmk:et cj (.r [v0,v1]) k= .r [et (.sl ao) v0 (k),et fZ v1 (k+bc (.sl ao) v0)]:=rfl
 rw[hmk]
 rw[hcn]at hk⊢
 simp only[List.nil_append,List.append_nil]at ho⊢
 obtain⟨o0,ho0,x0,xx0⟩:=ho.split
 have o1:=ho0
 refine aw MS rfl ?_
 simp(disch:=omega) only[ae,Jf,e0,hsz,ax,au,SX,SU,SL,reduceCtorEq,Nat.reduceAdd,Nat.reduceLeDiff,reduceIte]
 refine cI.go HB h0 o0 (k:=k) (by omega) (fun g0 w0 z0=> ?_)
 simp(disch:=omega) only[ae,Jf,e0,hsz,ax,au,SX,SU,SL,reduceCtorEq,Nat.reduceAdd,Nat.reduceLeDiff,reduceIte]
 refine cI.go Ht (h1.wrote w0 (fun i hi=>xx0 i (by simp[hi]))) (w0.cP o1) (k:=k+bc (.sl ao) v0) (by omega) (fun g1 w1 z1=> ?_)
 simp(disch:=omega) only[ae,Jf,e0,hsz,ax,au,SX,SU,SL,reduceCtorEq,Nat.reduceAdd,Nat.reduceLeDiff,reduceIte]
 have fin:Rs g1 [(.sl ao),fZ] (cs.drop 0) [et (.sl ao) v0 (k),et fZ v1 (k+bc (.sl ao) v0)] _:=(Rs.bk (o:=0) (Rp.jT e0 (z0.wrote w1 (fun i hi hn=>x0 i hi (by simp[hn])))) (Rs.bk (o:=1) z1 (Rs.fin (Nat.le_of_eq hsz))))
 simp only[List.nil_append,List.append_nil,List.drop_zero]at fin
 have wr:=(((cz.refl ho.2).more w0 (fun i hi=>by simp[hi])).more w1 (fun i hi=>by simp[hi]))
 first
  |exact⟨wr,_,rfl,fin⟩
  |(refine⟨?_,wr,_,rfl,fin⟩
    congr 3
    omega)
def II:AF:=⟨2,4,[.tmp 4],(.seq (.ops [.i (.lbox 2 (.s 0)), .i (.mov 4 (qi 0))]) (.seq (.ops [qf 5 2 3,ql 6 2 5 1 false,qm 7 1, .i (.call 9 41 false [(.s 6),(.s 7)]),qm 1 8]) (.seq (.ops [qf 9 2 4,ql 10 2 9 1 false,qm 11 1, .i (.call 13 77 false [(.s 10),(.s 11)]),qm 1 12]) (.seq (.ops [qm 13 1,qm 4 13]) .ret))))⟩
theorem Nl:cd 112=some II:=by kernel_rfl
theorem JU:cI cd 112 gW:=by
 intro h cs v S k hv ho hk
 obtain⟨vs,rfl,q0⟩:=hv.st
 obtain⟨v0,r0,S0,T0,rfl,rfl,h0,q1⟩:=q0.step
 obtain⟨n0,e0,rfl,rfl,lo0,hi0⟩:=h0.int
 obtain⟨v1,r1,S1,T1,rfl,rfl,h1,q2⟩:=q1.step
 obtain⟨n1,e1,rfl,rfl,lo1,hi1⟩:=h1.int
 obtain⟨v2,r2,S2,T2,rfl,rfl,h2,q3⟩:=q2.step
 obtain⟨n2,e2,rfl,rfl,lo2,hi2⟩:=h2.int
 obtain⟨v3,r3,S3,T3,rfl,rfl,h3,q4⟩:=q3.step
 obtain⟨c3,e3⟩:=h3.one rfl
 rw[e3]at h3
 obtain⟨v4,r4,S4,T4,rfl,rfl,h4,q5⟩:=q4.step
 obtain⟨c4,e4⟩:=h4.one rfl
 rw[e4]at h4
 obtain⟨_,rfl,rfl⟩:=q5
 have hsz:cs.length=5:=hv.size
 simp only[Ty.size,Ty.aN,Nat.reduceAdd,Nat.zero_add,List.drop_zero]at e0 e1 e2 e3 e4 hsz
 have hcn:bc gW (.r [.i n0, .i n1, .i n2,v3,v4])=(0+(0+(0+(bc (.sl (.int .u8)) v3+(bc (.sl (.sl (.int .u8))) v4+0))))):=rfl
 have hmk:et gW (.r [.i n0, .i n1, .i n2,v3,v4]) k= .r [.i n0, .i n1, .i n2,et (.sl (.int .u8)) v3 (k),et (.sl (.sl (.int .u8))) v4 (k+bc (.sl (.int .u8)) v3)]:=rfl
 rw[hmk]
 rw[hcn]at hk⊢
 simp only[List.nil_append,List.append_nil]at ho⊢
 obtain⟨o3,ho3,x3,xx3⟩:=ho.split
 have o4:=ho3
 refine aw Nl rfl ?_
 simp(disch:=omega) only[ae,II,e0,e1,e2,e3,e4,hsz,ax,au,SX,SU,SL,reduceCtorEq,Nat.reduceAdd,Nat.reduceLeDiff,reduceIte]
 refine cI.go cS h3 o3 (k:=k) (by omega) (fun g3 w3 z3=> ?_)
 simp(disch:=omega) only[ae,II,e0,e1,e2,e3,e4,hsz,ax,au,SX,SU,SL,reduceCtorEq,Nat.reduceAdd,Nat.reduceLeDiff,reduceIte]
 refine cI.go oD (h4.wrote w3 (fun i hi=>xx3 i (by simp[hi]))) (w3.cP o4) (k:=k+bc (.sl (.int .u8)) v3) (by omega) (fun g4 w4 z4=> ?_)
 simp(disch:=omega) only[ae,II,e0,e1,e2,e3,e4,hsz,ax,au,SX,SU,SL,reduceCtorEq,Nat.reduceAdd,Nat.reduceLeDiff,reduceIte]
 have fin:Rs g4 [(.int .i64),(.int .i64),(.int .i64),(.sl (.int .u8)),(.sl (.sl (.int .u8)))] (cs.drop 0) [.i n0, .i n1, .i n2,et (.sl (.int .u8)) v3 (k),et (.sl (.sl (.int .u8))) v4 (k+bc (.sl (.int .u8)) v3)] _:=(Rs.bk (o:=0) (Rp.eY e0 lo0 hi0) (Rs.bk (o:=1) (Rp.eY e1 lo1 hi1) (Rs.bk (o:=2) (Rp.eY e2 lo2 hi2) (Rs.bk (o:=3) (Rp.jT e3 (z3.wrote w4 (fun i hi hn=>x3 i hi (by simp[hn])))) (Rs.bk (o:=4) (Rp.jT e4 z4) (Rs.fin (Nat.le_of_eq hsz)))))))
 simp only[List.nil_append,List.append_nil,List.drop_zero]at fin
 have wr:=(((cz.refl ho.2).more w3 (fun i hi=>by simp[hi])).more w4 (fun i hi=>by simp[hi]))
 first
  |exact⟨wr,_,rfl,fin⟩
  |(refine⟨?_,wr,_,rfl,fin⟩
    congr 3
    omega)
def Is:AF:=⟨2,6,[.tmp 4],(.seq (.ops [.i (.lbox 2 (.s 0)), .i (.mov 4 (qi 0))]) (.seq (.ops [qf 5 2 1,ql 6 2 5 5 true,qm 7 1, .i (.call 9 106 false [(.s 6),(.s 7)]),qm 1 8]) (.seq (.ops [qf 9 2 6,ql 10 2 9 5 true,qm 11 1, .i (.call 13 107 false [(.s 10),(.s 11)]),qm 1 12]) (.seq (.ops [qf 13 2 11,ql 14 2 13 10 true,qm 15 1, .i (.call 17 108 false [(.s 14),(.s 15)]),qm 1 16]) (.seq (.ops [qf 17 2 21,ql 18 2 17 11 true,qm 19 1, .i (.call 21 109 false [(.s 18),(.s 19)]),qm 1 20]) (.seq (.ops [qf 21 2 32,ql 22 2 21 2 true,qm 23 1, .i (.call 25 110 false [(.s 22),(.s 23)]),qm 1 24]) (.seq (.ops [qf 25 2 34,ql 26 2 25 6 true,qm 27 1, .i (.call 29 111 false [(.s 26),(.s 27)]),qm 1 28]) (.seq (.ops [qf 29 2 40,ql 30 2 29 5 true,qm 31 1, .i (.call 33 112 false [(.s 30),(.s 31)]),qm 1 32]) (.seq (.ops [qm 33 1,qm 4 33]) .ret)))))))))⟩
theorem Od:cd 40=some Is:=by kernel_rfl
theorem KJ:cI cd 40 TMsg:=by
 intro h cs v S k hv ho hk
 obtain⟨vs,rfl,q0⟩:=hv.st
 obtain⟨v0,r0,S0,T0,rfl,rfl,h0,q1⟩:=q0.step
 obtain⟨n0,e0,rfl,rfl,lo0,hi0⟩:=h0.int
 obtain⟨v1,r1,S1,T1,rfl,rfl,h1,q2⟩:=q1.step
 obtain⟨v2,r2,S2,T2,rfl,rfl,h2,q3⟩:=q2.step
 obtain⟨v3,r3,S3,T3,rfl,rfl,h3,q4⟩:=q3.step
 obtain⟨v4,r4,S4,T4,rfl,rfl,h4,q5⟩:=q4.step
 obtain⟨v5,r5,S5,T5,rfl,rfl,h5,q6⟩:=q5.step
 obtain⟨v6,r6,S6,T6,rfl,rfl,h6,q7⟩:=q6.step
 obtain⟨v7,r7,S7,T7,rfl,rfl,h7,q8⟩:=q7.step
 obtain⟨_,rfl,rfl⟩:=q8
 have hsz:cs.length=45:=hv.size
 simp only[Ty.size,Ty.aN,Nat.reduceAdd,Nat.zero_add,List.drop_zero]at e0 hsz h1 h2 h3 h4 h5 h6 h7
 have hcn:bc TMsg (.r [.i n0,v1,v2,v3,v4,v5,v6,v7])=(0+(bc cq v1+(bc fZ v2+(bc ao v3+(bc bL v4+(bc yB v5+(bc cj v6+(bc gW v7+0)))))))):=rfl
 have hmk:et TMsg (.r [.i n0,v1,v2,v3,v4,v5,v6,v7]) k= .r [.i n0,et cq v1 (k),et fZ v2 (k+bc cq v1),et ao v3 (k+bc cq v1+bc fZ v2),et bL v4 (k+bc cq v1+bc fZ v2+bc ao v3),et yB v5 (k+bc cq v1+bc fZ v2+bc ao v3+bc bL v4),et cj v6 (k+bc cq v1+bc fZ v2+bc ao v3+bc bL v4+bc yB v5),et gW v7 (k+bc cq v1+bc fZ v2+bc ao v3+bc bL v4+bc yB v5+bc cj v6)]:=rfl
 rw[hmk]
 rw[hcn]at hk⊢
 simp only[List.nil_append,List.append_nil]at ho⊢
 obtain⟨o1,ho1,x1,xx1⟩:=ho.split
 obtain⟨o2,ho2,x2,xx2⟩:=ho1.split
 obtain⟨o3,ho3,x3,xx3⟩:=ho2.split
 obtain⟨o4,ho4,x4,xx4⟩:=ho3.split
 obtain⟨o5,ho5,x5,xx5⟩:=ho4.split
 obtain⟨o6,ho6,x6,xx6⟩:=ho5.split
 have o7:=ho6
 refine aw Od rfl ?_
 simp(disch:=omega) only[ae,Is,e0,hsz,ax,au,SX,SU,SL,reduceCtorEq,Nat.reduceAdd,Nat.reduceLeDiff,reduceIte]
 refine cI.go JA h1 o1 (k:=k) (by omega) (fun g1 w1 z1=> ?_)
 simp(disch:=omega) only[ae,Is,e0,hsz,ax,au,SX,SU,SL,reduceCtorEq,Nat.reduceAdd,Nat.reduceLeDiff,reduceIte]
 refine cI.go Ht (h2.wrote w1 (fun i hi=>xx1 i (by simp[hi]))) (w1.cP o2) (k:=k+bc cq v1) (by omega) (fun g2 w2 z2=> ?_)
 simp(disch:=omega) only[ae,Is,e0,hsz,ax,au,SX,SU,SL,reduceCtorEq,Nat.reduceAdd,Nat.reduceLeDiff,reduceIte]
 refine cI.go E1 ((h3.wrote w1 (fun i hi=>xx1 i (by simp[hi]))).wrote w2 (fun i hi=>xx2 i (by simp[hi]))) (w2.cP (w1.cP o3)) (k:=k+bc cq v1+bc fZ v2) (by omega) (fun g3 w3 z3=> ?_)
 simp(disch:=omega) only[ae,Is,e0,hsz,ax,au,SX,SU,SL,reduceCtorEq,Nat.reduceAdd,Nat.reduceLeDiff,reduceIte]
 refine cI.go H0 (((h4.wrote w1 (fun i hi=>xx1 i (by simp[hi]))).wrote w2 (fun i hi=>xx2 i (by simp[hi]))).wrote w3 (fun i hi=>xx3 i (by simp[hi]))) (w3.cP (w2.cP (w1.cP o4))) (k:=k+bc cq v1+bc fZ v2+bc ao v3) (by omega) (fun g4 w4 z4=> ?_)
 simp(disch:=omega) only[ae,Is,e0,hsz,ax,au,SX,SU,SL,reduceCtorEq,Nat.reduceAdd,Nat.reduceLeDiff,reduceIte]
 refine cI.go Mp ((((h5.wrote w1 (fun i hi=>xx1 i (by simp[hi]))).wrote w2 (fun i hi=>xx2 i (by simp[hi]))).wrote w3 (fun i hi=>xx3 i (by simp[hi]))).wrote w4 (fun i hi=>xx4 i (by simp[hi]))) (w4.cP (w3.cP (w2.cP (w1.cP o5)))) (k:=k+bc cq v1+bc fZ v2+bc ao v3+bc bL v4) (by omega) (fun g5 w5 z5=> ?_)
 simp(disch:=omega) only[ae,Is,e0,hsz,ax,au,SX,SU,SL,reduceCtorEq,Nat.reduceAdd,Nat.reduceLeDiff,reduceIte]
 refine cI.go GI (((((h6.wrote w1 (fun i hi=>xx1 i (by simp[hi]))).wrote w2 (fun i hi=>xx2 i (by simp[hi]))).wrote w3 (fun i hi=>xx3 i (by simp[hi]))).wrote w4 (fun i hi=>xx4 i (by simp[hi]))).wrote w5 (fun i hi=>xx5 i (by simp[hi]))) (w5.cP (w4.cP (w3.cP (w2.cP (w1.cP o6))))) (k:=k+bc cq v1+bc fZ v2+bc ao v3+bc bL v4+bc yB v5) (by omega) (fun g6 w6 z6=> ?_)
 simp(disch:=omega) only[ae,Is,e0,hsz,ax,au,SX,SU,SL,reduceCtorEq,Nat.reduceAdd,Nat.reduceLeDiff,reduceIte]
 refine cI.go JU ((((((h7.wrote w1 (fun i hi=>xx1 i (by simp[hi]))).wrote w2 (fun i hi=>xx2 i (by simp[hi]))).wrote w3 (fun i hi=>xx3 i (by simp[hi]))).wrote w4 (fun i hi=>xx4 i (by simp[hi]))).wrote w5 (fun i hi=>xx5 i (by simp[hi]))).wrote w6 (fun i hi=>xx6 i (by simp[hi]))) (w6.cP (w5.cP (w4.cP (w3.cP (w2.cP (w1.cP o7)))))) (k:=k+bc cq v1+bc fZ v2+bc ao v3+bc bL v4+bc yB v5+bc cj v6) (by omega) (fun g7 w7 z7=> ?_)
 simp(disch:=omega) only[ae,Is,e0,hsz,ax,au,SX,SU,SL,reduceCtorEq,Nat.reduceAdd,Nat.reduceLeDiff,reduceIte]
 have fin:Rs g7 [(.int .i64),cq,fZ,ao,bL,yB,cj,gW] (cs.drop 0) [.i n0,et cq v1 (k),et fZ v2 (k+bc cq v1),et ao v3 (k+bc cq v1+bc fZ v2),et bL v4 (k+bc cq v1+bc fZ v2+bc ao v3),et yB v5 (k+bc cq v1+bc fZ v2+bc ao v3+bc bL v4),et cj v6 (k+bc cq v1+bc fZ v2+bc ao v3+bc bL v4+bc yB v5),et gW v7 (k+bc cq v1+bc fZ v2+bc ao v3+bc bL v4+bc yB v5+bc cj v6)] _:=(Rs.bk (o:=0) (Rp.eY e0 lo0 hi0) (Rs.bk (o:=1) ((((((z1.wrote w2 (fun i hi hn=>x1 i hi (by simp[hn]))).wrote w3 (fun i hi hn=>x1 i hi (by simp[hn]))).wrote w4 (fun i hi hn=>x1 i hi (by simp[hn]))).wrote w5 (fun i hi hn=>x1 i hi (by simp[hn]))).wrote w6 (fun i hi hn=>x1 i hi (by simp[hn]))).wrote w7 (fun i hi hn=>x1 i hi (by simp[hn]))) (Rs.bk (o:=6) (((((z2.wrote w3 (fun i hi hn=>x2 i hi (by simp[hn]))).wrote w4 (fun i hi hn=>x2 i hi (by simp[hn]))).wrote w5 (fun i hi hn=>x2 i hi (by simp[hn]))).wrote w6 (fun i hi hn=>x2 i hi (by simp[hn]))).wrote w7 (fun i hi hn=>x2 i hi (by simp[hn]))) (Rs.bk (o:=11) ((((z3.wrote w4 (fun i hi hn=>x3 i hi (by simp[hn]))).wrote w5 (fun i hi hn=>x3 i hi (by simp[hn]))).wrote w6 (fun i hi hn=>x3 i hi (by simp[hn]))).wrote w7 (fun i hi hn=>x3 i hi (by simp[hn]))) (Rs.bk (o:=21) (((z4.wrote w5 (fun i hi hn=>x4 i hi (by simp[hn]))).wrote w6 (fun i hi hn=>x4 i hi (by simp[hn]))).wrote w7 (fun i hi hn=>x4 i hi (by simp[hn]))) (Rs.bk (o:=32) ((z5.wrote w6 (fun i hi hn=>x5 i hi (by simp[hn]))).wrote w7 (fun i hi hn=>x5 i hi (by simp[hn]))) (Rs.bk (o:=34) (z6.wrote w7 (fun i hi hn=>x6 i hi (by simp[hn]))) (Rs.bk (o:=40) z7 (Rs.fin (Nat.le_of_eq hsz))))))))))
 simp only[List.nil_append,List.append_nil,List.drop_zero]at fin
 have wr:=((((((((cz.refl ho.2).more w1 (fun i hi=>by simp[hi])).more w2 (fun i hi=>by simp[hi])).more w3 (fun i hi=>by simp[hi])).more w4 (fun i hi=>by simp[hi])).more w5 (fun i hi=>by simp[hi])).more w6 (fun i hi=>by simp[hi])).more w7 (fun i hi=>by simp[hi]))
 first
  |exact⟨wr,_,rfl,fin⟩
  |(refine⟨?_,wr,_,rfl,fin⟩
    congr 3
    omega)
def N2:AF:=⟨2,5,[.tmp 4],(.seq (.ops [.i (.mov 4 (qi 0))]) (.seq (.seq (.ops [.i (.mov 5 (qi 0))]) (.block 0 (.loop [20,19,18,17,16,15,14,13,12,11,10,9,8,7,6] (.seq (.seq (.ops [qm 6 5,qm 7 0,qn 8 7,qd 9 .lss 6 8]) (.cond (.s 9) .skip (.exit 0))) (.seq (.block 1 (.seq (.seq (.ops [qm 12 0,qm 13 5, .i (.iad 14 (.s 12) (.s 13) 1), .i (.ldh 15 (.s 14) 1 false),qm 16 1, .i (.cvi 17 .u8 (.s 16)),qd 18 .neq 15 17]) (.cond (.s 18) (.seq (.ops [.i (.mov 4 (qi (-1)))]) .ret) .skip)) (.ops [qm 19 1, .i (.bin 20 .add (.s 19) (qi 1)),qm 1 20]))) (.ops [qm 10 5, .i (.bin 11 .add (.s 10) (qi 1)),qm 5 11])))))) (.seq (.ops [qm 21 1,qm 4 21]) .ret)))⟩
theorem N0:cd 42=some N2:=by kernel_rfl
theorem Df:FW cd 42 (.sl (.int .u8)):=I0 N0
end Go.Eng.U
namespace Go.Eng.U
open Go.Eng.F (aF bm bq so)
def c7:AF:=⟨2,7,[.tmp 4],(.seq (.ops [.i (.lbox 2 (.s 0)), .i (.lbox 3 (.s 1)), .i (.mov 4 (qb false))]) (.seq (.ops [.i (.mov 5 (qi 1048576))]) (.seq (.ops [ql 16 3 3 45 true,qm 17 5, .i (.call 19 29 false [(.s 16),(.s 17)]),qm 5 18]) (.seq (.seq (.ops [qm 19 5, .i (.bin 20 .lss (.s 19) (qi 0))]) (.cond (.s 20) (.seq (.ops [.i (.mov 4 (qb true))]) .ret) .skip)) (.seq (.ops [ql 22 2 2 5 true,qk 24 31 22,ql 24 3 3 45 true,qk 26 32 24, .i (.call 27 37 false [(.s 23),(.s 25)]),qm 21 26, .i (.ext 27 (.s 21) 0), .i (.ext 28 (.s 21) 1),qm 6 27,qm 7 28]) (.seq (.ops [ql 29 3 3 45 true,qk 31 32 29, .i (.lal 8 [.int .i64 0, .int .i64 0, .int .i64 0, .nils, .int .i64 0, .nils, .int .i64 0, .int .i64 0, .nils, .nils, .nils, .int .i64 0, .int .i64 0, .int .i64 0, .nils, .nils, .int .i64 0, .int .i64 0, .nils, .nils, .nils, .int .i64 0, .int .i64 0, .int .i64 0, .nils, .nils, .int .i64 0, .int .i64 0, .nils, .nils, .nils, .nils, .int .i64 0, .nils, .nils, .int .i64 0, .int .i64 0, .nils, .nils, .nils, .int .i64 0, .int .i64 0, .int .i64 0, .nils, .nils]),qs 8 8 30 45]) (.seq (.ops [ql 32 2 2 5 true,qk 34 31 32,ql 34 8 8 45 true, .i (.call 36 38 false [(.s 33),(.s 34)]),qm 31 35, .i (.ext 36 (.s 31) 0), .i (.ext 37 (.s 31) 1),qm 9 36,qm 10 37]) (.seq (.seq (.ops [qm 38 9,qm 39 6, .i (.call 41 39 false [(.s 38),(.s 39)]), .i (.not 41 (.s 40)),qm 42 41, .g 42 false 44 (.mov 43 (.s 10)), .g 42 false 45 (.mov 44 (.s 7)), .g 42 false 46 (.beq 45 true (.s 43) (.s 44)), .i (.pick 46 (.s 42) (qb true) (.s 45))]) (.cond (.s 46) (.seq (.ops [.i (.mov 4 (qb false))]) .ret) .skip)) (.seq (.seq (.ops [ql 47 8 8 45 true,ql 48 3 3 45 true,qk 50 32 48, .i (.call 51 34 false [(.s 47),(.s 49)]), .i (.not 51 (.s 50))]) (.cond (.s 51) (.seq (.ops [.i (.mov 4 (qb false))]) .ret) .skip)) (.seq (.ops [.i (.mov 11 (qi 1))]) (.seq (.ops [ql 52 8 8 45 true,qm 53 11, .i (.call 55 40 false [(.s 52),(.s 53)]),qm 11 54]) (.seq (.seq (.ops [qm 55 11, .i (.bin 56 .lss (.s 55) (qi 0)),qm 57 56, .g 57 false 59 (.mov 58 (.s 9)), .g 57 false 60 (.mov 59 (.s 6)), .g 57 false 61 (.call 61 39 false [(.s 58),(.s 59)]), .g 57 false 62 (.not 61 (.s 60)), .i (.pick 62 (.s 57) (qb true) (.s 61)),qm 63 62, .g 63 false 65 (.mov 64 (.s 10)), .g 63 false 66 (.mov 65 (.s 7)), .g 63 false 67 (.beq 66 true (.s 64) (.s 65)), .i (.pick 67 (.s 63) (qb true) (.s 66))]) (.cond (.s 67) (.seq (.ops [.i (.mov 4 (qb false))]) .ret) .skip)) (.seq (.ops [.i (.mov 12 (qi 1))]) (.seq (.ops [qm 68 9,qm 69 12, .i (.call 71 41 false [(.s 68),(.s 69)]),qm 12 70]) (.seq (.ops [.i (.mov 13 (qi 1))]) (.seq (.ops [qm 71 9,qm 72 13, .i (.call 74 42 false [(.s 71),(.s 72)]),qm 13 73]) (.seq (.seq (.ops [qm 74 13, .i (.bin 75 .lss (.s 74) (qi 0))]) (.cond (.s 75) (.seq (.ops [.i (.mov 4 (qb false))]) .ret) .skip)) (.seq (.seq (.ops [qm 76 13,qm 77 12,qd 78 .neq 76 77]) (.cond (.s 78) (.seq (.ops [.i (.mov 4 (qb false))]) .ret) .skip)) (.seq (.ops [ql 80 2 2 5 true,qk 82 31 80,ql 82 3 3 45 true,qk 84 32 82, .i (.call 85 38 false [(.s 81),(.s 83)]),qm 79 84, .i (.ext 85 (.s 79) 0), .i (.ext 86 (.s 79) 1),qm 14 85,qm 15 86]) (.seq (.seq (.ops [qm 87 14,qm 88 6, .i (.call 90 39 false [(.s 87),(.s 88)]), .i (.not 90 (.s 89)),qm 91 90, .g 91 false 93 (.mov 92 (.s 15)), .g 91 false 94 (.mov 93 (.s 7)), .g 91 false 95 (.beq 94 true (.s 92) (.s 93)), .i (.pick 95 (.s 91) (qb true) (.s 94))]) (.cond (.s 95) (.seq (.ops [.i (.mov 4 (qb false))]) .ret) .skip)) (.seq (.ops [.i (.mov 13 (qi 1))]) (.seq (.ops [qm 96 9,qm 97 13, .i (.call 99 42 false [(.s 96),(.s 97)]),qm 13 98]) (.seq (.seq (.ops [qm 99 13, .i (.bin 100 .lss (.s 99) (qi 0))]) (.cond (.s 100) (.seq (.ops [.i (.mov 4 (qb false))]) .ret) .skip)) (.seq (.seq (.ops [qm 101 13,qm 102 12,qd 103 .neq 101 102]) (.cond (.s 103) (.seq (.ops [.i (.mov 4 (qb false))]) .ret) .skip)) (.seq (.ops [.i (.mov 4 (qb true))]) .ret)))))))))))))))))))))))))⟩
theorem k7:cd 7=some c7:=by kernel_rfl
theorem ln {h:H} {kk:IntKind} {c:C} {v:Tv} {S:List Nat} (hv:Rp h (.sl (.int kk)) [c] v S):Br c=some (wt v):=by
 obtain⟨c2,xs,id,off,bs,S',e,rfl,hm,hl,hat,hce,hbs,hel,hS⟩:=hv.view
 injection e with e
 subst e
 rw[hl]
 simp[wt,(sy hel).1]
theorem law_Encode:∀h vs,AK h [TLimits,TMsg] vs→WC cd 7 vs h (fun r _=>r= .val false [.bool true]):=by
 intro h vs ha
 obtain⟨cs0,v0,S0,r0,rfl,hv0,ha0⟩:=ha
 obtain⟨cs1,v1,S1,r1,rfl,hv1,ha1⟩:=ha0
 have hr0:r1= []:=ha1
 subst hr0
 have hsz0:cs0.length=5:=hv0.size
 have hall0:cs0.take 5=cs0:=List.take_of_length_le (by omega)
 have hsz1:cs1.length=45:=hv1.size
 have hall1:cs1.take 45=cs1:=List.take_of_length_le (by omega)
 obtain⟨l,rfl⟩:=aF.ex hv0.ok
 obtain⟨m,rfl⟩:=bm.ex hv1.ok
 have hl0:wt l.tv=0:=by simp[aF.tv,wt,dg]
 have hc1:bc TMsg m.tv≤56 * (1+wt m.tv):=Nat.le_trans (DB _ _) (Am _ _)
 have hr0:bc (.sl (.int .u8)) (q9 (so l m))≤1 * (1+wt (q9 (so l m))):=Nat.le_trans (DB _ _) (Am _ _)
 have hw0:=F.LA l m
 refine aw k7 rfl ?_
 simp(disch:=omega) only[ae,c7,hsz0,hall0,hsz1,hall1,ax,au,dZ,beq_self_eq_true,bne_self_eq_false,List.getElem?_cons_zero,List.getElem?_cons_succ,Bool.or_false,Bool.false_or,Bool.or_self,SX,SU,SL,reduceCtorEq,Nat.reduceAdd,Nat.reduceLeDiff,reduceIte]
 refine c8.go LD hv1 (k:=1048576) (by omega) (fun hf1=> ?_) (fun hf1=> ?_)
 case refine_2=>
  simp(disch:=omega) only[ae,c7,hsz0,hall0,hsz1,hall1,ax,au,dZ,beq_self_eq_true,bne_self_eq_false,List.getElem?_cons_zero,List.getElem?_cons_succ,Bool.or_false,Bool.false_or,Bool.or_self,SX,SU,SL,reduceCtorEq,Nat.reduceAdd,Nat.reduceLeDiff,reduceIte]
  refine aq (fun hn=> ?_) (fun hn=>absurd (show(-1:Int) < 0 by omega) hn)
  simp(disch:=omega) only[ae,c7,hsz0,hall0,hsz1,hall1,ax,au,dZ,beq_self_eq_true,bne_self_eq_false,List.getElem?_cons_zero,List.getElem?_cons_succ,Bool.or_false,Bool.false_or,Bool.or_self,SX,SU,SL,reduceCtorEq,Nat.reduceAdd,Nat.reduceLeDiff,reduceIte]
 simp(disch:=omega) only[ae,c7,hsz0,hall0,hsz1,hall1,ax,au,dZ,beq_self_eq_true,bne_self_eq_false,List.getElem?_cons_zero,List.getElem?_cons_succ,Bool.or_false,Bool.false_or,Bool.or_self,SX,SU,SL,reduceCtorEq,Nat.reduceAdd,Nat.reduceLeDiff,reduceIte]
 refine aq (fun hn=>absurd hn (by omega)) (fun hn=> ?_)
 simp(disch:=omega) only[ae,c7,hsz0,hall0,hsz1,hall1,ax,au,dZ,beq_self_eq_true,bne_self_eq_false,List.getElem?_cons_zero,List.getElem?_cons_succ,Bool.or_false,Bool.false_or,Bool.or_self,SX,SU,SL,reduceCtorEq,Nat.reduceAdd,Nat.reduceLeDiff,reduceIte]
 refine aH (tC hv0 (by omega)) ?_
 rintro r0 g0 ⟨t0,d0,U0,hg0,rfl,z0,o0,l0⟩
 have n0:=ec hg0
 have b0:=z0.lt
 have hd0:d0.length=5:=z0.size
 have ht0:d0.take 5=d0:=List.take_of_length_le (by omega)
 simp(disch:=omega) only[ae,c7,hsz0,hall0,hsz1,hall1,hd0,ht0,ax,au,dZ,beq_self_eq_true,bne_self_eq_false,List.getElem?_cons_zero,List.getElem?_cons_succ,Bool.or_false,Bool.false_or,Bool.or_self,SX,SU,SL,reduceCtorEq,Nat.reduceAdd,Nat.reduceLeDiff,reduceIte]
 refine aH (Bt (Rp.bx hg0 hv1) (by omega)) ?_
 rintro r1 g1 ⟨t1,d1,U1,hg1,rfl,z1,o1,l1⟩
 have n1:=ec hg1
 have b1:=z1.lt
 have hd1:d1.length=45:=z1.size
 have ht1:d1.take 45=d1:=List.take_of_length_le (by omega)
 have hs1_0:aL [.int .i64 0, .int .i64 0, .int .i64 0, .nils, .int .i64 0, .nils, .int .i64 0, .int .i64 0, .nils, .nils, .nils, .int .i64 0, .int .i64 0, .int .i64 0, .nils, .nils, .int .i64 0, .int .i64 0, .nils, .nils, .nils, .int .i64 0, .int .i64 0, .int .i64 0, .nils, .nils, .int .i64 0, .int .i64 0, .nils, .nils, .nils, .nils, .int .i64 0, .nils, .nils, .int .i64 0, .int .i64 0, .nils, .nils, .nils, .int .i64 0, .int .i64 0, .int .i64 0, .nils, .nils] 0 d1=d1:=rC (by rw[hd1];rfl)
 simp(disch:=omega) only[ae,c7,hsz0,hall0,hsz1,hall1,hd0,ht0,hd1,ht1,hs1_0,ax,au,dZ,beq_self_eq_true,bne_self_eq_false,List.getElem?_cons_zero,List.getElem?_cons_succ,Bool.or_false,Bool.false_or,Bool.or_self,SX,SU,SL,reduceCtorEq,Nat.reduceAdd,Nat.reduceLeDiff,reduceIte]
 refine aH (F.wq ⟨_,_,rfl,⟨_,(Rp.bx hg1 z0)⟩,⟨_,_,rfl,⟨_,z1⟩,rfl⟩⟩ (by omega)) ?_
 rintro r2 g2 ⟨t2,css2,U2,hg2,rfl,zz2,o2,l2⟩
 have n2:=ec hg2
 obtain⟨d2_0,cr2_0,U2_0,V2_0,rfl,rfl,z2_0,zz2_0⟩:=zz2
 obtain⟨d2_1,cr2_1,U2_1,V2_1,rfl,rfl,z2_1,zz2_1⟩:=zz2_0
 obtain⟨q2_1,rfl,hq2_1,rfl⟩:=z2_1.bool
 injection hq2_1 with hq2_1;subst hq2_1
 obtain⟨rfl,rfl⟩:=zz2_1
 simp only[List.nil_append,List.append_nil]at o2 l2
 have o2_0:=o2
 have b2_0:=z2_0.lt
 have l2_0:=l2
 obtain⟨e2_0,rfl⟩:=z2_0.one rfl
 simp(disch:=omega) only[ae,c7,hsz0,hall0,hsz1,hall1,hd0,ht0,hd1,ht1,hs1_0,ax,au,dZ,beq_self_eq_true,bne_self_eq_false,List.getElem?_cons_zero,List.getElem?_cons_succ,Bool.or_false,Bool.false_or,Bool.or_self,SX,SU,SL,reduceCtorEq,Nat.reduceAdd,Nat.reduceLeDiff,reduceIte]
 refine aH (Bt (Rp.bx hg2 (Rp.bx hg1 (Rp.bx hg0 hv1))) (by omega)) ?_
 rintro r3 g3 ⟨t3,d3,U3,hg3,rfl,z3,o3,l3⟩
 have n3:=ec hg3
 have b3:=z3.lt
 have hd3:d3.length=45:=z3.size
 have ht3:d3.take 45=d3:=List.take_of_length_le (by omega)
 have hs3_0:aL [.int .i64 0, .int .i64 0, .int .i64 0, .nils, .int .i64 0, .nils, .int .i64 0, .int .i64 0, .nils, .nils, .nils, .int .i64 0, .int .i64 0, .int .i64 0, .nils, .nils, .int .i64 0, .int .i64 0, .nils, .nils, .nils, .int .i64 0, .int .i64 0, .int .i64 0, .nils, .nils, .int .i64 0, .int .i64 0, .nils, .nils, .nils, .nils, .int .i64 0, .nils, .nils, .int .i64 0, .int .i64 0, .nils, .nils, .nils, .int .i64 0, .int .i64 0, .int .i64 0, .nils, .nils] 0 d3=d3:=rC (by rw[hd3];rfl)
 simp(disch:=omega) only[ae,c7,hsz0,hall0,hsz1,hall1,hd0,ht0,hd1,ht1,hs1_0,hd3,ht3,hs3_0,ax,au,dZ,beq_self_eq_true,bne_self_eq_false,List.getElem?_cons_zero,List.getElem?_cons_succ,Bool.or_false,Bool.false_or,Bool.or_self,SX,SU,SL,reduceCtorEq,Nat.reduceAdd,Nat.reduceLeDiff,reduceIte]
 refine aH (tC (Rp.bx hg3 (Rp.bx hg2 (Rp.bx hg1 (Rp.bx hg0 hv0)))) (by omega)) ?_
 rintro r4 g4 ⟨t4,d4,U4,hg4,rfl,z4,o4,l4⟩
 have n4:=ec hg4
 have b4:=z4.lt
 have hd4:d4.length=5:=z4.size
 have ht4:d4.take 5=d4:=List.take_of_length_le (by omega)
 simp(disch:=omega) only[ae,c7,hsz0,hall0,hsz1,hall1,hd0,ht0,hd1,ht1,hs1_0,hd3,ht3,hs3_0,hd4,ht4,ax,au,dZ,beq_self_eq_true,bne_self_eq_false,List.getElem?_cons_zero,List.getElem?_cons_succ,Bool.or_false,Bool.false_or,Bool.or_self,SX,SU,SL,reduceCtorEq,Nat.reduceAdd,Nat.reduceLeDiff,reduceIte]
 refine aH (F.mO ⟨_,_,rfl,⟨_,z4⟩,⟨_,_,rfl,⟨_,(Rp.bx hg4 z3)⟩,rfl⟩⟩ (by omega)) ?_
 rintro r5 g5 ⟨t5,css5,U5,hg5,rfl,zz5,o5,l5⟩
 have n5:=ec hg5
 obtain⟨d5_0,cr5_0,U5_0,V5_0,rfl,rfl,z5_0,zz5_0⟩:=zz5
 obtain⟨d5_1,cr5_1,U5_1,V5_1,rfl,rfl,z5_1,zz5_1⟩:=zz5_0
 obtain⟨q5_1,rfl,hq5_1,rfl⟩:=z5_1.bool
 injection hq5_1 with hq5_1;subst hq5_1
 obtain⟨rfl,rfl⟩:=zz5_1
 simp only[List.nil_append,List.append_nil]at o5 l5
 have o5_0:=o5
 have b5_0:=z5_0.lt
 have l5_0:=l5
 obtain⟨e5_0,rfl⟩:=z5_0.one rfl
 simp(disch:=omega) only[ae,c7,hsz0,hall0,hsz1,hall1,hd0,ht0,hd1,ht1,hs1_0,hd3,ht3,hs3_0,hd4,ht4,ax,au,dZ,beq_self_eq_true,bne_self_eq_false,List.getElem?_cons_zero,List.getElem?_cons_succ,Bool.or_false,Bool.false_or,Bool.or_self,SX,SU,SL,reduceCtorEq,Nat.reduceAdd,Nat.reduceLeDiff,reduceIte]
 refine cO.go dy z5_0 (Rp.bx hg5 (Rp.bx hg4 (Rp.bx hg3 z2_0))) (fun _=> ?_) (fun hne=>absurd rfl hne)
 simp(disch:=omega) only[ae,c7,hsz0,hall0,hsz1,hall1,hd0,ht0,hd1,ht1,hs1_0,hd3,ht3,hs3_0,hd4,ht4,ax,au,dZ,beq_self_eq_true,bne_self_eq_false,List.getElem?_cons_zero,List.getElem?_cons_succ,Bool.or_false,Bool.false_or,Bool.or_self,SX,SU,SL,reduceCtorEq,Nat.reduceAdd,Nat.reduceLeDiff,reduceIte]
 refine aH (Bt (Rp.bx hg5 (Rp.bx hg4 (Rp.bx hg3 (Rp.bx hg2 (Rp.bx hg1 (Rp.bx hg0 hv1)))))) (by omega)) ?_
 rintro r6 g6 ⟨t6,d6,U6,hg6,rfl,z6,o6,l6⟩
 have n6:=ec hg6
 have b6:=z6.lt
 have hd6:d6.length=45:=z6.size
 have ht6:d6.take 45=d6:=List.take_of_length_le (by omega)
 have hs6_0:aL [.int .i64 0, .int .i64 0, .int .i64 0, .nils, .int .i64 0, .nils, .int .i64 0, .int .i64 0, .nils, .nils, .nils, .int .i64 0, .int .i64 0, .int .i64 0, .nils, .nils, .int .i64 0, .int .i64 0, .nils, .nils, .nils, .int .i64 0, .int .i64 0, .int .i64 0, .nils, .nils, .int .i64 0, .int .i64 0, .nils, .nils, .nils, .nils, .int .i64 0, .nils, .nils, .int .i64 0, .int .i64 0, .nils, .nils, .nils, .int .i64 0, .int .i64 0, .int .i64 0, .nils, .nils] 0 d6=d6:=rC (by rw[hd6];rfl)
 simp(disch:=omega) only[ae,c7,hsz0,hall0,hsz1,hall1,hd0,ht0,hd1,ht1,hs1_0,hd3,ht3,hs3_0,hd4,ht4,hd6,ht6,hs6_0,ax,au,dZ,beq_self_eq_true,bne_self_eq_false,List.getElem?_cons_zero,List.getElem?_cons_succ,Bool.or_false,Bool.false_or,Bool.or_self,SX,SU,SL,reduceCtorEq,Nat.reduceAdd,Nat.reduceLeDiff,reduceIte]
 refine cO.go KY (Rp.bx hg6 (Rp.bx hg5 (Rp.bx hg4 z3))) z6 (fun _=> ?_) (fun hne=>absurd rfl hne)
 simp(disch:=omega) only[ae,c7,hsz0,hall0,hsz1,hall1,hd0,ht0,hd1,ht1,hs1_0,hd3,ht3,hs3_0,hd4,ht4,hd6,ht6,hs6_0,ax,au,dZ,beq_self_eq_true,bne_self_eq_false,List.getElem?_cons_zero,List.getElem?_cons_succ,Bool.or_false,Bool.false_or,Bool.or_self,SX,SU,SL,reduceCtorEq,Nat.reduceAdd,Nat.reduceLeDiff,reduceIte]
 refine cI.go KJ (Rp.bx hg6 (Rp.bx hg5 (Rp.bx hg4 z3))) (cY.bx hg6 (cY.bx hg5 (cY.bx hg4 o3))) (k:=1) (by omega) (fun gw1 w1 zw1=> ?_)
 have nw1:=w1.1
 have hneg:decide (((1+bc TMsg m.tv:Nat):Int) < 0)=false:=by simp;omega
 simp(disch:=omega) only[ae,c7,hsz0,hall0,hsz1,hall1,hd0,ht0,hd1,ht1,hs1_0,hd3,ht3,hs3_0,hd4,ht4,hd6,ht6,hs6_0,hneg,ax,au,dZ,beq_self_eq_true,bne_self_eq_false,List.getElem?_cons_zero,List.getElem?_cons_succ,Bool.or_false,Bool.false_or,Bool.or_self,SX,SU,SL,reduceCtorEq,Nat.reduceAdd,Nat.reduceLeDiff,reduceIte]
 refine cO.go dy ((Rp.bx hg6 z5_0).wrote w1 (fun i hi hn=>by have:=b5_0 i hi;have:=l5_0 i hi;have:=b3 i hn;have:=l3 i hn;omega)) ((Rp.bx hg6 (Rp.bx hg5 (Rp.bx hg4 (Rp.bx hg3 z2_0)))).wrote w1 (fun i hi hn=>by have:=b2_0 i hi;have:=l2_0 i hi;have:=b3 i hn;have:=l3 i hn;omega)) (fun _=> ?_) (fun hne=>absurd rfl hne)
 simp(disch:=omega) only[ae,c7,hsz0,hall0,hsz1,hall1,hd0,ht0,hd1,ht1,hs1_0,hd3,ht3,hs3_0,hd4,ht4,hd6,ht6,hs6_0,hneg,ax,au,dZ,beq_self_eq_true,bne_self_eq_false,List.getElem?_cons_zero,List.getElem?_cons_succ,Bool.or_false,Bool.false_or,Bool.or_self,SX,SU,SL,reduceCtorEq,Nat.reduceAdd,Nat.reduceLeDiff,reduceIte]
 refine cI.go cS ((Rp.bx hg6 z5_0).wrote w1 (fun i hi hn=>by have:=b5_0 i hi;have:=l5_0 i hi;have:=b3 i hn;have:=l3 i hn;omega)) (w1.cP (cY.bx hg6 o5_0)) (k:=1) (by omega) (fun gm0 wm0 zm0=> ?_)
 have nm0:=wm0.1
 simp(disch:=omega) only[ae,c7,hsz0,hall0,hsz1,hall1,hd0,ht0,hd1,ht1,hs1_0,hd3,ht3,hs3_0,hd4,ht4,hd6,ht6,hs6_0,hneg,ax,au,dZ,beq_self_eq_true,bne_self_eq_false,List.getElem?_cons_zero,List.getElem?_cons_succ,Bool.or_false,Bool.false_or,Bool.or_self,SX,SU,SL,reduceCtorEq,Nat.reduceAdd,Nat.reduceLeDiff,reduceIte]
 refine FW.go Df ⟨_,_,_,z5_0⟩ zm0 (k:=1) (by omega) ?_
 simp(disch:=omega) only[ae,c7,hsz0,hall0,hsz1,hall1,hd0,ht0,hd1,ht1,hs1_0,hd3,ht3,hs3_0,hd4,ht4,hd6,ht6,hs6_0,hneg,ax,au,dZ,beq_self_eq_true,bne_self_eq_false,List.getElem?_cons_zero,List.getElem?_cons_succ,Bool.or_false,Bool.false_or,Bool.or_self,SX,SU,SL,reduceCtorEq,Nat.reduceAdd,Nat.reduceLeDiff,reduceIte]
 refine aq (fun hn=>absurd hn (by omega)) (fun hn=> ?_)
 simp(disch:=omega) only[ae,c7,hsz0,hall0,hsz1,hall1,hd0,ht0,hd1,ht1,hs1_0,hd3,ht3,hs3_0,hd4,ht4,hd6,ht6,hs6_0,hneg,ax,au,dZ,beq_self_eq_true,bne_self_eq_false,List.getElem?_cons_zero,List.getElem?_cons_succ,Bool.or_false,Bool.false_or,Bool.or_self,SX,SU,SL,reduceCtorEq,Nat.reduceAdd,Nat.reduceLeDiff,reduceIte]
 refine aH (tC (((Rp.bx hg6 (Rp.bx hg5 (Rp.bx hg4 (Rp.bx hg3 (Rp.bx hg2 (Rp.bx hg1 (Rp.bx hg0 hv0))))))).wrote w1 (fun i hi hn=>by have:=hv0.lt i hi;have:=b3 i hn;have:=l3 i hn;omega)).wrote wm0 (fun i hi hn=>by have:=hv0.lt i hi;have:=b5_0 i hn;have:=l5_0 i hn;omega)) (by omega)) ?_
 rintro r7 g7 ⟨t7,d7,U7,hg7,rfl,z7,o7,l7⟩
 have n7:=ec hg7
 have b7:=z7.lt
 have hd7:d7.length=5:=z7.size
 have ht7:d7.take 5=d7:=List.take_of_length_le (by omega)
 simp(disch:=omega) only[ae,c7,hsz0,hall0,hsz1,hall1,hd0,ht0,hd1,ht1,hs1_0,hd3,ht3,hs3_0,hd4,ht4,hd6,ht6,hs6_0,hneg,hd7,ht7,ax,au,dZ,beq_self_eq_true,bne_self_eq_false,List.getElem?_cons_zero,List.getElem?_cons_succ,Bool.or_false,Bool.false_or,Bool.or_self,SX,SU,SL,reduceCtorEq,Nat.reduceAdd,Nat.reduceLeDiff,reduceIte]
 refine aH (Bt (Rp.bx hg7 (((Rp.bx hg6 (Rp.bx hg5 (Rp.bx hg4 (Rp.bx hg3 (Rp.bx hg2 (Rp.bx hg1 (Rp.bx hg0 hv1))))))).wrote w1 (fun i hi hn=>by have:=hv1.lt i hi;have:=b3 i hn;have:=l3 i hn;omega)).wrote wm0 (fun i hi hn=>by have:=hv1.lt i hi;have:=b5_0 i hn;have:=l5_0 i hn;omega))) (by omega)) ?_
 rintro r8 g8 ⟨t8,d8,U8,hg8,rfl,z8,o8,l8⟩
 have n8:=ec hg8
 have b8:=z8.lt
 have hd8:d8.length=45:=z8.size
 have ht8:d8.take 45=d8:=List.take_of_length_le (by omega)
 have hs8_0:aL [.int .i64 0, .int .i64 0, .int .i64 0, .nils, .int .i64 0, .nils, .int .i64 0, .int .i64 0, .nils, .nils, .nils, .int .i64 0, .int .i64 0, .int .i64 0, .nils, .nils, .int .i64 0, .int .i64 0, .nils, .nils, .nils, .int .i64 0, .int .i64 0, .int .i64 0, .nils, .nils, .int .i64 0, .int .i64 0, .nils, .nils, .nils, .nils, .int .i64 0, .nils, .nils, .int .i64 0, .int .i64 0, .nils, .nils, .nils, .int .i64 0, .int .i64 0, .int .i64 0, .nils, .nils] 0 d8=d8:=rC (by rw[hd8];rfl)
 simp(disch:=omega) only[ae,c7,hsz0,hall0,hsz1,hall1,hd0,ht0,hd1,ht1,hs1_0,hd3,ht3,hs3_0,hd4,ht4,hd6,ht6,hs6_0,hneg,hd7,ht7,hd8,ht8,hs8_0,ax,au,dZ,beq_self_eq_true,bne_self_eq_false,List.getElem?_cons_zero,List.getElem?_cons_succ,Bool.or_false,Bool.false_or,Bool.or_self,SX,SU,SL,reduceCtorEq,Nat.reduceAdd,Nat.reduceLeDiff,reduceIte]
 refine aH (F.mO ⟨_,_,rfl,⟨_,(Rp.bx hg8 z7)⟩,⟨_,_,rfl,⟨_,z8⟩,rfl⟩⟩ (by omega)) ?_
 rintro r9 g9 ⟨t9,css9,U9,hg9,rfl,zz9,o9,l9⟩
 have n9:=ec hg9
 obtain⟨d9_0,cr9_0,U9_0,V9_0,rfl,rfl,z9_0,zz9_0⟩:=zz9
 obtain⟨d9_1,cr9_1,U9_1,V9_1,rfl,rfl,z9_1,zz9_1⟩:=zz9_0
 obtain⟨q9_1,rfl,hq9_1,rfl⟩:=z9_1.bool
 injection hq9_1 with hq9_1;subst hq9_1
 obtain⟨rfl,rfl⟩:=zz9_1
 simp only[List.nil_append,List.append_nil]at o9 l9
 have o9_0:=o9
 have b9_0:=z9_0.lt
 have l9_0:=l9
 obtain⟨e9_0,rfl⟩:=z9_0.one rfl
 simp(disch:=omega) only[ae,c7,hsz0,hall0,hsz1,hall1,hd0,ht0,hd1,ht1,hs1_0,hd3,ht3,hs3_0,hd4,ht4,hd6,ht6,hs6_0,hneg,hd7,ht7,hd8,ht8,hs8_0,ax,au,dZ,beq_self_eq_true,bne_self_eq_false,List.getElem?_cons_zero,List.getElem?_cons_succ,Bool.or_false,Bool.false_or,Bool.or_self,SX,SU,SL,reduceCtorEq,Nat.reduceAdd,Nat.reduceLeDiff,reduceIte]
 refine cO.go dy z9_0 (Rp.bx hg9 (Rp.bx hg8 (Rp.bx hg7 (((Rp.bx hg6 (Rp.bx hg5 (Rp.bx hg4 (Rp.bx hg3 z2_0)))).wrote w1 (fun i hi hn=>by have:=b2_0 i hi;have:=l2_0 i hi;have:=b3 i hn;have:=l3 i hn;omega)).wrote wm0 (fun i hi hn=>by have:=b2_0 i hi;have:=l2_0 i hi;have:=b5_0 i hn;have:=l5_0 i hn;omega))))) (fun _=> ?_) (fun hne=>absurd rfl hne)
 simp(disch:=omega) only[ae,c7,hsz0,hall0,hsz1,hall1,hd0,ht0,hd1,ht1,hs1_0,hd3,ht3,hs3_0,hd4,ht4,hd6,ht6,hs6_0,hneg,hd7,ht7,hd8,ht8,hs8_0,ax,au,dZ,beq_self_eq_true,bne_self_eq_false,List.getElem?_cons_zero,List.getElem?_cons_succ,Bool.or_false,Bool.false_or,Bool.or_self,SX,SU,SL,reduceCtorEq,Nat.reduceAdd,Nat.reduceLeDiff,reduceIte]
 refine FW.go Df ⟨_,_,_,z5_0⟩ (Rp.bx hg9 (Rp.bx hg8 (Rp.bx hg7 zm0))) (k:=1) (by omega) ?_
 simp(disch:=omega) only[ae,c7,hsz0,hall0,hsz1,hall1,hd0,ht0,hd1,ht1,hs1_0,hd3,ht3,hs3_0,hd4,ht4,hd6,ht6,hs6_0,hneg,hd7,ht7,hd8,ht8,hs8_0,ax,au,dZ,beq_self_eq_true,bne_self_eq_false,List.getElem?_cons_zero,List.getElem?_cons_succ,Bool.or_false,Bool.false_or,Bool.or_self,SX,SU,SL,reduceCtorEq,Nat.reduceAdd,Nat.reduceLeDiff,reduceIte]
 refine aq (fun hn=>absurd hn (by omega)) (fun hn=> ?_)
 simp(disch:=omega) only[ae,c7,hsz0,hall0,hsz1,hall1,hd0,ht0,hd1,ht1,hs1_0,hd3,ht3,hs3_0,hd4,ht4,hd6,ht6,hs6_0,hneg,hd7,ht7,hd8,ht8,hs8_0,ax,au,dZ,beq_self_eq_true,bne_self_eq_false,List.getElem?_cons_zero,List.getElem?_cons_succ,Bool.or_false,Bool.false_or,Bool.or_self,SX,SU,SL,reduceCtorEq,Nat.reduceAdd,Nat.reduceLeDiff,reduceIte]
end Go.Eng.U
