import Derived.Test.YtlhapfligolmcaaGreatGb
import Derived.Test.YtlhapfligolmcaaGreatGe
import Derived.Test.YtlhapfligolmcaaGreatGf
import Derived.Test.YtlhapfligolmcaaGreatGi
set_option maxRecDepth 100000
set_option linter.unusedSimpArgs false
set_option linter.unusedVariables false
namespace Go.Eng.U
theorem B3 {l:List C} (h:l.length=5):∃x0 x1 x2 x3 x4,l= [x0,x1,x2,x3,x4]:=by
 rcases l with _|⟨x0,l⟩
 ·simp at h
 rcases l with _|⟨x1,l⟩
 ·simp at h
 rcases l with _|⟨x2,l⟩
 ·simp at h
 rcases l with _|⟨x3,l⟩
 ·simp at h
 rcases l with _|⟨x4,l⟩
 ·simp at h
 ·simp at h;exact⟨x0,x1,x2,x3,x4,by simp[h]⟩
def Ma:AF:=⟨1,5,[.cell 2 5 true],(.seq (.ops [.i (.lbox 1 (.s 0)), .i (.lal 2 [.int .i64 0, .int .i64 0, .int .i64 0, .int .i64 0, .int .i64 0])]) (.seq (.ops [.i (.lal 3 [.int .i64 0, .int .i64 0, .int .i64 0, .int .i64 0, .int .i64 0])]) (.seq (.ops [qf 4 1 0,ql 5 1 4 1 false,qf 6 3 0,qs 3 6 5 1]) (.seq (.ops [qf 7 1 1,ql 8 1 7 1 false,qf 9 3 1,qs 3 9 8 1]) (.seq (.ops [qf 10 1 2,ql 11 1 10 1 false,qf 12 3 2,qs 3 12 11 1]) (.seq (.ops [qf 13 1 3,ql 14 1 13 1 false,qf 15 3 3,qs 3 15 14 1]) (.seq (.ops [qf 16 1 4,ql 17 1 16 1 false,qf 18 3 4,qs 3 18 17 1]) (.seq (.ops [ql 19 3 3 5 true,qs 2 2 19 5]) .ret))))))))⟩
theorem MK:cd 31=some Ma:=by kernel_rfl
theorem yF:lB cd 31 TLimits:=by
 intro h cs v S hv hw
 obtain⟨vs,rfl,q0⟩:=hv.st
 obtain⟨v0,r0,S0,T0,rfl,rfl,h0,q1⟩:=q0.step
 obtain⟨n0,e0,rfl,rfl,lo0,hi0⟩:=h0.int
 obtain⟨v1,r1,S1,T1,rfl,rfl,h1,q2⟩:=q1.step
 obtain⟨n1,e1,rfl,rfl,lo1,hi1⟩:=h1.int
 obtain⟨v2,r2,S2,T2,rfl,rfl,h2,q3⟩:=q2.step
 obtain⟨n2,e2,rfl,rfl,lo2,hi2⟩:=h2.int
 obtain⟨v3,r3,S3,T3,rfl,rfl,h3,q4⟩:=q3.step
 obtain⟨n3,e3,rfl,rfl,lo3,hi3⟩:=h3.int
 obtain⟨v4,r4,S4,T4,rfl,rfl,h4,q5⟩:=q4.step
 obtain⟨n4,e4,rfl,rfl,lo4,hi4⟩:=h4.int
 obtain⟨_,rfl,rfl⟩:=q5
 have hsz:cs.length=5:=hv.size
 simp only[Ty.size,Ty.bj,Nat.reduceAdd,Nat.zero_add,List.drop_zero]at e0 e1 e2 e3 e4 hsz
 simp only[wt,cQ]at hw
 refine aC MK rfl ?_
 simp(disch:=omega) only[ae,Ma,e0,e1,e2,e3,e4,hsz,aA,av,SX,SU,SL,reduceCtorEq,Nat.reduceAdd,Nat.reduceLeDiff,reduceIte]
 exact⟨[],_,_,by simp,rfl,⟨_,rfl,(Rs.mk (Rp.mkInt lo0 hi0) (Rs.mk (Rp.mkInt lo1 hi1) (Rs.mk (Rp.mkInt lo2 hi2) (Rs.mk (Rp.mkInt lo3 hi3) (Rs.mk (Rp.mkInt lo4 hi4) Rs.nil)))))⟩,by simp[e6],by simp⟩
def Ll:AF:=⟨2,4,[.tmp 4],(.seq (.ops [.i (.mov 4 (qi 0))]) (.seq (.ops [qm 5 1,qm 6 0,qn 7 6,qd 8 .sub 5 7,qm 1 8]) (.seq (.seq (.ops [qm 9 1, .i (.bin 10 .lss (.s 9) (qi 0))]) (.cond (.s 10) (.seq (.ops [.i (.mov 4 (qi (-1)))]) .ret) .skip)) (.seq (.ops [qm 11 1,qm 4 11]) .ret))))⟩
theorem Lo:cd 149=some Ll:=by kernel_rfl
theorem ec:cI cd 149 (.sl (.int .u8)):=Ic Lo
def GN:AF:=⟨2,5,[.tmp 4],(.seq (.ops [.i (.lbox 2 (.s 0)), .i (.mov 4 (qi 0))]) (.seq (.ops [qf 5 2 2,ql 6 2 5 1 false,qm 7 1, .i (.call 9 149 false [(.s 6),(.s 7)]),qm 1 8]) (.seq (.seq (.ops [qm 9 1, .i (.bin 10 .lss (.s 9) (qi 0))]) (.cond (.s 10) (.seq (.ops [.i (.mov 4 (qi (-1)))]) .ret) .skip)) (.seq (.ops [qf 11 2 4,ql 12 2 11 1 false,qm 13 1, .i (.call 15 149 false [(.s 12),(.s 13)]),qm 1 14]) (.seq (.seq (.ops [qm 15 1, .i (.bin 16 .lss (.s 15) (qi 0))]) (.cond (.s 16) (.seq (.ops [.i (.mov 4 (qi (-1)))]) .ret) .skip)) (.seq (.ops [qm 17 1,qm 4 17]) .ret))))))⟩
theorem Mv:cd 79=some GN:=by kernel_rfl
theorem HB:cI cd 79 tn:=by
 intro h cs v S k hv hk
 obtain⟨vs,rfl,q0⟩:=hv.st
 obtain⟨v0,r0,S0,T0,rfl,rfl,h0,q1⟩:=q0.step
 obtain⟨n0,e0,rfl,rfl,lo0,hi0⟩:=h0.int
 obtain⟨v1,r1,S1,T1,rfl,rfl,h1,q2⟩:=q1.step
 obtain⟨n1,e1,rfl,rfl,lo1,hi1⟩:=h1.int
 obtain⟨v2,r2,S2,T2,rfl,rfl,h2,q3⟩:=q2.step
 obtain⟨c2,e2⟩:=h2.one rfl
 rw[e2]at h2
 obtain⟨v3,r3,S3,T3,rfl,rfl,h3,q4⟩:=q3.step
 obtain⟨n3,e3,rfl,rfl,lo3,hi3⟩:=h3.int
 obtain⟨v4,r4,S4,T4,rfl,rfl,h4,q5⟩:=q4.step
 obtain⟨c4,e4⟩:=h4.one rfl
 rw[e4]at h4
 obtain⟨_,rfl,rfl⟩:=q5
 have hsz:cs.length=5:=hv.size
 simp only[Ty.size,Ty.bj,Nat.reduceAdd,Nat.zero_add,List.drop_zero]at e0 e1 e2 e3 e4 hsz
 have hw:wt (.r [.i n0, .i n1,v2, .i n3,v4])=wt v2+wt v4:=by simp only[wt,cQ];omega
 rw[hw]
 refine aC Mv rfl ?_
 simp(disch:=omega) only[GN,e0,e1,e2,e3,e4,hsz,aA,av,SX,SU,SL,reduceCtorEq,Nat.reduceAdd,Nat.reduceLeDiff,reduceIte]
 refine cI.go ec h2 (k:=k) (by omega) (fun hf0=> ?_) (fun hf0=> ?_)
 case refine_2=>
  simp(disch:=omega) only[ae,GN,e0,e1,e2,e3,e4,hsz,aA,av,SX,SU,SL,reduceCtorEq,Nat.reduceAdd,Nat.reduceLeDiff,reduceIte]
  refine aq (fun hn=> ?_) (fun hn=>absurd (show(-1:Int) < 0 by omega) hn)
  simp(disch:=omega) only[GN,e0,e1,e2,e3,e4,hsz,aA,av,SX,SU,SL,reduceCtorEq,Nat.reduceAdd,Nat.reduceLeDiff,reduceIte]
  rw[if_neg (by omega)]
 simp(disch:=omega) only[ae,GN,e0,e1,e2,e3,e4,hsz,aA,av,SX,SU,SL,reduceCtorEq,Nat.reduceAdd,Nat.reduceLeDiff,reduceIte]
 refine aq (fun hn=>absurd hn (by omega)) (fun hn=> ?_)
 simp(disch:=omega) only[GN,e0,e1,e2,e3,e4,hsz,aA,av,SX,SU,SL,reduceCtorEq,Nat.reduceAdd,Nat.reduceLeDiff,reduceIte]
 refine cI.go ec h4 (k:=k - wt v2) (by omega) (fun hf1=> ?_) (fun hf1=> ?_)
 case refine_2=>
  simp(disch:=omega) only[ae,GN,e0,e1,e2,e3,e4,hsz,aA,av,SX,SU,SL,reduceCtorEq,Nat.reduceAdd,Nat.reduceLeDiff,reduceIte]
  refine aq (fun hn=> ?_) (fun hn=>absurd (show(-1:Int) < 0 by omega) hn)
  simp(disch:=omega) only[GN,e0,e1,e2,e3,e4,hsz,aA,av,SX,SU,SL,reduceCtorEq,Nat.reduceAdd,Nat.reduceLeDiff,reduceIte]
  rw[if_neg (by omega)]
 simp(disch:=omega) only[ae,GN,e0,e1,e2,e3,e4,hsz,aA,av,SX,SU,SL,reduceCtorEq,Nat.reduceAdd,Nat.reduceLeDiff,reduceIte]
 refine aq (fun hn=>absurd hn (by omega)) (fun hn=> ?_)
 simp(disch:=omega) only[GN,e0,e1,e2,e3,e4,hsz,aA,av,SX,SU,SL,reduceCtorEq,Nat.reduceAdd,Nat.reduceLeDiff,reduceIte]
 congr 3
 omega
def LL:AF:=⟨2,5,[.tmp 4],(.seq (.ops [.i (.mov 4 (qi 0))]) (.seq (.ops [qm 6 1,qm 7 0,qn 8 7,qd 9 .sub 6 8,qm 1 9]) (.seq (.seq (.ops [qm 10 1, .i (.bin 11 .lss (.s 10) (qi 0))]) (.cond (.s 11) (.seq (.ops [.i (.mov 4 (qi (-1)))]) .ret) .skip)) (.seq (.seq (.ops [.i (.mov 5 (qi 0))]) (.block 0 (.loop [25,24,23,22,21,20,19,18,17,16,15,14,13,12] (.seq (.seq (.ops [qm 12 5,qm 13 0,qn 14 13,qd 15 .lss 12 14]) (.cond (.s 15) .skip (.exit 0))) (.seq (.block 1 (.seq (.ops [qm 18 0,qm 19 5, .i (.iad 20 (.s 18) (.s 19) 1), .i (.ldh 21 (.s 20) 1 false),qm 22 1, .i (.call 24 149 false [(.s 21),(.s 22)]),qm 1 23]) (.seq (.ops [qm 24 1, .i (.bin 25 .lss (.s 24) (qi 0))]) (.cond (.s 25) (.seq (.ops [.i (.mov 4 (qi (-1)))]) .ret) .skip)))) (.ops [qm 16 5, .i (.bin 17 .add (.s 16) (qi 1)),qm 5 17])))))) (.seq (.ops [qm 26 1,qm 4 26]) .ret)))))⟩
theorem Lx:cd 150=some LL:=by kernel_rfl
theorem rP:cI cd 150 (.sl (.sl (.int .u8))):=F5 Lx ec
def Dc:AF:=⟨2,5,[.tmp 4],(.seq (.ops [.i (.lbox 2 (.s 0)), .i (.mov 4 (qi 0))]) (.seq (.ops [qf 5 2 2,ql 6 2 5 1 false,qm 7 1, .i (.call 9 149 false [(.s 6),(.s 7)]),qm 1 8]) (.seq (.seq (.ops [qm 9 1, .i (.bin 10 .lss (.s 9) (qi 0))]) (.cond (.s 10) (.seq (.ops [.i (.mov 4 (qi (-1)))]) .ret) .skip)) (.seq (.ops [qf 11 2 3,ql 12 2 11 1 false,qm 13 1, .i (.call 15 149 false [(.s 12),(.s 13)]),qm 1 14]) (.seq (.seq (.ops [qm 15 1, .i (.bin 16 .lss (.s 15) (qi 0))]) (.cond (.s 16) (.seq (.ops [.i (.mov 4 (qi (-1)))]) .ret) .skip)) (.seq (.ops [qf 17 2 4,ql 18 2 17 1 false,qm 19 1, .i (.call 21 150 false [(.s 18),(.s 19)]),qm 1 20]) (.seq (.seq (.ops [qm 21 1, .i (.bin 22 .lss (.s 21) (qi 0))]) (.cond (.s 22) (.seq (.ops [.i (.mov 4 (qi (-1)))]) .ret) .skip)) (.seq (.ops [qm 23 1,qm 4 23]) .ret))))))))⟩
theorem MM:cd 80=some Dc:=by kernel_rfl
theorem FB:cI cd 80 yJ:=by
 intro h cs v S k hv hk
 obtain⟨vs,rfl,q0⟩:=hv.st
 obtain⟨v0,r0,S0,T0,rfl,rfl,h0,q1⟩:=q0.step
 obtain⟨n0,e0,rfl,rfl,lo0,hi0⟩:=h0.int
 obtain⟨v1,r1,S1,T1,rfl,rfl,h1,q2⟩:=q1.step
 obtain⟨n1,e1,rfl,rfl,lo1,hi1⟩:=h1.int
 obtain⟨v2,r2,S2,T2,rfl,rfl,h2,q3⟩:=q2.step
 obtain⟨c2,e2⟩:=h2.one rfl
 rw[e2]at h2
 obtain⟨v3,r3,S3,T3,rfl,rfl,h3,q4⟩:=q3.step
 obtain⟨c3,e3⟩:=h3.one rfl
 rw[e3]at h3
 obtain⟨v4,r4,S4,T4,rfl,rfl,h4,q5⟩:=q4.step
 obtain⟨c4,e4⟩:=h4.one rfl
 rw[e4]at h4
 obtain⟨_,rfl,rfl⟩:=q5
 have hsz:cs.length=5:=hv.size
 simp only[Ty.size,Ty.bj,Nat.reduceAdd,Nat.zero_add,List.drop_zero]at e0 e1 e2 e3 e4 hsz
 have hw:wt (.r [.i n0, .i n1,v2,v3,v4])=wt v2+wt v3+wt v4:=by simp only[wt,cQ];omega
 rw[hw]
 refine aC MM rfl ?_
 simp(disch:=omega) only[Dc,e0,e1,e2,e3,e4,hsz,aA,av,SX,SU,SL,reduceCtorEq,Nat.reduceAdd,Nat.reduceLeDiff,reduceIte]
 refine cI.go ec h2 (k:=k) (by omega) (fun hf0=> ?_) (fun hf0=> ?_)
 case refine_2=>
  simp(disch:=omega) only[ae,Dc,e0,e1,e2,e3,e4,hsz,aA,av,SX,SU,SL,reduceCtorEq,Nat.reduceAdd,Nat.reduceLeDiff,reduceIte]
  refine aq (fun hn=> ?_) (fun hn=>absurd (show(-1:Int) < 0 by omega) hn)
  simp(disch:=omega) only[Dc,e0,e1,e2,e3,e4,hsz,aA,av,SX,SU,SL,reduceCtorEq,Nat.reduceAdd,Nat.reduceLeDiff,reduceIte]
  rw[if_neg (by omega)]
 simp(disch:=omega) only[ae,Dc,e0,e1,e2,e3,e4,hsz,aA,av,SX,SU,SL,reduceCtorEq,Nat.reduceAdd,Nat.reduceLeDiff,reduceIte]
 refine aq (fun hn=>absurd hn (by omega)) (fun hn=> ?_)
 simp(disch:=omega) only[Dc,e0,e1,e2,e3,e4,hsz,aA,av,SX,SU,SL,reduceCtorEq,Nat.reduceAdd,Nat.reduceLeDiff,reduceIte]
 refine cI.go ec h3 (k:=k - wt v2) (by omega) (fun hf1=> ?_) (fun hf1=> ?_)
 case refine_2=>
  simp(disch:=omega) only[ae,Dc,e0,e1,e2,e3,e4,hsz,aA,av,SX,SU,SL,reduceCtorEq,Nat.reduceAdd,Nat.reduceLeDiff,reduceIte]
  refine aq (fun hn=> ?_) (fun hn=>absurd (show(-1:Int) < 0 by omega) hn)
  simp(disch:=omega) only[Dc,e0,e1,e2,e3,e4,hsz,aA,av,SX,SU,SL,reduceCtorEq,Nat.reduceAdd,Nat.reduceLeDiff,reduceIte]
  rw[if_neg (by omega)]
 simp(disch:=omega) only[ae,Dc,e0,e1,e2,e3,e4,hsz,aA,av,SX,SU,SL,reduceCtorEq,Nat.reduceAdd,Nat.reduceLeDiff,reduceIte]
 refine aq (fun hn=>absurd hn (by omega)) (fun hn=> ?_)
 simp(disch:=omega) only[Dc,e0,e1,e2,e3,e4,hsz,aA,av,SX,SU,SL,reduceCtorEq,Nat.reduceAdd,Nat.reduceLeDiff,reduceIte]
 refine cI.go rP h4 (k:=k - wt v2 - wt v3) (by omega) (fun hf2=> ?_) (fun hf2=> ?_)
 case refine_2=>
  simp(disch:=omega) only[ae,Dc,e0,e1,e2,e3,e4,hsz,aA,av,SX,SU,SL,reduceCtorEq,Nat.reduceAdd,Nat.reduceLeDiff,reduceIte]
  refine aq (fun hn=> ?_) (fun hn=>absurd (show(-1:Int) < 0 by omega) hn)
  simp(disch:=omega) only[Dc,e0,e1,e2,e3,e4,hsz,aA,av,SX,SU,SL,reduceCtorEq,Nat.reduceAdd,Nat.reduceLeDiff,reduceIte]
  rw[if_neg (by omega)]
 simp(disch:=omega) only[ae,Dc,e0,e1,e2,e3,e4,hsz,aA,av,SX,SU,SL,reduceCtorEq,Nat.reduceAdd,Nat.reduceLeDiff,reduceIte]
 refine aq (fun hn=>absurd hn (by omega)) (fun hn=> ?_)
 simp(disch:=omega) only[Dc,e0,e1,e2,e3,e4,hsz,aA,av,SX,SU,SL,reduceCtorEq,Nat.reduceAdd,Nat.reduceLeDiff,reduceIte]
 congr 3
 omega
theorem E1 {l:List C} (h:l.length=10):∃x0 x1 x2 x3 x4 x5 x6 x7 x8 x9,l= [x0,x1,x2,x3,x4,x5,x6,x7,x8,x9]:=by
 rcases l with _|⟨x0,l⟩
 ·simp at h
 rcases l with _|⟨x1,l⟩
 ·simp at h
 rcases l with _|⟨x2,l⟩
 ·simp at h
 rcases l with _|⟨x3,l⟩
 ·simp at h
 rcases l with _|⟨x4,l⟩
 ·simp at h
 rcases l with _|⟨x5,l⟩
 ·simp at h
 rcases l with _|⟨x6,l⟩
 ·simp at h
 rcases l with _|⟨x7,l⟩
 ·simp at h
 rcases l with _|⟨x8,l⟩
 ·simp at h
 rcases l with _|⟨x9,l⟩
 ·simp at h
 ·simp at h;exact⟨x0,x1,x2,x3,x4,x5,x6,x7,x8,x9,by simp[h]⟩
def DU:AF:=⟨2,5,[.tmp 4],(.seq (.ops [.i (.lbox 2 (.s 0)), .i (.mov 4 (qi 0))]) (.seq (.ops [qf 5 2 3,ql 6 2 5 1 false,qm 7 1, .i (.call 9 149 false [(.s 6),(.s 7)]),qm 1 8]) (.seq (.seq (.ops [qm 9 1, .i (.bin 10 .lss (.s 9) (qi 0))]) (.cond (.s 10) (.seq (.ops [.i (.mov 4 (qi (-1)))]) .ret) .skip)) (.seq (.ops [qf 11 2 4,ql 12 2 11 1 false,qm 13 1, .i (.call 15 149 false [(.s 12),(.s 13)]),qm 1 14]) (.seq (.seq (.ops [qm 15 1, .i (.bin 16 .lss (.s 15) (qi 0))]) (.cond (.s 16) (.seq (.ops [.i (.mov 4 (qi (-1)))]) .ret) .skip)) (.seq (.ops [qf 17 2 5,ql 18 2 17 5 true,qm 19 1, .i (.call 21 80 false [(.s 18),(.s 19)]),qm 1 20]) (.seq (.seq (.ops [qm 21 1, .i (.bin 22 .lss (.s 21) (qi 0))]) (.cond (.s 22) (.seq (.ops [.i (.mov 4 (qi (-1)))]) .ret) .skip)) (.seq (.ops [qm 23 1,qm 4 23]) .ret))))))))⟩
theorem My:cd 81=some DU:=by kernel_rfl
theorem Aw:cI cd 81 cp:=by
 intro h cs v S k hv hk
 obtain⟨vs,rfl,q0⟩:=hv.st
 obtain⟨v0,r0,S0,T0,rfl,rfl,h0,q1⟩:=q0.step
 obtain⟨n0,e0,rfl,rfl,lo0,hi0⟩:=h0.int
 obtain⟨v1,r1,S1,T1,rfl,rfl,h1,q2⟩:=q1.step
 obtain⟨n1,e1,rfl,rfl,lo1,hi1⟩:=h1.int
 obtain⟨v2,r2,S2,T2,rfl,rfl,h2,q3⟩:=q2.step
 obtain⟨n2,e2,rfl,rfl,lo2,hi2⟩:=h2.int
 obtain⟨v3,r3,S3,T3,rfl,rfl,h3,q4⟩:=q3.step
 obtain⟨c3,e3⟩:=h3.one rfl
 rw[e3]at h3
 obtain⟨v4,r4,S4,T4,rfl,rfl,h4,q5⟩:=q4.step
 obtain⟨c4,e4⟩:=h4.one rfl
 rw[e4]at h4
 obtain⟨v5,r5,S5,T5,rfl,rfl,h5,q6⟩:=q5.step
 obtain⟨_,rfl,rfl⟩:=q6
 have hsz:cs.length=10:=hv.size
 simp only[Ty.size,Ty.bj,Nat.reduceAdd,Nat.zero_add,List.drop_zero]at e0 e1 e2 e3 e4 hsz h5
 have hw:wt (.r [.i n0, .i n1, .i n2,v3,v4,v5])=wt v3+wt v4+wt v5:=by simp only[wt,cQ];omega
 rw[hw]
 refine aC My rfl ?_
 simp(disch:=omega) only[DU,e0,e1,e2,e3,e4,hsz,aA,av,SX,SU,SL,reduceCtorEq,Nat.reduceAdd,Nat.reduceLeDiff,reduceIte]
 refine cI.go ec h3 (k:=k) (by omega) (fun hf0=> ?_) (fun hf0=> ?_)
 case refine_2=>
  simp(disch:=omega) only[ae,DU,e0,e1,e2,e3,e4,hsz,aA,av,SX,SU,SL,reduceCtorEq,Nat.reduceAdd,Nat.reduceLeDiff,reduceIte]
  refine aq (fun hn=> ?_) (fun hn=>absurd (show(-1:Int) < 0 by omega) hn)
  simp(disch:=omega) only[DU,e0,e1,e2,e3,e4,hsz,aA,av,SX,SU,SL,reduceCtorEq,Nat.reduceAdd,Nat.reduceLeDiff,reduceIte]
  rw[if_neg (by omega)]
 simp(disch:=omega) only[ae,DU,e0,e1,e2,e3,e4,hsz,aA,av,SX,SU,SL,reduceCtorEq,Nat.reduceAdd,Nat.reduceLeDiff,reduceIte]
 refine aq (fun hn=>absurd hn (by omega)) (fun hn=> ?_)
 simp(disch:=omega) only[DU,e0,e1,e2,e3,e4,hsz,aA,av,SX,SU,SL,reduceCtorEq,Nat.reduceAdd,Nat.reduceLeDiff,reduceIte]
 refine cI.go ec h4 (k:=k - wt v3) (by omega) (fun hf1=> ?_) (fun hf1=> ?_)
 case refine_2=>
  simp(disch:=omega) only[ae,DU,e0,e1,e2,e3,e4,hsz,aA,av,SX,SU,SL,reduceCtorEq,Nat.reduceAdd,Nat.reduceLeDiff,reduceIte]
  refine aq (fun hn=> ?_) (fun hn=>absurd (show(-1:Int) < 0 by omega) hn)
  simp(disch:=omega) only[DU,e0,e1,e2,e3,e4,hsz,aA,av,SX,SU,SL,reduceCtorEq,Nat.reduceAdd,Nat.reduceLeDiff,reduceIte]
  rw[if_neg (by omega)]
 simp(disch:=omega) only[ae,DU,e0,e1,e2,e3,e4,hsz,aA,av,SX,SU,SL,reduceCtorEq,Nat.reduceAdd,Nat.reduceLeDiff,reduceIte]
 refine aq (fun hn=>absurd hn (by omega)) (fun hn=> ?_)
 simp(disch:=omega) only[DU,e0,e1,e2,e3,e4,hsz,aA,av,SX,SU,SL,reduceCtorEq,Nat.reduceAdd,Nat.reduceLeDiff,reduceIte]
 refine cI.go FB h5 (k:=k - wt v3 - wt v4) (by omega) (fun hf2=> ?_) (fun hf2=> ?_)
 case refine_2=>
  simp(disch:=omega) only[ae,DU,e0,e1,e2,e3,e4,hsz,aA,av,SX,SU,SL,reduceCtorEq,Nat.reduceAdd,Nat.reduceLeDiff,reduceIte]
  refine aq (fun hn=> ?_) (fun hn=>absurd (show(-1:Int) < 0 by omega) hn)
  simp(disch:=omega) only[DU,e0,e1,e2,e3,e4,hsz,aA,av,SX,SU,SL,reduceCtorEq,Nat.reduceAdd,Nat.reduceLeDiff,reduceIte]
  rw[if_neg (by omega)]
 simp(disch:=omega) only[ae,DU,e0,e1,e2,e3,e4,hsz,aA,av,SX,SU,SL,reduceCtorEq,Nat.reduceAdd,Nat.reduceLeDiff,reduceIte]
 refine aq (fun hn=>absurd hn (by omega)) (fun hn=> ?_)
 simp(disch:=omega) only[DU,e0,e1,e2,e3,e4,hsz,aA,av,SX,SU,SL,reduceCtorEq,Nat.reduceAdd,Nat.reduceLeDiff,reduceIte]
 congr 3
 omega
theorem JU {l:List C} (h:l.length=11):∃x0 x1 x2 x3 x4 x5 x6 x7 x8 x9 x10,l= [x0,x1,x2,x3,x4,x5,x6,x7,x8,x9,x10]:=by
 rcases l with _|⟨x0,l⟩
 ·simp at h
 rcases l with _|⟨x1,l⟩
 ·simp at h
 rcases l with _|⟨x2,l⟩
 ·simp at h
 rcases l with _|⟨x3,l⟩
 ·simp at h
 rcases l with _|⟨x4,l⟩
 ·simp at h
 rcases l with _|⟨x5,l⟩
 ·simp at h
 rcases l with _|⟨x6,l⟩
 ·simp at h
 rcases l with _|⟨x7,l⟩
 ·simp at h
 rcases l with _|⟨x8,l⟩
 ·simp at h
 rcases l with _|⟨x9,l⟩
 ·simp at h
 rcases l with _|⟨x10,l⟩
 ·simp at h
 ·simp at h;exact⟨x0,x1,x2,x3,x4,x5,x6,x7,x8,x9,x10,by simp[h]⟩
def GR:AF:=⟨2,5,[.tmp 4],(.seq (.ops [.i (.lbox 2 (.s 0)), .i (.mov 4 (qi 0))]) (.seq (.ops [qf 5 2 0,ql 6 2 5 10 true,qm 7 1, .i (.call 9 81 false [(.s 6),(.s 7)]),qm 1 8]) (.seq (.seq (.ops [qm 9 1, .i (.bin 10 .lss (.s 9) (qi 0))]) (.cond (.s 10) (.seq (.ops [.i (.mov 4 (qi (-1)))]) .ret) .skip)) (.seq (.ops [qf 11 2 10,ql 12 2 11 1 false,qm 13 1, .i (.call 15 150 false [(.s 12),(.s 13)]),qm 1 14]) (.seq (.seq (.ops [qm 15 1, .i (.bin 16 .lss (.s 15) (qi 0))]) (.cond (.s 16) (.seq (.ops [.i (.mov 4 (qi (-1)))]) .ret) .skip)) (.seq (.ops [qm 17 1,qm 4 17]) .ret))))))⟩
theorem Mh:cd 82=some GR:=by kernel_rfl
theorem Fm:cI cd 82 fM:=by
 intro h cs v S k hv hk
 obtain⟨vs,rfl,q0⟩:=hv.st
 obtain⟨v0,r0,S0,T0,rfl,rfl,h0,q1⟩:=q0.step
 obtain⟨v1,r1,S1,T1,rfl,rfl,h1,q2⟩:=q1.step
 obtain⟨c1,e1⟩:=h1.one rfl
 rw[e1]at h1
 obtain⟨_,rfl,rfl⟩:=q2
 have hsz:cs.length=11:=hv.size
 simp only[Ty.size,Ty.bj,Nat.reduceAdd,Nat.zero_add,List.drop_zero]at e1 hsz h0
 have hw:wt (.r [v0,v1])=wt v0+wt v1:=by simp only[wt,cQ];omega
 rw[hw]
 refine aC Mh rfl ?_
 simp(disch:=omega) only[GR,e1,hsz,aA,av,SX,SU,SL,reduceCtorEq,Nat.reduceAdd,Nat.reduceLeDiff,reduceIte]
 refine cI.go Aw h0 (k:=k) (by omega) (fun hf0=> ?_) (fun hf0=> ?_)
 case refine_2=>
  simp(disch:=omega) only[ae,GR,e1,hsz,aA,av,SX,SU,SL,reduceCtorEq,Nat.reduceAdd,Nat.reduceLeDiff,reduceIte]
  refine aq (fun hn=> ?_) (fun hn=>absurd (show(-1:Int) < 0 by omega) hn)
  simp(disch:=omega) only[GR,e1,hsz,aA,av,SX,SU,SL,reduceCtorEq,Nat.reduceAdd,Nat.reduceLeDiff,reduceIte]
  rw[if_neg (by omega)]
 simp(disch:=omega) only[ae,GR,e1,hsz,aA,av,SX,SU,SL,reduceCtorEq,Nat.reduceAdd,Nat.reduceLeDiff,reduceIte]
 refine aq (fun hn=>absurd hn (by omega)) (fun hn=> ?_)
 simp(disch:=omega) only[GR,e1,hsz,aA,av,SX,SU,SL,reduceCtorEq,Nat.reduceAdd,Nat.reduceLeDiff,reduceIte]
 refine cI.go rP h1 (k:=k - wt v0) (by omega) (fun hf1=> ?_) (fun hf1=> ?_)
 case refine_2=>
  simp(disch:=omega) only[ae,GR,e1,hsz,aA,av,SX,SU,SL,reduceCtorEq,Nat.reduceAdd,Nat.reduceLeDiff,reduceIte]
  refine aq (fun hn=> ?_) (fun hn=>absurd (show(-1:Int) < 0 by omega) hn)
  simp(disch:=omega) only[GR,e1,hsz,aA,av,SX,SU,SL,reduceCtorEq,Nat.reduceAdd,Nat.reduceLeDiff,reduceIte]
  rw[if_neg (by omega)]
 simp(disch:=omega) only[ae,GR,e1,hsz,aA,av,SX,SU,SL,reduceCtorEq,Nat.reduceAdd,Nat.reduceLeDiff,reduceIte]
 refine aq (fun hn=>absurd hn (by omega)) (fun hn=> ?_)
 simp(disch:=omega) only[GR,e1,hsz,aA,av,SX,SU,SL,reduceCtorEq,Nat.reduceAdd,Nat.reduceLeDiff,reduceIte]
 congr 3
 omega
def EC:AF:=⟨2,4,[.tmp 4],(.seq (.ops [.i (.lbox 2 (.s 0)), .i (.mov 4 (qi 0))]) (.seq (.ops [qf 5 2 2,ql 6 2 5 1 false,qm 7 1, .i (.call 9 149 false [(.s 6),(.s 7)]),qm 1 8]) (.seq (.seq (.ops [qm 9 1, .i (.bin 10 .lss (.s 9) (qi 0))]) (.cond (.s 10) (.seq (.ops [.i (.mov 4 (qi (-1)))]) .ret) .skip)) (.seq (.ops [qm 11 1,qm 4 11]) .ret))))⟩
theorem Ly:cd 226=some EC:=by kernel_rfl
theorem EP:cI cd 226 dQ:=by
 intro h cs v S k hv hk
 obtain⟨vs,rfl,q0⟩:=hv.st
 obtain⟨v0,r0,S0,T0,rfl,rfl,h0,q1⟩:=q0.step
 obtain⟨n0,e0,rfl,rfl,lo0,hi0⟩:=h0.int
 obtain⟨v1,r1,S1,T1,rfl,rfl,h1,q2⟩:=q1.step
 obtain⟨n1,e1,rfl,rfl,lo1,hi1⟩:=h1.int
 obtain⟨v2,r2,S2,T2,rfl,rfl,h2,q3⟩:=q2.step
 obtain⟨c2,e2⟩:=h2.one rfl
 rw[e2]at h2
 obtain⟨_,rfl,rfl⟩:=q3
 have hsz:cs.length=3:=hv.size
 simp only[Ty.size,Ty.bj,Nat.reduceAdd,Nat.zero_add,List.drop_zero]at e0 e1 e2 hsz
 have hw:wt (.r [.i n0, .i n1,v2])=wt v2:=by simp only[wt,cQ];omega
 rw[hw]
 refine aC Ly rfl ?_
 simp(disch:=omega) only[EC,e0,e1,e2,hsz,aA,av,SX,SU,SL,reduceCtorEq,Nat.reduceAdd,Nat.reduceLeDiff,reduceIte]
 refine cI.go ec h2 (k:=k) (by omega) (fun hf0=> ?_) (fun hf0=> ?_)
 case refine_2=>
  simp(disch:=omega) only[ae,EC,e0,e1,e2,hsz,aA,av,SX,SU,SL,reduceCtorEq,Nat.reduceAdd,Nat.reduceLeDiff,reduceIte]
  refine aq (fun hn=> ?_) (fun hn=>absurd (show(-1:Int) < 0 by omega) hn)
  simp(disch:=omega) only[EC,e0,e1,e2,hsz,aA,av,SX,SU,SL,reduceCtorEq,Nat.reduceAdd,Nat.reduceLeDiff,reduceIte]
  rw[if_neg (by omega)]
 simp(disch:=omega) only[ae,EC,e0,e1,e2,hsz,aA,av,SX,SU,SL,reduceCtorEq,Nat.reduceAdd,Nat.reduceLeDiff,reduceIte]
 refine aq (fun hn=>absurd hn (by omega)) (fun hn=> ?_)
 simp(disch:=omega) only[EC,e0,e1,e2,hsz,aA,av,SX,SU,SL,reduceCtorEq,Nat.reduceAdd,Nat.reduceLeDiff,reduceIte]
 congr 3
 omega
def LX:AF:=⟨2,5,[.tmp 4],(.seq (.ops [.i (.mov 4 (qi 0))]) (.seq (.ops [qm 6 1,qm 7 0,qn 8 7,qd 9 .sub 6 8,qm 1 9]) (.seq (.seq (.ops [qm 10 1, .i (.bin 11 .lss (.s 10) (qi 0))]) (.cond (.s 11) (.seq (.ops [.i (.mov 4 (qi (-1)))]) .ret) .skip)) (.seq (.seq (.ops [.i (.mov 5 (qi 0))]) (.block 0 (.loop [25,24,23,22,21,20,19,18,17,16,15,14,13,12] (.seq (.seq (.ops [qm 12 5,qm 13 0,qn 14 13,qd 15 .lss 12 14]) (.cond (.s 15) .skip (.exit 0))) (.seq (.block 1 (.seq (.ops [qm 18 0,qm 19 5, .i (.iad 20 (.s 18) (.s 19) 3), .i (.ldh 21 (.s 20) 3 true),qm 22 1, .i (.call 24 226 false [(.s 21),(.s 22)]),qm 1 23]) (.seq (.ops [qm 24 1, .i (.bin 25 .lss (.s 24) (qi 0))]) (.cond (.s 25) (.seq (.ops [.i (.mov 4 (qi (-1)))]) .ret) .skip)))) (.ops [qm 16 5, .i (.bin 17 .add (.s 16) (qi 1)),qm 5 17])))))) (.seq (.ops [qm 26 1,qm 4 26]) .ret)))))⟩
theorem LQ:cd 151=some LX:=by kernel_rfl
theorem D3:cI cd 151 (.sl dQ):=F5 LQ EP
theorem Kr {l:List C} (h:l.length=2):∃x0 x1,l= [x0,x1]:=by
 rcases l with _|⟨x0,l⟩
 ·simp at h
 rcases l with _|⟨x1,l⟩
 ·simp at h
 ·simp at h;exact⟨x0,x1,by simp[h]⟩
def Ka:AF:=⟨2,4,[.tmp 4],(.seq (.ops [.i (.lbox 2 (.s 0)), .i (.mov 4 (qi 0))]) (.seq (.ops [qf 5 2 1,ql 6 2 5 1 false,qm 7 1, .i (.call 9 151 false [(.s 6),(.s 7)]),qm 1 8]) (.seq (.seq (.ops [qm 9 1, .i (.bin 10 .lss (.s 9) (qi 0))]) (.cond (.s 10) (.seq (.ops [.i (.mov 4 (qi (-1)))]) .ret) .skip)) (.seq (.ops [qm 11 1,qm 4 11]) .ret))))⟩
theorem MA:cd 83=some Ka:=by kernel_rfl
theorem KM:cI cd 83 Hq:=by
 intro h cs v S k hv hk
 obtain⟨vs,rfl,q0⟩:=hv.st
 obtain⟨v0,r0,S0,T0,rfl,rfl,h0,q1⟩:=q0.step
 obtain⟨n0,e0,rfl,rfl,lo0,hi0⟩:=h0.int
 obtain⟨v1,r1,S1,T1,rfl,rfl,h1,q2⟩:=q1.step
 obtain⟨c1,e1⟩:=h1.one rfl
 rw[e1]at h1
 obtain⟨_,rfl,rfl⟩:=q2
 have hsz:cs.length=2:=hv.size
 simp only[Ty.size,Ty.bj,Nat.reduceAdd,Nat.zero_add,List.drop_zero]at e0 e1 hsz
 have hw:wt (.r [.i n0,v1])=wt v1:=by simp only[wt,cQ];omega
 rw[hw]
 refine aC MA rfl ?_
 simp(disch:=omega) only[Ka,e0,e1,hsz,aA,av,SX,SU,SL,reduceCtorEq,Nat.reduceAdd,Nat.reduceLeDiff,reduceIte]
 refine cI.go D3 h1 (k:=k) (by omega) (fun hf0=> ?_) (fun hf0=> ?_)
 case refine_2=>
  simp(disch:=omega) only[ae,Ka,e0,e1,hsz,aA,av,SX,SU,SL,reduceCtorEq,Nat.reduceAdd,Nat.reduceLeDiff,reduceIte]
  refine aq (fun hn=> ?_) (fun hn=>absurd (show(-1:Int) < 0 by omega) hn)
  simp(disch:=omega) only[Ka,e0,e1,hsz,aA,av,SX,SU,SL,reduceCtorEq,Nat.reduceAdd,Nat.reduceLeDiff,reduceIte]
  rw[if_neg (by omega)]
 simp(disch:=omega) only[ae,Ka,e0,e1,hsz,aA,av,SX,SU,SL,reduceCtorEq,Nat.reduceAdd,Nat.reduceLeDiff,reduceIte]
 refine aq (fun hn=>absurd hn (by omega)) (fun hn=> ?_)
 simp(disch:=omega) only[Ka,e0,e1,hsz,aA,av,SX,SU,SL,reduceCtorEq,Nat.reduceAdd,Nat.reduceLeDiff,reduceIte]
 congr 3
 omega
def MJ:AF:=⟨2,5,[.tmp 4],(.seq (.ops [.i (.mov 4 (qi 0))]) (.seq (.ops [qm 6 1,qm 7 0,qn 8 7,qd 9 .sub 6 8,qm 1 9]) (.seq (.seq (.ops [qm 10 1, .i (.bin 11 .lss (.s 10) (qi 0))]) (.cond (.s 11) (.seq (.ops [.i (.mov 4 (qi (-1)))]) .ret) .skip)) (.seq (.seq (.ops [.i (.mov 5 (qi 0))]) (.block 0 (.loop [25,24,23,22,21,20,19,18,17,16,15,14,13,12] (.seq (.seq (.ops [qm 12 5,qm 13 0,qn 14 13,qd 15 .lss 12 14]) (.cond (.s 15) .skip (.exit 0))) (.seq (.block 1 (.seq (.ops [qm 18 0,qm 19 5, .i (.iad 20 (.s 18) (.s 19) 10), .i (.ldh 21 (.s 20) 10 true),qm 22 1, .i (.call 24 81 false [(.s 21),(.s 22)]),qm 1 23]) (.seq (.ops [qm 24 1, .i (.bin 25 .lss (.s 24) (qi 0))]) (.cond (.s 25) (.seq (.ops [.i (.mov 4 (qi (-1)))]) .ret) .skip)))) (.ops [qm 16 5, .i (.bin 17 .add (.s 16) (qi 1)),qm 5 17])))))) (.seq (.ops [qm 26 1,qm 4 26]) .ret)))))⟩
theorem Ms:cd 64=some MJ:=by kernel_rfl
theorem FH:cI cd 64 (.sl cp):=F5 Ms Aw
theorem Ky {l:List C} (h:l.length=6):∃x0 x1 x2 x3 x4 x5,l= [x0,x1,x2,x3,x4,x5]:=by
 rcases l with _|⟨x0,l⟩
 ·simp at h
 rcases l with _|⟨x1,l⟩
 ·simp at h
 rcases l with _|⟨x2,l⟩
 ·simp at h
 rcases l with _|⟨x3,l⟩
 ·simp at h
 rcases l with _|⟨x4,l⟩
 ·simp at h
 rcases l with _|⟨x5,l⟩
 ·simp at h
 ·simp at h;exact⟨x0,x1,x2,x3,x4,x5,by simp[h]⟩
def GQ:AF:=⟨2,5,[.tmp 4],(.seq (.ops [.i (.lbox 2 (.s 0)), .i (.mov 4 (qi 0))]) (.seq (.ops [qf 5 2 0,ql 6 2 5 1 false,qm 7 1, .i (.call 9 64 false [(.s 6),(.s 7)]),qm 1 8]) (.seq (.seq (.ops [qm 9 1, .i (.bin 10 .lss (.s 9) (qi 0))]) (.cond (.s 10) (.seq (.ops [.i (.mov 4 (qi (-1)))]) .ret) .skip)) (.seq (.ops [qf 11 2 1,ql 12 2 11 5 true,qm 13 1, .i (.call 15 80 false [(.s 12),(.s 13)]),qm 1 14]) (.seq (.seq (.ops [qm 15 1, .i (.bin 16 .lss (.s 15) (qi 0))]) (.cond (.s 16) (.seq (.ops [.i (.mov 4 (qi (-1)))]) .ret) .skip)) (.seq (.ops [qm 17 1,qm 4 17]) .ret))))))⟩
theorem Mz:cd 84=some GQ:=by kernel_rfl
theorem Ga:cI cd 84 dU:=by
 intro h cs v S k hv hk
 obtain⟨vs,rfl,q0⟩:=hv.st
 obtain⟨v0,r0,S0,T0,rfl,rfl,h0,q1⟩:=q0.step
 obtain⟨c0,e0⟩:=h0.one rfl
 rw[e0]at h0
 obtain⟨v1,r1,S1,T1,rfl,rfl,h1,q2⟩:=q1.step
 obtain⟨_,rfl,rfl⟩:=q2
 have hsz:cs.length=6:=hv.size
 simp only[Ty.size,Ty.bj,Nat.reduceAdd,Nat.zero_add,List.drop_zero]at e0 hsz h1
 have hw:wt (.r [v0,v1])=wt v0+wt v1:=by simp only[wt,cQ];omega
 rw[hw]
 refine aC Mz rfl ?_
 simp(disch:=omega) only[GQ,e0,hsz,aA,av,SX,SU,SL,reduceCtorEq,Nat.reduceAdd,Nat.reduceLeDiff,reduceIte]
 refine cI.go FH h0 (k:=k) (by omega) (fun hf0=> ?_) (fun hf0=> ?_)
 case refine_2=>
  simp(disch:=omega) only[ae,GQ,e0,hsz,aA,av,SX,SU,SL,reduceCtorEq,Nat.reduceAdd,Nat.reduceLeDiff,reduceIte]
  refine aq (fun hn=> ?_) (fun hn=>absurd (show(-1:Int) < 0 by omega) hn)
  simp(disch:=omega) only[GQ,e0,hsz,aA,av,SX,SU,SL,reduceCtorEq,Nat.reduceAdd,Nat.reduceLeDiff,reduceIte]
  rw[if_neg (by omega)]
 simp(disch:=omega) only[ae,GQ,e0,hsz,aA,av,SX,SU,SL,reduceCtorEq,Nat.reduceAdd,Nat.reduceLeDiff,reduceIte]
 refine aq (fun hn=>absurd hn (by omega)) (fun hn=> ?_)
 simp(disch:=omega) only[GQ,e0,hsz,aA,av,SX,SU,SL,reduceCtorEq,Nat.reduceAdd,Nat.reduceLeDiff,reduceIte]
 refine cI.go FB h1 (k:=k - wt v0) (by omega) (fun hf1=> ?_) (fun hf1=> ?_)
 case refine_2=>
  simp(disch:=omega) only[ae,GQ,e0,hsz,aA,av,SX,SU,SL,reduceCtorEq,Nat.reduceAdd,Nat.reduceLeDiff,reduceIte]
  refine aq (fun hn=> ?_) (fun hn=>absurd (show(-1:Int) < 0 by omega) hn)
  simp(disch:=omega) only[GQ,e0,hsz,aA,av,SX,SU,SL,reduceCtorEq,Nat.reduceAdd,Nat.reduceLeDiff,reduceIte]
  rw[if_neg (by omega)]
 simp(disch:=omega) only[ae,GQ,e0,hsz,aA,av,SX,SU,SL,reduceCtorEq,Nat.reduceAdd,Nat.reduceLeDiff,reduceIte]
 refine aq (fun hn=>absurd hn (by omega)) (fun hn=> ?_)
 simp(disch:=omega) only[GQ,e0,hsz,aA,av,SX,SU,SL,reduceCtorEq,Nat.reduceAdd,Nat.reduceLeDiff,reduceIte]
 congr 3
 omega
def GO:AF:=⟨2,5,[.tmp 4],(.seq (.ops [.i (.lbox 2 (.s 0)), .i (.mov 4 (qi 0))]) (.seq (.ops [qf 5 2 3,ql 6 2 5 1 false,qm 7 1, .i (.call 9 149 false [(.s 6),(.s 7)]),qm 1 8]) (.seq (.seq (.ops [qm 9 1, .i (.bin 10 .lss (.s 9) (qi 0))]) (.cond (.s 10) (.seq (.ops [.i (.mov 4 (qi (-1)))]) .ret) .skip)) (.seq (.ops [qf 11 2 4,ql 12 2 11 1 false,qm 13 1, .i (.call 15 150 false [(.s 12),(.s 13)]),qm 1 14]) (.seq (.seq (.ops [qm 15 1, .i (.bin 16 .lss (.s 15) (qi 0))]) (.cond (.s 16) (.seq (.ops [.i (.mov 4 (qi (-1)))]) .ret) .skip)) (.seq (.ops [qm 17 1,qm 4 17]) .ret))))))⟩
theorem Ml:cd 85=some GO:=by kernel_rfl
theorem Ik:cI cd 85 tJ:=by
 intro h cs v S k hv hk
 obtain⟨vs,rfl,q0⟩:=hv.st
 obtain⟨v0,r0,S0,T0,rfl,rfl,h0,q1⟩:=q0.step
 obtain⟨n0,e0,rfl,rfl,lo0,hi0⟩:=h0.int
 obtain⟨v1,r1,S1,T1,rfl,rfl,h1,q2⟩:=q1.step
 obtain⟨n1,e1,rfl,rfl,lo1,hi1⟩:=h1.int
 obtain⟨v2,r2,S2,T2,rfl,rfl,h2,q3⟩:=q2.step
 obtain⟨n2,e2,rfl,rfl,lo2,hi2⟩:=h2.int
 obtain⟨v3,r3,S3,T3,rfl,rfl,h3,q4⟩:=q3.step
 obtain⟨c3,e3⟩:=h3.one rfl
 rw[e3]at h3
 obtain⟨v4,r4,S4,T4,rfl,rfl,h4,q5⟩:=q4.step
 obtain⟨c4,e4⟩:=h4.one rfl
 rw[e4]at h4
 obtain⟨_,rfl,rfl⟩:=q5
 have hsz:cs.length=5:=hv.size
 simp only[Ty.size,Ty.bj,Nat.reduceAdd,Nat.zero_add,List.drop_zero]at e0 e1 e2 e3 e4 hsz
 have hw:wt (.r [.i n0, .i n1, .i n2,v3,v4])=wt v3+wt v4:=by simp only[wt,cQ];omega
 rw[hw]
 refine aC Ml rfl ?_
 simp(disch:=omega) only[GO,e0,e1,e2,e3,e4,hsz,aA,av,SX,SU,SL,reduceCtorEq,Nat.reduceAdd,Nat.reduceLeDiff,reduceIte]
 refine cI.go ec h3 (k:=k) (by omega) (fun hf0=> ?_) (fun hf0=> ?_)
 case refine_2=>
  simp(disch:=omega) only[ae,GO,e0,e1,e2,e3,e4,hsz,aA,av,SX,SU,SL,reduceCtorEq,Nat.reduceAdd,Nat.reduceLeDiff,reduceIte]
  refine aq (fun hn=> ?_) (fun hn=>absurd (show(-1:Int) < 0 by omega) hn)
  simp(disch:=omega) only[GO,e0,e1,e2,e3,e4,hsz,aA,av,SX,SU,SL,reduceCtorEq,Nat.reduceAdd,Nat.reduceLeDiff,reduceIte]
  rw[if_neg (by omega)]
 simp(disch:=omega) only[ae,GO,e0,e1,e2,e3,e4,hsz,aA,av,SX,SU,SL,reduceCtorEq,Nat.reduceAdd,Nat.reduceLeDiff,reduceIte]
 refine aq (fun hn=>absurd hn (by omega)) (fun hn=> ?_)
 simp(disch:=omega) only[GO,e0,e1,e2,e3,e4,hsz,aA,av,SX,SU,SL,reduceCtorEq,Nat.reduceAdd,Nat.reduceLeDiff,reduceIte]
 refine cI.go rP h4 (k:=k - wt v3) (by omega) (fun hf1=> ?_) (fun hf1=> ?_)
 case refine_2=>
  simp(disch:=omega) only[ae,GO,e0,e1,e2,e3,e4,hsz,aA,av,SX,SU,SL,reduceCtorEq,Nat.reduceAdd,Nat.reduceLeDiff,reduceIte]
  refine aq (fun hn=> ?_) (fun hn=>absurd (show(-1:Int) < 0 by omega) hn)
  simp(disch:=omega) only[GO,e0,e1,e2,e3,e4,hsz,aA,av,SX,SU,SL,reduceCtorEq,Nat.reduceAdd,Nat.reduceLeDiff,reduceIte]
  rw[if_neg (by omega)]
 simp(disch:=omega) only[ae,GO,e0,e1,e2,e3,e4,hsz,aA,av,SX,SU,SL,reduceCtorEq,Nat.reduceAdd,Nat.reduceLeDiff,reduceIte]
 refine aq (fun hn=>absurd hn (by omega)) (fun hn=> ?_)
 simp(disch:=omega) only[GO,e0,e1,e2,e3,e4,hsz,aA,av,SX,SU,SL,reduceCtorEq,Nat.reduceAdd,Nat.reduceLeDiff,reduceIte]
 congr 3
 omega
def qe:AF:=⟨2,6,[.tmp 4],(.seq (.ops [.i (.lbox 2 (.s 0)), .i (.mov 4 (qi 0))]) (.seq (.ops [qf 5 2 1,ql 6 2 5 5 true,qm 7 1, .i (.call 9 79 false [(.s 6),(.s 7)]),qm 1 8]) (.seq (.seq (.ops [qm 9 1, .i (.bin 10 .lss (.s 9) (qi 0))]) (.cond (.s 10) (.seq (.ops [.i (.mov 4 (qi (-1)))]) .ret) .skip)) (.seq (.ops [qf 11 2 6,ql 12 2 11 5 true,qm 13 1, .i (.call 15 80 false [(.s 12),(.s 13)]),qm 1 14]) (.seq (.seq (.ops [qm 15 1, .i (.bin 16 .lss (.s 15) (qi 0))]) (.cond (.s 16) (.seq (.ops [.i (.mov 4 (qi (-1)))]) .ret) .skip)) (.seq (.ops [qf 17 2 11,ql 18 2 17 10 true,qm 19 1, .i (.call 21 81 false [(.s 18),(.s 19)]),qm 1 20]) (.seq (.seq (.ops [qm 21 1, .i (.bin 22 .lss (.s 21) (qi 0))]) (.cond (.s 22) (.seq (.ops [.i (.mov 4 (qi (-1)))]) .ret) .skip)) (.seq (.ops [qf 23 2 21,ql 24 2 23 11 true,qm 25 1, .i (.call 27 82 false [(.s 24),(.s 25)]),qm 1 26]) (.seq (.seq (.ops [qm 27 1, .i (.bin 28 .lss (.s 27) (qi 0))]) (.cond (.s 28) (.seq (.ops [.i (.mov 4 (qi (-1)))]) .ret) .skip)) (.seq (.ops [qf 29 2 32,ql 30 2 29 2 true,qm 31 1, .i (.call 33 83 false [(.s 30),(.s 31)]),qm 1 32]) (.seq (.seq (.ops [qm 33 1, .i (.bin 34 .lss (.s 33) (qi 0))]) (.cond (.s 34) (.seq (.ops [.i (.mov 4 (qi (-1)))]) .ret) .skip)) (.seq (.ops [qf 35 2 34,ql 36 2 35 6 true,qm 37 1, .i (.call 39 84 false [(.s 36),(.s 37)]),qm 1 38]) (.seq (.seq (.ops [qm 39 1, .i (.bin 40 .lss (.s 39) (qi 0))]) (.cond (.s 40) (.seq (.ops [.i (.mov 4 (qi (-1)))]) .ret) .skip)) (.seq (.ops [qf 41 2 40,ql 42 2 41 5 true,qm 43 1, .i (.call 45 85 false [(.s 42),(.s 43)]),qm 1 44]) (.seq (.seq (.ops [qm 45 1, .i (.bin 46 .lss (.s 45) (qi 0))]) (.cond (.s 46) (.seq (.ops [.i (.mov 4 (qi (-1)))]) .ret) .skip)) (.seq (.ops [qm 47 1,qm 4 47]) .ret))))))))))))))))⟩
theorem Mr:cd 29=some qe:=by kernel_rfl
theorem I9:cI cd 29 TMsg:=by
 intro h cs v S k hv hk
 obtain⟨vs,rfl,q0⟩:=hv.st
 obtain⟨v0,r0,S0,T0,rfl,rfl,h0,q1⟩:=q0.step
 obtain⟨n0,e0,rfl,rfl,lo0,hi0⟩:=h0.int
 obtain⟨v1,r1,S1,T1,rfl,rfl,h1,q2⟩:=q1.step
 obtain⟨v2,r2,S2,T2,rfl,rfl,h2,q3⟩:=q2.step
 obtain⟨v3,r3,S3,T3,rfl,rfl,h3,q4⟩:=q3.step
 obtain⟨v4,r4,S4,T4,rfl,rfl,h4,q5⟩:=q4.step
 obtain⟨v5,r5,S5,T5,rfl,rfl,h5,q6⟩:=q5.step
 obtain⟨v6,r6,S6,T6,rfl,rfl,h6,q7⟩:=q6.step
 obtain⟨v7,r7,S7,T7,rfl,rfl,h7,q8⟩:=q7.step
 obtain⟨_,rfl,rfl⟩:=q8
 have hsz:cs.length=45:=hv.size
 simp only[Ty.size,Ty.bj,Nat.reduceAdd,Nat.zero_add,List.drop_zero]at e0 hsz h1 h2 h3 h4 h5 h6 h7
 have hw:wt (.r [.i n0,v1,v2,v3,v4,v5,v6,v7])=wt v1+wt v2+wt v3+wt v4+wt v5+wt v6+wt v7:=by simp only[wt,cQ];omega
 rw[hw]
 refine aC Mr rfl ?_
 simp(disch:=omega) only[qe,e0,hsz,aA,av,SX,SU,SL,reduceCtorEq,Nat.reduceAdd,Nat.reduceLeDiff,reduceIte]
 refine cI.go HB h1 (k:=k) (by omega) (fun hf0=> ?_) (fun hf0=> ?_)
 case refine_2=>
  simp(disch:=omega) only[ae,qe,e0,hsz,aA,av,SX,SU,SL,reduceCtorEq,Nat.reduceAdd,Nat.reduceLeDiff,reduceIte]
  refine aq (fun hn=> ?_) (fun hn=>absurd (show(-1:Int) < 0 by omega) hn)
  simp(disch:=omega) only[qe,e0,hsz,aA,av,SX,SU,SL,reduceCtorEq,Nat.reduceAdd,Nat.reduceLeDiff,reduceIte]
  rw[if_neg (by omega)]
 simp(disch:=omega) only[ae,qe,e0,hsz,aA,av,SX,SU,SL,reduceCtorEq,Nat.reduceAdd,Nat.reduceLeDiff,reduceIte]
 refine aq (fun hn=>absurd hn (by omega)) (fun hn=> ?_)
 simp(disch:=omega) only[qe,e0,hsz,aA,av,SX,SU,SL,reduceCtorEq,Nat.reduceAdd,Nat.reduceLeDiff,reduceIte]
 refine cI.go FB h2 (k:=k - wt v1) (by omega) (fun hf1=> ?_) (fun hf1=> ?_)
 case refine_2=>
  simp(disch:=omega) only[ae,qe,e0,hsz,aA,av,SX,SU,SL,reduceCtorEq,Nat.reduceAdd,Nat.reduceLeDiff,reduceIte]
  refine aq (fun hn=> ?_) (fun hn=>absurd (show(-1:Int) < 0 by omega) hn)
  simp(disch:=omega) only[qe,e0,hsz,aA,av,SX,SU,SL,reduceCtorEq,Nat.reduceAdd,Nat.reduceLeDiff,reduceIte]
  rw[if_neg (by omega)]
 simp(disch:=omega) only[ae,qe,e0,hsz,aA,av,SX,SU,SL,reduceCtorEq,Nat.reduceAdd,Nat.reduceLeDiff,reduceIte]
 refine aq (fun hn=>absurd hn (by omega)) (fun hn=> ?_)
 simp(disch:=omega) only[qe,e0,hsz,aA,av,SX,SU,SL,reduceCtorEq,Nat.reduceAdd,Nat.reduceLeDiff,reduceIte]
 refine cI.go Aw h3 (k:=k - wt v1 - wt v2) (by omega) (fun hf2=> ?_) (fun hf2=> ?_)
 case refine_2=>
  simp(disch:=omega) only[ae,qe,e0,hsz,aA,av,SX,SU,SL,reduceCtorEq,Nat.reduceAdd,Nat.reduceLeDiff,reduceIte]
  refine aq (fun hn=> ?_) (fun hn=>absurd (show(-1:Int) < 0 by omega) hn)
  simp(disch:=omega) only[qe,e0,hsz,aA,av,SX,SU,SL,reduceCtorEq,Nat.reduceAdd,Nat.reduceLeDiff,reduceIte]
  rw[if_neg (by omega)]
 simp(disch:=omega) only[ae,qe,e0,hsz,aA,av,SX,SU,SL,reduceCtorEq,Nat.reduceAdd,Nat.reduceLeDiff,reduceIte]
 refine aq (fun hn=>absurd hn (by omega)) (fun hn=> ?_)
 simp(disch:=omega) only[qe,e0,hsz,aA,av,SX,SU,SL,reduceCtorEq,Nat.reduceAdd,Nat.reduceLeDiff,reduceIte]
 refine cI.go Fm h4 (k:=k - wt v1 - wt v2 - wt v3) (by omega) (fun hf3=> ?_) (fun hf3=> ?_)
 case refine_2=>
  simp(disch:=omega) only[ae,qe,e0,hsz,aA,av,SX,SU,SL,reduceCtorEq,Nat.reduceAdd,Nat.reduceLeDiff,reduceIte]
  refine aq (fun hn=> ?_) (fun hn=>absurd (show(-1:Int) < 0 by omega) hn)
  simp(disch:=omega) only[qe,e0,hsz,aA,av,SX,SU,SL,reduceCtorEq,Nat.reduceAdd,Nat.reduceLeDiff,reduceIte]
  rw[if_neg (by omega)]
 simp(disch:=omega) only[ae,qe,e0,hsz,aA,av,SX,SU,SL,reduceCtorEq,Nat.reduceAdd,Nat.reduceLeDiff,reduceIte]
 refine aq (fun hn=>absurd hn (by omega)) (fun hn=> ?_)
 simp(disch:=omega) only[qe,e0,hsz,aA,av,SX,SU,SL,reduceCtorEq,Nat.reduceAdd,Nat.reduceLeDiff,reduceIte]
 refine cI.go KM h5 (k:=k - wt v1 - wt v2 - wt v3 - wt v4) (by omega) (fun hf4=> ?_) (fun hf4=> ?_)
 case refine_2=>
  simp(disch:=omega) only[ae,qe,e0,hsz,aA,av,SX,SU,SL,reduceCtorEq,Nat.reduceAdd,Nat.reduceLeDiff,reduceIte]
  refine aq (fun hn=> ?_) (fun hn=>absurd (show(-1:Int) < 0 by omega) hn)
  simp(disch:=omega) only[qe,e0,hsz,aA,av,SX,SU,SL,reduceCtorEq,Nat.reduceAdd,Nat.reduceLeDiff,reduceIte]
  rw[if_neg (by omega)]
 simp(disch:=omega) only[ae,qe,e0,hsz,aA,av,SX,SU,SL,reduceCtorEq,Nat.reduceAdd,Nat.reduceLeDiff,reduceIte]
 refine aq (fun hn=>absurd hn (by omega)) (fun hn=> ?_)
 simp(disch:=omega) only[qe,e0,hsz,aA,av,SX,SU,SL,reduceCtorEq,Nat.reduceAdd,Nat.reduceLeDiff,reduceIte]
 refine cI.go Ga h6 (k:=k - wt v1 - wt v2 - wt v3 - wt v4 - wt v5) (by omega) (fun hf5=> ?_) (fun hf5=> ?_)
 case refine_2=>
  simp(disch:=omega) only[ae,qe,e0,hsz,aA,av,SX,SU,SL,reduceCtorEq,Nat.reduceAdd,Nat.reduceLeDiff,reduceIte]
  refine aq (fun hn=> ?_) (fun hn=>absurd (show(-1:Int) < 0 by omega) hn)
  simp(disch:=omega) only[qe,e0,hsz,aA,av,SX,SU,SL,reduceCtorEq,Nat.reduceAdd,Nat.reduceLeDiff,reduceIte]
  rw[if_neg (by omega)]
 simp(disch:=omega) only[ae,qe,e0,hsz,aA,av,SX,SU,SL,reduceCtorEq,Nat.reduceAdd,Nat.reduceLeDiff,reduceIte]
 refine aq (fun hn=>absurd hn (by omega)) (fun hn=> ?_)
 simp(disch:=omega) only[qe,e0,hsz,aA,av,SX,SU,SL,reduceCtorEq,Nat.reduceAdd,Nat.reduceLeDiff,reduceIte]
 refine cI.go Ik h7 (k:=k - wt v1 - wt v2 - wt v3 - wt v4 - wt v5 - wt v6) (by omega) (fun hf6=> ?_) (fun hf6=> ?_)
 case refine_2=>
  simp(disch:=omega) only[ae,qe,e0,hsz,aA,av,SX,SU,SL,reduceCtorEq,Nat.reduceAdd,Nat.reduceLeDiff,reduceIte]
  refine aq (fun hn=> ?_) (fun hn=>absurd (show(-1:Int) < 0 by omega) hn)
  simp(disch:=omega) only[qe,e0,hsz,aA,av,SX,SU,SL,reduceCtorEq,Nat.reduceAdd,Nat.reduceLeDiff,reduceIte]
  rw[if_neg (by omega)]
 simp(disch:=omega) only[ae,qe,e0,hsz,aA,av,SX,SU,SL,reduceCtorEq,Nat.reduceAdd,Nat.reduceLeDiff,reduceIte]
 refine aq (fun hn=>absurd hn (by omega)) (fun hn=> ?_)
 simp(disch:=omega) only[qe,e0,hsz,aA,av,SX,SU,SL,reduceCtorEq,Nat.reduceAdd,Nat.reduceLeDiff,reduceIte]
 congr 3
 omega
def Lj:AF:=⟨1,5,[.tmp 2],(.seq (.ops [.i (.mov 2 (.c (.val false [.nils])))]) (.seq (.ops [qm 5 0,qn 6 5, .i (.mks 7 5 1 1 [.int .u8 0] (.s 6)),qm 3 7]) (.seq (.seq (.ops [.i (.mov 4 (qi 0))]) (.block 0 (.loop [20,19,18,17,16,15,14,13,12,11,10,9,8] (.seq (.seq (.ops [qm 8 4,qm 9 0,qn 10 9,qd 11 .lss 8 10]) (.cond (.s 11) .skip (.exit 0))) (.seq (.block 1 (.ops [qm 14 3,qm 15 4,qm 16 0,qm 17 4, .i (.iad 18 (.s 16) (.s 17) 1), .i (.ldh 19 (.s 18) 1 false), .i (.iad 20 (.s 14) (.s 15) 1), .i (.sth (.s 20) (.s 19) 1)])) (.ops [qm 12 4, .i (.bin 13 .add (.s 12) (qi 1)),qm 4 13])))))) (.seq (.ops [qm 21 3,qm 2 21]) .ret))))⟩
theorem LU:cd 174=some Lj:=by kernel_rfl
theorem eu:lB cd 174 (.sl (.int .u8)):=Hx LU (by omega)
def Ld:AF:=⟨1,5,[.cell 2 5 true],(.seq (.ops [.i (.lbox 1 (.s 0)), .i (.lal 2 [.int .i64 0, .int .i64 0, .nils, .int .i64 0, .nils])]) (.seq (.ops [.i (.lal 3 [.int .i64 0, .int .i64 0, .nils, .int .i64 0, .nils])]) (.seq (.ops [qf 4 1 0,ql 5 1 4 1 false,qf 6 3 0,qs 3 6 5 1]) (.seq (.ops [qf 7 1 1,ql 8 1 7 1 false,qf 9 3 1,qs 3 9 8 1]) (.seq (.ops [qf 10 1 2,ql 11 1 10 1 false,qk 13 174 11,qf 13 3 2,qs 3 13 12 1]) (.seq (.ops [qf 14 1 3,ql 15 1 14 1 false,qf 16 3 3,qs 3 16 15 1]) (.seq (.ops [qf 17 1 4,ql 18 1 17 1 false,qk 20 174 18,qf 20 3 4,qs 3 20 19 1]) (.seq (.ops [ql 21 3 3 5 true,qs 2 2 21 5]) .ret))))))))⟩
theorem MD:cd 90=some Ld:=by kernel_rfl
theorem HN:lB cd 90 tn:=by
 intro h cs v S hv hw
 obtain⟨vs,rfl,q0⟩:=hv.st
 obtain⟨v0,r0,S0,T0,rfl,rfl,h0,q1⟩:=q0.step
 obtain⟨n0,e0,rfl,rfl,lo0,hi0⟩:=h0.int
 obtain⟨v1,r1,S1,T1,rfl,rfl,h1,q2⟩:=q1.step
 obtain⟨n1,e1,rfl,rfl,lo1,hi1⟩:=h1.int
 obtain⟨v2,r2,S2,T2,rfl,rfl,h2,q3⟩:=q2.step
 obtain⟨c2,e2⟩:=h2.one rfl
 rw[e2]at h2
 obtain⟨v3,r3,S3,T3,rfl,rfl,h3,q4⟩:=q3.step
 obtain⟨n3,e3,rfl,rfl,lo3,hi3⟩:=h3.int
 obtain⟨v4,r4,S4,T4,rfl,rfl,h4,q5⟩:=q4.step
 obtain⟨c4,e4⟩:=h4.one rfl
 rw[e4]at h4
 obtain⟨_,rfl,rfl⟩:=q5
 have hsz:cs.length=5:=hv.size
 simp only[Ty.size,Ty.bj,Nat.reduceAdd,Nat.zero_add,List.drop_zero]at e0 e1 e2 e3 e4 hsz
 simp only[wt,cQ]at hw
 refine aC MD rfl ?_
 simp(disch:=omega) only[ae,Ld,e0,e1,e2,e3,e4,hsz,aA,av,SX,SU,SL,reduceCtorEq,Nat.reduceAdd,Nat.reduceLeDiff,reduceIte]
 refine aM (eu h2 (by omega)) ?_
 rintro r0 g0 ⟨t0,d0,U0,rfl,rfl,z0,o0,l0⟩
 obtain⟨y0_0,rfl⟩:=z0.one rfl
 simp(disch:=omega) only[ae,Ld,e0,e1,e2,e3,e4,hsz,aA,av,SX,SU,SL,reduceCtorEq,Nat.reduceAdd,Nat.reduceLeDiff,reduceIte]
 refine aM (eu (h4.app) (by omega)) ?_
 rintro r1 g1 ⟨t1,d1,U1,rfl,rfl,z1,o1,l1⟩
 obtain⟨y1_0,rfl⟩:=z1.one rfl
 simp(disch:=omega) only[ae,Ld,e0,e1,e2,e3,e4,hsz,aA,av,SX,SU,SL,reduceCtorEq,Nat.reduceAdd,Nat.reduceLeDiff,reduceIte]
 refine⟨(t0++t1),_,_,by simp only[List.append_assoc],rfl,⟨_,rfl,(Rs.mk (Rp.mkInt lo0 hi0) (Rs.mk (Rp.mkInt lo1 hi1) (Rs.mk (z0.app) (Rs.mk (Rp.mkInt lo3 hi3) (Rs.mk z1 Rs.nil)))))⟩,?_⟩
 have fr:=(i4.step (i4.step (i4.nil h) z0.lt o0 l0) z1.lt o1 l1)
 simpa only[List.nil_append,List.append_nil,List.append_assoc]using fr.both
def LD:AF:=⟨1,5,[.tmp 2],(.seq (.ops [.i (.mov 2 (.c (.val false [.nils])))]) (.seq (.ops [qm 5 0,qn 6 5, .i (.mks 7 22 1 24 [.nils] (.s 6)),qm 3 7]) (.seq (.seq (.ops [.i (.mov 4 (qi 0))]) (.block 0 (.loop [21,20,19,18,17,16,15,14,13,12,11,10,9,8] (.seq (.seq (.ops [qm 8 4,qm 9 0,qn 10 9,qd 11 .lss 8 10]) (.cond (.s 11) .skip (.exit 0))) (.seq (.block 1 (.ops [qm 14 3,qm 15 4,qm 16 0,qm 17 4, .i (.iad 18 (.s 16) (.s 17) 1), .i (.ldh 19 (.s 18) 1 false),qk 21 174 19, .i (.iad 21 (.s 14) (.s 15) 1), .i (.sth (.s 21) (.s 20) 1)])) (.ops [qm 12 4, .i (.bin 13 .add (.s 12) (qi 1)),qm 4 13])))))) (.seq (.ops [qm 22 3,qm 2 22]) .ret))))⟩
theorem LG:cd 175=some LD:=by kernel_rfl
theorem rS:lB cd 175 (.sl (.sl (.int .u8))):=GF LG (by omega) rfl eu
def Kv:AF:=⟨1,5,[.cell 2 5 true],(.seq (.ops [.i (.lbox 1 (.s 0)), .i (.lal 2 [.int .i64 0, .int .i64 0, .nils, .nils, .nils])]) (.seq (.ops [.i (.lal 3 [.int .i64 0, .int .i64 0, .nils, .nils, .nils])]) (.seq (.ops [qf 4 1 0,ql 5 1 4 1 false,qf 6 3 0,qs 3 6 5 1]) (.seq (.ops [qf 7 1 1,ql 8 1 7 1 false,qf 9 3 1,qs 3 9 8 1]) (.seq (.ops [qf 10 1 2,ql 11 1 10 1 false,qk 13 174 11,qf 13 3 2,qs 3 13 12 1]) (.seq (.ops [qf 14 1 3,ql 15 1 14 1 false,qk 17 174 15,qf 17 3 3,qs 3 17 16 1]) (.seq (.ops [qf 18 1 4,ql 19 1 18 1 false,qk 21 175 19,qf 21 3 4,qs 3 21 20 1]) (.seq (.ops [ql 22 3 3 5 true,qs 2 2 22 5]) .ret))))))))⟩
theorem Mj:cd 91=some Kv:=by kernel_rfl
theorem E3:lB cd 91 yJ:=by
 intro h cs v S hv hw
 obtain⟨vs,rfl,q0⟩:=hv.st
 obtain⟨v0,r0,S0,T0,rfl,rfl,h0,q1⟩:=q0.step
 obtain⟨n0,e0,rfl,rfl,lo0,hi0⟩:=h0.int
 obtain⟨v1,r1,S1,T1,rfl,rfl,h1,q2⟩:=q1.step
 obtain⟨n1,e1,rfl,rfl,lo1,hi1⟩:=h1.int
 obtain⟨v2,r2,S2,T2,rfl,rfl,h2,q3⟩:=q2.step
 obtain⟨c2,e2⟩:=h2.one rfl
 rw[e2]at h2
 obtain⟨v3,r3,S3,T3,rfl,rfl,h3,q4⟩:=q3.step
 obtain⟨c3,e3⟩:=h3.one rfl
 rw[e3]at h3
 obtain⟨v4,r4,S4,T4,rfl,rfl,h4,q5⟩:=q4.step
 obtain⟨c4,e4⟩:=h4.one rfl
 rw[e4]at h4
 obtain⟨_,rfl,rfl⟩:=q5
 have hsz:cs.length=5:=hv.size
 simp only[Ty.size,Ty.bj,Nat.reduceAdd,Nat.zero_add,List.drop_zero]at e0 e1 e2 e3 e4 hsz
 simp only[wt,cQ]at hw
 refine aC Mj rfl ?_
 simp(disch:=omega) only[ae,Kv,e0,e1,e2,e3,e4,hsz,aA,av,SX,SU,SL,reduceCtorEq,Nat.reduceAdd,Nat.reduceLeDiff,reduceIte]
 refine aM (eu h2 (by omega)) ?_
 rintro r0 g0 ⟨t0,d0,U0,rfl,rfl,z0,o0,l0⟩
 obtain⟨y0_0,rfl⟩:=z0.one rfl
 simp(disch:=omega) only[ae,Kv,e0,e1,e2,e3,e4,hsz,aA,av,SX,SU,SL,reduceCtorEq,Nat.reduceAdd,Nat.reduceLeDiff,reduceIte]
 refine aM (eu (h3.app) (by omega)) ?_
 rintro r1 g1 ⟨t1,d1,U1,rfl,rfl,z1,o1,l1⟩
 obtain⟨y1_0,rfl⟩:=z1.one rfl
 simp(disch:=omega) only[ae,Kv,e0,e1,e2,e3,e4,hsz,aA,av,SX,SU,SL,reduceCtorEq,Nat.reduceAdd,Nat.reduceLeDiff,reduceIte]
 refine aM (rS ((h4.app).app) (by omega)) ?_
 rintro r2 g2 ⟨t2,d2,U2,rfl,rfl,z2,o2,l2⟩
 obtain⟨y2_0,rfl⟩:=z2.one rfl
 simp(disch:=omega) only[ae,Kv,e0,e1,e2,e3,e4,hsz,aA,av,SX,SU,SL,reduceCtorEq,Nat.reduceAdd,Nat.reduceLeDiff,reduceIte]
 refine⟨(t0++(t1++t2)),_,_,by simp only[List.append_assoc],rfl,⟨_,rfl,(Rs.mk (Rp.mkInt lo0 hi0) (Rs.mk (Rp.mkInt lo1 hi1) (Rs.mk ((z0.app).app) (Rs.mk (z1.app) (Rs.mk z2 Rs.nil)))))⟩,?_⟩
 have fr:=(i4.step (i4.step (i4.step (i4.nil h) z0.lt o0 l0) z1.lt o1 l1) z2.lt o2 l2)
 simpa only[List.nil_append,List.append_nil,List.append_assoc]using fr.both
def K3:AF:=⟨1,5,[.cell 2 10 true],(.seq (.ops [.i (.lbox 1 (.s 0)), .i (.lal 2 qz)]) (.seq (.ops [.i (.lal 3 qz)]) (.seq (.ops [qf 4 1 0,ql 5 1 4 1 false,qf 6 3 0,qs 3 6 5 1]) (.seq (.ops [qf 7 1 1,ql 8 1 7 1 false,qf 9 3 1,qs 3 9 8 1]) (.seq (.ops [qf 10 1 2,ql 11 1 10 1 false,qf 12 3 2,qs 3 12 11 1]) (.seq (.ops [qf 13 1 3,ql 14 1 13 1 false,qk 16 174 14,qf 16 3 3,qs 3 16 15 1]) (.seq (.ops [qf 17 1 4,ql 18 1 17 1 false,qk 20 174 18,qf 20 3 4,qs 3 20 19 1]) (.seq (.ops [qf 21 1 5,ql 22 1 21 5 true,qk 24 91 22,qf 24 3 5,qs 3 24 23 5]) (.seq (.ops [ql 25 3 3 10 true,qs 2 2 25 10]) .ret)))))))))⟩
theorem MC:cd 92=some K3:=by kernel_rfl
theorem zr:lB cd 92 cp:=by
 intro h cs v S hv hw
 obtain⟨vs,rfl,q0⟩:=hv.st
 obtain⟨v0,r0,S0,T0,rfl,rfl,h0,q1⟩:=q0.step
 obtain⟨n0,e0,rfl,rfl,lo0,hi0⟩:=h0.int
 obtain⟨v1,r1,S1,T1,rfl,rfl,h1,q2⟩:=q1.step
 obtain⟨n1,e1,rfl,rfl,lo1,hi1⟩:=h1.int
 obtain⟨v2,r2,S2,T2,rfl,rfl,h2,q3⟩:=q2.step
 obtain⟨n2,e2,rfl,rfl,lo2,hi2⟩:=h2.int
 obtain⟨v3,r3,S3,T3,rfl,rfl,h3,q4⟩:=q3.step
 obtain⟨c3,e3⟩:=h3.one rfl
 rw[e3]at h3
 obtain⟨v4,r4,S4,T4,rfl,rfl,h4,q5⟩:=q4.step
 obtain⟨c4,e4⟩:=h4.one rfl
 rw[e4]at h4
 obtain⟨v5,r5,S5,T5,rfl,rfl,h5,q6⟩:=q5.step
 obtain⟨_,rfl,rfl⟩:=q6
 have hsz:cs.length=10:=hv.size
 simp only[Ty.size,Ty.bj,Nat.reduceAdd,Nat.zero_add,List.drop_zero]at e0 e1 e2 e3 e4 hsz h5
 simp only[wt,cQ]at hw
 refine aC MC rfl ?_
 simp(disch:=omega) only[ae,K3,e0,e1,e2,e3,e4,hsz,aA,av,SX,SU,SL,reduceCtorEq,Nat.reduceAdd,Nat.reduceLeDiff,reduceIte]
 refine aM (eu h3 (by omega)) ?_
 rintro r0 g0 ⟨t0,d0,U0,rfl,rfl,z0,o0,l0⟩
 obtain⟨y0_0,rfl⟩:=z0.one rfl
 simp(disch:=omega) only[ae,K3,e0,e1,e2,e3,e4,hsz,aA,av,SX,SU,SL,reduceCtorEq,Nat.reduceAdd,Nat.reduceLeDiff,reduceIte]
 refine aM (eu (h4.app) (by omega)) ?_
 rintro r1 g1 ⟨t1,d1,U1,rfl,rfl,z1,o1,l1⟩
 obtain⟨y1_0,rfl⟩:=z1.one rfl
 simp(disch:=omega) only[ae,K3,e0,e1,e2,e3,e4,hsz,aA,av,SX,SU,SL,reduceCtorEq,Nat.reduceAdd,Nat.reduceLeDiff,reduceIte]
 refine aM (E3 ((h5.app).app) (by omega)) ?_
 rintro r2 g2 ⟨t2,d2,U2,rfl,rfl,z2,o2,l2⟩
 obtain⟨y2_0,y2_1,y2_2,y2_3,y2_4,rfl⟩:=B3 z2.size
 simp(disch:=omega) only[ae,K3,e0,e1,e2,e3,e4,hsz,aA,av,SX,SU,SL,reduceCtorEq,Nat.reduceAdd,Nat.reduceLeDiff,reduceIte]
 refine⟨(t0++(t1++t2)),_,_,by simp only[List.append_assoc],rfl,⟨_,rfl,(Rs.mk (Rp.mkInt lo0 hi0) (Rs.mk (Rp.mkInt lo1 hi1) (Rs.mk (Rp.mkInt lo2 hi2) (Rs.mk ((z0.app).app) (Rs.mk (z1.app) (Rs.mk z2 Rs.nil))))))⟩,?_⟩
 have fr:=(i4.step (i4.step (i4.step (i4.nil h) z0.lt o0 l0) z1.lt o1 l1) z2.lt o2 l2)
 simpa only[List.nil_append,List.append_nil,List.append_assoc]using fr.both
def K8:AF:=⟨1,4,[.cell 2 11 true],(.seq (.ops [.i (.lbox 1 (.s 0)), .i (.lal 2 [.int .i64 0, .int .i64 0, .int .i64 0, .nils, .nils, .int .i64 0, .int .i64 0, .nils, .nils, .nils, .nils])]) (.seq (.ops [.i (.lal 3 [.int .i64 0, .int .i64 0, .int .i64 0, .nils, .nils, .int .i64 0, .int .i64 0, .nils, .nils, .nils, .nils])]) (.seq (.ops [qf 4 1 0,ql 5 1 4 10 true,qk 7 92 5,qf 7 3 0,qs 3 7 6 10]) (.seq (.ops [qf 8 1 10,ql 9 1 8 1 false,qk 11 175 9,qf 11 3 10,qs 3 11 10 1]) (.seq (.ops [ql 12 3 3 11 true,qs 2 2 12 11]) .ret)))))⟩
theorem Mi:cd 93=some K8:=by kernel_rfl
theorem F8:lB cd 93 fM:=by
 intro h cs v S hv hw
 obtain⟨vs,rfl,q0⟩:=hv.st
 obtain⟨v0,r0,S0,T0,rfl,rfl,h0,q1⟩:=q0.step
 obtain⟨v1,r1,S1,T1,rfl,rfl,h1,q2⟩:=q1.step
 obtain⟨c1,e1⟩:=h1.one rfl
 rw[e1]at h1
 obtain⟨_,rfl,rfl⟩:=q2
 have hsz:cs.length=11:=hv.size
 simp only[Ty.size,Ty.bj,Nat.reduceAdd,Nat.zero_add,List.drop_zero]at e1 hsz h0
 simp only[wt,cQ]at hw
 refine aC Mi rfl ?_
 simp(disch:=omega) only[ae,K8,e1,hsz,aA,av,SX,SU,SL,reduceCtorEq,Nat.reduceAdd,Nat.reduceLeDiff,reduceIte]
 refine aM (zr h0 (by omega)) ?_
 rintro r0 g0 ⟨t0,d0,U0,rfl,rfl,z0,o0,l0⟩
 obtain⟨y0_0,y0_1,y0_2,y0_3,y0_4,y0_5,y0_6,y0_7,y0_8,y0_9,rfl⟩:=E1 z0.size
 simp(disch:=omega) only[ae,K8,e1,hsz,aA,av,SX,SU,SL,reduceCtorEq,Nat.reduceAdd,Nat.reduceLeDiff,reduceIte]
 refine aM (rS (h1.app) (by omega)) ?_
 rintro r1 g1 ⟨t1,d1,U1,rfl,rfl,z1,o1,l1⟩
 obtain⟨y1_0,rfl⟩:=z1.one rfl
 simp(disch:=omega) only[ae,K8,e1,hsz,aA,av,SX,SU,SL,reduceCtorEq,Nat.reduceAdd,Nat.reduceLeDiff,reduceIte]
 refine⟨(t0++t1),_,_,by simp only[List.append_assoc],rfl,⟨_,rfl,(Rs.mk (z0.app) (Rs.mk z1 Rs.nil))⟩,?_⟩
 have fr:=(i4.step (i4.step (i4.nil h) z0.lt o0 l0) z1.lt o1 l1)
 simpa only[List.nil_append,List.append_nil,List.append_assoc]using fr.both
def Jp:AF:=⟨1,4,[.cell 2 3 true],(.seq (.ops [.i (.lbox 1 (.s 0)), .i (.lal 2 [.int .i64 0, .int .i64 0, .nils])]) (.seq (.ops [.i (.lal 3 [.int .i64 0, .int .i64 0, .nils])]) (.seq (.ops [qf 4 1 0,ql 5 1 4 1 false,qf 6 3 0,qs 3 6 5 1]) (.seq (.ops [qf 7 1 1,ql 8 1 7 1 false,qf 9 3 1,qs 3 9 8 1]) (.seq (.ops [qf 10 1 2,ql 11 1 10 1 false,qk 13 174 11,qf 13 3 2,qs 3 13 12 1]) (.seq (.ops [ql 14 3 3 3 true,qs 2 2 14 3]) .ret))))))⟩
theorem LA:cd 239=some Jp:=by kernel_rfl
theorem Gr:lB cd 239 dQ:=by
 intro h cs v S hv hw
 obtain⟨vs,rfl,q0⟩:=hv.st
 obtain⟨v0,r0,S0,T0,rfl,rfl,h0,q1⟩:=q0.step
 obtain⟨n0,e0,rfl,rfl,lo0,hi0⟩:=h0.int
 obtain⟨v1,r1,S1,T1,rfl,rfl,h1,q2⟩:=q1.step
 obtain⟨n1,e1,rfl,rfl,lo1,hi1⟩:=h1.int
 obtain⟨v2,r2,S2,T2,rfl,rfl,h2,q3⟩:=q2.step
 obtain⟨c2,e2⟩:=h2.one rfl
 rw[e2]at h2
 obtain⟨_,rfl,rfl⟩:=q3
 have hsz:cs.length=3:=hv.size
 simp only[Ty.size,Ty.bj,Nat.reduceAdd,Nat.zero_add,List.drop_zero]at e0 e1 e2 hsz
 simp only[wt,cQ]at hw
 refine aC LA rfl ?_
 simp(disch:=omega) only[ae,Jp,e0,e1,e2,hsz,aA,av,SX,SU,SL,reduceCtorEq,Nat.reduceAdd,Nat.reduceLeDiff,reduceIte]
 refine aM (eu h2 (by omega)) ?_
 rintro r0 g0 ⟨t0,d0,U0,rfl,rfl,z0,o0,l0⟩
 obtain⟨y0_0,rfl⟩:=z0.one rfl
 simp(disch:=omega) only[ae,Jp,e0,e1,e2,hsz,aA,av,SX,SU,SL,reduceCtorEq,Nat.reduceAdd,Nat.reduceLeDiff,reduceIte]
 refine⟨t0,_,_,by simp only[List.append_assoc],rfl,⟨_,rfl,(Rs.mk (Rp.mkInt lo0 hi0) (Rs.mk (Rp.mkInt lo1 hi1) (Rs.mk z0 Rs.nil)))⟩,?_⟩
 have fr:=(i4.step (i4.nil h) z0.lt o0 l0)
 simpa only[List.nil_append,List.append_nil,List.append_assoc]using fr.both
def LF:AF:=⟨1,5,[.tmp 2],(.seq (.ops [.i (.mov 2 (.c (.val false [.nils])))]) (.seq (.ops [qm 5 0,qn 6 5, .i (.mks 7 237 3 40 [.int .i64 0, .int .i64 0, .nils] (.s 6)),qm 3 7]) (.seq (.seq (.ops [.i (.mov 4 (qi 0))]) (.block 0 (.loop [21,20,19,18,17,16,15,14,13,12,11,10,9,8] (.seq (.seq (.ops [qm 8 4,qm 9 0,qn 10 9,qd 11 .lss 8 10]) (.cond (.s 11) .skip (.exit 0))) (.seq (.block 1 (.ops [qm 14 3,qm 15 4,qm 16 0,qm 17 4, .i (.iad 18 (.s 16) (.s 17) 3), .i (.ldh 19 (.s 18) 3 true),qk 21 239 19, .i (.iad 21 (.s 14) (.s 15) 3), .i (.sth (.s 21) (.s 20) 3)])) (.ops [qm 12 4, .i (.bin 13 .add (.s 12) (qi 1)),qm 4 13])))))) (.seq (.ops [qm 22 3,qm 2 22]) .ret))))⟩
theorem Lf:cd 176=some LF:=by kernel_rfl
theorem Et:lB cd 176 (.sl dQ):=GF Lf (by omega) rfl Gr
def Lp:AF:=⟨1,4,[.cell 2 2 true],(.seq (.ops [.i (.lbox 1 (.s 0)), .i (.lal 2 [.int .i64 0, .nils])]) (.seq (.ops [.i (.lal 3 [.int .i64 0, .nils])]) (.seq (.ops [qf 4 1 0,ql 5 1 4 1 false,qf 6 3 0,qs 3 6 5 1]) (.seq (.ops [qf 7 1 1,ql 8 1 7 1 false,qk 10 176 8,qf 10 3 1,qs 3 10 9 1]) (.seq (.ops [ql 11 3 3 2 true,qs 2 2 11 2]) .ret)))))⟩
theorem MH:cd 94=some Lp:=by kernel_rfl
theorem Kz:lB cd 94 Hq:=by
 intro h cs v S hv hw
 obtain⟨vs,rfl,q0⟩:=hv.st
 obtain⟨v0,r0,S0,T0,rfl,rfl,h0,q1⟩:=q0.step
 obtain⟨n0,e0,rfl,rfl,lo0,hi0⟩:=h0.int
 obtain⟨v1,r1,S1,T1,rfl,rfl,h1,q2⟩:=q1.step
 obtain⟨c1,e1⟩:=h1.one rfl
 rw[e1]at h1
 obtain⟨_,rfl,rfl⟩:=q2
 have hsz:cs.length=2:=hv.size
 simp only[Ty.size,Ty.bj,Nat.reduceAdd,Nat.zero_add,List.drop_zero]at e0 e1 hsz
 simp only[wt,cQ]at hw
 refine aC MH rfl ?_
 simp(disch:=omega) only[ae,Lp,e0,e1,hsz,aA,av,SX,SU,SL,reduceCtorEq,Nat.reduceAdd,Nat.reduceLeDiff,reduceIte]
 refine aM (Et h1 (by omega)) ?_
 rintro r0 g0 ⟨t0,d0,U0,rfl,rfl,z0,o0,l0⟩
 obtain⟨y0_0,rfl⟩:=z0.one rfl
 simp(disch:=omega) only[ae,Lp,e0,e1,hsz,aA,av,SX,SU,SL,reduceCtorEq,Nat.reduceAdd,Nat.reduceLeDiff,reduceIte]
 refine⟨t0,_,_,by simp only[List.append_assoc],rfl,⟨_,rfl,(Rs.mk (Rp.mkInt lo0 hi0) (Rs.mk z0 Rs.nil))⟩,?_⟩
 have fr:=(i4.step (i4.nil h) z0.lt o0 l0)
 simpa only[List.nil_append,List.append_nil,List.append_assoc]using fr.both
def Mx:AF:=⟨1,5,[.tmp 2],(.seq (.ops [.i (.mov 2 (.c (.val false [.nils])))]) (.seq (.ops [qm 5 0,qn 6 5, .i (.mks 7 40 10 160 qz (.s 6)),qm 3 7]) (.seq (.seq (.ops [.i (.mov 4 (qi 0))]) (.block 0 (.loop [21,20,19,18,17,16,15,14,13,12,11,10,9,8] (.seq (.seq (.ops [qm 8 4,qm 9 0,qn 10 9,qd 11 .lss 8 10]) (.cond (.s 11) .skip (.exit 0))) (.seq (.block 1 (.ops [qm 14 3,qm 15 4,qm 16 0,qm 17 4, .i (.iad 18 (.s 16) (.s 17) 10), .i (.ldh 19 (.s 18) 10 true),qk 21 92 19, .i (.iad 21 (.s 14) (.s 15) 10), .i (.sth (.s 21) (.s 20) 10)])) (.ops [qm 12 4, .i (.bin 13 .add (.s 12) (qi 1)),qm 4 13])))))) (.seq (.ops [qm 22 3,qm 2 22]) .ret))))⟩
theorem Mn:cd 69=some Mx:=by kernel_rfl
theorem EW:lB cd 69 (.sl cp):=GF Mn (by omega) rfl zr
def La:AF:=⟨1,4,[.cell 2 6 true],(.seq (.ops [.i (.lbox 1 (.s 0)), .i (.lal 2 [.nils, .int .i64 0, .int .i64 0, .nils, .nils, .nils])]) (.seq (.ops [.i (.lal 3 [.nils, .int .i64 0, .int .i64 0, .nils, .nils, .nils])]) (.seq (.ops [qf 4 1 0,ql 5 1 4 1 false,qk 7 69 5,qf 7 3 0,qs 3 7 6 1]) (.seq (.ops [qf 8 1 1,ql 9 1 8 5 true,qk 11 91 9,qf 11 3 1,qs 3 11 10 5]) (.seq (.ops [ql 12 3 3 6 true,qs 2 2 12 6]) .ret)))))⟩
theorem Mt:cd 95=some La:=by kernel_rfl
theorem GJ:lB cd 95 dU:=by
 intro h cs v S hv hw
 obtain⟨vs,rfl,q0⟩:=hv.st
 obtain⟨v0,r0,S0,T0,rfl,rfl,h0,q1⟩:=q0.step
 obtain⟨c0,e0⟩:=h0.one rfl
 rw[e0]at h0
 obtain⟨v1,r1,S1,T1,rfl,rfl,h1,q2⟩:=q1.step
 obtain⟨_,rfl,rfl⟩:=q2
 have hsz:cs.length=6:=hv.size
 simp only[Ty.size,Ty.bj,Nat.reduceAdd,Nat.zero_add,List.drop_zero]at e0 hsz h1
 simp only[wt,cQ]at hw
 refine aC Mt rfl ?_
 simp(disch:=omega) only[ae,La,e0,hsz,aA,av,SX,SU,SL,reduceCtorEq,Nat.reduceAdd,Nat.reduceLeDiff,reduceIte]
 refine aM (EW h0 (by omega)) ?_
 rintro r0 g0 ⟨t0,d0,U0,rfl,rfl,z0,o0,l0⟩
 obtain⟨y0_0,rfl⟩:=z0.one rfl
 simp(disch:=omega) only[ae,La,e0,hsz,aA,av,SX,SU,SL,reduceCtorEq,Nat.reduceAdd,Nat.reduceLeDiff,reduceIte]
 refine aM (E3 (h1.app) (by omega)) ?_
 rintro r1 g1 ⟨t1,d1,U1,rfl,rfl,z1,o1,l1⟩
 obtain⟨y1_0,y1_1,y1_2,y1_3,y1_4,rfl⟩:=B3 z1.size
 simp(disch:=omega) only[ae,La,e0,hsz,aA,av,SX,SU,SL,reduceCtorEq,Nat.reduceAdd,Nat.reduceLeDiff,reduceIte]
 refine⟨(t0++t1),_,_,by simp only[List.append_assoc],rfl,⟨_,rfl,(Rs.mk (z0.app) (Rs.mk z1 Rs.nil))⟩,?_⟩
 have fr:=(i4.step (i4.step (i4.nil h) z0.lt o0 l0) z1.lt o1 l1)
 simpa only[List.nil_append,List.append_nil,List.append_assoc]using fr.both
def Lc:AF:=⟨1,5,[.cell 2 5 true],(.seq (.ops [.i (.lbox 1 (.s 0)), .i (.lal 2 [.int .i64 0, .int .i64 0, .int .i64 0, .nils, .nils])]) (.seq (.ops [.i (.lal 3 [.int .i64 0, .int .i64 0, .int .i64 0, .nils, .nils])]) (.seq (.ops [qf 4 1 0,ql 5 1 4 1 false,qf 6 3 0,qs 3 6 5 1]) (.seq (.ops [qf 7 1 1,ql 8 1 7 1 false,qf 9 3 1,qs 3 9 8 1]) (.seq (.ops [qf 10 1 2,ql 11 1 10 1 false,qf 12 3 2,qs 3 12 11 1]) (.seq (.ops [qf 13 1 3,ql 14 1 13 1 false,qk 16 174 14,qf 16 3 3,qs 3 16 15 1]) (.seq (.ops [qf 17 1 4,ql 18 1 17 1 false,qk 20 175 18,qf 20 3 4,qs 3 20 19 1]) (.seq (.ops [ql 21 3 3 5 true,qs 2 2 21 5]) .ret))))))))⟩
theorem MB:cd 96=some Lc:=by kernel_rfl
theorem HZ:lB cd 96 tJ:=by
 intro h cs v S hv hw
 obtain⟨vs,rfl,q0⟩:=hv.st
 obtain⟨v0,r0,S0,T0,rfl,rfl,h0,q1⟩:=q0.step
 obtain⟨n0,e0,rfl,rfl,lo0,hi0⟩:=h0.int
 obtain⟨v1,r1,S1,T1,rfl,rfl,h1,q2⟩:=q1.step
 obtain⟨n1,e1,rfl,rfl,lo1,hi1⟩:=h1.int
 obtain⟨v2,r2,S2,T2,rfl,rfl,h2,q3⟩:=q2.step
 obtain⟨n2,e2,rfl,rfl,lo2,hi2⟩:=h2.int
 obtain⟨v3,r3,S3,T3,rfl,rfl,h3,q4⟩:=q3.step
 obtain⟨c3,e3⟩:=h3.one rfl
 rw[e3]at h3
 obtain⟨v4,r4,S4,T4,rfl,rfl,h4,q5⟩:=q4.step
 obtain⟨c4,e4⟩:=h4.one rfl
 rw[e4]at h4
 obtain⟨_,rfl,rfl⟩:=q5
 have hsz:cs.length=5:=hv.size
 simp only[Ty.size,Ty.bj,Nat.reduceAdd,Nat.zero_add,List.drop_zero]at e0 e1 e2 e3 e4 hsz
 simp only[wt,cQ]at hw
 refine aC MB rfl ?_
 simp(disch:=omega) only[ae,Lc,e0,e1,e2,e3,e4,hsz,aA,av,SX,SU,SL,reduceCtorEq,Nat.reduceAdd,Nat.reduceLeDiff,reduceIte]
 refine aM (eu h3 (by omega)) ?_
 rintro r0 g0 ⟨t0,d0,U0,rfl,rfl,z0,o0,l0⟩
 obtain⟨y0_0,rfl⟩:=z0.one rfl
 simp(disch:=omega) only[ae,Lc,e0,e1,e2,e3,e4,hsz,aA,av,SX,SU,SL,reduceCtorEq,Nat.reduceAdd,Nat.reduceLeDiff,reduceIte]
 refine aM (rS (h4.app) (by omega)) ?_
 rintro r1 g1 ⟨t1,d1,U1,rfl,rfl,z1,o1,l1⟩
 obtain⟨y1_0,rfl⟩:=z1.one rfl
 simp(disch:=omega) only[ae,Lc,e0,e1,e2,e3,e4,hsz,aA,av,SX,SU,SL,reduceCtorEq,Nat.reduceAdd,Nat.reduceLeDiff,reduceIte]
 refine⟨(t0++t1),_,_,by simp only[List.append_assoc],rfl,⟨_,rfl,(Rs.mk (Rp.mkInt lo0 hi0) (Rs.mk (Rp.mkInt lo1 hi1) (Rs.mk (Rp.mkInt lo2 hi2) (Rs.mk (z0.app) (Rs.mk z1 Rs.nil)))))⟩,?_⟩
 have fr:=(i4.step (i4.step (i4.nil h) z0.lt o0 l0) z1.lt o1 l1)
 simpa only[List.nil_append,List.append_nil,List.append_assoc]using fr.both
def Ih:AF:=⟨1,6,[.cell 2 45 true],(.seq (.ops [.i (.lbox 1 (.s 0)), .i (.lal 2 [.int .i64 0, .int .i64 0, .int .i64 0, .nils, .int .i64 0, .nils, .int .i64 0, .int .i64 0, .nils, .nils, .nils, .int .i64 0, .int .i64 0, .int .i64 0, .nils, .nils, .int .i64 0, .int .i64 0, .nils, .nils, .nils, .int .i64 0, .int .i64 0, .int .i64 0, .nils, .nils, .int .i64 0, .int .i64 0, .nils, .nils, .nils, .nils, .int .i64 0, .nils, .nils, .int .i64 0, .int .i64 0, .nils, .nils, .nils, .int .i64 0, .int .i64 0, .int .i64 0, .nils, .nils])]) (.seq (.ops [.i (.lal 3 [.int .i64 0, .int .i64 0, .int .i64 0, .nils, .int .i64 0, .nils, .int .i64 0, .int .i64 0, .nils, .nils, .nils, .int .i64 0, .int .i64 0, .int .i64 0, .nils, .nils, .int .i64 0, .int .i64 0, .nils, .nils, .nils, .int .i64 0, .int .i64 0, .int .i64 0, .nils, .nils, .int .i64 0, .int .i64 0, .nils, .nils, .nils, .nils, .int .i64 0, .nils, .nils, .int .i64 0, .int .i64 0, .nils, .nils, .nils, .int .i64 0, .int .i64 0, .int .i64 0, .nils, .nils])]) (.seq (.ops [qf 4 1 0,ql 5 1 4 1 false,qf 6 3 0,qs 3 6 5 1]) (.seq (.ops [qf 7 1 1,ql 8 1 7 5 true,qk 10 90 8,qf 10 3 1,qs 3 10 9 5]) (.seq (.ops [qf 11 1 6,ql 12 1 11 5 true,qk 14 91 12,qf 14 3 6,qs 3 14 13 5]) (.seq (.ops [qf 15 1 11,ql 16 1 15 10 true,qk 18 92 16,qf 18 3 11,qs 3 18 17 10]) (.seq (.ops [qf 19 1 21,ql 20 1 19 11 true,qk 22 93 20,qf 22 3 21,qs 3 22 21 11]) (.seq (.ops [qf 23 1 32,ql 24 1 23 2 true,qk 26 94 24,qf 26 3 32,qs 3 26 25 2]) (.seq (.ops [qf 27 1 34,ql 28 1 27 6 true,qk 30 95 28,qf 30 3 34,qs 3 30 29 6]) (.seq (.ops [qf 31 1 40,ql 32 1 31 5 true,qk 34 96 32,qf 34 3 40,qs 3 34 33 5]) (.seq (.ops [ql 35 3 3 45 true,qs 2 2 35 45]) .ret)))))))))))⟩
theorem Mw:cd 32=some Ih:=by kernel_rfl
theorem CE:lB cd 32 TMsg:=by
 intro h cs v S hv hw
 obtain⟨vs,rfl,q0⟩:=hv.st
 obtain⟨v0,r0,S0,T0,rfl,rfl,h0,q1⟩:=q0.step
 obtain⟨n0,e0,rfl,rfl,lo0,hi0⟩:=h0.int
 obtain⟨v1,r1,S1,T1,rfl,rfl,h1,q2⟩:=q1.step
 obtain⟨v2,r2,S2,T2,rfl,rfl,h2,q3⟩:=q2.step
 obtain⟨v3,r3,S3,T3,rfl,rfl,h3,q4⟩:=q3.step
 obtain⟨v4,r4,S4,T4,rfl,rfl,h4,q5⟩:=q4.step
 obtain⟨v5,r5,S5,T5,rfl,rfl,h5,q6⟩:=q5.step
 obtain⟨v6,r6,S6,T6,rfl,rfl,h6,q7⟩:=q6.step
 obtain⟨v7,r7,S7,T7,rfl,rfl,h7,q8⟩:=q7.step
 obtain⟨_,rfl,rfl⟩:=q8
 have hsz:cs.length=45:=hv.size
 simp only[Ty.size,Ty.bj,Nat.reduceAdd,Nat.zero_add,List.drop_zero]at e0 hsz h1 h2 h3 h4 h5 h6 h7
 simp only[wt,cQ]at hw
 refine aC Mw rfl ?_
 simp(disch:=omega) only[ae,Ih,e0,hsz,aA,av,SX,SU,SL,reduceCtorEq,Nat.reduceAdd,Nat.reduceLeDiff,reduceIte]
 refine aM (HN h1 (by omega)) ?_
 rintro r0 g0 ⟨t0,d0,U0,rfl,rfl,z0,o0,l0⟩
 obtain⟨y0_0,y0_1,y0_2,y0_3,y0_4,rfl⟩:=B3 z0.size
 simp(disch:=omega) only[ae,Ih,e0,hsz,aA,av,SX,SU,SL,reduceCtorEq,Nat.reduceAdd,Nat.reduceLeDiff,reduceIte]
 refine aM (E3 (h2.app) (by omega)) ?_
 rintro r1 g1 ⟨t1,d1,U1,rfl,rfl,z1,o1,l1⟩
 obtain⟨y1_0,y1_1,y1_2,y1_3,y1_4,rfl⟩:=B3 z1.size
 simp(disch:=omega) only[ae,Ih,e0,hsz,aA,av,SX,SU,SL,reduceCtorEq,Nat.reduceAdd,Nat.reduceLeDiff,reduceIte]
 refine aM (zr ((h3.app).app) (by omega)) ?_
 rintro r2 g2 ⟨t2,d2,U2,rfl,rfl,z2,o2,l2⟩
 obtain⟨y2_0,y2_1,y2_2,y2_3,y2_4,y2_5,y2_6,y2_7,y2_8,y2_9,rfl⟩:=E1 z2.size
 simp(disch:=omega) only[ae,Ih,e0,hsz,aA,av,SX,SU,SL,reduceCtorEq,Nat.reduceAdd,Nat.reduceLeDiff,reduceIte]
 refine aM (F8 (((h4.app).app).app) (by omega)) ?_
 rintro r3 g3 ⟨t3,d3,U3,rfl,rfl,z3,o3,l3⟩
 obtain⟨y3_0,y3_1,y3_2,y3_3,y3_4,y3_5,y3_6,y3_7,y3_8,y3_9,y3_10,rfl⟩:=JU z3.size
 simp(disch:=omega) only[ae,Ih,e0,hsz,aA,av,SX,SU,SL,reduceCtorEq,Nat.reduceAdd,Nat.reduceLeDiff,reduceIte]
 refine aM (Kz ((((h5.app).app).app).app) (by omega)) ?_
 rintro r4 g4 ⟨t4,d4,U4,rfl,rfl,z4,o4,l4⟩
 obtain⟨y4_0,y4_1,rfl⟩:=Kr z4.size
 simp(disch:=omega) only[ae,Ih,e0,hsz,aA,av,SX,SU,SL,reduceCtorEq,Nat.reduceAdd,Nat.reduceLeDiff,reduceIte]
 refine aM (GJ (((((h6.app).app).app).app).app) (by omega)) ?_
 rintro r5 g5 ⟨t5,d5,U5,rfl,rfl,z5,o5,l5⟩
 obtain⟨y5_0,y5_1,y5_2,y5_3,y5_4,y5_5,rfl⟩:=Ky z5.size
 simp(disch:=omega) only[ae,Ih,e0,hsz,aA,av,SX,SU,SL,reduceCtorEq,Nat.reduceAdd,Nat.reduceLeDiff,reduceIte]
 refine aM (HZ ((((((h7.app).app).app).app).app).app) (by omega)) ?_
 rintro r6 g6 ⟨t6,d6,U6,rfl,rfl,z6,o6,l6⟩
 obtain⟨y6_0,y6_1,y6_2,y6_3,y6_4,rfl⟩:=B3 z6.size
 simp(disch:=omega) only[ae,Ih,e0,hsz,aA,av,SX,SU,SL,reduceCtorEq,Nat.reduceAdd,Nat.reduceLeDiff,reduceIte]
 refine⟨(t0++(t1++(t2++(t3++(t4++(t5++t6)))))),_,_,by simp only[List.append_assoc],rfl,⟨_,rfl,(Rs.mk (Rp.mkInt lo0 hi0) (Rs.mk ((((((z0.app).app).app).app).app).app) (Rs.mk (((((z1.app).app).app).app).app) (Rs.mk ((((z2.app).app).app).app) (Rs.mk (((z3.app).app).app) (Rs.mk ((z4.app).app) (Rs.mk (z5.app) (Rs.mk z6 Rs.nil))))))))⟩,?_⟩
 have fr:=(i4.step (i4.step (i4.step (i4.step (i4.step (i4.step (i4.step (i4.nil h) z0.lt o0 l0) z1.lt o1 l1) z2.lt o2 l2) z3.lt o3 l3) z4.lt o4 l4) z5.lt o5 l5) z6.lt o6 l6)
 simpa only[List.nil_append,List.append_nil,List.append_assoc]using fr.both
def Mm:AF:=⟨2,5,[.tmp 4],(.seq (.ops [.i (.mov 4 (qb false))]) (.seq (.seq (.ops [qm 6 0,qn 7 6,qm 8 1,qn 9 8,qd 10 .neq 7 9]) (.cond (.s 10) (.seq (.ops [.i (.mov 4 (qb false))]) .ret) .skip)) (.seq (.seq (.ops [.i (.mov 5 (qi 0))]) (.block 0 (.loop [25,24,23,22,21,20,19,18,17,16,15,14,13,12,11] (.seq (.seq (.ops [qm 11 5,qm 12 0,qn 13 12,qd 14 .lss 11 13]) (.cond (.s 14) .skip (.exit 0))) (.seq (.block 1 (.seq (.ops [qm 17 0,qm 18 5, .i (.iad 19 (.s 17) (.s 18) 1), .i (.ldh 20 (.s 19) 1 false),qm 21 1,qm 22 5, .i (.iad 23 (.s 21) (.s 22) 1), .i (.ldh 24 (.s 23) 1 false),qd 25 .neq 20 24]) (.cond (.s 25) (.seq (.ops [.i (.mov 4 (qb false))]) .ret) .skip))) (.ops [qm 15 5, .i (.bin 16 .add (.s 15) (qi 1)),qm 5 16])))))) (.seq (.ops [.i (.mov 4 (qb true))]) .ret))))⟩
theorem Mp:cd 39=some Mm:=by kernel_rfl
theorem et:cG cd 39 (.sl (.int .u8)):=HY Mp
def uQ:AF:=⟨2,6,[.tmp 4],(.seq (.ops [.i (.lbox 2 (.s 0)), .i (.lbox 3 (.s 1)), .i (.mov 4 (qb false))]) (.seq (.seq (.ops [qf 5 2 0,ql 6 2 5 1 false,qf 7 3 0,ql 8 3 7 1 false,qd 9 .neq 6 8]) (.cond (.s 9) (.seq (.ops [.i (.mov 4 (qb false))]) .ret) .skip)) (.seq (.seq (.ops [qf 10 2 1,ql 11 2 10 1 false,qf 12 3 1,ql 13 3 12 1 false,qd 14 .neq 11 13]) (.cond (.s 14) (.seq (.ops [.i (.mov 4 (qb false))]) .ret) .skip)) (.seq (.seq (.ops [qf 15 2 2,ql 16 2 15 1 false,qf 17 3 2,ql 18 3 17 1 false, .i (.call 20 39 false [(.s 16),(.s 18)]), .i (.not 20 (.s 19))]) (.cond (.s 20) (.seq (.ops [.i (.mov 4 (qb false))]) .ret) .skip)) (.seq (.seq (.ops [qf 21 2 3,ql 22 2 21 1 false,qf 23 3 3,ql 24 3 23 1 false,qd 25 .neq 22 24]) (.cond (.s 25) (.seq (.ops [.i (.mov 4 (qb false))]) .ret) .skip)) (.seq (.seq (.ops [qf 26 2 4,ql 27 2 26 1 false,qf 28 3 4,ql 29 3 28 1 false, .i (.call 31 39 false [(.s 27),(.s 29)]), .i (.not 31 (.s 30))]) (.cond (.s 31) (.seq (.ops [.i (.mov 4 (qb false))]) .ret) .skip)) (.seq (.ops [.i (.mov 4 (qb true))]) .ret)))))))⟩
theorem Lh:cd 100=some uQ:=by kernel_rfl
theorem HL:cG cd 100 tn:=by
 intro h ca cb va vb Sa Sb ha hb
 obtain⟨avs,rfl,aq0⟩:=ha.st
 obtain⟨av0,ar0,aS0,aT0,rfl,rfl,ah0,aq1⟩:=aq0.step
 obtain⟨an0,ae0,rfl,rfl,alo0,ahi0⟩:=ah0.int
 obtain⟨av1,ar1,aS1,aT1,rfl,rfl,ah1,aq2⟩:=aq1.step
 obtain⟨an1,ae1,rfl,rfl,alo1,ahi1⟩:=ah1.int
 obtain⟨av2,ar2,aS2,aT2,rfl,rfl,ah2,aq3⟩:=aq2.step
 obtain⟨ac2,ae2⟩:=ah2.one rfl
 rw[ae2]at ah2
 obtain⟨av3,ar3,aS3,aT3,rfl,rfl,ah3,aq4⟩:=aq3.step
 obtain⟨an3,ae3,rfl,rfl,alo3,ahi3⟩:=ah3.int
 obtain⟨av4,ar4,aS4,aT4,rfl,rfl,ah4,aq5⟩:=aq4.step
 obtain⟨ac4,ae4⟩:=ah4.one rfl
 rw[ae4]at ah4
 obtain⟨_,rfl,rfl⟩:=aq5
 have ahsz:ca.length=5:=ha.size
 obtain⟨bvs,rfl,bq0⟩:=hb.st
 obtain⟨bv0,br0,bS0,bT0,rfl,rfl,bh0,bq1⟩:=bq0.step
 obtain⟨bn0,be0,rfl,rfl,blo0,bhi0⟩:=bh0.int
 obtain⟨bv1,br1,bS1,bT1,rfl,rfl,bh1,bq2⟩:=bq1.step
 obtain⟨bn1,be1,rfl,rfl,blo1,bhi1⟩:=bh1.int
 obtain⟨bv2,br2,bS2,bT2,rfl,rfl,bh2,bq3⟩:=bq2.step
 obtain⟨bc2,be2⟩:=bh2.one rfl
 rw[be2]at bh2
 obtain⟨bv3,br3,bS3,bT3,rfl,rfl,bh3,bq4⟩:=bq3.step
 obtain⟨bn3,be3,rfl,rfl,blo3,bhi3⟩:=bh3.int
 obtain⟨bv4,br4,bS4,bT4,rfl,rfl,bh4,bq5⟩:=bq4.step
 obtain⟨bc4,be4⟩:=bh4.one rfl
 rw[be4]at bh4
 obtain⟨_,rfl,rfl⟩:=bq5
 have bhsz:cb.length=5:=hb.size
 simp only[Ty.size,Ty.bj,Nat.reduceAdd,Nat.zero_add,List.drop_zero]at ae0 ae1 ae2 ae3 ae4 ahsz be0 be1 be2 be3 be4 bhsz
 refine aC Lh rfl ?_
 simp(disch:=omega) only[ae,uQ,ae0,ae1,ae2,ae3,ae4,ahsz,be0,be1,be2,be3,be4,bhsz,aA,av,SX,SU,SL,reduceCtorEq,Nat.reduceAdd,Nat.reduceLeDiff,reduceIte]
 refine aq (fun hn=> ?_) (fun hn=> ?_)
 case refine_1=>
  simp(disch:=omega) only[ae,uQ,ae0,ae1,ae2,ae3,ae4,ahsz,be0,be1,be2,be3,be4,bhsz,aA,av,SX,SU,SL,reduceCtorEq,Nat.reduceAdd,Nat.reduceLeDiff,reduceIte]
  simp[hn]
 have d0:an0=bn0:=by omega
 subst d0
 simp(disch:=omega) only[ae,uQ,ae0,ae1,ae2,ae3,ae4,ahsz,be0,be1,be2,be3,be4,bhsz,aA,av,SX,SU,SL,reduceCtorEq,Nat.reduceAdd,Nat.reduceLeDiff,reduceIte]
 refine aq (fun hn=> ?_) (fun hn=> ?_)
 case refine_1=>
  simp(disch:=omega) only[ae,uQ,ae0,ae1,ae2,ae3,ae4,ahsz,be0,be1,be2,be3,be4,bhsz,aA,av,SX,SU,SL,reduceCtorEq,Nat.reduceAdd,Nat.reduceLeDiff,reduceIte]
  simp[hn]
 have d1:an1=bn1:=by omega
 subst d1
 simp(disch:=omega) only[ae,uQ,ae0,ae1,ae2,ae3,ae4,ahsz,be0,be1,be2,be3,be4,bhsz,aA,av,SX,SU,SL,reduceCtorEq,Nat.reduceAdd,Nat.reduceLeDiff,reduceIte]
 refine cG.go et ah2 bh2 (fun d2=> ?_) (fun d2=> ?_)
 case refine_2=>
  simp(disch:=omega) only[ae,uQ,ae0,ae1,ae2,ae3,ae4,ahsz,be0,be1,be2,be3,be4,bhsz,aA,av,SX,SU,SL,reduceCtorEq,Nat.reduceAdd,Nat.reduceLeDiff,reduceIte]
  simp[d2]
 subst d2
 simp(disch:=omega) only[ae,uQ,ae0,ae1,ae2,ae3,ae4,ahsz,be0,be1,be2,be3,be4,bhsz,aA,av,SX,SU,SL,reduceCtorEq,Nat.reduceAdd,Nat.reduceLeDiff,reduceIte]
 refine aq (fun hn=> ?_) (fun hn=> ?_)
 case refine_1=>
  simp(disch:=omega) only[ae,uQ,ae0,ae1,ae2,ae3,ae4,ahsz,be0,be1,be2,be3,be4,bhsz,aA,av,SX,SU,SL,reduceCtorEq,Nat.reduceAdd,Nat.reduceLeDiff,reduceIte]
  simp[hn]
 have d3:an3=bn3:=by omega
 subst d3
 simp(disch:=omega) only[ae,uQ,ae0,ae1,ae2,ae3,ae4,ahsz,be0,be1,be2,be3,be4,bhsz,aA,av,SX,SU,SL,reduceCtorEq,Nat.reduceAdd,Nat.reduceLeDiff,reduceIte]
 refine cG.go et ah4 bh4 (fun d4=> ?_) (fun d4=> ?_)
 case refine_2=>
  simp(disch:=omega) only[ae,uQ,ae0,ae1,ae2,ae3,ae4,ahsz,be0,be1,be2,be3,be4,bhsz,aA,av,SX,SU,SL,reduceCtorEq,Nat.reduceAdd,Nat.reduceLeDiff,reduceIte]
  simp[d4]
 subst d4
 simp(disch:=omega) only[ae,uQ,ae0,ae1,ae2,ae3,ae4,ahsz,be0,be1,be2,be3,be4,bhsz,aA,av,SX,SU,SL,reduceCtorEq,Nat.reduceAdd,Nat.reduceLeDiff,reduceIte]
def LK:AF:=⟨2,5,[.tmp 4],(.seq (.ops [.i (.mov 4 (qb false))]) (.seq (.seq (.ops [qm 6 0,qn 7 6,qm 8 1,qn 9 8,qd 10 .neq 7 9]) (.cond (.s 10) (.seq (.ops [.i (.mov 4 (qb false))]) .ret) .skip)) (.seq (.seq (.ops [.i (.mov 5 (qi 0))]) (.block 0 (.loop [26,25,24,23,22,21,20,19,18,17,16,15,14,13,12,11] (.seq (.seq (.ops [qm 11 5,qm 12 0,qn 13 12,qd 14 .lss 11 13]) (.cond (.s 14) .skip (.exit 0))) (.seq (.block 1 (.seq (.ops [qm 17 0,qm 18 5, .i (.iad 19 (.s 17) (.s 18) 1), .i (.ldh 20 (.s 19) 1 false),qm 21 1,qm 22 5, .i (.iad 23 (.s 21) (.s 22) 1), .i (.ldh 24 (.s 23) 1 false), .i (.call 26 39 false [(.s 20),(.s 24)]), .i (.not 26 (.s 25))]) (.cond (.s 26) (.seq (.ops [.i (.mov 4 (qb false))]) .ret) .skip))) (.ops [qm 15 5, .i (.bin 16 .add (.s 15) (qi 1)),qm 5 16])))))) (.seq (.ops [.i (.mov 4 (qb true))]) .ret))))⟩
theorem LP:cd 195=some LK:=by kernel_rfl
theorem sy:cG cd 195 (.sl (.sl (.int .u8))):=Ge LP et
def uy:AF:=⟨2,6,[.tmp 4],(.seq (.ops [.i (.lbox 2 (.s 0)), .i (.lbox 3 (.s 1)), .i (.mov 4 (qb false))]) (.seq (.seq (.ops [qf 5 2 0,ql 6 2 5 1 false,qf 7 3 0,ql 8 3 7 1 false,qd 9 .neq 6 8]) (.cond (.s 9) (.seq (.ops [.i (.mov 4 (qb false))]) .ret) .skip)) (.seq (.seq (.ops [qf 10 2 1,ql 11 2 10 1 false,qf 12 3 1,ql 13 3 12 1 false,qd 14 .neq 11 13]) (.cond (.s 14) (.seq (.ops [.i (.mov 4 (qb false))]) .ret) .skip)) (.seq (.seq (.ops [qf 15 2 2,ql 16 2 15 1 false,qf 17 3 2,ql 18 3 17 1 false, .i (.call 20 39 false [(.s 16),(.s 18)]), .i (.not 20 (.s 19))]) (.cond (.s 20) (.seq (.ops [.i (.mov 4 (qb false))]) .ret) .skip)) (.seq (.seq (.ops [qf 21 2 3,ql 22 2 21 1 false,qf 23 3 3,ql 24 3 23 1 false, .i (.call 26 39 false [(.s 22),(.s 24)]), .i (.not 26 (.s 25))]) (.cond (.s 26) (.seq (.ops [.i (.mov 4 (qb false))]) .ret) .skip)) (.seq (.seq (.ops [qf 27 2 4,ql 28 2 27 1 false,qf 29 3 4,ql 30 3 29 1 false, .i (.call 32 195 false [(.s 28),(.s 30)]), .i (.not 32 (.s 31))]) (.cond (.s 32) (.seq (.ops [.i (.mov 4 (qb false))]) .ret) .skip)) (.seq (.ops [.i (.mov 4 (qb true))]) .ret)))))))⟩
theorem LY:cd 101=some uy:=by kernel_rfl
theorem E6:cG cd 101 yJ:=by
 intro h ca cb va vb Sa Sb ha hb
 obtain⟨avs,rfl,aq0⟩:=ha.st
 obtain⟨av0,ar0,aS0,aT0,rfl,rfl,ah0,aq1⟩:=aq0.step
 obtain⟨an0,ae0,rfl,rfl,alo0,ahi0⟩:=ah0.int
 obtain⟨av1,ar1,aS1,aT1,rfl,rfl,ah1,aq2⟩:=aq1.step
 obtain⟨an1,ae1,rfl,rfl,alo1,ahi1⟩:=ah1.int
 obtain⟨av2,ar2,aS2,aT2,rfl,rfl,ah2,aq3⟩:=aq2.step
 obtain⟨ac2,ae2⟩:=ah2.one rfl
 rw[ae2]at ah2
 obtain⟨av3,ar3,aS3,aT3,rfl,rfl,ah3,aq4⟩:=aq3.step
 obtain⟨ac3,ae3⟩:=ah3.one rfl
 rw[ae3]at ah3
 obtain⟨av4,ar4,aS4,aT4,rfl,rfl,ah4,aq5⟩:=aq4.step
 obtain⟨ac4,ae4⟩:=ah4.one rfl
 rw[ae4]at ah4
 obtain⟨_,rfl,rfl⟩:=aq5
 have ahsz:ca.length=5:=ha.size
 obtain⟨bvs,rfl,bq0⟩:=hb.st
 obtain⟨bv0,br0,bS0,bT0,rfl,rfl,bh0,bq1⟩:=bq0.step
 obtain⟨bn0,be0,rfl,rfl,blo0,bhi0⟩:=bh0.int
 obtain⟨bv1,br1,bS1,bT1,rfl,rfl,bh1,bq2⟩:=bq1.step
 obtain⟨bn1,be1,rfl,rfl,blo1,bhi1⟩:=bh1.int
 obtain⟨bv2,br2,bS2,bT2,rfl,rfl,bh2,bq3⟩:=bq2.step
 obtain⟨bc2,be2⟩:=bh2.one rfl
 rw[be2]at bh2
 obtain⟨bv3,br3,bS3,bT3,rfl,rfl,bh3,bq4⟩:=bq3.step
 obtain⟨bc3,be3⟩:=bh3.one rfl
 rw[be3]at bh3
 obtain⟨bv4,br4,bS4,bT4,rfl,rfl,bh4,bq5⟩:=bq4.step
 obtain⟨bc4,be4⟩:=bh4.one rfl
 rw[be4]at bh4
 obtain⟨_,rfl,rfl⟩:=bq5
 have bhsz:cb.length=5:=hb.size
 simp only[Ty.size,Ty.bj,Nat.reduceAdd,Nat.zero_add,List.drop_zero]at ae0 ae1 ae2 ae3 ae4 ahsz be0 be1 be2 be3 be4 bhsz
 refine aC LY rfl ?_
 simp(disch:=omega) only[ae,uy,ae0,ae1,ae2,ae3,ae4,ahsz,be0,be1,be2,be3,be4,bhsz,aA,av,SX,SU,SL,reduceCtorEq,Nat.reduceAdd,Nat.reduceLeDiff,reduceIte]
 refine aq (fun hn=> ?_) (fun hn=> ?_)
 case refine_1=>
  simp(disch:=omega) only[ae,uy,ae0,ae1,ae2,ae3,ae4,ahsz,be0,be1,be2,be3,be4,bhsz,aA,av,SX,SU,SL,reduceCtorEq,Nat.reduceAdd,Nat.reduceLeDiff,reduceIte]
  simp[hn]
 have d0:an0=bn0:=by omega
 subst d0
 simp(disch:=omega) only[ae,uy,ae0,ae1,ae2,ae3,ae4,ahsz,be0,be1,be2,be3,be4,bhsz,aA,av,SX,SU,SL,reduceCtorEq,Nat.reduceAdd,Nat.reduceLeDiff,reduceIte]
 refine aq (fun hn=> ?_) (fun hn=> ?_)
 case refine_1=>
  simp(disch:=omega) only[ae,uy,ae0,ae1,ae2,ae3,ae4,ahsz,be0,be1,be2,be3,be4,bhsz,aA,av,SX,SU,SL,reduceCtorEq,Nat.reduceAdd,Nat.reduceLeDiff,reduceIte]
  simp[hn]
 have d1:an1=bn1:=by omega
 subst d1
 simp(disch:=omega) only[ae,uy,ae0,ae1,ae2,ae3,ae4,ahsz,be0,be1,be2,be3,be4,bhsz,aA,av,SX,SU,SL,reduceCtorEq,Nat.reduceAdd,Nat.reduceLeDiff,reduceIte]
 refine cG.go et ah2 bh2 (fun d2=> ?_) (fun d2=> ?_)
 case refine_2=>
  simp(disch:=omega) only[ae,uy,ae0,ae1,ae2,ae3,ae4,ahsz,be0,be1,be2,be3,be4,bhsz,aA,av,SX,SU,SL,reduceCtorEq,Nat.reduceAdd,Nat.reduceLeDiff,reduceIte]
  simp[d2]
 subst d2
 simp(disch:=omega) only[ae,uy,ae0,ae1,ae2,ae3,ae4,ahsz,be0,be1,be2,be3,be4,bhsz,aA,av,SX,SU,SL,reduceCtorEq,Nat.reduceAdd,Nat.reduceLeDiff,reduceIte]
 refine cG.go et ah3 bh3 (fun d3=> ?_) (fun d3=> ?_)
 case refine_2=>
  simp(disch:=omega) only[ae,uy,ae0,ae1,ae2,ae3,ae4,ahsz,be0,be1,be2,be3,be4,bhsz,aA,av,SX,SU,SL,reduceCtorEq,Nat.reduceAdd,Nat.reduceLeDiff,reduceIte]
  simp[d3]
 subst d3
 simp(disch:=omega) only[ae,uy,ae0,ae1,ae2,ae3,ae4,ahsz,be0,be1,be2,be3,be4,bhsz,aA,av,SX,SU,SL,reduceCtorEq,Nat.reduceAdd,Nat.reduceLeDiff,reduceIte]
 refine cG.go sy ah4 bh4 (fun d4=> ?_) (fun d4=> ?_)
 case refine_2=>
  simp(disch:=omega) only[ae,uy,ae0,ae1,ae2,ae3,ae4,ahsz,be0,be1,be2,be3,be4,bhsz,aA,av,SX,SU,SL,reduceCtorEq,Nat.reduceAdd,Nat.reduceLeDiff,reduceIte]
  simp[d4]
 subst d4
 simp(disch:=omega) only[ae,uy,ae0,ae1,ae2,ae3,ae4,ahsz,be0,be1,be2,be3,be4,bhsz,aA,av,SX,SU,SL,reduceCtorEq,Nat.reduceAdd,Nat.reduceLeDiff,reduceIte]
def C6:AF:=⟨2,6,[.tmp 4],(.seq (.ops [.i (.lbox 2 (.s 0)), .i (.lbox 3 (.s 1)), .i (.mov 4 (qb false))]) (.seq (.seq (.ops [qf 5 2 0,ql 6 2 5 1 false,qf 7 3 0,ql 8 3 7 1 false,qd 9 .neq 6 8]) (.cond (.s 9) (.seq (.ops [.i (.mov 4 (qb false))]) .ret) .skip)) (.seq (.seq (.ops [qf 10 2 1,ql 11 2 10 1 false,qf 12 3 1,ql 13 3 12 1 false,qd 14 .neq 11 13]) (.cond (.s 14) (.seq (.ops [.i (.mov 4 (qb false))]) .ret) .skip)) (.seq (.seq (.ops [qf 15 2 2,ql 16 2 15 1 false,qf 17 3 2,ql 18 3 17 1 false,qd 19 .neq 16 18]) (.cond (.s 19) (.seq (.ops [.i (.mov 4 (qb false))]) .ret) .skip)) (.seq (.seq (.ops [qf 20 2 3,ql 21 2 20 1 false,qf 22 3 3,ql 23 3 22 1 false, .i (.call 25 39 false [(.s 21),(.s 23)]), .i (.not 25 (.s 24))]) (.cond (.s 25) (.seq (.ops [.i (.mov 4 (qb false))]) .ret) .skip)) (.seq (.seq (.ops [qf 26 2 4,ql 27 2 26 1 false,qf 28 3 4,ql 29 3 28 1 false, .i (.call 31 39 false [(.s 27),(.s 29)]), .i (.not 31 (.s 30))]) (.cond (.s 31) (.seq (.ops [.i (.mov 4 (qb false))]) .ret) .skip)) (.seq (.seq (.ops [qf 32 2 5,ql 33 2 32 5 true,qf 34 3 5,ql 35 3 34 5 true, .i (.call 37 101 false [(.s 33),(.s 35)]), .i (.not 37 (.s 36))]) (.cond (.s 37) (.seq (.ops [.i (.mov 4 (qb false))]) .ret) .skip)) (.seq (.ops [.i (.mov 4 (qb true))]) .ret))))))))⟩
theorem ML:cd 73=some C6:=by kernel_rfl
theorem z9:cG cd 73 cp:=by
 intro h ca cb va vb Sa Sb ha hb
 obtain⟨avs,rfl,aq0⟩:=ha.st
 obtain⟨av0,ar0,aS0,aT0,rfl,rfl,ah0,aq1⟩:=aq0.step
 obtain⟨an0,ae0,rfl,rfl,alo0,ahi0⟩:=ah0.int
 obtain⟨av1,ar1,aS1,aT1,rfl,rfl,ah1,aq2⟩:=aq1.step
 obtain⟨an1,ae1,rfl,rfl,alo1,ahi1⟩:=ah1.int
 obtain⟨av2,ar2,aS2,aT2,rfl,rfl,ah2,aq3⟩:=aq2.step
 obtain⟨an2,ae2,rfl,rfl,alo2,ahi2⟩:=ah2.int
 obtain⟨av3,ar3,aS3,aT3,rfl,rfl,ah3,aq4⟩:=aq3.step
 obtain⟨ac3,ae3⟩:=ah3.one rfl
 rw[ae3]at ah3
 obtain⟨av4,ar4,aS4,aT4,rfl,rfl,ah4,aq5⟩:=aq4.step
 obtain⟨ac4,ae4⟩:=ah4.one rfl
 rw[ae4]at ah4
 obtain⟨av5,ar5,aS5,aT5,rfl,rfl,ah5,aq6⟩:=aq5.step
 obtain⟨_,rfl,rfl⟩:=aq6
 have ahsz:ca.length=10:=ha.size
 obtain⟨bvs,rfl,bq0⟩:=hb.st
 obtain⟨bv0,br0,bS0,bT0,rfl,rfl,bh0,bq1⟩:=bq0.step
 obtain⟨bn0,be0,rfl,rfl,blo0,bhi0⟩:=bh0.int
 obtain⟨bv1,br1,bS1,bT1,rfl,rfl,bh1,bq2⟩:=bq1.step
 obtain⟨bn1,be1,rfl,rfl,blo1,bhi1⟩:=bh1.int
 obtain⟨bv2,br2,bS2,bT2,rfl,rfl,bh2,bq3⟩:=bq2.step
 obtain⟨bn2,be2,rfl,rfl,blo2,bhi2⟩:=bh2.int
 obtain⟨bv3,br3,bS3,bT3,rfl,rfl,bh3,bq4⟩:=bq3.step
 obtain⟨bc3,be3⟩:=bh3.one rfl
 rw[be3]at bh3
 obtain⟨bv4,br4,bS4,bT4,rfl,rfl,bh4,bq5⟩:=bq4.step
 obtain⟨bc4,be4⟩:=bh4.one rfl
 rw[be4]at bh4
 obtain⟨bv5,br5,bS5,bT5,rfl,rfl,bh5,bq6⟩:=bq5.step
 obtain⟨_,rfl,rfl⟩:=bq6
 have bhsz:cb.length=10:=hb.size
 simp only[Ty.size,Ty.bj,Nat.reduceAdd,Nat.zero_add,List.drop_zero]at ae0 ae1 ae2 ae3 ae4 ahsz be0 be1 be2 be3 be4 bhsz ah5 bh5
 refine aC ML rfl ?_
 simp(disch:=omega) only[ae,C6,ae0,ae1,ae2,ae3,ae4,ahsz,be0,be1,be2,be3,be4,bhsz,aA,av,SX,SU,SL,reduceCtorEq,Nat.reduceAdd,Nat.reduceLeDiff,reduceIte]
 refine aq (fun hn=> ?_) (fun hn=> ?_)
 case refine_1=>
  simp(disch:=omega) only[ae,C6,ae0,ae1,ae2,ae3,ae4,ahsz,be0,be1,be2,be3,be4,bhsz,aA,av,SX,SU,SL,reduceCtorEq,Nat.reduceAdd,Nat.reduceLeDiff,reduceIte]
  simp[hn]
 have d0:an0=bn0:=by omega
 subst d0
 simp(disch:=omega) only[ae,C6,ae0,ae1,ae2,ae3,ae4,ahsz,be0,be1,be2,be3,be4,bhsz,aA,av,SX,SU,SL,reduceCtorEq,Nat.reduceAdd,Nat.reduceLeDiff,reduceIte]
 refine aq (fun hn=> ?_) (fun hn=> ?_)
 case refine_1=>
  simp(disch:=omega) only[ae,C6,ae0,ae1,ae2,ae3,ae4,ahsz,be0,be1,be2,be3,be4,bhsz,aA,av,SX,SU,SL,reduceCtorEq,Nat.reduceAdd,Nat.reduceLeDiff,reduceIte]
  simp[hn]
 have d1:an1=bn1:=by omega
 subst d1
 simp(disch:=omega) only[ae,C6,ae0,ae1,ae2,ae3,ae4,ahsz,be0,be1,be2,be3,be4,bhsz,aA,av,SX,SU,SL,reduceCtorEq,Nat.reduceAdd,Nat.reduceLeDiff,reduceIte]
 refine aq (fun hn=> ?_) (fun hn=> ?_)
 case refine_1=>
  simp(disch:=omega) only[ae,C6,ae0,ae1,ae2,ae3,ae4,ahsz,be0,be1,be2,be3,be4,bhsz,aA,av,SX,SU,SL,reduceCtorEq,Nat.reduceAdd,Nat.reduceLeDiff,reduceIte]
  simp[hn]
 have d2:an2=bn2:=by omega
 subst d2
 simp(disch:=omega) only[ae,C6,ae0,ae1,ae2,ae3,ae4,ahsz,be0,be1,be2,be3,be4,bhsz,aA,av,SX,SU,SL,reduceCtorEq,Nat.reduceAdd,Nat.reduceLeDiff,reduceIte]
 refine cG.go et ah3 bh3 (fun d3=> ?_) (fun d3=> ?_)
 case refine_2=>
  simp(disch:=omega) only[ae,C6,ae0,ae1,ae2,ae3,ae4,ahsz,be0,be1,be2,be3,be4,bhsz,aA,av,SX,SU,SL,reduceCtorEq,Nat.reduceAdd,Nat.reduceLeDiff,reduceIte]
  simp[d3]
 subst d3
 simp(disch:=omega) only[ae,C6,ae0,ae1,ae2,ae3,ae4,ahsz,be0,be1,be2,be3,be4,bhsz,aA,av,SX,SU,SL,reduceCtorEq,Nat.reduceAdd,Nat.reduceLeDiff,reduceIte]
 refine cG.go et ah4 bh4 (fun d4=> ?_) (fun d4=> ?_)
 case refine_2=>
  simp(disch:=omega) only[ae,C6,ae0,ae1,ae2,ae3,ae4,ahsz,be0,be1,be2,be3,be4,bhsz,aA,av,SX,SU,SL,reduceCtorEq,Nat.reduceAdd,Nat.reduceLeDiff,reduceIte]
  simp[d4]
 subst d4
 simp(disch:=omega) only[ae,C6,ae0,ae1,ae2,ae3,ae4,ahsz,be0,be1,be2,be3,be4,bhsz,aA,av,SX,SU,SL,reduceCtorEq,Nat.reduceAdd,Nat.reduceLeDiff,reduceIte]
 refine cG.go E6 ah5 bh5 (fun d5=> ?_) (fun d5=> ?_)
 case refine_2=>
  simp(disch:=omega) only[ae,C6,ae0,ae1,ae2,ae3,ae4,ahsz,be0,be1,be2,be3,be4,bhsz,aA,av,SX,SU,SL,reduceCtorEq,Nat.reduceAdd,Nat.reduceLeDiff,reduceIte]
  simp[d5]
 subst d5
 simp(disch:=omega) only[ae,C6,ae0,ae1,ae2,ae3,ae4,ahsz,be0,be1,be2,be3,be4,bhsz,aA,av,SX,SU,SL,reduceCtorEq,Nat.reduceAdd,Nat.reduceLeDiff,reduceIte]
def D5:AF:=⟨2,5,[.tmp 4],(.seq (.ops [.i (.lbox 2 (.s 0)), .i (.lbox 3 (.s 1)), .i (.mov 4 (qb false))]) (.seq (.seq (.ops [qf 5 2 0,ql 6 2 5 10 true,qf 7 3 0,ql 8 3 7 10 true, .i (.call 10 73 false [(.s 6),(.s 8)]), .i (.not 10 (.s 9))]) (.cond (.s 10) (.seq (.ops [.i (.mov 4 (qb false))]) .ret) .skip)) (.seq (.seq (.ops [qf 11 2 10,ql 12 2 11 1 false,qf 13 3 10,ql 14 3 13 1 false, .i (.call 16 195 false [(.s 12),(.s 14)]), .i (.not 16 (.s 15))]) (.cond (.s 16) (.seq (.ops [.i (.mov 4 (qb false))]) .ret) .skip)) (.seq (.ops [.i (.mov 4 (qb true))]) .ret))))⟩
theorem LH:cd 102=some D5:=by kernel_rfl
theorem Gy:cG cd 102 fM:=by
 intro h ca cb va vb Sa Sb ha hb
 obtain⟨avs,rfl,aq0⟩:=ha.st
 obtain⟨av0,ar0,aS0,aT0,rfl,rfl,ah0,aq1⟩:=aq0.step
 obtain⟨av1,ar1,aS1,aT1,rfl,rfl,ah1,aq2⟩:=aq1.step
 obtain⟨ac1,ae1⟩:=ah1.one rfl
 rw[ae1]at ah1
 obtain⟨_,rfl,rfl⟩:=aq2
 have ahsz:ca.length=11:=ha.size
 obtain⟨bvs,rfl,bq0⟩:=hb.st
 obtain⟨bv0,br0,bS0,bT0,rfl,rfl,bh0,bq1⟩:=bq0.step
 obtain⟨bv1,br1,bS1,bT1,rfl,rfl,bh1,bq2⟩:=bq1.step
 obtain⟨bc1,be1⟩:=bh1.one rfl
 rw[be1]at bh1
 obtain⟨_,rfl,rfl⟩:=bq2
 have bhsz:cb.length=11:=hb.size
 simp only[Ty.size,Ty.bj,Nat.reduceAdd,Nat.zero_add,List.drop_zero]at ae1 ahsz be1 bhsz ah0 bh0
 refine aC LH rfl ?_
 simp(disch:=omega) only[ae,D5,ae1,ahsz,be1,bhsz,aA,av,SX,SU,SL,reduceCtorEq,Nat.reduceAdd,Nat.reduceLeDiff,reduceIte]
 refine cG.go z9 ah0 bh0 (fun d0=> ?_) (fun d0=> ?_)
 case refine_2=>
  simp(disch:=omega) only[ae,D5,ae1,ahsz,be1,bhsz,aA,av,SX,SU,SL,reduceCtorEq,Nat.reduceAdd,Nat.reduceLeDiff,reduceIte]
  simp[d0]
 subst d0
 simp(disch:=omega) only[ae,D5,ae1,ahsz,be1,bhsz,aA,av,SX,SU,SL,reduceCtorEq,Nat.reduceAdd,Nat.reduceLeDiff,reduceIte]
 refine cG.go sy ah1 bh1 (fun d1=> ?_) (fun d1=> ?_)
 case refine_2=>
  simp(disch:=omega) only[ae,D5,ae1,ahsz,be1,bhsz,aA,av,SX,SU,SL,reduceCtorEq,Nat.reduceAdd,Nat.reduceLeDiff,reduceIte]
  simp[d1]
 subst d1
 simp(disch:=omega) only[ae,D5,ae1,ahsz,be1,bhsz,aA,av,SX,SU,SL,reduceCtorEq,Nat.reduceAdd,Nat.reduceLeDiff,reduceIte]
def Ba:AF:=⟨2,5,[.tmp 4],(.seq (.ops [.i (.lbox 2 (.s 0)), .i (.lbox 3 (.s 1)), .i (.mov 4 (qb false))]) (.seq (.seq (.ops [qf 5 2 0,ql 6 2 5 1 false,qf 7 3 0,ql 8 3 7 1 false,qd 9 .neq 6 8]) (.cond (.s 9) (.seq (.ops [.i (.mov 4 (qb false))]) .ret) .skip)) (.seq (.seq (.ops [qf 10 2 1,ql 11 2 10 1 false,qf 12 3 1,ql 13 3 12 1 false,qd 14 .neq 11 13]) (.cond (.s 14) (.seq (.ops [.i (.mov 4 (qb false))]) .ret) .skip)) (.seq (.seq (.ops [qf 15 2 2,ql 16 2 15 1 false,qf 17 3 2,ql 18 3 17 1 false, .i (.call 20 39 false [(.s 16),(.s 18)]), .i (.not 20 (.s 19))]) (.cond (.s 20) (.seq (.ops [.i (.mov 4 (qb false))]) .ret) .skip)) (.seq (.ops [.i (.mov 4 (qb true))]) .ret)))))⟩
theorem Lk:cd 254=some Ba:=by kernel_rfl
theorem Gk:cG cd 254 dQ:=by
 intro h ca cb va vb Sa Sb ha hb
 obtain⟨avs,rfl,aq0⟩:=ha.st
 obtain⟨av0,ar0,aS0,aT0,rfl,rfl,ah0,aq1⟩:=aq0.step
 obtain⟨an0,ae0,rfl,rfl,alo0,ahi0⟩:=ah0.int
 obtain⟨av1,ar1,aS1,aT1,rfl,rfl,ah1,aq2⟩:=aq1.step
 obtain⟨an1,ae1,rfl,rfl,alo1,ahi1⟩:=ah1.int
 obtain⟨av2,ar2,aS2,aT2,rfl,rfl,ah2,aq3⟩:=aq2.step
 obtain⟨ac2,ae2⟩:=ah2.one rfl
 rw[ae2]at ah2
 obtain⟨_,rfl,rfl⟩:=aq3
 have ahsz:ca.length=3:=ha.size
 obtain⟨bvs,rfl,bq0⟩:=hb.st
 obtain⟨bv0,br0,bS0,bT0,rfl,rfl,bh0,bq1⟩:=bq0.step
 obtain⟨bn0,be0,rfl,rfl,blo0,bhi0⟩:=bh0.int
 obtain⟨bv1,br1,bS1,bT1,rfl,rfl,bh1,bq2⟩:=bq1.step
 obtain⟨bn1,be1,rfl,rfl,blo1,bhi1⟩:=bh1.int
 obtain⟨bv2,br2,bS2,bT2,rfl,rfl,bh2,bq3⟩:=bq2.step
 obtain⟨bc2,be2⟩:=bh2.one rfl
 rw[be2]at bh2
 obtain⟨_,rfl,rfl⟩:=bq3
 have bhsz:cb.length=3:=hb.size
 simp only[Ty.size,Ty.bj,Nat.reduceAdd,Nat.zero_add,List.drop_zero]at ae0 ae1 ae2 ahsz be0 be1 be2 bhsz
 refine aC Lk rfl ?_
 simp(disch:=omega) only[ae,Ba,ae0,ae1,ae2,ahsz,be0,be1,be2,bhsz,aA,av,SX,SU,SL,reduceCtorEq,Nat.reduceAdd,Nat.reduceLeDiff,reduceIte]
 refine aq (fun hn=> ?_) (fun hn=> ?_)
 case refine_1=>
  simp(disch:=omega) only[ae,Ba,ae0,ae1,ae2,ahsz,be0,be1,be2,bhsz,aA,av,SX,SU,SL,reduceCtorEq,Nat.reduceAdd,Nat.reduceLeDiff,reduceIte]
  simp[hn]
 have d0:an0=bn0:=by omega
 subst d0
 simp(disch:=omega) only[ae,Ba,ae0,ae1,ae2,ahsz,be0,be1,be2,bhsz,aA,av,SX,SU,SL,reduceCtorEq,Nat.reduceAdd,Nat.reduceLeDiff,reduceIte]
 refine aq (fun hn=> ?_) (fun hn=> ?_)
 case refine_1=>
  simp(disch:=omega) only[ae,Ba,ae0,ae1,ae2,ahsz,be0,be1,be2,bhsz,aA,av,SX,SU,SL,reduceCtorEq,Nat.reduceAdd,Nat.reduceLeDiff,reduceIte]
  simp[hn]
 have d1:an1=bn1:=by omega
 subst d1
 simp(disch:=omega) only[ae,Ba,ae0,ae1,ae2,ahsz,be0,be1,be2,bhsz,aA,av,SX,SU,SL,reduceCtorEq,Nat.reduceAdd,Nat.reduceLeDiff,reduceIte]
 refine cG.go et ah2 bh2 (fun d2=> ?_) (fun d2=> ?_)
 case refine_2=>
  simp(disch:=omega) only[ae,Ba,ae0,ae1,ae2,ahsz,be0,be1,be2,bhsz,aA,av,SX,SU,SL,reduceCtorEq,Nat.reduceAdd,Nat.reduceLeDiff,reduceIte]
  simp[d2]
 subst d2
 simp(disch:=omega) only[ae,Ba,ae0,ae1,ae2,ahsz,be0,be1,be2,bhsz,aA,av,SX,SU,SL,reduceCtorEq,Nat.reduceAdd,Nat.reduceLeDiff,reduceIte]
def Lr:AF:=⟨2,5,[.tmp 4],(.seq (.ops [.i (.mov 4 (qb false))]) (.seq (.seq (.ops [qm 6 0,qn 7 6,qm 8 1,qn 9 8,qd 10 .neq 7 9]) (.cond (.s 10) (.seq (.ops [.i (.mov 4 (qb false))]) .ret) .skip)) (.seq (.seq (.ops [.i (.mov 5 (qi 0))]) (.block 0 (.loop [26,25,24,23,22,21,20,19,18,17,16,15,14,13,12,11] (.seq (.seq (.ops [qm 11 5,qm 12 0,qn 13 12,qd 14 .lss 11 13]) (.cond (.s 14) .skip (.exit 0))) (.seq (.block 1 (.seq (.ops [qm 17 0,qm 18 5, .i (.iad 19 (.s 17) (.s 18) 3), .i (.ldh 20 (.s 19) 3 true),qm 21 1,qm 22 5, .i (.iad 23 (.s 21) (.s 22) 3), .i (.ldh 24 (.s 23) 3 true), .i (.call 26 254 false [(.s 20),(.s 24)]), .i (.not 26 (.s 25))]) (.cond (.s 26) (.seq (.ops [.i (.mov 4 (qb false))]) .ret) .skip))) (.ops [qm 15 5, .i (.bin 16 .add (.s 15) (qi 1)),qm 5 16])))))) (.seq (.ops [.i (.mov 4 (qb true))]) .ret))))⟩
theorem LI:cd 196=some Lr:=by kernel_rfl
theorem Eo:cG cd 196 (.sl dQ):=Ge LI Gk
def Ey:AF:=⟨2,5,[.tmp 4],(.seq (.ops [.i (.lbox 2 (.s 0)), .i (.lbox 3 (.s 1)), .i (.mov 4 (qb false))]) (.seq (.seq (.ops [qf 5 2 0,ql 6 2 5 1 false,qf 7 3 0,ql 8 3 7 1 false,qd 9 .neq 6 8]) (.cond (.s 9) (.seq (.ops [.i (.mov 4 (qb false))]) .ret) .skip)) (.seq (.seq (.ops [qf 10 2 1,ql 11 2 10 1 false,qf 12 3 1,ql 13 3 12 1 false, .i (.call 15 196 false [(.s 11),(.s 13)]), .i (.not 15 (.s 14))]) (.cond (.s 15) (.seq (.ops [.i (.mov 4 (qb false))]) .ret) .skip)) (.seq (.ops [.i (.mov 4 (qb true))]) .ret))))⟩
theorem LM:cd 103=some Ey:=by kernel_rfl
theorem KP:cG cd 103 Hq:=by
 intro h ca cb va vb Sa Sb ha hb
 obtain⟨avs,rfl,aq0⟩:=ha.st
 obtain⟨av0,ar0,aS0,aT0,rfl,rfl,ah0,aq1⟩:=aq0.step
 obtain⟨an0,ae0,rfl,rfl,alo0,ahi0⟩:=ah0.int
 obtain⟨av1,ar1,aS1,aT1,rfl,rfl,ah1,aq2⟩:=aq1.step
 obtain⟨ac1,ae1⟩:=ah1.one rfl
 rw[ae1]at ah1
 obtain⟨_,rfl,rfl⟩:=aq2
 have ahsz:ca.length=2:=ha.size
 obtain⟨bvs,rfl,bq0⟩:=hb.st
 obtain⟨bv0,br0,bS0,bT0,rfl,rfl,bh0,bq1⟩:=bq0.step
 obtain⟨bn0,be0,rfl,rfl,blo0,bhi0⟩:=bh0.int
 obtain⟨bv1,br1,bS1,bT1,rfl,rfl,bh1,bq2⟩:=bq1.step
 obtain⟨bc1,be1⟩:=bh1.one rfl
 rw[be1]at bh1
 obtain⟨_,rfl,rfl⟩:=bq2
 have bhsz:cb.length=2:=hb.size
 simp only[Ty.size,Ty.bj,Nat.reduceAdd,Nat.zero_add,List.drop_zero]at ae0 ae1 ahsz be0 be1 bhsz
 refine aC LM rfl ?_
 simp(disch:=omega) only[ae,Ey,ae0,ae1,ahsz,be0,be1,bhsz,aA,av,SX,SU,SL,reduceCtorEq,Nat.reduceAdd,Nat.reduceLeDiff,reduceIte]
 refine aq (fun hn=> ?_) (fun hn=> ?_)
 case refine_1=>
  simp(disch:=omega) only[ae,Ey,ae0,ae1,ahsz,be0,be1,bhsz,aA,av,SX,SU,SL,reduceCtorEq,Nat.reduceAdd,Nat.reduceLeDiff,reduceIte]
  simp[hn]
 have d0:an0=bn0:=by omega
 subst d0
 simp(disch:=omega) only[ae,Ey,ae0,ae1,ahsz,be0,be1,bhsz,aA,av,SX,SU,SL,reduceCtorEq,Nat.reduceAdd,Nat.reduceLeDiff,reduceIte]
 refine cG.go Eo ah1 bh1 (fun d1=> ?_) (fun d1=> ?_)
 case refine_2=>
  simp(disch:=omega) only[ae,Ey,ae0,ae1,ahsz,be0,be1,bhsz,aA,av,SX,SU,SL,reduceCtorEq,Nat.reduceAdd,Nat.reduceLeDiff,reduceIte]
  simp[d1]
 subst d1
 simp(disch:=omega) only[ae,Ey,ae0,ae1,ahsz,be0,be1,bhsz,aA,av,SX,SU,SL,reduceCtorEq,Nat.reduceAdd,Nat.reduceLeDiff,reduceIte]
def MG:AF:=⟨2,5,[.tmp 4],(.seq (.ops [.i (.mov 4 (qb false))]) (.seq (.seq (.ops [qm 6 0,qn 7 6,qm 8 1,qn 9 8,qd 10 .neq 7 9]) (.cond (.s 10) (.seq (.ops [.i (.mov 4 (qb false))]) .ret) .skip)) (.seq (.seq (.ops [.i (.mov 5 (qi 0))]) (.block 0 (.loop [26,25,24,23,22,21,20,19,18,17,16,15,14,13,12,11] (.seq (.seq (.ops [qm 11 5,qm 12 0,qn 13 12,qd 14 .lss 11 13]) (.cond (.s 14) .skip (.exit 0))) (.seq (.block 1 (.seq (.ops [qm 17 0,qm 18 5, .i (.iad 19 (.s 17) (.s 18) 10), .i (.ldh 20 (.s 19) 10 true),qm 21 1,qm 22 5, .i (.iad 23 (.s 21) (.s 22) 10), .i (.ldh 24 (.s 23) 10 true), .i (.call 26 73 false [(.s 20),(.s 24)]), .i (.not 26 (.s 25))]) (.cond (.s 26) (.seq (.ops [.i (.mov 4 (qb false))]) .ret) .skip))) (.ops [qm 15 5, .i (.bin 16 .add (.s 15) (qi 1)),qm 5 16])))))) (.seq (.ops [.i (.mov 4 (qb true))]) .ret))))⟩
theorem ME:cd 22=some MG:=by kernel_rfl
theorem Gt:cG cd 22 (.sl cp):=Ge ME z9
def ED:AF:=⟨2,5,[.tmp 4],(.seq (.ops [.i (.lbox 2 (.s 0)), .i (.lbox 3 (.s 1)), .i (.mov 4 (qb false))]) (.seq (.seq (.ops [qf 5 2 0,ql 6 2 5 1 false,qf 7 3 0,ql 8 3 7 1 false, .i (.call 10 22 false [(.s 6),(.s 8)]), .i (.not 10 (.s 9))]) (.cond (.s 10) (.seq (.ops [.i (.mov 4 (qb false))]) .ret) .skip)) (.seq (.seq (.ops [qf 11 2 1,ql 12 2 11 5 true,qf 13 3 1,ql 14 3 13 5 true, .i (.call 16 101 false [(.s 12),(.s 14)]), .i (.not 16 (.s 15))]) (.cond (.s 16) (.seq (.ops [.i (.mov 4 (qb false))]) .ret) .skip)) (.seq (.ops [.i (.mov 4 (qb true))]) .ret))))⟩
theorem LW:cd 104=some ED:=by kernel_rfl
theorem Fx:cG cd 104 dU:=by
 intro h ca cb va vb Sa Sb ha hb
 obtain⟨avs,rfl,aq0⟩:=ha.st
 obtain⟨av0,ar0,aS0,aT0,rfl,rfl,ah0,aq1⟩:=aq0.step
 obtain⟨ac0,ae0⟩:=ah0.one rfl
 rw[ae0]at ah0
 obtain⟨av1,ar1,aS1,aT1,rfl,rfl,ah1,aq2⟩:=aq1.step
 obtain⟨_,rfl,rfl⟩:=aq2
 have ahsz:ca.length=6:=ha.size
 obtain⟨bvs,rfl,bq0⟩:=hb.st
 obtain⟨bv0,br0,bS0,bT0,rfl,rfl,bh0,bq1⟩:=bq0.step
 obtain⟨bc0,be0⟩:=bh0.one rfl
 rw[be0]at bh0
 obtain⟨bv1,br1,bS1,bT1,rfl,rfl,bh1,bq2⟩:=bq1.step
 obtain⟨_,rfl,rfl⟩:=bq2
 have bhsz:cb.length=6:=hb.size
 simp only[Ty.size,Ty.bj,Nat.reduceAdd,Nat.zero_add,List.drop_zero]at ae0 ahsz be0 bhsz ah1 bh1
 refine aC LW rfl ?_
 simp(disch:=omega) only[ae,ED,ae0,ahsz,be0,bhsz,aA,av,SX,SU,SL,reduceCtorEq,Nat.reduceAdd,Nat.reduceLeDiff,reduceIte]
 refine cG.go Gt ah0 bh0 (fun d0=> ?_) (fun d0=> ?_)
 case refine_2=>
  simp(disch:=omega) only[ae,ED,ae0,ahsz,be0,bhsz,aA,av,SX,SU,SL,reduceCtorEq,Nat.reduceAdd,Nat.reduceLeDiff,reduceIte]
  simp[d0]
 subst d0
 simp(disch:=omega) only[ae,ED,ae0,ahsz,be0,bhsz,aA,av,SX,SU,SL,reduceCtorEq,Nat.reduceAdd,Nat.reduceLeDiff,reduceIte]
 refine cG.go E6 ah1 bh1 (fun d1=> ?_) (fun d1=> ?_)
 case refine_2=>
  simp(disch:=omega) only[ae,ED,ae0,ahsz,be0,bhsz,aA,av,SX,SU,SL,reduceCtorEq,Nat.reduceAdd,Nat.reduceLeDiff,reduceIte]
  simp[d1]
 subst d1
 simp(disch:=omega) only[ae,ED,ae0,ahsz,be0,bhsz,aA,av,SX,SU,SL,reduceCtorEq,Nat.reduceAdd,Nat.reduceLeDiff,reduceIte]
def uc:AF:=⟨2,6,[.tmp 4],(.seq (.ops [.i (.lbox 2 (.s 0)), .i (.lbox 3 (.s 1)), .i (.mov 4 (qb false))]) (.seq (.seq (.ops [qf 5 2 0,ql 6 2 5 1 false,qf 7 3 0,ql 8 3 7 1 false,qd 9 .neq 6 8]) (.cond (.s 9) (.seq (.ops [.i (.mov 4 (qb false))]) .ret) .skip)) (.seq (.seq (.ops [qf 10 2 1,ql 11 2 10 1 false,qf 12 3 1,ql 13 3 12 1 false,qd 14 .neq 11 13]) (.cond (.s 14) (.seq (.ops [.i (.mov 4 (qb false))]) .ret) .skip)) (.seq (.seq (.ops [qf 15 2 2,ql 16 2 15 1 false,qf 17 3 2,ql 18 3 17 1 false,qd 19 .neq 16 18]) (.cond (.s 19) (.seq (.ops [.i (.mov 4 (qb false))]) .ret) .skip)) (.seq (.seq (.ops [qf 20 2 3,ql 21 2 20 1 false,qf 22 3 3,ql 23 3 22 1 false, .i (.call 25 39 false [(.s 21),(.s 23)]), .i (.not 25 (.s 24))]) (.cond (.s 25) (.seq (.ops [.i (.mov 4 (qb false))]) .ret) .skip)) (.seq (.seq (.ops [qf 26 2 4,ql 27 2 26 1 false,qf 28 3 4,ql 29 3 28 1 false, .i (.call 31 195 false [(.s 27),(.s 29)]), .i (.not 31 (.s 30))]) (.cond (.s 31) (.seq (.ops [.i (.mov 4 (qb false))]) .ret) .skip)) (.seq (.ops [.i (.mov 4 (qb true))]) .ret)))))))⟩
theorem Lq:cd 105=some uc:=by kernel_rfl
end Go.Eng.U
namespace Go.Eng.U
theorem H0:cG cd 105 tJ:=by
 intro h ca cb va vb Sa Sb ha hb
 obtain⟨avs,rfl,aq0⟩:=ha.st
 obtain⟨av0,ar0,aS0,aT0,rfl,rfl,ah0,aq1⟩:=aq0.step
 obtain⟨an0,ae0,rfl,rfl,alo0,ahi0⟩:=ah0.int
 obtain⟨av1,ar1,aS1,aT1,rfl,rfl,ah1,aq2⟩:=aq1.step
 obtain⟨an1,ae1,rfl,rfl,alo1,ahi1⟩:=ah1.int
 obtain⟨av2,ar2,aS2,aT2,rfl,rfl,ah2,aq3⟩:=aq2.step
 obtain⟨an2,ae2,rfl,rfl,alo2,ahi2⟩:=ah2.int
 obtain⟨av3,ar3,aS3,aT3,rfl,rfl,ah3,aq4⟩:=aq3.step
 obtain⟨ac3,ae3⟩:=ah3.one rfl
 rw[ae3]at ah3
 obtain⟨av4,ar4,aS4,aT4,rfl,rfl,ah4,aq5⟩:=aq4.step
 obtain⟨ac4,ae4⟩:=ah4.one rfl
 rw[ae4]at ah4
 obtain⟨_,rfl,rfl⟩:=aq5
 have ahsz:ca.length=5:=ha.size
 obtain⟨bvs,rfl,bq0⟩:=hb.st
 obtain⟨bv0,br0,bS0,bT0,rfl,rfl,bh0,bq1⟩:=bq0.step
 obtain⟨bn0,be0,rfl,rfl,blo0,bhi0⟩:=bh0.int
 obtain⟨bv1,br1,bS1,bT1,rfl,rfl,bh1,bq2⟩:=bq1.step
 obtain⟨bn1,be1,rfl,rfl,blo1,bhi1⟩:=bh1.int
 obtain⟨bv2,br2,bS2,bT2,rfl,rfl,bh2,bq3⟩:=bq2.step
 obtain⟨bn2,be2,rfl,rfl,blo2,bhi2⟩:=bh2.int
 obtain⟨bv3,br3,bS3,bT3,rfl,rfl,bh3,bq4⟩:=bq3.step
 obtain⟨bc3,be3⟩:=bh3.one rfl
 rw[be3]at bh3
 obtain⟨bv4,br4,bS4,bT4,rfl,rfl,bh4,bq5⟩:=bq4.step
 obtain⟨bc4,be4⟩:=bh4.one rfl
 rw[be4]at bh4
 obtain⟨_,rfl,rfl⟩:=bq5
 have bhsz:cb.length=5:=hb.size
 simp only[Ty.size,Ty.bj,Nat.reduceAdd,Nat.zero_add,List.drop_zero]at ae0 ae1 ae2 ae3 ae4 ahsz be0 be1 be2 be3 be4 bhsz
 refine aC Lq rfl ?_
 simp(disch:=omega) only[ae,uc,ae0,ae1,ae2,ae3,ae4,ahsz,be0,be1,be2,be3,be4,bhsz,aA,av,SX,SU,SL,reduceCtorEq,Nat.reduceAdd,Nat.reduceLeDiff,reduceIte]
 refine aq (fun hn=> ?_) (fun hn=> ?_)
 case refine_1=>
  simp(disch:=omega) only[ae,uc,ae0,ae1,ae2,ae3,ae4,ahsz,be0,be1,be2,be3,be4,bhsz,aA,av,SX,SU,SL,reduceCtorEq,Nat.reduceAdd,Nat.reduceLeDiff,reduceIte]
  simp[hn]
 have d0:an0=bn0:=by omega
 subst d0
 simp(disch:=omega) only[ae,uc,ae0,ae1,ae2,ae3,ae4,ahsz,be0,be1,be2,be3,be4,bhsz,aA,av,SX,SU,SL,reduceCtorEq,Nat.reduceAdd,Nat.reduceLeDiff,reduceIte]
 refine aq (fun hn=> ?_) (fun hn=> ?_)
 case refine_1=>
  simp(disch:=omega) only[ae,uc,ae0,ae1,ae2,ae3,ae4,ahsz,be0,be1,be2,be3,be4,bhsz,aA,av,SX,SU,SL,reduceCtorEq,Nat.reduceAdd,Nat.reduceLeDiff,reduceIte]
  simp[hn]
 have d1:an1=bn1:=by omega
 subst d1
 simp(disch:=omega) only[ae,uc,ae0,ae1,ae2,ae3,ae4,ahsz,be0,be1,be2,be3,be4,bhsz,aA,av,SX,SU,SL,reduceCtorEq,Nat.reduceAdd,Nat.reduceLeDiff,reduceIte]
 refine aq (fun hn=> ?_) (fun hn=> ?_)
 case refine_1=>
  simp(disch:=omega) only[ae,uc,ae0,ae1,ae2,ae3,ae4,ahsz,be0,be1,be2,be3,be4,bhsz,aA,av,SX,SU,SL,reduceCtorEq,Nat.reduceAdd,Nat.reduceLeDiff,reduceIte]
  simp[hn]
 have d2:an2=bn2:=by omega
 subst d2
 simp(disch:=omega) only[ae,uc,ae0,ae1,ae2,ae3,ae4,ahsz,be0,be1,be2,be3,be4,bhsz,aA,av,SX,SU,SL,reduceCtorEq,Nat.reduceAdd,Nat.reduceLeDiff,reduceIte]
 refine cG.go et ah3 bh3 (fun d3=> ?_) (fun d3=> ?_)
 case refine_2=>
  simp(disch:=omega) only[ae,uc,ae0,ae1,ae2,ae3,ae4,ahsz,be0,be1,be2,be3,be4,bhsz,aA,av,SX,SU,SL,reduceCtorEq,Nat.reduceAdd,Nat.reduceLeDiff,reduceIte]
  simp[d3]
 subst d3
 simp(disch:=omega) only[ae,uc,ae0,ae1,ae2,ae3,ae4,ahsz,be0,be1,be2,be3,be4,bhsz,aA,av,SX,SU,SL,reduceCtorEq,Nat.reduceAdd,Nat.reduceLeDiff,reduceIte]
 refine cG.go sy ah4 bh4 (fun d4=> ?_) (fun d4=> ?_)
 case refine_2=>
  simp(disch:=omega) only[ae,uc,ae0,ae1,ae2,ae3,ae4,ahsz,be0,be1,be2,be3,be4,bhsz,aA,av,SX,SU,SL,reduceCtorEq,Nat.reduceAdd,Nat.reduceLeDiff,reduceIte]
  simp[d4]
 subst d4
 simp(disch:=omega) only[ae,uc,ae0,ae1,ae2,ae3,ae4,ahsz,be0,be1,be2,be3,be4,bhsz,aA,av,SX,SU,SL,reduceCtorEq,Nat.reduceAdd,Nat.reduceLeDiff,reduceIte]
def AK:AF:=⟨2,6,[.tmp 4],(.seq (.ops [.i (.lbox 2 (.s 0)), .i (.lbox 3 (.s 1)), .i (.mov 4 (qb false))]) (.seq (.seq (.ops [qf 5 2 0,ql 6 2 5 1 false,qf 7 3 0,ql 8 3 7 1 false,qd 9 .neq 6 8]) (.cond (.s 9) (.seq (.ops [.i (.mov 4 (qb false))]) .ret) .skip)) (.seq (.seq (.ops [qf 10 2 1,ql 11 2 10 5 true,qf 12 3 1,ql 13 3 12 5 true, .i (.call 15 100 false [(.s 11),(.s 13)]), .i (.not 15 (.s 14))]) (.cond (.s 15) (.seq (.ops [.i (.mov 4 (qb false))]) .ret) .skip)) (.seq (.seq (.ops [qf 16 2 6,ql 17 2 16 5 true,qf 18 3 6,ql 19 3 18 5 true, .i (.call 21 101 false [(.s 17),(.s 19)]), .i (.not 21 (.s 20))]) (.cond (.s 21) (.seq (.ops [.i (.mov 4 (qb false))]) .ret) .skip)) (.seq (.seq (.ops [qf 22 2 11,ql 23 2 22 10 true,qf 24 3 11,ql 25 3 24 10 true, .i (.call 27 73 false [(.s 23),(.s 25)]), .i (.not 27 (.s 26))]) (.cond (.s 27) (.seq (.ops [.i (.mov 4 (qb false))]) .ret) .skip)) (.seq (.seq (.ops [qf 28 2 21,ql 29 2 28 11 true,qf 30 3 21,ql 31 3 30 11 true, .i (.call 33 102 false [(.s 29),(.s 31)]), .i (.not 33 (.s 32))]) (.cond (.s 33) (.seq (.ops [.i (.mov 4 (qb false))]) .ret) .skip)) (.seq (.seq (.ops [qf 34 2 32,ql 35 2 34 2 true,qf 36 3 32,ql 37 3 36 2 true, .i (.call 39 103 false [(.s 35),(.s 37)]), .i (.not 39 (.s 38))]) (.cond (.s 39) (.seq (.ops [.i (.mov 4 (qb false))]) .ret) .skip)) (.seq (.seq (.ops [qf 40 2 34,ql 41 2 40 6 true,qf 42 3 34,ql 43 3 42 6 true, .i (.call 45 104 false [(.s 41),(.s 43)]), .i (.not 45 (.s 44))]) (.cond (.s 45) (.seq (.ops [.i (.mov 4 (qb false))]) .ret) .skip)) (.seq (.seq (.ops [qf 46 2 40,ql 47 2 46 5 true,qf 48 3 40,ql 49 3 48 5 true, .i (.call 51 105 false [(.s 47),(.s 49)]), .i (.not 51 (.s 50))]) (.cond (.s 51) (.seq (.ops [.i (.mov 4 (qb false))]) .ret) .skip)) (.seq (.ops [.i (.mov 4 (qb true))]) .ret))))))))))⟩
theorem MF:cd 34=some AK:=by kernel_rfl
theorem Jg:cG cd 34 TMsg:=by
 intro h ca cb va vb Sa Sb ha hb
 obtain⟨avs,rfl,aq0⟩:=ha.st
 obtain⟨av0,ar0,aS0,aT0,rfl,rfl,ah0,aq1⟩:=aq0.step
 obtain⟨an0,ae0,rfl,rfl,alo0,ahi0⟩:=ah0.int
 obtain⟨av1,ar1,aS1,aT1,rfl,rfl,ah1,aq2⟩:=aq1.step
 obtain⟨av2,ar2,aS2,aT2,rfl,rfl,ah2,aq3⟩:=aq2.step
 obtain⟨av3,ar3,aS3,aT3,rfl,rfl,ah3,aq4⟩:=aq3.step
 obtain⟨av4,ar4,aS4,aT4,rfl,rfl,ah4,aq5⟩:=aq4.step
 obtain⟨av5,ar5,aS5,aT5,rfl,rfl,ah5,aq6⟩:=aq5.step
 obtain⟨av6,ar6,aS6,aT6,rfl,rfl,ah6,aq7⟩:=aq6.step
 obtain⟨av7,ar7,aS7,aT7,rfl,rfl,ah7,aq8⟩:=aq7.step
 obtain⟨_,rfl,rfl⟩:=aq8
 have ahsz:ca.length=45:=ha.size
 obtain⟨bvs,rfl,bq0⟩:=hb.st
 obtain⟨bv0,br0,bS0,bT0,rfl,rfl,bh0,bq1⟩:=bq0.step
 obtain⟨bn0,be0,rfl,rfl,blo0,bhi0⟩:=bh0.int
 obtain⟨bv1,br1,bS1,bT1,rfl,rfl,bh1,bq2⟩:=bq1.step
 obtain⟨bv2,br2,bS2,bT2,rfl,rfl,bh2,bq3⟩:=bq2.step
 obtain⟨bv3,br3,bS3,bT3,rfl,rfl,bh3,bq4⟩:=bq3.step
 obtain⟨bv4,br4,bS4,bT4,rfl,rfl,bh4,bq5⟩:=bq4.step
 obtain⟨bv5,br5,bS5,bT5,rfl,rfl,bh5,bq6⟩:=bq5.step
 obtain⟨bv6,br6,bS6,bT6,rfl,rfl,bh6,bq7⟩:=bq6.step
 obtain⟨bv7,br7,bS7,bT7,rfl,rfl,bh7,bq8⟩:=bq7.step
 obtain⟨_,rfl,rfl⟩:=bq8
 have bhsz:cb.length=45:=hb.size
 simp only[Ty.size,Ty.bj,Nat.reduceAdd,Nat.zero_add,List.drop_zero]at ae0 ahsz be0 bhsz ah1 ah2 ah3 ah4 ah5 ah6 ah7 bh1 bh2 bh3 bh4 bh5 bh6 bh7
 refine aC MF rfl ?_
 simp(disch:=omega) only[ae,AK,ae0,ahsz,be0,bhsz,aA,av,SX,SU,SL,reduceCtorEq,Nat.reduceAdd,Nat.reduceLeDiff,reduceIte]
 refine aq (fun hn=> ?_) (fun hn=> ?_)
 case refine_1=>
  simp(disch:=omega) only[ae,AK,ae0,ahsz,be0,bhsz,aA,av,SX,SU,SL,reduceCtorEq,Nat.reduceAdd,Nat.reduceLeDiff,reduceIte]
  simp[hn]
 have d0:an0=bn0:=by omega
 subst d0
 simp(disch:=omega) only[ae,AK,ae0,ahsz,be0,bhsz,aA,av,SX,SU,SL,reduceCtorEq,Nat.reduceAdd,Nat.reduceLeDiff,reduceIte]
 refine cG.go HL ah1 bh1 (fun d1=> ?_) (fun d1=> ?_)
 case refine_2=>
  simp(disch:=omega) only[ae,AK,ae0,ahsz,be0,bhsz,aA,av,SX,SU,SL,reduceCtorEq,Nat.reduceAdd,Nat.reduceLeDiff,reduceIte]
  simp[d1]
 subst d1
 simp(disch:=omega) only[ae,AK,ae0,ahsz,be0,bhsz,aA,av,SX,SU,SL,reduceCtorEq,Nat.reduceAdd,Nat.reduceLeDiff,reduceIte]
 refine cG.go E6 ah2 bh2 (fun d2=> ?_) (fun d2=> ?_)
 case refine_2=>
  simp(disch:=omega) only[ae,AK,ae0,ahsz,be0,bhsz,aA,av,SX,SU,SL,reduceCtorEq,Nat.reduceAdd,Nat.reduceLeDiff,reduceIte]
  simp[d2]
 subst d2
 simp(disch:=omega) only[ae,AK,ae0,ahsz,be0,bhsz,aA,av,SX,SU,SL,reduceCtorEq,Nat.reduceAdd,Nat.reduceLeDiff,reduceIte]
 refine cG.go z9 ah3 bh3 (fun d3=> ?_) (fun d3=> ?_)
 case refine_2=>
  simp(disch:=omega) only[ae,AK,ae0,ahsz,be0,bhsz,aA,av,SX,SU,SL,reduceCtorEq,Nat.reduceAdd,Nat.reduceLeDiff,reduceIte]
  simp[d3]
 subst d3
 simp(disch:=omega) only[ae,AK,ae0,ahsz,be0,bhsz,aA,av,SX,SU,SL,reduceCtorEq,Nat.reduceAdd,Nat.reduceLeDiff,reduceIte]
 refine cG.go Gy ah4 bh4 (fun d4=> ?_) (fun d4=> ?_)
 case refine_2=>
  simp(disch:=omega) only[ae,AK,ae0,ahsz,be0,bhsz,aA,av,SX,SU,SL,reduceCtorEq,Nat.reduceAdd,Nat.reduceLeDiff,reduceIte]
  simp[d4]
 subst d4
 simp(disch:=omega) only[ae,AK,ae0,ahsz,be0,bhsz,aA,av,SX,SU,SL,reduceCtorEq,Nat.reduceAdd,Nat.reduceLeDiff,reduceIte]
 refine cG.go KP ah5 bh5 (fun d5=> ?_) (fun d5=> ?_)
 case refine_2=>
  simp(disch:=omega) only[ae,AK,ae0,ahsz,be0,bhsz,aA,av,SX,SU,SL,reduceCtorEq,Nat.reduceAdd,Nat.reduceLeDiff,reduceIte]
  simp[d5]
 subst d5
 simp(disch:=omega) only[ae,AK,ae0,ahsz,be0,bhsz,aA,av,SX,SU,SL,reduceCtorEq,Nat.reduceAdd,Nat.reduceLeDiff,reduceIte]
 refine cG.go Fx ah6 bh6 (fun d6=> ?_) (fun d6=> ?_)
 case refine_2=>
  simp(disch:=omega) only[ae,AK,ae0,ahsz,be0,bhsz,aA,av,SX,SU,SL,reduceCtorEq,Nat.reduceAdd,Nat.reduceLeDiff,reduceIte]
  simp[d6]
 subst d6
 simp(disch:=omega) only[ae,AK,ae0,ahsz,be0,bhsz,aA,av,SX,SU,SL,reduceCtorEq,Nat.reduceAdd,Nat.reduceLeDiff,reduceIte]
 refine cG.go H0 ah7 bh7 (fun d7=> ?_) (fun d7=> ?_)
 case refine_2=>
  simp(disch:=omega) only[ae,AK,ae0,ahsz,be0,bhsz,aA,av,SX,SU,SL,reduceCtorEq,Nat.reduceAdd,Nat.reduceLeDiff,reduceIte]
  simp[d7]
 subst d7
 simp(disch:=omega) only[ae,AK,ae0,ahsz,be0,bhsz,aA,av,SX,SU,SL,reduceCtorEq,Nat.reduceAdd,Nat.reduceLeDiff,reduceIte]
end Go.Eng.U
namespace Go.Eng.U
open Go.Eng.F (aB aY ej)
def c6:AF:=⟨2,6,[.tmp 4],(.seq (.ops [.i (.lbox 2 (.s 0)), .i (.lbox 3 (.s 1)), .i (.mov 4 (qb false))]) (.seq (.ops [.i (.mov 5 (qi 1048576))]) (.seq (.ops [ql 9 3 3 45 true,qm 10 5, .i (.call 12 29 false [(.s 9),(.s 10)]),qm 5 11]) (.seq (.seq (.ops [qm 12 5, .i (.bin 13 .lss (.s 12) (qi 0))]) (.cond (.s 13) (.seq (.ops [.i (.mov 4 (qb true))]) .ret) .skip)) (.seq (.ops [ql 14 2 2 5 true,qk 16 31 14,ql 16 3 3 45 true,qk 18 32 16, .i (.call 19 35 false [(.s 15),(.s 17)]),qm 6 18]) (.seq (.ops [ql 19 3 3 45 true,qk 21 32 19, .i (.lal 7 [.int .i64 0, .int .i64 0, .int .i64 0, .nils, .int .i64 0, .nils, .int .i64 0, .int .i64 0, .nils, .nils, .nils, .int .i64 0, .int .i64 0, .int .i64 0, .nils, .nils, .int .i64 0, .int .i64 0, .nils, .nils, .nils, .int .i64 0, .int .i64 0, .int .i64 0, .nils, .nils, .int .i64 0, .int .i64 0, .nils, .nils, .nils, .nils, .int .i64 0, .nils, .nils, .int .i64 0, .int .i64 0, .nils, .nils, .nils, .int .i64 0, .int .i64 0, .int .i64 0, .nils, .nils]),qs 7 7 20 45]) (.seq (.ops [ql 21 2 2 5 true,qk 23 31 21,ql 23 7 7 45 true, .i (.call 25 36 false [(.s 22),(.s 23)]),qm 8 24]) (.seq (.seq (.ops [qm 25 8,qm 26 6,qd 27 .neq 25 26]) (.cond (.s 27) (.seq (.ops [.i (.mov 4 (qb false))]) .ret) .skip)) (.seq (.seq (.ops [ql 28 7 7 45 true,ql 29 3 3 45 true,qk 31 32 29, .i (.call 32 34 false [(.s 28),(.s 30)]), .i (.not 32 (.s 31))]) (.cond (.s 32) (.seq (.ops [.i (.mov 4 (qb false))]) .ret) .skip)) (.seq (.ops [.i (.mov 4 (qb true))]) .ret))))))))))⟩
theorem k6:cd 6=some c6:=by kernel_rfl
theorem kC {h:H} {kk:IntKind} {c:C} {v:Tv} {S:List Nat} (hv:Rp h (.sl (.int kk)) [c] v S):zX c=some (wt v):=by
 obtain⟨c2,xs,id,off,bs,S',e,rfl,hm,hl,hat,hce,hbs,hel,hS⟩:=hv.view
 injection e with e
 subst e
 rw[hl]
 simp[wt,(u6 hel).1]
theorem law_MsgSize:∀h vs,y4 h [TLimits,TMsg] vs→WC cd 6 vs h (fun r _=>r= .val false [.bool true]):=by
 intro h vs ha
 obtain⟨cs0,v0,S0,r0,rfl,hv0,ha0⟩:=ha
 obtain⟨cs1,v1,S1,r1,rfl,hv1,ha1⟩:=ha0
 have hr0:r1= []:=ha1
 subst hr0
 have hsz0:cs0.length=5:=hv0.size
 have hall0:cs0.take 5=cs0:=List.take_of_length_le (by omega)
 have hsz1:cs1.length=45:=hv1.size
 have hall1:cs1.take 45=cs1:=List.take_of_length_le (by omega)
 obtain⟨l,rfl⟩:=aB.ex hv0.ok
 obtain⟨m,rfl⟩:=aY.ex hv1.ok
 have hl0:wt l.tv=0:=by simp[aB.tv,wt,cQ]
 have hc1:Ek TMsg m.tv≤56 * (1+wt m.tv):=Nat.le_trans (GC _ _) (CI _ _)
 refine aC k6 rfl ?_
 simp(disch:=omega) only[ae,c6,hsz0,hall0,hsz1,hall1,aA,av,gP,beq_self_eq_true,bne_self_eq_false,List.getElem?_cons_zero,List.getElem?_cons_succ,Bool.or_false,Bool.false_or,Bool.or_self,SX,SU,SL,reduceCtorEq,Nat.reduceAdd,Nat.reduceLeDiff,reduceIte]
 refine cI.go I9 hv1 (k:=1048576) (by omega) (fun hf1=> ?_) (fun hf1=> ?_)
 case refine_2=>
  simp(disch:=omega) only[ae,c6,hsz0,hall0,hsz1,hall1,aA,av,gP,beq_self_eq_true,bne_self_eq_false,List.getElem?_cons_zero,List.getElem?_cons_succ,Bool.or_false,Bool.false_or,Bool.or_self,SX,SU,SL,reduceCtorEq,Nat.reduceAdd,Nat.reduceLeDiff,reduceIte]
  refine aq (fun hn=> ?_) (fun hn=>absurd (show(-1:Int) < 0 by omega) hn)
  simp(disch:=omega) only[ae,c6,hsz0,hall0,hsz1,hall1,aA,av,gP,beq_self_eq_true,bne_self_eq_false,List.getElem?_cons_zero,List.getElem?_cons_succ,Bool.or_false,Bool.false_or,Bool.or_self,SX,SU,SL,reduceCtorEq,Nat.reduceAdd,Nat.reduceLeDiff,reduceIte]
 simp(disch:=omega) only[ae,c6,hsz0,hall0,hsz1,hall1,aA,av,gP,beq_self_eq_true,bne_self_eq_false,List.getElem?_cons_zero,List.getElem?_cons_succ,Bool.or_false,Bool.false_or,Bool.or_self,SX,SU,SL,reduceCtorEq,Nat.reduceAdd,Nat.reduceLeDiff,reduceIte]
 refine aq (fun hn=>absurd hn (by omega)) (fun hn=> ?_)
 simp(disch:=omega) only[ae,c6,hsz0,hall0,hsz1,hall1,aA,av,gP,beq_self_eq_true,bne_self_eq_false,List.getElem?_cons_zero,List.getElem?_cons_succ,Bool.or_false,Bool.false_or,Bool.or_self,SX,SU,SL,reduceCtorEq,Nat.reduceAdd,Nat.reduceLeDiff,reduceIte]
 refine aM (yF hv0 (by omega)) ?_
 rintro r0 g0 ⟨t0,d0,U0,hg0,rfl,z0,o0,l0⟩
 have n0:=fT hg0
 have b0:=z0.lt
 have hd0:d0.length=5:=z0.size
 have ht0:d0.take 5=d0:=List.take_of_length_le (by omega)
 simp(disch:=omega) only[ae,c6,hsz0,hall0,hsz1,hall1,hd0,ht0,aA,av,gP,beq_self_eq_true,bne_self_eq_false,List.getElem?_cons_zero,List.getElem?_cons_succ,Bool.or_false,Bool.false_or,Bool.or_self,SX,SU,SL,reduceCtorEq,Nat.reduceAdd,Nat.reduceLeDiff,reduceIte]
 refine aM (CE (Rp.i0 hg0 hv1) (by omega)) ?_
 rintro r1 g1 ⟨t1,d1,U1,hg1,rfl,z1,o1,l1⟩
 have n1:=fT hg1
 have b1:=z1.lt
 have hd1:d1.length=45:=z1.size
 have ht1:d1.take 45=d1:=List.take_of_length_le (by omega)
 have hs1_0:aQ [.int .i64 0, .int .i64 0, .int .i64 0, .nils, .int .i64 0, .nils, .int .i64 0, .int .i64 0, .nils, .nils, .nils, .int .i64 0, .int .i64 0, .int .i64 0, .nils, .nils, .int .i64 0, .int .i64 0, .nils, .nils, .nils, .int .i64 0, .int .i64 0, .int .i64 0, .nils, .nils, .int .i64 0, .int .i64 0, .nils, .nils, .nils, .nils, .int .i64 0, .nils, .nils, .int .i64 0, .int .i64 0, .nils, .nils, .nils, .int .i64 0, .int .i64 0, .int .i64 0, .nils, .nils] 0 d1=d1:=wL (by rw[hd1];rfl)
 simp(disch:=omega) only[ae,c6,hsz0,hall0,hsz1,hall1,hd0,ht0,hd1,ht1,hs1_0,aA,av,gP,beq_self_eq_true,bne_self_eq_false,List.getElem?_cons_zero,List.getElem?_cons_succ,Bool.or_false,Bool.false_or,Bool.or_self,SX,SU,SL,reduceCtorEq,Nat.reduceAdd,Nat.reduceLeDiff,reduceIte]
 refine aM (F.uS ⟨_,_,rfl,⟨_,(Rp.i0 hg1 z0)⟩,⟨_,_,rfl,⟨_,z1⟩,rfl⟩⟩ (by omega)) ?_
 rintro r2 g2 ⟨t2,css2,U2,hg2,rfl,zz2,o2,l2⟩
 have n2:=fT hg2
 obtain⟨d2_0,cr2_0,U2_0,V2_0,rfl,rfl,z2_0,zz2_0⟩:=zz2
 obtain⟨q2_0,rfl,hq2_0,rfl,qlo2_0,qhi2_0⟩:=z2_0.int
 injection hq2_0 with hq2_0;subst hq2_0
 obtain⟨rfl,rfl⟩:=zz2_0
 simp(disch:=omega) only[ae,c6,hsz0,hall0,hsz1,hall1,hd0,ht0,hd1,ht1,hs1_0,aA,av,gP,beq_self_eq_true,bne_self_eq_false,List.getElem?_cons_zero,List.getElem?_cons_succ,Bool.or_false,Bool.false_or,Bool.or_self,SX,SU,SL,reduceCtorEq,Nat.reduceAdd,Nat.reduceLeDiff,reduceIte]
 refine aM (CE (Rp.i0 hg2 (Rp.i0 hg1 (Rp.i0 hg0 hv1))) (by omega)) ?_
 rintro r3 g3 ⟨t3,d3,U3,hg3,rfl,z3,o3,l3⟩
 have n3:=fT hg3
 have b3:=z3.lt
 have hd3:d3.length=45:=z3.size
 have ht3:d3.take 45=d3:=List.take_of_length_le (by omega)
 have hs3_0:aQ [.int .i64 0, .int .i64 0, .int .i64 0, .nils, .int .i64 0, .nils, .int .i64 0, .int .i64 0, .nils, .nils, .nils, .int .i64 0, .int .i64 0, .int .i64 0, .nils, .nils, .int .i64 0, .int .i64 0, .nils, .nils, .nils, .int .i64 0, .int .i64 0, .int .i64 0, .nils, .nils, .int .i64 0, .int .i64 0, .nils, .nils, .nils, .nils, .int .i64 0, .nils, .nils, .int .i64 0, .int .i64 0, .nils, .nils, .nils, .int .i64 0, .int .i64 0, .int .i64 0, .nils, .nils] 0 d3=d3:=wL (by rw[hd3];rfl)
 simp(disch:=omega) only[ae,c6,hsz0,hall0,hsz1,hall1,hd0,ht0,hd1,ht1,hs1_0,hd3,ht3,hs3_0,aA,av,gP,beq_self_eq_true,bne_self_eq_false,List.getElem?_cons_zero,List.getElem?_cons_succ,Bool.or_false,Bool.false_or,Bool.or_self,SX,SU,SL,reduceCtorEq,Nat.reduceAdd,Nat.reduceLeDiff,reduceIte]
 refine aM (yF (Rp.i0 hg3 (Rp.i0 hg2 (Rp.i0 hg1 (Rp.i0 hg0 hv0)))) (by omega)) ?_
 rintro r4 g4 ⟨t4,d4,U4,hg4,rfl,z4,o4,l4⟩
 have n4:=fT hg4
 have b4:=z4.lt
 have hd4:d4.length=5:=z4.size
 have ht4:d4.take 5=d4:=List.take_of_length_le (by omega)
 simp(disch:=omega) only[ae,c6,hsz0,hall0,hsz1,hall1,hd0,ht0,hd1,ht1,hs1_0,hd3,ht3,hs3_0,hd4,ht4,aA,av,gP,beq_self_eq_true,bne_self_eq_false,List.getElem?_cons_zero,List.getElem?_cons_succ,Bool.or_false,Bool.false_or,Bool.or_self,SX,SU,SL,reduceCtorEq,Nat.reduceAdd,Nat.reduceLeDiff,reduceIte]
 refine aM (F.uX ⟨_,_,rfl,⟨_,z4⟩,⟨_,_,rfl,⟨_,(Rp.i0 hg4 z3)⟩,rfl⟩⟩ (by omega)) ?_
 rintro r5 g5 ⟨t5,css5,U5,hg5,rfl,zz5,o5,l5⟩
 have n5:=fT hg5
 obtain⟨d5_0,cr5_0,U5_0,V5_0,rfl,rfl,z5_0,zz5_0⟩:=zz5
 obtain⟨q5_0,rfl,hq5_0,rfl,qlo5_0,qhi5_0⟩:=z5_0.int
 injection hq5_0 with hq5_0;subst hq5_0
 obtain⟨rfl,rfl⟩:=zz5_0
 simp(disch:=omega) only[ae,c6,hsz0,hall0,hsz1,hall1,hd0,ht0,hd1,ht1,hs1_0,hd3,ht3,hs3_0,hd4,ht4,aA,av,gP,beq_self_eq_true,bne_self_eq_false,List.getElem?_cons_zero,List.getElem?_cons_succ,Bool.or_false,Bool.false_or,Bool.or_self,SX,SU,SL,reduceCtorEq,Nat.reduceAdd,Nat.reduceLeDiff,reduceIte]
 refine aM (CE (Rp.i0 hg5 (Rp.i0 hg4 (Rp.i0 hg3 (Rp.i0 hg2 (Rp.i0 hg1 (Rp.i0 hg0 hv1)))))) (by omega)) ?_
 rintro r6 g6 ⟨t6,d6,U6,hg6,rfl,z6,o6,l6⟩
 have n6:=fT hg6
 have b6:=z6.lt
 have hd6:d6.length=45:=z6.size
 have ht6:d6.take 45=d6:=List.take_of_length_le (by omega)
 have hs6_0:aQ [.int .i64 0, .int .i64 0, .int .i64 0, .nils, .int .i64 0, .nils, .int .i64 0, .int .i64 0, .nils, .nils, .nils, .int .i64 0, .int .i64 0, .int .i64 0, .nils, .nils, .int .i64 0, .int .i64 0, .nils, .nils, .nils, .int .i64 0, .int .i64 0, .int .i64 0, .nils, .nils, .int .i64 0, .int .i64 0, .nils, .nils, .nils, .nils, .int .i64 0, .nils, .nils, .int .i64 0, .int .i64 0, .nils, .nils, .nils, .int .i64 0, .int .i64 0, .int .i64 0, .nils, .nils] 0 d6=d6:=wL (by rw[hd6];rfl)
 simp(disch:=omega) only[ae,c6,hsz0,hall0,hsz1,hall1,hd0,ht0,hd1,ht1,hs1_0,hd3,ht3,hs3_0,hd4,ht4,hd6,ht6,hs6_0,aA,av,gP,beq_self_eq_true,bne_self_eq_false,List.getElem?_cons_zero,List.getElem?_cons_succ,Bool.or_false,Bool.false_or,Bool.or_self,SX,SU,SL,reduceCtorEq,Nat.reduceAdd,Nat.reduceLeDiff,reduceIte]
 refine cG.go Jg (Rp.i0 hg6 (Rp.i0 hg5 (Rp.i0 hg4 z3))) z6 (fun _=> ?_) (fun hne=>absurd rfl hne)
 simp(disch:=omega) only[ae,c6,hsz0,hall0,hsz1,hall1,hd0,ht0,hd1,ht1,hs1_0,hd3,ht3,hs3_0,hd4,ht4,hd6,ht6,hs6_0,aA,av,gP,beq_self_eq_true,bne_self_eq_false,List.getElem?_cons_zero,List.getElem?_cons_succ,Bool.or_false,Bool.false_or,Bool.or_self,SX,SU,SL,reduceCtorEq,Nat.reduceAdd,Nat.reduceLeDiff,reduceIte]
end Go.Eng.U
