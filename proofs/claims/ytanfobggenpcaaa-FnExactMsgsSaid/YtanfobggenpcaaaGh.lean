import Derived.Test.YtanfobggenpcaaaGb
import Derived.Test.YtanfobggenpcaaaGe
import Derived.Test.YtanfobggenpcaaaGf
import Derived.Test.YtanfobggenpcaaaGg
set_option maxRecDepth 100000
set_option maxHeartbeats 16000000
set_option linter.unusedSimpArgs false
set_option linter.unusedVariables false
namespace Go.Eng.U
def C3:AF:=⟨2,4,[.tmp 4],(.seq (.ops [.i (.mov 4 (qi 0))]) (.seq (.ops [qm 5 1,qm 6 0,qn 7 6,qd 8 .sub 5 7,qm 1 8]) (.seq (.seq (.ops [qm 9 1, .i (.bin 10 .lss (.s 9) (qi 0))]) (.cond (.s 10) (.seq (.ops [.i (.mov 4 (qi (-1)))]) .ret) .skip)) (.seq (.ops [qm 11 1,qm 4 11]) .ret))))⟩
theorem Dt:cd 74=some C3:=by kernel_rfl
theorem cX:bC cd 74 (.sl (.int .u8)):=xO Dt
theorem oO {l:List C} (h:l.length=5):∃x0 x1 x2 x3 x4,l= [x0,x1,x2,x3,x4]:=by
 rcases l with _|⟨x0,l⟩
 ·simp at h
 rcases l with _|⟨x1,l⟩
 ·simp at h
 rcases l with _|⟨x2,l⟩
 ·simp at h
 rcases l with _|⟨x3,l⟩
 ·simp at h
 rcases l with _|⟨x4,l⟩
 ·simp at h
 ·simp at h;exact⟨x0,x1,x2,x3,x4,by simp[h]⟩
def vP:AF:=⟨2,5,[.tmp 4],(.seq (.ops [.i (.lbox 2 (.s 0)), .i (.mov 4 (qi 0))]) (.seq (.ops [qf 5 2 2,ql 6 2 5 1 false,qm 7 1, .i (.call 9 74 false [(.s 6),(.s 7)]),qm 1 8]) (.seq (.seq (.ops [qm 9 1, .i (.bin 10 .lss (.s 9) (qi 0))]) (.cond (.s 10) (.seq (.ops [.i (.mov 4 (qi (-1)))]) .ret) .skip)) (.seq (.ops [qf 11 2 4,ql 12 2 11 1 false,qm 13 1, .i (.call 15 74 false [(.s 12),(.s 13)]),qm 1 14]) (.seq (.seq (.ops [qm 15 1, .i (.bin 16 .lss (.s 15) (qi 0))]) (.cond (.s 16) (.seq (.ops [.i (.mov 4 (qi (-1)))]) .ret) .skip)) (.seq (.ops [qm 17 1,qm 4 17]) .ret))))))⟩
theorem De:cd 50=some vP:=by kernel_rfl
theorem xE:bC cd 50 g8:=by
 intro h cs v S k hv hk
 obtain⟨vs,rfl,q0⟩:=hv.st
 obtain⟨v0,r0,S0,T0,rfl,rfl,h0,q1⟩:=q0.step
 obtain⟨n0,e0,rfl,rfl,lo0,hi0⟩:=h0.int
 obtain⟨v1,r1,S1,T1,rfl,rfl,h1,q2⟩:=q1.step
 obtain⟨n1,e1,rfl,rfl,lo1,hi1⟩:=h1.int
 obtain⟨v2,r2,S2,T2,rfl,rfl,h2,q3⟩:=q2.step
 obtain⟨c2,e2⟩:=h2.one rfl
 rw[e2]at h2
 obtain⟨v3,r3,S3,T3,rfl,rfl,h3,q4⟩:=q3.step
 obtain⟨n3,e3,rfl,rfl,lo3,hi3⟩:=h3.int
 obtain⟨v4,r4,S4,T4,rfl,rfl,h4,q5⟩:=q4.step
 obtain⟨c4,e4⟩:=h4.one rfl
 rw[e4]at h4
 obtain⟨_,rfl,rfl⟩:=q5
 have hsz:cs.length=5:=hv.size
 simp only[Ty.size,Ty.au,Nat.reduceAdd,Nat.zero_add,List.drop_zero]at e0 e1 e2 e3 e4 hsz
 have hw:wt (.r [.i n0, .i n1,v2, .i n3,v4])=wt v2+wt v4:=by simp only[wt,bI];omega
 rw[hw]
 refine an De rfl ?_
 simp(disch:=omega) only[vP,e0,e1,e2,e3,e4,hsz,ak,aj,SX,SU,SL,reduceCtorEq,Nat.reduceAdd,Nat.reduceLeDiff,reduceIte]
 refine bC.go cX h2 (k:=k) (by omega) (fun hf0=> ?_) (fun hf0=> ?_)
 case refine_2=>
  simp(disch:=omega) only[aa,vP,e0,e1,e2,e3,e4,hsz,ak,aj,SX,SU,SL,reduceCtorEq,Nat.reduceAdd,Nat.reduceLeDiff,reduceIte]
  refine ae (fun hn=> ?_) (fun hn=>absurd (show(-1:Int) < 0 by omega) hn)
  simp(disch:=omega) only[vP,e0,e1,e2,e3,e4,hsz,ak,aj,SX,SU,SL,reduceCtorEq,Nat.reduceAdd,Nat.reduceLeDiff,reduceIte]
  rw[if_neg (by omega)]
 simp(disch:=omega) only[aa,vP,e0,e1,e2,e3,e4,hsz,ak,aj,SX,SU,SL,reduceCtorEq,Nat.reduceAdd,Nat.reduceLeDiff,reduceIte]
 refine ae (fun hn=>absurd hn (by omega)) (fun hn=> ?_)
 simp(disch:=omega) only[vP,e0,e1,e2,e3,e4,hsz,ak,aj,SX,SU,SL,reduceCtorEq,Nat.reduceAdd,Nat.reduceLeDiff,reduceIte]
 refine bC.go cX h4 (k:=k - wt v2) (by omega) (fun hf1=> ?_) (fun hf1=> ?_)
 case refine_2=>
  simp(disch:=omega) only[aa,vP,e0,e1,e2,e3,e4,hsz,ak,aj,SX,SU,SL,reduceCtorEq,Nat.reduceAdd,Nat.reduceLeDiff,reduceIte]
  refine ae (fun hn=> ?_) (fun hn=>absurd (show(-1:Int) < 0 by omega) hn)
  simp(disch:=omega) only[vP,e0,e1,e2,e3,e4,hsz,ak,aj,SX,SU,SL,reduceCtorEq,Nat.reduceAdd,Nat.reduceLeDiff,reduceIte]
  rw[if_neg (by omega)]
 simp(disch:=omega) only[aa,vP,e0,e1,e2,e3,e4,hsz,ak,aj,SX,SU,SL,reduceCtorEq,Nat.reduceAdd,Nat.reduceLeDiff,reduceIte]
 refine ae (fun hn=>absurd hn (by omega)) (fun hn=> ?_)
 simp(disch:=omega) only[vP,e0,e1,e2,e3,e4,hsz,ak,aj,SX,SU,SL,reduceCtorEq,Nat.reduceAdd,Nat.reduceLeDiff,reduceIte]
 congr 3
 omega
def Dj:AF:=⟨2,5,[.tmp 4],(.seq (.ops [.i (.mov 4 (qi 0))]) (.seq (.ops [qm 6 1,qm 7 0,qn 8 7,qd 9 .sub 6 8,qm 1 9]) (.seq (.seq (.ops [qm 10 1, .i (.bin 11 .lss (.s 10) (qi 0))]) (.cond (.s 11) (.seq (.ops [.i (.mov 4 (qi (-1)))]) .ret) .skip)) (.seq (.seq (.ops [.i (.mov 5 (qi 0))]) (.block 0 (.loop [25,24,23,22,21,20,19,18,17,16,15,14,13,12] (.seq (.seq (.ops [qm 12 5,qm 13 0,qn 14 13,qd 15 .lss 12 14]) (.cond (.s 15) .skip (.exit 0))) (.seq (.block 1 (.seq (.ops [qm 18 0,qm 19 5, .i (.iad 20 (.s 18) (.s 19) 1), .i (.ldh 21 (.s 20) 1 false),qm 22 1, .i (.call 24 74 false [(.s 21),(.s 22)]),qm 1 23]) (.seq (.ops [qm 24 1, .i (.bin 25 .lss (.s 24) (qi 0))]) (.cond (.s 25) (.seq (.ops [.i (.mov 4 (qi (-1)))]) .ret) .skip)))) (.ops [qm 16 5, .i (.bin 17 .add (.s 16) (qi 1)),qm 5 17])))))) (.seq (.ops [qm 26 1,qm 4 26]) .ret)))))⟩
theorem DF:cd 75=some Dj:=by kernel_rfl
theorem jr:bC cd 75 (.sl (.sl (.int .u8))):=rn DF cX
def rb:AF:=⟨2,5,[.tmp 4],(.seq (.ops [.i (.lbox 2 (.s 0)), .i (.mov 4 (qi 0))]) (.seq (.ops [qf 5 2 2,ql 6 2 5 1 false,qm 7 1, .i (.call 9 74 false [(.s 6),(.s 7)]),qm 1 8]) (.seq (.seq (.ops [qm 9 1, .i (.bin 10 .lss (.s 9) (qi 0))]) (.cond (.s 10) (.seq (.ops [.i (.mov 4 (qi (-1)))]) .ret) .skip)) (.seq (.ops [qf 11 2 3,ql 12 2 11 1 false,qm 13 1, .i (.call 15 74 false [(.s 12),(.s 13)]),qm 1 14]) (.seq (.seq (.ops [qm 15 1, .i (.bin 16 .lss (.s 15) (qi 0))]) (.cond (.s 16) (.seq (.ops [.i (.mov 4 (qi (-1)))]) .ret) .skip)) (.seq (.ops [qf 17 2 4,ql 18 2 17 1 false,qm 19 1, .i (.call 21 75 false [(.s 18),(.s 19)]),qm 1 20]) (.seq (.seq (.ops [qm 21 1, .i (.bin 22 .lss (.s 21) (qi 0))]) (.cond (.s 22) (.seq (.ops [.i (.mov 4 (qi (-1)))]) .ret) .skip)) (.seq (.ops [qm 23 1,qm 4 23]) .ret))))))))⟩
theorem CJ:cd 51=some rb:=by kernel_rfl
theorem uV:bC cd 51 j8:=by
 intro h cs v S k hv hk
 obtain⟨vs,rfl,q0⟩:=hv.st
 obtain⟨v0,r0,S0,T0,rfl,rfl,h0,q1⟩:=q0.step
 obtain⟨n0,e0,rfl,rfl,lo0,hi0⟩:=h0.int
 obtain⟨v1,r1,S1,T1,rfl,rfl,h1,q2⟩:=q1.step
 obtain⟨n1,e1,rfl,rfl,lo1,hi1⟩:=h1.int
 obtain⟨v2,r2,S2,T2,rfl,rfl,h2,q3⟩:=q2.step
 obtain⟨c2,e2⟩:=h2.one rfl
 rw[e2]at h2
 obtain⟨v3,r3,S3,T3,rfl,rfl,h3,q4⟩:=q3.step
 obtain⟨c3,e3⟩:=h3.one rfl
 rw[e3]at h3
 obtain⟨v4,r4,S4,T4,rfl,rfl,h4,q5⟩:=q4.step
 obtain⟨c4,e4⟩:=h4.one rfl
 rw[e4]at h4
 obtain⟨_,rfl,rfl⟩:=q5
 have hsz:cs.length=5:=hv.size
 simp only[Ty.size,Ty.au,Nat.reduceAdd,Nat.zero_add,List.drop_zero]at e0 e1 e2 e3 e4 hsz
 have hw:wt (.r [.i n0, .i n1,v2,v3,v4])=wt v2+wt v3+wt v4:=by simp only[wt,bI];omega
 rw[hw]
 refine an CJ rfl ?_
 simp(disch:=omega) only[rb,e0,e1,e2,e3,e4,hsz,ak,aj,SX,SU,SL,reduceCtorEq,Nat.reduceAdd,Nat.reduceLeDiff,reduceIte]
 refine bC.go cX h2 (k:=k) (by omega) (fun hf0=> ?_) (fun hf0=> ?_)
 case refine_2=>
  simp(disch:=omega) only[aa,rb,e0,e1,e2,e3,e4,hsz,ak,aj,SX,SU,SL,reduceCtorEq,Nat.reduceAdd,Nat.reduceLeDiff,reduceIte]
  refine ae (fun hn=> ?_) (fun hn=>absurd (show(-1:Int) < 0 by omega) hn)
  simp(disch:=omega) only[rb,e0,e1,e2,e3,e4,hsz,ak,aj,SX,SU,SL,reduceCtorEq,Nat.reduceAdd,Nat.reduceLeDiff,reduceIte]
  rw[if_neg (by omega)]
 simp(disch:=omega) only[aa,rb,e0,e1,e2,e3,e4,hsz,ak,aj,SX,SU,SL,reduceCtorEq,Nat.reduceAdd,Nat.reduceLeDiff,reduceIte]
 refine ae (fun hn=>absurd hn (by omega)) (fun hn=> ?_)
 simp(disch:=omega) only[rb,e0,e1,e2,e3,e4,hsz,ak,aj,SX,SU,SL,reduceCtorEq,Nat.reduceAdd,Nat.reduceLeDiff,reduceIte]
 refine bC.go cX h3 (k:=k - wt v2) (by omega) (fun hf1=> ?_) (fun hf1=> ?_)
 case refine_2=>
  simp(disch:=omega) only[aa,rb,e0,e1,e2,e3,e4,hsz,ak,aj,SX,SU,SL,reduceCtorEq,Nat.reduceAdd,Nat.reduceLeDiff,reduceIte]
  refine ae (fun hn=> ?_) (fun hn=>absurd (show(-1:Int) < 0 by omega) hn)
  simp(disch:=omega) only[rb,e0,e1,e2,e3,e4,hsz,ak,aj,SX,SU,SL,reduceCtorEq,Nat.reduceAdd,Nat.reduceLeDiff,reduceIte]
  rw[if_neg (by omega)]
 simp(disch:=omega) only[aa,rb,e0,e1,e2,e3,e4,hsz,ak,aj,SX,SU,SL,reduceCtorEq,Nat.reduceAdd,Nat.reduceLeDiff,reduceIte]
 refine ae (fun hn=>absurd hn (by omega)) (fun hn=> ?_)
 simp(disch:=omega) only[rb,e0,e1,e2,e3,e4,hsz,ak,aj,SX,SU,SL,reduceCtorEq,Nat.reduceAdd,Nat.reduceLeDiff,reduceIte]
 refine bC.go jr h4 (k:=k - wt v2 - wt v3) (by omega) (fun hf2=> ?_) (fun hf2=> ?_)
 case refine_2=>
  simp(disch:=omega) only[aa,rb,e0,e1,e2,e3,e4,hsz,ak,aj,SX,SU,SL,reduceCtorEq,Nat.reduceAdd,Nat.reduceLeDiff,reduceIte]
  refine ae (fun hn=> ?_) (fun hn=>absurd (show(-1:Int) < 0 by omega) hn)
  simp(disch:=omega) only[rb,e0,e1,e2,e3,e4,hsz,ak,aj,SX,SU,SL,reduceCtorEq,Nat.reduceAdd,Nat.reduceLeDiff,reduceIte]
  rw[if_neg (by omega)]
 simp(disch:=omega) only[aa,rb,e0,e1,e2,e3,e4,hsz,ak,aj,SX,SU,SL,reduceCtorEq,Nat.reduceAdd,Nat.reduceLeDiff,reduceIte]
 refine ae (fun hn=>absurd hn (by omega)) (fun hn=> ?_)
 simp(disch:=omega) only[rb,e0,e1,e2,e3,e4,hsz,ak,aj,SX,SU,SL,reduceCtorEq,Nat.reduceAdd,Nat.reduceLeDiff,reduceIte]
 congr 3
 omega
theorem tt {l:List C} (h:l.length=10):∃x0 x1 x2 x3 x4 x5 x6 x7 x8 x9,l= [x0,x1,x2,x3,x4,x5,x6,x7,x8,x9]:=by
 rcases l with _|⟨x0,l⟩
 ·simp at h
 rcases l with _|⟨x1,l⟩
 ·simp at h
 rcases l with _|⟨x2,l⟩
 ·simp at h
 rcases l with _|⟨x3,l⟩
 ·simp at h
 rcases l with _|⟨x4,l⟩
 ·simp at h
 rcases l with _|⟨x5,l⟩
 ·simp at h
 rcases l with _|⟨x6,l⟩
 ·simp at h
 rcases l with _|⟨x7,l⟩
 ·simp at h
 rcases l with _|⟨x8,l⟩
 ·simp at h
 rcases l with _|⟨x9,l⟩
 ·simp at h
 ·simp at h;exact⟨x0,x1,x2,x3,x4,x5,x6,x7,x8,x9,by simp[h]⟩
def ri:AF:=⟨2,5,[.tmp 4],(.seq (.ops [.i (.lbox 2 (.s 0)), .i (.mov 4 (qi 0))]) (.seq (.ops [qf 5 2 3,ql 6 2 5 1 false,qm 7 1, .i (.call 9 74 false [(.s 6),(.s 7)]),qm 1 8]) (.seq (.seq (.ops [qm 9 1, .i (.bin 10 .lss (.s 9) (qi 0))]) (.cond (.s 10) (.seq (.ops [.i (.mov 4 (qi (-1)))]) .ret) .skip)) (.seq (.ops [qf 11 2 4,ql 12 2 11 1 false,qm 13 1, .i (.call 15 74 false [(.s 12),(.s 13)]),qm 1 14]) (.seq (.seq (.ops [qm 15 1, .i (.bin 16 .lss (.s 15) (qi 0))]) (.cond (.s 16) (.seq (.ops [.i (.mov 4 (qi (-1)))]) .ret) .skip)) (.seq (.ops [qf 17 2 5,ql 18 2 17 5 true,qm 19 1, .i (.call 21 51 false [(.s 18),(.s 19)]),qm 1 20]) (.seq (.seq (.ops [qm 21 1, .i (.bin 22 .lss (.s 21) (qi 0))]) (.cond (.s 22) (.seq (.ops [.i (.mov 4 (qi (-1)))]) .ret) .skip)) (.seq (.ops [qm 23 1,qm 4 23]) .ret))))))))⟩
theorem CC:cd 52=some ri:=by kernel_rfl
theorem nA:bC cd 52 bd:=by
 intro h cs v S k hv hk
 obtain⟨vs,rfl,q0⟩:=hv.st
 obtain⟨v0,r0,S0,T0,rfl,rfl,h0,q1⟩:=q0.step
 obtain⟨n0,e0,rfl,rfl,lo0,hi0⟩:=h0.int
 obtain⟨v1,r1,S1,T1,rfl,rfl,h1,q2⟩:=q1.step
 obtain⟨n1,e1,rfl,rfl,lo1,hi1⟩:=h1.int
 obtain⟨v2,r2,S2,T2,rfl,rfl,h2,q3⟩:=q2.step
 obtain⟨n2,e2,rfl,rfl,lo2,hi2⟩:=h2.int
 obtain⟨v3,r3,S3,T3,rfl,rfl,h3,q4⟩:=q3.step
 obtain⟨c3,e3⟩:=h3.one rfl
 rw[e3]at h3
 obtain⟨v4,r4,S4,T4,rfl,rfl,h4,q5⟩:=q4.step
 obtain⟨c4,e4⟩:=h4.one rfl
 rw[e4]at h4
 obtain⟨v5,r5,S5,T5,rfl,rfl,h5,q6⟩:=q5.step
 obtain⟨_,rfl,rfl⟩:=q6
 have hsz:cs.length=10:=hv.size
 simp only[Ty.size,Ty.au,Nat.reduceAdd,Nat.zero_add,List.drop_zero]at e0 e1 e2 e3 e4 hsz h5
 have hw:wt (.r [.i n0, .i n1, .i n2,v3,v4,v5])=wt v3+wt v4+wt v5:=by simp only[wt,bI];omega
 rw[hw]
 refine an CC rfl ?_
 simp(disch:=omega) only[ri,e0,e1,e2,e3,e4,hsz,ak,aj,SX,SU,SL,reduceCtorEq,Nat.reduceAdd,Nat.reduceLeDiff,reduceIte]
 refine bC.go cX h3 (k:=k) (by omega) (fun hf0=> ?_) (fun hf0=> ?_)
 case refine_2=>
  simp(disch:=omega) only[aa,ri,e0,e1,e2,e3,e4,hsz,ak,aj,SX,SU,SL,reduceCtorEq,Nat.reduceAdd,Nat.reduceLeDiff,reduceIte]
  refine ae (fun hn=> ?_) (fun hn=>absurd (show(-1:Int) < 0 by omega) hn)
  simp(disch:=omega) only[ri,e0,e1,e2,e3,e4,hsz,ak,aj,SX,SU,SL,reduceCtorEq,Nat.reduceAdd,Nat.reduceLeDiff,reduceIte]
  rw[if_neg (by omega)]
 simp(disch:=omega) only[aa,ri,e0,e1,e2,e3,e4,hsz,ak,aj,SX,SU,SL,reduceCtorEq,Nat.reduceAdd,Nat.reduceLeDiff,reduceIte]
 refine ae (fun hn=>absurd hn (by omega)) (fun hn=> ?_)
 simp(disch:=omega) only[ri,e0,e1,e2,e3,e4,hsz,ak,aj,SX,SU,SL,reduceCtorEq,Nat.reduceAdd,Nat.reduceLeDiff,reduceIte]
 refine bC.go cX h4 (k:=k - wt v3) (by omega) (fun hf1=> ?_) (fun hf1=> ?_)
 case refine_2=>
  simp(disch:=omega) only[aa,ri,e0,e1,e2,e3,e4,hsz,ak,aj,SX,SU,SL,reduceCtorEq,Nat.reduceAdd,Nat.reduceLeDiff,reduceIte]
  refine ae (fun hn=> ?_) (fun hn=>absurd (show(-1:Int) < 0 by omega) hn)
  simp(disch:=omega) only[ri,e0,e1,e2,e3,e4,hsz,ak,aj,SX,SU,SL,reduceCtorEq,Nat.reduceAdd,Nat.reduceLeDiff,reduceIte]
  rw[if_neg (by omega)]
 simp(disch:=omega) only[aa,ri,e0,e1,e2,e3,e4,hsz,ak,aj,SX,SU,SL,reduceCtorEq,Nat.reduceAdd,Nat.reduceLeDiff,reduceIte]
 refine ae (fun hn=>absurd hn (by omega)) (fun hn=> ?_)
 simp(disch:=omega) only[ri,e0,e1,e2,e3,e4,hsz,ak,aj,SX,SU,SL,reduceCtorEq,Nat.reduceAdd,Nat.reduceLeDiff,reduceIte]
 refine bC.go uV h5 (k:=k - wt v3 - wt v4) (by omega) (fun hf2=> ?_) (fun hf2=> ?_)
 case refine_2=>
  simp(disch:=omega) only[aa,ri,e0,e1,e2,e3,e4,hsz,ak,aj,SX,SU,SL,reduceCtorEq,Nat.reduceAdd,Nat.reduceLeDiff,reduceIte]
  refine ae (fun hn=> ?_) (fun hn=>absurd (show(-1:Int) < 0 by omega) hn)
  simp(disch:=omega) only[ri,e0,e1,e2,e3,e4,hsz,ak,aj,SX,SU,SL,reduceCtorEq,Nat.reduceAdd,Nat.reduceLeDiff,reduceIte]
  rw[if_neg (by omega)]
 simp(disch:=omega) only[aa,ri,e0,e1,e2,e3,e4,hsz,ak,aj,SX,SU,SL,reduceCtorEq,Nat.reduceAdd,Nat.reduceLeDiff,reduceIte]
 refine ae (fun hn=>absurd hn (by omega)) (fun hn=> ?_)
 simp(disch:=omega) only[ri,e0,e1,e2,e3,e4,hsz,ak,aj,SX,SU,SL,reduceCtorEq,Nat.reduceAdd,Nat.reduceLeDiff,reduceIte]
 congr 3
 omega
theorem yP {l:List C} (h:l.length=11):∃x0 x1 x2 x3 x4 x5 x6 x7 x8 x9 x10,l= [x0,x1,x2,x3,x4,x5,x6,x7,x8,x9,x10]:=by
 rcases l with _|⟨x0,l⟩
 ·simp at h
 rcases l with _|⟨x1,l⟩
 ·simp at h
 rcases l with _|⟨x2,l⟩
 ·simp at h
 rcases l with _|⟨x3,l⟩
 ·simp at h
 rcases l with _|⟨x4,l⟩
 ·simp at h
 rcases l with _|⟨x5,l⟩
 ·simp at h
 rcases l with _|⟨x6,l⟩
 ·simp at h
 rcases l with _|⟨x7,l⟩
 ·simp at h
 rcases l with _|⟨x8,l⟩
 ·simp at h
 rcases l with _|⟨x9,l⟩
 ·simp at h
 rcases l with _|⟨x10,l⟩
 ·simp at h
 ·simp at h;exact⟨x0,x1,x2,x3,x4,x5,x6,x7,x8,x9,x10,by simp[h]⟩
def vS:AF:=⟨2,5,[.tmp 4],(.seq (.ops [.i (.lbox 2 (.s 0)), .i (.mov 4 (qi 0))]) (.seq (.ops [qf 5 2 0,ql 6 2 5 10 true,qm 7 1, .i (.call 9 52 false [(.s 6),(.s 7)]),qm 1 8]) (.seq (.seq (.ops [qm 9 1, .i (.bin 10 .lss (.s 9) (qi 0))]) (.cond (.s 10) (.seq (.ops [.i (.mov 4 (qi (-1)))]) .ret) .skip)) (.seq (.ops [qf 11 2 10,ql 12 2 11 1 false,qm 13 1, .i (.call 15 75 false [(.s 12),(.s 13)]),qm 1 14]) (.seq (.seq (.ops [qm 15 1, .i (.bin 16 .lss (.s 15) (qi 0))]) (.cond (.s 16) (.seq (.ops [.i (.mov 4 (qi (-1)))]) .ret) .skip)) (.seq (.ops [qm 17 1,qm 4 17]) .ret))))))⟩
theorem DI:cd 53=some vS:=by kernel_rfl
theorem tH:bC cd 53 dc:=by
 intro h cs v S k hv hk
 obtain⟨vs,rfl,q0⟩:=hv.st
 obtain⟨v0,r0,S0,T0,rfl,rfl,h0,q1⟩:=q0.step
 obtain⟨v1,r1,S1,T1,rfl,rfl,h1,q2⟩:=q1.step
 obtain⟨c1,e1⟩:=h1.one rfl
 rw[e1]at h1
 obtain⟨_,rfl,rfl⟩:=q2
 have hsz:cs.length=11:=hv.size
 simp only[Ty.size,Ty.au,Nat.reduceAdd,Nat.zero_add,List.drop_zero]at e1 hsz h0
 have hw:wt (.r [v0,v1])=wt v0+wt v1:=by simp only[wt,bI];omega
 rw[hw]
 refine an DI rfl ?_
 simp(disch:=omega) only[vS,e1,hsz,ak,aj,SX,SU,SL,reduceCtorEq,Nat.reduceAdd,Nat.reduceLeDiff,reduceIte]
 refine bC.go nA h0 (k:=k) (by omega) (fun hf0=> ?_) (fun hf0=> ?_)
 case refine_2=>
  simp(disch:=omega) only[aa,vS,e1,hsz,ak,aj,SX,SU,SL,reduceCtorEq,Nat.reduceAdd,Nat.reduceLeDiff,reduceIte]
  refine ae (fun hn=> ?_) (fun hn=>absurd (show(-1:Int) < 0 by omega) hn)
  simp(disch:=omega) only[vS,e1,hsz,ak,aj,SX,SU,SL,reduceCtorEq,Nat.reduceAdd,Nat.reduceLeDiff,reduceIte]
  rw[if_neg (by omega)]
 simp(disch:=omega) only[aa,vS,e1,hsz,ak,aj,SX,SU,SL,reduceCtorEq,Nat.reduceAdd,Nat.reduceLeDiff,reduceIte]
 refine ae (fun hn=>absurd hn (by omega)) (fun hn=> ?_)
 simp(disch:=omega) only[vS,e1,hsz,ak,aj,SX,SU,SL,reduceCtorEq,Nat.reduceAdd,Nat.reduceLeDiff,reduceIte]
 refine bC.go jr h1 (k:=k - wt v0) (by omega) (fun hf1=> ?_) (fun hf1=> ?_)
 case refine_2=>
  simp(disch:=omega) only[aa,vS,e1,hsz,ak,aj,SX,SU,SL,reduceCtorEq,Nat.reduceAdd,Nat.reduceLeDiff,reduceIte]
  refine ae (fun hn=> ?_) (fun hn=>absurd (show(-1:Int) < 0 by omega) hn)
  simp(disch:=omega) only[vS,e1,hsz,ak,aj,SX,SU,SL,reduceCtorEq,Nat.reduceAdd,Nat.reduceLeDiff,reduceIte]
  rw[if_neg (by omega)]
 simp(disch:=omega) only[aa,vS,e1,hsz,ak,aj,SX,SU,SL,reduceCtorEq,Nat.reduceAdd,Nat.reduceLeDiff,reduceIte]
 refine ae (fun hn=>absurd hn (by omega)) (fun hn=> ?_)
 simp(disch:=omega) only[vS,e1,hsz,ak,aj,SX,SU,SL,reduceCtorEq,Nat.reduceAdd,Nat.reduceLeDiff,reduceIte]
 congr 3
 omega
def Aw:AF:=⟨2,4,[.tmp 4],(.seq (.ops [.i (.lbox 2 (.s 0)), .i (.mov 4 (qi 0))]) (.seq (.ops [qf 5 2 2,ql 6 2 5 1 false,qm 7 1, .i (.call 9 74 false [(.s 6),(.s 7)]),qm 1 8]) (.seq (.seq (.ops [qm 9 1, .i (.bin 10 .lss (.s 9) (qi 0))]) (.cond (.s 10) (.seq (.ops [.i (.mov 4 (qi (-1)))]) .ret) .skip)) (.seq (.ops [qm 11 1,qm 4 11]) .ret))))⟩
theorem Ds:cd 83=some Aw:=by kernel_rfl
theorem uy:bC cd 83 cg:=by
 intro h cs v S k hv hk
 obtain⟨vs,rfl,q0⟩:=hv.st
 obtain⟨v0,r0,S0,T0,rfl,rfl,h0,q1⟩:=q0.step
 obtain⟨n0,e0,rfl,rfl,lo0,hi0⟩:=h0.int
 obtain⟨v1,r1,S1,T1,rfl,rfl,h1,q2⟩:=q1.step
 obtain⟨n1,e1,rfl,rfl,lo1,hi1⟩:=h1.int
 obtain⟨v2,r2,S2,T2,rfl,rfl,h2,q3⟩:=q2.step
 obtain⟨c2,e2⟩:=h2.one rfl
 rw[e2]at h2
 obtain⟨_,rfl,rfl⟩:=q3
 have hsz:cs.length=3:=hv.size
 simp only[Ty.size,Ty.au,Nat.reduceAdd,Nat.zero_add,List.drop_zero]at e0 e1 e2 hsz
 have hw:wt (.r [.i n0, .i n1,v2])=wt v2:=by simp only[wt,bI];omega
 rw[hw]
 refine an Ds rfl ?_
 simp(disch:=omega) only[Aw,e0,e1,e2,hsz,ak,aj,SX,SU,SL,reduceCtorEq,Nat.reduceAdd,Nat.reduceLeDiff,reduceIte]
 refine bC.go cX h2 (k:=k) (by omega) (fun hf0=> ?_) (fun hf0=> ?_)
 case refine_2=>
  simp(disch:=omega) only[aa,Aw,e0,e1,e2,hsz,ak,aj,SX,SU,SL,reduceCtorEq,Nat.reduceAdd,Nat.reduceLeDiff,reduceIte]
  refine ae (fun hn=> ?_) (fun hn=>absurd (show(-1:Int) < 0 by omega) hn)
  simp(disch:=omega) only[Aw,e0,e1,e2,hsz,ak,aj,SX,SU,SL,reduceCtorEq,Nat.reduceAdd,Nat.reduceLeDiff,reduceIte]
  rw[if_neg (by omega)]
 simp(disch:=omega) only[aa,Aw,e0,e1,e2,hsz,ak,aj,SX,SU,SL,reduceCtorEq,Nat.reduceAdd,Nat.reduceLeDiff,reduceIte]
 refine ae (fun hn=>absurd hn (by omega)) (fun hn=> ?_)
 simp(disch:=omega) only[Aw,e0,e1,e2,hsz,ak,aj,SX,SU,SL,reduceCtorEq,Nat.reduceAdd,Nat.reduceLeDiff,reduceIte]
 congr 3
 omega
def Dc:AF:=⟨2,5,[.tmp 4],(.seq (.ops [.i (.mov 4 (qi 0))]) (.seq (.ops [qm 6 1,qm 7 0,qn 8 7,qd 9 .sub 6 8,qm 1 9]) (.seq (.seq (.ops [qm 10 1, .i (.bin 11 .lss (.s 10) (qi 0))]) (.cond (.s 11) (.seq (.ops [.i (.mov 4 (qi (-1)))]) .ret) .skip)) (.seq (.seq (.ops [.i (.mov 5 (qi 0))]) (.block 0 (.loop [25,24,23,22,21,20,19,18,17,16,15,14,13,12] (.seq (.seq (.ops [qm 12 5,qm 13 0,qn 14 13,qd 15 .lss 12 14]) (.cond (.s 15) .skip (.exit 0))) (.seq (.block 1 (.seq (.ops [qm 18 0,qm 19 5, .i (.iad 20 (.s 18) (.s 19) 3), .i (.ldh 21 (.s 20) 3 true),qm 22 1, .i (.call 24 83 false [(.s 21),(.s 22)]),qm 1 23]) (.seq (.ops [qm 24 1, .i (.bin 25 .lss (.s 24) (qi 0))]) (.cond (.s 25) (.seq (.ops [.i (.mov 4 (qi (-1)))]) .ret) .skip)))) (.ops [qm 16 5, .i (.bin 17 .add (.s 16) (qi 1)),qm 5 17])))))) (.seq (.ops [qm 26 1,qm 4 26]) .ret)))))⟩
theorem DP:cd 76=some Dc:=by kernel_rfl
theorem sL:bC cd 76 (.sl cg):=rn DP uy
theorem Bd {l:List C} (h:l.length=2):∃x0 x1,l= [x0,x1]:=by
 rcases l with _|⟨x0,l⟩
 ·simp at h
 rcases l with _|⟨x1,l⟩
 ·simp at h
 ·simp at h;exact⟨x0,x1,by simp[h]⟩
def Ao:AF:=⟨2,4,[.tmp 4],(.seq (.ops [.i (.lbox 2 (.s 0)), .i (.mov 4 (qi 0))]) (.seq (.ops [qf 5 2 1,ql 6 2 5 1 false,qm 7 1, .i (.call 9 76 false [(.s 6),(.s 7)]),qm 1 8]) (.seq (.seq (.ops [qm 9 1, .i (.bin 10 .lss (.s 9) (qi 0))]) (.cond (.s 10) (.seq (.ops [.i (.mov 4 (qi (-1)))]) .ret) .skip)) (.seq (.ops [qm 11 1,qm 4 11]) .ret))))⟩
theorem Dl:cd 54=some Ao:=by kernel_rfl
theorem AO:bC cd 54 tf:=by
 intro h cs v S k hv hk
 obtain⟨vs,rfl,q0⟩:=hv.st
 obtain⟨v0,r0,S0,T0,rfl,rfl,h0,q1⟩:=q0.step
 obtain⟨n0,e0,rfl,rfl,lo0,hi0⟩:=h0.int
 obtain⟨v1,r1,S1,T1,rfl,rfl,h1,q2⟩:=q1.step
 obtain⟨c1,e1⟩:=h1.one rfl
 rw[e1]at h1
 obtain⟨_,rfl,rfl⟩:=q2
 have hsz:cs.length=2:=hv.size
 simp only[Ty.size,Ty.au,Nat.reduceAdd,Nat.zero_add,List.drop_zero]at e0 e1 hsz
 have hw:wt (.r [.i n0,v1])=wt v1:=by simp only[wt,bI];omega
 rw[hw]
 refine an Dl rfl ?_
 simp(disch:=omega) only[Ao,e0,e1,hsz,ak,aj,SX,SU,SL,reduceCtorEq,Nat.reduceAdd,Nat.reduceLeDiff,reduceIte]
 refine bC.go sL h1 (k:=k) (by omega) (fun hf0=> ?_) (fun hf0=> ?_)
 case refine_2=>
  simp(disch:=omega) only[aa,Ao,e0,e1,hsz,ak,aj,SX,SU,SL,reduceCtorEq,Nat.reduceAdd,Nat.reduceLeDiff,reduceIte]
  refine ae (fun hn=> ?_) (fun hn=>absurd (show(-1:Int) < 0 by omega) hn)
  simp(disch:=omega) only[Ao,e0,e1,hsz,ak,aj,SX,SU,SL,reduceCtorEq,Nat.reduceAdd,Nat.reduceLeDiff,reduceIte]
  rw[if_neg (by omega)]
 simp(disch:=omega) only[aa,Ao,e0,e1,hsz,ak,aj,SX,SU,SL,reduceCtorEq,Nat.reduceAdd,Nat.reduceLeDiff,reduceIte]
 refine ae (fun hn=>absurd hn (by omega)) (fun hn=> ?_)
 simp(disch:=omega) only[Ao,e0,e1,hsz,ak,aj,SX,SU,SL,reduceCtorEq,Nat.reduceAdd,Nat.reduceLeDiff,reduceIte]
 congr 3
 omega
def CO:AF:=⟨2,5,[.tmp 4],(.seq (.ops [.i (.mov 4 (qi 0))]) (.seq (.ops [qm 6 1,qm 7 0,qn 8 7,qd 9 .sub 6 8,qm 1 9]) (.seq (.seq (.ops [qm 10 1, .i (.bin 11 .lss (.s 10) (qi 0))]) (.cond (.s 11) (.seq (.ops [.i (.mov 4 (qi (-1)))]) .ret) .skip)) (.seq (.seq (.ops [.i (.mov 5 (qi 0))]) (.block 0 (.loop [25,24,23,22,21,20,19,18,17,16,15,14,13,12] (.seq (.seq (.ops [qm 12 5,qm 13 0,qn 14 13,qd 15 .lss 12 14]) (.cond (.s 15) .skip (.exit 0))) (.seq (.block 1 (.seq (.ops [qm 18 0,qm 19 5, .i (.iad 20 (.s 18) (.s 19) 10), .i (.ldh 21 (.s 20) 10 true),qm 22 1, .i (.call 24 52 false [(.s 21),(.s 22)]),qm 1 23]) (.seq (.ops [qm 24 1, .i (.bin 25 .lss (.s 24) (qi 0))]) (.cond (.s 25) (.seq (.ops [.i (.mov 4 (qi (-1)))]) .ret) .skip)))) (.ops [qm 16 5, .i (.bin 17 .add (.s 16) (qi 1)),qm 5 17])))))) (.seq (.ops [qm 26 1,qm 4 26]) .ret)))))⟩
theorem DT:cd 77=some CO:=by kernel_rfl
theorem vj:bC cd 77 (.sl bd):=rn DT nA
theorem Ay {l:List C} (h:l.length=6):∃x0 x1 x2 x3 x4 x5,l= [x0,x1,x2,x3,x4,x5]:=by
 rcases l with _|⟨x0,l⟩
 ·simp at h
 rcases l with _|⟨x1,l⟩
 ·simp at h
 rcases l with _|⟨x2,l⟩
 ·simp at h
 rcases l with _|⟨x3,l⟩
 ·simp at h
 rcases l with _|⟨x4,l⟩
 ·simp at h
 rcases l with _|⟨x5,l⟩
 ·simp at h
 ·simp at h;exact⟨x0,x1,x2,x3,x4,x5,by simp[h]⟩
def vK:AF:=⟨2,5,[.tmp 4],(.seq (.ops [.i (.lbox 2 (.s 0)), .i (.mov 4 (qi 0))]) (.seq (.ops [qf 5 2 0,ql 6 2 5 1 false,qm 7 1, .i (.call 9 77 false [(.s 6),(.s 7)]),qm 1 8]) (.seq (.seq (.ops [qm 9 1, .i (.bin 10 .lss (.s 9) (qi 0))]) (.cond (.s 10) (.seq (.ops [.i (.mov 4 (qi (-1)))]) .ret) .skip)) (.seq (.ops [qf 11 2 1,ql 12 2 11 5 true,qm 13 1, .i (.call 15 51 false [(.s 12),(.s 13)]),qm 1 14]) (.seq (.seq (.ops [qm 15 1, .i (.bin 16 .lss (.s 15) (qi 0))]) (.cond (.s 16) (.seq (.ops [.i (.mov 4 (qi (-1)))]) .ret) .skip)) (.seq (.ops [qm 17 1,qm 4 17]) .ret))))))⟩
theorem DY:cd 55=some vK:=by kernel_rfl
theorem tJ:bC cd 55 cj:=by
 intro h cs v S k hv hk
 obtain⟨vs,rfl,q0⟩:=hv.st
 obtain⟨v0,r0,S0,T0,rfl,rfl,h0,q1⟩:=q0.step
 obtain⟨c0,e0⟩:=h0.one rfl
 rw[e0]at h0
 obtain⟨v1,r1,S1,T1,rfl,rfl,h1,q2⟩:=q1.step
 obtain⟨_,rfl,rfl⟩:=q2
 have hsz:cs.length=6:=hv.size
 simp only[Ty.size,Ty.au,Nat.reduceAdd,Nat.zero_add,List.drop_zero]at e0 hsz h1
 have hw:wt (.r [v0,v1])=wt v0+wt v1:=by simp only[wt,bI];omega
 rw[hw]
 refine an DY rfl ?_
 simp(disch:=omega) only[vK,e0,hsz,ak,aj,SX,SU,SL,reduceCtorEq,Nat.reduceAdd,Nat.reduceLeDiff,reduceIte]
 refine bC.go vj h0 (k:=k) (by omega) (fun hf0=> ?_) (fun hf0=> ?_)
 case refine_2=>
  simp(disch:=omega) only[aa,vK,e0,hsz,ak,aj,SX,SU,SL,reduceCtorEq,Nat.reduceAdd,Nat.reduceLeDiff,reduceIte]
  refine ae (fun hn=> ?_) (fun hn=>absurd (show(-1:Int) < 0 by omega) hn)
  simp(disch:=omega) only[vK,e0,hsz,ak,aj,SX,SU,SL,reduceCtorEq,Nat.reduceAdd,Nat.reduceLeDiff,reduceIte]
  rw[if_neg (by omega)]
 simp(disch:=omega) only[aa,vK,e0,hsz,ak,aj,SX,SU,SL,reduceCtorEq,Nat.reduceAdd,Nat.reduceLeDiff,reduceIte]
 refine ae (fun hn=>absurd hn (by omega)) (fun hn=> ?_)
 simp(disch:=omega) only[vK,e0,hsz,ak,aj,SX,SU,SL,reduceCtorEq,Nat.reduceAdd,Nat.reduceLeDiff,reduceIte]
 refine bC.go uV h1 (k:=k - wt v0) (by omega) (fun hf1=> ?_) (fun hf1=> ?_)
 case refine_2=>
  simp(disch:=omega) only[aa,vK,e0,hsz,ak,aj,SX,SU,SL,reduceCtorEq,Nat.reduceAdd,Nat.reduceLeDiff,reduceIte]
  refine ae (fun hn=> ?_) (fun hn=>absurd (show(-1:Int) < 0 by omega) hn)
  simp(disch:=omega) only[vK,e0,hsz,ak,aj,SX,SU,SL,reduceCtorEq,Nat.reduceAdd,Nat.reduceLeDiff,reduceIte]
  rw[if_neg (by omega)]
 simp(disch:=omega) only[aa,vK,e0,hsz,ak,aj,SX,SU,SL,reduceCtorEq,Nat.reduceAdd,Nat.reduceLeDiff,reduceIte]
 refine ae (fun hn=>absurd hn (by omega)) (fun hn=> ?_)
 simp(disch:=omega) only[vK,e0,hsz,ak,aj,SX,SU,SL,reduceCtorEq,Nat.reduceAdd,Nat.reduceLeDiff,reduceIte]
 congr 3
 omega
def vQ:AF:=⟨2,5,[.tmp 4],(.seq (.ops [.i (.lbox 2 (.s 0)), .i (.mov 4 (qi 0))]) (.seq (.ops [qf 5 2 3,ql 6 2 5 1 false,qm 7 1, .i (.call 9 74 false [(.s 6),(.s 7)]),qm 1 8]) (.seq (.seq (.ops [qm 9 1, .i (.bin 10 .lss (.s 9) (qi 0))]) (.cond (.s 10) (.seq (.ops [.i (.mov 4 (qi (-1)))]) .ret) .skip)) (.seq (.ops [qf 11 2 4,ql 12 2 11 1 false,qm 13 1, .i (.call 15 75 false [(.s 12),(.s 13)]),qm 1 14]) (.seq (.seq (.ops [qm 15 1, .i (.bin 16 .lss (.s 15) (qi 0))]) (.cond (.s 16) (.seq (.ops [.i (.mov 4 (qi (-1)))]) .ret) .skip)) (.seq (.ops [qm 17 1,qm 4 17]) .ret))))))⟩
theorem Dn:cd 56=some vQ:=by kernel_rfl
theorem xg:bC cd 56 hM:=by
 intro h cs v S k hv hk
 obtain⟨vs,rfl,q0⟩:=hv.st
 obtain⟨v0,r0,S0,T0,rfl,rfl,h0,q1⟩:=q0.step
 obtain⟨n0,e0,rfl,rfl,lo0,hi0⟩:=h0.int
 obtain⟨v1,r1,S1,T1,rfl,rfl,h1,q2⟩:=q1.step
 obtain⟨n1,e1,rfl,rfl,lo1,hi1⟩:=h1.int
 obtain⟨v2,r2,S2,T2,rfl,rfl,h2,q3⟩:=q2.step
 obtain⟨n2,e2,rfl,rfl,lo2,hi2⟩:=h2.int
 obtain⟨v3,r3,S3,T3,rfl,rfl,h3,q4⟩:=q3.step
 obtain⟨c3,e3⟩:=h3.one rfl
 rw[e3]at h3
 obtain⟨v4,r4,S4,T4,rfl,rfl,h4,q5⟩:=q4.step
 obtain⟨c4,e4⟩:=h4.one rfl
 rw[e4]at h4
 obtain⟨_,rfl,rfl⟩:=q5
 have hsz:cs.length=5:=hv.size
 simp only[Ty.size,Ty.au,Nat.reduceAdd,Nat.zero_add,List.drop_zero]at e0 e1 e2 e3 e4 hsz
 have hw:wt (.r [.i n0, .i n1, .i n2,v3,v4])=wt v3+wt v4:=by simp only[wt,bI];omega
 rw[hw]
 refine an Dn rfl ?_
 simp(disch:=omega) only[vQ,e0,e1,e2,e3,e4,hsz,ak,aj,SX,SU,SL,reduceCtorEq,Nat.reduceAdd,Nat.reduceLeDiff,reduceIte]
 refine bC.go cX h3 (k:=k) (by omega) (fun hf0=> ?_) (fun hf0=> ?_)
 case refine_2=>
  simp(disch:=omega) only[aa,vQ,e0,e1,e2,e3,e4,hsz,ak,aj,SX,SU,SL,reduceCtorEq,Nat.reduceAdd,Nat.reduceLeDiff,reduceIte]
  refine ae (fun hn=> ?_) (fun hn=>absurd (show(-1:Int) < 0 by omega) hn)
  simp(disch:=omega) only[vQ,e0,e1,e2,e3,e4,hsz,ak,aj,SX,SU,SL,reduceCtorEq,Nat.reduceAdd,Nat.reduceLeDiff,reduceIte]
  rw[if_neg (by omega)]
 simp(disch:=omega) only[aa,vQ,e0,e1,e2,e3,e4,hsz,ak,aj,SX,SU,SL,reduceCtorEq,Nat.reduceAdd,Nat.reduceLeDiff,reduceIte]
 refine ae (fun hn=>absurd hn (by omega)) (fun hn=> ?_)
 simp(disch:=omega) only[vQ,e0,e1,e2,e3,e4,hsz,ak,aj,SX,SU,SL,reduceCtorEq,Nat.reduceAdd,Nat.reduceLeDiff,reduceIte]
 refine bC.go jr h4 (k:=k - wt v3) (by omega) (fun hf1=> ?_) (fun hf1=> ?_)
 case refine_2=>
  simp(disch:=omega) only[aa,vQ,e0,e1,e2,e3,e4,hsz,ak,aj,SX,SU,SL,reduceCtorEq,Nat.reduceAdd,Nat.reduceLeDiff,reduceIte]
  refine ae (fun hn=> ?_) (fun hn=>absurd (show(-1:Int) < 0 by omega) hn)
  simp(disch:=omega) only[vQ,e0,e1,e2,e3,e4,hsz,ak,aj,SX,SU,SL,reduceCtorEq,Nat.reduceAdd,Nat.reduceLeDiff,reduceIte]
  rw[if_neg (by omega)]
 simp(disch:=omega) only[aa,vQ,e0,e1,e2,e3,e4,hsz,ak,aj,SX,SU,SL,reduceCtorEq,Nat.reduceAdd,Nat.reduceLeDiff,reduceIte]
 refine ae (fun hn=>absurd hn (by omega)) (fun hn=> ?_)
 simp(disch:=omega) only[vQ,e0,e1,e2,e3,e4,hsz,ak,aj,SX,SU,SL,reduceCtorEq,Nat.reduceAdd,Nat.reduceLeDiff,reduceIte]
 congr 3
 omega
theorem Aj {l:List C} (h:l.length=45):∃x0 x1 x2 x3 x4 x5 x6 x7 x8 x9 x10 x11 x12 x13 x14 x15 x16 x17 x18 x19 x20 x21 x22 x23 x24 x25 x26 x27 x28 x29 x30 x31 x32 x33 x34 x35 x36 x37 x38 x39 x40 x41 x42 x43 x44,l= [x0,x1,x2,x3,x4,x5,x6,x7,x8,x9,x10,x11,x12,x13,x14,x15,x16,x17,x18,x19,x20,x21,x22,x23,x24,x25,x26,x27,x28,x29,x30,x31,x32,x33,x34,x35,x36,x37,x38,x39,x40,x41,x42,x43,x44]:=by
 rcases l with _|⟨x0,l⟩
 ·simp at h
 rcases l with _|⟨x1,l⟩
 ·simp at h
 rcases l with _|⟨x2,l⟩
 ·simp at h
 rcases l with _|⟨x3,l⟩
 ·simp at h
 rcases l with _|⟨x4,l⟩
 ·simp at h
 rcases l with _|⟨x5,l⟩
 ·simp at h
 rcases l with _|⟨x6,l⟩
 ·simp at h
 rcases l with _|⟨x7,l⟩
 ·simp at h
 rcases l with _|⟨x8,l⟩
 ·simp at h
 rcases l with _|⟨x9,l⟩
 ·simp at h
 rcases l with _|⟨x10,l⟩
 ·simp at h
 rcases l with _|⟨x11,l⟩
 ·simp at h
 rcases l with _|⟨x12,l⟩
 ·simp at h
 rcases l with _|⟨x13,l⟩
 ·simp at h
 rcases l with _|⟨x14,l⟩
 ·simp at h
 rcases l with _|⟨x15,l⟩
 ·simp at h
 rcases l with _|⟨x16,l⟩
 ·simp at h
 rcases l with _|⟨x17,l⟩
 ·simp at h
 rcases l with _|⟨x18,l⟩
 ·simp at h
 rcases l with _|⟨x19,l⟩
 ·simp at h
 rcases l with _|⟨x20,l⟩
 ·simp at h
 rcases l with _|⟨x21,l⟩
 ·simp at h
 rcases l with _|⟨x22,l⟩
 ·simp at h
 rcases l with _|⟨x23,l⟩
 ·simp at h
 rcases l with _|⟨x24,l⟩
 ·simp at h
 rcases l with _|⟨x25,l⟩
 ·simp at h
 rcases l with _|⟨x26,l⟩
 ·simp at h
 rcases l with _|⟨x27,l⟩
 ·simp at h
 rcases l with _|⟨x28,l⟩
 ·simp at h
 rcases l with _|⟨x29,l⟩
 ·simp at h
 rcases l with _|⟨x30,l⟩
 ·simp at h
 rcases l with _|⟨x31,l⟩
 ·simp at h
 rcases l with _|⟨x32,l⟩
 ·simp at h
 rcases l with _|⟨x33,l⟩
 ·simp at h
 rcases l with _|⟨x34,l⟩
 ·simp at h
 rcases l with _|⟨x35,l⟩
 ·simp at h
 rcases l with _|⟨x36,l⟩
 ·simp at h
 rcases l with _|⟨x37,l⟩
 ·simp at h
 rcases l with _|⟨x38,l⟩
 ·simp at h
 rcases l with _|⟨x39,l⟩
 ·simp at h
 rcases l with _|⟨x40,l⟩
 ·simp at h
 rcases l with _|⟨x41,l⟩
 ·simp at h
 rcases l with _|⟨x42,l⟩
 ·simp at h
 rcases l with _|⟨x43,l⟩
 ·simp at h
 rcases l with _|⟨x44,l⟩
 ·simp at h
 ·simp at h;exact⟨x0,x1,x2,x3,x4,x5,x6,x7,x8,x9,x10,x11,x12,x13,x14,x15,x16,x17,x18,x19,x20,x21,x22,x23,x24,x25,x26,x27,x28,x29,x30,x31,x32,x33,x34,x35,x36,x37,x38,x39,x40,x41,x42,x43,x44,by simp[h]⟩
def iE:AF:=⟨2,6,[.tmp 4],(.seq (.ops [.i (.lbox 2 (.s 0)), .i (.mov 4 (qi 0))]) (.seq (.ops [qf 5 2 1,ql 6 2 5 5 true,qm 7 1, .i (.call 9 50 false [(.s 6),(.s 7)]),qm 1 8]) (.seq (.seq (.ops [qm 9 1, .i (.bin 10 .lss (.s 9) (qi 0))]) (.cond (.s 10) (.seq (.ops [.i (.mov 4 (qi (-1)))]) .ret) .skip)) (.seq (.ops [qf 11 2 6,ql 12 2 11 5 true,qm 13 1, .i (.call 15 51 false [(.s 12),(.s 13)]),qm 1 14]) (.seq (.seq (.ops [qm 15 1, .i (.bin 16 .lss (.s 15) (qi 0))]) (.cond (.s 16) (.seq (.ops [.i (.mov 4 (qi (-1)))]) .ret) .skip)) (.seq (.ops [qf 17 2 11,ql 18 2 17 10 true,qm 19 1, .i (.call 21 52 false [(.s 18),(.s 19)]),qm 1 20]) (.seq (.seq (.ops [qm 21 1, .i (.bin 22 .lss (.s 21) (qi 0))]) (.cond (.s 22) (.seq (.ops [.i (.mov 4 (qi (-1)))]) .ret) .skip)) (.seq (.ops [qf 23 2 21,ql 24 2 23 11 true,qm 25 1, .i (.call 27 53 false [(.s 24),(.s 25)]),qm 1 26]) (.seq (.seq (.ops [qm 27 1, .i (.bin 28 .lss (.s 27) (qi 0))]) (.cond (.s 28) (.seq (.ops [.i (.mov 4 (qi (-1)))]) .ret) .skip)) (.seq (.ops [qf 29 2 32,ql 30 2 29 2 true,qm 31 1, .i (.call 33 54 false [(.s 30),(.s 31)]),qm 1 32]) (.seq (.seq (.ops [qm 33 1, .i (.bin 34 .lss (.s 33) (qi 0))]) (.cond (.s 34) (.seq (.ops [.i (.mov 4 (qi (-1)))]) .ret) .skip)) (.seq (.ops [qf 35 2 34,ql 36 2 35 6 true,qm 37 1, .i (.call 39 55 false [(.s 36),(.s 37)]),qm 1 38]) (.seq (.seq (.ops [qm 39 1, .i (.bin 40 .lss (.s 39) (qi 0))]) (.cond (.s 40) (.seq (.ops [.i (.mov 4 (qi (-1)))]) .ret) .skip)) (.seq (.ops [qf 41 2 40,ql 42 2 41 5 true,qm 43 1, .i (.call 45 56 false [(.s 42),(.s 43)]),qm 1 44]) (.seq (.seq (.ops [qm 45 1, .i (.bin 46 .lss (.s 45) (qi 0))]) (.cond (.s 46) (.seq (.ops [.i (.mov 4 (qi (-1)))]) .ret) .skip)) (.seq (.ops [qm 47 1,qm 4 47]) .ret))))))))))))))))⟩
theorem CY:cd 27=some iE:=by kernel_rfl
theorem Ae:bC cd 27 dA:=by
 intro h cs v S k hv hk
 obtain⟨vs,rfl,q0⟩:=hv.st
 obtain⟨v0,r0,S0,T0,rfl,rfl,h0,q1⟩:=q0.step
 obtain⟨n0,e0,rfl,rfl,lo0,hi0⟩:=h0.int
 obtain⟨v1,r1,S1,T1,rfl,rfl,h1,q2⟩:=q1.step
 obtain⟨v2,r2,S2,T2,rfl,rfl,h2,q3⟩:=q2.step
 obtain⟨v3,r3,S3,T3,rfl,rfl,h3,q4⟩:=q3.step
 obtain⟨v4,r4,S4,T4,rfl,rfl,h4,q5⟩:=q4.step
 obtain⟨v5,r5,S5,T5,rfl,rfl,h5,q6⟩:=q5.step
 obtain⟨v6,r6,S6,T6,rfl,rfl,h6,q7⟩:=q6.step
 obtain⟨v7,r7,S7,T7,rfl,rfl,h7,q8⟩:=q7.step
 obtain⟨_,rfl,rfl⟩:=q8
 have hsz:cs.length=45:=hv.size
 simp only[Ty.size,Ty.au,Nat.reduceAdd,Nat.zero_add,List.drop_zero]at e0 hsz h1 h2 h3 h4 h5 h6 h7
 have hw:wt (.r [.i n0,v1,v2,v3,v4,v5,v6,v7])=wt v1+wt v2+wt v3+wt v4+wt v5+wt v6+wt v7:=by simp only[wt,bI];omega
 rw[hw]
 refine an CY rfl ?_
 simp(disch:=omega) only[iE,e0,hsz,ak,aj,SX,SU,SL,reduceCtorEq,Nat.reduceAdd,Nat.reduceLeDiff,reduceIte]
 refine bC.go xE h1 (k:=k) (by omega) (fun hf0=> ?_) (fun hf0=> ?_)
 case refine_2=>
  simp(disch:=omega) only[aa,iE,e0,hsz,ak,aj,SX,SU,SL,reduceCtorEq,Nat.reduceAdd,Nat.reduceLeDiff,reduceIte]
  refine ae (fun hn=> ?_) (fun hn=>absurd (show(-1:Int) < 0 by omega) hn)
  simp(disch:=omega) only[iE,e0,hsz,ak,aj,SX,SU,SL,reduceCtorEq,Nat.reduceAdd,Nat.reduceLeDiff,reduceIte]
  rw[if_neg (by omega)]
 simp(disch:=omega) only[aa,iE,e0,hsz,ak,aj,SX,SU,SL,reduceCtorEq,Nat.reduceAdd,Nat.reduceLeDiff,reduceIte]
 refine ae (fun hn=>absurd hn (by omega)) (fun hn=> ?_)
 simp(disch:=omega) only[iE,e0,hsz,ak,aj,SX,SU,SL,reduceCtorEq,Nat.reduceAdd,Nat.reduceLeDiff,reduceIte]
 refine bC.go uV h2 (k:=k - wt v1) (by omega) (fun hf1=> ?_) (fun hf1=> ?_)
 case refine_2=>
  simp(disch:=omega) only[aa,iE,e0,hsz,ak,aj,SX,SU,SL,reduceCtorEq,Nat.reduceAdd,Nat.reduceLeDiff,reduceIte]
  refine ae (fun hn=> ?_) (fun hn=>absurd (show(-1:Int) < 0 by omega) hn)
  simp(disch:=omega) only[iE,e0,hsz,ak,aj,SX,SU,SL,reduceCtorEq,Nat.reduceAdd,Nat.reduceLeDiff,reduceIte]
  rw[if_neg (by omega)]
 simp(disch:=omega) only[aa,iE,e0,hsz,ak,aj,SX,SU,SL,reduceCtorEq,Nat.reduceAdd,Nat.reduceLeDiff,reduceIte]
 refine ae (fun hn=>absurd hn (by omega)) (fun hn=> ?_)
 simp(disch:=omega) only[iE,e0,hsz,ak,aj,SX,SU,SL,reduceCtorEq,Nat.reduceAdd,Nat.reduceLeDiff,reduceIte]
 refine bC.go nA h3 (k:=k - wt v1 - wt v2) (by omega) (fun hf2=> ?_) (fun hf2=> ?_)
 case refine_2=>
  simp(disch:=omega) only[aa,iE,e0,hsz,ak,aj,SX,SU,SL,reduceCtorEq,Nat.reduceAdd,Nat.reduceLeDiff,reduceIte]
  refine ae (fun hn=> ?_) (fun hn=>absurd (show(-1:Int) < 0 by omega) hn)
  simp(disch:=omega) only[iE,e0,hsz,ak,aj,SX,SU,SL,reduceCtorEq,Nat.reduceAdd,Nat.reduceLeDiff,reduceIte]
  rw[if_neg (by omega)]
 simp(disch:=omega) only[aa,iE,e0,hsz,ak,aj,SX,SU,SL,reduceCtorEq,Nat.reduceAdd,Nat.reduceLeDiff,reduceIte]
 refine ae (fun hn=>absurd hn (by omega)) (fun hn=> ?_)
 simp(disch:=omega) only[iE,e0,hsz,ak,aj,SX,SU,SL,reduceCtorEq,Nat.reduceAdd,Nat.reduceLeDiff,reduceIte]
 refine bC.go tH h4 (k:=k - wt v1 - wt v2 - wt v3) (by omega) (fun hf3=> ?_) (fun hf3=> ?_)
 case refine_2=>
  simp(disch:=omega) only[aa,iE,e0,hsz,ak,aj,SX,SU,SL,reduceCtorEq,Nat.reduceAdd,Nat.reduceLeDiff,reduceIte]
  refine ae (fun hn=> ?_) (fun hn=>absurd (show(-1:Int) < 0 by omega) hn)
  simp(disch:=omega) only[iE,e0,hsz,ak,aj,SX,SU,SL,reduceCtorEq,Nat.reduceAdd,Nat.reduceLeDiff,reduceIte]
  rw[if_neg (by omega)]
 simp(disch:=omega) only[aa,iE,e0,hsz,ak,aj,SX,SU,SL,reduceCtorEq,Nat.reduceAdd,Nat.reduceLeDiff,reduceIte]
 refine ae (fun hn=>absurd hn (by omega)) (fun hn=> ?_)
 simp(disch:=omega) only[iE,e0,hsz,ak,aj,SX,SU,SL,reduceCtorEq,Nat.reduceAdd,Nat.reduceLeDiff,reduceIte]
 refine bC.go AO h5 (k:=k - wt v1 - wt v2 - wt v3 - wt v4) (by omega) (fun hf4=> ?_) (fun hf4=> ?_)
 case refine_2=>
  simp(disch:=omega) only[aa,iE,e0,hsz,ak,aj,SX,SU,SL,reduceCtorEq,Nat.reduceAdd,Nat.reduceLeDiff,reduceIte]
  refine ae (fun hn=> ?_) (fun hn=>absurd (show(-1:Int) < 0 by omega) hn)
  simp(disch:=omega) only[iE,e0,hsz,ak,aj,SX,SU,SL,reduceCtorEq,Nat.reduceAdd,Nat.reduceLeDiff,reduceIte]
  rw[if_neg (by omega)]
 simp(disch:=omega) only[aa,iE,e0,hsz,ak,aj,SX,SU,SL,reduceCtorEq,Nat.reduceAdd,Nat.reduceLeDiff,reduceIte]
 refine ae (fun hn=>absurd hn (by omega)) (fun hn=> ?_)
 simp(disch:=omega) only[iE,e0,hsz,ak,aj,SX,SU,SL,reduceCtorEq,Nat.reduceAdd,Nat.reduceLeDiff,reduceIte]
 refine bC.go tJ h6 (k:=k - wt v1 - wt v2 - wt v3 - wt v4 - wt v5) (by omega) (fun hf5=> ?_) (fun hf5=> ?_)
 case refine_2=>
  simp(disch:=omega) only[aa,iE,e0,hsz,ak,aj,SX,SU,SL,reduceCtorEq,Nat.reduceAdd,Nat.reduceLeDiff,reduceIte]
  refine ae (fun hn=> ?_) (fun hn=>absurd (show(-1:Int) < 0 by omega) hn)
  simp(disch:=omega) only[iE,e0,hsz,ak,aj,SX,SU,SL,reduceCtorEq,Nat.reduceAdd,Nat.reduceLeDiff,reduceIte]
  rw[if_neg (by omega)]
 simp(disch:=omega) only[aa,iE,e0,hsz,ak,aj,SX,SU,SL,reduceCtorEq,Nat.reduceAdd,Nat.reduceLeDiff,reduceIte]
 refine ae (fun hn=>absurd hn (by omega)) (fun hn=> ?_)
 simp(disch:=omega) only[iE,e0,hsz,ak,aj,SX,SU,SL,reduceCtorEq,Nat.reduceAdd,Nat.reduceLeDiff,reduceIte]
 refine bC.go xg h7 (k:=k - wt v1 - wt v2 - wt v3 - wt v4 - wt v5 - wt v6) (by omega) (fun hf6=> ?_) (fun hf6=> ?_)
 case refine_2=>
  simp(disch:=omega) only[aa,iE,e0,hsz,ak,aj,SX,SU,SL,reduceCtorEq,Nat.reduceAdd,Nat.reduceLeDiff,reduceIte]
  refine ae (fun hn=> ?_) (fun hn=>absurd (show(-1:Int) < 0 by omega) hn)
  simp(disch:=omega) only[iE,e0,hsz,ak,aj,SX,SU,SL,reduceCtorEq,Nat.reduceAdd,Nat.reduceLeDiff,reduceIte]
  rw[if_neg (by omega)]
 simp(disch:=omega) only[aa,iE,e0,hsz,ak,aj,SX,SU,SL,reduceCtorEq,Nat.reduceAdd,Nat.reduceLeDiff,reduceIte]
 refine ae (fun hn=>absurd hn (by omega)) (fun hn=> ?_)
 simp(disch:=omega) only[iE,e0,hsz,ak,aj,SX,SU,SL,reduceCtorEq,Nat.reduceAdd,Nat.reduceLeDiff,reduceIte]
 congr 3
 omega
def Ar:AF:=⟨2,4,[.tmp 4],(.seq (.ops [.i (.lbox 2 (.s 0)), .i (.mov 4 (qi 0))]) (.seq (.ops [qf 5 2 2,ql 6 2 5 45 true,qm 7 1, .i (.call 9 27 false [(.s 6),(.s 7)]),qm 1 8]) (.seq (.seq (.ops [qm 9 1, .i (.bin 10 .lss (.s 9) (qi 0))]) (.cond (.s 10) (.seq (.ops [.i (.mov 4 (qi (-1)))]) .ret) .skip)) (.seq (.ops [qm 11 1,qm 4 11]) .ret))))⟩
theorem Dr:cd 13=some Ar:=by kernel_rfl
theorem t7:bC cd 13 TEvent:=by
 intro h cs v S k hv hk
 obtain⟨vs,rfl,q0⟩:=hv.st
 obtain⟨v0,r0,S0,T0,rfl,rfl,h0,q1⟩:=q0.step
 obtain⟨n0,e0,rfl,rfl,lo0,hi0⟩:=h0.int
 obtain⟨v1,r1,S1,T1,rfl,rfl,h1,q2⟩:=q1.step
 obtain⟨n1,e1,rfl,rfl,lo1,hi1⟩:=h1.int
 obtain⟨v2,r2,S2,T2,rfl,rfl,h2,q3⟩:=q2.step
 obtain⟨_,rfl,rfl⟩:=q3
 have hsz:cs.length=47:=hv.size
 simp only[Ty.size,Ty.au,Nat.reduceAdd,Nat.zero_add,List.drop_zero]at e0 e1 hsz h2
 have hw:wt (.r [.i n0, .i n1,v2])=wt v2:=by simp only[wt,bI];omega
 rw[hw]
 refine an Dr rfl ?_
 simp(disch:=omega) only[Ar,e0,e1,hsz,ak,aj,SX,SU,SL,reduceCtorEq,Nat.reduceAdd,Nat.reduceLeDiff,reduceIte]
 refine bC.go Ae h2 (k:=k) (by omega) (fun hf0=> ?_) (fun hf0=> ?_)
 case refine_2=>
  simp(disch:=omega) only[aa,Ar,e0,e1,hsz,ak,aj,SX,SU,SL,reduceCtorEq,Nat.reduceAdd,Nat.reduceLeDiff,reduceIte]
  refine ae (fun hn=> ?_) (fun hn=>absurd (show(-1:Int) < 0 by omega) hn)
  simp(disch:=omega) only[Ar,e0,e1,hsz,ak,aj,SX,SU,SL,reduceCtorEq,Nat.reduceAdd,Nat.reduceLeDiff,reduceIte]
  rw[if_neg (by omega)]
 simp(disch:=omega) only[aa,Ar,e0,e1,hsz,ak,aj,SX,SU,SL,reduceCtorEq,Nat.reduceAdd,Nat.reduceLeDiff,reduceIte]
 refine ae (fun hn=>absurd hn (by omega)) (fun hn=> ?_)
 simp(disch:=omega) only[Ar,e0,e1,hsz,ak,aj,SX,SU,SL,reduceCtorEq,Nat.reduceAdd,Nat.reduceLeDiff,reduceIte]
 congr 3
 omega
def c4:AF:=⟨2,5,[.tmp 4],(.seq (.ops [.i (.mov 4 (qi 0))]) (.seq (.ops [qm 6 1,qm 7 0,qn 8 7,qd 9 .sub 6 8,qm 1 9]) (.seq (.seq (.ops [qm 10 1, .i (.bin 11 .lss (.s 10) (qi 0))]) (.cond (.s 11) (.seq (.ops [.i (.mov 4 (qi (-1)))]) .ret) .skip)) (.seq (.seq (.ops [.i (.mov 5 (qi 0))]) (.block 0 (.loop [25,24,23,22,21,20,19,18,17,16,15,14,13,12] (.seq (.seq (.ops [qm 12 5,qm 13 0,qn 14 13,qd 15 .lss 12 14]) (.cond (.s 15) .skip (.exit 0))) (.seq (.block 1 (.seq (.ops [qm 18 0,qm 19 5, .i (.iad 20 (.s 18) (.s 19) 47), .i (.ldh 21 (.s 20) 47 true),qm 22 1, .i (.call 24 13 false [(.s 21),(.s 22)]),qm 1 23]) (.seq (.ops [qm 24 1, .i (.bin 25 .lss (.s 24) (qi 0))]) (.cond (.s 25) (.seq (.ops [.i (.mov 4 (qi (-1)))]) .ret) .skip)))) (.ops [qm 16 5, .i (.bin 17 .add (.s 16) (qi 1)),qm 5 17])))))) (.seq (.ops [qm 26 1,qm 4 26]) .ret)))))⟩
theorem k4:cd 4=some c4:=by kernel_rfl
theorem sF:bC cd 4 (.sl TEvent):=rn k4 t7
def Df:AF:=⟨1,5,[.tmp 2],(.seq (.ops [.i (.mov 2 (.c (.val false [.nils])))]) (.seq (.ops [qm 5 0,qn 6 5, .i (.mks 7 5 1 1 [.int .u8 0] (.s 6)),qm 3 7]) (.seq (.seq (.ops [.i (.mov 4 (qi 0))]) (.block 0 (.loop [20,19,18,17,16,15,14,13,12,11,10,9,8] (.seq (.seq (.ops [qm 8 4,qm 9 0,qn 10 9,qd 11 .lss 8 10]) (.cond (.s 11) .skip (.exit 0))) (.seq (.block 1 (.ops [qm 14 3,qm 15 4,qm 16 0,qm 17 4, .i (.iad 18 (.s 16) (.s 17) 1), .i (.ldh 19 (.s 18) 1 false), .i (.iad 20 (.s 14) (.s 15) 1), .i (.sth (.s 20) (.s 19) 1)])) (.ops [qm 12 4, .i (.bin 13 .add (.s 12) (qi 1)),qm 4 13])))))) (.seq (.ops [qm 21 3,qm 2 21]) .ret))))⟩
theorem Dk:cd 78=some Df:=by kernel_rfl
theorem cY:fo cd 78 (.sl (.int .u8)):=wW Dk (by omega)
def BO:AF:=⟨1,5,[.cell 2 5 true],(.seq (.ops [.i (.lbox 1 (.s 0)), .i (.lal 2 [.int .i64 0, .int .i64 0, .nils, .int .i64 0, .nils])]) (.seq (.ops [.i (.lal 3 [.int .i64 0, .int .i64 0, .nils, .int .i64 0, .nils])]) (.seq (.ops [qf 4 1 0,ql 5 1 4 1 false,qf 6 3 0,qs 3 6 5 1]) (.seq (.ops [qf 7 1 1,ql 8 1 7 1 false,qf 9 3 1,qs 3 9 8 1]) (.seq (.ops [qf 10 1 2,ql 11 1 10 1 false,qk 13 78 11,qf 13 3 2,qs 3 13 12 1]) (.seq (.ops [qf 14 1 3,ql 15 1 14 1 false,qf 16 3 3,qs 3 16 15 1]) (.seq (.ops [qf 17 1 4,ql 18 1 17 1 false,qk 20 78 18,qf 20 3 4,qs 3 20 19 1]) (.seq (.ops [ql 21 3 3 5 true,qs 2 2 21 5]) .ret))))))))⟩
theorem CF:cd 60=some BO:=by kernel_rfl
theorem wA:fo cd 60 g8:=by
 intro h cs v S hv hw
 obtain⟨vs,rfl,q0⟩:=hv.st
 obtain⟨v0,r0,S0,T0,rfl,rfl,h0,q1⟩:=q0.step
 obtain⟨n0,e0,rfl,rfl,lo0,hi0⟩:=h0.int
 obtain⟨v1,r1,S1,T1,rfl,rfl,h1,q2⟩:=q1.step
 obtain⟨n1,e1,rfl,rfl,lo1,hi1⟩:=h1.int
 obtain⟨v2,r2,S2,T2,rfl,rfl,h2,q3⟩:=q2.step
 obtain⟨c2,e2⟩:=h2.one rfl
 rw[e2]at h2
 obtain⟨v3,r3,S3,T3,rfl,rfl,h3,q4⟩:=q3.step
 obtain⟨n3,e3,rfl,rfl,lo3,hi3⟩:=h3.int
 obtain⟨v4,r4,S4,T4,rfl,rfl,h4,q5⟩:=q4.step
 obtain⟨c4,e4⟩:=h4.one rfl
 rw[e4]at h4
 obtain⟨_,rfl,rfl⟩:=q5
 have hsz:cs.length=5:=hv.size
 simp only[Ty.size,Ty.au,Nat.reduceAdd,Nat.zero_add,List.drop_zero]at e0 e1 e2 e3 e4 hsz
 simp only[wt,bI]at hw
 refine an CF rfl ?_
 simp(disch:=omega) only[aa,BO,e0,e1,e2,e3,e4,hsz,ak,aj,SX,SU,SL,reduceCtorEq,Nat.reduceAdd,Nat.reduceLeDiff,reduceIte]
 refine ay (cY h2 (by omega)) ?_
 rintro r0 g0 ⟨t0,d0,U0,rfl,rfl,z0,o0,l0⟩
 obtain⟨y0_0,rfl⟩:=z0.one rfl
 simp(disch:=omega) only[aa,BO,e0,e1,e2,e3,e4,hsz,ak,aj,SX,SU,SL,reduceCtorEq,Nat.reduceAdd,Nat.reduceLeDiff,reduceIte]
 refine ay (cY (h4.app) (by omega)) ?_
 rintro r1 g1 ⟨t1,d1,U1,rfl,rfl,z1,o1,l1⟩
 obtain⟨y1_0,rfl⟩:=z1.one rfl
 simp(disch:=omega) only[aa,BO,e0,e1,e2,e3,e4,hsz,ak,aj,SX,SU,SL,reduceCtorEq,Nat.reduceAdd,Nat.reduceLeDiff,reduceIte]
 refine⟨(t0++t1),_,_,by simp only[List.append_assoc],rfl,⟨_,rfl,(Rs.mk (Rp.mkInt lo0 hi0) (Rs.mk (Rp.mkInt lo1 hi1) (Rs.mk (z0.app) (Rs.mk (Rp.mkInt lo3 hi3) (Rs.mk z1 Rs.nil)))))⟩,?_⟩
 have fr:=(eF.step (eF.step (eF.nil h) z0.lt o0 l0) z1.lt o1 l1)
 simpa only[List.nil_append,List.append_nil,List.append_assoc]using fr.both
def C6:AF:=⟨1,5,[.tmp 2],(.seq (.ops [.i (.mov 2 (.c (.val false [.nils])))]) (.seq (.ops [qm 5 0,qn 6 5, .i (.mks 7 34 1 24 [.nils] (.s 6)),qm 3 7]) (.seq (.seq (.ops [.i (.mov 4 (qi 0))]) (.block 0 (.loop [21,20,19,18,17,16,15,14,13,12,11,10,9,8] (.seq (.seq (.ops [qm 8 4,qm 9 0,qn 10 9,qd 11 .lss 8 10]) (.cond (.s 11) .skip (.exit 0))) (.seq (.block 1 (.ops [qm 14 3,qm 15 4,qm 16 0,qm 17 4, .i (.iad 18 (.s 16) (.s 17) 1), .i (.ldh 19 (.s 18) 1 false),qk 21 78 19, .i (.iad 21 (.s 14) (.s 15) 1), .i (.sth (.s 21) (.s 20) 1)])) (.ops [qm 12 4, .i (.bin 13 .add (.s 12) (qi 1)),qm 4 13])))))) (.seq (.ops [qm 22 3,qm 2 22]) .ret))))⟩
theorem CX:cd 79=some C6:=by kernel_rfl
theorem jw:fo cd 79 (.sl (.sl (.int .u8))):=re CX (by omega) rfl cY
def Az:AF:=⟨1,5,[.cell 2 5 true],(.seq (.ops [.i (.lbox 1 (.s 0)), .i (.lal 2 [.int .i64 0, .int .i64 0, .nils, .nils, .nils])]) (.seq (.ops [.i (.lal 3 [.int .i64 0, .int .i64 0, .nils, .nils, .nils])]) (.seq (.ops [qf 4 1 0,ql 5 1 4 1 false,qf 6 3 0,qs 3 6 5 1]) (.seq (.ops [qf 7 1 1,ql 8 1 7 1 false,qf 9 3 1,qs 3 9 8 1]) (.seq (.ops [qf 10 1 2,ql 11 1 10 1 false,qk 13 78 11,qf 13 3 2,qs 3 13 12 1]) (.seq (.ops [qf 14 1 3,ql 15 1 14 1 false,qk 17 78 15,qf 17 3 3,qs 3 17 16 1]) (.seq (.ops [qf 18 1 4,ql 19 1 18 1 false,qk 21 79 19,qf 21 3 4,qs 3 21 20 1]) (.seq (.ops [ql 22 3 3 5 true,qs 2 2 22 5]) .ret))))))))⟩
theorem Dz:cd 61=some Az:=by kernel_rfl
theorem tz:fo cd 61 j8:=by
 intro h cs v S hv hw
 obtain⟨vs,rfl,q0⟩:=hv.st
 obtain⟨v0,r0,S0,T0,rfl,rfl,h0,q1⟩:=q0.step
 obtain⟨n0,e0,rfl,rfl,lo0,hi0⟩:=h0.int
 obtain⟨v1,r1,S1,T1,rfl,rfl,h1,q2⟩:=q1.step
 obtain⟨n1,e1,rfl,rfl,lo1,hi1⟩:=h1.int
 obtain⟨v2,r2,S2,T2,rfl,rfl,h2,q3⟩:=q2.step
 obtain⟨c2,e2⟩:=h2.one rfl
 rw[e2]at h2
 obtain⟨v3,r3,S3,T3,rfl,rfl,h3,q4⟩:=q3.step
 obtain⟨c3,e3⟩:=h3.one rfl
 rw[e3]at h3
 obtain⟨v4,r4,S4,T4,rfl,rfl,h4,q5⟩:=q4.step
 obtain⟨c4,e4⟩:=h4.one rfl
 rw[e4]at h4
 obtain⟨_,rfl,rfl⟩:=q5
 have hsz:cs.length=5:=hv.size
 simp only[Ty.size,Ty.au,Nat.reduceAdd,Nat.zero_add,List.drop_zero]at e0 e1 e2 e3 e4 hsz
 simp only[wt,bI]at hw
 refine an Dz rfl ?_
 simp(disch:=omega) only[aa,Az,e0,e1,e2,e3,e4,hsz,ak,aj,SX,SU,SL,reduceCtorEq,Nat.reduceAdd,Nat.reduceLeDiff,reduceIte]
 refine ay (cY h2 (by omega)) ?_
 rintro r0 g0 ⟨t0,d0,U0,rfl,rfl,z0,o0,l0⟩
 obtain⟨y0_0,rfl⟩:=z0.one rfl
 simp(disch:=omega) only[aa,Az,e0,e1,e2,e3,e4,hsz,ak,aj,SX,SU,SL,reduceCtorEq,Nat.reduceAdd,Nat.reduceLeDiff,reduceIte]
 refine ay (cY (h3.app) (by omega)) ?_
 rintro r1 g1 ⟨t1,d1,U1,rfl,rfl,z1,o1,l1⟩
 obtain⟨y1_0,rfl⟩:=z1.one rfl
 simp(disch:=omega) only[aa,Az,e0,e1,e2,e3,e4,hsz,ak,aj,SX,SU,SL,reduceCtorEq,Nat.reduceAdd,Nat.reduceLeDiff,reduceIte]
 refine ay (jw ((h4.app).app) (by omega)) ?_
 rintro r2 g2 ⟨t2,d2,U2,rfl,rfl,z2,o2,l2⟩
 obtain⟨y2_0,rfl⟩:=z2.one rfl
 simp(disch:=omega) only[aa,Az,e0,e1,e2,e3,e4,hsz,ak,aj,SX,SU,SL,reduceCtorEq,Nat.reduceAdd,Nat.reduceLeDiff,reduceIte]
 refine⟨(t0++(t1++t2)),_,_,by simp only[List.append_assoc],rfl,⟨_,rfl,(Rs.mk (Rp.mkInt lo0 hi0) (Rs.mk (Rp.mkInt lo1 hi1) (Rs.mk ((z0.app).app) (Rs.mk (z1.app) (Rs.mk z2 Rs.nil)))))⟩,?_⟩
 have fr:=(eF.step (eF.step (eF.step (eF.nil h) z0.lt o0 l0) z1.lt o1 l1) z2.lt o2 l2)
 simpa only[List.nil_append,List.append_nil,List.append_assoc]using fr.both
def Bq:AF:=⟨1,5,[.cell 2 10 true],(.seq (.ops [.i (.lbox 1 (.s 0)), .i (.lal 2 qz)]) (.seq (.ops [.i (.lal 3 qz)]) (.seq (.ops [qf 4 1 0,ql 5 1 4 1 false,qf 6 3 0,qs 3 6 5 1]) (.seq (.ops [qf 7 1 1,ql 8 1 7 1 false,qf 9 3 1,qs 3 9 8 1]) (.seq (.ops [qf 10 1 2,ql 11 1 10 1 false,qf 12 3 2,qs 3 12 11 1]) (.seq (.ops [qf 13 1 3,ql 14 1 13 1 false,qk 16 78 14,qf 16 3 3,qs 3 16 15 1]) (.seq (.ops [qf 17 1 4,ql 18 1 17 1 false,qk 20 78 18,qf 20 3 4,qs 3 20 19 1]) (.seq (.ops [qf 21 1 5,ql 22 1 21 5 true,qk 24 61 22,qf 24 3 5,qs 3 24 23 5]) (.seq (.ops [ql 25 3 3 10 true,qs 2 2 25 10]) .ret)))))))))⟩
theorem C5:cd 62=some Bq:=by kernel_rfl
theorem m9:fo cd 62 bd:=by
 intro h cs v S hv hw
 obtain⟨vs,rfl,q0⟩:=hv.st
 obtain⟨v0,r0,S0,T0,rfl,rfl,h0,q1⟩:=q0.step
 obtain⟨n0,e0,rfl,rfl,lo0,hi0⟩:=h0.int
 obtain⟨v1,r1,S1,T1,rfl,rfl,h1,q2⟩:=q1.step
 obtain⟨n1,e1,rfl,rfl,lo1,hi1⟩:=h1.int
 obtain⟨v2,r2,S2,T2,rfl,rfl,h2,q3⟩:=q2.step
 obtain⟨n2,e2,rfl,rfl,lo2,hi2⟩:=h2.int
 obtain⟨v3,r3,S3,T3,rfl,rfl,h3,q4⟩:=q3.step
 obtain⟨c3,e3⟩:=h3.one rfl
 rw[e3]at h3
 obtain⟨v4,r4,S4,T4,rfl,rfl,h4,q5⟩:=q4.step
 obtain⟨c4,e4⟩:=h4.one rfl
 rw[e4]at h4
 obtain⟨v5,r5,S5,T5,rfl,rfl,h5,q6⟩:=q5.step
 obtain⟨_,rfl,rfl⟩:=q6
 have hsz:cs.length=10:=hv.size
 simp only[Ty.size,Ty.au,Nat.reduceAdd,Nat.zero_add,List.drop_zero]at e0 e1 e2 e3 e4 hsz h5
 simp only[wt,bI]at hw
 refine an C5 rfl ?_
 simp(disch:=omega) only[aa,Bq,e0,e1,e2,e3,e4,hsz,ak,aj,SX,SU,SL,reduceCtorEq,Nat.reduceAdd,Nat.reduceLeDiff,reduceIte]
 refine ay (cY h3 (by omega)) ?_
 rintro r0 g0 ⟨t0,d0,U0,rfl,rfl,z0,o0,l0⟩
 obtain⟨y0_0,rfl⟩:=z0.one rfl
 simp(disch:=omega) only[aa,Bq,e0,e1,e2,e3,e4,hsz,ak,aj,SX,SU,SL,reduceCtorEq,Nat.reduceAdd,Nat.reduceLeDiff,reduceIte]
 refine ay (cY (h4.app) (by omega)) ?_
 rintro r1 g1 ⟨t1,d1,U1,rfl,rfl,z1,o1,l1⟩
 obtain⟨y1_0,rfl⟩:=z1.one rfl
 simp(disch:=omega) only[aa,Bq,e0,e1,e2,e3,e4,hsz,ak,aj,SX,SU,SL,reduceCtorEq,Nat.reduceAdd,Nat.reduceLeDiff,reduceIte]
 refine ay (tz ((h5.app).app) (by omega)) ?_
 rintro r2 g2 ⟨t2,d2,U2,rfl,rfl,z2,o2,l2⟩
 obtain⟨y2_0,y2_1,y2_2,y2_3,y2_4,rfl⟩:=oO z2.size
 simp(disch:=omega) only[aa,Bq,e0,e1,e2,e3,e4,hsz,ak,aj,SX,SU,SL,reduceCtorEq,Nat.reduceAdd,Nat.reduceLeDiff,reduceIte]
 refine⟨(t0++(t1++t2)),_,_,by simp only[List.append_assoc],rfl,⟨_,rfl,(Rs.mk (Rp.mkInt lo0 hi0) (Rs.mk (Rp.mkInt lo1 hi1) (Rs.mk (Rp.mkInt lo2 hi2) (Rs.mk ((z0.app).app) (Rs.mk (z1.app) (Rs.mk z2 Rs.nil))))))⟩,?_⟩
 have fr:=(eF.step (eF.step (eF.step (eF.nil h) z0.lt o0 l0) z1.lt o1 l1) z2.lt o2 l2)
 simpa only[List.nil_append,List.append_nil,List.append_assoc]using fr.both
def BH:AF:=⟨1,4,[.cell 2 11 true],(.seq (.ops [.i (.lbox 1 (.s 0)), .i (.lal 2 [.int .i64 0, .int .i64 0, .int .i64 0, .nils, .nils, .int .i64 0, .int .i64 0, .nils, .nils, .nils, .nils])]) (.seq (.ops [.i (.lal 3 [.int .i64 0, .int .i64 0, .int .i64 0, .nils, .nils, .int .i64 0, .int .i64 0, .nils, .nils, .nils, .nils])]) (.seq (.ops [qf 4 1 0,ql 5 1 4 10 true,qk 7 62 5,qf 7 3 0,qs 3 7 6 10]) (.seq (.ops [qf 8 1 10,ql 9 1 8 1 false,qk 11 79 9,qf 11 3 10,qs 3 11 10 1]) (.seq (.ops [ql 12 3 3 11 true,qs 2 2 12 11]) .ret)))))⟩
theorem CL:cd 63=some BH:=by kernel_rfl
theorem vq:fo cd 63 dc:=by
 intro h cs v S hv hw
 obtain⟨vs,rfl,q0⟩:=hv.st
 obtain⟨v0,r0,S0,T0,rfl,rfl,h0,q1⟩:=q0.step
 obtain⟨v1,r1,S1,T1,rfl,rfl,h1,q2⟩:=q1.step
 obtain⟨c1,e1⟩:=h1.one rfl
 rw[e1]at h1
 obtain⟨_,rfl,rfl⟩:=q2
 have hsz:cs.length=11:=hv.size
 simp only[Ty.size,Ty.au,Nat.reduceAdd,Nat.zero_add,List.drop_zero]at e1 hsz h0
 simp only[wt,bI]at hw
 refine an CL rfl ?_
 simp(disch:=omega) only[aa,BH,e1,hsz,ak,aj,SX,SU,SL,reduceCtorEq,Nat.reduceAdd,Nat.reduceLeDiff,reduceIte]
 refine ay (m9 h0 (by omega)) ?_
 rintro r0 g0 ⟨t0,d0,U0,rfl,rfl,z0,o0,l0⟩
 obtain⟨y0_0,y0_1,y0_2,y0_3,y0_4,y0_5,y0_6,y0_7,y0_8,y0_9,rfl⟩:=tt z0.size
 simp(disch:=omega) only[aa,BH,e1,hsz,ak,aj,SX,SU,SL,reduceCtorEq,Nat.reduceAdd,Nat.reduceLeDiff,reduceIte]
 refine ay (jw (h1.app) (by omega)) ?_
 rintro r1 g1 ⟨t1,d1,U1,rfl,rfl,z1,o1,l1⟩
 obtain⟨y1_0,rfl⟩:=z1.one rfl
 simp(disch:=omega) only[aa,BH,e1,hsz,ak,aj,SX,SU,SL,reduceCtorEq,Nat.reduceAdd,Nat.reduceLeDiff,reduceIte]
 refine⟨(t0++t1),_,_,by simp only[List.append_assoc],rfl,⟨_,rfl,(Rs.mk (z0.app) (Rs.mk z1 Rs.nil))⟩,?_⟩
 have fr:=(eF.step (eF.step (eF.nil h) z0.lt o0 l0) z1.lt o1 l1)
 simpa only[List.nil_append,List.append_nil,List.append_assoc]using fr.both
def Cb:AF:=⟨1,4,[.cell 2 3 true],(.seq (.ops [.i (.lbox 1 (.s 0)), .i (.lal 2 [.int .i64 0, .int .i64 0, .nils])]) (.seq (.ops [.i (.lal 3 [.int .i64 0, .int .i64 0, .nils])]) (.seq (.ops [qf 4 1 0,ql 5 1 4 1 false,qf 6 3 0,qs 3 6 5 1]) (.seq (.ops [qf 7 1 1,ql 8 1 7 1 false,qf 9 3 1,qs 3 9 8 1]) (.seq (.ops [qf 10 1 2,ql 11 1 10 1 false,qk 13 78 11,qf 13 3 2,qs 3 13 12 1]) (.seq (.ops [ql 14 3 3 3 true,qs 2 2 14 3]) .ret))))))⟩
theorem Da:cd 84=some Cb:=by kernel_rfl
theorem uS:fo cd 84 cg:=by
 intro h cs v S hv hw
 obtain⟨vs,rfl,q0⟩:=hv.st
 obtain⟨v0,r0,S0,T0,rfl,rfl,h0,q1⟩:=q0.step
 obtain⟨n0,e0,rfl,rfl,lo0,hi0⟩:=h0.int
 obtain⟨v1,r1,S1,T1,rfl,rfl,h1,q2⟩:=q1.step
 obtain⟨n1,e1,rfl,rfl,lo1,hi1⟩:=h1.int
 obtain⟨v2,r2,S2,T2,rfl,rfl,h2,q3⟩:=q2.step
 obtain⟨c2,e2⟩:=h2.one rfl
 rw[e2]at h2
 obtain⟨_,rfl,rfl⟩:=q3
 have hsz:cs.length=3:=hv.size
 simp only[Ty.size,Ty.au,Nat.reduceAdd,Nat.zero_add,List.drop_zero]at e0 e1 e2 hsz
 simp only[wt,bI]at hw
 refine an Da rfl ?_
 simp(disch:=omega) only[aa,Cb,e0,e1,e2,hsz,ak,aj,SX,SU,SL,reduceCtorEq,Nat.reduceAdd,Nat.reduceLeDiff,reduceIte]
 refine ay (cY h2 (by omega)) ?_
 rintro r0 g0 ⟨t0,d0,U0,rfl,rfl,z0,o0,l0⟩
 obtain⟨y0_0,rfl⟩:=z0.one rfl
 simp(disch:=omega) only[aa,Cb,e0,e1,e2,hsz,ak,aj,SX,SU,SL,reduceCtorEq,Nat.reduceAdd,Nat.reduceLeDiff,reduceIte]
 refine⟨t0,_,_,by simp only[List.append_assoc],rfl,⟨_,rfl,(Rs.mk (Rp.mkInt lo0 hi0) (Rs.mk (Rp.mkInt lo1 hi1) (Rs.mk z0 Rs.nil)))⟩,?_⟩
 have fr:=(eF.step (eF.nil h) z0.lt o0 l0)
 simpa only[List.nil_append,List.append_nil,List.append_assoc]using fr.both
def CU:AF:=⟨1,5,[.tmp 2],(.seq (.ops [.i (.mov 2 (.c (.val false [.nils])))]) (.seq (.ops [qm 5 0,qn 6 5, .i (.mks 7 105 3 40 [.int .i64 0, .int .i64 0, .nils] (.s 6)),qm 3 7]) (.seq (.seq (.ops [.i (.mov 4 (qi 0))]) (.block 0 (.loop [21,20,19,18,17,16,15,14,13,12,11,10,9,8] (.seq (.seq (.ops [qm 8 4,qm 9 0,qn 10 9,qd 11 .lss 8 10]) (.cond (.s 11) .skip (.exit 0))) (.seq (.block 1 (.ops [qm 14 3,qm 15 4,qm 16 0,qm 17 4, .i (.iad 18 (.s 16) (.s 17) 3), .i (.ldh 19 (.s 18) 3 true),qk 21 84 19, .i (.iad 21 (.s 14) (.s 15) 3), .i (.sth (.s 21) (.s 20) 3)])) (.ops [qm 12 4, .i (.bin 13 .add (.s 12) (qi 1)),qm 4 13])))))) (.seq (.ops [qm 22 3,qm 2 22]) .ret))))⟩
theorem DB:cd 80=some CU:=by kernel_rfl
theorem ss:fo cd 80 (.sl cg):=re DB (by omega) rfl uS
def B3:AF:=⟨1,4,[.cell 2 2 true],(.seq (.ops [.i (.lbox 1 (.s 0)), .i (.lal 2 [.int .i64 0, .nils])]) (.seq (.ops [.i (.lal 3 [.int .i64 0, .nils])]) (.seq (.ops [qf 4 1 0,ql 5 1 4 1 false,qf 6 3 0,qs 3 6 5 1]) (.seq (.ops [qf 7 1 1,ql 8 1 7 1 false,qk 10 80 8,qf 10 3 1,qs 3 10 9 1]) (.seq (.ops [ql 11 3 3 2 true,qs 2 2 11 2]) .ret)))))⟩
theorem DU:cd 64=some B3:=by kernel_rfl
theorem A7:fo cd 64 tf:=by
 intro h cs v S hv hw
 obtain⟨vs,rfl,q0⟩:=hv.st
 obtain⟨v0,r0,S0,T0,rfl,rfl,h0,q1⟩:=q0.step
 obtain⟨n0,e0,rfl,rfl,lo0,hi0⟩:=h0.int
 obtain⟨v1,r1,S1,T1,rfl,rfl,h1,q2⟩:=q1.step
 obtain⟨c1,e1⟩:=h1.one rfl
 rw[e1]at h1
 obtain⟨_,rfl,rfl⟩:=q2
 have hsz:cs.length=2:=hv.size
 simp only[Ty.size,Ty.au,Nat.reduceAdd,Nat.zero_add,List.drop_zero]at e0 e1 hsz
 simp only[wt,bI]at hw
 refine an DU rfl ?_
 simp(disch:=omega) only[aa,B3,e0,e1,hsz,ak,aj,SX,SU,SL,reduceCtorEq,Nat.reduceAdd,Nat.reduceLeDiff,reduceIte]
 refine ay (ss h1 (by omega)) ?_
 rintro r0 g0 ⟨t0,d0,U0,rfl,rfl,z0,o0,l0⟩
 obtain⟨y0_0,rfl⟩:=z0.one rfl
 simp(disch:=omega) only[aa,B3,e0,e1,hsz,ak,aj,SX,SU,SL,reduceCtorEq,Nat.reduceAdd,Nat.reduceLeDiff,reduceIte]
 refine⟨t0,_,_,by simp only[List.append_assoc],rfl,⟨_,rfl,(Rs.mk (Rp.mkInt lo0 hi0) (Rs.mk z0 Rs.nil))⟩,?_⟩
 have fr:=(eF.step (eF.nil h) z0.lt o0 l0)
 simpa only[List.nil_append,List.append_nil,List.append_assoc]using fr.both
def Dq:AF:=⟨1,5,[.tmp 2],(.seq (.ops [.i (.mov 2 (.c (.val false [.nils])))]) (.seq (.ops [qm 5 0,qn 6 5, .i (.mks 7 59 10 160 qz (.s 6)),qm 3 7]) (.seq (.seq (.ops [.i (.mov 4 (qi 0))]) (.block 0 (.loop [21,20,19,18,17,16,15,14,13,12,11,10,9,8] (.seq (.seq (.ops [qm 8 4,qm 9 0,qn 10 9,qd 11 .lss 8 10]) (.cond (.s 11) .skip (.exit 0))) (.seq (.block 1 (.ops [qm 14 3,qm 15 4,qm 16 0,qm 17 4, .i (.iad 18 (.s 16) (.s 17) 10), .i (.ldh 19 (.s 18) 10 true),qk 21 62 19, .i (.iad 21 (.s 14) (.s 15) 10), .i (.sth (.s 21) (.s 20) 10)])) (.ops [qm 12 4, .i (.bin 13 .add (.s 12) (qi 1)),qm 4 13])))))) (.seq (.ops [qm 22 3,qm 2 22]) .ret))))⟩
theorem CQ:cd 81=some Dq:=by kernel_rfl
theorem uc:fo cd 81 (.sl bd):=re CQ (by omega) rfl m9
def BP:AF:=⟨1,4,[.cell 2 6 true],(.seq (.ops [.i (.lbox 1 (.s 0)), .i (.lal 2 [.nils, .int .i64 0, .int .i64 0, .nils, .nils, .nils])]) (.seq (.ops [.i (.lal 3 [.nils, .int .i64 0, .int .i64 0, .nils, .nils, .nils])]) (.seq (.ops [qf 4 1 0,ql 5 1 4 1 false,qk 7 81 5,qf 7 3 0,qs 3 7 6 1]) (.seq (.ops [qf 8 1 1,ql 9 1 8 5 true,qk 11 61 9,qf 11 3 1,qs 3 11 10 5]) (.seq (.ops [ql 12 3 3 6 true,qs 2 2 12 6]) .ret)))))⟩
theorem Db:cd 65=some BP:=by kernel_rfl
theorem vu:fo cd 65 cj:=by
 intro h cs v S hv hw
 obtain⟨vs,rfl,q0⟩:=hv.st
 obtain⟨v0,r0,S0,T0,rfl,rfl,h0,q1⟩:=q0.step
 obtain⟨c0,e0⟩:=h0.one rfl
 rw[e0]at h0
 obtain⟨v1,r1,S1,T1,rfl,rfl,h1,q2⟩:=q1.step
 obtain⟨_,rfl,rfl⟩:=q2
 have hsz:cs.length=6:=hv.size
 simp only[Ty.size,Ty.au,Nat.reduceAdd,Nat.zero_add,List.drop_zero]at e0 hsz h1
 simp only[wt,bI]at hw
 refine an Db rfl ?_
 simp(disch:=omega) only[aa,BP,e0,hsz,ak,aj,SX,SU,SL,reduceCtorEq,Nat.reduceAdd,Nat.reduceLeDiff,reduceIte]
 refine ay (uc h0 (by omega)) ?_
 rintro r0 g0 ⟨t0,d0,U0,rfl,rfl,z0,o0,l0⟩
 obtain⟨y0_0,rfl⟩:=z0.one rfl
 simp(disch:=omega) only[aa,BP,e0,hsz,ak,aj,SX,SU,SL,reduceCtorEq,Nat.reduceAdd,Nat.reduceLeDiff,reduceIte]
 refine ay (tz (h1.app) (by omega)) ?_
 rintro r1 g1 ⟨t1,d1,U1,rfl,rfl,z1,o1,l1⟩
 obtain⟨y1_0,y1_1,y1_2,y1_3,y1_4,rfl⟩:=oO z1.size
 simp(disch:=omega) only[aa,BP,e0,hsz,ak,aj,SX,SU,SL,reduceCtorEq,Nat.reduceAdd,Nat.reduceLeDiff,reduceIte]
 refine⟨(t0++t1),_,_,by simp only[List.append_assoc],rfl,⟨_,rfl,(Rs.mk (z0.app) (Rs.mk z1 Rs.nil))⟩,?_⟩
 have fr:=(eF.step (eF.step (eF.nil h) z0.lt o0 l0) z1.lt o1 l1)
 simpa only[List.nil_append,List.append_nil,List.append_assoc]using fr.both
def BI:AF:=⟨1,5,[.cell 2 5 true],(.seq (.ops [.i (.lbox 1 (.s 0)), .i (.lal 2 [.int .i64 0, .int .i64 0, .int .i64 0, .nils, .nils])]) (.seq (.ops [.i (.lal 3 [.int .i64 0, .int .i64 0, .int .i64 0, .nils, .nils])]) (.seq (.ops [qf 4 1 0,ql 5 1 4 1 false,qf 6 3 0,qs 3 6 5 1]) (.seq (.ops [qf 7 1 1,ql 8 1 7 1 false,qf 9 3 1,qs 3 9 8 1]) (.seq (.ops [qf 10 1 2,ql 11 1 10 1 false,qf 12 3 2,qs 3 12 11 1]) (.seq (.ops [qf 13 1 3,ql 14 1 13 1 false,qk 16 78 14,qf 16 3 3,qs 3 16 15 1]) (.seq (.ops [qf 17 1 4,ql 18 1 17 1 false,qk 20 79 18,qf 20 3 4,qs 3 20 19 1]) (.seq (.ops [ql 21 3 3 5 true,qs 2 2 21 5]) .ret))))))))⟩
theorem DN:cd 66=some BI:=by kernel_rfl
theorem xC:fo cd 66 hM:=by
 intro h cs v S hv hw
 obtain⟨vs,rfl,q0⟩:=hv.st
 obtain⟨v0,r0,S0,T0,rfl,rfl,h0,q1⟩:=q0.step
 obtain⟨n0,e0,rfl,rfl,lo0,hi0⟩:=h0.int
 obtain⟨v1,r1,S1,T1,rfl,rfl,h1,q2⟩:=q1.step
 obtain⟨n1,e1,rfl,rfl,lo1,hi1⟩:=h1.int
 obtain⟨v2,r2,S2,T2,rfl,rfl,h2,q3⟩:=q2.step
 obtain⟨n2,e2,rfl,rfl,lo2,hi2⟩:=h2.int
 obtain⟨v3,r3,S3,T3,rfl,rfl,h3,q4⟩:=q3.step
 obtain⟨c3,e3⟩:=h3.one rfl
 rw[e3]at h3
 obtain⟨v4,r4,S4,T4,rfl,rfl,h4,q5⟩:=q4.step
 obtain⟨c4,e4⟩:=h4.one rfl
 rw[e4]at h4
 obtain⟨_,rfl,rfl⟩:=q5
 have hsz:cs.length=5:=hv.size
 simp only[Ty.size,Ty.au,Nat.reduceAdd,Nat.zero_add,List.drop_zero]at e0 e1 e2 e3 e4 hsz
 simp only[wt,bI]at hw
 refine an DN rfl ?_
 simp(disch:=omega) only[aa,BI,e0,e1,e2,e3,e4,hsz,ak,aj,SX,SU,SL,reduceCtorEq,Nat.reduceAdd,Nat.reduceLeDiff,reduceIte]
 refine ay (cY h3 (by omega)) ?_
 rintro r0 g0 ⟨t0,d0,U0,rfl,rfl,z0,o0,l0⟩
 obtain⟨y0_0,rfl⟩:=z0.one rfl
 simp(disch:=omega) only[aa,BI,e0,e1,e2,e3,e4,hsz,ak,aj,SX,SU,SL,reduceCtorEq,Nat.reduceAdd,Nat.reduceLeDiff,reduceIte]
 refine ay (jw (h4.app) (by omega)) ?_
 rintro r1 g1 ⟨t1,d1,U1,rfl,rfl,z1,o1,l1⟩
 obtain⟨y1_0,rfl⟩:=z1.one rfl
 simp(disch:=omega) only[aa,BI,e0,e1,e2,e3,e4,hsz,ak,aj,SX,SU,SL,reduceCtorEq,Nat.reduceAdd,Nat.reduceLeDiff,reduceIte]
 refine⟨(t0++t1),_,_,by simp only[List.append_assoc],rfl,⟨_,rfl,(Rs.mk (Rp.mkInt lo0 hi0) (Rs.mk (Rp.mkInt lo1 hi1) (Rs.mk (Rp.mkInt lo2 hi2) (Rs.mk (z0.app) (Rs.mk z1 Rs.nil)))))⟩,?_⟩
 have fr:=(eF.step (eF.step (eF.nil h) z0.lt o0 l0) z1.lt o1 l1)
 simpa only[List.nil_append,List.append_nil,List.append_assoc]using fr.both
def xp:AF:=⟨1,6,[.cell 2 45 true],(.seq (.ops [.i (.lbox 1 (.s 0)), .i (.lal 2 [.int .i64 0, .int .i64 0, .int .i64 0, .nils, .int .i64 0, .nils, .int .i64 0, .int .i64 0, .nils, .nils, .nils, .int .i64 0, .int .i64 0, .int .i64 0, .nils, .nils, .int .i64 0, .int .i64 0, .nils, .nils, .nils, .int .i64 0, .int .i64 0, .int .i64 0, .nils, .nils, .int .i64 0, .int .i64 0, .nils, .nils, .nils, .nils, .int .i64 0, .nils, .nils, .int .i64 0, .int .i64 0, .nils, .nils, .nils, .int .i64 0, .int .i64 0, .int .i64 0, .nils, .nils])]) (.seq (.ops [.i (.lal 3 [.int .i64 0, .int .i64 0, .int .i64 0, .nils, .int .i64 0, .nils, .int .i64 0, .int .i64 0, .nils, .nils, .nils, .int .i64 0, .int .i64 0, .int .i64 0, .nils, .nils, .int .i64 0, .int .i64 0, .nils, .nils, .nils, .int .i64 0, .int .i64 0, .int .i64 0, .nils, .nils, .int .i64 0, .int .i64 0, .nils, .nils, .nils, .nils, .int .i64 0, .nils, .nils, .int .i64 0, .int .i64 0, .nils, .nils, .nils, .int .i64 0, .int .i64 0, .int .i64 0, .nils, .nils])]) (.seq (.ops [qf 4 1 0,ql 5 1 4 1 false,qf 6 3 0,qs 3 6 5 1]) (.seq (.ops [qf 7 1 1,ql 8 1 7 5 true,qk 10 60 8,qf 10 3 1,qs 3 10 9 5]) (.seq (.ops [qf 11 1 6,ql 12 1 11 5 true,qk 14 61 12,qf 14 3 6,qs 3 14 13 5]) (.seq (.ops [qf 15 1 11,ql 16 1 15 10 true,qk 18 62 16,qf 18 3 11,qs 3 18 17 10]) (.seq (.ops [qf 19 1 21,ql 20 1 19 11 true,qk 22 63 20,qf 22 3 21,qs 3 22 21 11]) (.seq (.ops [qf 23 1 32,ql 24 1 23 2 true,qk 26 64 24,qf 26 3 32,qs 3 26 25 2]) (.seq (.ops [qf 27 1 34,ql 28 1 27 6 true,qk 30 65 28,qf 30 3 34,qs 3 30 29 6]) (.seq (.ops [qf 31 1 40,ql 32 1 31 5 true,qk 34 66 32,qf 34 3 40,qs 3 34 33 5]) (.seq (.ops [ql 35 3 3 45 true,qs 2 2 35 45]) .ret)))))))))))⟩
theorem DL:cd 35=some xp:=by kernel_rfl
theorem zW:fo cd 35 dA:=by
 intro h cs v S hv hw
 obtain⟨vs,rfl,q0⟩:=hv.st
 obtain⟨v0,r0,S0,T0,rfl,rfl,h0,q1⟩:=q0.step
 obtain⟨n0,e0,rfl,rfl,lo0,hi0⟩:=h0.int
 obtain⟨v1,r1,S1,T1,rfl,rfl,h1,q2⟩:=q1.step
 obtain⟨v2,r2,S2,T2,rfl,rfl,h2,q3⟩:=q2.step
 obtain⟨v3,r3,S3,T3,rfl,rfl,h3,q4⟩:=q3.step
 obtain⟨v4,r4,S4,T4,rfl,rfl,h4,q5⟩:=q4.step
 obtain⟨v5,r5,S5,T5,rfl,rfl,h5,q6⟩:=q5.step
 obtain⟨v6,r6,S6,T6,rfl,rfl,h6,q7⟩:=q6.step
 obtain⟨v7,r7,S7,T7,rfl,rfl,h7,q8⟩:=q7.step
 obtain⟨_,rfl,rfl⟩:=q8
 have hsz:cs.length=45:=hv.size
 simp only[Ty.size,Ty.au,Nat.reduceAdd,Nat.zero_add,List.drop_zero]at e0 hsz h1 h2 h3 h4 h5 h6 h7
 simp only[wt,bI]at hw
 refine an DL rfl ?_
 simp(disch:=omega) only[aa,xp,e0,hsz,ak,aj,SX,SU,SL,reduceCtorEq,Nat.reduceAdd,Nat.reduceLeDiff,reduceIte]
 refine ay (wA h1 (by omega)) ?_
 rintro r0 g0 ⟨t0,d0,U0,rfl,rfl,z0,o0,l0⟩
 obtain⟨y0_0,y0_1,y0_2,y0_3,y0_4,rfl⟩:=oO z0.size
 simp(disch:=omega) only[aa,xp,e0,hsz,ak,aj,SX,SU,SL,reduceCtorEq,Nat.reduceAdd,Nat.reduceLeDiff,reduceIte]
 refine ay (tz (h2.app) (by omega)) ?_
 rintro r1 g1 ⟨t1,d1,U1,rfl,rfl,z1,o1,l1⟩
 obtain⟨y1_0,y1_1,y1_2,y1_3,y1_4,rfl⟩:=oO z1.size
 simp(disch:=omega) only[aa,xp,e0,hsz,ak,aj,SX,SU,SL,reduceCtorEq,Nat.reduceAdd,Nat.reduceLeDiff,reduceIte]
 refine ay (m9 ((h3.app).app) (by omega)) ?_
 rintro r2 g2 ⟨t2,d2,U2,rfl,rfl,z2,o2,l2⟩
 obtain⟨y2_0,y2_1,y2_2,y2_3,y2_4,y2_5,y2_6,y2_7,y2_8,y2_9,rfl⟩:=tt z2.size
 simp(disch:=omega) only[aa,xp,e0,hsz,ak,aj,SX,SU,SL,reduceCtorEq,Nat.reduceAdd,Nat.reduceLeDiff,reduceIte]
 refine ay (vq (((h4.app).app).app) (by omega)) ?_
 rintro r3 g3 ⟨t3,d3,U3,rfl,rfl,z3,o3,l3⟩
 obtain⟨y3_0,y3_1,y3_2,y3_3,y3_4,y3_5,y3_6,y3_7,y3_8,y3_9,y3_10,rfl⟩:=yP z3.size
 simp(disch:=omega) only[aa,xp,e0,hsz,ak,aj,SX,SU,SL,reduceCtorEq,Nat.reduceAdd,Nat.reduceLeDiff,reduceIte]
 refine ay (A7 ((((h5.app).app).app).app) (by omega)) ?_
 rintro r4 g4 ⟨t4,d4,U4,rfl,rfl,z4,o4,l4⟩
 obtain⟨y4_0,y4_1,rfl⟩:=Bd z4.size
 simp(disch:=omega) only[aa,xp,e0,hsz,ak,aj,SX,SU,SL,reduceCtorEq,Nat.reduceAdd,Nat.reduceLeDiff,reduceIte]
 refine ay (vu (((((h6.app).app).app).app).app) (by omega)) ?_
 rintro r5 g5 ⟨t5,d5,U5,rfl,rfl,z5,o5,l5⟩
 obtain⟨y5_0,y5_1,y5_2,y5_3,y5_4,y5_5,rfl⟩:=Ay z5.size
 simp(disch:=omega) only[aa,xp,e0,hsz,ak,aj,SX,SU,SL,reduceCtorEq,Nat.reduceAdd,Nat.reduceLeDiff,reduceIte]
 refine ay (xC ((((((h7.app).app).app).app).app).app) (by omega)) ?_
 rintro r6 g6 ⟨t6,d6,U6,rfl,rfl,z6,o6,l6⟩
 obtain⟨y6_0,y6_1,y6_2,y6_3,y6_4,rfl⟩:=oO z6.size
 simp(disch:=omega) only[aa,xp,e0,hsz,ak,aj,SX,SU,SL,reduceCtorEq,Nat.reduceAdd,Nat.reduceLeDiff,reduceIte]
 refine⟨(t0++(t1++(t2++(t3++(t4++(t5++t6)))))),_,_,by simp only[List.append_assoc],rfl,⟨_,rfl,(Rs.mk (Rp.mkInt lo0 hi0) (Rs.mk ((((((z0.app).app).app).app).app).app) (Rs.mk (((((z1.app).app).app).app).app) (Rs.mk ((((z2.app).app).app).app) (Rs.mk (((z3.app).app).app) (Rs.mk ((z4.app).app) (Rs.mk (z5.app) (Rs.mk z6 Rs.nil))))))))⟩,?_⟩
 have fr:=(eF.step (eF.step (eF.step (eF.step (eF.step (eF.step (eF.step (eF.nil h) z0.lt o0 l0) z1.lt o1 l1) z2.lt o2 l2) z3.lt o3 l3) z4.lt o4 l4) z5.lt o5 l5) z6.lt o6 l6)
 simpa only[List.nil_append,List.append_nil,List.append_assoc]using fr.both
def BU:AF:=⟨1,4,[.cell 2 47 true],(.seq (.ops [.i (.lbox 1 (.s 0)), .i (.lal 2 [.int .i64 0, .int .i64 0, .int .i64 0, .int .i64 0, .int .i64 0, .nils, .int .i64 0, .nils, .int .i64 0, .int .i64 0, .nils, .nils, .nils, .int .i64 0, .int .i64 0, .int .i64 0, .nils, .nils, .int .i64 0, .int .i64 0, .nils, .nils, .nils, .int .i64 0, .int .i64 0, .int .i64 0, .nils, .nils, .int .i64 0, .int .i64 0, .nils, .nils, .nils, .nils, .int .i64 0, .nils, .nils, .int .i64 0, .int .i64 0, .nils, .nils, .nils, .int .i64 0, .int .i64 0, .int .i64 0, .nils, .nils])]) (.seq (.ops [.i (.lal 3 [.int .i64 0, .int .i64 0, .int .i64 0, .int .i64 0, .int .i64 0, .nils, .int .i64 0, .nils, .int .i64 0, .int .i64 0, .nils, .nils, .nils, .int .i64 0, .int .i64 0, .int .i64 0, .nils, .nils, .int .i64 0, .int .i64 0, .nils, .nils, .nils, .int .i64 0, .int .i64 0, .int .i64 0, .nils, .nils, .int .i64 0, .int .i64 0, .nils, .nils, .nils, .nils, .int .i64 0, .nils, .nils, .int .i64 0, .int .i64 0, .nils, .nils, .nils, .int .i64 0, .int .i64 0, .int .i64 0, .nils, .nils])]) (.seq (.ops [qf 4 1 0,ql 5 1 4 1 false,qf 6 3 0,qs 3 6 5 1]) (.seq (.ops [qf 7 1 1,ql 8 1 7 1 false,qf 9 3 1,qs 3 9 8 1]) (.seq (.ops [qf 10 1 2,ql 11 1 10 45 true,qk 13 35 11,qf 13 3 2,qs 3 13 12 45]) (.seq (.ops [ql 14 3 3 47 true,qs 2 2 14 47]) .ret))))))⟩
theorem C2:cd 15=some BU:=by kernel_rfl
theorem uf:fo cd 15 TEvent:=by
 intro h cs v S hv hw
 obtain⟨vs,rfl,q0⟩:=hv.st
 obtain⟨v0,r0,S0,T0,rfl,rfl,h0,q1⟩:=q0.step
 obtain⟨n0,e0,rfl,rfl,lo0,hi0⟩:=h0.int
 obtain⟨v1,r1,S1,T1,rfl,rfl,h1,q2⟩:=q1.step
 obtain⟨n1,e1,rfl,rfl,lo1,hi1⟩:=h1.int
 obtain⟨v2,r2,S2,T2,rfl,rfl,h2,q3⟩:=q2.step
 obtain⟨_,rfl,rfl⟩:=q3
 have hsz:cs.length=47:=hv.size
 simp only[Ty.size,Ty.au,Nat.reduceAdd,Nat.zero_add,List.drop_zero]at e0 e1 hsz h2
 simp only[wt,bI]at hw
 refine an C2 rfl ?_
 simp(disch:=omega) only[aa,BU,e0,e1,hsz,ak,aj,SX,SU,SL,reduceCtorEq,Nat.reduceAdd,Nat.reduceLeDiff,reduceIte]
 refine ay (zW h2 (by omega)) ?_
 rintro r0 g0 ⟨t0,d0,U0,rfl,rfl,z0,o0,l0⟩
 obtain⟨y0_0,y0_1,y0_2,y0_3,y0_4,y0_5,y0_6,y0_7,y0_8,y0_9,y0_10,y0_11,y0_12,y0_13,y0_14,y0_15,y0_16,y0_17,y0_18,y0_19,y0_20,y0_21,y0_22,y0_23,y0_24,y0_25,y0_26,y0_27,y0_28,y0_29,y0_30,y0_31,y0_32,y0_33,y0_34,y0_35,y0_36,y0_37,y0_38,y0_39,y0_40,y0_41,y0_42,y0_43,y0_44,rfl⟩:=Aj z0.size
 simp(disch:=omega) only[aa,BU,e0,e1,hsz,ak,aj,SX,SU,SL,reduceCtorEq,Nat.reduceAdd,Nat.reduceLeDiff,reduceIte]
 refine⟨t0,_,_,by simp only[List.append_assoc],rfl,⟨_,rfl,(Rs.mk (Rp.mkInt lo0 hi0) (Rs.mk (Rp.mkInt lo1 hi1) (Rs.mk z0 Rs.nil)))⟩,?_⟩
 have fr:=(eF.step (eF.nil h) z0.lt o0 l0)
 simpa only[List.nil_append,List.append_nil,List.append_assoc]using fr.both
def c6:AF:=⟨1,5,[.tmp 2],(.seq (.ops [.i (.mov 2 (.c (.val false [.nils])))]) (.seq (.ops [qm 5 0,qn 6 5, .i (.mks 7 72 47 744 [.int .i64 0, .int .i64 0, .int .i64 0, .int .i64 0, .int .i64 0, .nils, .int .i64 0, .nils, .int .i64 0, .int .i64 0, .nils, .nils, .nils, .int .i64 0, .int .i64 0, .int .i64 0, .nils, .nils, .int .i64 0, .int .i64 0, .nils, .nils, .nils, .int .i64 0, .int .i64 0, .int .i64 0, .nils, .nils, .int .i64 0, .int .i64 0, .nils, .nils, .nils, .nils, .int .i64 0, .nils, .nils, .int .i64 0, .int .i64 0, .nils, .nils, .nils, .int .i64 0, .int .i64 0, .int .i64 0, .nils, .nils] (.s 6)),qm 3 7]) (.seq (.seq (.ops [.i (.mov 4 (qi 0))]) (.block 0 (.loop [21,20,19,18,17,16,15,14,13,12,11,10,9,8] (.seq (.seq (.ops [qm 8 4,qm 9 0,qn 10 9,qd 11 .lss 8 10]) (.cond (.s 11) .skip (.exit 0))) (.seq (.block 1 (.ops [qm 14 3,qm 15 4,qm 16 0,qm 17 4, .i (.iad 18 (.s 16) (.s 17) 47), .i (.ldh 19 (.s 18) 47 true),qk 21 15 19, .i (.iad 21 (.s 14) (.s 15) 47), .i (.sth (.s 21) (.s 20) 47)])) (.ops [qm 12 4, .i (.bin 13 .add (.s 12) (qi 1)),qm 4 13])))))) (.seq (.ops [qm 22 3,qm 2 22]) .ret))))⟩
theorem k6:cd 6=some c6:=by kernel_rfl
theorem gM:fo cd 6 (.sl TEvent):=re k6 (by omega) rfl uf
def Dy:AF:=⟨2,5,[.tmp 4],(.seq (.ops [.i (.mov 4 (qb false))]) (.seq (.seq (.ops [qm 6 0,qn 7 6,qm 8 1,qn 9 8,qd 10 .neq 7 9]) (.cond (.s 10) (.seq (.ops [.i (.mov 4 (qb false))]) .ret) .skip)) (.seq (.seq (.ops [.i (.mov 5 (qi 0))]) (.block 0 (.loop [25,24,23,22,21,20,19,18,17,16,15,14,13,12,11] (.seq (.seq (.ops [qm 11 5,qm 12 0,qn 13 12,qd 14 .lss 11 13]) (.cond (.s 14) .skip (.exit 0))) (.seq (.block 1 (.seq (.ops [qm 17 0,qm 18 5, .i (.iad 19 (.s 17) (.s 18) 1), .i (.ldh 20 (.s 19) 1 false),qm 21 1,qm 22 5, .i (.iad 23 (.s 21) (.s 22) 1), .i (.ldh 24 (.s 23) 1 false),qd 25 .neq 20 24]) (.cond (.s 25) (.seq (.ops [.i (.mov 4 (qb false))]) .ret) .skip))) (.ops [qm 15 5, .i (.bin 16 .add (.s 15) (qi 1)),qm 5 16])))))) (.seq (.ops [.i (.mov 4 (qb true))]) .ret))))⟩
theorem C0:cd 70=some Dy:=by kernel_rfl
theorem cZ:bx cd 70 (.sl (.int .u8)):=xq C0
def s8:AF:=⟨2,6,[.tmp 4],(.seq (.ops [.i (.lbox 2 (.s 0)), .i (.lbox 3 (.s 1)), .i (.mov 4 (qb false))]) (.seq (.seq (.ops [qf 5 2 0,ql 6 2 5 1 false,qf 7 3 0,ql 8 3 7 1 false,qd 9 .neq 6 8]) (.cond (.s 9) (.seq (.ops [.i (.mov 4 (qb false))]) .ret) .skip)) (.seq (.seq (.ops [qf 10 2 1,ql 11 2 10 1 false,qf 12 3 1,ql 13 3 12 1 false,qd 14 .neq 11 13]) (.cond (.s 14) (.seq (.ops [.i (.mov 4 (qb false))]) .ret) .skip)) (.seq (.seq (.ops [qf 15 2 2,ql 16 2 15 1 false,qf 17 3 2,ql 18 3 17 1 false, .i (.call 20 70 false [(.s 16),(.s 18)]), .i (.not 20 (.s 19))]) (.cond (.s 20) (.seq (.ops [.i (.mov 4 (qb false))]) .ret) .skip)) (.seq (.seq (.ops [qf 21 2 3,ql 22 2 21 1 false,qf 23 3 3,ql 24 3 23 1 false,qd 25 .neq 22 24]) (.cond (.s 25) (.seq (.ops [.i (.mov 4 (qb false))]) .ret) .skip)) (.seq (.seq (.ops [qf 26 2 4,ql 27 2 26 1 false,qf 28 3 4,ql 29 3 28 1 false, .i (.call 31 70 false [(.s 27),(.s 29)]), .i (.not 31 (.s 30))]) (.cond (.s 31) (.seq (.ops [.i (.mov 4 (qb false))]) .ret) .skip)) (.seq (.ops [.i (.mov 4 (qb true))]) .ret)))))))⟩
theorem DS:cd 43=some s8:=by kernel_rfl
theorem wV:bx cd 43 g8:=by
 intro h ca cb va vb Sa Sb ha hb
 obtain⟨avs,rfl,aq0⟩:=ha.st
 obtain⟨av0,ar0,aS0,aT0,rfl,rfl,ah0,aq1⟩:=aq0.step
 obtain⟨an0,ae0,rfl,rfl,alo0,ahi0⟩:=ah0.int
 obtain⟨av1,ar1,aS1,aT1,rfl,rfl,ah1,aq2⟩:=aq1.step
 obtain⟨an1,ae1,rfl,rfl,alo1,ahi1⟩:=ah1.int
 obtain⟨av2,ar2,aS2,aT2,rfl,rfl,ah2,aq3⟩:=aq2.step
 obtain⟨ac2,ae2⟩:=ah2.one rfl
 rw[ae2]at ah2
 obtain⟨av3,ar3,aS3,aT3,rfl,rfl,ah3,aq4⟩:=aq3.step
 obtain⟨an3,ae3,rfl,rfl,alo3,ahi3⟩:=ah3.int
 obtain⟨av4,ar4,aS4,aT4,rfl,rfl,ah4,aq5⟩:=aq4.step
 obtain⟨ac4,ae4⟩:=ah4.one rfl
 rw[ae4]at ah4
 obtain⟨_,rfl,rfl⟩:=aq5
 have ahsz:ca.length=5:=ha.size
 obtain⟨bvs,rfl,bq0⟩:=hb.st
 obtain⟨bv0,br0,bS0,bT0,rfl,rfl,bh0,bq1⟩:=bq0.step
 obtain⟨bn0,be0,rfl,rfl,blo0,bhi0⟩:=bh0.int
 obtain⟨bv1,br1,bS1,bT1,rfl,rfl,bh1,bq2⟩:=bq1.step
 obtain⟨bn1,be1,rfl,rfl,blo1,bhi1⟩:=bh1.int
 obtain⟨bv2,br2,bS2,bT2,rfl,rfl,bh2,bq3⟩:=bq2.step
 obtain⟨bc2,be2⟩:=bh2.one rfl
 rw[be2]at bh2
 obtain⟨bv3,br3,bS3,bT3,rfl,rfl,bh3,bq4⟩:=bq3.step
 obtain⟨bn3,be3,rfl,rfl,blo3,bhi3⟩:=bh3.int
 obtain⟨bv4,br4,bS4,bT4,rfl,rfl,bh4,bq5⟩:=bq4.step
 obtain⟨bc4,be4⟩:=bh4.one rfl
 rw[be4]at bh4
 obtain⟨_,rfl,rfl⟩:=bq5
 have bhsz:cb.length=5:=hb.size
 simp only[Ty.size,Ty.au,Nat.reduceAdd,Nat.zero_add,List.drop_zero]at ae0 ae1 ae2 ae3 ae4 ahsz be0 be1 be2 be3 be4 bhsz
 refine an DS rfl ?_
 simp(disch:=omega) only[aa,s8,ae0,ae1,ae2,ae3,ae4,ahsz,be0,be1,be2,be3,be4,bhsz,ak,aj,SX,SU,SL,reduceCtorEq,Nat.reduceAdd,Nat.reduceLeDiff,reduceIte]
 refine ae (fun hn=> ?_) (fun hn=> ?_)
 case refine_1=>
  simp(disch:=omega) only[aa,s8,ae0,ae1,ae2,ae3,ae4,ahsz,be0,be1,be2,be3,be4,bhsz,ak,aj,SX,SU,SL,reduceCtorEq,Nat.reduceAdd,Nat.reduceLeDiff,reduceIte]
  simp[hn]
 have d0:an0=bn0:=by omega
 subst d0
 simp(disch:=omega) only[aa,s8,ae0,ae1,ae2,ae3,ae4,ahsz,be0,be1,be2,be3,be4,bhsz,ak,aj,SX,SU,SL,reduceCtorEq,Nat.reduceAdd,Nat.reduceLeDiff,reduceIte]
 refine ae (fun hn=> ?_) (fun hn=> ?_)
 case refine_1=>
  simp(disch:=omega) only[aa,s8,ae0,ae1,ae2,ae3,ae4,ahsz,be0,be1,be2,be3,be4,bhsz,ak,aj,SX,SU,SL,reduceCtorEq,Nat.reduceAdd,Nat.reduceLeDiff,reduceIte]
  simp[hn]
 have d1:an1=bn1:=by omega
 subst d1
 simp(disch:=omega) only[aa,s8,ae0,ae1,ae2,ae3,ae4,ahsz,be0,be1,be2,be3,be4,bhsz,ak,aj,SX,SU,SL,reduceCtorEq,Nat.reduceAdd,Nat.reduceLeDiff,reduceIte]
 refine bx.go cZ ah2 bh2 (fun d2=> ?_) (fun d2=> ?_)
 case refine_2=>
  simp(disch:=omega) only[aa,s8,ae0,ae1,ae2,ae3,ae4,ahsz,be0,be1,be2,be3,be4,bhsz,ak,aj,SX,SU,SL,reduceCtorEq,Nat.reduceAdd,Nat.reduceLeDiff,reduceIte]
  simp[d2]
 subst d2
 simp(disch:=omega) only[aa,s8,ae0,ae1,ae2,ae3,ae4,ahsz,be0,be1,be2,be3,be4,bhsz,ak,aj,SX,SU,SL,reduceCtorEq,Nat.reduceAdd,Nat.reduceLeDiff,reduceIte]
 refine ae (fun hn=> ?_) (fun hn=> ?_)
 case refine_1=>
  simp(disch:=omega) only[aa,s8,ae0,ae1,ae2,ae3,ae4,ahsz,be0,be1,be2,be3,be4,bhsz,ak,aj,SX,SU,SL,reduceCtorEq,Nat.reduceAdd,Nat.reduceLeDiff,reduceIte]
  simp[hn]
 have d3:an3=bn3:=by omega
 subst d3
 simp(disch:=omega) only[aa,s8,ae0,ae1,ae2,ae3,ae4,ahsz,be0,be1,be2,be3,be4,bhsz,ak,aj,SX,SU,SL,reduceCtorEq,Nat.reduceAdd,Nat.reduceLeDiff,reduceIte]
 refine bx.go cZ ah4 bh4 (fun d4=> ?_) (fun d4=> ?_)
 case refine_2=>
  simp(disch:=omega) only[aa,s8,ae0,ae1,ae2,ae3,ae4,ahsz,be0,be1,be2,be3,be4,bhsz,ak,aj,SX,SU,SL,reduceCtorEq,Nat.reduceAdd,Nat.reduceLeDiff,reduceIte]
  simp[d4]
 subst d4
 simp(disch:=omega) only[aa,s8,ae0,ae1,ae2,ae3,ae4,ahsz,be0,be1,be2,be3,be4,bhsz,ak,aj,SX,SU,SL,reduceCtorEq,Nat.reduceAdd,Nat.reduceLeDiff,reduceIte]
def Dd:AF:=⟨2,5,[.tmp 4],(.seq (.ops [.i (.mov 4 (qb false))]) (.seq (.seq (.ops [qm 6 0,qn 7 6,qm 8 1,qn 9 8,qd 10 .neq 7 9]) (.cond (.s 10) (.seq (.ops [.i (.mov 4 (qb false))]) .ret) .skip)) (.seq (.seq (.ops [.i (.mov 5 (qi 0))]) (.block 0 (.loop [26,25,24,23,22,21,20,19,18,17,16,15,14,13,12,11] (.seq (.seq (.ops [qm 11 5,qm 12 0,qn 13 12,qd 14 .lss 11 13]) (.cond (.s 14) .skip (.exit 0))) (.seq (.block 1 (.seq (.ops [qm 17 0,qm 18 5, .i (.iad 19 (.s 17) (.s 18) 1), .i (.ldh 20 (.s 19) 1 false),qm 21 1,qm 22 5, .i (.iad 23 (.s 21) (.s 22) 1), .i (.ldh 24 (.s 23) 1 false), .i (.call 26 70 false [(.s 20),(.s 24)]), .i (.not 26 (.s 25))]) (.cond (.s 26) (.seq (.ops [.i (.mov 4 (qb false))]) .ret) .skip))) (.ops [qm 15 5, .i (.bin 16 .add (.s 15) (qi 1)),qm 5 16])))))) (.seq (.ops [.i (.mov 4 (qb true))]) .ret))))⟩
theorem C1:cd 71=some Dd:=by kernel_rfl
theorem jm:bx cd 71 (.sl (.sl (.int .u8))):=pI C1 cZ
def s5:AF:=⟨2,6,[.tmp 4],(.seq (.ops [.i (.lbox 2 (.s 0)), .i (.lbox 3 (.s 1)), .i (.mov 4 (qb false))]) (.seq (.seq (.ops [qf 5 2 0,ql 6 2 5 1 false,qf 7 3 0,ql 8 3 7 1 false,qd 9 .neq 6 8]) (.cond (.s 9) (.seq (.ops [.i (.mov 4 (qb false))]) .ret) .skip)) (.seq (.seq (.ops [qf 10 2 1,ql 11 2 10 1 false,qf 12 3 1,ql 13 3 12 1 false,qd 14 .neq 11 13]) (.cond (.s 14) (.seq (.ops [.i (.mov 4 (qb false))]) .ret) .skip)) (.seq (.seq (.ops [qf 15 2 2,ql 16 2 15 1 false,qf 17 3 2,ql 18 3 17 1 false, .i (.call 20 70 false [(.s 16),(.s 18)]), .i (.not 20 (.s 19))]) (.cond (.s 20) (.seq (.ops [.i (.mov 4 (qb false))]) .ret) .skip)) (.seq (.seq (.ops [qf 21 2 3,ql 22 2 21 1 false,qf 23 3 3,ql 24 3 23 1 false, .i (.call 26 70 false [(.s 22),(.s 24)]), .i (.not 26 (.s 25))]) (.cond (.s 26) (.seq (.ops [.i (.mov 4 (qb false))]) .ret) .skip)) (.seq (.seq (.ops [qf 27 2 4,ql 28 2 27 1 false,qf 29 3 4,ql 30 3 29 1 false, .i (.call 32 71 false [(.s 28),(.s 30)]), .i (.not 32 (.s 31))]) (.cond (.s 32) (.seq (.ops [.i (.mov 4 (qb false))]) .ret) .skip)) (.seq (.ops [.i (.mov 4 (qb true))]) .ret)))))))⟩
theorem CZ:cd 44=some s5:=by kernel_rfl
theorem vf:bx cd 44 j8:=by
 intro h ca cb va vb Sa Sb ha hb
 obtain⟨avs,rfl,aq0⟩:=ha.st
 obtain⟨av0,ar0,aS0,aT0,rfl,rfl,ah0,aq1⟩:=aq0.step
 obtain⟨an0,ae0,rfl,rfl,alo0,ahi0⟩:=ah0.int
 obtain⟨av1,ar1,aS1,aT1,rfl,rfl,ah1,aq2⟩:=aq1.step
 obtain⟨an1,ae1,rfl,rfl,alo1,ahi1⟩:=ah1.int
 obtain⟨av2,ar2,aS2,aT2,rfl,rfl,ah2,aq3⟩:=aq2.step
 obtain⟨ac2,ae2⟩:=ah2.one rfl
 rw[ae2]at ah2
 obtain⟨av3,ar3,aS3,aT3,rfl,rfl,ah3,aq4⟩:=aq3.step
 obtain⟨ac3,ae3⟩:=ah3.one rfl
 rw[ae3]at ah3
 obtain⟨av4,ar4,aS4,aT4,rfl,rfl,ah4,aq5⟩:=aq4.step
 obtain⟨ac4,ae4⟩:=ah4.one rfl
 rw[ae4]at ah4
 obtain⟨_,rfl,rfl⟩:=aq5
 have ahsz:ca.length=5:=ha.size
 obtain⟨bvs,rfl,bq0⟩:=hb.st
 obtain⟨bv0,br0,bS0,bT0,rfl,rfl,bh0,bq1⟩:=bq0.step
 obtain⟨bn0,be0,rfl,rfl,blo0,bhi0⟩:=bh0.int
 obtain⟨bv1,br1,bS1,bT1,rfl,rfl,bh1,bq2⟩:=bq1.step
 obtain⟨bn1,be1,rfl,rfl,blo1,bhi1⟩:=bh1.int
 obtain⟨bv2,br2,bS2,bT2,rfl,rfl,bh2,bq3⟩:=bq2.step
 obtain⟨bc2,be2⟩:=bh2.one rfl
 rw[be2]at bh2
 obtain⟨bv3,br3,bS3,bT3,rfl,rfl,bh3,bq4⟩:=bq3.step
 obtain⟨bc3,be3⟩:=bh3.one rfl
 rw[be3]at bh3
 obtain⟨bv4,br4,bS4,bT4,rfl,rfl,bh4,bq5⟩:=bq4.step
 obtain⟨bc4,be4⟩:=bh4.one rfl
 rw[be4]at bh4
 obtain⟨_,rfl,rfl⟩:=bq5
 have bhsz:cb.length=5:=hb.size
 simp only[Ty.size,Ty.au,Nat.reduceAdd,Nat.zero_add,List.drop_zero]at ae0 ae1 ae2 ae3 ae4 ahsz be0 be1 be2 be3 be4 bhsz
 refine an CZ rfl ?_
 simp(disch:=omega) only[aa,s5,ae0,ae1,ae2,ae3,ae4,ahsz,be0,be1,be2,be3,be4,bhsz,ak,aj,SX,SU,SL,reduceCtorEq,Nat.reduceAdd,Nat.reduceLeDiff,reduceIte]
 refine ae (fun hn=> ?_) (fun hn=> ?_)
 case refine_1=>
  simp(disch:=omega) only[aa,s5,ae0,ae1,ae2,ae3,ae4,ahsz,be0,be1,be2,be3,be4,bhsz,ak,aj,SX,SU,SL,reduceCtorEq,Nat.reduceAdd,Nat.reduceLeDiff,reduceIte]
  simp[hn]
 have d0:an0=bn0:=by omega
 subst d0
 simp(disch:=omega) only[aa,s5,ae0,ae1,ae2,ae3,ae4,ahsz,be0,be1,be2,be3,be4,bhsz,ak,aj,SX,SU,SL,reduceCtorEq,Nat.reduceAdd,Nat.reduceLeDiff,reduceIte]
 refine ae (fun hn=> ?_) (fun hn=> ?_)
 case refine_1=>
  simp(disch:=omega) only[aa,s5,ae0,ae1,ae2,ae3,ae4,ahsz,be0,be1,be2,be3,be4,bhsz,ak,aj,SX,SU,SL,reduceCtorEq,Nat.reduceAdd,Nat.reduceLeDiff,reduceIte]
  simp[hn]
 have d1:an1=bn1:=by omega
 subst d1
 simp(disch:=omega) only[aa,s5,ae0,ae1,ae2,ae3,ae4,ahsz,be0,be1,be2,be3,be4,bhsz,ak,aj,SX,SU,SL,reduceCtorEq,Nat.reduceAdd,Nat.reduceLeDiff,reduceIte]
 refine bx.go cZ ah2 bh2 (fun d2=> ?_) (fun d2=> ?_)
 case refine_2=>
  simp(disch:=omega) only[aa,s5,ae0,ae1,ae2,ae3,ae4,ahsz,be0,be1,be2,be3,be4,bhsz,ak,aj,SX,SU,SL,reduceCtorEq,Nat.reduceAdd,Nat.reduceLeDiff,reduceIte]
  simp[d2]
 subst d2
 simp(disch:=omega) only[aa,s5,ae0,ae1,ae2,ae3,ae4,ahsz,be0,be1,be2,be3,be4,bhsz,ak,aj,SX,SU,SL,reduceCtorEq,Nat.reduceAdd,Nat.reduceLeDiff,reduceIte]
 refine bx.go cZ ah3 bh3 (fun d3=> ?_) (fun d3=> ?_)
 case refine_2=>
  simp(disch:=omega) only[aa,s5,ae0,ae1,ae2,ae3,ae4,ahsz,be0,be1,be2,be3,be4,bhsz,ak,aj,SX,SU,SL,reduceCtorEq,Nat.reduceAdd,Nat.reduceLeDiff,reduceIte]
  simp[d3]
 subst d3
 simp(disch:=omega) only[aa,s5,ae0,ae1,ae2,ae3,ae4,ahsz,be0,be1,be2,be3,be4,bhsz,ak,aj,SX,SU,SL,reduceCtorEq,Nat.reduceAdd,Nat.reduceLeDiff,reduceIte]
 refine bx.go jm ah4 bh4 (fun d4=> ?_) (fun d4=> ?_)
 case refine_2=>
  simp(disch:=omega) only[aa,s5,ae0,ae1,ae2,ae3,ae4,ahsz,be0,be1,be2,be3,be4,bhsz,ak,aj,SX,SU,SL,reduceCtorEq,Nat.reduceAdd,Nat.reduceLeDiff,reduceIte]
  simp[d4]
 subst d4
 simp(disch:=omega) only[aa,s5,ae0,ae1,ae2,ae3,ae4,ahsz,be0,be1,be2,be3,be4,bhsz,ak,aj,SX,SU,SL,reduceCtorEq,Nat.reduceAdd,Nat.reduceLeDiff,reduceIte]
def rM:AF:=⟨2,6,[.tmp 4],(.seq (.ops [.i (.lbox 2 (.s 0)), .i (.lbox 3 (.s 1)), .i (.mov 4 (qb false))]) (.seq (.seq (.ops [qf 5 2 0,ql 6 2 5 1 false,qf 7 3 0,ql 8 3 7 1 false,qd 9 .neq 6 8]) (.cond (.s 9) (.seq (.ops [.i (.mov 4 (qb false))]) .ret) .skip)) (.seq (.seq (.ops [qf 10 2 1,ql 11 2 10 1 false,qf 12 3 1,ql 13 3 12 1 false,qd 14 .neq 11 13]) (.cond (.s 14) (.seq (.ops [.i (.mov 4 (qb false))]) .ret) .skip)) (.seq (.seq (.ops [qf 15 2 2,ql 16 2 15 1 false,qf 17 3 2,ql 18 3 17 1 false,qd 19 .neq 16 18]) (.cond (.s 19) (.seq (.ops [.i (.mov 4 (qb false))]) .ret) .skip)) (.seq (.seq (.ops [qf 20 2 3,ql 21 2 20 1 false,qf 22 3 3,ql 23 3 22 1 false, .i (.call 25 70 false [(.s 21),(.s 23)]), .i (.not 25 (.s 24))]) (.cond (.s 25) (.seq (.ops [.i (.mov 4 (qb false))]) .ret) .skip)) (.seq (.seq (.ops [qf 26 2 4,ql 27 2 26 1 false,qf 28 3 4,ql 29 3 28 1 false, .i (.call 31 70 false [(.s 27),(.s 29)]), .i (.not 31 (.s 30))]) (.cond (.s 31) (.seq (.ops [.i (.mov 4 (qb false))]) .ret) .skip)) (.seq (.seq (.ops [qf 32 2 5,ql 33 2 32 5 true,qf 34 3 5,ql 35 3 34 5 true, .i (.call 37 44 false [(.s 33),(.s 35)]), .i (.not 37 (.s 36))]) (.cond (.s 37) (.seq (.ops [.i (.mov 4 (qb false))]) .ret) .skip)) (.seq (.ops [.i (.mov 4 (qb true))]) .ret))))))))⟩
theorem DJ:cd 45=some rM:=by kernel_rfl
theorem nq:bx cd 45 bd:=by
 intro h ca cb va vb Sa Sb ha hb
 obtain⟨avs,rfl,aq0⟩:=ha.st
 obtain⟨av0,ar0,aS0,aT0,rfl,rfl,ah0,aq1⟩:=aq0.step
 obtain⟨an0,ae0,rfl,rfl,alo0,ahi0⟩:=ah0.int
 obtain⟨av1,ar1,aS1,aT1,rfl,rfl,ah1,aq2⟩:=aq1.step
 obtain⟨an1,ae1,rfl,rfl,alo1,ahi1⟩:=ah1.int
 obtain⟨av2,ar2,aS2,aT2,rfl,rfl,ah2,aq3⟩:=aq2.step
 obtain⟨an2,ae2,rfl,rfl,alo2,ahi2⟩:=ah2.int
 obtain⟨av3,ar3,aS3,aT3,rfl,rfl,ah3,aq4⟩:=aq3.step
 obtain⟨ac3,ae3⟩:=ah3.one rfl
 rw[ae3]at ah3
 obtain⟨av4,ar4,aS4,aT4,rfl,rfl,ah4,aq5⟩:=aq4.step
 obtain⟨ac4,ae4⟩:=ah4.one rfl
 rw[ae4]at ah4
 obtain⟨av5,ar5,aS5,aT5,rfl,rfl,ah5,aq6⟩:=aq5.step
 obtain⟨_,rfl,rfl⟩:=aq6
 have ahsz:ca.length=10:=ha.size
 obtain⟨bvs,rfl,bq0⟩:=hb.st
 obtain⟨bv0,br0,bS0,bT0,rfl,rfl,bh0,bq1⟩:=bq0.step
 obtain⟨bn0,be0,rfl,rfl,blo0,bhi0⟩:=bh0.int
 obtain⟨bv1,br1,bS1,bT1,rfl,rfl,bh1,bq2⟩:=bq1.step
 obtain⟨bn1,be1,rfl,rfl,blo1,bhi1⟩:=bh1.int
 obtain⟨bv2,br2,bS2,bT2,rfl,rfl,bh2,bq3⟩:=bq2.step
 obtain⟨bn2,be2,rfl,rfl,blo2,bhi2⟩:=bh2.int
 obtain⟨bv3,br3,bS3,bT3,rfl,rfl,bh3,bq4⟩:=bq3.step
 obtain⟨bc3,be3⟩:=bh3.one rfl
 rw[be3]at bh3
 obtain⟨bv4,br4,bS4,bT4,rfl,rfl,bh4,bq5⟩:=bq4.step
 obtain⟨bc4,be4⟩:=bh4.one rfl
 rw[be4]at bh4
 obtain⟨bv5,br5,bS5,bT5,rfl,rfl,bh5,bq6⟩:=bq5.step
 obtain⟨_,rfl,rfl⟩:=bq6
 have bhsz:cb.length=10:=hb.size
 simp only[Ty.size,Ty.au,Nat.reduceAdd,Nat.zero_add,List.drop_zero]at ae0 ae1 ae2 ae3 ae4 ahsz be0 be1 be2 be3 be4 bhsz ah5 bh5
 refine an DJ rfl ?_
 simp(disch:=omega) only[aa,rM,ae0,ae1,ae2,ae3,ae4,ahsz,be0,be1,be2,be3,be4,bhsz,ak,aj,SX,SU,SL,reduceCtorEq,Nat.reduceAdd,Nat.reduceLeDiff,reduceIte]
 refine ae (fun hn=> ?_) (fun hn=> ?_)
 case refine_1=>
  simp(disch:=omega) only[aa,rM,ae0,ae1,ae2,ae3,ae4,ahsz,be0,be1,be2,be3,be4,bhsz,ak,aj,SX,SU,SL,reduceCtorEq,Nat.reduceAdd,Nat.reduceLeDiff,reduceIte]
  simp[hn]
 have d0:an0=bn0:=by omega
 subst d0
 simp(disch:=omega) only[aa,rM,ae0,ae1,ae2,ae3,ae4,ahsz,be0,be1,be2,be3,be4,bhsz,ak,aj,SX,SU,SL,reduceCtorEq,Nat.reduceAdd,Nat.reduceLeDiff,reduceIte]
 refine ae (fun hn=> ?_) (fun hn=> ?_)
 case refine_1=>
  simp(disch:=omega) only[aa,rM,ae0,ae1,ae2,ae3,ae4,ahsz,be0,be1,be2,be3,be4,bhsz,ak,aj,SX,SU,SL,reduceCtorEq,Nat.reduceAdd,Nat.reduceLeDiff,reduceIte]
  simp[hn]
 have d1:an1=bn1:=by omega
 subst d1
 simp(disch:=omega) only[aa,rM,ae0,ae1,ae2,ae3,ae4,ahsz,be0,be1,be2,be3,be4,bhsz,ak,aj,SX,SU,SL,reduceCtorEq,Nat.reduceAdd,Nat.reduceLeDiff,reduceIte]
 refine ae (fun hn=> ?_) (fun hn=> ?_)
 case refine_1=>
  simp(disch:=omega) only[aa,rM,ae0,ae1,ae2,ae3,ae4,ahsz,be0,be1,be2,be3,be4,bhsz,ak,aj,SX,SU,SL,reduceCtorEq,Nat.reduceAdd,Nat.reduceLeDiff,reduceIte]
  simp[hn]
 have d2:an2=bn2:=by omega
 subst d2
 simp(disch:=omega) only[aa,rM,ae0,ae1,ae2,ae3,ae4,ahsz,be0,be1,be2,be3,be4,bhsz,ak,aj,SX,SU,SL,reduceCtorEq,Nat.reduceAdd,Nat.reduceLeDiff,reduceIte]
 refine bx.go cZ ah3 bh3 (fun d3=> ?_) (fun d3=> ?_)
 case refine_2=>
  simp(disch:=omega) only[aa,rM,ae0,ae1,ae2,ae3,ae4,ahsz,be0,be1,be2,be3,be4,bhsz,ak,aj,SX,SU,SL,reduceCtorEq,Nat.reduceAdd,Nat.reduceLeDiff,reduceIte]
  simp[d3]
 subst d3
 simp(disch:=omega) only[aa,rM,ae0,ae1,ae2,ae3,ae4,ahsz,be0,be1,be2,be3,be4,bhsz,ak,aj,SX,SU,SL,reduceCtorEq,Nat.reduceAdd,Nat.reduceLeDiff,reduceIte]
 refine bx.go cZ ah4 bh4 (fun d4=> ?_) (fun d4=> ?_)
 case refine_2=>
  simp(disch:=omega) only[aa,rM,ae0,ae1,ae2,ae3,ae4,ahsz,be0,be1,be2,be3,be4,bhsz,ak,aj,SX,SU,SL,reduceCtorEq,Nat.reduceAdd,Nat.reduceLeDiff,reduceIte]
  simp[d4]
 subst d4
 simp(disch:=omega) only[aa,rM,ae0,ae1,ae2,ae3,ae4,ahsz,be0,be1,be2,be3,be4,bhsz,ak,aj,SX,SU,SL,reduceCtorEq,Nat.reduceAdd,Nat.reduceLeDiff,reduceIte]
 refine bx.go vf ah5 bh5 (fun d5=> ?_) (fun d5=> ?_)
 case refine_2=>
  simp(disch:=omega) only[aa,rM,ae0,ae1,ae2,ae3,ae4,ahsz,be0,be1,be2,be3,be4,bhsz,ak,aj,SX,SU,SL,reduceCtorEq,Nat.reduceAdd,Nat.reduceLeDiff,reduceIte]
  simp[d5]
 subst d5
 simp(disch:=omega) only[aa,rM,ae0,ae1,ae2,ae3,ae4,ahsz,be0,be1,be2,be3,be4,bhsz,ak,aj,SX,SU,SL,reduceCtorEq,Nat.reduceAdd,Nat.reduceLeDiff,reduceIte]
def Aq:AF:=⟨2,5,[.tmp 4],(.seq (.ops [.i (.lbox 2 (.s 0)), .i (.lbox 3 (.s 1)), .i (.mov 4 (qb false))]) (.seq (.seq (.ops [qf 5 2 0,ql 6 2 5 10 true,qf 7 3 0,ql 8 3 7 10 true, .i (.call 10 45 false [(.s 6),(.s 8)]), .i (.not 10 (.s 9))]) (.cond (.s 10) (.seq (.ops [.i (.mov 4 (qb false))]) .ret) .skip)) (.seq (.seq (.ops [qf 11 2 10,ql 12 2 11 1 false,qf 13 3 10,ql 14 3 13 1 false, .i (.call 16 71 false [(.s 12),(.s 14)]), .i (.not 16 (.s 15))]) (.cond (.s 16) (.seq (.ops [.i (.mov 4 (qb false))]) .ret) .skip)) (.seq (.ops [.i (.mov 4 (qb true))]) .ret))))⟩
theorem DD:cd 46=some Aq:=by kernel_rfl
theorem vc:bx cd 46 dc:=by
 intro h ca cb va vb Sa Sb ha hb
 obtain⟨avs,rfl,aq0⟩:=ha.st
 obtain⟨av0,ar0,aS0,aT0,rfl,rfl,ah0,aq1⟩:=aq0.step
 obtain⟨av1,ar1,aS1,aT1,rfl,rfl,ah1,aq2⟩:=aq1.step
 obtain⟨ac1,ae1⟩:=ah1.one rfl
 rw[ae1]at ah1
 obtain⟨_,rfl,rfl⟩:=aq2
 have ahsz:ca.length=11:=ha.size
 obtain⟨bvs,rfl,bq0⟩:=hb.st
 obtain⟨bv0,br0,bS0,bT0,rfl,rfl,bh0,bq1⟩:=bq0.step
 obtain⟨bv1,br1,bS1,bT1,rfl,rfl,bh1,bq2⟩:=bq1.step
 obtain⟨bc1,be1⟩:=bh1.one rfl
 rw[be1]at bh1
 obtain⟨_,rfl,rfl⟩:=bq2
 have bhsz:cb.length=11:=hb.size
 simp only[Ty.size,Ty.au,Nat.reduceAdd,Nat.zero_add,List.drop_zero]at ae1 ahsz be1 bhsz ah0 bh0
 refine an DD rfl ?_
 simp(disch:=omega) only[aa,Aq,ae1,ahsz,be1,bhsz,ak,aj,SX,SU,SL,reduceCtorEq,Nat.reduceAdd,Nat.reduceLeDiff,reduceIte]
 refine bx.go nq ah0 bh0 (fun d0=> ?_) (fun d0=> ?_)
 case refine_2=>
  simp(disch:=omega) only[aa,Aq,ae1,ahsz,be1,bhsz,ak,aj,SX,SU,SL,reduceCtorEq,Nat.reduceAdd,Nat.reduceLeDiff,reduceIte]
  simp[d0]
 subst d0
 simp(disch:=omega) only[aa,Aq,ae1,ahsz,be1,bhsz,ak,aj,SX,SU,SL,reduceCtorEq,Nat.reduceAdd,Nat.reduceLeDiff,reduceIte]
 refine bx.go jm ah1 bh1 (fun d1=> ?_) (fun d1=> ?_)
 case refine_2=>
  simp(disch:=omega) only[aa,Aq,ae1,ahsz,be1,bhsz,ak,aj,SX,SU,SL,reduceCtorEq,Nat.reduceAdd,Nat.reduceLeDiff,reduceIte]
  simp[d1]
 subst d1
 simp(disch:=omega) only[aa,Aq,ae1,ahsz,be1,bhsz,ak,aj,SX,SU,SL,reduceCtorEq,Nat.reduceAdd,Nat.reduceLeDiff,reduceIte]
def yi:AF:=⟨2,5,[.tmp 4],(.seq (.ops [.i (.lbox 2 (.s 0)), .i (.lbox 3 (.s 1)), .i (.mov 4 (qb false))]) (.seq (.seq (.ops [qf 5 2 0,ql 6 2 5 1 false,qf 7 3 0,ql 8 3 7 1 false,qd 9 .neq 6 8]) (.cond (.s 9) (.seq (.ops [.i (.mov 4 (qb false))]) .ret) .skip)) (.seq (.seq (.ops [qf 10 2 1,ql 11 2 10 1 false,qf 12 3 1,ql 13 3 12 1 false,qd 14 .neq 11 13]) (.cond (.s 14) (.seq (.ops [.i (.mov 4 (qb false))]) .ret) .skip)) (.seq (.seq (.ops [qf 15 2 2,ql 16 2 15 1 false,qf 17 3 2,ql 18 3 17 1 false, .i (.call 20 70 false [(.s 16),(.s 18)]), .i (.not 20 (.s 19))]) (.cond (.s 20) (.seq (.ops [.i (.mov 4 (qb false))]) .ret) .skip)) (.seq (.ops [.i (.mov 4 (qb true))]) .ret)))))⟩
theorem DO:cd 82=some yi:=by kernel_rfl
theorem vE:bx cd 82 cg:=by
 intro h ca cb va vb Sa Sb ha hb
 obtain⟨avs,rfl,aq0⟩:=ha.st
 obtain⟨av0,ar0,aS0,aT0,rfl,rfl,ah0,aq1⟩:=aq0.step
 obtain⟨an0,ae0,rfl,rfl,alo0,ahi0⟩:=ah0.int
 obtain⟨av1,ar1,aS1,aT1,rfl,rfl,ah1,aq2⟩:=aq1.step
 obtain⟨an1,ae1,rfl,rfl,alo1,ahi1⟩:=ah1.int
 obtain⟨av2,ar2,aS2,aT2,rfl,rfl,ah2,aq3⟩:=aq2.step
 obtain⟨ac2,ae2⟩:=ah2.one rfl
 rw[ae2]at ah2
 obtain⟨_,rfl,rfl⟩:=aq3
 have ahsz:ca.length=3:=ha.size
 obtain⟨bvs,rfl,bq0⟩:=hb.st
 obtain⟨bv0,br0,bS0,bT0,rfl,rfl,bh0,bq1⟩:=bq0.step
 obtain⟨bn0,be0,rfl,rfl,blo0,bhi0⟩:=bh0.int
 obtain⟨bv1,br1,bS1,bT1,rfl,rfl,bh1,bq2⟩:=bq1.step
 obtain⟨bn1,be1,rfl,rfl,blo1,bhi1⟩:=bh1.int
 obtain⟨bv2,br2,bS2,bT2,rfl,rfl,bh2,bq3⟩:=bq2.step
 obtain⟨bc2,be2⟩:=bh2.one rfl
 rw[be2]at bh2
 obtain⟨_,rfl,rfl⟩:=bq3
 have bhsz:cb.length=3:=hb.size
 simp only[Ty.size,Ty.au,Nat.reduceAdd,Nat.zero_add,List.drop_zero]at ae0 ae1 ae2 ahsz be0 be1 be2 bhsz
 refine an DO rfl ?_
 simp(disch:=omega) only[aa,yi,ae0,ae1,ae2,ahsz,be0,be1,be2,bhsz,ak,aj,SX,SU,SL,reduceCtorEq,Nat.reduceAdd,Nat.reduceLeDiff,reduceIte]
 refine ae (fun hn=> ?_) (fun hn=> ?_)
 case refine_1=>
  simp(disch:=omega) only[aa,yi,ae0,ae1,ae2,ahsz,be0,be1,be2,bhsz,ak,aj,SX,SU,SL,reduceCtorEq,Nat.reduceAdd,Nat.reduceLeDiff,reduceIte]
  simp[hn]
 have d0:an0=bn0:=by omega
 subst d0
 simp(disch:=omega) only[aa,yi,ae0,ae1,ae2,ahsz,be0,be1,be2,bhsz,ak,aj,SX,SU,SL,reduceCtorEq,Nat.reduceAdd,Nat.reduceLeDiff,reduceIte]
 refine ae (fun hn=> ?_) (fun hn=> ?_)
 case refine_1=>
  simp(disch:=omega) only[aa,yi,ae0,ae1,ae2,ahsz,be0,be1,be2,bhsz,ak,aj,SX,SU,SL,reduceCtorEq,Nat.reduceAdd,Nat.reduceLeDiff,reduceIte]
  simp[hn]
 have d1:an1=bn1:=by omega
 subst d1
 simp(disch:=omega) only[aa,yi,ae0,ae1,ae2,ahsz,be0,be1,be2,bhsz,ak,aj,SX,SU,SL,reduceCtorEq,Nat.reduceAdd,Nat.reduceLeDiff,reduceIte]
 refine bx.go cZ ah2 bh2 (fun d2=> ?_) (fun d2=> ?_)
 case refine_2=>
  simp(disch:=omega) only[aa,yi,ae0,ae1,ae2,ahsz,be0,be1,be2,bhsz,ak,aj,SX,SU,SL,reduceCtorEq,Nat.reduceAdd,Nat.reduceLeDiff,reduceIte]
  simp[d2]
 subst d2
 simp(disch:=omega) only[aa,yi,ae0,ae1,ae2,ahsz,be0,be1,be2,bhsz,ak,aj,SX,SU,SL,reduceCtorEq,Nat.reduceAdd,Nat.reduceLeDiff,reduceIte]
def CD:AF:=⟨2,5,[.tmp 4],(.seq (.ops [.i (.mov 4 (qb false))]) (.seq (.seq (.ops [qm 6 0,qn 7 6,qm 8 1,qn 9 8,qd 10 .neq 7 9]) (.cond (.s 10) (.seq (.ops [.i (.mov 4 (qb false))]) .ret) .skip)) (.seq (.seq (.ops [.i (.mov 5 (qi 0))]) (.block 0 (.loop [26,25,24,23,22,21,20,19,18,17,16,15,14,13,12,11] (.seq (.seq (.ops [qm 11 5,qm 12 0,qn 13 12,qd 14 .lss 11 13]) (.cond (.s 14) .skip (.exit 0))) (.seq (.block 1 (.seq (.ops [qm 17 0,qm 18 5, .i (.iad 19 (.s 17) (.s 18) 3), .i (.ldh 20 (.s 19) 3 true),qm 21 1,qm 22 5, .i (.iad 23 (.s 21) (.s 22) 3), .i (.ldh 24 (.s 23) 3 true), .i (.call 26 82 false [(.s 20),(.s 24)]), .i (.not 26 (.s 25))]) (.cond (.s 26) (.seq (.ops [.i (.mov 4 (qb false))]) .ret) .skip))) (.ops [qm 15 5, .i (.bin 16 .add (.s 15) (qi 1)),qm 5 16])))))) (.seq (.ops [.i (.mov 4 (qb true))]) .ret))))⟩
theorem DX:cd 72=some CD:=by kernel_rfl
theorem sI:bx cd 72 (.sl cg):=pI DX vE
def As:AF:=⟨2,5,[.tmp 4],(.seq (.ops [.i (.lbox 2 (.s 0)), .i (.lbox 3 (.s 1)), .i (.mov 4 (qb false))]) (.seq (.seq (.ops [qf 5 2 0,ql 6 2 5 1 false,qf 7 3 0,ql 8 3 7 1 false,qd 9 .neq 6 8]) (.cond (.s 9) (.seq (.ops [.i (.mov 4 (qb false))]) .ret) .skip)) (.seq (.seq (.ops [qf 10 2 1,ql 11 2 10 1 false,qf 12 3 1,ql 13 3 12 1 false, .i (.call 15 72 false [(.s 11),(.s 13)]), .i (.not 15 (.s 14))]) (.cond (.s 15) (.seq (.ops [.i (.mov 4 (qb false))]) .ret) .skip)) (.seq (.ops [.i (.mov 4 (qb true))]) .ret))))⟩
theorem DH:cd 47=some As:=by kernel_rfl
end Go.Eng.U
namespace Go.Eng.U
theorem AY:bx cd 47 tf:=by
 intro h ca cb va vb Sa Sb ha hb
 obtain⟨avs,rfl,aq0⟩:=ha.st
 obtain⟨av0,ar0,aS0,aT0,rfl,rfl,ah0,aq1⟩:=aq0.step
 obtain⟨an0,ae0,rfl,rfl,alo0,ahi0⟩:=ah0.int
 obtain⟨av1,ar1,aS1,aT1,rfl,rfl,ah1,aq2⟩:=aq1.step
 obtain⟨ac1,ae1⟩:=ah1.one rfl
 rw[ae1]at ah1
 obtain⟨_,rfl,rfl⟩:=aq2
 have ahsz:ca.length=2:=ha.size
 obtain⟨bvs,rfl,bq0⟩:=hb.st
 obtain⟨bv0,br0,bS0,bT0,rfl,rfl,bh0,bq1⟩:=bq0.step
 obtain⟨bn0,be0,rfl,rfl,blo0,bhi0⟩:=bh0.int
 obtain⟨bv1,br1,bS1,bT1,rfl,rfl,bh1,bq2⟩:=bq1.step
 obtain⟨bc1,be1⟩:=bh1.one rfl
 rw[be1]at bh1
 obtain⟨_,rfl,rfl⟩:=bq2
 have bhsz:cb.length=2:=hb.size
 simp only[Ty.size,Ty.au,Nat.reduceAdd,Nat.zero_add,List.drop_zero]at ae0 ae1 ahsz be0 be1 bhsz
 refine an DH rfl ?_
 simp(disch:=omega) only[aa,As,ae0,ae1,ahsz,be0,be1,bhsz,ak,aj,SX,SU,SL,reduceCtorEq,Nat.reduceAdd,Nat.reduceLeDiff,reduceIte]
 refine ae (fun hn=> ?_) (fun hn=> ?_)
 case refine_1=>
  simp(disch:=omega) only[aa,As,ae0,ae1,ahsz,be0,be1,bhsz,ak,aj,SX,SU,SL,reduceCtorEq,Nat.reduceAdd,Nat.reduceLeDiff,reduceIte]
  simp[hn]
 have d0:an0=bn0:=by omega
 subst d0
 simp(disch:=omega) only[aa,As,ae0,ae1,ahsz,be0,be1,bhsz,ak,aj,SX,SU,SL,reduceCtorEq,Nat.reduceAdd,Nat.reduceLeDiff,reduceIte]
 refine bx.go sI ah1 bh1 (fun d1=> ?_) (fun d1=> ?_)
 case refine_2=>
  simp(disch:=omega) only[aa,As,ae0,ae1,ahsz,be0,be1,bhsz,ak,aj,SX,SU,SL,reduceCtorEq,Nat.reduceAdd,Nat.reduceLeDiff,reduceIte]
  simp[d1]
 subst d1
 simp(disch:=omega) only[aa,As,ae0,ae1,ahsz,be0,be1,bhsz,ak,aj,SX,SU,SL,reduceCtorEq,Nat.reduceAdd,Nat.reduceLeDiff,reduceIte]
def Dg:AF:=⟨2,5,[.tmp 4],(.seq (.ops [.i (.mov 4 (qb false))]) (.seq (.seq (.ops [qm 6 0,qn 7 6,qm 8 1,qn 9 8,qd 10 .neq 7 9]) (.cond (.s 10) (.seq (.ops [.i (.mov 4 (qb false))]) .ret) .skip)) (.seq (.seq (.ops [.i (.mov 5 (qi 0))]) (.block 0 (.loop [26,25,24,23,22,21,20,19,18,17,16,15,14,13,12,11] (.seq (.seq (.ops [qm 11 5,qm 12 0,qn 13 12,qd 14 .lss 11 13]) (.cond (.s 14) .skip (.exit 0))) (.seq (.block 1 (.seq (.ops [qm 17 0,qm 18 5, .i (.iad 19 (.s 17) (.s 18) 10), .i (.ldh 20 (.s 19) 10 true),qm 21 1,qm 22 5, .i (.iad 23 (.s 21) (.s 22) 10), .i (.ldh 24 (.s 23) 10 true), .i (.call 26 45 false [(.s 20),(.s 24)]), .i (.not 26 (.s 25))]) (.cond (.s 26) (.seq (.ops [.i (.mov 4 (qb false))]) .ret) .skip))) (.ops [qm 15 5, .i (.bin 16 .add (.s 15) (qi 1)),qm 5 16])))))) (.seq (.ops [.i (.mov 4 (qb true))]) .ret))))⟩
theorem DV:cd 73=some Dg:=by kernel_rfl
theorem tC:bx cd 73 (.sl bd):=pI DV nq
def Am:AF:=⟨2,5,[.tmp 4],(.seq (.ops [.i (.lbox 2 (.s 0)), .i (.lbox 3 (.s 1)), .i (.mov 4 (qb false))]) (.seq (.seq (.ops [qf 5 2 0,ql 6 2 5 1 false,qf 7 3 0,ql 8 3 7 1 false, .i (.call 10 73 false [(.s 6),(.s 8)]), .i (.not 10 (.s 9))]) (.cond (.s 10) (.seq (.ops [.i (.mov 4 (qb false))]) .ret) .skip)) (.seq (.seq (.ops [qf 11 2 1,ql 12 2 11 5 true,qf 13 3 1,ql 14 3 13 5 true, .i (.call 16 44 false [(.s 12),(.s 14)]), .i (.not 16 (.s 15))]) (.cond (.s 16) (.seq (.ops [.i (.mov 4 (qb false))]) .ret) .skip)) (.seq (.ops [.i (.mov 4 (qb true))]) .ret))))⟩
theorem DE:cd 48=some Am:=by kernel_rfl
theorem ve:bx cd 48 cj:=by
 intro h ca cb va vb Sa Sb ha hb
 obtain⟨avs,rfl,aq0⟩:=ha.st
 obtain⟨av0,ar0,aS0,aT0,rfl,rfl,ah0,aq1⟩:=aq0.step
 obtain⟨ac0,ae0⟩:=ah0.one rfl
 rw[ae0]at ah0
 obtain⟨av1,ar1,aS1,aT1,rfl,rfl,ah1,aq2⟩:=aq1.step
 obtain⟨_,rfl,rfl⟩:=aq2
 have ahsz:ca.length=6:=ha.size
 obtain⟨bvs,rfl,bq0⟩:=hb.st
 obtain⟨bv0,br0,bS0,bT0,rfl,rfl,bh0,bq1⟩:=bq0.step
 obtain⟨bc0,be0⟩:=bh0.one rfl
 rw[be0]at bh0
 obtain⟨bv1,br1,bS1,bT1,rfl,rfl,bh1,bq2⟩:=bq1.step
 obtain⟨_,rfl,rfl⟩:=bq2
 have bhsz:cb.length=6:=hb.size
 simp only[Ty.size,Ty.au,Nat.reduceAdd,Nat.zero_add,List.drop_zero]at ae0 ahsz be0 bhsz ah1 bh1
 refine an DE rfl ?_
 simp(disch:=omega) only[aa,Am,ae0,ahsz,be0,bhsz,ak,aj,SX,SU,SL,reduceCtorEq,Nat.reduceAdd,Nat.reduceLeDiff,reduceIte]
 refine bx.go tC ah0 bh0 (fun d0=> ?_) (fun d0=> ?_)
 case refine_2=>
  simp(disch:=omega) only[aa,Am,ae0,ahsz,be0,bhsz,ak,aj,SX,SU,SL,reduceCtorEq,Nat.reduceAdd,Nat.reduceLeDiff,reduceIte]
  simp[d0]
 subst d0
 simp(disch:=omega) only[aa,Am,ae0,ahsz,be0,bhsz,ak,aj,SX,SU,SL,reduceCtorEq,Nat.reduceAdd,Nat.reduceLeDiff,reduceIte]
 refine bx.go vf ah1 bh1 (fun d1=> ?_) (fun d1=> ?_)
 case refine_2=>
  simp(disch:=omega) only[aa,Am,ae0,ahsz,be0,bhsz,ak,aj,SX,SU,SL,reduceCtorEq,Nat.reduceAdd,Nat.reduceLeDiff,reduceIte]
  simp[d1]
 subst d1
 simp(disch:=omega) only[aa,Am,ae0,ahsz,be0,bhsz,ak,aj,SX,SU,SL,reduceCtorEq,Nat.reduceAdd,Nat.reduceLeDiff,reduceIte]
def ta:AF:=⟨2,6,[.tmp 4],(.seq (.ops [.i (.lbox 2 (.s 0)), .i (.lbox 3 (.s 1)), .i (.mov 4 (qb false))]) (.seq (.seq (.ops [qf 5 2 0,ql 6 2 5 1 false,qf 7 3 0,ql 8 3 7 1 false,qd 9 .neq 6 8]) (.cond (.s 9) (.seq (.ops [.i (.mov 4 (qb false))]) .ret) .skip)) (.seq (.seq (.ops [qf 10 2 1,ql 11 2 10 1 false,qf 12 3 1,ql 13 3 12 1 false,qd 14 .neq 11 13]) (.cond (.s 14) (.seq (.ops [.i (.mov 4 (qb false))]) .ret) .skip)) (.seq (.seq (.ops [qf 15 2 2,ql 16 2 15 1 false,qf 17 3 2,ql 18 3 17 1 false,qd 19 .neq 16 18]) (.cond (.s 19) (.seq (.ops [.i (.mov 4 (qb false))]) .ret) .skip)) (.seq (.seq (.ops [qf 20 2 3,ql 21 2 20 1 false,qf 22 3 3,ql 23 3 22 1 false, .i (.call 25 70 false [(.s 21),(.s 23)]), .i (.not 25 (.s 24))]) (.cond (.s 25) (.seq (.ops [.i (.mov 4 (qb false))]) .ret) .skip)) (.seq (.seq (.ops [qf 26 2 4,ql 27 2 26 1 false,qf 28 3 4,ql 29 3 28 1 false, .i (.call 31 71 false [(.s 27),(.s 29)]), .i (.not 31 (.s 30))]) (.cond (.s 31) (.seq (.ops [.i (.mov 4 (qb false))]) .ret) .skip)) (.seq (.ops [.i (.mov 4 (qb true))]) .ret)))))))⟩
theorem Dh:cd 49=some ta:=by kernel_rfl
theorem xW:bx cd 49 hM:=by
 intro h ca cb va vb Sa Sb ha hb
 obtain⟨avs,rfl,aq0⟩:=ha.st
 obtain⟨av0,ar0,aS0,aT0,rfl,rfl,ah0,aq1⟩:=aq0.step
 obtain⟨an0,ae0,rfl,rfl,alo0,ahi0⟩:=ah0.int
 obtain⟨av1,ar1,aS1,aT1,rfl,rfl,ah1,aq2⟩:=aq1.step
 obtain⟨an1,ae1,rfl,rfl,alo1,ahi1⟩:=ah1.int
 obtain⟨av2,ar2,aS2,aT2,rfl,rfl,ah2,aq3⟩:=aq2.step
 obtain⟨an2,ae2,rfl,rfl,alo2,ahi2⟩:=ah2.int
 obtain⟨av3,ar3,aS3,aT3,rfl,rfl,ah3,aq4⟩:=aq3.step
 obtain⟨ac3,ae3⟩:=ah3.one rfl
 rw[ae3]at ah3
 obtain⟨av4,ar4,aS4,aT4,rfl,rfl,ah4,aq5⟩:=aq4.step
 obtain⟨ac4,ae4⟩:=ah4.one rfl
 rw[ae4]at ah4
 obtain⟨_,rfl,rfl⟩:=aq5
 have ahsz:ca.length=5:=ha.size
 obtain⟨bvs,rfl,bq0⟩:=hb.st
 obtain⟨bv0,br0,bS0,bT0,rfl,rfl,bh0,bq1⟩:=bq0.step
 obtain⟨bn0,be0,rfl,rfl,blo0,bhi0⟩:=bh0.int
 obtain⟨bv1,br1,bS1,bT1,rfl,rfl,bh1,bq2⟩:=bq1.step
 obtain⟨bn1,be1,rfl,rfl,blo1,bhi1⟩:=bh1.int
 obtain⟨bv2,br2,bS2,bT2,rfl,rfl,bh2,bq3⟩:=bq2.step
 obtain⟨bn2,be2,rfl,rfl,blo2,bhi2⟩:=bh2.int
 obtain⟨bv3,br3,bS3,bT3,rfl,rfl,bh3,bq4⟩:=bq3.step
 obtain⟨bc3,be3⟩:=bh3.one rfl
 rw[be3]at bh3
 obtain⟨bv4,br4,bS4,bT4,rfl,rfl,bh4,bq5⟩:=bq4.step
 obtain⟨bc4,be4⟩:=bh4.one rfl
 rw[be4]at bh4
 obtain⟨_,rfl,rfl⟩:=bq5
 have bhsz:cb.length=5:=hb.size
 simp only[Ty.size,Ty.au,Nat.reduceAdd,Nat.zero_add,List.drop_zero]at ae0 ae1 ae2 ae3 ae4 ahsz be0 be1 be2 be3 be4 bhsz
 refine an Dh rfl ?_
 simp(disch:=omega) only[aa,ta,ae0,ae1,ae2,ae3,ae4,ahsz,be0,be1,be2,be3,be4,bhsz,ak,aj,SX,SU,SL,reduceCtorEq,Nat.reduceAdd,Nat.reduceLeDiff,reduceIte]
 refine ae (fun hn=> ?_) (fun hn=> ?_)
 case refine_1=>
  simp(disch:=omega) only[aa,ta,ae0,ae1,ae2,ae3,ae4,ahsz,be0,be1,be2,be3,be4,bhsz,ak,aj,SX,SU,SL,reduceCtorEq,Nat.reduceAdd,Nat.reduceLeDiff,reduceIte]
  simp[hn]
 have d0:an0=bn0:=by omega
 subst d0
 simp(disch:=omega) only[aa,ta,ae0,ae1,ae2,ae3,ae4,ahsz,be0,be1,be2,be3,be4,bhsz,ak,aj,SX,SU,SL,reduceCtorEq,Nat.reduceAdd,Nat.reduceLeDiff,reduceIte]
 refine ae (fun hn=> ?_) (fun hn=> ?_)
 case refine_1=>
  simp(disch:=omega) only[aa,ta,ae0,ae1,ae2,ae3,ae4,ahsz,be0,be1,be2,be3,be4,bhsz,ak,aj,SX,SU,SL,reduceCtorEq,Nat.reduceAdd,Nat.reduceLeDiff,reduceIte]
  simp[hn]
 have d1:an1=bn1:=by omega
 subst d1
 simp(disch:=omega) only[aa,ta,ae0,ae1,ae2,ae3,ae4,ahsz,be0,be1,be2,be3,be4,bhsz,ak,aj,SX,SU,SL,reduceCtorEq,Nat.reduceAdd,Nat.reduceLeDiff,reduceIte]
 refine ae (fun hn=> ?_) (fun hn=> ?_)
 case refine_1=>
  simp(disch:=omega) only[aa,ta,ae0,ae1,ae2,ae3,ae4,ahsz,be0,be1,be2,be3,be4,bhsz,ak,aj,SX,SU,SL,reduceCtorEq,Nat.reduceAdd,Nat.reduceLeDiff,reduceIte]
  simp[hn]
 have d2:an2=bn2:=by omega
 subst d2
 simp(disch:=omega) only[aa,ta,ae0,ae1,ae2,ae3,ae4,ahsz,be0,be1,be2,be3,be4,bhsz,ak,aj,SX,SU,SL,reduceCtorEq,Nat.reduceAdd,Nat.reduceLeDiff,reduceIte]
 refine bx.go cZ ah3 bh3 (fun d3=> ?_) (fun d3=> ?_)
 case refine_2=>
  simp(disch:=omega) only[aa,ta,ae0,ae1,ae2,ae3,ae4,ahsz,be0,be1,be2,be3,be4,bhsz,ak,aj,SX,SU,SL,reduceCtorEq,Nat.reduceAdd,Nat.reduceLeDiff,reduceIte]
  simp[d3]
 subst d3
 simp(disch:=omega) only[aa,ta,ae0,ae1,ae2,ae3,ae4,ahsz,be0,be1,be2,be3,be4,bhsz,ak,aj,SX,SU,SL,reduceCtorEq,Nat.reduceAdd,Nat.reduceLeDiff,reduceIte]
 refine bx.go jm ah4 bh4 (fun d4=> ?_) (fun d4=> ?_)
 case refine_2=>
  simp(disch:=omega) only[aa,ta,ae0,ae1,ae2,ae3,ae4,ahsz,be0,be1,be2,be3,be4,bhsz,ak,aj,SX,SU,SL,reduceCtorEq,Nat.reduceAdd,Nat.reduceLeDiff,reduceIte]
  simp[d4]
 subst d4
 simp(disch:=omega) only[aa,ta,ae0,ae1,ae2,ae3,ae4,ahsz,be0,be1,be2,be3,be4,bhsz,ak,aj,SX,SU,SL,reduceCtorEq,Nat.reduceAdd,Nat.reduceLeDiff,reduceIte]
def nT:AF:=⟨2,6,[.tmp 4],(.seq (.ops [.i (.lbox 2 (.s 0)), .i (.lbox 3 (.s 1)), .i (.mov 4 (qb false))]) (.seq (.seq (.ops [qf 5 2 0,ql 6 2 5 1 false,qf 7 3 0,ql 8 3 7 1 false,qd 9 .neq 6 8]) (.cond (.s 9) (.seq (.ops [.i (.mov 4 (qb false))]) .ret) .skip)) (.seq (.seq (.ops [qf 10 2 1,ql 11 2 10 5 true,qf 12 3 1,ql 13 3 12 5 true, .i (.call 15 43 false [(.s 11),(.s 13)]), .i (.not 15 (.s 14))]) (.cond (.s 15) (.seq (.ops [.i (.mov 4 (qb false))]) .ret) .skip)) (.seq (.seq (.ops [qf 16 2 6,ql 17 2 16 5 true,qf 18 3 6,ql 19 3 18 5 true, .i (.call 21 44 false [(.s 17),(.s 19)]), .i (.not 21 (.s 20))]) (.cond (.s 21) (.seq (.ops [.i (.mov 4 (qb false))]) .ret) .skip)) (.seq (.seq (.ops [qf 22 2 11,ql 23 2 22 10 true,qf 24 3 11,ql 25 3 24 10 true, .i (.call 27 45 false [(.s 23),(.s 25)]), .i (.not 27 (.s 26))]) (.cond (.s 27) (.seq (.ops [.i (.mov 4 (qb false))]) .ret) .skip)) (.seq (.seq (.ops [qf 28 2 21,ql 29 2 28 11 true,qf 30 3 21,ql 31 3 30 11 true, .i (.call 33 46 false [(.s 29),(.s 31)]), .i (.not 33 (.s 32))]) (.cond (.s 33) (.seq (.ops [.i (.mov 4 (qb false))]) .ret) .skip)) (.seq (.seq (.ops [qf 34 2 32,ql 35 2 34 2 true,qf 36 3 32,ql 37 3 36 2 true, .i (.call 39 47 false [(.s 35),(.s 37)]), .i (.not 39 (.s 38))]) (.cond (.s 39) (.seq (.ops [.i (.mov 4 (qb false))]) .ret) .skip)) (.seq (.seq (.ops [qf 40 2 34,ql 41 2 40 6 true,qf 42 3 34,ql 43 3 42 6 true, .i (.call 45 48 false [(.s 41),(.s 43)]), .i (.not 45 (.s 44))]) (.cond (.s 45) (.seq (.ops [.i (.mov 4 (qb false))]) .ret) .skip)) (.seq (.seq (.ops [qf 46 2 40,ql 47 2 46 5 true,qf 48 3 40,ql 49 3 48 5 true, .i (.call 51 49 false [(.s 47),(.s 49)]), .i (.not 51 (.s 50))]) (.cond (.s 51) (.seq (.ops [.i (.mov 4 (qb false))]) .ret) .skip)) (.seq (.ops [.i (.mov 4 (qb true))]) .ret))))))))))⟩
theorem CH:cd 17=some nT:=by kernel_rfl
theorem tX:bx cd 17 dA:=by
 intro h ca cb va vb Sa Sb ha hb
 obtain⟨avs,rfl,aq0⟩:=ha.st
 obtain⟨av0,ar0,aS0,aT0,rfl,rfl,ah0,aq1⟩:=aq0.step
 obtain⟨an0,ae0,rfl,rfl,alo0,ahi0⟩:=ah0.int
 obtain⟨av1,ar1,aS1,aT1,rfl,rfl,ah1,aq2⟩:=aq1.step
 obtain⟨av2,ar2,aS2,aT2,rfl,rfl,ah2,aq3⟩:=aq2.step
 obtain⟨av3,ar3,aS3,aT3,rfl,rfl,ah3,aq4⟩:=aq3.step
 obtain⟨av4,ar4,aS4,aT4,rfl,rfl,ah4,aq5⟩:=aq4.step
 obtain⟨av5,ar5,aS5,aT5,rfl,rfl,ah5,aq6⟩:=aq5.step
 obtain⟨av6,ar6,aS6,aT6,rfl,rfl,ah6,aq7⟩:=aq6.step
 obtain⟨av7,ar7,aS7,aT7,rfl,rfl,ah7,aq8⟩:=aq7.step
 obtain⟨_,rfl,rfl⟩:=aq8
 have ahsz:ca.length=45:=ha.size
 obtain⟨bvs,rfl,bq0⟩:=hb.st
 obtain⟨bv0,br0,bS0,bT0,rfl,rfl,bh0,bq1⟩:=bq0.step
 obtain⟨bn0,be0,rfl,rfl,blo0,bhi0⟩:=bh0.int
 obtain⟨bv1,br1,bS1,bT1,rfl,rfl,bh1,bq2⟩:=bq1.step
 obtain⟨bv2,br2,bS2,bT2,rfl,rfl,bh2,bq3⟩:=bq2.step
 obtain⟨bv3,br3,bS3,bT3,rfl,rfl,bh3,bq4⟩:=bq3.step
 obtain⟨bv4,br4,bS4,bT4,rfl,rfl,bh4,bq5⟩:=bq4.step
 obtain⟨bv5,br5,bS5,bT5,rfl,rfl,bh5,bq6⟩:=bq5.step
 obtain⟨bv6,br6,bS6,bT6,rfl,rfl,bh6,bq7⟩:=bq6.step
 obtain⟨bv7,br7,bS7,bT7,rfl,rfl,bh7,bq8⟩:=bq7.step
 obtain⟨_,rfl,rfl⟩:=bq8
 have bhsz:cb.length=45:=hb.size
 simp only[Ty.size,Ty.au,Nat.reduceAdd,Nat.zero_add,List.drop_zero]at ae0 ahsz be0 bhsz ah1 ah2 ah3 ah4 ah5 ah6 ah7 bh1 bh2 bh3 bh4 bh5 bh6 bh7
 refine an CH rfl ?_
 simp(disch:=omega) only[aa,nT,ae0,ahsz,be0,bhsz,ak,aj,SX,SU,SL,reduceCtorEq,Nat.reduceAdd,Nat.reduceLeDiff,reduceIte]
 refine ae (fun hn=> ?_) (fun hn=> ?_)
 case refine_1=>
  simp(disch:=omega) only[aa,nT,ae0,ahsz,be0,bhsz,ak,aj,SX,SU,SL,reduceCtorEq,Nat.reduceAdd,Nat.reduceLeDiff,reduceIte]
  simp[hn]
 have d0:an0=bn0:=by omega
 subst d0
 simp(disch:=omega) only[aa,nT,ae0,ahsz,be0,bhsz,ak,aj,SX,SU,SL,reduceCtorEq,Nat.reduceAdd,Nat.reduceLeDiff,reduceIte]
 refine bx.go wV ah1 bh1 (fun d1=> ?_) (fun d1=> ?_)
 case refine_2=>
  simp(disch:=omega) only[aa,nT,ae0,ahsz,be0,bhsz,ak,aj,SX,SU,SL,reduceCtorEq,Nat.reduceAdd,Nat.reduceLeDiff,reduceIte]
  simp[d1]
 subst d1
 simp(disch:=omega) only[aa,nT,ae0,ahsz,be0,bhsz,ak,aj,SX,SU,SL,reduceCtorEq,Nat.reduceAdd,Nat.reduceLeDiff,reduceIte]
 refine bx.go vf ah2 bh2 (fun d2=> ?_) (fun d2=> ?_)
 case refine_2=>
  simp(disch:=omega) only[aa,nT,ae0,ahsz,be0,bhsz,ak,aj,SX,SU,SL,reduceCtorEq,Nat.reduceAdd,Nat.reduceLeDiff,reduceIte]
  simp[d2]
 subst d2
 simp(disch:=omega) only[aa,nT,ae0,ahsz,be0,bhsz,ak,aj,SX,SU,SL,reduceCtorEq,Nat.reduceAdd,Nat.reduceLeDiff,reduceIte]
 refine bx.go nq ah3 bh3 (fun d3=> ?_) (fun d3=> ?_)
 case refine_2=>
  simp(disch:=omega) only[aa,nT,ae0,ahsz,be0,bhsz,ak,aj,SX,SU,SL,reduceCtorEq,Nat.reduceAdd,Nat.reduceLeDiff,reduceIte]
  simp[d3]
 subst d3
 simp(disch:=omega) only[aa,nT,ae0,ahsz,be0,bhsz,ak,aj,SX,SU,SL,reduceCtorEq,Nat.reduceAdd,Nat.reduceLeDiff,reduceIte]
 refine bx.go vc ah4 bh4 (fun d4=> ?_) (fun d4=> ?_)
 case refine_2=>
  simp(disch:=omega) only[aa,nT,ae0,ahsz,be0,bhsz,ak,aj,SX,SU,SL,reduceCtorEq,Nat.reduceAdd,Nat.reduceLeDiff,reduceIte]
  simp[d4]
 subst d4
 simp(disch:=omega) only[aa,nT,ae0,ahsz,be0,bhsz,ak,aj,SX,SU,SL,reduceCtorEq,Nat.reduceAdd,Nat.reduceLeDiff,reduceIte]
 refine bx.go AY ah5 bh5 (fun d5=> ?_) (fun d5=> ?_)
 case refine_2=>
  simp(disch:=omega) only[aa,nT,ae0,ahsz,be0,bhsz,ak,aj,SX,SU,SL,reduceCtorEq,Nat.reduceAdd,Nat.reduceLeDiff,reduceIte]
  simp[d5]
 subst d5
 simp(disch:=omega) only[aa,nT,ae0,ahsz,be0,bhsz,ak,aj,SX,SU,SL,reduceCtorEq,Nat.reduceAdd,Nat.reduceLeDiff,reduceIte]
 refine bx.go ve ah6 bh6 (fun d6=> ?_) (fun d6=> ?_)
 case refine_2=>
  simp(disch:=omega) only[aa,nT,ae0,ahsz,be0,bhsz,ak,aj,SX,SU,SL,reduceCtorEq,Nat.reduceAdd,Nat.reduceLeDiff,reduceIte]
  simp[d6]
 subst d6
 simp(disch:=omega) only[aa,nT,ae0,ahsz,be0,bhsz,ak,aj,SX,SU,SL,reduceCtorEq,Nat.reduceAdd,Nat.reduceLeDiff,reduceIte]
 refine bx.go xW ah7 bh7 (fun d7=> ?_) (fun d7=> ?_)
 case refine_2=>
  simp(disch:=omega) only[aa,nT,ae0,ahsz,be0,bhsz,ak,aj,SX,SU,SL,reduceCtorEq,Nat.reduceAdd,Nat.reduceLeDiff,reduceIte]
  simp[d7]
 subst d7
 simp(disch:=omega) only[aa,nT,ae0,ahsz,be0,bhsz,ak,aj,SX,SU,SL,reduceCtorEq,Nat.reduceAdd,Nat.reduceLeDiff,reduceIte]
def yI:AF:=⟨2,5,[.tmp 4],(.seq (.ops [.i (.lbox 2 (.s 0)), .i (.lbox 3 (.s 1)), .i (.mov 4 (qb false))]) (.seq (.seq (.ops [qf 5 2 0,ql 6 2 5 1 false,qf 7 3 0,ql 8 3 7 1 false,qd 9 .neq 6 8]) (.cond (.s 9) (.seq (.ops [.i (.mov 4 (qb false))]) .ret) .skip)) (.seq (.seq (.ops [qf 10 2 1,ql 11 2 10 1 false,qf 12 3 1,ql 13 3 12 1 false,qd 14 .neq 11 13]) (.cond (.s 14) (.seq (.ops [.i (.mov 4 (qb false))]) .ret) .skip)) (.seq (.seq (.ops [qf 15 2 2,ql 16 2 15 45 true,qf 17 3 2,ql 18 3 17 45 true, .i (.call 20 17 false [(.s 16),(.s 18)]), .i (.not 20 (.s 19))]) (.cond (.s 20) (.seq (.ops [.i (.mov 4 (qb false))]) .ret) .skip)) (.seq (.ops [.i (.mov 4 (qb true))]) .ret)))))⟩
theorem CT:cd 18=some yI:=by kernel_rfl
theorem vw:bx cd 18 TEvent:=by
 intro h ca cb va vb Sa Sb ha hb
 obtain⟨avs,rfl,aq0⟩:=ha.st
 obtain⟨av0,ar0,aS0,aT0,rfl,rfl,ah0,aq1⟩:=aq0.step
 obtain⟨an0,ae0,rfl,rfl,alo0,ahi0⟩:=ah0.int
 obtain⟨av1,ar1,aS1,aT1,rfl,rfl,ah1,aq2⟩:=aq1.step
 obtain⟨an1,ae1,rfl,rfl,alo1,ahi1⟩:=ah1.int
 obtain⟨av2,ar2,aS2,aT2,rfl,rfl,ah2,aq3⟩:=aq2.step
 obtain⟨_,rfl,rfl⟩:=aq3
 have ahsz:ca.length=47:=ha.size
 obtain⟨bvs,rfl,bq0⟩:=hb.st
 obtain⟨bv0,br0,bS0,bT0,rfl,rfl,bh0,bq1⟩:=bq0.step
 obtain⟨bn0,be0,rfl,rfl,blo0,bhi0⟩:=bh0.int
 obtain⟨bv1,br1,bS1,bT1,rfl,rfl,bh1,bq2⟩:=bq1.step
 obtain⟨bn1,be1,rfl,rfl,blo1,bhi1⟩:=bh1.int
 obtain⟨bv2,br2,bS2,bT2,rfl,rfl,bh2,bq3⟩:=bq2.step
 obtain⟨_,rfl,rfl⟩:=bq3
 have bhsz:cb.length=47:=hb.size
 simp only[Ty.size,Ty.au,Nat.reduceAdd,Nat.zero_add,List.drop_zero]at ae0 ae1 ahsz be0 be1 bhsz ah2 bh2
 refine an CT rfl ?_
 simp(disch:=omega) only[aa,yI,ae0,ae1,ahsz,be0,be1,bhsz,ak,aj,SX,SU,SL,reduceCtorEq,Nat.reduceAdd,Nat.reduceLeDiff,reduceIte]
 refine ae (fun hn=> ?_) (fun hn=> ?_)
 case refine_1=>
  simp(disch:=omega) only[aa,yI,ae0,ae1,ahsz,be0,be1,bhsz,ak,aj,SX,SU,SL,reduceCtorEq,Nat.reduceAdd,Nat.reduceLeDiff,reduceIte]
  simp[hn]
 have d0:an0=bn0:=by omega
 subst d0
 simp(disch:=omega) only[aa,yI,ae0,ae1,ahsz,be0,be1,bhsz,ak,aj,SX,SU,SL,reduceCtorEq,Nat.reduceAdd,Nat.reduceLeDiff,reduceIte]
 refine ae (fun hn=> ?_) (fun hn=> ?_)
 case refine_1=>
  simp(disch:=omega) only[aa,yI,ae0,ae1,ahsz,be0,be1,bhsz,ak,aj,SX,SU,SL,reduceCtorEq,Nat.reduceAdd,Nat.reduceLeDiff,reduceIte]
  simp[hn]
 have d1:an1=bn1:=by omega
 subst d1
 simp(disch:=omega) only[aa,yI,ae0,ae1,ahsz,be0,be1,bhsz,ak,aj,SX,SU,SL,reduceCtorEq,Nat.reduceAdd,Nat.reduceLeDiff,reduceIte]
 refine bx.go tX ah2 bh2 (fun d2=> ?_) (fun d2=> ?_)
 case refine_2=>
  simp(disch:=omega) only[aa,yI,ae0,ae1,ahsz,be0,be1,bhsz,ak,aj,SX,SU,SL,reduceCtorEq,Nat.reduceAdd,Nat.reduceLeDiff,reduceIte]
  simp[d2]
 subst d2
 simp(disch:=omega) only[aa,yI,ae0,ae1,ahsz,be0,be1,bhsz,ak,aj,SX,SU,SL,reduceCtorEq,Nat.reduceAdd,Nat.reduceLeDiff,reduceIte]
def c9:AF:=⟨2,5,[.tmp 4],(.seq (.ops [.i (.mov 4 (qb false))]) (.seq (.seq (.ops [qm 6 0,qn 7 6,qm 8 1,qn 9 8,qd 10 .neq 7 9]) (.cond (.s 10) (.seq (.ops [.i (.mov 4 (qb false))]) .ret) .skip)) (.seq (.seq (.ops [.i (.mov 5 (qi 0))]) (.block 0 (.loop [26,25,24,23,22,21,20,19,18,17,16,15,14,13,12,11] (.seq (.seq (.ops [qm 11 5,qm 12 0,qn 13 12,qd 14 .lss 11 13]) (.cond (.s 14) .skip (.exit 0))) (.seq (.block 1 (.seq (.ops [qm 17 0,qm 18 5, .i (.iad 19 (.s 17) (.s 18) 47), .i (.ldh 20 (.s 19) 47 true),qm 21 1,qm 22 5, .i (.iad 23 (.s 21) (.s 22) 47), .i (.ldh 24 (.s 23) 47 true), .i (.call 26 18 false [(.s 20),(.s 24)]), .i (.not 26 (.s 25))]) (.cond (.s 26) (.seq (.ops [.i (.mov 4 (qb false))]) .ret) .skip))) (.ops [qm 15 5, .i (.bin 16 .add (.s 15) (qi 1)),qm 5 16])))))) (.seq (.ops [.i (.mov 4 (qb true))]) .ret))))⟩
theorem k9:cd 9=some c9:=by kernel_rfl
theorem sV:bx cd 9 (.sl TEvent):=pI k9 vw
def c8:AF:=⟨2,5,[.tmp 4],(.seq (.ops [.i (.mov 4 (qb false))]) (.seq (.seq (.ops [qm 6 0,qn 7 6,qm 8 1,qn 9 8,qd 10 .neq 7 9]) (.cond (.s 10) (.seq (.ops [.i (.mov 4 (qb false))]) .ret) .skip)) (.seq (.seq (.ops [.i (.mov 5 (qi 0))]) (.block 0 (.loop [26,25,24,23,22,21,20,19,18,17,16,15,14,13,12,11] (.seq (.seq (.ops [qm 11 5,qm 12 0,qn 13 12,qd 14 .lss 11 13]) (.cond (.s 14) .skip (.exit 0))) (.seq (.block 1 (.seq (.ops [qm 17 0,qm 18 5, .i (.iad 19 (.s 17) (.s 18) 45), .i (.ldh 20 (.s 19) 45 true),qm 21 1,qm 22 5, .i (.iad 23 (.s 21) (.s 22) 45), .i (.ldh 24 (.s 23) 45 true), .i (.call 26 17 false [(.s 20),(.s 24)]), .i (.not 26 (.s 25))]) (.cond (.s 26) (.seq (.ops [.i (.mov 4 (qb false))]) .ret) .skip))) (.ops [qm 15 5, .i (.bin 16 .add (.s 15) (qi 1)),qm 5 16])))))) (.seq (.ops [.i (.mov 4 (qb true))]) .ret))))⟩
theorem k8:cd 8=some c8:=by kernel_rfl
theorem mK:bx cd 8 (.sl dA):=pI k8 tX
def DQ:AF:=⟨2,5,[.tmp 4],(.seq (.ops [.i (.mov 4 (qi 0))]) (.seq (.seq (.ops [.i (.mov 5 (qi 0))]) (.block 0 (.loop [18,17,16,15,14,13,12,11,10,9,8,7,6] (.seq (.seq (.ops [qm 6 5,qm 7 0,qn 8 7,qd 9 .lss 6 8]) (.cond (.s 9) .skip (.exit 0))) (.seq (.block 1 (.seq (.ops [qm 12 0,qm 13 5,qm 14 1, .i (.cvi 15 .u8 (.s 14)), .i (.iad 16 (.s 12) (.s 13) 1), .i (.sth (.s 16) (.s 15) 1)]) (.ops [qm 17 1, .i (.bin 18 .add (.s 17) (qi 1)),qm 1 18]))) (.ops [qm 10 5, .i (.bin 11 .add (.s 10) (qi 1)),qm 5 11])))))) (.seq (.ops [qm 19 1,qm 4 19]) .ret)))⟩
theorem Dx:cd 19=some DQ:=by kernel_rfl
theorem aw:gQ cd 19 (.sl (.int .u8)):=xw Dx
def DK:AF:=⟨2,5,[.tmp 4],(.seq (.ops [.i (.mov 4 (qi 0))]) (.seq (.seq (.ops [.i (.mov 5 (qi 0))]) (.block 0 (.loop [17,16,15,14,13,12,11,10,9,8,7,6] (.seq (.seq (.ops [qm 6 5,qm 7 0,qn 8 7,qd 9 .lss 6 8]) (.cond (.s 9) .skip (.exit 0))) (.seq (.block 1 (.ops [qm 12 0,qm 13 5, .i (.iad 14 (.s 12) (.s 13) 1), .i (.ldh 15 (.s 14) 1 false),qm 16 1, .i (.call 18 19 false [(.s 15),(.s 16)]),qm 1 17])) (.ops [qm 10 5, .i (.bin 11 .add (.s 10) (qi 1)),qm 5 11])))))) (.seq (.ops [qm 18 1,qm 4 18]) .ret)))⟩
theorem CP:cd 20=some DK:=by kernel_rfl
theorem bA:gQ cd 20 (.sl (.sl (.int .u8))):=BB CP aw
def pR:Ty→Nat
 | .sl (.int _)=>19
 |_=>0
abbrev gq:List Ty:= [(.int .i64),(.int .i64),(.sl (.int .u8))]
theorem C7:cd 21=some (Bj 6 (Ty.au gq) (e7 pR gq 0 [])):=by kernel_rfl
theorem lY:gQ cd 21 (.sl cg):=rR (ts:=gq) C7 (And.intro rfl (And.intro rfl (And.intro aw True.intro)))
def qj:Ty→Nat
 | .sl (.int _)=>19
 | .sl (.sl _)=>20
 |_=>0
abbrev iu:List Ty:= [(.int .i64),(.int .i64),(.int .i64),(.sl (.int .u8)),(.sl (.int .u8)),j8]
theorem CI:cd 22=some (Bj 7 (Ty.au iu) (e7 qj iu 0 [])):=by kernel_rfl
theorem po:gQ cd 22 (.sl bd):=rR (ts:=iu) CI (And.intro rfl (And.intro rfl (And.intro rfl (And.intro aw (And.intro aw (And.intro (And.intro rfl (And.intro rfl (And.intro aw (And.intro aw (And.intro bA True.intro))))) True.intro))))))
def oa:Ty→Nat
 | .sl (.int _)=>19
 | .sl (.sl _)=>20
 | .sl (.st [_,_,_])=>21
 | .sl (.st [_,_,_,_,_,_])=>22
 |_=>0
abbrev fq:List Ty:= [(.int .i64),(.int .i64),dA]
theorem CK:cd 10=some (Bj 9 (Ty.au fq) (e7 oa fq 0 [])):=by kernel_rfl
theorem sf:gQ cd 10 (.sl TEvent):=rR (ts:=fq) CK (And.intro rfl (And.intro rfl (And.intro (And.intro rfl (And.intro (And.intro rfl (And.intro rfl (And.intro aw (And.intro rfl (And.intro aw True.intro))))) (And.intro (And.intro rfl (And.intro rfl (And.intro aw (And.intro aw (And.intro bA True.intro))))) (And.intro (And.intro rfl (And.intro rfl (And.intro rfl (And.intro aw (And.intro aw (And.intro (And.intro rfl (And.intro rfl (And.intro aw (And.intro aw (And.intro bA True.intro))))) True.intro)))))) (And.intro (And.intro (And.intro rfl (And.intro rfl (And.intro rfl (And.intro aw (And.intro aw (And.intro (And.intro rfl (And.intro rfl (And.intro aw (And.intro aw (And.intro bA True.intro))))) True.intro)))))) (And.intro bA True.intro)) (And.intro (And.intro rfl (And.intro lY True.intro)) (And.intro (And.intro po (And.intro (And.intro rfl (And.intro rfl (And.intro aw (And.intro aw (And.intro bA True.intro))))) True.intro)) (And.intro (And.intro rfl (And.intro rfl (And.intro rfl (And.intro aw (And.intro bA True.intro))))) True.intro)))))))) True.intro)))
def sX:Ty→Nat
 | .sl (.int _)=>19
 | .sl (.sl _)=>20
 | .sl (.st [_,_,_])=>21
 | .sl (.st [_,_,_,_,_,_])=>22
 |_=>0
abbrev jA:List Ty:= [(.int .i64),g8,j8,bd,dc,tf,cj,hM]
theorem CG:cd 11=some (Bj 9 (Ty.au jA) (e7 sX jA 0 [])):=by kernel_rfl
theorem wU:gQ cd 11 (.sl dA):=rR (ts:=jA) CG (And.intro rfl (And.intro (And.intro rfl (And.intro rfl (And.intro aw (And.intro rfl (And.intro aw True.intro))))) (And.intro (And.intro rfl (And.intro rfl (And.intro aw (And.intro aw (And.intro bA True.intro))))) (And.intro (And.intro rfl (And.intro rfl (And.intro rfl (And.intro aw (And.intro aw (And.intro (And.intro rfl (And.intro rfl (And.intro aw (And.intro aw (And.intro bA True.intro))))) True.intro)))))) (And.intro (And.intro (And.intro rfl (And.intro rfl (And.intro rfl (And.intro aw (And.intro aw (And.intro (And.intro rfl (And.intro rfl (And.intro aw (And.intro aw (And.intro bA True.intro))))) True.intro)))))) (And.intro bA True.intro)) (And.intro (And.intro rfl (And.intro lY True.intro)) (And.intro (And.intro po (And.intro (And.intro rfl (And.intro rfl (And.intro aw (And.intro aw (And.intro bA True.intro))))) True.intro)) (And.intro (And.intro rfl (And.intro rfl (And.intro rfl (And.intro aw (And.intro bA True.intro))))) True.intro))))))))
def CN:AF:=⟨2,5,[.tmp 4],(.seq (.ops [.i (.mov 4 (qi 0))]) (.seq (.seq (.ops [.i (.mov 5 (qi 0))]) (.block 0 (.loop [20,19,18,17,16,15,14,13,12,11,10,9,8,7,6] (.seq (.seq (.ops [qm 6 5,qm 7 0,qn 8 7,qd 9 .lss 6 8]) (.cond (.s 9) .skip (.exit 0))) (.seq (.block 1 (.seq (.seq (.ops [qm 12 0,qm 13 5, .i (.iad 14 (.s 12) (.s 13) 1), .i (.ldh 15 (.s 14) 1 false),qm 16 1, .i (.cvi 17 .u8 (.s 16)),qd 18 .neq 15 17]) (.cond (.s 18) (.seq (.ops [.i (.mov 4 (qi (-1)))]) .ret) .skip)) (.ops [qm 19 1, .i (.bin 20 .add (.s 19) (qi 1)),qm 1 20]))) (.ops [qm 10 5, .i (.bin 11 .add (.s 10) (qi 1)),qm 5 11])))))) (.seq (.ops [qm 21 1,qm 4 21]) .ret)))⟩
theorem C4:cd 23=some CN:=by kernel_rfl
theorem aO:gU cd 23 (.sl (.int .u8)):=xN C4
def CM:AF:=⟨2,5,[.tmp 4],(.seq (.ops [.i (.mov 4 (qi 0))]) (.seq (.seq (.ops [.i (.mov 5 (qi 0))]) (.block 0 (.loop [19,18,17,16,15,14,13,12,11,10,9,8,7,6] (.seq (.seq (.ops [qm 6 5,qm 7 0,qn 8 7,qd 9 .lss 6 8]) (.cond (.s 9) .skip (.exit 0))) (.seq (.block 1 (.seq (.ops [qm 12 0,qm 13 5, .i (.iad 14 (.s 12) (.s 13) 1), .i (.ldh 15 (.s 14) 1 false),qm 16 1, .i (.call 18 23 false [(.s 15),(.s 16)]),qm 1 17]) (.seq (.ops [qm 18 1, .i (.bin 19 .lss (.s 18) (qi 0))]) (.cond (.s 19) (.seq (.ops [.i (.mov 4 (qi (-1)))]) .ret) .skip)))) (.ops [qm 10 5, .i (.bin 11 .add (.s 10) (qi 1)),qm 5 11])))))) (.seq (.ops [qm 20 1,qm 4 20]) .ret)))⟩
theorem DA:cd 24=some CM:=by kernel_rfl
theorem dh:gU cd 24 (.sl (.sl (.int .u8))):=Bk DA aO
def ot:Ty→Nat
 | .sl (.int _)=>23
 |_=>0
abbrev ga:List Ty:= [(.int .i64),(.int .i64),(.sl (.int .u8))]
theorem Du:cd 25=some (BN 6 (Ty.au ga) (e7 ot ga 0 [])):=by kernel_rfl
theorem sQ:gU cd 25 (.sl cg):=u6 (ts:=ga) Du (And.intro rfl (And.intro rfl (And.intro aO True.intro)))
def qL:Ty→Nat
 | .sl (.int _)=>23
 | .sl (.sl _)=>24
 |_=>0
abbrev iB:List Ty:= [(.int .i64),(.int .i64),(.int .i64),(.sl (.int .u8)),(.sl (.int .u8)),j8]
theorem Dp:cd 26=some (BN 7 (Ty.au iB) (e7 qL iB 0 [])):=by kernel_rfl
theorem vv:gU cd 26 (.sl bd):=u6 (ts:=iB) Dp (And.intro rfl (And.intro rfl (And.intro rfl (And.intro aO (And.intro aO (And.intro (And.intro rfl (And.intro rfl (And.intro aO (And.intro aO (And.intro dh True.intro))))) True.intro))))))
def sr:Ty→Nat
 | .sl (.int _)=>23
 | .sl (.sl _)=>24
 | .sl (.st [_,_,_])=>25
 | .sl (.st [_,_,_,_,_,_])=>26
 |_=>0
abbrev js:List Ty:= [(.int .i64),g8,j8,bd,dc,tf,cj,hM]
theorem Dw:cd 12=some (BN 9 (Ty.au js) (e7 sr js 0 [])):=by kernel_rfl
theorem q9:gU cd 12 (.sl dA):=u6 (ts:=js) Dw (And.intro rfl (And.intro (And.intro rfl (And.intro rfl (And.intro aO (And.intro rfl (And.intro aO True.intro))))) (And.intro (And.intro rfl (And.intro rfl (And.intro aO (And.intro aO (And.intro dh True.intro))))) (And.intro (And.intro rfl (And.intro rfl (And.intro rfl (And.intro aO (And.intro aO (And.intro (And.intro rfl (And.intro rfl (And.intro aO (And.intro aO (And.intro dh True.intro))))) True.intro)))))) (And.intro (And.intro (And.intro rfl (And.intro rfl (And.intro rfl (And.intro aO (And.intro aO (And.intro (And.intro rfl (And.intro rfl (And.intro aO (And.intro aO (And.intro dh True.intro))))) True.intro)))))) (And.intro dh True.intro)) (And.intro (And.intro rfl (And.intro sQ True.intro)) (And.intro (And.intro vv (And.intro (And.intro rfl (And.intro rfl (And.intro aO (And.intro aO (And.intro dh True.intro))))) True.intro)) (And.intro (And.intro rfl (And.intro rfl (And.intro rfl (And.intro aO (And.intro dh True.intro))))) True.intro))))))))
end Go.Eng.U
namespace Go.Eng.U
open Go.Eng.F (Ev eX aK)
def c3:AF:=⟨1,7,[.tmp 2],(.seq (.ops [.i (.mov 2 (qb false))]) (.seq (.ops [.i (.mov 3 (qi 1048576))]) (.seq (.ops [qm 11 0,qm 12 3, .i (.call 14 4 false [(.s 11),(.s 12)]),qm 3 13]) (.seq (.seq (.ops [qm 14 3, .i (.bin 15 .lss (.s 14) (qi 0))]) (.cond (.s 15) (.seq (.ops [.i (.mov 2 (qb true))]) .ret) .skip)) (.seq (.ops [qm 16 0,qk 18 6 16,qk 19 5 17,qm 4 18]) (.seq (.ops [qm 19 0,qk 21 6 19,qm 5 20]) (.seq (.ops [qm 21 5,qk 23 7 21,qm 6 22]) (.seq (.seq (.ops [qm 23 6,qm 24 4, .i (.call 26 8 false [(.s 23),(.s 24)]), .i (.not 26 (.s 25))]) (.cond (.s 26) (.seq (.ops [.i (.mov 2 (qb false))]) .ret) .skip)) (.seq (.seq (.ops [qm 27 5,qm 28 0,qk 30 6 28, .i (.call 31 9 false [(.s 27),(.s 29)]), .i (.not 31 (.s 30))]) (.cond (.s 31) (.seq (.ops [.i (.mov 2 (qb false))]) .ret) .skip)) (.seq (.ops [.i (.mov 7 (qi 1))]) (.seq (.ops [qm 32 5,qm 33 7, .i (.call 35 10 false [(.s 32),(.s 33)]),qm 7 34]) (.seq (.seq (.ops [qm 35 7, .i (.bin 36 .lss (.s 35) (qi 0)),qm 37 36, .g 37 false 39 (.mov 38 (.s 6)), .g 37 false 40 (.mov 39 (.s 4)), .g 37 false 41 (.call 41 8 false [(.s 38),(.s 39)]), .g 37 false 42 (.not 41 (.s 40)), .i (.pick 42 (.s 37) (qb true) (.s 41))]) (.cond (.s 42) (.seq (.ops [.i (.mov 2 (qb false))]) .ret) .skip)) (.seq (.ops [.i (.mov 8 (qi 1))]) (.seq (.ops [qm 43 6,qm 44 8, .i (.call 46 11 false [(.s 43),(.s 44)]),qm 8 45]) (.seq (.ops [.i (.mov 9 (qi 1))]) (.seq (.ops [qm 46 6,qm 47 9, .i (.call 49 12 false [(.s 46),(.s 47)]),qm 9 48]) (.seq (.seq (.ops [qm 49 9, .i (.bin 50 .lss (.s 49) (qi 0))]) (.cond (.s 50) (.seq (.ops [.i (.mov 2 (qb false))]) .ret) .skip)) (.seq (.seq (.ops [qm 51 9,qm 52 8,qd 53 .neq 51 52]) (.cond (.s 53) (.seq (.ops [.i (.mov 2 (qb false))]) .ret) .skip)) (.seq (.ops [qm 54 0,qk 56 6 54,qk 57 7 55,qm 10 56]) (.seq (.seq (.ops [qm 57 10,qm 58 4, .i (.call 60 8 false [(.s 57),(.s 58)]), .i (.not 60 (.s 59))]) (.cond (.s 60) (.seq (.ops [.i (.mov 2 (qb false))]) .ret) .skip)) (.seq (.ops [.i (.mov 9 (qi 1))]) (.seq (.ops [qm 61 6,qm 62 9, .i (.call 64 12 false [(.s 61),(.s 62)]),qm 9 63]) (.seq (.seq (.ops [qm 64 9, .i (.bin 65 .lss (.s 64) (qi 0))]) (.cond (.s 65) (.seq (.ops [.i (.mov 2 (qb false))]) .ret) .skip)) (.seq (.seq (.ops [qm 66 9,qm 67 8,qd 68 .neq 66 67]) (.cond (.s 68) (.seq (.ops [.i (.mov 2 (qb false))]) .ret) .skip)) (.seq (.ops [.i (.mov 2 (qb true))]) .ret)))))))))))))))))))))))))⟩
theorem k3:cd 3=some c3:=by kernel_rfl
theorem AU {h:H} {kk:IntKind} {c:C} {v:Tv} {S:List Nat} (hv:Rp h (.sl (.int kk)) [c] v S):kl c=some (wt v):=by
 obtain⟨c2,xs,id,off,bs,S',e,rfl,hm,hl,hat,hce,hbs,hel,hS⟩:=hv.view
 injection e with e
 subst e
 rw[hl]
 simp[wt,(i2 hel).1]
theorem law_Msgs:∀h vs,mC h [(.sl TEvent)] vs→WC cd 3 vs h (fun r _=>r= .val false [.bool true]):=by
 intro h vs ha
 obtain⟨cs0,v0,S0,r0,rfl,hv0,ha0⟩:=ha
 have hr0:r0= []:=ha0
 subst hr0
 obtain⟨cc0,rfl⟩:=hv0.one rfl
 obtain⟨l,rfl⟩:=F.xn hv0.ok
 have hc0:fQ (.sl TEvent) (eX l)≤58 * (1+wt (eX l)):=Nat.le_trans (qQ _ _) (mY _ _)
 have hr0:fQ (.sl dA) (F.kE (aK l))≤56 * (1+wt (F.kE (aK l))):=Nat.le_trans (qQ _ _) (mY _ _)
 have hw0:=F.xY l
 refine an k3 rfl ?_
 simp(disch:=omega) only[aa,c3,ak,aj,cO,beq_self_eq_true,bne_self_eq_false,List.getElem?_cons_zero,List.getElem?_cons_succ,Bool.or_false,Bool.false_or,Bool.or_self,SX,SU,SL,reduceCtorEq,Nat.reduceAdd,Nat.reduceLeDiff,reduceIte]
 refine bC.go sF hv0 (k:=1048576) (by omega) (fun hf0=> ?_) (fun hf0=> ?_)
 case refine_2=>
  simp(disch:=omega) only[aa,c3,ak,aj,cO,beq_self_eq_true,bne_self_eq_false,List.getElem?_cons_zero,List.getElem?_cons_succ,Bool.or_false,Bool.false_or,Bool.or_self,SX,SU,SL,reduceCtorEq,Nat.reduceAdd,Nat.reduceLeDiff,reduceIte]
  refine ae (fun hn=> ?_) (fun hn=>absurd (show(-1:Int) < 0 by omega) hn)
  simp(disch:=omega) only[aa,c3,ak,aj,cO,beq_self_eq_true,bne_self_eq_false,List.getElem?_cons_zero,List.getElem?_cons_succ,Bool.or_false,Bool.false_or,Bool.or_self,SX,SU,SL,reduceCtorEq,Nat.reduceAdd,Nat.reduceLeDiff,reduceIte]
 simp(disch:=omega) only[aa,c3,ak,aj,cO,beq_self_eq_true,bne_self_eq_false,List.getElem?_cons_zero,List.getElem?_cons_succ,Bool.or_false,Bool.false_or,Bool.or_self,SX,SU,SL,reduceCtorEq,Nat.reduceAdd,Nat.reduceLeDiff,reduceIte]
 refine ae (fun hn=>absurd hn (by omega)) (fun hn=> ?_)
 simp(disch:=omega) only[aa,c3,ak,aj,cO,beq_self_eq_true,bne_self_eq_false,List.getElem?_cons_zero,List.getElem?_cons_succ,Bool.or_false,Bool.false_or,Bool.or_self,SX,SU,SL,reduceCtorEq,Nat.reduceAdd,Nat.reduceLeDiff,reduceIte]
 refine ay (gM hv0 (by omega)) ?_
 rintro r0 g0 ⟨t0,d0,U0,hg0,rfl,z0,o0,l0⟩
 have n0:=dZ hg0
 have b0:=z0.lt
 obtain⟨e0,rfl⟩:=z0.one rfl
 simp(disch:=omega) only[aa,c3,ak,aj,cO,beq_self_eq_true,bne_self_eq_false,List.getElem?_cons_zero,List.getElem?_cons_succ,Bool.or_false,Bool.false_or,Bool.or_self,SX,SU,SL,reduceCtorEq,Nat.reduceAdd,Nat.reduceLeDiff,reduceIte]
 refine ay (F.nI ⟨_,_,rfl,⟨_,z0⟩,rfl⟩ (by omega)) ?_
 rintro r1 g1 ⟨t1,css1,U1,hg1,rfl,zz1,o1,l1⟩
 have n1:=dZ hg1
 obtain⟨d1_0,cr1_0,U1_0,V1_0,rfl,rfl,z1_0,zz1_0⟩:=zz1
 obtain⟨rfl,rfl⟩:=zz1_0
 simp only[List.nil_append,List.append_nil]at o1 l1
 have o1_0:=o1
 have b1_0:=z1_0.lt
 have l1_0:=l1
 obtain⟨e1_0,rfl⟩:=z1_0.one rfl
 simp(disch:=omega) only[aa,c3,ak,aj,cO,beq_self_eq_true,bne_self_eq_false,List.getElem?_cons_zero,List.getElem?_cons_succ,Bool.or_false,Bool.false_or,Bool.or_self,SX,SU,SL,reduceCtorEq,Nat.reduceAdd,Nat.reduceLeDiff,reduceIte]
 refine ay (gM (Rp.cw hg1 (Rp.cw hg0 hv0)) (by omega)) ?_
 rintro r2 g2 ⟨t2,d2,U2,hg2,rfl,z2,o2,l2⟩
 have n2:=dZ hg2
 have b2:=z2.lt
 obtain⟨e2,rfl⟩:=z2.one rfl
 simp(disch:=omega) only[aa,c3,ak,aj,cO,beq_self_eq_true,bne_self_eq_false,List.getElem?_cons_zero,List.getElem?_cons_succ,Bool.or_false,Bool.false_or,Bool.or_self,SX,SU,SL,reduceCtorEq,Nat.reduceAdd,Nat.reduceLeDiff,reduceIte]
 refine ay (F.je ⟨_,_,rfl,⟨_,z2⟩,rfl⟩ (by omega)) ?_
 rintro r3 g3 ⟨t3,css3,U3,hg3,rfl,zz3,o3,l3⟩
 have n3:=dZ hg3
 obtain⟨d3_0,cr3_0,U3_0,V3_0,rfl,rfl,z3_0,zz3_0⟩:=zz3
 obtain⟨rfl,rfl⟩:=zz3_0
 simp only[List.nil_append,List.append_nil]at o3 l3
 have o3_0:=o3
 have b3_0:=z3_0.lt
 have l3_0:=l3
 obtain⟨e3_0,rfl⟩:=z3_0.one rfl
 simp(disch:=omega) only[aa,c3,ak,aj,cO,beq_self_eq_true,bne_self_eq_false,List.getElem?_cons_zero,List.getElem?_cons_succ,Bool.or_false,Bool.false_or,Bool.or_self,SX,SU,SL,reduceCtorEq,Nat.reduceAdd,Nat.reduceLeDiff,reduceIte]
 refine bx.go mK z3_0 (Rp.cw hg3 (Rp.cw hg2 z1_0)) (fun _=> ?_) (fun hne=>absurd rfl hne)
 simp(disch:=omega) only[aa,c3,ak,aj,cO,beq_self_eq_true,bne_self_eq_false,List.getElem?_cons_zero,List.getElem?_cons_succ,Bool.or_false,Bool.false_or,Bool.or_self,SX,SU,SL,reduceCtorEq,Nat.reduceAdd,Nat.reduceLeDiff,reduceIte]
 refine ay (gM (Rp.cw hg3 (Rp.cw hg2 (Rp.cw hg1 (Rp.cw hg0 hv0)))) (by omega)) ?_
 rintro r4 g4 ⟨t4,d4,U4,hg4,rfl,z4,o4,l4⟩
 have n4:=dZ hg4
 have b4:=z4.lt
 obtain⟨e4,rfl⟩:=z4.one rfl
 simp(disch:=omega) only[aa,c3,ak,aj,cO,beq_self_eq_true,bne_self_eq_false,List.getElem?_cons_zero,List.getElem?_cons_succ,Bool.or_false,Bool.false_or,Bool.or_self,SX,SU,SL,reduceCtorEq,Nat.reduceAdd,Nat.reduceLeDiff,reduceIte]
 refine bx.go sV (Rp.cw hg4 (Rp.cw hg3 z2)) z4 (fun _=> ?_) (fun hne=>absurd rfl hne)
 simp(disch:=omega) only[aa,c3,ak,aj,cO,beq_self_eq_true,bne_self_eq_false,List.getElem?_cons_zero,List.getElem?_cons_succ,Bool.or_false,Bool.false_or,Bool.or_self,SX,SU,SL,reduceCtorEq,Nat.reduceAdd,Nat.reduceLeDiff,reduceIte]
 refine gQ.go sf (Rp.cw hg4 (Rp.cw hg3 z2)) (cz.cw hg4 (cz.cw hg3 o2)) (k:=1) (by omega) (fun gw0 w0 zw0=> ?_)
 have nw0:=w0.1
 have hneg:decide (((1+fQ (.sl TEvent) (eX l):Nat):Int) < 0)=false:=by simp;omega
 simp(disch:=omega) only[aa,c3,hneg,ak,aj,cO,beq_self_eq_true,bne_self_eq_false,List.getElem?_cons_zero,List.getElem?_cons_succ,Bool.or_false,Bool.false_or,Bool.or_self,SX,SU,SL,reduceCtorEq,Nat.reduceAdd,Nat.reduceLeDiff,reduceIte]
 refine bx.go mK ((Rp.cw hg4 z3_0).wrote w0 (fun i hi hn=>by have:=b3_0 i hi;have:=l3_0 i hi;have:=b2 i hn;have:=l2 i hn;omega)) ((Rp.cw hg4 (Rp.cw hg3 (Rp.cw hg2 z1_0))).wrote w0 (fun i hi hn=>by have:=b1_0 i hi;have:=l1_0 i hi;have:=b2 i hn;have:=l2 i hn;omega)) (fun _=> ?_) (fun hne=>absurd rfl hne)
 simp(disch:=omega) only[aa,c3,hneg,ak,aj,cO,beq_self_eq_true,bne_self_eq_false,List.getElem?_cons_zero,List.getElem?_cons_succ,Bool.or_false,Bool.false_or,Bool.or_self,SX,SU,SL,reduceCtorEq,Nat.reduceAdd,Nat.reduceLeDiff,reduceIte]
 refine gQ.go wU ((Rp.cw hg4 z3_0).wrote w0 (fun i hi hn=>by have:=b3_0 i hi;have:=l3_0 i hi;have:=b2 i hn;have:=l2 i hn;omega)) (w0.xk (cz.cw hg4 o3_0)) (k:=1) (by omega) (fun gm0 wm0 zm0=> ?_)
 have nm0:=wm0.1
 simp(disch:=omega) only[aa,c3,hneg,ak,aj,cO,beq_self_eq_true,bne_self_eq_false,List.getElem?_cons_zero,List.getElem?_cons_succ,Bool.or_false,Bool.false_or,Bool.or_self,SX,SU,SL,reduceCtorEq,Nat.reduceAdd,Nat.reduceLeDiff,reduceIte]
 refine gU.go q9 ⟨_,_,_,z3_0⟩ zm0 (k:=1) (by omega) ?_
 simp(disch:=omega) only[aa,c3,hneg,ak,aj,cO,beq_self_eq_true,bne_self_eq_false,List.getElem?_cons_zero,List.getElem?_cons_succ,Bool.or_false,Bool.false_or,Bool.or_self,SX,SU,SL,reduceCtorEq,Nat.reduceAdd,Nat.reduceLeDiff,reduceIte]
 refine ae (fun hn=>absurd hn (by omega)) (fun hn=> ?_)
 simp(disch:=omega) only[aa,c3,hneg,ak,aj,cO,beq_self_eq_true,bne_self_eq_false,List.getElem?_cons_zero,List.getElem?_cons_succ,Bool.or_false,Bool.false_or,Bool.or_self,SX,SU,SL,reduceCtorEq,Nat.reduceAdd,Nat.reduceLeDiff,reduceIte]
 refine ay (gM (((Rp.cw hg4 (Rp.cw hg3 (Rp.cw hg2 (Rp.cw hg1 (Rp.cw hg0 hv0))))).wrote w0 (fun i hi hn=>by have:=hv0.lt i hi;have:=b2 i hn;have:=l2 i hn;omega)).wrote wm0 (fun i hi hn=>by have:=hv0.lt i hi;have:=b3_0 i hn;have:=l3_0 i hn;omega)) (by omega)) ?_
 rintro r5 g5 ⟨t5,d5,U5,hg5,rfl,z5,o5,l5⟩
 have n5:=dZ hg5
 have b5:=z5.lt
 obtain⟨e5,rfl⟩:=z5.one rfl
 simp(disch:=omega) only[aa,c3,hneg,ak,aj,cO,beq_self_eq_true,bne_self_eq_false,List.getElem?_cons_zero,List.getElem?_cons_succ,Bool.or_false,Bool.false_or,Bool.or_self,SX,SU,SL,reduceCtorEq,Nat.reduceAdd,Nat.reduceLeDiff,reduceIte]
 refine ay (F.je ⟨_,_,rfl,⟨_,z5⟩,rfl⟩ (by omega)) ?_
 rintro r6 g6 ⟨t6,css6,U6,hg6,rfl,zz6,o6,l6⟩
 have n6:=dZ hg6
 obtain⟨d6_0,cr6_0,U6_0,V6_0,rfl,rfl,z6_0,zz6_0⟩:=zz6
 obtain⟨rfl,rfl⟩:=zz6_0
 simp only[List.nil_append,List.append_nil]at o6 l6
 have o6_0:=o6
 have b6_0:=z6_0.lt
 have l6_0:=l6
 obtain⟨e6_0,rfl⟩:=z6_0.one rfl
 simp(disch:=omega) only[aa,c3,hneg,ak,aj,cO,beq_self_eq_true,bne_self_eq_false,List.getElem?_cons_zero,List.getElem?_cons_succ,Bool.or_false,Bool.false_or,Bool.or_self,SX,SU,SL,reduceCtorEq,Nat.reduceAdd,Nat.reduceLeDiff,reduceIte]
 refine bx.go mK z6_0 (Rp.cw hg6 (Rp.cw hg5 (((Rp.cw hg4 (Rp.cw hg3 (Rp.cw hg2 z1_0))).wrote w0 (fun i hi hn=>by have:=b1_0 i hi;have:=l1_0 i hi;have:=b2 i hn;have:=l2 i hn;omega)).wrote wm0 (fun i hi hn=>by have:=b1_0 i hi;have:=l1_0 i hi;have:=b3_0 i hn;have:=l3_0 i hn;omega)))) (fun _=> ?_) (fun hne=>absurd rfl hne)
 simp(disch:=omega) only[aa,c3,hneg,ak,aj,cO,beq_self_eq_true,bne_self_eq_false,List.getElem?_cons_zero,List.getElem?_cons_succ,Bool.or_false,Bool.false_or,Bool.or_self,SX,SU,SL,reduceCtorEq,Nat.reduceAdd,Nat.reduceLeDiff,reduceIte]
 refine gU.go q9 ⟨_,_,_,z3_0⟩ (Rp.cw hg6 (Rp.cw hg5 zm0)) (k:=1) (by omega) ?_
 simp(disch:=omega) only[aa,c3,hneg,ak,aj,cO,beq_self_eq_true,bne_self_eq_false,List.getElem?_cons_zero,List.getElem?_cons_succ,Bool.or_false,Bool.false_or,Bool.or_self,SX,SU,SL,reduceCtorEq,Nat.reduceAdd,Nat.reduceLeDiff,reduceIte]
 refine ae (fun hn=>absurd hn (by omega)) (fun hn=> ?_)
 simp(disch:=omega) only[aa,c3,hneg,ak,aj,cO,beq_self_eq_true,bne_self_eq_false,List.getElem?_cons_zero,List.getElem?_cons_succ,Bool.or_false,Bool.false_or,Bool.or_self,SX,SU,SL,reduceCtorEq,Nat.reduceAdd,Nat.reduceLeDiff,reduceIte]
end Go.Eng.U
