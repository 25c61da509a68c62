import Derived.Test.YtfackchfbefaiaaGreatGb
import Derived.Test.YtfackchfbefaiaaGreatGc
import Derived.Test.YtfackchfbefaiaaGreatGe
import Derived.Test.YtfackchfbefaiaaGreatGf
import Derived.Test.YtfackchfbefaiaaGreatGi
set_option maxRecDepth 100000
set_option maxHeartbeats 16000000
set_option linter.unusedSimpArgs false
set_option linter.unusedVariables false
namespace Go.Eng.U
def c9:AF:=⟨1,5,[.cell 2 5 true],(.seq (.ops [.i (.lbox 1 (.s 0)), .i (.lal 2 [.int .i64 0, .int .i64 0, .int .i64 0, .int .i64 0, .int .i64 0])]) (.seq (.ops [.i (.lal 3 [.int .i64 0, .int .i64 0, .int .i64 0, .int .i64 0, .int .i64 0])]) (.seq (.ops [qf 4 1 0,ql 5 1 4 1 false,qf 6 3 0,qs 3 6 5 1]) (.seq (.ops [qf 7 1 1,ql 8 1 7 1 false,qf 9 3 1,qs 3 9 8 1]) (.seq (.ops [qf 10 1 2,ql 11 1 10 1 false,qf 12 3 2,qs 3 12 11 1]) (.seq (.ops [qf 13 1 3,ql 14 1 13 1 false,qf 15 3 3,qs 3 15 14 1]) (.seq (.ops [qf 16 1 4,ql 17 1 16 1 false,qf 18 3 4,qs 3 18 17 1]) (.seq (.ops [ql 19 3 3 5 true,qs 2 2 19 5]) .ret))))))))⟩
theorem k9:cd 9=some c9:=by kernel_rfl
theorem tD:JS cd 9 TLimits:=by
 intro h cs v S hv hw
 obtain⟨vs,rfl,q0⟩:=hv.st
 obtain⟨v0,r0,S0,T0,rfl,rfl,h0,q1⟩:=q0.step
 obtain⟨n0,e0,rfl,rfl,lo0,hi0⟩:=h0.int
 obtain⟨v1,r1,S1,T1,rfl,rfl,h1,q2⟩:=q1.step
 obtain⟨n1,e1,rfl,rfl,lo1,hi1⟩:=h1.int
 obtain⟨v2,r2,S2,T2,rfl,rfl,h2,q3⟩:=q2.step
 obtain⟨n2,e2,rfl,rfl,lo2,hi2⟩:=h2.int
 obtain⟨v3,r3,S3,T3,rfl,rfl,h3,q4⟩:=q3.step
 obtain⟨n3,e3,rfl,rfl,lo3,hi3⟩:=h3.int
 obtain⟨v4,r4,S4,T4,rfl,rfl,h4,q5⟩:=q4.step
 obtain⟨n4,e4,rfl,rfl,lo4,hi4⟩:=h4.int
 obtain⟨_,rfl,rfl⟩:=q5
 have hsz:cs.length=5:=hv.size
 simp only[Ty.size,Ty.aT,Nat.reduceAdd,Nat.zero_add,List.drop_zero]at e0 e1 e2 e3 e4 hsz
 simp only[wt,fB]at hw
 refine bb k9 rfl ?_
 simp(disch:=omega) only[ae,c9,e0,e1,e2,e3,e4,hsz,bn,aS,SX,SU,SL,reduceCtorEq,Nat.reduceAdd,Nat.reduceLeDiff,reduceIte]
 exact⟨[],_,_,by simp,rfl,⟨_,rfl,(Rs.mk (Rp.mkInt lo0 hi0) (Rs.mk (Rp.mkInt lo1 hi1) (Rs.mk (Rp.mkInt lo2 hi2) (Rs.mk (Rp.mkInt lo3 hi3) (Rs.mk (Rp.mkInt lo4 hi4) Rs.nil)))))⟩,by simp[dM],by simp⟩
def Qd:AF:=⟨2,4,[.tmp 4],(.seq (.ops [.i (.mov 4 (qi 0))]) (.seq (.ops [qm 5 1,qm 6 0,qn 7 6,qd 8 .sub 5 7,qm 1 8]) (.seq (.seq (.ops [qm 9 1, .i (.bin 10 .lss (.s 9) (qi 0))]) (.cond (.s 10) (.seq (.ops [.i (.mov 4 (qi (-1)))]) .ret) .skip)) (.seq (.ops [qm 11 1,qm 4 11]) .ret))))⟩
theorem Qv:cd 41=some Qd:=by kernel_rfl
theorem Jz:Em cd 41 (.sl (.int .u8)):=Ko Qv
def c7:AF:=⟨2,4,[.tmp 4],(.seq (.ops [.i (.lbox 2 (.s 0)), .i (.mov 4 (qi 0))]) (.seq (.ops [qf 5 2 1,ql 6 2 5 1 false,qm 7 1, .i (.call 9 41 false [(.s 6),(.s 7)]),qm 1 8]) (.seq (.seq (.ops [qm 9 1, .i (.bin 10 .lss (.s 9) (qi 0))]) (.cond (.s 10) (.seq (.ops [.i (.mov 4 (qi (-1)))]) .ret) .skip)) (.seq (.ops [qm 11 1,qm 4 11]) .ret))))⟩
theorem k7:cd 7=some c7:=by kernel_rfl
theorem Kk:Em cd 7 TPush:=by
 intro h cs v S k hv hk
 obtain⟨vs,rfl,q0⟩:=hv.st
 obtain⟨v0,r0,S0,T0,rfl,rfl,h0,q1⟩:=q0.step
 obtain⟨n0,e0,rfl,rfl,lo0,hi0⟩:=h0.int
 obtain⟨v1,r1,S1,T1,rfl,rfl,h1,q2⟩:=q1.step
 obtain⟨c1,e1⟩:=h1.one rfl
 rw[e1]at h1
 obtain⟨_,rfl,rfl⟩:=q2
 have hsz:cs.length=2:=hv.size
 simp only[Ty.size,Ty.aT,Nat.reduceAdd,Nat.zero_add,List.drop_zero]at e0 e1 hsz
 have hw:wt (.r [.i n0,v1])=wt v1:=by simp only[wt,fB];omega
 rw[hw]
 refine bb k7 rfl ?_
 simp(disch:=omega) only[c7,e0,e1,hsz,bn,aS,SX,SU,SL,reduceCtorEq,Nat.reduceAdd,Nat.reduceLeDiff,reduceIte]
 refine Em.go Jz h1 (k:=k) (by omega) (fun hf0=> ?_) (fun hf0=> ?_)
 case refine_2=>
  simp(disch:=omega) only[ae,c7,e0,e1,hsz,bn,aS,SX,SU,SL,reduceCtorEq,Nat.reduceAdd,Nat.reduceLeDiff,reduceIte]
  refine bc (fun hn=> ?_) (fun hn=>absurd (show(-1:Int) < 0 by omega) hn)
  simp(disch:=omega) only[c7,e0,e1,hsz,bn,aS,SX,SU,SL,reduceCtorEq,Nat.reduceAdd,Nat.reduceLeDiff,reduceIte]
  rw[if_neg (by omega)]
 simp(disch:=omega) only[ae,c7,e0,e1,hsz,bn,aS,SX,SU,SL,reduceCtorEq,Nat.reduceAdd,Nat.reduceLeDiff,reduceIte]
 refine bc (fun hn=>absurd hn (by omega)) (fun hn=> ?_)
 simp(disch:=omega) only[c7,e0,e1,hsz,bn,aS,SX,SU,SL,reduceCtorEq,Nat.reduceAdd,Nat.reduceLeDiff,reduceIte]
 congr 3
 omega
def Qj:AF:=⟨1,5,[.tmp 2],(.seq (.ops [.i (.mov 2 (.c (.val false [.nils])))]) (.seq (.ops [qm 5 0,qn 6 5, .i (.mks 7 5 1 1 [.int .u8 0] (.s 6)),qm 3 7]) (.seq (.seq (.ops [.i (.mov 4 (qi 0))]) (.block 0 (.loop [20,19,18,17,16,15,14,13,12,11,10,9,8] (.seq (.seq (.ops [qm 8 4,qm 9 0,qn 10 9,qd 11 .lss 8 10]) (.cond (.s 11) .skip (.exit 0))) (.seq (.block 1 (.ops [qm 14 3,qm 15 4,qm 16 0,qm 17 4, .i (.iad 18 (.s 16) (.s 17) 1), .i (.ldh 19 (.s 18) 1 false), .i (.iad 20 (.s 14) (.s 15) 1), .i (.sth (.s 20) (.s 19) 1)])) (.ops [qm 12 4, .i (.bin 13 .add (.s 12) (qi 1)),qm 4 13])))))) (.seq (.ops [qm 21 3,qm 2 21]) .ret))))⟩
theorem Qm:cd 11=some Qj:=by kernel_rfl
theorem mj:JS cd 11 (.sl (.int .u8)):=Kd Qm (by omega)
def O8:AF:=⟨1,4,[.cell 2 2 true],(.seq (.ops [.i (.lbox 1 (.s 0)), .i (.lal 2 [.int .i64 0, .nils])]) (.seq (.ops [.i (.lal 3 [.int .i64 0, .nils])]) (.seq (.ops [qf 4 1 0,ql 5 1 4 1 false,qf 6 3 0,qs 3 6 5 1]) (.seq (.ops [qf 7 1 1,ql 8 1 7 1 false,qk 10 11 8,qf 10 3 1,qs 3 10 9 1]) (.seq (.ops [ql 11 3 3 2 true,qs 2 2 11 2]) .ret)))))⟩
theorem Qe:cd 10=some O8:=by kernel_rfl
theorem vZ:JS cd 10 TPush:=by
 intro h cs v S hv hw
 obtain⟨vs,rfl,q0⟩:=hv.st
 obtain⟨v0,r0,S0,T0,rfl,rfl,h0,q1⟩:=q0.step
 obtain⟨n0,e0,rfl,rfl,lo0,hi0⟩:=h0.int
 obtain⟨v1,r1,S1,T1,rfl,rfl,h1,q2⟩:=q1.step
 obtain⟨c1,e1⟩:=h1.one rfl
 rw[e1]at h1
 obtain⟨_,rfl,rfl⟩:=q2
 have hsz:cs.length=2:=hv.size
 simp only[Ty.size,Ty.aT,Nat.reduceAdd,Nat.zero_add,List.drop_zero]at e0 e1 hsz
 simp only[wt,fB]at hw
 refine bb Qe rfl ?_
 simp(disch:=omega) only[ae,O8,e0,e1,hsz,bn,aS,SX,SU,SL,reduceCtorEq,Nat.reduceAdd,Nat.reduceLeDiff,reduceIte]
 refine cj (mj h1 (by omega)) ?_
 rintro r0 g0 ⟨t0,d0,U0,rfl,rfl,z0,o0,l0⟩
 obtain⟨y0_0,rfl⟩:=z0.one rfl
 simp(disch:=omega) only[ae,O8,e0,e1,hsz,bn,aS,SX,SU,SL,reduceCtorEq,Nat.reduceAdd,Nat.reduceLeDiff,reduceIte]
 refine⟨t0,_,_,by simp only[List.append_assoc],rfl,⟨_,rfl,(Rs.mk (Rp.mkInt lo0 hi0) (Rs.mk z0 Rs.nil))⟩,?_⟩
 have fr:=(JV.step (JV.nil h) z0.lt o0 l0)
 simpa only[List.nil_append,List.append_nil,List.append_assoc]using fr.both
def PX:AF:=⟨2,5,[.tmp 4],(.seq (.ops [.i (.mov 4 (qb false))]) (.seq (.seq (.ops [qm 6 0,qn 7 6,qm 8 1,qn 9 8,qd 10 .neq 7 9]) (.cond (.s 10) (.seq (.ops [.i (.mov 4 (qb false))]) .ret) .skip)) (.seq (.seq (.ops [.i (.mov 5 (qi 0))]) (.block 0 (.loop [25,24,23,22,21,20,19,18,17,16,15,14,13,12,11] (.seq (.seq (.ops [qm 11 5,qm 12 0,qn 13 12,qd 14 .lss 11 13]) (.cond (.s 14) .skip (.exit 0))) (.seq (.block 1 (.seq (.ops [qm 17 0,qm 18 5, .i (.iad 19 (.s 17) (.s 18) 1), .i (.ldh 20 (.s 19) 1 false),qm 21 1,qm 22 5, .i (.iad 23 (.s 21) (.s 22) 1), .i (.ldh 24 (.s 23) 1 false),qd 25 .neq 20 24]) (.cond (.s 25) (.seq (.ops [.i (.mov 4 (qb false))]) .ret) .skip))) (.ops [qm 15 5, .i (.bin 16 .add (.s 15) (qi 1)),qm 5 16])))))) (.seq (.ops [.i (.mov 4 (qb true))]) .ret))))⟩
theorem P9:cd 15=some PX:=by kernel_rfl
theorem eF:cw cd 15 (.sl (.int .u8)):=Lv P9
def NO:AF:=⟨2,5,[.tmp 4],(.seq (.ops [.i (.lbox 2 (.s 0)), .i (.lbox 3 (.s 1)), .i (.mov 4 (qb false))]) (.seq (.seq (.ops [qf 5 2 0,ql 6 2 5 1 false,qf 7 3 0,ql 8 3 7 1 false,qd 9 .neq 6 8]) (.cond (.s 9) (.seq (.ops [.i (.mov 4 (qb false))]) .ret) .skip)) (.seq (.seq (.ops [qf 10 2 1,ql 11 2 10 1 false,qf 12 3 1,ql 13 3 12 1 false, .i (.call 15 15 false [(.s 11),(.s 13)]), .i (.not 15 (.s 14))]) (.cond (.s 15) (.seq (.ops [.i (.mov 4 (qb false))]) .ret) .skip)) (.seq (.ops [.i (.mov 4 (qb true))]) .ret))))⟩
theorem P4:cd 13=some NO:=by kernel_rfl
theorem vX:cw cd 13 TPush:=by
 intro h ca cb va vb Sa Sb ha hb
 obtain⟨avs,rfl,aq0⟩:=ha.st
 obtain⟨av0,ar0,aS0,aT0,rfl,rfl,ah0,aq1⟩:=aq0.step
 obtain⟨an0,ae0,rfl,rfl,alo0,ahi0⟩:=ah0.int
 obtain⟨av1,ar1,aS1,aT1,rfl,rfl,ah1,aq2⟩:=aq1.step
 obtain⟨ac1,ae1⟩:=ah1.one rfl
 rw[ae1]at ah1
 obtain⟨_,rfl,rfl⟩:=aq2
 have ahsz:ca.length=2:=ha.size
 obtain⟨bvs,rfl,bq0⟩:=hb.st
 obtain⟨bv0,br0,bS0,bT0,rfl,rfl,bh0,bq1⟩:=bq0.step
 obtain⟨bn0,be0,rfl,rfl,blo0,bhi0⟩:=bh0.int
 obtain⟨bv1,br1,bS1,bT1,rfl,rfl,bh1,bq2⟩:=bq1.step
 obtain⟨bc1,be1⟩:=bh1.one rfl
 rw[be1]at bh1
 obtain⟨_,rfl,rfl⟩:=bq2
 have bhsz:cb.length=2:=hb.size
 simp only[Ty.size,Ty.aT,Nat.reduceAdd,Nat.zero_add,List.drop_zero]at ae0 ae1 ahsz be0 be1 bhsz
 refine bb P4 rfl ?_
 simp(disch:=omega) only[ae,NO,ae0,ae1,ahsz,be0,be1,bhsz,bn,aS,SX,SU,SL,reduceCtorEq,Nat.reduceAdd,Nat.reduceLeDiff,reduceIte]
 refine bc (fun hn=> ?_) (fun hn=> ?_)
 case refine_1=>
  simp(disch:=omega) only[ae,NO,ae0,ae1,ahsz,be0,be1,bhsz,bn,aS,SX,SU,SL,reduceCtorEq,Nat.reduceAdd,Nat.reduceLeDiff,reduceIte]
  simp[hn]
 have d0:an0=bn0:=by omega
 subst d0
 simp(disch:=omega) only[ae,NO,ae0,ae1,ahsz,be0,be1,bhsz,bn,aS,SX,SU,SL,reduceCtorEq,Nat.reduceAdd,Nat.reduceLeDiff,reduceIte]
 refine cw.go eF ah1 bh1 (fun d1=> ?_) (fun d1=> ?_)
 case refine_2=>
  simp(disch:=omega) only[ae,NO,ae0,ae1,ahsz,be0,be1,bhsz,bn,aS,SX,SU,SL,reduceCtorEq,Nat.reduceAdd,Nat.reduceLeDiff,reduceIte]
  simp[d1]
 subst d1
 simp(disch:=omega) only[ae,NO,ae0,ae1,ahsz,be0,be1,bhsz,bn,aS,SX,SU,SL,reduceCtorEq,Nat.reduceAdd,Nat.reduceLeDiff,reduceIte]
def vS:AF:=⟨2,6,[.tmp 4],(.seq (.ops [.i (.lbox 2 (.s 0)), .i (.lbox 3 (.s 1)), .i (.mov 4 (qb false))]) (.seq (.seq (.ops [qf 5 2 0,ql 6 2 5 1 false,qf 7 3 0,ql 8 3 7 1 false,qd 9 .neq 6 8]) (.cond (.s 9) (.seq (.ops [.i (.mov 4 (qb false))]) .ret) .skip)) (.seq (.seq (.ops [qf 10 2 1,ql 11 2 10 1 false,qf 12 3 1,ql 13 3 12 1 false,qd 14 .neq 11 13]) (.cond (.s 14) (.seq (.ops [.i (.mov 4 (qb false))]) .ret) .skip)) (.seq (.seq (.ops [qf 15 2 2,ql 16 2 15 1 false,qf 17 3 2,ql 18 3 17 1 false, .i (.call 20 15 false [(.s 16),(.s 18)]), .i (.not 20 (.s 19))]) (.cond (.s 20) (.seq (.ops [.i (.mov 4 (qb false))]) .ret) .skip)) (.seq (.seq (.ops [qf 21 2 3,ql 22 2 21 1 false,qf 23 3 3,ql 24 3 23 1 false,qd 25 .neq 22 24]) (.cond (.s 25) (.seq (.ops [.i (.mov 4 (qb false))]) .ret) .skip)) (.seq (.seq (.ops [qf 26 2 4,ql 27 2 26 1 false,qf 28 3 4,ql 29 3 28 1 false, .i (.call 31 15 false [(.s 27),(.s 29)]), .i (.not 31 (.s 30))]) (.cond (.s 31) (.seq (.ops [.i (.mov 4 (qb false))]) .ret) .skip)) (.seq (.ops [.i (.mov 4 (qb true))]) .ret)))))))⟩
theorem Pa:cd 106=some vS:=by kernel_rfl
theorem KO:cw cd 106 uO:=by
 intro h ca cb va vb Sa Sb ha hb
 obtain⟨avs,rfl,aq0⟩:=ha.st
 obtain⟨av0,ar0,aS0,aT0,rfl,rfl,ah0,aq1⟩:=aq0.step
 obtain⟨an0,ae0,rfl,rfl,alo0,ahi0⟩:=ah0.int
 obtain⟨av1,ar1,aS1,aT1,rfl,rfl,ah1,aq2⟩:=aq1.step
 obtain⟨an1,ae1,rfl,rfl,alo1,ahi1⟩:=ah1.int
 obtain⟨av2,ar2,aS2,aT2,rfl,rfl,ah2,aq3⟩:=aq2.step
 obtain⟨ac2,ae2⟩:=ah2.one rfl
 rw[ae2]at ah2
 obtain⟨av3,ar3,aS3,aT3,rfl,rfl,ah3,aq4⟩:=aq3.step
 obtain⟨an3,ae3,rfl,rfl,alo3,ahi3⟩:=ah3.int
 obtain⟨av4,ar4,aS4,aT4,rfl,rfl,ah4,aq5⟩:=aq4.step
 obtain⟨ac4,ae4⟩:=ah4.one rfl
 rw[ae4]at ah4
 obtain⟨_,rfl,rfl⟩:=aq5
 have ahsz:ca.length=5:=ha.size
 obtain⟨bvs,rfl,bq0⟩:=hb.st
 obtain⟨bv0,br0,bS0,bT0,rfl,rfl,bh0,bq1⟩:=bq0.step
 obtain⟨bn0,be0,rfl,rfl,blo0,bhi0⟩:=bh0.int
 obtain⟨bv1,br1,bS1,bT1,rfl,rfl,bh1,bq2⟩:=bq1.step
 obtain⟨bn1,be1,rfl,rfl,blo1,bhi1⟩:=bh1.int
 obtain⟨bv2,br2,bS2,bT2,rfl,rfl,bh2,bq3⟩:=bq2.step
 obtain⟨bc2,be2⟩:=bh2.one rfl
 rw[be2]at bh2
 obtain⟨bv3,br3,bS3,bT3,rfl,rfl,bh3,bq4⟩:=bq3.step
 obtain⟨bn3,be3,rfl,rfl,blo3,bhi3⟩:=bh3.int
 obtain⟨bv4,br4,bS4,bT4,rfl,rfl,bh4,bq5⟩:=bq4.step
 obtain⟨bc4,be4⟩:=bh4.one rfl
 rw[be4]at bh4
 obtain⟨_,rfl,rfl⟩:=bq5
 have bhsz:cb.length=5:=hb.size
 simp only[Ty.size,Ty.aT,Nat.reduceAdd,Nat.zero_add,List.drop_zero]at ae0 ae1 ae2 ae3 ae4 ahsz be0 be1 be2 be3 be4 bhsz
 refine bb Pa rfl ?_
 simp(disch:=omega) only[ae,vS,ae0,ae1,ae2,ae3,ae4,ahsz,be0,be1,be2,be3,be4,bhsz,bn,aS,SX,SU,SL,reduceCtorEq,Nat.reduceAdd,Nat.reduceLeDiff,reduceIte]
 refine bc (fun hn=> ?_) (fun hn=> ?_)
 case refine_1=>
  simp(disch:=omega) only[ae,vS,ae0,ae1,ae2,ae3,ae4,ahsz,be0,be1,be2,be3,be4,bhsz,bn,aS,SX,SU,SL,reduceCtorEq,Nat.reduceAdd,Nat.reduceLeDiff,reduceIte]
  simp[hn]
 have d0:an0=bn0:=by omega
 subst d0
 simp(disch:=omega) only[ae,vS,ae0,ae1,ae2,ae3,ae4,ahsz,be0,be1,be2,be3,be4,bhsz,bn,aS,SX,SU,SL,reduceCtorEq,Nat.reduceAdd,Nat.reduceLeDiff,reduceIte]
 refine bc (fun hn=> ?_) (fun hn=> ?_)
 case refine_1=>
  simp(disch:=omega) only[ae,vS,ae0,ae1,ae2,ae3,ae4,ahsz,be0,be1,be2,be3,be4,bhsz,bn,aS,SX,SU,SL,reduceCtorEq,Nat.reduceAdd,Nat.reduceLeDiff,reduceIte]
  simp[hn]
 have d1:an1=bn1:=by omega
 subst d1
 simp(disch:=omega) only[ae,vS,ae0,ae1,ae2,ae3,ae4,ahsz,be0,be1,be2,be3,be4,bhsz,bn,aS,SX,SU,SL,reduceCtorEq,Nat.reduceAdd,Nat.reduceLeDiff,reduceIte]
 refine cw.go eF ah2 bh2 (fun d2=> ?_) (fun d2=> ?_)
 case refine_2=>
  simp(disch:=omega) only[ae,vS,ae0,ae1,ae2,ae3,ae4,ahsz,be0,be1,be2,be3,be4,bhsz,bn,aS,SX,SU,SL,reduceCtorEq,Nat.reduceAdd,Nat.reduceLeDiff,reduceIte]
  simp[d2]
 subst d2
 simp(disch:=omega) only[ae,vS,ae0,ae1,ae2,ae3,ae4,ahsz,be0,be1,be2,be3,be4,bhsz,bn,aS,SX,SU,SL,reduceCtorEq,Nat.reduceAdd,Nat.reduceLeDiff,reduceIte]
 refine bc (fun hn=> ?_) (fun hn=> ?_)
 case refine_1=>
  simp(disch:=omega) only[ae,vS,ae0,ae1,ae2,ae3,ae4,ahsz,be0,be1,be2,be3,be4,bhsz,bn,aS,SX,SU,SL,reduceCtorEq,Nat.reduceAdd,Nat.reduceLeDiff,reduceIte]
  simp[hn]
 have d3:an3=bn3:=by omega
 subst d3
 simp(disch:=omega) only[ae,vS,ae0,ae1,ae2,ae3,ae4,ahsz,be0,be1,be2,be3,be4,bhsz,bn,aS,SX,SU,SL,reduceCtorEq,Nat.reduceAdd,Nat.reduceLeDiff,reduceIte]
 refine cw.go eF ah4 bh4 (fun d4=> ?_) (fun d4=> ?_)
 case refine_2=>
  simp(disch:=omega) only[ae,vS,ae0,ae1,ae2,ae3,ae4,ahsz,be0,be1,be2,be3,be4,bhsz,bn,aS,SX,SU,SL,reduceCtorEq,Nat.reduceAdd,Nat.reduceLeDiff,reduceIte]
  simp[d4]
 subst d4
 simp(disch:=omega) only[ae,vS,ae0,ae1,ae2,ae3,ae4,ahsz,be0,be1,be2,be3,be4,bhsz,bn,aS,SX,SU,SL,reduceCtorEq,Nat.reduceAdd,Nat.reduceLeDiff,reduceIte]
def Qa:AF:=⟨2,5,[.tmp 4],(.seq (.ops [.i (.mov 4 (qb false))]) (.seq (.seq (.ops [qm 6 0,qn 7 6,qm 8 1,qn 9 8,qd 10 .neq 7 9]) (.cond (.s 10) (.seq (.ops [.i (.mov 4 (qb false))]) .ret) .skip)) (.seq (.seq (.ops [.i (.mov 5 (qi 0))]) (.block 0 (.loop [26,25,24,23,22,21,20,19,18,17,16,15,14,13,12,11] (.seq (.seq (.ops [qm 11 5,qm 12 0,qn 13 12,qd 14 .lss 11 13]) (.cond (.s 14) .skip (.exit 0))) (.seq (.block 1 (.seq (.ops [qm 17 0,qm 18 5, .i (.iad 19 (.s 17) (.s 18) 1), .i (.ldh 20 (.s 19) 1 false),qm 21 1,qm 22 5, .i (.iad 23 (.s 21) (.s 22) 1), .i (.ldh 24 (.s 23) 1 false), .i (.call 26 15 false [(.s 20),(.s 24)]), .i (.not 26 (.s 25))]) (.cond (.s 26) (.seq (.ops [.i (.mov 4 (qb false))]) .ret) .skip))) (.ops [qm 15 5, .i (.bin 16 .add (.s 15) (qi 1)),qm 5 16])))))) (.seq (.ops [.i (.mov 4 (qb true))]) .ret))))⟩
theorem P7:cd 32=some Qa:=by kernel_rfl
theorem uh:cw cd 32 (.sl (.sl (.int .u8))):=E8 P7 eF
def vB:AF:=⟨2,6,[.tmp 4],(.seq (.ops [.i (.lbox 2 (.s 0)), .i (.lbox 3 (.s 1)), .i (.mov 4 (qb false))]) (.seq (.seq (.ops [qf 5 2 0,ql 6 2 5 1 false,qf 7 3 0,ql 8 3 7 1 false,qd 9 .neq 6 8]) (.cond (.s 9) (.seq (.ops [.i (.mov 4 (qb false))]) .ret) .skip)) (.seq (.seq (.ops [qf 10 2 1,ql 11 2 10 1 false,qf 12 3 1,ql 13 3 12 1 false,qd 14 .neq 11 13]) (.cond (.s 14) (.seq (.ops [.i (.mov 4 (qb false))]) .ret) .skip)) (.seq (.seq (.ops [qf 15 2 2,ql 16 2 15 1 false,qf 17 3 2,ql 18 3 17 1 false, .i (.call 20 15 false [(.s 16),(.s 18)]), .i (.not 20 (.s 19))]) (.cond (.s 20) (.seq (.ops [.i (.mov 4 (qb false))]) .ret) .skip)) (.seq (.seq (.ops [qf 21 2 3,ql 22 2 21 1 false,qf 23 3 3,ql 24 3 23 1 false, .i (.call 26 15 false [(.s 22),(.s 24)]), .i (.not 26 (.s 25))]) (.cond (.s 26) (.seq (.ops [.i (.mov 4 (qb false))]) .ret) .skip)) (.seq (.seq (.ops [qf 27 2 4,ql 28 2 27 1 false,qf 29 3 4,ql 30 3 29 1 false, .i (.call 32 32 false [(.s 28),(.s 30)]), .i (.not 32 (.s 31))]) (.cond (.s 32) (.seq (.ops [.i (.mov 4 (qb false))]) .ret) .skip)) (.seq (.ops [.i (.mov 4 (qb true))]) .ret)))))))⟩
theorem Py:cd 107=some vB:=by kernel_rfl
theorem Hz:cw cd 107 yx:=by
 intro h ca cb va vb Sa Sb ha hb
 obtain⟨avs,rfl,aq0⟩:=ha.st
 obtain⟨av0,ar0,aS0,aT0,rfl,rfl,ah0,aq1⟩:=aq0.step
 obtain⟨an0,ae0,rfl,rfl,alo0,ahi0⟩:=ah0.int
 obtain⟨av1,ar1,aS1,aT1,rfl,rfl,ah1,aq2⟩:=aq1.step
 obtain⟨an1,ae1,rfl,rfl,alo1,ahi1⟩:=ah1.int
 obtain⟨av2,ar2,aS2,aT2,rfl,rfl,ah2,aq3⟩:=aq2.step
 obtain⟨ac2,ae2⟩:=ah2.one rfl
 rw[ae2]at ah2
 obtain⟨av3,ar3,aS3,aT3,rfl,rfl,ah3,aq4⟩:=aq3.step
 obtain⟨ac3,ae3⟩:=ah3.one rfl
 rw[ae3]at ah3
 obtain⟨av4,ar4,aS4,aT4,rfl,rfl,ah4,aq5⟩:=aq4.step
 obtain⟨ac4,ae4⟩:=ah4.one rfl
 rw[ae4]at ah4
 obtain⟨_,rfl,rfl⟩:=aq5
 have ahsz:ca.length=5:=ha.size
 obtain⟨bvs,rfl,bq0⟩:=hb.st
 obtain⟨bv0,br0,bS0,bT0,rfl,rfl,bh0,bq1⟩:=bq0.step
 obtain⟨bn0,be0,rfl,rfl,blo0,bhi0⟩:=bh0.int
 obtain⟨bv1,br1,bS1,bT1,rfl,rfl,bh1,bq2⟩:=bq1.step
 obtain⟨bn1,be1,rfl,rfl,blo1,bhi1⟩:=bh1.int
 obtain⟨bv2,br2,bS2,bT2,rfl,rfl,bh2,bq3⟩:=bq2.step
 obtain⟨bc2,be2⟩:=bh2.one rfl
 rw[be2]at bh2
 obtain⟨bv3,br3,bS3,bT3,rfl,rfl,bh3,bq4⟩:=bq3.step
 obtain⟨bc3,be3⟩:=bh3.one rfl
 rw[be3]at bh3
 obtain⟨bv4,br4,bS4,bT4,rfl,rfl,bh4,bq5⟩:=bq4.step
 obtain⟨bc4,be4⟩:=bh4.one rfl
 rw[be4]at bh4
 obtain⟨_,rfl,rfl⟩:=bq5
 have bhsz:cb.length=5:=hb.size
 simp only[Ty.size,Ty.aT,Nat.reduceAdd,Nat.zero_add,List.drop_zero]at ae0 ae1 ae2 ae3 ae4 ahsz be0 be1 be2 be3 be4 bhsz
 refine bb Py rfl ?_
 simp(disch:=omega) only[ae,vB,ae0,ae1,ae2,ae3,ae4,ahsz,be0,be1,be2,be3,be4,bhsz,bn,aS,SX,SU,SL,reduceCtorEq,Nat.reduceAdd,Nat.reduceLeDiff,reduceIte]
 refine bc (fun hn=> ?_) (fun hn=> ?_)
 case refine_1=>
  simp(disch:=omega) only[ae,vB,ae0,ae1,ae2,ae3,ae4,ahsz,be0,be1,be2,be3,be4,bhsz,bn,aS,SX,SU,SL,reduceCtorEq,Nat.reduceAdd,Nat.reduceLeDiff,reduceIte]
  simp[hn]
 have d0:an0=bn0:=by omega
 subst d0
 simp(disch:=omega) only[ae,vB,ae0,ae1,ae2,ae3,ae4,ahsz,be0,be1,be2,be3,be4,bhsz,bn,aS,SX,SU,SL,reduceCtorEq,Nat.reduceAdd,Nat.reduceLeDiff,reduceIte]
 refine bc (fun hn=> ?_) (fun hn=> ?_)
 case refine_1=>
  simp(disch:=omega) only[ae,vB,ae0,ae1,ae2,ae3,ae4,ahsz,be0,be1,be2,be3,be4,bhsz,bn,aS,SX,SU,SL,reduceCtorEq,Nat.reduceAdd,Nat.reduceLeDiff,reduceIte]
  simp[hn]
 have d1:an1=bn1:=by omega
 subst d1
 simp(disch:=omega) only[ae,vB,ae0,ae1,ae2,ae3,ae4,ahsz,be0,be1,be2,be3,be4,bhsz,bn,aS,SX,SU,SL,reduceCtorEq,Nat.reduceAdd,Nat.reduceLeDiff,reduceIte]
 refine cw.go eF ah2 bh2 (fun d2=> ?_) (fun d2=> ?_)
 case refine_2=>
  simp(disch:=omega) only[ae,vB,ae0,ae1,ae2,ae3,ae4,ahsz,be0,be1,be2,be3,be4,bhsz,bn,aS,SX,SU,SL,reduceCtorEq,Nat.reduceAdd,Nat.reduceLeDiff,reduceIte]
  simp[d2]
 subst d2
 simp(disch:=omega) only[ae,vB,ae0,ae1,ae2,ae3,ae4,ahsz,be0,be1,be2,be3,be4,bhsz,bn,aS,SX,SU,SL,reduceCtorEq,Nat.reduceAdd,Nat.reduceLeDiff,reduceIte]
 refine cw.go eF ah3 bh3 (fun d3=> ?_) (fun d3=> ?_)
 case refine_2=>
  simp(disch:=omega) only[ae,vB,ae0,ae1,ae2,ae3,ae4,ahsz,be0,be1,be2,be3,be4,bhsz,bn,aS,SX,SU,SL,reduceCtorEq,Nat.reduceAdd,Nat.reduceLeDiff,reduceIte]
  simp[d3]
 subst d3
 simp(disch:=omega) only[ae,vB,ae0,ae1,ae2,ae3,ae4,ahsz,be0,be1,be2,be3,be4,bhsz,bn,aS,SX,SU,SL,reduceCtorEq,Nat.reduceAdd,Nat.reduceLeDiff,reduceIte]
 refine cw.go uh ah4 bh4 (fun d4=> ?_) (fun d4=> ?_)
 case refine_2=>
  simp(disch:=omega) only[ae,vB,ae0,ae1,ae2,ae3,ae4,ahsz,be0,be1,be2,be3,be4,bhsz,bn,aS,SX,SU,SL,reduceCtorEq,Nat.reduceAdd,Nat.reduceLeDiff,reduceIte]
  simp[d4]
 subst d4
 simp(disch:=omega) only[ae,vB,ae0,ae1,ae2,ae3,ae4,ahsz,be0,be1,be2,be3,be4,bhsz,bn,aS,SX,SU,SL,reduceCtorEq,Nat.reduceAdd,Nat.reduceLeDiff,reduceIte]
def rA:AF:=⟨2,6,[.tmp 4],(.seq (.ops [.i (.lbox 2 (.s 0)), .i (.lbox 3 (.s 1)), .i (.mov 4 (qb false))]) (.seq (.seq (.ops [qf 5 2 0,ql 6 2 5 1 false,qf 7 3 0,ql 8 3 7 1 false,qd 9 .neq 6 8]) (.cond (.s 9) (.seq (.ops [.i (.mov 4 (qb false))]) .ret) .skip)) (.seq (.seq (.ops [qf 10 2 1,ql 11 2 10 1 false,qf 12 3 1,ql 13 3 12 1 false,qd 14 .neq 11 13]) (.cond (.s 14) (.seq (.ops [.i (.mov 4 (qb false))]) .ret) .skip)) (.seq (.seq (.ops [qf 15 2 2,ql 16 2 15 1 false,qf 17 3 2,ql 18 3 17 1 false,qd 19 .neq 16 18]) (.cond (.s 19) (.seq (.ops [.i (.mov 4 (qb false))]) .ret) .skip)) (.seq (.seq (.ops [qf 20 2 3,ql 21 2 20 1 false,qf 22 3 3,ql 23 3 22 1 false, .i (.call 25 15 false [(.s 21),(.s 23)]), .i (.not 25 (.s 24))]) (.cond (.s 25) (.seq (.ops [.i (.mov 4 (qb false))]) .ret) .skip)) (.seq (.seq (.ops [qf 26 2 4,ql 27 2 26 1 false,qf 28 3 4,ql 29 3 28 1 false, .i (.call 31 15 false [(.s 27),(.s 29)]), .i (.not 31 (.s 30))]) (.cond (.s 31) (.seq (.ops [.i (.mov 4 (qb false))]) .ret) .skip)) (.seq (.seq (.ops [qf 32 2 5,ql 33 2 32 5 true,qf 34 3 5,ql 35 3 34 5 true, .i (.call 37 107 false [(.s 33),(.s 35)]), .i (.not 37 (.s 36))]) (.cond (.s 37) (.seq (.ops [.i (.mov 4 (qb false))]) .ret) .skip)) (.seq (.ops [.i (.mov 4 (qb true))]) .ret))))))))⟩
theorem O5:cd 108=some rA:=by kernel_rfl
theorem Ay:cw cd 108 cZ:=by
 intro h ca cb va vb Sa Sb ha hb
 obtain⟨avs,rfl,aq0⟩:=ha.st
 obtain⟨av0,ar0,aS0,aT0,rfl,rfl,ah0,aq1⟩:=aq0.step
 obtain⟨an0,ae0,rfl,rfl,alo0,ahi0⟩:=ah0.int
 obtain⟨av1,ar1,aS1,aT1,rfl,rfl,ah1,aq2⟩:=aq1.step
 obtain⟨an1,ae1,rfl,rfl,alo1,ahi1⟩:=ah1.int
 obtain⟨av2,ar2,aS2,aT2,rfl,rfl,ah2,aq3⟩:=aq2.step
 obtain⟨an2,ae2,rfl,rfl,alo2,ahi2⟩:=ah2.int
 obtain⟨av3,ar3,aS3,aT3,rfl,rfl,ah3,aq4⟩:=aq3.step
 obtain⟨ac3,ae3⟩:=ah3.one rfl
 rw[ae3]at ah3
 obtain⟨av4,ar4,aS4,aT4,rfl,rfl,ah4,aq5⟩:=aq4.step
 obtain⟨ac4,ae4⟩:=ah4.one rfl
 rw[ae4]at ah4
 obtain⟨av5,ar5,aS5,aT5,rfl,rfl,ah5,aq6⟩:=aq5.step
 obtain⟨_,rfl,rfl⟩:=aq6
 have ahsz:ca.length=10:=ha.size
 obtain⟨bvs,rfl,bq0⟩:=hb.st
 obtain⟨bv0,br0,bS0,bT0,rfl,rfl,bh0,bq1⟩:=bq0.step
 obtain⟨bn0,be0,rfl,rfl,blo0,bhi0⟩:=bh0.int
 obtain⟨bv1,br1,bS1,bT1,rfl,rfl,bh1,bq2⟩:=bq1.step
 obtain⟨bn1,be1,rfl,rfl,blo1,bhi1⟩:=bh1.int
 obtain⟨bv2,br2,bS2,bT2,rfl,rfl,bh2,bq3⟩:=bq2.step
 obtain⟨bn2,be2,rfl,rfl,blo2,bhi2⟩:=bh2.int
 obtain⟨bv3,br3,bS3,bT3,rfl,rfl,bh3,bq4⟩:=bq3.step
 obtain⟨bc3,be3⟩:=bh3.one rfl
 rw[be3]at bh3
 obtain⟨bv4,br4,bS4,bT4,rfl,rfl,bh4,bq5⟩:=bq4.step
 obtain⟨bc4,be4⟩:=bh4.one rfl
 rw[be4]at bh4
 obtain⟨bv5,br5,bS5,bT5,rfl,rfl,bh5,bq6⟩:=bq5.step
 obtain⟨_,rfl,rfl⟩:=bq6
 have bhsz:cb.length=10:=hb.size
 simp only[Ty.size,Ty.aT,Nat.reduceAdd,Nat.zero_add,List.drop_zero]at ae0 ae1 ae2 ae3 ae4 ahsz be0 be1 be2 be3 be4 bhsz ah5 bh5
 refine bb O5 rfl ?_
 simp(disch:=omega) only[ae,rA,ae0,ae1,ae2,ae3,ae4,ahsz,be0,be1,be2,be3,be4,bhsz,bn,aS,SX,SU,SL,reduceCtorEq,Nat.reduceAdd,Nat.reduceLeDiff,reduceIte]
 refine bc (fun hn=> ?_) (fun hn=> ?_)
 case refine_1=>
  simp(disch:=omega) only[ae,rA,ae0,ae1,ae2,ae3,ae4,ahsz,be0,be1,be2,be3,be4,bhsz,bn,aS,SX,SU,SL,reduceCtorEq,Nat.reduceAdd,Nat.reduceLeDiff,reduceIte]
  simp[hn]
 have d0:an0=bn0:=by omega
 subst d0
 simp(disch:=omega) only[ae,rA,ae0,ae1,ae2,ae3,ae4,ahsz,be0,be1,be2,be3,be4,bhsz,bn,aS,SX,SU,SL,reduceCtorEq,Nat.reduceAdd,Nat.reduceLeDiff,reduceIte]
 refine bc (fun hn=> ?_) (fun hn=> ?_)
 case refine_1=>
  simp(disch:=omega) only[ae,rA,ae0,ae1,ae2,ae3,ae4,ahsz,be0,be1,be2,be3,be4,bhsz,bn,aS,SX,SU,SL,reduceCtorEq,Nat.reduceAdd,Nat.reduceLeDiff,reduceIte]
  simp[hn]
 have d1:an1=bn1:=by omega
 subst d1
 simp(disch:=omega) only[ae,rA,ae0,ae1,ae2,ae3,ae4,ahsz,be0,be1,be2,be3,be4,bhsz,bn,aS,SX,SU,SL,reduceCtorEq,Nat.reduceAdd,Nat.reduceLeDiff,reduceIte]
 refine bc (fun hn=> ?_) (fun hn=> ?_)
 case refine_1=>
  simp(disch:=omega) only[ae,rA,ae0,ae1,ae2,ae3,ae4,ahsz,be0,be1,be2,be3,be4,bhsz,bn,aS,SX,SU,SL,reduceCtorEq,Nat.reduceAdd,Nat.reduceLeDiff,reduceIte]
  simp[hn]
 have d2:an2=bn2:=by omega
 subst d2
 simp(disch:=omega) only[ae,rA,ae0,ae1,ae2,ae3,ae4,ahsz,be0,be1,be2,be3,be4,bhsz,bn,aS,SX,SU,SL,reduceCtorEq,Nat.reduceAdd,Nat.reduceLeDiff,reduceIte]
 refine cw.go eF ah3 bh3 (fun d3=> ?_) (fun d3=> ?_)
 case refine_2=>
  simp(disch:=omega) only[ae,rA,ae0,ae1,ae2,ae3,ae4,ahsz,be0,be1,be2,be3,be4,bhsz,bn,aS,SX,SU,SL,reduceCtorEq,Nat.reduceAdd,Nat.reduceLeDiff,reduceIte]
  simp[d3]
 subst d3
 simp(disch:=omega) only[ae,rA,ae0,ae1,ae2,ae3,ae4,ahsz,be0,be1,be2,be3,be4,bhsz,bn,aS,SX,SU,SL,reduceCtorEq,Nat.reduceAdd,Nat.reduceLeDiff,reduceIte]
 refine cw.go eF ah4 bh4 (fun d4=> ?_) (fun d4=> ?_)
 case refine_2=>
  simp(disch:=omega) only[ae,rA,ae0,ae1,ae2,ae3,ae4,ahsz,be0,be1,be2,be3,be4,bhsz,bn,aS,SX,SU,SL,reduceCtorEq,Nat.reduceAdd,Nat.reduceLeDiff,reduceIte]
  simp[d4]
 subst d4
 simp(disch:=omega) only[ae,rA,ae0,ae1,ae2,ae3,ae4,ahsz,be0,be1,be2,be3,be4,bhsz,bn,aS,SX,SU,SL,reduceCtorEq,Nat.reduceAdd,Nat.reduceLeDiff,reduceIte]
 refine cw.go Hz ah5 bh5 (fun d5=> ?_) (fun d5=> ?_)
 case refine_2=>
  simp(disch:=omega) only[ae,rA,ae0,ae1,ae2,ae3,ae4,ahsz,be0,be1,be2,be3,be4,bhsz,bn,aS,SX,SU,SL,reduceCtorEq,Nat.reduceAdd,Nat.reduceLeDiff,reduceIte]
  simp[d5]
 subst d5
 simp(disch:=omega) only[ae,rA,ae0,ae1,ae2,ae3,ae4,ahsz,be0,be1,be2,be3,be4,bhsz,bn,aS,SX,SU,SL,reduceCtorEq,Nat.reduceAdd,Nat.reduceLeDiff,reduceIte]
def GP:AF:=⟨2,5,[.tmp 4],(.seq (.ops [.i (.lbox 2 (.s 0)), .i (.lbox 3 (.s 1)), .i (.mov 4 (qb false))]) (.seq (.seq (.ops [qf 5 2 0,ql 6 2 5 10 true,qf 7 3 0,ql 8 3 7 10 true, .i (.call 10 108 false [(.s 6),(.s 8)]), .i (.not 10 (.s 9))]) (.cond (.s 10) (.seq (.ops [.i (.mov 4 (qb false))]) .ret) .skip)) (.seq (.seq (.ops [qf 11 2 10,ql 12 2 11 1 false,qf 13 3 10,ql 14 3 13 1 false, .i (.call 16 32 false [(.s 12),(.s 14)]), .i (.not 16 (.s 15))]) (.cond (.s 16) (.seq (.ops [.i (.mov 4 (qb false))]) .ret) .skip)) (.seq (.ops [.i (.mov 4 (qb true))]) .ret))))⟩
theorem Pj:cd 109=some GP:=by kernel_rfl
theorem IJ:cw cd 109 ik:=by
 intro h ca cb va vb Sa Sb ha hb
 obtain⟨avs,rfl,aq0⟩:=ha.st
 obtain⟨av0,ar0,aS0,aT0,rfl,rfl,ah0,aq1⟩:=aq0.step
 obtain⟨av1,ar1,aS1,aT1,rfl,rfl,ah1,aq2⟩:=aq1.step
 obtain⟨ac1,ae1⟩:=ah1.one rfl
 rw[ae1]at ah1
 obtain⟨_,rfl,rfl⟩:=aq2
 have ahsz:ca.length=11:=ha.size
 obtain⟨bvs,rfl,bq0⟩:=hb.st
 obtain⟨bv0,br0,bS0,bT0,rfl,rfl,bh0,bq1⟩:=bq0.step
 obtain⟨bv1,br1,bS1,bT1,rfl,rfl,bh1,bq2⟩:=bq1.step
 obtain⟨bc1,be1⟩:=bh1.one rfl
 rw[be1]at bh1
 obtain⟨_,rfl,rfl⟩:=bq2
 have bhsz:cb.length=11:=hb.size
 simp only[Ty.size,Ty.aT,Nat.reduceAdd,Nat.zero_add,List.drop_zero]at ae1 ahsz be1 bhsz ah0 bh0
 refine bb Pj rfl ?_
 simp(disch:=omega) only[ae,GP,ae1,ahsz,be1,bhsz,bn,aS,SX,SU,SL,reduceCtorEq,Nat.reduceAdd,Nat.reduceLeDiff,reduceIte]
 refine cw.go Ay ah0 bh0 (fun d0=> ?_) (fun d0=> ?_)
 case refine_2=>
  simp(disch:=omega) only[ae,GP,ae1,ahsz,be1,bhsz,bn,aS,SX,SU,SL,reduceCtorEq,Nat.reduceAdd,Nat.reduceLeDiff,reduceIte]
  simp[d0]
 subst d0
 simp(disch:=omega) only[ae,GP,ae1,ahsz,be1,bhsz,bn,aS,SX,SU,SL,reduceCtorEq,Nat.reduceAdd,Nat.reduceLeDiff,reduceIte]
 refine cw.go uh ah1 bh1 (fun d1=> ?_) (fun d1=> ?_)
 case refine_2=>
  simp(disch:=omega) only[ae,GP,ae1,ahsz,be1,bhsz,bn,aS,SX,SU,SL,reduceCtorEq,Nat.reduceAdd,Nat.reduceLeDiff,reduceIte]
  simp[d1]
 subst d1
 simp(disch:=omega) only[ae,GP,ae1,ahsz,be1,bhsz,bn,aS,SX,SU,SL,reduceCtorEq,Nat.reduceAdd,Nat.reduceLeDiff,reduceIte]
def CO:AF:=⟨2,5,[.tmp 4],(.seq (.ops [.i (.lbox 2 (.s 0)), .i (.lbox 3 (.s 1)), .i (.mov 4 (qb false))]) (.seq (.seq (.ops [qf 5 2 0,ql 6 2 5 1 false,qf 7 3 0,ql 8 3 7 1 false,qd 9 .neq 6 8]) (.cond (.s 9) (.seq (.ops [.i (.mov 4 (qb false))]) .ret) .skip)) (.seq (.seq (.ops [qf 10 2 1,ql 11 2 10 1 false,qf 12 3 1,ql 13 3 12 1 false,qd 14 .neq 11 13]) (.cond (.s 14) (.seq (.ops [.i (.mov 4 (qb false))]) .ret) .skip)) (.seq (.seq (.ops [qf 15 2 2,ql 16 2 15 1 false,qf 17 3 2,ql 18 3 17 1 false, .i (.call 20 15 false [(.s 16),(.s 18)]), .i (.not 20 (.s 19))]) (.cond (.s 20) (.seq (.ops [.i (.mov 4 (qb false))]) .ret) .skip)) (.seq (.ops [.i (.mov 4 (qb true))]) .ret)))))⟩
theorem PD:cd 249=some CO:=by kernel_rfl
theorem IU:cw cd 249 fk:=by
 intro h ca cb va vb Sa Sb ha hb
 obtain⟨avs,rfl,aq0⟩:=ha.st
 obtain⟨av0,ar0,aS0,aT0,rfl,rfl,ah0,aq1⟩:=aq0.step
 obtain⟨an0,ae0,rfl,rfl,alo0,ahi0⟩:=ah0.int
 obtain⟨av1,ar1,aS1,aT1,rfl,rfl,ah1,aq2⟩:=aq1.step
 obtain⟨an1,ae1,rfl,rfl,alo1,ahi1⟩:=ah1.int
 obtain⟨av2,ar2,aS2,aT2,rfl,rfl,ah2,aq3⟩:=aq2.step
 obtain⟨ac2,ae2⟩:=ah2.one rfl
 rw[ae2]at ah2
 obtain⟨_,rfl,rfl⟩:=aq3
 have ahsz:ca.length=3:=ha.size
 obtain⟨bvs,rfl,bq0⟩:=hb.st
 obtain⟨bv0,br0,bS0,bT0,rfl,rfl,bh0,bq1⟩:=bq0.step
 obtain⟨bn0,be0,rfl,rfl,blo0,bhi0⟩:=bh0.int
 obtain⟨bv1,br1,bS1,bT1,rfl,rfl,bh1,bq2⟩:=bq1.step
 obtain⟨bn1,be1,rfl,rfl,blo1,bhi1⟩:=bh1.int
 obtain⟨bv2,br2,bS2,bT2,rfl,rfl,bh2,bq3⟩:=bq2.step
 obtain⟨bc2,be2⟩:=bh2.one rfl
 rw[be2]at bh2
 obtain⟨_,rfl,rfl⟩:=bq3
 have bhsz:cb.length=3:=hb.size
 simp only[Ty.size,Ty.aT,Nat.reduceAdd,Nat.zero_add,List.drop_zero]at ae0 ae1 ae2 ahsz be0 be1 be2 bhsz
 refine bb PD rfl ?_
 simp(disch:=omega) only[ae,CO,ae0,ae1,ae2,ahsz,be0,be1,be2,bhsz,bn,aS,SX,SU,SL,reduceCtorEq,Nat.reduceAdd,Nat.reduceLeDiff,reduceIte]
 refine bc (fun hn=> ?_) (fun hn=> ?_)
 case refine_1=>
  simp(disch:=omega) only[ae,CO,ae0,ae1,ae2,ahsz,be0,be1,be2,bhsz,bn,aS,SX,SU,SL,reduceCtorEq,Nat.reduceAdd,Nat.reduceLeDiff,reduceIte]
  simp[hn]
 have d0:an0=bn0:=by omega
 subst d0
 simp(disch:=omega) only[ae,CO,ae0,ae1,ae2,ahsz,be0,be1,be2,bhsz,bn,aS,SX,SU,SL,reduceCtorEq,Nat.reduceAdd,Nat.reduceLeDiff,reduceIte]
 refine bc (fun hn=> ?_) (fun hn=> ?_)
 case refine_1=>
  simp(disch:=omega) only[ae,CO,ae0,ae1,ae2,ahsz,be0,be1,be2,bhsz,bn,aS,SX,SU,SL,reduceCtorEq,Nat.reduceAdd,Nat.reduceLeDiff,reduceIte]
  simp[hn]
 have d1:an1=bn1:=by omega
 subst d1
 simp(disch:=omega) only[ae,CO,ae0,ae1,ae2,ahsz,be0,be1,be2,bhsz,bn,aS,SX,SU,SL,reduceCtorEq,Nat.reduceAdd,Nat.reduceLeDiff,reduceIte]
 refine cw.go eF ah2 bh2 (fun d2=> ?_) (fun d2=> ?_)
 case refine_2=>
  simp(disch:=omega) only[ae,CO,ae0,ae1,ae2,ahsz,be0,be1,be2,bhsz,bn,aS,SX,SU,SL,reduceCtorEq,Nat.reduceAdd,Nat.reduceLeDiff,reduceIte]
  simp[d2]
 subst d2
 simp(disch:=omega) only[ae,CO,ae0,ae1,ae2,ahsz,be0,be1,be2,bhsz,bn,aS,SX,SU,SL,reduceCtorEq,Nat.reduceAdd,Nat.reduceLeDiff,reduceIte]
def PC:AF:=⟨2,5,[.tmp 4],(.seq (.ops [.i (.mov 4 (qb false))]) (.seq (.seq (.ops [qm 6 0,qn 7 6,qm 8 1,qn 9 8,qd 10 .neq 7 9]) (.cond (.s 10) (.seq (.ops [.i (.mov 4 (qb false))]) .ret) .skip)) (.seq (.seq (.ops [.i (.mov 5 (qi 0))]) (.block 0 (.loop [26,25,24,23,22,21,20,19,18,17,16,15,14,13,12,11] (.seq (.seq (.ops [qm 11 5,qm 12 0,qn 13 12,qd 14 .lss 11 13]) (.cond (.s 14) .skip (.exit 0))) (.seq (.block 1 (.seq (.ops [qm 17 0,qm 18 5, .i (.iad 19 (.s 17) (.s 18) 3), .i (.ldh 20 (.s 19) 3 true),qm 21 1,qm 22 5, .i (.iad 23 (.s 21) (.s 22) 3), .i (.ldh 24 (.s 23) 3 true), .i (.call 26 249 false [(.s 20),(.s 24)]), .i (.not 26 (.s 25))]) (.cond (.s 26) (.seq (.ops [.i (.mov 4 (qb false))]) .ret) .skip))) (.ops [qm 15 5, .i (.bin 16 .add (.s 15) (qi 1)),qm 5 16])))))) (.seq (.ops [.i (.mov 4 (qb true))]) .ret))))⟩
theorem Pg:cd 166=some PC:=by kernel_rfl
theorem GU:cw cd 166 (.sl fk):=E8 Pg IU
def Gv:AF:=⟨2,5,[.tmp 4],(.seq (.ops [.i (.lbox 2 (.s 0)), .i (.lbox 3 (.s 1)), .i (.mov 4 (qb false))]) (.seq (.seq (.ops [qf 5 2 0,ql 6 2 5 1 false,qf 7 3 0,ql 8 3 7 1 false,qd 9 .neq 6 8]) (.cond (.s 9) (.seq (.ops [.i (.mov 4 (qb false))]) .ret) .skip)) (.seq (.seq (.ops [qf 10 2 1,ql 11 2 10 1 false,qf 12 3 1,ql 13 3 12 1 false, .i (.call 15 166 false [(.s 11),(.s 13)]), .i (.not 15 (.s 14))]) (.cond (.s 15) (.seq (.ops [.i (.mov 4 (qb false))]) .ret) .skip)) (.seq (.ops [.i (.mov 4 (qb true))]) .ret))))⟩
theorem O1:cd 110=some Gv:=by kernel_rfl
theorem N5:cw cd 110 KW:=by
 intro h ca cb va vb Sa Sb ha hb
 obtain⟨avs,rfl,aq0⟩:=ha.st
 obtain⟨av0,ar0,aS0,aT0,rfl,rfl,ah0,aq1⟩:=aq0.step
 obtain⟨an0,ae0,rfl,rfl,alo0,ahi0⟩:=ah0.int
 obtain⟨av1,ar1,aS1,aT1,rfl,rfl,ah1,aq2⟩:=aq1.step
 obtain⟨ac1,ae1⟩:=ah1.one rfl
 rw[ae1]at ah1
 obtain⟨_,rfl,rfl⟩:=aq2
 have ahsz:ca.length=2:=ha.size
 obtain⟨bvs,rfl,bq0⟩:=hb.st
 obtain⟨bv0,br0,bS0,bT0,rfl,rfl,bh0,bq1⟩:=bq0.step
 obtain⟨bn0,be0,rfl,rfl,blo0,bhi0⟩:=bh0.int
 obtain⟨bv1,br1,bS1,bT1,rfl,rfl,bh1,bq2⟩:=bq1.step
 obtain⟨bc1,be1⟩:=bh1.one rfl
 rw[be1]at bh1
 obtain⟨_,rfl,rfl⟩:=bq2
 have bhsz:cb.length=2:=hb.size
 simp only[Ty.size,Ty.aT,Nat.reduceAdd,Nat.zero_add,List.drop_zero]at ae0 ae1 ahsz be0 be1 bhsz
 refine bb O1 rfl ?_
 simp(disch:=omega) only[ae,Gv,ae0,ae1,ahsz,be0,be1,bhsz,bn,aS,SX,SU,SL,reduceCtorEq,Nat.reduceAdd,Nat.reduceLeDiff,reduceIte]
 refine bc (fun hn=> ?_) (fun hn=> ?_)
 case refine_1=>
  simp(disch:=omega) only[ae,Gv,ae0,ae1,ahsz,be0,be1,bhsz,bn,aS,SX,SU,SL,reduceCtorEq,Nat.reduceAdd,Nat.reduceLeDiff,reduceIte]
  simp[hn]
 have d0:an0=bn0:=by omega
 subst d0
 simp(disch:=omega) only[ae,Gv,ae0,ae1,ahsz,be0,be1,bhsz,bn,aS,SX,SU,SL,reduceCtorEq,Nat.reduceAdd,Nat.reduceLeDiff,reduceIte]
 refine cw.go GU ah1 bh1 (fun d1=> ?_) (fun d1=> ?_)
 case refine_2=>
  simp(disch:=omega) only[ae,Gv,ae0,ae1,ahsz,be0,be1,bhsz,bn,aS,SX,SU,SL,reduceCtorEq,Nat.reduceAdd,Nat.reduceLeDiff,reduceIte]
  simp[d1]
 subst d1
 simp(disch:=omega) only[ae,Gv,ae0,ae1,ahsz,be0,be1,bhsz,bn,aS,SX,SU,SL,reduceCtorEq,Nat.reduceAdd,Nat.reduceLeDiff,reduceIte]
def O0:AF:=⟨2,5,[.tmp 4],(.seq (.ops [.i (.mov 4 (qb false))]) (.seq (.seq (.ops [qm 6 0,qn 7 6,qm 8 1,qn 9 8,qd 10 .neq 7 9]) (.cond (.s 10) (.seq (.ops [.i (.mov 4 (qb false))]) .ret) .skip)) (.seq (.seq (.ops [.i (.mov 5 (qi 0))]) (.block 0 (.loop [26,25,24,23,22,21,20,19,18,17,16,15,14,13,12,11] (.seq (.seq (.ops [qm 11 5,qm 12 0,qn 13 12,qd 14 .lss 11 13]) (.cond (.s 14) .skip (.exit 0))) (.seq (.block 1 (.seq (.ops [qm 17 0,qm 18 5, .i (.iad 19 (.s 17) (.s 18) 10), .i (.ldh 20 (.s 19) 10 true),qm 21 1,qm 22 5, .i (.iad 23 (.s 21) (.s 22) 10), .i (.ldh 24 (.s 23) 10 true), .i (.call 26 108 false [(.s 20),(.s 24)]), .i (.not 26 (.s 25))]) (.cond (.s 26) (.seq (.ops [.i (.mov 4 (qb false))]) .ret) .skip))) (.ops [qm 15 5, .i (.bin 16 .add (.s 15) (qi 1)),qm 5 16])))))) (.seq (.ops [.i (.mov 4 (qb true))]) .ret))))⟩
theorem O4:cd 167=some O0:=by kernel_rfl
theorem Hs:cw cd 167 (.sl cZ):=E8 O4 Ay
def GY:AF:=⟨2,5,[.tmp 4],(.seq (.ops [.i (.lbox 2 (.s 0)), .i (.lbox 3 (.s 1)), .i (.mov 4 (qb false))]) (.seq (.seq (.ops [qf 5 2 0,ql 6 2 5 1 false,qf 7 3 0,ql 8 3 7 1 false, .i (.call 10 167 false [(.s 6),(.s 8)]), .i (.not 10 (.s 9))]) (.cond (.s 10) (.seq (.ops [.i (.mov 4 (qb false))]) .ret) .skip)) (.seq (.seq (.ops [qf 11 2 1,ql 12 2 11 5 true,qf 13 3 1,ql 14 3 13 5 true, .i (.call 16 107 false [(.s 12),(.s 14)]), .i (.not 16 (.s 15))]) (.cond (.s 16) (.seq (.ops [.i (.mov 4 (qb false))]) .ret) .skip)) (.seq (.ops [.i (.mov 4 (qb true))]) .ret))))⟩
theorem Pz:cd 111=some GY:=by kernel_rfl
theorem H8:cw cd 111 fq:=by
 intro h ca cb va vb Sa Sb ha hb
 obtain⟨avs,rfl,aq0⟩:=ha.st
 obtain⟨av0,ar0,aS0,aT0,rfl,rfl,ah0,aq1⟩:=aq0.step
 obtain⟨ac0,ae0⟩:=ah0.one rfl
 rw[ae0]at ah0
 obtain⟨av1,ar1,aS1,aT1,rfl,rfl,ah1,aq2⟩:=aq1.step
 obtain⟨_,rfl,rfl⟩:=aq2
 have ahsz:ca.length=6:=ha.size
 obtain⟨bvs,rfl,bq0⟩:=hb.st
 obtain⟨bv0,br0,bS0,bT0,rfl,rfl,bh0,bq1⟩:=bq0.step
 obtain⟨bc0,be0⟩:=bh0.one rfl
 rw[be0]at bh0
 obtain⟨bv1,br1,bS1,bT1,rfl,rfl,bh1,bq2⟩:=bq1.step
 obtain⟨_,rfl,rfl⟩:=bq2
 have bhsz:cb.length=6:=hb.size
 simp only[Ty.size,Ty.aT,Nat.reduceAdd,Nat.zero_add,List.drop_zero]at ae0 ahsz be0 bhsz ah1 bh1
 refine bb Pz rfl ?_
 simp(disch:=omega) only[ae,GY,ae0,ahsz,be0,bhsz,bn,aS,SX,SU,SL,reduceCtorEq,Nat.reduceAdd,Nat.reduceLeDiff,reduceIte]
 refine cw.go Hs ah0 bh0 (fun d0=> ?_) (fun d0=> ?_)
 case refine_2=>
  simp(disch:=omega) only[ae,GY,ae0,ahsz,be0,bhsz,bn,aS,SX,SU,SL,reduceCtorEq,Nat.reduceAdd,Nat.reduceLeDiff,reduceIte]
  simp[d0]
 subst d0
 simp(disch:=omega) only[ae,GY,ae0,ahsz,be0,bhsz,bn,aS,SX,SU,SL,reduceCtorEq,Nat.reduceAdd,Nat.reduceLeDiff,reduceIte]
 refine cw.go Hz ah1 bh1 (fun d1=> ?_) (fun d1=> ?_)
 case refine_2=>
  simp(disch:=omega) only[ae,GY,ae0,ahsz,be0,bhsz,bn,aS,SX,SU,SL,reduceCtorEq,Nat.reduceAdd,Nat.reduceLeDiff,reduceIte]
  simp[d1]
 subst d1
 simp(disch:=omega) only[ae,GY,ae0,ahsz,be0,bhsz,bn,aS,SX,SU,SL,reduceCtorEq,Nat.reduceAdd,Nat.reduceLeDiff,reduceIte]
def vP:AF:=⟨2,6,[.tmp 4],(.seq (.ops [.i (.lbox 2 (.s 0)), .i (.lbox 3 (.s 1)), .i (.mov 4 (qb false))]) (.seq (.seq (.ops [qf 5 2 0,ql 6 2 5 1 false,qf 7 3 0,ql 8 3 7 1 false,qd 9 .neq 6 8]) (.cond (.s 9) (.seq (.ops [.i (.mov 4 (qb false))]) .ret) .skip)) (.seq (.seq (.ops [qf 10 2 1,ql 11 2 10 1 false,qf 12 3 1,ql 13 3 12 1 false,qd 14 .neq 11 13]) (.cond (.s 14) (.seq (.ops [.i (.mov 4 (qb false))]) .ret) .skip)) (.seq (.seq (.ops [qf 15 2 2,ql 16 2 15 1 false,qf 17 3 2,ql 18 3 17 1 false,qd 19 .neq 16 18]) (.cond (.s 19) (.seq (.ops [.i (.mov 4 (qb false))]) .ret) .skip)) (.seq (.seq (.ops [qf 20 2 3,ql 21 2 20 1 false,qf 22 3 3,ql 23 3 22 1 false, .i (.call 25 15 false [(.s 21),(.s 23)]), .i (.not 25 (.s 24))]) (.cond (.s 25) (.seq (.ops [.i (.mov 4 (qb false))]) .ret) .skip)) (.seq (.seq (.ops [qf 26 2 4,ql 27 2 26 1 false,qf 28 3 4,ql 29 3 28 1 false, .i (.call 31 32 false [(.s 27),(.s 29)]), .i (.not 31 (.s 30))]) (.cond (.s 31) (.seq (.ops [.i (.mov 4 (qb false))]) .ret) .skip)) (.seq (.ops [.i (.mov 4 (qb true))]) .ret)))))))⟩
theorem Pd:cd 112=some vP:=by kernel_rfl
theorem Kq:cw cd 112 uN:=by
 intro h ca cb va vb Sa Sb ha hb
 obtain⟨avs,rfl,aq0⟩:=ha.st
 obtain⟨av0,ar0,aS0,aT0,rfl,rfl,ah0,aq1⟩:=aq0.step
 obtain⟨an0,ae0,rfl,rfl,alo0,ahi0⟩:=ah0.int
 obtain⟨av1,ar1,aS1,aT1,rfl,rfl,ah1,aq2⟩:=aq1.step
 obtain⟨an1,ae1,rfl,rfl,alo1,ahi1⟩:=ah1.int
 obtain⟨av2,ar2,aS2,aT2,rfl,rfl,ah2,aq3⟩:=aq2.step
 obtain⟨an2,ae2,rfl,rfl,alo2,ahi2⟩:=ah2.int
 obtain⟨av3,ar3,aS3,aT3,rfl,rfl,ah3,aq4⟩:=aq3.step
 obtain⟨ac3,ae3⟩:=ah3.one rfl
 rw[ae3]at ah3
 obtain⟨av4,ar4,aS4,aT4,rfl,rfl,ah4,aq5⟩:=aq4.step
 obtain⟨ac4,ae4⟩:=ah4.one rfl
 rw[ae4]at ah4
 obtain⟨_,rfl,rfl⟩:=aq5
 have ahsz:ca.length=5:=ha.size
 obtain⟨bvs,rfl,bq0⟩:=hb.st
 obtain⟨bv0,br0,bS0,bT0,rfl,rfl,bh0,bq1⟩:=bq0.step
 obtain⟨bn0,be0,rfl,rfl,blo0,bhi0⟩:=bh0.int
 obtain⟨bv1,br1,bS1,bT1,rfl,rfl,bh1,bq2⟩:=bq1.step
 obtain⟨bn1,be1,rfl,rfl,blo1,bhi1⟩:=bh1.int
 obtain⟨bv2,br2,bS2,bT2,rfl,rfl,bh2,bq3⟩:=bq2.step
 obtain⟨bn2,be2,rfl,rfl,blo2,bhi2⟩:=bh2.int
 obtain⟨bv3,br3,bS3,bT3,rfl,rfl,bh3,bq4⟩:=bq3.step
 obtain⟨bc3,be3⟩:=bh3.one rfl
 rw[be3]at bh3
 obtain⟨bv4,br4,bS4,bT4,rfl,rfl,bh4,bq5⟩:=bq4.step
 obtain⟨bc4,be4⟩:=bh4.one rfl
 rw[be4]at bh4
 obtain⟨_,rfl,rfl⟩:=bq5
 have bhsz:cb.length=5:=hb.size
 simp only[Ty.size,Ty.aT,Nat.reduceAdd,Nat.zero_add,List.drop_zero]at ae0 ae1 ae2 ae3 ae4 ahsz be0 be1 be2 be3 be4 bhsz
 refine bb Pd rfl ?_
 simp(disch:=omega) only[ae,vP,ae0,ae1,ae2,ae3,ae4,ahsz,be0,be1,be2,be3,be4,bhsz,bn,aS,SX,SU,SL,reduceCtorEq,Nat.reduceAdd,Nat.reduceLeDiff,reduceIte]
 refine bc (fun hn=> ?_) (fun hn=> ?_)
 case refine_1=>
  simp(disch:=omega) only[ae,vP,ae0,ae1,ae2,ae3,ae4,ahsz,be0,be1,be2,be3,be4,bhsz,bn,aS,SX,SU,SL,reduceCtorEq,Nat.reduceAdd,Nat.reduceLeDiff,reduceIte]
  simp[hn]
 have d0:an0=bn0:=by omega
 subst d0
 simp(disch:=omega) only[ae,vP,ae0,ae1,ae2,ae3,ae4,ahsz,be0,be1,be2,be3,be4,bhsz,bn,aS,SX,SU,SL,reduceCtorEq,Nat.reduceAdd,Nat.reduceLeDiff,reduceIte]
 refine bc (fun hn=> ?_) (fun hn=> ?_)
 case refine_1=>
  simp(disch:=omega) only[ae,vP,ae0,ae1,ae2,ae3,ae4,ahsz,be0,be1,be2,be3,be4,bhsz,bn,aS,SX,SU,SL,reduceCtorEq,Nat.reduceAdd,Nat.reduceLeDiff,reduceIte]
  simp[hn]
 have d1:an1=bn1:=by omega
 subst d1
 simp(disch:=omega) only[ae,vP,ae0,ae1,ae2,ae3,ae4,ahsz,be0,be1,be2,be3,be4,bhsz,bn,aS,SX,SU,SL,reduceCtorEq,Nat.reduceAdd,Nat.reduceLeDiff,reduceIte]
 refine bc (fun hn=> ?_) (fun hn=> ?_)
 case refine_1=>
  simp(disch:=omega) only[ae,vP,ae0,ae1,ae2,ae3,ae4,ahsz,be0,be1,be2,be3,be4,bhsz,bn,aS,SX,SU,SL,reduceCtorEq,Nat.reduceAdd,Nat.reduceLeDiff,reduceIte]
  simp[hn]
 have d2:an2=bn2:=by omega
 subst d2
 simp(disch:=omega) only[ae,vP,ae0,ae1,ae2,ae3,ae4,ahsz,be0,be1,be2,be3,be4,bhsz,bn,aS,SX,SU,SL,reduceCtorEq,Nat.reduceAdd,Nat.reduceLeDiff,reduceIte]
 refine cw.go eF ah3 bh3 (fun d3=> ?_) (fun d3=> ?_)
 case refine_2=>
  simp(disch:=omega) only[ae,vP,ae0,ae1,ae2,ae3,ae4,ahsz,be0,be1,be2,be3,be4,bhsz,bn,aS,SX,SU,SL,reduceCtorEq,Nat.reduceAdd,Nat.reduceLeDiff,reduceIte]
  simp[d3]
 subst d3
 simp(disch:=omega) only[ae,vP,ae0,ae1,ae2,ae3,ae4,ahsz,be0,be1,be2,be3,be4,bhsz,bn,aS,SX,SU,SL,reduceCtorEq,Nat.reduceAdd,Nat.reduceLeDiff,reduceIte]
 refine cw.go uh ah4 bh4 (fun d4=> ?_) (fun d4=> ?_)
 case refine_2=>
  simp(disch:=omega) only[ae,vP,ae0,ae1,ae2,ae3,ae4,ahsz,be0,be1,be2,be3,be4,bhsz,bn,aS,SX,SU,SL,reduceCtorEq,Nat.reduceAdd,Nat.reduceLeDiff,reduceIte]
  simp[d4]
 subst d4
 simp(disch:=omega) only[ae,vP,ae0,ae1,ae2,ae3,ae4,ahsz,be0,be1,be2,be3,be4,bhsz,bn,aS,SX,SU,SL,reduceCtorEq,Nat.reduceAdd,Nat.reduceLeDiff,reduceIte]
def Ca:AF:=⟨2,6,[.tmp 4],(.seq (.ops [.i (.lbox 2 (.s 0)), .i (.lbox 3 (.s 1)), .i (.mov 4 (qb false))]) (.seq (.seq (.ops [qf 5 2 0,ql 6 2 5 1 false,qf 7 3 0,ql 8 3 7 1 false,qd 9 .neq 6 8]) (.cond (.s 9) (.seq (.ops [.i (.mov 4 (qb false))]) .ret) .skip)) (.seq (.seq (.ops [qf 10 2 1,ql 11 2 10 5 true,qf 12 3 1,ql 13 3 12 5 true, .i (.call 15 106 false [(.s 11),(.s 13)]), .i (.not 15 (.s 14))]) (.cond (.s 15) (.seq (.ops [.i (.mov 4 (qb false))]) .ret) .skip)) (.seq (.seq (.ops [qf 16 2 6,ql 17 2 16 5 true,qf 18 3 6,ql 19 3 18 5 true, .i (.call 21 107 false [(.s 17),(.s 19)]), .i (.not 21 (.s 20))]) (.cond (.s 21) (.seq (.ops [.i (.mov 4 (qb false))]) .ret) .skip)) (.seq (.seq (.ops [qf 22 2 11,ql 23 2 22 10 true,qf 24 3 11,ql 25 3 24 10 true, .i (.call 27 108 false [(.s 23),(.s 25)]), .i (.not 27 (.s 26))]) (.cond (.s 27) (.seq (.ops [.i (.mov 4 (qb false))]) .ret) .skip)) (.seq (.seq (.ops [qf 28 2 21,ql 29 2 28 11 true,qf 30 3 21,ql 31 3 30 11 true, .i (.call 33 109 false [(.s 29),(.s 31)]), .i (.not 33 (.s 32))]) (.cond (.s 33) (.seq (.ops [.i (.mov 4 (qb false))]) .ret) .skip)) (.seq (.seq (.ops [qf 34 2 32,ql 35 2 34 2 true,qf 36 3 32,ql 37 3 36 2 true, .i (.call 39 110 false [(.s 35),(.s 37)]), .i (.not 39 (.s 38))]) (.cond (.s 39) (.seq (.ops [.i (.mov 4 (qb false))]) .ret) .skip)) (.seq (.seq (.ops [qf 40 2 34,ql 41 2 40 6 true,qf 42 3 34,ql 43 3 42 6 true, .i (.call 45 111 false [(.s 41),(.s 43)]), .i (.not 45 (.s 44))]) (.cond (.s 45) (.seq (.ops [.i (.mov 4 (qb false))]) .ret) .skip)) (.seq (.seq (.ops [qf 46 2 40,ql 47 2 46 5 true,qf 48 3 40,ql 49 3 48 5 true, .i (.call 51 112 false [(.s 47),(.s 49)]), .i (.not 51 (.s 50))]) (.cond (.s 51) (.seq (.ops [.i (.mov 4 (qb false))]) .ret) .skip)) (.seq (.ops [.i (.mov 4 (qb true))]) .ret))))))))))⟩
theorem Qq:cd 61=some Ca:=by kernel_rfl
theorem Nb:cw cd 61 oR:=by
 intro h ca cb va vb Sa Sb ha hb
 obtain⟨avs,rfl,aq0⟩:=ha.st
 obtain⟨av0,ar0,aS0,aT0,rfl,rfl,ah0,aq1⟩:=aq0.step
 obtain⟨an0,ae0,rfl,rfl,alo0,ahi0⟩:=ah0.int
 obtain⟨av1,ar1,aS1,aT1,rfl,rfl,ah1,aq2⟩:=aq1.step
 obtain⟨av2,ar2,aS2,aT2,rfl,rfl,ah2,aq3⟩:=aq2.step
 obtain⟨av3,ar3,aS3,aT3,rfl,rfl,ah3,aq4⟩:=aq3.step
 obtain⟨av4,ar4,aS4,aT4,rfl,rfl,ah4,aq5⟩:=aq4.step
 obtain⟨av5,ar5,aS5,aT5,rfl,rfl,ah5,aq6⟩:=aq5.step
 obtain⟨av6,ar6,aS6,aT6,rfl,rfl,ah6,aq7⟩:=aq6.step
 obtain⟨av7,ar7,aS7,aT7,rfl,rfl,ah7,aq8⟩:=aq7.step
 obtain⟨_,rfl,rfl⟩:=aq8
 have ahsz:ca.length=45:=ha.size
 obtain⟨bvs,rfl,bq0⟩:=hb.st
 obtain⟨bv0,br0,bS0,bT0,rfl,rfl,bh0,bq1⟩:=bq0.step
 obtain⟨bn0,be0,rfl,rfl,blo0,bhi0⟩:=bh0.int
 obtain⟨bv1,br1,bS1,bT1,rfl,rfl,bh1,bq2⟩:=bq1.step
 obtain⟨bv2,br2,bS2,bT2,rfl,rfl,bh2,bq3⟩:=bq2.step
 obtain⟨bv3,br3,bS3,bT3,rfl,rfl,bh3,bq4⟩:=bq3.step
 obtain⟨bv4,br4,bS4,bT4,rfl,rfl,bh4,bq5⟩:=bq4.step
 obtain⟨bv5,br5,bS5,bT5,rfl,rfl,bh5,bq6⟩:=bq5.step
 obtain⟨bv6,br6,bS6,bT6,rfl,rfl,bh6,bq7⟩:=bq6.step
 obtain⟨bv7,br7,bS7,bT7,rfl,rfl,bh7,bq8⟩:=bq7.step
 obtain⟨_,rfl,rfl⟩:=bq8
 have bhsz:cb.length=45:=hb.size
 simp only[Ty.size,Ty.aT,Nat.reduceAdd,Nat.zero_add,List.drop_zero]at ae0 ahsz be0 bhsz ah1 ah2 ah3 ah4 ah5 ah6 ah7 bh1 bh2 bh3 bh4 bh5 bh6 bh7
 refine bb Qq rfl ?_
 simp(disch:=omega) only[ae,Ca,ae0,ahsz,be0,bhsz,bn,aS,SX,SU,SL,reduceCtorEq,Nat.reduceAdd,Nat.reduceLeDiff,reduceIte]
 refine bc (fun hn=> ?_) (fun hn=> ?_)
 case refine_1=>
  simp(disch:=omega) only[ae,Ca,ae0,ahsz,be0,bhsz,bn,aS,SX,SU,SL,reduceCtorEq,Nat.reduceAdd,Nat.reduceLeDiff,reduceIte]
  simp[hn]
 have d0:an0=bn0:=by omega
 subst d0
 simp(disch:=omega) only[ae,Ca,ae0,ahsz,be0,bhsz,bn,aS,SX,SU,SL,reduceCtorEq,Nat.reduceAdd,Nat.reduceLeDiff,reduceIte]
 refine cw.go KO ah1 bh1 (fun d1=> ?_) (fun d1=> ?_)
 case refine_2=>
  simp(disch:=omega) only[ae,Ca,ae0,ahsz,be0,bhsz,bn,aS,SX,SU,SL,reduceCtorEq,Nat.reduceAdd,Nat.reduceLeDiff,reduceIte]
  simp[d1]
 subst d1
 simp(disch:=omega) only[ae,Ca,ae0,ahsz,be0,bhsz,bn,aS,SX,SU,SL,reduceCtorEq,Nat.reduceAdd,Nat.reduceLeDiff,reduceIte]
 refine cw.go Hz ah2 bh2 (fun d2=> ?_) (fun d2=> ?_)
 case refine_2=>
  simp(disch:=omega) only[ae,Ca,ae0,ahsz,be0,bhsz,bn,aS,SX,SU,SL,reduceCtorEq,Nat.reduceAdd,Nat.reduceLeDiff,reduceIte]
  simp[d2]
 subst d2
 simp(disch:=omega) only[ae,Ca,ae0,ahsz,be0,bhsz,bn,aS,SX,SU,SL,reduceCtorEq,Nat.reduceAdd,Nat.reduceLeDiff,reduceIte]
 refine cw.go Ay ah3 bh3 (fun d3=> ?_) (fun d3=> ?_)
 case refine_2=>
  simp(disch:=omega) only[ae,Ca,ae0,ahsz,be0,bhsz,bn,aS,SX,SU,SL,reduceCtorEq,Nat.reduceAdd,Nat.reduceLeDiff,reduceIte]
  simp[d3]
 subst d3
 simp(disch:=omega) only[ae,Ca,ae0,ahsz,be0,bhsz,bn,aS,SX,SU,SL,reduceCtorEq,Nat.reduceAdd,Nat.reduceLeDiff,reduceIte]
 refine cw.go IJ ah4 bh4 (fun d4=> ?_) (fun d4=> ?_)
 case refine_2=>
  simp(disch:=omega) only[ae,Ca,ae0,ahsz,be0,bhsz,bn,aS,SX,SU,SL,reduceCtorEq,Nat.reduceAdd,Nat.reduceLeDiff,reduceIte]
  simp[d4]
 subst d4
 simp(disch:=omega) only[ae,Ca,ae0,ahsz,be0,bhsz,bn,aS,SX,SU,SL,reduceCtorEq,Nat.reduceAdd,Nat.reduceLeDiff,reduceIte]
 refine cw.go N5 ah5 bh5 (fun d5=> ?_) (fun d5=> ?_)
 case refine_2=>
  simp(disch:=omega) only[ae,Ca,ae0,ahsz,be0,bhsz,bn,aS,SX,SU,SL,reduceCtorEq,Nat.reduceAdd,Nat.reduceLeDiff,reduceIte]
  simp[d5]
 subst d5
 simp(disch:=omega) only[ae,Ca,ae0,ahsz,be0,bhsz,bn,aS,SX,SU,SL,reduceCtorEq,Nat.reduceAdd,Nat.reduceLeDiff,reduceIte]
 refine cw.go H8 ah6 bh6 (fun d6=> ?_) (fun d6=> ?_)
 case refine_2=>
  simp(disch:=omega) only[ae,Ca,ae0,ahsz,be0,bhsz,bn,aS,SX,SU,SL,reduceCtorEq,Nat.reduceAdd,Nat.reduceLeDiff,reduceIte]
  simp[d6]
 subst d6
 simp(disch:=omega) only[ae,Ca,ae0,ahsz,be0,bhsz,bn,aS,SX,SU,SL,reduceCtorEq,Nat.reduceAdd,Nat.reduceLeDiff,reduceIte]
 refine cw.go Kq ah7 bh7 (fun d7=> ?_) (fun d7=> ?_)
 case refine_2=>
  simp(disch:=omega) only[ae,Ca,ae0,ahsz,be0,bhsz,bn,aS,SX,SU,SL,reduceCtorEq,Nat.reduceAdd,Nat.reduceLeDiff,reduceIte]
  simp[d7]
 subst d7
 simp(disch:=omega) only[ae,Ca,ae0,ahsz,be0,bhsz,bn,aS,SX,SU,SL,reduceCtorEq,Nat.reduceAdd,Nat.reduceLeDiff,reduceIte]
def Md:AF:=⟨2,5,[.tmp 4],(.seq (.ops [.i (.lbox 2 (.s 0)), .i (.lbox 3 (.s 1)), .i (.mov 4 (qb false))]) (.seq (.seq (.ops [qf 5 2 0,ql 6 2 5 1 false,qf 7 3 0,ql 8 3 7 1 false,qd 9 .neq 6 8]) (.cond (.s 9) (.seq (.ops [.i (.mov 4 (qb false))]) .ret) .skip)) (.seq (.seq (.ops [qf 10 2 1,ql 11 2 10 1 false,qf 12 3 1,ql 13 3 12 1 false,qd 14 .neq 11 13]) (.cond (.s 14) (.seq (.ops [.i (.mov 4 (qb false))]) .ret) .skip)) (.seq (.seq (.ops [qf 15 2 2,ql 16 2 15 45 true,qf 17 3 2,ql 18 3 17 45 true, .i (.call 20 61 false [(.s 16),(.s 18)]), .i (.not 20 (.s 19))]) (.cond (.s 20) (.seq (.ops [.i (.mov 4 (qb false))]) .ret) .skip)) (.seq (.ops [.i (.mov 4 (qb true))]) .ret)))))⟩
theorem Qk:cd 49=some Md:=by kernel_rfl
theorem Ig:cw cd 49 fg:=by
 intro h ca cb va vb Sa Sb ha hb
 obtain⟨avs,rfl,aq0⟩:=ha.st
 obtain⟨av0,ar0,aS0,aT0,rfl,rfl,ah0,aq1⟩:=aq0.step
 obtain⟨an0,ae0,rfl,rfl,alo0,ahi0⟩:=ah0.int
 obtain⟨av1,ar1,aS1,aT1,rfl,rfl,ah1,aq2⟩:=aq1.step
 obtain⟨an1,ae1,rfl,rfl,alo1,ahi1⟩:=ah1.int
 obtain⟨av2,ar2,aS2,aT2,rfl,rfl,ah2,aq3⟩:=aq2.step
 obtain⟨_,rfl,rfl⟩:=aq3
 have ahsz:ca.length=47:=ha.size
 obtain⟨bvs,rfl,bq0⟩:=hb.st
 obtain⟨bv0,br0,bS0,bT0,rfl,rfl,bh0,bq1⟩:=bq0.step
 obtain⟨bn0,be0,rfl,rfl,blo0,bhi0⟩:=bh0.int
 obtain⟨bv1,br1,bS1,bT1,rfl,rfl,bh1,bq2⟩:=bq1.step
 obtain⟨bn1,be1,rfl,rfl,blo1,bhi1⟩:=bh1.int
 obtain⟨bv2,br2,bS2,bT2,rfl,rfl,bh2,bq3⟩:=bq2.step
 obtain⟨_,rfl,rfl⟩:=bq3
 have bhsz:cb.length=47:=hb.size
 simp only[Ty.size,Ty.aT,Nat.reduceAdd,Nat.zero_add,List.drop_zero]at ae0 ae1 ahsz be0 be1 bhsz ah2 bh2
 refine bb Qk rfl ?_
 simp(disch:=omega) only[ae,Md,ae0,ae1,ahsz,be0,be1,bhsz,bn,aS,SX,SU,SL,reduceCtorEq,Nat.reduceAdd,Nat.reduceLeDiff,reduceIte]
 refine bc (fun hn=> ?_) (fun hn=> ?_)
 case refine_1=>
  simp(disch:=omega) only[ae,Md,ae0,ae1,ahsz,be0,be1,bhsz,bn,aS,SX,SU,SL,reduceCtorEq,Nat.reduceAdd,Nat.reduceLeDiff,reduceIte]
  simp[hn]
 have d0:an0=bn0:=by omega
 subst d0
 simp(disch:=omega) only[ae,Md,ae0,ae1,ahsz,be0,be1,bhsz,bn,aS,SX,SU,SL,reduceCtorEq,Nat.reduceAdd,Nat.reduceLeDiff,reduceIte]
 refine bc (fun hn=> ?_) (fun hn=> ?_)
 case refine_1=>
  simp(disch:=omega) only[ae,Md,ae0,ae1,ahsz,be0,be1,bhsz,bn,aS,SX,SU,SL,reduceCtorEq,Nat.reduceAdd,Nat.reduceLeDiff,reduceIte]
  simp[hn]
 have d1:an1=bn1:=by omega
 subst d1
 simp(disch:=omega) only[ae,Md,ae0,ae1,ahsz,be0,be1,bhsz,bn,aS,SX,SU,SL,reduceCtorEq,Nat.reduceAdd,Nat.reduceLeDiff,reduceIte]
 refine cw.go Nb ah2 bh2 (fun d2=> ?_) (fun d2=> ?_)
 case refine_2=>
  simp(disch:=omega) only[ae,Md,ae0,ae1,ahsz,be0,be1,bhsz,bn,aS,SX,SU,SL,reduceCtorEq,Nat.reduceAdd,Nat.reduceLeDiff,reduceIte]
  simp[d2]
 subst d2
 simp(disch:=omega) only[ae,Md,ae0,ae1,ahsz,be0,be1,bhsz,bn,aS,SX,SU,SL,reduceCtorEq,Nat.reduceAdd,Nat.reduceLeDiff,reduceIte]
def Qh:AF:=⟨2,5,[.tmp 4],(.seq (.ops [.i (.mov 4 (qb false))]) (.seq (.seq (.ops [qm 6 0,qn 7 6,qm 8 1,qn 9 8,qd 10 .neq 7 9]) (.cond (.s 10) (.seq (.ops [.i (.mov 4 (qb false))]) .ret) .skip)) (.seq (.seq (.ops [.i (.mov 5 (qi 0))]) (.block 0 (.loop [26,25,24,23,22,21,20,19,18,17,16,15,14,13,12,11] (.seq (.seq (.ops [qm 11 5,qm 12 0,qn 13 12,qd 14 .lss 11 13]) (.cond (.s 14) .skip (.exit 0))) (.seq (.block 1 (.seq (.ops [qm 17 0,qm 18 5, .i (.iad 19 (.s 17) (.s 18) 47), .i (.ldh 20 (.s 19) 47 true),qm 21 1,qm 22 5, .i (.iad 23 (.s 21) (.s 22) 47), .i (.ldh 24 (.s 23) 47 true), .i (.call 26 49 false [(.s 20),(.s 24)]), .i (.not 26 (.s 25))]) (.cond (.s 26) (.seq (.ops [.i (.mov 4 (qb false))]) .ret) .skip))) (.ops [qm 15 5, .i (.bin 16 .add (.s 15) (qi 1)),qm 5 16])))))) (.seq (.ops [.i (.mov 4 (qb true))]) .ret))))⟩
theorem PZ:cd 14=some Qh:=by kernel_rfl
theorem uE:cw cd 14 (.sl fg):=E8 PZ Ig
def Qp:AF:=⟨2,5,[.tmp 4],(.seq (.ops [.i (.mov 4 (qi 0))]) (.seq (.seq (.ops [.i (.mov 5 (qi 0))]) (.block 0 (.loop [18,17,16,15,14,13,12,11,10,9,8,7,6] (.seq (.seq (.ops [qm 6 5,qm 7 0,qn 8 7,qd 9 .lss 6 8]) (.cond (.s 9) .skip (.exit 0))) (.seq (.block 1 (.seq (.ops [qm 12 0,qm 13 5,qm 14 1, .i (.cvi 15 .u8 (.s 14)), .i (.iad 16 (.s 12) (.s 13) 1), .i (.sth (.s 16) (.s 15) 1)]) (.ops [qm 17 1, .i (.bin 18 .add (.s 17) (qi 1)),qm 1 18]))) (.ops [qm 10 5, .i (.bin 11 .add (.s 10) (qi 1)),qm 5 11])))))) (.seq (.ops [qm 19 1,qm 4 19]) .ret)))⟩
theorem P1:cd 17=some Qp:=by kernel_rfl
theorem bB:kq cd 17 (.sl (.int .u8)):=KJ P1
def Pk:AF:=⟨2,4,[.tmp 4],(.seq (.ops [.i (.lbox 2 (.s 0)), .i (.mov 4 (qi 0))]) (.seq (.ops [qf 5 2 1,ql 6 2 5 1 false,qm 7 1, .i (.call 9 17 false [(.s 6),(.s 7)]),qm 1 8]) (.seq (.ops [qm 9 1,qm 4 9]) .ret)))⟩
theorem PY:cd 16=some Pk:=by kernel_rfl
theorem Fw:kq cd 16 TPush:=by
 intro h cs v S k hv ho hk
 obtain⟨vs,rfl,q0⟩:=hv.st
 obtain⟨v0,r0,S0,T0,rfl,rfl,h0,q1⟩:=q0.step
 obtain⟨n0,e0,rfl,rfl,lo0,hi0⟩:=h0.int
 obtain⟨v1,r1,S1,T1,rfl,rfl,h1,q2⟩:=q1.step
 obtain⟨c1,e1⟩:=h1.one rfl
 rw[e1]at h1
 obtain⟨_,rfl,rfl⟩:=q2
 have hsz:cs.length=2:=hv.size
 simp only[Ty.size,Ty.aT,Nat.reduceAdd,Nat.zero_add,List.drop_zero]at e0 e1 hsz
 have hcn:iJ TPush (.r [.i n0,v1])=(0+(iJ (.sl (.int .u8)) v1+0)):=rfl
 have hmk:xZ TPush (.r [.i n0,v1]) k= .r [.i n0,xZ (.sl (.int .u8)) v1 (k)]:=rfl
 rw[hmk]
 rw[hcn]at hk⊢
 simp only[List.nil_append,List.append_nil]at ho⊢
 have o1:=ho
 refine bb PY rfl ?_
 simp(disch:=omega) only[ae,Pk,e0,e1,hsz,bn,aS,SX,SU,SL,reduceCtorEq,Nat.reduceAdd,Nat.reduceLeDiff,reduceIte]
 refine kq.go bB h1 o1 (k:=k) (by omega) (fun g1 w1 z1=> ?_)
 simp(disch:=omega) only[ae,Pk,e0,e1,hsz,bn,aS,SX,SU,SL,reduceCtorEq,Nat.reduceAdd,Nat.reduceLeDiff,reduceIte]
 have fin:Rs g1 [(.int .i64),(.sl (.int .u8))] (cs.drop 0) [.i n0,xZ (.sl (.int .u8)) v1 (k)] _:=(Rs.JG (o:=0) (Rp.ML e0 lo0 hi0) (Rs.JG (o:=1) (Rp.OB e1 z1) (Rs.fin (Nat.le_of_eq hsz))))
 simp only[List.nil_append,List.append_nil,List.drop_zero]at fin
 have wr:=((eh.refl ho.2).more w1 (fun i hi=>by simp[hi]))
 first
  |exact⟨wr,_,rfl,fin⟩
  |(refine⟨?_,wr,_,rfl,fin⟩
    congr 3
    omega)
def Qg:AF:=⟨2,5,[.tmp 4],(.seq (.ops [.i (.mov 4 (qi 0))]) (.seq (.seq (.ops [.i (.mov 5 (qi 0))]) (.block 0 (.loop [20,19,18,17,16,15,14,13,12,11,10,9,8,7,6] (.seq (.seq (.ops [qm 6 5,qm 7 0,qn 8 7,qd 9 .lss 6 8]) (.cond (.s 9) .skip (.exit 0))) (.seq (.block 1 (.seq (.seq (.ops [qm 12 0,qm 13 5, .i (.iad 14 (.s 12) (.s 13) 1), .i (.ldh 15 (.s 14) 1 false),qm 16 1, .i (.cvi 17 .u8 (.s 16)),qd 18 .neq 15 17]) (.cond (.s 18) (.seq (.ops [.i (.mov 4 (qi (-1)))]) .ret) .skip)) (.ops [qm 19 1, .i (.bin 20 .add (.s 19) (qi 1)),qm 1 20]))) (.ops [qm 10 5, .i (.bin 11 .add (.s 10) (qi 1)),qm 5 11])))))) (.seq (.ops [qm 21 1,qm 4 21]) .ret)))⟩
theorem Qt:cd 27=some Qg:=by kernel_rfl
theorem bD:jY cd 27 (.sl (.int .u8)):=JQ Qt
def OT:AF:=⟨2,4,[.tmp 4],(.seq (.ops [.i (.lbox 2 (.s 0)), .i (.mov 4 (qi 0))]) (.seq (.ops [qf 5 2 1,ql 6 2 5 1 false,qm 7 1, .i (.call 9 27 false [(.s 6),(.s 7)]),qm 1 8]) (.seq (.seq (.ops [qm 9 1, .i (.bin 10 .lss (.s 9) (qi 0))]) (.cond (.s 10) (.seq (.ops [.i (.mov 4 (qi (-1)))]) .ret) .skip)) (.seq (.ops [qm 11 1,qm 4 11]) .ret))))⟩
theorem Qb:cd 19=some OT:=by kernel_rfl
theorem FD:jY cd 19 TPush:=by
 intro h cs v S k hT hv hk
 obtain⟨h0_,cs0,S0_,hT⟩:=hT
 obtain⟨wvs,rfl,wq0⟩:=hT.st
 obtain⟨wv0,wr0,wS0,wT0,rfl,rfl,wh0,wq1⟩:=wq0.step
 obtain⟨wn0,we0,rfl,rfl,wlo0,whi0⟩:=wh0.int
 obtain⟨wv1,wr1,wS1,wT1,rfl,rfl,wh1,wq2⟩:=wq1.step
 obtain⟨wc1,we1⟩:=wh1.one rfl
 rw[we1]at wh1
 obtain⟨_,rfl,rfl⟩:=wq2
 have whsz:cs0.length=2:=hT.size
 have hcn:iJ TPush (.r [.i wn0,wv1])=(0+(iJ (.sl (.int .u8)) wv1+0)):=rfl
 have hmk:xZ TPush (.r [.i wn0,wv1]) k= .r [.i wn0,xZ (.sl (.int .u8)) wv1 (k)]:=rfl
 rw[hmk]at hv
 rw[hcn]at hk⊢
 obtain⟨vs,hvs,q0⟩:=hv.st
 simp only[Tv.r.injEq]at hvs
 subst hvs
 obtain⟨v0,r0,S0,T0,hv0,hS0,h0,q1⟩:=q0.step
 obtain⟨rfl,rfl⟩:=List.cons.inj hv0
 obtain⟨n0,e0,_,_,_,_⟩:=h0.int
 obtain⟨v1,r1,S1,T1,hv1,hS1,h1,q2⟩:=q1.step
 obtain⟨rfl,rfl⟩:=List.cons.inj hv1
 obtain⟨c1,e1⟩:=h1.one rfl
 rw[e1]at h1
 have hsz:cs.length=2:=hv.size
 simp only[Ty.size,Ty.aT,Nat.reduceAdd,Nat.zero_add,List.drop_zero]at e0 e1 hsz
 refine bb Qb rfl ?_
 simp(disch:=omega) only[ae,OT,e0,e1,hsz,bn,aS,SX,SU,SL,reduceCtorEq,Nat.reduceAdd,Nat.reduceLeDiff,reduceIte]
 refine jY.go bD ⟨_,_,_,wh1⟩ h1 (k:=k) (by omega) ?_
 simp(disch:=omega) only[ae,OT,e0,e1,hsz,bn,aS,SX,SU,SL,reduceCtorEq,Nat.reduceAdd,Nat.reduceLeDiff,reduceIte]
 refine bc (fun hn=>absurd hn (by omega)) (fun hn=> ?_)
 simp(disch:=omega) only[ae,OT,e0,e1,hsz,bn,aS,SX,SU,SL,reduceCtorEq,Nat.reduceAdd,Nat.reduceLeDiff,reduceIte]
 all_goals congr 3
 all_goals omega
def Ql:AF:=⟨2,5,[.tmp 4],(.seq (.ops [.i (.mov 4 (qi 0))]) (.seq (.seq (.ops [.i (.mov 5 (qi 0))]) (.block 0 (.loop [17,16,15,14,13,12,11,10,9,8,7,6] (.seq (.seq (.ops [qm 6 5,qm 7 0,qn 8 7,qd 9 .lss 6 8]) (.cond (.s 9) .skip (.exit 0))) (.seq (.block 1 (.ops [qm 12 0,qm 13 5, .i (.iad 14 (.s 12) (.s 13) 1), .i (.ldh 15 (.s 14) 1 false),qm 16 1, .i (.call 18 17 false [(.s 15),(.s 16)]),qm 1 17])) (.ops [qm 10 5, .i (.bin 11 .add (.s 10) (qi 1)),qm 5 11])))))) (.seq (.ops [qm 18 1,qm 4 18]) .ret)))⟩
theorem Qs:cd 33=some Ql:=by kernel_rfl
theorem gd:kq cd 33 (.sl (.sl (.int .u8))):=Oo Qs bB
def C8:Ty→Nat
 | .sl (.int _)=>17
 |_=>0
abbrev mC:List Ty:= [(.int .i64),(.int .i64),(.sl (.int .u8))]
theorem Qn:cd 50=some (OY 6 (Ty.aT mC) (lS C8 mC 0 [])):=by kernel_rfl
theorem G2:kq cd 50 (.sl fk):=Hw (ts:=mC) Qn (And.intro rfl (And.intro rfl (And.intro bB True.intro)))
def ES:Ty→Nat
 | .sl (.int _)=>17
 | .sl (.sl _)=>33
 |_=>0
abbrev rq:List Ty:= [(.int .i64),(.int .i64),(.int .i64),(.sl (.int .u8)),(.sl (.int .u8)),yx]
theorem P3:cd 51=some (OY 7 (Ty.aT rq) (lS ES rq 0 [])):=by kernel_rfl
theorem H7:kq cd 51 (.sl cZ):=Hw (ts:=rq) P3 (And.intro rfl (And.intro rfl (And.intro rfl (And.intro bB (And.intro bB (And.intro (And.intro rfl (And.intro rfl (And.intro bB (And.intro bB (And.intro gd True.intro))))) True.intro))))))
def DK:Ty→Nat
 | .sl (.int _)=>17
 | .sl (.sl _)=>33
 | .sl (.st [_,_,_])=>50
 | .sl (.st [_,_,_,_,_,_])=>51
 |_=>0
abbrev mq:List Ty:= [(.int .i64),(.int .i64),oR]
theorem Qi:cd 18=some (OY 9 (Ty.aT mq) (lS DK mq 0 [])):=by kernel_rfl
theorem G0:kq cd 18 (.sl fg):=Hw (ts:=mq) Qi (And.intro rfl (And.intro rfl (And.intro (And.intro rfl (And.intro (And.intro rfl (And.intro rfl (And.intro bB (And.intro rfl (And.intro bB True.intro))))) (And.intro (And.intro rfl (And.intro rfl (And.intro bB (And.intro bB (And.intro gd True.intro))))) (And.intro (And.intro rfl (And.intro rfl (And.intro rfl (And.intro bB (And.intro bB (And.intro (And.intro rfl (And.intro rfl (And.intro bB (And.intro bB (And.intro gd True.intro))))) True.intro)))))) (And.intro (And.intro (And.intro rfl (And.intro rfl (And.intro rfl (And.intro bB (And.intro bB (And.intro (And.intro rfl (And.intro rfl (And.intro bB (And.intro bB (And.intro gd True.intro))))) True.intro)))))) (And.intro gd True.intro)) (And.intro (And.intro rfl (And.intro G2 True.intro)) (And.intro (And.intro H7 (And.intro (And.intro rfl (And.intro rfl (And.intro bB (And.intro bB (And.intro gd True.intro))))) True.intro)) (And.intro (And.intro rfl (And.intro rfl (And.intro rfl (And.intro bB (And.intro gd True.intro))))) True.intro)))))))) True.intro)))
def P0:AF:=⟨2,5,[.tmp 4],(.seq (.ops [.i (.mov 4 (qi 0))]) (.seq (.seq (.ops [.i (.mov 5 (qi 0))]) (.block 0 (.loop [19,18,17,16,15,14,13,12,11,10,9,8,7,6] (.seq (.seq (.ops [qm 6 5,qm 7 0,qn 8 7,qd 9 .lss 6 8]) (.cond (.s 9) .skip (.exit 0))) (.seq (.block 1 (.seq (.ops [qm 12 0,qm 13 5, .i (.iad 14 (.s 12) (.s 13) 1), .i (.ldh 15 (.s 14) 1 false),qm 16 1, .i (.call 18 27 false [(.s 15),(.s 16)]),qm 1 17]) (.seq (.ops [qm 18 1, .i (.bin 19 .lss (.s 18) (qi 0))]) (.cond (.s 19) (.seq (.ops [.i (.mov 4 (qi (-1)))]) .ret) .skip)))) (.ops [qm 10 5, .i (.bin 11 .add (.s 10) (qi 1)),qm 5 11])))))) (.seq (.ops [qm 20 1,qm 4 20]) .ret)))⟩
theorem Qu:cd 52=some P0:=by kernel_rfl
theorem gk:jY cd 52 (.sl (.sl (.int .u8))):=N2 Qu bD
def Dp:Ty→Nat
 | .sl (.int _)=>27
 |_=>0
abbrev nE:List Ty:= [(.int .i64),(.int .i64),(.sl (.int .u8))]
theorem Qo:cd 53=some (OZ 6 (Ty.aT nE) (lS Dp nE 0 [])):=by kernel_rfl
theorem Gi:jY cd 53 (.sl fk):=HN (ts:=nE) Qo (And.intro rfl (And.intro rfl (And.intro bD True.intro)))
def EI:Ty→Nat
 | .sl (.int _)=>27
 | .sl (.sl _)=>52
 |_=>0
abbrev qT:List Ty:= [(.int .i64),(.int .i64),(.int .i64),(.sl (.int .u8)),(.sl (.int .u8)),yx]
theorem P8:cd 54=some (OZ 7 (Ty.aT qT) (lS EI qT 0 [])):=by kernel_rfl
theorem Hy:jY cd 54 (.sl cZ):=HN (ts:=qT) P8 (And.intro rfl (And.intro rfl (And.intro rfl (And.intro bD (And.intro bD (And.intro (And.intro rfl (And.intro rfl (And.intro bD (And.intro bD (And.intro gk True.intro))))) True.intro))))))
def Di:Ty→Nat
 | .sl (.int _)=>27
 | .sl (.sl _)=>52
 | .sl (.st [_,_,_])=>53
 | .sl (.st [_,_,_,_,_,_])=>54
 |_=>0
abbrev nA:List Ty:= [(.int .i64),(.int .i64),oR]
theorem Qr:cd 20=some (OZ 10 (Ty.aT nA) (lS Di nA 0 [])):=by kernel_rfl
theorem zV:jY cd 20 (.sl fg):=HN (ts:=nA) Qr (And.intro rfl (And.intro rfl (And.intro (And.intro rfl (And.intro (And.intro rfl (And.intro rfl (And.intro bD (And.intro rfl (And.intro bD True.intro))))) (And.intro (And.intro rfl (And.intro rfl (And.intro bD (And.intro bD (And.intro gk True.intro))))) (And.intro (And.intro rfl (And.intro rfl (And.intro rfl (And.intro bD (And.intro bD (And.intro (And.intro rfl (And.intro rfl (And.intro bD (And.intro bD (And.intro gk True.intro))))) True.intro)))))) (And.intro (And.intro (And.intro rfl (And.intro rfl (And.intro rfl (And.intro bD (And.intro bD (And.intro (And.intro rfl (And.intro rfl (And.intro bD (And.intro bD (And.intro gk True.intro))))) True.intro)))))) (And.intro gk True.intro)) (And.intro (And.intro rfl (And.intro Gi True.intro)) (And.intro (And.intro Hy (And.intro (And.intro rfl (And.intro rfl (And.intro bD (And.intro bD (And.intro gk True.intro))))) True.intro)) (And.intro (And.intro rfl (And.intro rfl (And.intro rfl (And.intro bD (And.intro gk True.intro))))) True.intro)))))))) True.intro)))
end Go.Eng.U
namespace Go.Eng.U
open Go.Eng.F (ao cf feed)
def c3:AF:=⟨3,8,[.tmp 6],(.seq (.ops [.i (.lbox 3 (.s 0)), .i (.lbox 4 (.s 1)), .i (.mov 6 (qb false))]) (.seq (.seq (.ops [qm 19 2,qn 20 19, .i (.bin 21 .gtr (.s 20) (qi 1048576))]) (.cond (.s 21) (.seq (.ops [.i (.mov 6 (qb true))]) .ret) .skip)) (.seq (.ops [.i (.mov 7 (qi 1048576))]) (.seq (.ops [ql 22 4 4 2 true,qm 23 7, .i (.call 25 7 false [(.s 22),(.s 23)]),qm 7 24]) (.seq (.seq (.ops [qm 25 7, .i (.bin 26 .lss (.s 25) (qi 0))]) (.cond (.s 26) (.seq (.ops [.i (.mov 6 (qb true))]) .ret) .skip)) (.seq (.ops [ql 28 3 3 5 true,qk 30 9 28,ql 30 4 4 2 true,qk 32 10 30,qm 32 2,qk 34 11 32, .i (.call 35 8 false [(.s 29),(.s 31),(.s 33)]),qm 27 34, .i (.ext 35 (.s 27) 0), .i (.ext 36 (.s 27) 1), .i (.lal 8 [.int .i64 0, .nils]),qs 8 8 35 2,qm 9 36]) (.seq (.ops [ql 37 4 4 2 true,qk 39 10 37, .i (.lal 10 [.int .i64 0, .nils]),qs 10 10 38 2]) (.seq (.ops [qm 39 2,qk 41 11 39,qm 11 40]) (.seq (.ops [ql 42 3 3 5 true,qk 44 9 42,ql 44 10 10 2 true,qm 45 11, .i (.call 47 12 false [(.s 43),(.s 44),(.s 45)]),qm 41 46, .i (.ext 47 (.s 41) 0), .i (.ext 48 (.s 41) 1), .i (.lal 12 [.int .i64 0, .nils]),qs 12 12 47 2,qm 13 48]) (.seq (.seq (.ops [ql 49 12 12 2 true,ql 50 8 8 2 true, .i (.call 52 13 false [(.s 49),(.s 50)]), .i (.not 52 (.s 51)),qm 53 52, .g 53 false 55 (.mov 54 (.s 13)), .g 53 false 56 (.mov 55 (.s 9)), .g 53 false 57 (.call 57 14 false [(.s 54),(.s 55)]), .g 53 false 58 (.not 57 (.s 56)), .i (.pick 58 (.s 53) (qb true) (.s 57))]) (.cond (.s 58) (.seq (.ops [.i (.mov 6 (qb false))]) .ret) .skip)) (.seq (.seq (.ops [ql 59 10 10 2 true,ql 60 4 4 2 true,qk 62 10 60, .i (.call 63 13 false [(.s 59),(.s 61)]), .i (.not 63 (.s 62))]) (.cond (.s 63) (.seq (.ops [.i (.mov 6 (qb false))]) .ret) .skip)) (.seq (.seq (.ops [qm 64 11,qm 65 2,qk 67 11 65, .i (.call 68 15 false [(.s 64),(.s 66)]), .i (.not 68 (.s 67))]) (.cond (.s 68) (.seq (.ops [.i (.mov 6 (qb false))]) .ret) .skip)) (.seq (.ops [.i (.mov 14 (qi 1))]) (.seq (.ops [ql 69 10 10 2 true,qm 70 14, .i (.call 72 16 false [(.s 69),(.s 70)]),qm 14 71]) (.seq (.ops [qm 72 11,qm 73 14, .i (.call 75 17 false [(.s 72),(.s 73)]),qm 14 74]) (.seq (.seq (.ops [qm 75 14, .i (.bin 76 .lss (.s 75) (qi 0)),qm 77 76, .g 77 false 79 (.ldl 78 12 (.s 12) 2 true), .g 77 false 80 (.ldl 79 8 (.s 8) 2 true), .g 77 false 81 (.call 81 13 false [(.s 78),(.s 79)]), .g 77 false 82 (.not 81 (.s 80)), .i (.pick 82 (.s 77) (qb true) (.s 81)),qm 83 82, .g 83 false 85 (.mov 84 (.s 13)), .g 83 false 86 (.mov 85 (.s 9)), .g 83 false 87 (.call 87 14 false [(.s 84),(.s 85)]), .g 83 false 88 (.not 87 (.s 86)), .i (.pick 88 (.s 83) (qb true) (.s 87))]) (.cond (.s 88) (.seq (.ops [.i (.mov 6 (qb false))]) .ret) .skip)) (.seq (.ops [.i (.mov 15 (qi 1))]) (.seq (.ops [ql 89 12 12 2 true,qm 90 15, .i (.call 92 16 false [(.s 89),(.s 90)]),qm 15 91]) (.seq (.ops [qm 92 13,qm 93 15, .i (.call 95 18 false [(.s 92),(.s 93)]),qm 15 94]) (.seq (.ops [.i (.mov 16 (qi 1))]) (.seq (.ops [ql 95 12 12 2 true,qm 96 16, .i (.call 98 19 false [(.s 95),(.s 96)]),qm 16 97]) (.seq (.seq (.ops [qm 98 16, .i (.bin 99 .lss (.s 98) (qi 0))]) (.cond (.s 99) (.seq (.ops [.i (.mov 6 (qb false))]) .ret) .skip)) (.seq (.ops [qm 100 13,qm 101 16, .i (.call 103 20 false [(.s 100),(.s 101)]),qm 16 102]) (.seq (.seq (.ops [qm 103 16, .i (.bin 104 .lss (.s 103) (qi 0))]) (.cond (.s 104) (.seq (.ops [.i (.mov 6 (qb false))]) .ret) .skip)) (.seq (.seq (.ops [qm 105 16,qm 106 15,qd 107 .neq 105 106]) (.cond (.s 107) (.seq (.ops [.i (.mov 6 (qb false))]) .ret) .skip)) (.seq (.ops [ql 109 3 3 5 true,qk 111 9 109,ql 111 4 4 2 true,qk 113 10 111,qm 113 2,qk 115 11 113, .i (.call 116 12 false [(.s 110),(.s 112),(.s 114)]),qm 108 115, .i (.ext 116 (.s 108) 0), .i (.ext 117 (.s 108) 1), .i (.lal 17 [.int .i64 0, .nils]),qs 17 17 116 2,qm 18 117]) (.seq (.seq (.ops [ql 118 17 17 2 true,ql 119 8 8 2 true, .i (.call 121 13 false [(.s 118),(.s 119)]), .i (.not 121 (.s 120)),qm 122 121, .g 122 false 124 (.mov 123 (.s 18)), .g 122 false 125 (.mov 124 (.s 9)), .g 122 false 126 (.call 126 14 false [(.s 123),(.s 124)]), .g 122 false 127 (.not 126 (.s 125)), .i (.pick 127 (.s 122) (qb true) (.s 126))]) (.cond (.s 127) (.seq (.ops [.i (.mov 6 (qb false))]) .ret) .skip)) (.seq (.ops [.i (.mov 16 (qi 1))]) (.seq (.ops [ql 128 12 12 2 true,qm 129 16, .i (.call 131 19 false [(.s 128),(.s 129)]),qm 16 130]) (.seq (.seq (.ops [qm 131 16, .i (.bin 132 .lss (.s 131) (qi 0))]) (.cond (.s 132) (.seq (.ops [.i (.mov 6 (qb false))]) .ret) .skip)) (.seq (.ops [qm 133 13,qm 134 16, .i (.call 136 20 false [(.s 133),(.s 134)]),qm 16 135]) (.seq (.seq (.ops [qm 136 16, .i (.bin 137 .lss (.s 136) (qi 0))]) (.cond (.s 137) (.seq (.ops [.i (.mov 6 (qb false))]) .ret) .skip)) (.seq (.seq (.ops [qm 138 16,qm 139 15,qd 140 .neq 138 139]) (.cond (.s 140) (.seq (.ops [.i (.mov 6 (qb false))]) .ret) .skip)) (.seq (.ops [.i (.mov 6 (qb true))]) .ret))))))))))))))))))))))))))))))))))⟩
theorem k3:cd 3=some c3:=by kernel_rfl
theorem ku {h:H} {kk:IntKind} {c:C} {v:Tv} {S:List Nat} (hv:Rp h (.sl (.int kk)) [c] v S):vf c=some (wt v):=by
 obtain⟨c2,xs,id,off,bs,S',e,rfl,hm,hl,hat,hce,hbs,hel,hS⟩:=hv.view
 injection e with e
 subst e
 rw[hl]
 simp[wt,(rI hel).1]
theorem law_Feed:∀h vs,Bm h [TLimits,TPush,(.sl (.int .u8))] vs→WC cd 3 vs h (fun r _=>r= .val false [.bool true]):=by
 intro h vs ha
 obtain⟨cs0,v0,S0,r0,rfl,hv0,ha0⟩:=ha
 obtain⟨cs1,v1,S1,r1,rfl,hv1,ha1⟩:=ha0
 obtain⟨cs2,v2,S2,r2,rfl,hv2,ha2⟩:=ha1
 have hr0:r2= []:=ha2
 subst hr0
 have hsz0:cs0.length=5:=hv0.size
 have hall0:cs0.take 5=cs0:=List.take_of_length_le (by omega)
 have hsz1:cs1.length=2:=hv1.size
 have hall1:cs1.take 2=cs1:=List.take_of_length_le (by omega)
 obtain⟨cc2,rfl⟩:=hv2.one rfl
 obtain⟨l,rfl⟩:=ao.ex hv0.ok
 obtain⟨p,rfl⟩:=cf.ex hv1.ok
 obtain⟨b,rfl⟩:=gU hv2.ok
 have hl0:wt l.tv=0:=by simp[ao.tv,wt,fB]
 have hc1:iJ TPush p.tv≤2 * (1+wt p.tv):=Nat.le_trans (ym _ _) (tw _ _)
 have hc2:iJ (.sl (.int .u8)) (lO b)≤1 * (1+wt (lO b)):=Nat.le_trans (ym _ _) (tw _ _)
 have hr0:iJ TPush (feed l p b).1.tv≤2 * (1+wt (feed l p b).1.tv):=Nat.le_trans (ym _ _) (tw _ _)
 have hw0:=F.Iv l p b
 have hr1:iJ (.sl fg) (F.u7 (feed l p b).2)≤58 * (1+wt (F.u7 (feed l p b).2)):=Nat.le_trans (ym _ _) (tw _ _)
 have hw1:=F.HB l p b
 refine bb k3 rfl ?_
 simp(disch:=omega) only[ae,c3,hsz0,hall0,hsz1,hall1,bn,aS,cV,beq_self_eq_true,bne_self_eq_false,List.getElem?_cons_zero,List.getElem?_cons_succ,Bool.or_false,Bool.false_or,Bool.or_self,SX,SU,SL,reduceCtorEq,Nat.reduceAdd,Nat.reduceLeDiff,reduceIte]
 have hln2:vf cc2=some (wt (lO b)):=ku hv2
 simp(disch:=omega) only[ae,c3,hsz0,hall0,hsz1,hall1,hln2,bn,aS,cV,beq_self_eq_true,bne_self_eq_false,List.getElem?_cons_zero,List.getElem?_cons_succ,Bool.or_false,Bool.false_or,Bool.or_self,SX,SU,SL,reduceCtorEq,Nat.reduceAdd,Nat.reduceLeDiff,reduceIte]
 refine bc (fun hbn2=> ?_) (fun hbn2=> ?_)
 ·simp(disch:=omega) only[ae,c3,hsz0,hall0,hsz1,hall1,hln2,bn,aS,cV,beq_self_eq_true,bne_self_eq_false,List.getElem?_cons_zero,List.getElem?_cons_succ,Bool.or_false,Bool.false_or,Bool.or_self,SX,SU,SL,reduceCtorEq,Nat.reduceAdd,Nat.reduceLeDiff,reduceIte]
 simp(disch:=omega) only[ae,c3,hsz0,hall0,hsz1,hall1,hln2,bn,aS,cV,beq_self_eq_true,bne_self_eq_false,List.getElem?_cons_zero,List.getElem?_cons_succ,Bool.or_false,Bool.false_or,Bool.or_self,SX,SU,SL,reduceCtorEq,Nat.reduceAdd,Nat.reduceLeDiff,reduceIte]
 refine Em.go Kk hv1 (k:=1048576) (by omega) (fun hf1=> ?_) (fun hf1=> ?_)
 case refine_2=>
  simp(disch:=omega) only[ae,c3,hsz0,hall0,hsz1,hall1,hln2,bn,aS,cV,beq_self_eq_true,bne_self_eq_false,List.getElem?_cons_zero,List.getElem?_cons_succ,Bool.or_false,Bool.false_or,Bool.or_self,SX,SU,SL,reduceCtorEq,Nat.reduceAdd,Nat.reduceLeDiff,reduceIte]
  refine bc (fun hn=> ?_) (fun hn=>absurd (show(-1:Int) < 0 by omega) hn)
  simp(disch:=omega) only[ae,c3,hsz0,hall0,hsz1,hall1,hln2,bn,aS,cV,beq_self_eq_true,bne_self_eq_false,List.getElem?_cons_zero,List.getElem?_cons_succ,Bool.or_false,Bool.false_or,Bool.or_self,SX,SU,SL,reduceCtorEq,Nat.reduceAdd,Nat.reduceLeDiff,reduceIte]
 simp(disch:=omega) only[ae,c3,hsz0,hall0,hsz1,hall1,hln2,bn,aS,cV,beq_self_eq_true,bne_self_eq_false,List.getElem?_cons_zero,List.getElem?_cons_succ,Bool.or_false,Bool.false_or,Bool.or_self,SX,SU,SL,reduceCtorEq,Nat.reduceAdd,Nat.reduceLeDiff,reduceIte]
 refine bc (fun hn=>absurd hn (by omega)) (fun hn=> ?_)
 simp(disch:=omega) only[ae,c3,hsz0,hall0,hsz1,hall1,hln2,bn,aS,cV,beq_self_eq_true,bne_self_eq_false,List.getElem?_cons_zero,List.getElem?_cons_succ,Bool.or_false,Bool.false_or,Bool.or_self,SX,SU,SL,reduceCtorEq,Nat.reduceAdd,Nat.reduceLeDiff,reduceIte]
 refine cj (tD hv0 (by omega)) ?_
 rintro r0 g0 ⟨t0,d0,U0,hg0,rfl,z0,o0,l0⟩
 have n0:=df hg0
 have b0:=z0.lt
 have hd0:d0.length=5:=z0.size
 have ht0:d0.take 5=d0:=List.take_of_length_le (by omega)
 simp(disch:=omega) only[ae,c3,hsz0,hall0,hsz1,hall1,hln2,hd0,ht0,bn,aS,cV,beq_self_eq_true,bne_self_eq_false,List.getElem?_cons_zero,List.getElem?_cons_succ,Bool.or_false,Bool.false_or,Bool.or_self,SX,SU,SL,reduceCtorEq,Nat.reduceAdd,Nat.reduceLeDiff,reduceIte]
 refine cj (vZ (Rp.an hg0 hv1) (by omega)) ?_
 rintro r1 g1 ⟨t1,d1,U1,hg1,rfl,z1,o1,l1⟩
 have n1:=df hg1
 have b1:=z1.lt
 have hd1:d1.length=2:=z1.size
 have ht1:d1.take 2=d1:=List.take_of_length_le (by omega)
 have hs1_0:aQ [.int .i64 0, .nils] 0 d1=d1:=iH (by rw[hd1];rfl)
 simp(disch:=omega) only[ae,c3,hsz0,hall0,hsz1,hall1,hln2,hd0,ht0,hd1,ht1,hs1_0,bn,aS,cV,beq_self_eq_true,bne_self_eq_false,List.getElem?_cons_zero,List.getElem?_cons_succ,Bool.or_false,Bool.false_or,Bool.or_self,SX,SU,SL,reduceCtorEq,Nat.reduceAdd,Nat.reduceLeDiff,reduceIte]
 refine cj (mj (Rp.an hg1 (Rp.an hg0 hv2)) (by omega)) ?_
 rintro r2 g2 ⟨t2,d2,U2,hg2,rfl,z2,o2,l2⟩
 have n2:=df hg2
 have b2:=z2.lt
 obtain⟨e2,rfl⟩:=z2.one rfl
 simp(disch:=omega) only[ae,c3,hsz0,hall0,hsz1,hall1,hln2,hd0,ht0,hd1,ht1,hs1_0,bn,aS,cV,beq_self_eq_true,bne_self_eq_false,List.getElem?_cons_zero,List.getElem?_cons_succ,Bool.or_false,Bool.false_or,Bool.or_self,SX,SU,SL,reduceCtorEq,Nat.reduceAdd,Nat.reduceLeDiff,reduceIte]
 refine cj (F.AX ⟨_,_,rfl,⟨_,(Rp.an hg2 (Rp.an hg1 z0))⟩,⟨_,_,rfl,⟨_,(Rp.an hg2 z1)⟩,⟨_,_,rfl,⟨_,z2⟩,rfl⟩⟩⟩ (by omega) (by omega)) ?_
 rintro r3 g3 ⟨t3,css3,U3,hg3,rfl,zz3,o3,l3⟩
 have n3:=df hg3
 obtain⟨d3_0,cr3_0,U3_0,V3_0,rfl,rfl,z3_0,zz3_0⟩:=zz3
 obtain⟨d3_1,cr3_1,U3_1,V3_1,rfl,rfl,z3_1,zz3_1⟩:=zz3_0
 obtain⟨rfl,rfl⟩:=zz3_1
 simp only[List.nil_append,List.append_nil]at o3 l3
 obtain⟨o3_0,ox3_0,x3_0,xx3_0⟩:=o3.split
 have b3_0:=z3_0.lt
 have l3_0:∀i∈U3_0,_:=fun i hi=>l3 i (by simp[hi])
 have o3_1:=ox3_0
 have b3_1:=z3_1.lt
 have l3_1:∀i∈U3_1,_:=fun i hi=>l3 i (by simp[hi])
 have hd3_0:d3_0.length=2:=z3_0.size
 have ht3_0:d3_0.take 2=d3_0:=List.take_of_length_le (by omega)
 have hs3_0_0:aQ [.int .i64 0, .nils] 0 d3_0=d3_0:=iH (by rw[hd3_0];rfl)
 obtain⟨e3_1,rfl⟩:=z3_1.one rfl
 simp(disch:=omega) only[ae,c3,hsz0,hall0,hsz1,hall1,hln2,hd0,ht0,hd1,ht1,hs1_0,hd3_0,ht3_0,hs3_0_0,bn,aS,cV,beq_self_eq_true,bne_self_eq_false,List.getElem?_cons_zero,List.getElem?_cons_succ,Bool.or_false,Bool.false_or,Bool.or_self,SX,SU,SL,reduceCtorEq,Nat.reduceAdd,Nat.reduceLeDiff,reduceIte]
 refine cj (vZ (Rp.an hg3 (Rp.an hg2 (Rp.an hg1 (Rp.an hg0 hv1)))) (by omega)) ?_
 rintro r4 g4 ⟨t4,d4,U4,hg4,rfl,z4,o4,l4⟩
 have n4:=df hg4
 have b4:=z4.lt
 have hd4:d4.length=2:=z4.size
 have ht4:d4.take 2=d4:=List.take_of_length_le (by omega)
 have hs4_0:aQ [.int .i64 0, .nils] 0 d4=d4:=iH (by rw[hd4];rfl)
 simp(disch:=omega) only[ae,c3,hsz0,hall0,hsz1,hall1,hln2,hd0,ht0,hd1,ht1,hs1_0,hd3_0,ht3_0,hs3_0_0,hd4,ht4,hs4_0,bn,aS,cV,beq_self_eq_true,bne_self_eq_false,List.getElem?_cons_zero,List.getElem?_cons_succ,Bool.or_false,Bool.false_or,Bool.or_self,SX,SU,SL,reduceCtorEq,Nat.reduceAdd,Nat.reduceLeDiff,reduceIte]
 refine cj (mj (Rp.an hg4 (Rp.an hg3 (Rp.an hg2 (Rp.an hg1 (Rp.an hg0 hv2))))) (by omega)) ?_
 rintro r5 g5 ⟨t5,d5,U5,hg5,rfl,z5,o5,l5⟩
 have n5:=df hg5
 have b5:=z5.lt
 obtain⟨e5,rfl⟩:=z5.one rfl
 simp(disch:=omega) only[ae,c3,hsz0,hall0,hsz1,hall1,hln2,hd0,ht0,hd1,ht1,hs1_0,hd3_0,ht3_0,hs3_0_0,hd4,ht4,hs4_0,bn,aS,cV,beq_self_eq_true,bne_self_eq_false,List.getElem?_cons_zero,List.getElem?_cons_succ,Bool.or_false,Bool.false_or,Bool.or_self,SX,SU,SL,reduceCtorEq,Nat.reduceAdd,Nat.reduceLeDiff,reduceIte]
 refine cj (tD (Rp.an hg5 (Rp.an hg4 (Rp.an hg3 (Rp.an hg2 (Rp.an hg1 (Rp.an hg0 hv0)))))) (by omega)) ?_
 rintro r6 g6 ⟨t6,d6,U6,hg6,rfl,z6,o6,l6⟩
 have n6:=df hg6
 have b6:=z6.lt
 have hd6:d6.length=5:=z6.size
 have ht6:d6.take 5=d6:=List.take_of_length_le (by omega)
 simp(disch:=omega) only[ae,c3,hsz0,hall0,hsz1,hall1,hln2,hd0,ht0,hd1,ht1,hs1_0,hd3_0,ht3_0,hs3_0_0,hd4,ht4,hs4_0,hd6,ht6,bn,aS,cV,beq_self_eq_true,bne_self_eq_false,List.getElem?_cons_zero,List.getElem?_cons_succ,Bool.or_false,Bool.false_or,Bool.or_self,SX,SU,SL,reduceCtorEq,Nat.reduceAdd,Nat.reduceLeDiff,reduceIte]
 refine cj (F.rB ⟨_,_,rfl,⟨_,z6⟩,⟨_,_,rfl,⟨_,(Rp.an hg6 (Rp.an hg5 z4))⟩,⟨_,_,rfl,⟨_,(Rp.an hg6 z5)⟩,rfl⟩⟩⟩ (by omega) (by omega)) ?_
 rintro r7 g7 ⟨t7,css7,U7,hg7,rfl,zz7,o7,l7⟩
 have n7:=df hg7
 obtain⟨d7_0,cr7_0,U7_0,V7_0,rfl,rfl,z7_0,zz7_0⟩:=zz7
 obtain⟨d7_1,cr7_1,U7_1,V7_1,rfl,rfl,z7_1,zz7_1⟩:=zz7_0
 obtain⟨rfl,rfl⟩:=zz7_1
 simp only[List.nil_append,List.append_nil]at o7 l7
 obtain⟨o7_0,ox7_0,x7_0,xx7_0⟩:=o7.split
 have b7_0:=z7_0.lt
 have l7_0:∀i∈U7_0,_:=fun i hi=>l7 i (by simp[hi])
 have o7_1:=ox7_0
 have b7_1:=z7_1.lt
 have l7_1:∀i∈U7_1,_:=fun i hi=>l7 i (by simp[hi])
 have hd7_0:d7_0.length=2:=z7_0.size
 have ht7_0:d7_0.take 2=d7_0:=List.take_of_length_le (by omega)
 have hs7_0_0:aQ [.int .i64 0, .nils] 0 d7_0=d7_0:=iH (by rw[hd7_0];rfl)
 obtain⟨e7_1,rfl⟩:=z7_1.one rfl
 simp(disch:=omega) only[ae,c3,hsz0,hall0,hsz1,hall1,hln2,hd0,ht0,hd1,ht1,hs1_0,hd3_0,ht3_0,hs3_0_0,hd4,ht4,hs4_0,hd6,ht6,hd7_0,ht7_0,hs7_0_0,bn,aS,cV,beq_self_eq_true,bne_self_eq_false,List.getElem?_cons_zero,List.getElem?_cons_succ,Bool.or_false,Bool.false_or,Bool.or_self,SX,SU,SL,reduceCtorEq,Nat.reduceAdd,Nat.reduceLeDiff,reduceIte]
 refine cw.go vX z7_0 (Rp.an hg7 (Rp.an hg6 (Rp.an hg5 (Rp.an hg4 z3_0)))) (fun _=> ?_) (fun hne=>absurd rfl hne)
 simp(disch:=omega) only[ae,c3,hsz0,hall0,hsz1,hall1,hln2,hd0,ht0,hd1,ht1,hs1_0,hd3_0,ht3_0,hs3_0_0,hd4,ht4,hs4_0,hd6,ht6,hd7_0,ht7_0,hs7_0_0,bn,aS,cV,beq_self_eq_true,bne_self_eq_false,List.getElem?_cons_zero,List.getElem?_cons_succ,Bool.or_false,Bool.false_or,Bool.or_self,SX,SU,SL,reduceCtorEq,Nat.reduceAdd,Nat.reduceLeDiff,reduceIte]
 refine cw.go uE z7_1 (Rp.an hg7 (Rp.an hg6 (Rp.an hg5 (Rp.an hg4 z3_1)))) (fun _=> ?_) (fun hne=>absurd rfl hne)
 simp(disch:=omega) only[ae,c3,hsz0,hall0,hsz1,hall1,hln2,hd0,ht0,hd1,ht1,hs1_0,hd3_0,ht3_0,hs3_0_0,hd4,ht4,hs4_0,hd6,ht6,hd7_0,ht7_0,hs7_0_0,bn,aS,cV,beq_self_eq_true,bne_self_eq_false,List.getElem?_cons_zero,List.getElem?_cons_succ,Bool.or_false,Bool.false_or,Bool.or_self,SX,SU,SL,reduceCtorEq,Nat.reduceAdd,Nat.reduceLeDiff,reduceIte]
 refine cj (vZ (Rp.an hg7 (Rp.an hg6 (Rp.an hg5 (Rp.an hg4 (Rp.an hg3 (Rp.an hg2 (Rp.an hg1 (Rp.an hg0 hv1)))))))) (by omega)) ?_
 rintro r8 g8 ⟨t8,d8,U8,hg8,rfl,z8,o8,l8⟩
 have n8:=df hg8
 have b8:=z8.lt
 have hd8:d8.length=2:=z8.size
 have ht8:d8.take 2=d8:=List.take_of_length_le (by omega)
 have hs8_0:aQ [.int .i64 0, .nils] 0 d8=d8:=iH (by rw[hd8];rfl)
 simp(disch:=omega) only[ae,c3,hsz0,hall0,hsz1,hall1,hln2,hd0,ht0,hd1,ht1,hs1_0,hd3_0,ht3_0,hs3_0_0,hd4,ht4,hs4_0,hd6,ht6,hd7_0,ht7_0,hs7_0_0,hd8,ht8,hs8_0,bn,aS,cV,beq_self_eq_true,bne_self_eq_false,List.getElem?_cons_zero,List.getElem?_cons_succ,Bool.or_false,Bool.false_or,Bool.or_self,SX,SU,SL,reduceCtorEq,Nat.reduceAdd,Nat.reduceLeDiff,reduceIte]
 refine cw.go vX (Rp.an hg8 (Rp.an hg7 (Rp.an hg6 (Rp.an hg5 z4)))) z8 (fun _=> ?_) (fun hne=>absurd rfl hne)
 simp(disch:=omega) only[ae,c3,hsz0,hall0,hsz1,hall1,hln2,hd0,ht0,hd1,ht1,hs1_0,hd3_0,ht3_0,hs3_0_0,hd4,ht4,hs4_0,hd6,ht6,hd7_0,ht7_0,hs7_0_0,hd8,ht8,hs8_0,bn,aS,cV,beq_self_eq_true,bne_self_eq_false,List.getElem?_cons_zero,List.getElem?_cons_succ,Bool.or_false,Bool.false_or,Bool.or_self,SX,SU,SL,reduceCtorEq,Nat.reduceAdd,Nat.reduceLeDiff,reduceIte]
 refine cj (mj (Rp.an hg8 (Rp.an hg7 (Rp.an hg6 (Rp.an hg5 (Rp.an hg4 (Rp.an hg3 (Rp.an hg2 (Rp.an hg1 (Rp.an hg0 hv2))))))))) (by omega)) ?_
 rintro r9 g9 ⟨t9,d9,U9,hg9,rfl,z9,o9,l9⟩
 have n9:=df hg9
 have b9:=z9.lt
 obtain⟨e9,rfl⟩:=z9.one rfl
 simp(disch:=omega) only[ae,c3,hsz0,hall0,hsz1,hall1,hln2,hd0,ht0,hd1,ht1,hs1_0,hd3_0,ht3_0,hs3_0_0,hd4,ht4,hs4_0,hd6,ht6,hd7_0,ht7_0,hs7_0_0,hd8,ht8,hs8_0,bn,aS,cV,beq_self_eq_true,bne_self_eq_false,List.getElem?_cons_zero,List.getElem?_cons_succ,Bool.or_false,Bool.false_or,Bool.or_self,SX,SU,SL,reduceCtorEq,Nat.reduceAdd,Nat.reduceLeDiff,reduceIte]
 refine cw.go eF (Rp.an hg9 (Rp.an hg8 (Rp.an hg7 (Rp.an hg6 z5)))) z9 (fun _=> ?_) (fun hne=>absurd rfl hne)
 simp(disch:=omega) only[ae,c3,hsz0,hall0,hsz1,hall1,hln2,hd0,ht0,hd1,ht1,hs1_0,hd3_0,ht3_0,hs3_0_0,hd4,ht4,hs4_0,hd6,ht6,hd7_0,ht7_0,hs7_0_0,hd8,ht8,hs8_0,bn,aS,cV,beq_self_eq_true,bne_self_eq_false,List.getElem?_cons_zero,List.getElem?_cons_succ,Bool.or_false,Bool.false_or,Bool.or_self,SX,SU,SL,reduceCtorEq,Nat.reduceAdd,Nat.reduceLeDiff,reduceIte]
 refine kq.go Fw (Rp.an hg9 (Rp.an hg8 (Rp.an hg7 (Rp.an hg6 (Rp.an hg5 z4))))) (dM.an hg9 (dM.an hg8 (dM.an hg7 (dM.an hg6 (dM.an hg5 o4))))) (k:=1) (by omega) (fun gw1 w1 zw1=> ?_)
 have nw1:=w1.1
 simp(disch:=omega) only[ae,c3,hsz0,hall0,hsz1,hall1,hln2,hd0,ht0,hd1,ht1,hs1_0,hd3_0,ht3_0,hs3_0_0,hd4,ht4,hs4_0,hd6,ht6,hd7_0,ht7_0,hs7_0_0,hd8,ht8,hs8_0,bn,aS,cV,beq_self_eq_true,bne_self_eq_false,List.getElem?_cons_zero,List.getElem?_cons_succ,Bool.or_false,Bool.false_or,Bool.or_self,SX,SU,SL,reduceCtorEq,Nat.reduceAdd,Nat.reduceLeDiff,reduceIte]
 refine kq.go bB ((Rp.an hg9 (Rp.an hg8 (Rp.an hg7 (Rp.an hg6 z5)))).wrote w1 (fun i hi hn=>by have:=b5 i hi;have:=l5 i hi;have:=b4 i hn;have:=l4 i hn;omega)) (w1.AP (dM.an hg9 (dM.an hg8 (dM.an hg7 (dM.an hg6 o5))))) (k:=1+iJ TPush p.tv) (by omega) (fun gw2 w2 zw2=> ?_)
 have nw2:=w2.1
 have hneg:decide (((1+iJ TPush p.tv+iJ (.sl (.int .u8)) (lO b):Nat):Int) < 0)=false:=by simp;omega
 simp(disch:=omega) only[ae,c3,hsz0,hall0,hsz1,hall1,hln2,hd0,ht0,hd1,ht1,hs1_0,hd3_0,ht3_0,hs3_0_0,hd4,ht4,hs4_0,hd6,ht6,hd7_0,ht7_0,hs7_0_0,hd8,ht8,hs8_0,hneg,bn,aS,cV,beq_self_eq_true,bne_self_eq_false,List.getElem?_cons_zero,List.getElem?_cons_succ,Bool.or_false,Bool.false_or,Bool.or_self,SX,SU,SL,reduceCtorEq,Nat.reduceAdd,Nat.reduceLeDiff,reduceIte]
 refine cw.go vX (((Rp.an hg9 (Rp.an hg8 z7_0)).wrote w1 (fun i hi hn=>by have:=b7_0 i hi;have:=l7_0 i hi;have:=b4 i hn;have:=l4 i hn;omega)).wrote w2 (fun i hi hn=>by have:=b7_0 i hi;have:=l7_0 i hi;have:=b5 i hn;have:=l5 i hn;omega)) (((Rp.an hg9 (Rp.an hg8 (Rp.an hg7 (Rp.an hg6 (Rp.an hg5 (Rp.an hg4 z3_0)))))).wrote w1 (fun i hi hn=>by have:=b3_0 i hi;have:=l3_0 i hi;have:=b4 i hn;have:=l4 i hn;omega)).wrote w2 (fun i hi hn=>by have:=b3_0 i hi;have:=l3_0 i hi;have:=b5 i hn;have:=l5 i hn;omega)) (fun _=> ?_) (fun hne=>absurd rfl hne)
 simp(disch:=omega) only[ae,c3,hsz0,hall0,hsz1,hall1,hln2,hd0,ht0,hd1,ht1,hs1_0,hd3_0,ht3_0,hs3_0_0,hd4,ht4,hs4_0,hd6,ht6,hd7_0,ht7_0,hs7_0_0,hd8,ht8,hs8_0,hneg,bn,aS,cV,beq_self_eq_true,bne_self_eq_false,List.getElem?_cons_zero,List.getElem?_cons_succ,Bool.or_false,Bool.false_or,Bool.or_self,SX,SU,SL,reduceCtorEq,Nat.reduceAdd,Nat.reduceLeDiff,reduceIte]
 refine cw.go uE (((Rp.an hg9 (Rp.an hg8 z7_1)).wrote w1 (fun i hi hn=>by have:=b7_1 i hi;have:=l7_1 i hi;have:=b4 i hn;have:=l4 i hn;omega)).wrote w2 (fun i hi hn=>by have:=b7_1 i hi;have:=l7_1 i hi;have:=b5 i hn;have:=l5 i hn;omega)) (((Rp.an hg9 (Rp.an hg8 (Rp.an hg7 (Rp.an hg6 (Rp.an hg5 (Rp.an hg4 z3_1)))))).wrote w1 (fun i hi hn=>by have:=b3_1 i hi;have:=l3_1 i hi;have:=b4 i hn;have:=l4 i hn;omega)).wrote w2 (fun i hi hn=>by have:=b3_1 i hi;have:=l3_1 i hi;have:=b5 i hn;have:=l5 i hn;omega)) (fun _=> ?_) (fun hne=>absurd rfl hne)
 simp(disch:=omega) only[ae,c3,hsz0,hall0,hsz1,hall1,hln2,hd0,ht0,hd1,ht1,hs1_0,hd3_0,ht3_0,hs3_0_0,hd4,ht4,hs4_0,hd6,ht6,hd7_0,ht7_0,hs7_0_0,hd8,ht8,hs8_0,hneg,bn,aS,cV,beq_self_eq_true,bne_self_eq_false,List.getElem?_cons_zero,List.getElem?_cons_succ,Bool.or_false,Bool.false_or,Bool.or_self,SX,SU,SL,reduceCtorEq,Nat.reduceAdd,Nat.reduceLeDiff,reduceIte]
 refine kq.go Fw (((Rp.an hg9 (Rp.an hg8 z7_0)).wrote w1 (fun i hi hn=>by have:=b7_0 i hi;have:=l7_0 i hi;have:=b4 i hn;have:=l4 i hn;omega)).wrote w2 (fun i hi hn=>by have:=b7_0 i hi;have:=l7_0 i hi;have:=b5 i hn;have:=l5 i hn;omega)) (w2.AP (w1.AP (dM.an hg9 (dM.an hg8 o7_0)))) (k:=1) (by omega) (fun gm0 wm0 zm0=> ?_)
 have nm0:=wm0.1
 simp(disch:=omega) only[ae,c3,hsz0,hall0,hsz1,hall1,hln2,hd0,ht0,hd1,ht1,hs1_0,hd3_0,ht3_0,hs3_0_0,hd4,ht4,hs4_0,hd6,ht6,hd7_0,ht7_0,hs7_0_0,hd8,ht8,hs8_0,hneg,bn,aS,cV,beq_self_eq_true,bne_self_eq_false,List.getElem?_cons_zero,List.getElem?_cons_succ,Bool.or_false,Bool.false_or,Bool.or_self,SX,SU,SL,reduceCtorEq,Nat.reduceAdd,Nat.reduceLeDiff,reduceIte]
 refine kq.go G0 ((((Rp.an hg9 (Rp.an hg8 z7_1)).wrote w1 (fun i hi hn=>by have:=b7_1 i hi;have:=l7_1 i hi;have:=b4 i hn;have:=l4 i hn;omega)).wrote w2 (fun i hi hn=>by have:=b7_1 i hi;have:=l7_1 i hi;have:=b5 i hn;have:=l5 i hn;omega)).wrote wm0 (fun i hi hn=>xx7_0 i (by first|exact hi|simp[hi]) hn)) (wm0.AP (w2.AP (w1.AP (dM.an hg9 (dM.an hg8 o7_1))))) (k:=1+iJ TPush (feed l p b).1.tv) (by omega) (fun gm1 wm1 zm1=> ?_)
 have nm1:=wm1.1
 simp(disch:=omega) only[ae,c3,hsz0,hall0,hsz1,hall1,hln2,hd0,ht0,hd1,ht1,hs1_0,hd3_0,ht3_0,hs3_0_0,hd4,ht4,hs4_0,hd6,ht6,hd7_0,ht7_0,hs7_0_0,hd8,ht8,hs8_0,hneg,bn,aS,cV,beq_self_eq_true,bne_self_eq_false,List.getElem?_cons_zero,List.getElem?_cons_succ,Bool.or_false,Bool.false_or,Bool.or_self,SX,SU,SL,reduceCtorEq,Nat.reduceAdd,Nat.reduceLeDiff,reduceIte]
 refine jY.go FD ⟨_,_,_,z7_0⟩ (zm0.wrote wm1 (fun i hi hn=>x7_0 i hi (by first|exact hn|simp[hn]))) (k:=1) (by omega) ?_
 simp(disch:=omega) only[ae,c3,hsz0,hall0,hsz1,hall1,hln2,hd0,ht0,hd1,ht1,hs1_0,hd3_0,ht3_0,hs3_0_0,hd4,ht4,hs4_0,hd6,ht6,hd7_0,ht7_0,hs7_0_0,hd8,ht8,hs8_0,hneg,bn,aS,cV,beq_self_eq_true,bne_self_eq_false,List.getElem?_cons_zero,List.getElem?_cons_succ,Bool.or_false,Bool.false_or,Bool.or_self,SX,SU,SL,reduceCtorEq,Nat.reduceAdd,Nat.reduceLeDiff,reduceIte]
 refine bc (fun hn=>absurd hn (by omega)) (fun hn=> ?_)
 simp(disch:=omega) only[ae,c3,hsz0,hall0,hsz1,hall1,hln2,hd0,ht0,hd1,ht1,hs1_0,hd3_0,ht3_0,hs3_0_0,hd4,ht4,hs4_0,hd6,ht6,hd7_0,ht7_0,hs7_0_0,hd8,ht8,hs8_0,hneg,bn,aS,cV,beq_self_eq_true,bne_self_eq_false,List.getElem?_cons_zero,List.getElem?_cons_succ,Bool.or_false,Bool.false_or,Bool.or_self,SX,SU,SL,reduceCtorEq,Nat.reduceAdd,Nat.reduceLeDiff,reduceIte]
 refine jY.go zV ⟨_,_,_,z7_1⟩ zm1 (k:=1+iJ TPush (feed l p b).1.tv) (by omega) ?_
 simp(disch:=omega) only[ae,c3,hsz0,hall0,hsz1,hall1,hln2,hd0,ht0,hd1,ht1,hs1_0,hd3_0,ht3_0,hs3_0_0,hd4,ht4,hs4_0,hd6,ht6,hd7_0,ht7_0,hs7_0_0,hd8,ht8,hs8_0,hneg,bn,aS,cV,beq_self_eq_true,bne_self_eq_false,List.getElem?_cons_zero,List.getElem?_cons_succ,Bool.or_false,Bool.false_or,Bool.or_self,SX,SU,SL,reduceCtorEq,Nat.reduceAdd,Nat.reduceLeDiff,reduceIte]
 refine bc (fun hn=>absurd hn (by omega)) (fun hn=> ?_)
 simp(disch:=omega) only[ae,c3,hsz0,hall0,hsz1,hall1,hln2,hd0,ht0,hd1,ht1,hs1_0,hd3_0,ht3_0,hs3_0_0,hd4,ht4,hs4_0,hd6,ht6,hd7_0,ht7_0,hs7_0_0,hd8,ht8,hs8_0,hneg,bn,aS,cV,beq_self_eq_true,bne_self_eq_false,List.getElem?_cons_zero,List.getElem?_cons_succ,Bool.or_false,Bool.false_or,Bool.or_self,SX,SU,SL,reduceCtorEq,Nat.reduceAdd,Nat.reduceLeDiff,reduceIte]
 refine cj (tD (((((Rp.an hg9 (Rp.an hg8 (Rp.an hg7 (Rp.an hg6 (Rp.an hg5 (Rp.an hg4 (Rp.an hg3 (Rp.an hg2 (Rp.an hg1 (Rp.an hg0 hv0)))))))))).wrote w1 (fun i hi hn=>by have:=hv0.lt i hi;have:=b4 i hn;have:=l4 i hn;omega)).wrote w2 (fun i hi hn=>by have:=hv0.lt i hi;have:=b5 i hn;have:=l5 i hn;omega)).wrote wm0 (fun i hi hn=>by have:=hv0.lt i hi;have:=b7_0 i hn;have:=l7_0 i hn;omega)).wrote wm1 (fun i hi hn=>by have:=hv0.lt i hi;have:=b7_1 i hn;have:=l7_1 i hn;omega)) (by omega)) ?_
 rintro r10 g10 ⟨t10,d10,U10,hg10,rfl,z10,o10,l10⟩
 have n10:=df hg10
 have b10:=z10.lt
 have hd10:d10.length=5:=z10.size
 have ht10:d10.take 5=d10:=List.take_of_length_le (by omega)
 simp(disch:=omega) only[ae,c3,hsz0,hall0,hsz1,hall1,hln2,hd0,ht0,hd1,ht1,hs1_0,hd3_0,ht3_0,hs3_0_0,hd4,ht4,hs4_0,hd6,ht6,hd7_0,ht7_0,hs7_0_0,hd8,ht8,hs8_0,hneg,hd10,ht10,bn,aS,cV,beq_self_eq_true,bne_self_eq_false,List.getElem?_cons_zero,List.getElem?_cons_succ,Bool.or_false,Bool.false_or,Bool.or_self,SX,SU,SL,reduceCtorEq,Nat.reduceAdd,Nat.reduceLeDiff,reduceIte]
 refine cj (vZ (Rp.an hg10 (((((Rp.an hg9 (Rp.an hg8 (Rp.an hg7 (Rp.an hg6 (Rp.an hg5 (Rp.an hg4 (Rp.an hg3 (Rp.an hg2 (Rp.an hg1 (Rp.an hg0 hv1)))))))))).wrote w1 (fun i hi hn=>by have:=hv1.lt i hi;have:=b4 i hn;have:=l4 i hn;omega)).wrote w2 (fun i hi hn=>by have:=hv1.lt i hi;have:=b5 i hn;have:=l5 i hn;omega)).wrote wm0 (fun i hi hn=>by have:=hv1.lt i hi;have:=b7_0 i hn;have:=l7_0 i hn;omega)).wrote wm1 (fun i hi hn=>by have:=hv1.lt i hi;have:=b7_1 i hn;have:=l7_1 i hn;omega))) (by omega)) ?_
 rintro r11 g11 ⟨t11,d11,U11,hg11,rfl,z11,o11,l11⟩
 have n11:=df hg11
 have b11:=z11.lt
 have hd11:d11.length=2:=z11.size
 have ht11:d11.take 2=d11:=List.take_of_length_le (by omega)
 have hs11_0:aQ [.int .i64 0, .nils] 0 d11=d11:=iH (by rw[hd11];rfl)
 simp(disch:=omega) only[ae,c3,hsz0,hall0,hsz1,hall1,hln2,hd0,ht0,hd1,ht1,hs1_0,hd3_0,ht3_0,hs3_0_0,hd4,ht4,hs4_0,hd6,ht6,hd7_0,ht7_0,hs7_0_0,hd8,ht8,hs8_0,hneg,hd10,ht10,hd11,ht11,hs11_0,bn,aS,cV,beq_self_eq_true,bne_self_eq_false,List.getElem?_cons_zero,List.getElem?_cons_succ,Bool.or_false,Bool.false_or,Bool.or_self,SX,SU,SL,reduceCtorEq,Nat.reduceAdd,Nat.reduceLeDiff,reduceIte]
 refine cj (mj (Rp.an hg11 (Rp.an hg10 (((((Rp.an hg9 (Rp.an hg8 (Rp.an hg7 (Rp.an hg6 (Rp.an hg5 (Rp.an hg4 (Rp.an hg3 (Rp.an hg2 (Rp.an hg1 (Rp.an hg0 hv2)))))))))).wrote w1 (fun i hi hn=>by have:=hv2.lt i hi;have:=b4 i hn;have:=l4 i hn;omega)).wrote w2 (fun i hi hn=>by have:=hv2.lt i hi;have:=b5 i hn;have:=l5 i hn;omega)).wrote wm0 (fun i hi hn=>by have:=hv2.lt i hi;have:=b7_0 i hn;have:=l7_0 i hn;omega)).wrote wm1 (fun i hi hn=>by have:=hv2.lt i hi;have:=b7_1 i hn;have:=l7_1 i hn;omega)))) (by omega)) ?_
 rintro r12 g12 ⟨t12,d12,U12,hg12,rfl,z12,o12,l12⟩
 have n12:=df hg12
 have b12:=z12.lt
 obtain⟨e12,rfl⟩:=z12.one rfl
 simp(disch:=omega) only[ae,c3,hsz0,hall0,hsz1,hall1,hln2,hd0,ht0,hd1,ht1,hs1_0,hd3_0,ht3_0,hs3_0_0,hd4,ht4,hs4_0,hd6,ht6,hd7_0,ht7_0,hs7_0_0,hd8,ht8,hs8_0,hneg,hd10,ht10,hd11,ht11,hs11_0,bn,aS,cV,beq_self_eq_true,bne_self_eq_false,List.getElem?_cons_zero,List.getElem?_cons_succ,Bool.or_false,Bool.false_or,Bool.or_self,SX,SU,SL,reduceCtorEq,Nat.reduceAdd,Nat.reduceLeDiff,reduceIte]
 refine cj (F.rB ⟨_,_,rfl,⟨_,(Rp.an hg12 (Rp.an hg11 z10))⟩,⟨_,_,rfl,⟨_,(Rp.an hg12 z11)⟩,⟨_,_,rfl,⟨_,z12⟩,rfl⟩⟩⟩ (by omega) (by omega)) ?_
 rintro r13 g13 ⟨t13,css13,U13,hg13,rfl,zz13,o13,l13⟩
 have n13:=df hg13
 obtain⟨d13_0,cr13_0,U13_0,V13_0,rfl,rfl,z13_0,zz13_0⟩:=zz13
 obtain⟨d13_1,cr13_1,U13_1,V13_1,rfl,rfl,z13_1,zz13_1⟩:=zz13_0
 obtain⟨rfl,rfl⟩:=zz13_1
 simp only[List.nil_append,List.append_nil]at o13 l13
 obtain⟨o13_0,ox13_0,x13_0,xx13_0⟩:=o13.split
 have b13_0:=z13_0.lt
 have l13_0:∀i∈U13_0,_:=fun i hi=>l13 i (by simp[hi])
 have o13_1:=ox13_0
 have b13_1:=z13_1.lt
 have l13_1:∀i∈U13_1,_:=fun i hi=>l13 i (by simp[hi])
 have hd13_0:d13_0.length=2:=z13_0.size
 have ht13_0:d13_0.take 2=d13_0:=List.take_of_length_le (by omega)
 have hs13_0_0:aQ [.int .i64 0, .nils] 0 d13_0=d13_0:=iH (by rw[hd13_0];rfl)
 obtain⟨e13_1,rfl⟩:=z13_1.one rfl
 simp(disch:=omega) only[ae,c3,hsz0,hall0,hsz1,hall1,hln2,hd0,ht0,hd1,ht1,hs1_0,hd3_0,ht3_0,hs3_0_0,hd4,ht4,hs4_0,hd6,ht6,hd7_0,ht7_0,hs7_0_0,hd8,ht8,hs8_0,hneg,hd10,ht10,hd11,ht11,hs11_0,hd13_0,ht13_0,hs13_0_0,bn,aS,cV,beq_self_eq_true,bne_self_eq_false,List.getElem?_cons_zero,List.getElem?_cons_succ,Bool.or_false,Bool.false_or,Bool.or_self,SX,SU,SL,reduceCtorEq,Nat.reduceAdd,Nat.reduceLeDiff,reduceIte]
 refine cw.go vX z13_0 (Rp.an hg13 (Rp.an hg12 (Rp.an hg11 (Rp.an hg10 (((((Rp.an hg9 (Rp.an hg8 (Rp.an hg7 (Rp.an hg6 (Rp.an hg5 (Rp.an hg4 z3_0)))))).wrote w1 (fun i hi hn=>by have:=b3_0 i hi;have:=l3_0 i hi;have:=b4 i hn;have:=l4 i hn;omega)).wrote w2 (fun i hi hn=>by have:=b3_0 i hi;have:=l3_0 i hi;have:=b5 i hn;have:=l5 i hn;omega)).wrote wm0 (fun i hi hn=>by have:=b3_0 i hi;have:=l3_0 i hi;have:=b7_0 i hn;have:=l7_0 i hn;omega)).wrote wm1 (fun i hi hn=>by have:=b3_0 i hi;have:=l3_0 i hi;have:=b7_1 i hn;have:=l7_1 i hn;omega)))))) (fun _=> ?_) (fun hne=>absurd rfl hne)
 simp(disch:=omega) only[ae,c3,hsz0,hall0,hsz1,hall1,hln2,hd0,ht0,hd1,ht1,hs1_0,hd3_0,ht3_0,hs3_0_0,hd4,ht4,hs4_0,hd6,ht6,hd7_0,ht7_0,hs7_0_0,hd8,ht8,hs8_0,hneg,hd10,ht10,hd11,ht11,hs11_0,hd13_0,ht13_0,hs13_0_0,bn,aS,cV,beq_self_eq_true,bne_self_eq_false,List.getElem?_cons_zero,List.getElem?_cons_succ,Bool.or_false,Bool.false_or,Bool.or_self,SX,SU,SL,reduceCtorEq,Nat.reduceAdd,Nat.reduceLeDiff,reduceIte]
 refine cw.go uE z13_1 (Rp.an hg13 (Rp.an hg12 (Rp.an hg11 (Rp.an hg10 (((((Rp.an hg9 (Rp.an hg8 (Rp.an hg7 (Rp.an hg6 (Rp.an hg5 (Rp.an hg4 z3_1)))))).wrote w1 (fun i hi hn=>by have:=b3_1 i hi;have:=l3_1 i hi;have:=b4 i hn;have:=l4 i hn;omega)).wrote w2 (fun i hi hn=>by have:=b3_1 i hi;have:=l3_1 i hi;have:=b5 i hn;have:=l5 i hn;omega)).wrote wm0 (fun i hi hn=>by have:=b3_1 i hi;have:=l3_1 i hi;have:=b7_0 i hn;have:=l7_0 i hn;omega)).wrote wm1 (fun i hi hn=>by have:=b3_1 i hi;have:=l3_1 i hi;have:=b7_1 i hn;have:=l7_1 i hn;omega)))))) (fun _=> ?_) (fun hne=>absurd rfl hne)
 simp(disch:=omega) only[ae,c3,hsz0,hall0,hsz1,hall1,hln2,hd0,ht0,hd1,ht1,hs1_0,hd3_0,ht3_0,hs3_0_0,hd4,ht4,hs4_0,hd6,ht6,hd7_0,ht7_0,hs7_0_0,hd8,ht8,hs8_0,hneg,hd10,ht10,hd11,ht11,hs11_0,hd13_0,ht13_0,hs13_0_0,bn,aS,cV,beq_self_eq_true,bne_self_eq_false,List.getElem?_cons_zero,List.getElem?_cons_succ,Bool.or_false,Bool.false_or,Bool.or_self,SX,SU,SL,reduceCtorEq,Nat.reduceAdd,Nat.reduceLeDiff,reduceIte]
 refine jY.go FD ⟨_,_,_,z7_0⟩ (Rp.an hg13 (Rp.an hg12 (Rp.an hg11 (Rp.an hg10 (zm0.wrote wm1 (fun i hi hn=>x7_0 i hi (by first|exact hn|simp[hn]))))))) (k:=1) (by omega) ?_
 simp(disch:=omega) only[ae,c3,hsz0,hall0,hsz1,hall1,hln2,hd0,ht0,hd1,ht1,hs1_0,hd3_0,ht3_0,hs3_0_0,hd4,ht4,hs4_0,hd6,ht6,hd7_0,ht7_0,hs7_0_0,hd8,ht8,hs8_0,hneg,hd10,ht10,hd11,ht11,hs11_0,hd13_0,ht13_0,hs13_0_0,bn,aS,cV,beq_self_eq_true,bne_self_eq_false,List.getElem?_cons_zero,List.getElem?_cons_succ,Bool.or_false,Bool.false_or,Bool.or_self,SX,SU,SL,reduceCtorEq,Nat.reduceAdd,Nat.reduceLeDiff,reduceIte]
 refine bc (fun hn=>absurd hn (by omega)) (fun hn=> ?_)
 simp(disch:=omega) only[ae,c3,hsz0,hall0,hsz1,hall1,hln2,hd0,ht0,hd1,ht1,hs1_0,hd3_0,ht3_0,hs3_0_0,hd4,ht4,hs4_0,hd6,ht6,hd7_0,ht7_0,hs7_0_0,hd8,ht8,hs8_0,hneg,hd10,ht10,hd11,ht11,hs11_0,hd13_0,ht13_0,hs13_0_0,bn,aS,cV,beq_self_eq_true,bne_self_eq_false,List.getElem?_cons_zero,List.getElem?_cons_succ,Bool.or_false,Bool.false_or,Bool.or_self,SX,SU,SL,reduceCtorEq,Nat.reduceAdd,Nat.reduceLeDiff,reduceIte]
 refine jY.go zV ⟨_,_,_,z7_1⟩ (Rp.an hg13 (Rp.an hg12 (Rp.an hg11 (Rp.an hg10 zm1)))) (k:=1+iJ TPush (feed l p b).1.tv) (by omega) ?_
 simp(disch:=omega) only[ae,c3,hsz0,hall0,hsz1,hall1,hln2,hd0,ht0,hd1,ht1,hs1_0,hd3_0,ht3_0,hs3_0_0,hd4,ht4,hs4_0,hd6,ht6,hd7_0,ht7_0,hs7_0_0,hd8,ht8,hs8_0,hneg,hd10,ht10,hd11,ht11,hs11_0,hd13_0,ht13_0,hs13_0_0,bn,aS,cV,beq_self_eq_true,bne_self_eq_false,List.getElem?_cons_zero,List.getElem?_cons_succ,Bool.or_false,Bool.false_or,Bool.or_self,SX,SU,SL,reduceCtorEq,Nat.reduceAdd,Nat.reduceLeDiff,reduceIte]
 refine bc (fun hn=>absurd hn (by omega)) (fun hn=> ?_)
 simp(disch:=omega) only[ae,c3,hsz0,hall0,hsz1,hall1,hln2,hd0,ht0,hd1,ht1,hs1_0,hd3_0,ht3_0,hs3_0_0,hd4,ht4,hs4_0,hd6,ht6,hd7_0,ht7_0,hs7_0_0,hd8,ht8,hs8_0,hneg,hd10,ht10,hd11,ht11,hs11_0,hd13_0,ht13_0,hs13_0_0,bn,aS,cV,beq_self_eq_true,bne_self_eq_false,List.getElem?_cons_zero,List.getElem?_cons_succ,Bool.or_false,Bool.false_or,Bool.or_self,SX,SU,SL,reduceCtorEq,Nat.reduceAdd,Nat.reduceLeDiff,reduceIte]
end Go.Eng.U
