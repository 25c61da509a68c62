import Derived.Test.YtlhapfligolmcaaGreatGb
import Derived.Test.YtlhapfligolmcaaGreatGe
import Derived.Test.YtlhapfligolmcaaGreatGf
import Derived.Test.YtlhapfligolmcaaGreatGh
set_option maxRecDepth 100000
set_option linter.unusedSimpArgs false
set_option linter.unusedVariables false
namespace Go.Eng.U
mutual
def _root_.Go.Eng.Ty.f0:Ty→Bool
 | .sl _=>false
 | .str=>false
 | .st ts=>Ty.IM ts
 |_=>true
def _root_.Go.Eng.Ty.IM:List Ty→Bool
 | []=>true
 |t::ts=>t.f0 && Ty.IM ts
end
mutual
theorem _root_.Go.Eng.Rp.ID {h:H}:∀(T:Ty) {cs:List C} {v:Tv} {S:List Nat},Rp h T cs v S→T.f0=true→wt v=0
 | .int _,cs,v,S,hr,_=>by obtain⟨n,_,rfl,_⟩:=hr.int;simp[wt]
 | .bool,cs,v,S,hr,_=>by obtain⟨n,_,rfl,_⟩:=hr.bool;simp[wt]
 | .str,_,_,_,_,h=>by simp[Ty.f0]at h
 | .sl _,_,_,_,_,h=>by simp[Ty.f0]at h
 | .st ts,cs,v,S,hr,h=>by
   obtain⟨vs,rfl,h2⟩:=hr.st
   simp only[wt]
   exact Rs.ID ts h2 (by simpa only[Ty.f0]using h)
theorem _root_.Go.Eng.Rs.ID {h:H}:∀(ts:List Ty) {cs:List C} {vs:List Tv} {S:List Nat},Rs h ts cs vs S→Ty.IM ts=true→cW vs=0
 | [],cs,vs,S,hr,_=>by obtain⟨rfl,rfl,rfl⟩:=hr;simp[cW]
 |t::ts,cs,vs,S,hr,h=>by
  simp only[Ty.IM,Bool.and_eq_true]at h
  obtain⟨c1,c2,v,vr,S1,S2,rfl,rfl,rfl,h4,h5⟩:=hr
  simp only[cW,Rp.ID t h4 h.1,Rs.ID ts h5 h.2]
end
def I4:AF:=⟨2,4,[.tmp 4],(.seq (.ops [.i (.mov 4 (qi 0))]) (.seq (.ops [qm 5 1,qm 6 0,qn 7 6,qd 8 .sub 5 7,qm 1 8]) (.seq (.seq (.ops [qm 9 1, .i (.bin 10 .lss (.s 9) (qi 0))]) (.cond (.s 10) (.seq (.ops [.i (.mov 4 (qi (-1)))]) .ret) .skip)) (.seq (.ops [qm 11 1,qm 4 11]) .ret))))⟩
theorem Ji:cd 149=some I4:=by kernel_rfl
theorem hM:eN cd 149 (.sl (.int .u8)):=Fy Ji
def I1:AF:=⟨2,5,[.tmp 4],(.seq (.ops [.i (.mov 4 (qi 0))]) (.seq (.ops [qm 6 1,qm 7 0,qn 8 7,qd 9 .sub 6 8,qm 1 9]) (.seq (.seq (.ops [qm 10 1, .i (.bin 11 .lss (.s 10) (qi 0))]) (.cond (.s 11) (.seq (.ops [.i (.mov 4 (qi (-1)))]) .ret) .skip)) (.seq (.seq (.ops [.i (.mov 5 (qi 0))]) (.block 0 (.loop [25,24,23,22,21,20,19,18,17,16,15,14,13,12] (.seq (.seq (.ops [qm 12 5,qm 13 0,qn 14 13,qd 15 .lss 12 14]) (.cond (.s 15) .skip (.exit 0))) (.seq (.block 1 (.seq (.ops [qm 18 0,qm 19 5, .i (.iad 20 (.s 18) (.s 19) 1), .i (.ldh 21 (.s 20) 1 false),qm 22 1, .i (.call 24 149 false [(.s 21),(.s 22)]),qm 1 23]) (.seq (.ops [qm 24 1, .i (.bin 25 .lss (.s 24) (qi 0))]) (.cond (.s 25) (.seq (.ops [.i (.mov 4 (qi (-1)))]) .ret) .skip)))) (.ops [qm 16 5, .i (.bin 17 .add (.s 16) (qi 1)),qm 5 17])))))) (.seq (.ops [qm 26 1,qm 4 26]) .ret)))))⟩
theorem Jp:cd 150=some I1:=by kernel_rfl
theorem Bl:eN cd 150 (.sl (.sl (.int .u8))):=CC Jp hM
theorem Gp {l:List C} (h:l.length=5):∃x0 x1 x2 x3 x4,l= [x0,x1,x2,x3,x4]:=by
 rcases l with _|⟨x0,l⟩
 ·simp at h
 rcases l with _|⟨x1,l⟩
 ·simp at h
 rcases l with _|⟨x2,l⟩
 ·simp at h
 rcases l with _|⟨x3,l⟩
 ·simp at h
 rcases l with _|⟨x4,l⟩
 ·simp at h
 ·simp at h;exact⟨x0,x1,x2,x3,x4,by simp[h]⟩
def Ay:AF:=⟨2,5,[.tmp 4],(.seq (.ops [.i (.lbox 2 (.s 0)), .i (.mov 4 (qi 0))]) (.seq (.ops [qf 5 2 2,ql 6 2 5 1 false,qm 7 1, .i (.call 9 149 false [(.s 6),(.s 7)]),qm 1 8]) (.seq (.seq (.ops [qm 9 1, .i (.bin 10 .lss (.s 9) (qi 0))]) (.cond (.s 10) (.seq (.ops [.i (.mov 4 (qi (-1)))]) .ret) .skip)) (.seq (.ops [qf 11 2 3,ql 12 2 11 1 false,qm 13 1, .i (.call 15 149 false [(.s 12),(.s 13)]),qm 1 14]) (.seq (.seq (.ops [qm 15 1, .i (.bin 16 .lss (.s 15) (qi 0))]) (.cond (.s 16) (.seq (.ops [.i (.mov 4 (qi (-1)))]) .ret) .skip)) (.seq (.ops [qf 17 2 4,ql 18 2 17 1 false,qm 19 1, .i (.call 21 150 false [(.s 18),(.s 19)]),qm 1 20]) (.seq (.seq (.ops [qm 21 1, .i (.bin 22 .lss (.s 21) (qi 0))]) (.cond (.s 22) (.seq (.ops [.i (.mov 4 (qi (-1)))]) .ret) .skip)) (.seq (.ops [qm 23 1,qm 4 23]) .ret))))))))⟩
theorem J9:cd 80=some Ay:=by kernel_rfl
theorem Ir:eN cd 80 wv:=by
 intro h cs v S k hv hk
 obtain⟨vs,rfl,q0⟩:=hv.st
 obtain⟨v0,r0,S0,T0,rfl,rfl,h0,q1⟩:=q0.step
 obtain⟨n0,e0,rfl,rfl,lo0,hi0⟩:=h0.int
 obtain⟨v1,r1,S1,T1,rfl,rfl,h1,q2⟩:=q1.step
 obtain⟨n1,e1,rfl,rfl,lo1,hi1⟩:=h1.int
 obtain⟨v2,r2,S2,T2,rfl,rfl,h2,q3⟩:=q2.step
 obtain⟨c2,e2⟩:=h2.one rfl
 rw[e2]at h2
 obtain⟨v3,r3,S3,T3,rfl,rfl,h3,q4⟩:=q3.step
 obtain⟨c3,e3⟩:=h3.one rfl
 rw[e3]at h3
 obtain⟨v4,r4,S4,T4,rfl,rfl,h4,q5⟩:=q4.step
 obtain⟨c4,e4⟩:=h4.one rfl
 rw[e4]at h4
 obtain⟨_,rfl,rfl⟩:=q5
 have hsz:cs.length=5:=hv.size
 simp only[Ty.size,Ty.aM,Nat.reduceAdd,Nat.zero_add,List.drop_zero]at e0 e1 e2 e3 e4 hsz
 have hw:wt (.r [.i n0, .i n1,v2,v3,v4])=wt v2+wt v3+wt v4:=by simp only[wt,cW];omega
 rw[hw]
 refine aC J9 rfl ?_
 simp(disch:=omega) only[Ay,e0,e1,e2,e3,e4,hsz,aK,aB,SX,SU,SL,reduceCtorEq,Nat.reduceAdd,Nat.reduceLeDiff,reduceIte]
 refine eN.go hM h2 (k:=k) (by omega) (fun hf0=> ?_) (fun hf0=> ?_)
 case refine_2=>
  simp(disch:=omega) only[ae,Ay,e0,e1,e2,e3,e4,hsz,aK,aB,SX,SU,SL,reduceCtorEq,Nat.reduceAdd,Nat.reduceLeDiff,reduceIte]
  refine aw (fun hn=> ?_) (fun hn=>absurd (show(-1:Int) < 0 by omega) hn)
  simp(disch:=omega) only[Ay,e0,e1,e2,e3,e4,hsz,aK,aB,SX,SU,SL,reduceCtorEq,Nat.reduceAdd,Nat.reduceLeDiff,reduceIte]
  rw[if_neg (by omega)]
 simp(disch:=omega) only[ae,Ay,e0,e1,e2,e3,e4,hsz,aK,aB,SX,SU,SL,reduceCtorEq,Nat.reduceAdd,Nat.reduceLeDiff,reduceIte]
 refine aw (fun hn=>absurd hn (by omega)) (fun hn=> ?_)
 simp(disch:=omega) only[Ay,e0,e1,e2,e3,e4,hsz,aK,aB,SX,SU,SL,reduceCtorEq,Nat.reduceAdd,Nat.reduceLeDiff,reduceIte]
 refine eN.go hM h3 (k:=k - wt v2) (by omega) (fun hf1=> ?_) (fun hf1=> ?_)
 case refine_2=>
  simp(disch:=omega) only[ae,Ay,e0,e1,e2,e3,e4,hsz,aK,aB,SX,SU,SL,reduceCtorEq,Nat.reduceAdd,Nat.reduceLeDiff,reduceIte]
  refine aw (fun hn=> ?_) (fun hn=>absurd (show(-1:Int) < 0 by omega) hn)
  simp(disch:=omega) only[Ay,e0,e1,e2,e3,e4,hsz,aK,aB,SX,SU,SL,reduceCtorEq,Nat.reduceAdd,Nat.reduceLeDiff,reduceIte]
  rw[if_neg (by omega)]
 simp(disch:=omega) only[ae,Ay,e0,e1,e2,e3,e4,hsz,aK,aB,SX,SU,SL,reduceCtorEq,Nat.reduceAdd,Nat.reduceLeDiff,reduceIte]
 refine aw (fun hn=>absurd hn (by omega)) (fun hn=> ?_)
 simp(disch:=omega) only[Ay,e0,e1,e2,e3,e4,hsz,aK,aB,SX,SU,SL,reduceCtorEq,Nat.reduceAdd,Nat.reduceLeDiff,reduceIte]
 refine eN.go Bl h4 (k:=k - wt v2 - wt v3) (by omega) (fun hf2=> ?_) (fun hf2=> ?_)
 case refine_2=>
  simp(disch:=omega) only[ae,Ay,e0,e1,e2,e3,e4,hsz,aK,aB,SX,SU,SL,reduceCtorEq,Nat.reduceAdd,Nat.reduceLeDiff,reduceIte]
  refine aw (fun hn=> ?_) (fun hn=>absurd (show(-1:Int) < 0 by omega) hn)
  simp(disch:=omega) only[Ay,e0,e1,e2,e3,e4,hsz,aK,aB,SX,SU,SL,reduceCtorEq,Nat.reduceAdd,Nat.reduceLeDiff,reduceIte]
  rw[if_neg (by omega)]
 simp(disch:=omega) only[ae,Ay,e0,e1,e2,e3,e4,hsz,aK,aB,SX,SU,SL,reduceCtorEq,Nat.reduceAdd,Nat.reduceLeDiff,reduceIte]
 refine aw (fun hn=>absurd hn (by omega)) (fun hn=> ?_)
 simp(disch:=omega) only[Ay,e0,e1,e2,e3,e4,hsz,aK,aB,SX,SU,SL,reduceCtorEq,Nat.reduceAdd,Nat.reduceLeDiff,reduceIte]
 congr 3
 omega
theorem CW {l:List C} (h:l.length=10):∃x0 x1 x2 x3 x4 x5 x6 x7 x8 x9,l= [x0,x1,x2,x3,x4,x5,x6,x7,x8,x9]:=by
 rcases l with _|⟨x0,l⟩
 ·simp at h
 rcases l with _|⟨x1,l⟩
 ·simp at h
 rcases l with _|⟨x2,l⟩
 ·simp at h
 rcases l with _|⟨x3,l⟩
 ·simp at h
 rcases l with _|⟨x4,l⟩
 ·simp at h
 rcases l with _|⟨x5,l⟩
 ·simp at h
 rcases l with _|⟨x6,l⟩
 ·simp at h
 rcases l with _|⟨x7,l⟩
 ·simp at h
 rcases l with _|⟨x8,l⟩
 ·simp at h
 rcases l with _|⟨x9,l⟩
 ·simp at h
 ·simp at h;exact⟨x0,x1,x2,x3,x4,x5,x6,x7,x8,x9,by simp[h]⟩
def z5:AF:=⟨2,5,[.tmp 4],(.seq (.ops [.i (.lbox 2 (.s 0)), .i (.mov 4 (qi 0))]) (.seq (.ops [qf 5 2 3,ql 6 2 5 1 false,qm 7 1, .i (.call 9 149 false [(.s 6),(.s 7)]),qm 1 8]) (.seq (.seq (.ops [qm 9 1, .i (.bin 10 .lss (.s 9) (qi 0))]) (.cond (.s 10) (.seq (.ops [.i (.mov 4 (qi (-1)))]) .ret) .skip)) (.seq (.ops [qf 11 2 4,ql 12 2 11 1 false,qm 13 1, .i (.call 15 149 false [(.s 12),(.s 13)]),qm 1 14]) (.seq (.seq (.ops [qm 15 1, .i (.bin 16 .lss (.s 15) (qi 0))]) (.cond (.s 16) (.seq (.ops [.i (.mov 4 (qi (-1)))]) .ret) .skip)) (.seq (.ops [qf 17 2 5,ql 18 2 17 5 true,qm 19 1, .i (.call 21 80 false [(.s 18),(.s 19)]),qm 1 20]) (.seq (.seq (.ops [qm 21 1, .i (.bin 22 .lss (.s 21) (qi 0))]) (.cond (.s 22) (.seq (.ops [.i (.mov 4 (qi (-1)))]) .ret) .skip)) (.seq (.ops [qm 23 1,qm 4 23]) .ret))))))))⟩
theorem JQ:cd 81=some z5:=by kernel_rfl
theorem FG:eN cd 81 ak:=by
 intro h cs v S k hv hk
 obtain⟨vs,rfl,q0⟩:=hv.st
 obtain⟨v0,r0,S0,T0,rfl,rfl,h0,q1⟩:=q0.step
 obtain⟨n0,e0,rfl,rfl,lo0,hi0⟩:=h0.int
 obtain⟨v1,r1,S1,T1,rfl,rfl,h1,q2⟩:=q1.step
 obtain⟨n1,e1,rfl,rfl,lo1,hi1⟩:=h1.int
 obtain⟨v2,r2,S2,T2,rfl,rfl,h2,q3⟩:=q2.step
 obtain⟨n2,e2,rfl,rfl,lo2,hi2⟩:=h2.int
 obtain⟨v3,r3,S3,T3,rfl,rfl,h3,q4⟩:=q3.step
 obtain⟨c3,e3⟩:=h3.one rfl
 rw[e3]at h3
 obtain⟨v4,r4,S4,T4,rfl,rfl,h4,q5⟩:=q4.step
 obtain⟨c4,e4⟩:=h4.one rfl
 rw[e4]at h4
 obtain⟨v5,r5,S5,T5,rfl,rfl,h5,q6⟩:=q5.step
 obtain⟨_,rfl,rfl⟩:=q6
 have hsz:cs.length=10:=hv.size
 simp only[Ty.size,Ty.aM,Nat.reduceAdd,Nat.zero_add,List.drop_zero]at e0 e1 e2 e3 e4 hsz h5
 have hw:wt (.r [.i n0, .i n1, .i n2,v3,v4,v5])=wt v3+wt v4+wt v5:=by simp only[wt,cW];omega
 rw[hw]
 refine aC JQ rfl ?_
 simp(disch:=omega) only[z5,e0,e1,e2,e3,e4,hsz,aK,aB,SX,SU,SL,reduceCtorEq,Nat.reduceAdd,Nat.reduceLeDiff,reduceIte]
 refine eN.go hM h3 (k:=k) (by omega) (fun hf0=> ?_) (fun hf0=> ?_)
 case refine_2=>
  simp(disch:=omega) only[ae,z5,e0,e1,e2,e3,e4,hsz,aK,aB,SX,SU,SL,reduceCtorEq,Nat.reduceAdd,Nat.reduceLeDiff,reduceIte]
  refine aw (fun hn=> ?_) (fun hn=>absurd (show(-1:Int) < 0 by omega) hn)
  simp(disch:=omega) only[z5,e0,e1,e2,e3,e4,hsz,aK,aB,SX,SU,SL,reduceCtorEq,Nat.reduceAdd,Nat.reduceLeDiff,reduceIte]
  rw[if_neg (by omega)]
 simp(disch:=omega) only[ae,z5,e0,e1,e2,e3,e4,hsz,aK,aB,SX,SU,SL,reduceCtorEq,Nat.reduceAdd,Nat.reduceLeDiff,reduceIte]
 refine aw (fun hn=>absurd hn (by omega)) (fun hn=> ?_)
 simp(disch:=omega) only[z5,e0,e1,e2,e3,e4,hsz,aK,aB,SX,SU,SL,reduceCtorEq,Nat.reduceAdd,Nat.reduceLeDiff,reduceIte]
 refine eN.go hM h4 (k:=k - wt v3) (by omega) (fun hf1=> ?_) (fun hf1=> ?_)
 case refine_2=>
  simp(disch:=omega) only[ae,z5,e0,e1,e2,e3,e4,hsz,aK,aB,SX,SU,SL,reduceCtorEq,Nat.reduceAdd,Nat.reduceLeDiff,reduceIte]
  refine aw (fun hn=> ?_) (fun hn=>absurd (show(-1:Int) < 0 by omega) hn)
  simp(disch:=omega) only[z5,e0,e1,e2,e3,e4,hsz,aK,aB,SX,SU,SL,reduceCtorEq,Nat.reduceAdd,Nat.reduceLeDiff,reduceIte]
  rw[if_neg (by omega)]
 simp(disch:=omega) only[ae,z5,e0,e1,e2,e3,e4,hsz,aK,aB,SX,SU,SL,reduceCtorEq,Nat.reduceAdd,Nat.reduceLeDiff,reduceIte]
 refine aw (fun hn=>absurd hn (by omega)) (fun hn=> ?_)
 simp(disch:=omega) only[z5,e0,e1,e2,e3,e4,hsz,aK,aB,SX,SU,SL,reduceCtorEq,Nat.reduceAdd,Nat.reduceLeDiff,reduceIte]
 refine eN.go Ir h5 (k:=k - wt v3 - wt v4) (by omega) (fun hf2=> ?_) (fun hf2=> ?_)
 case refine_2=>
  simp(disch:=omega) only[ae,z5,e0,e1,e2,e3,e4,hsz,aK,aB,SX,SU,SL,reduceCtorEq,Nat.reduceAdd,Nat.reduceLeDiff,reduceIte]
  refine aw (fun hn=> ?_) (fun hn=>absurd (show(-1:Int) < 0 by omega) hn)
  simp(disch:=omega) only[z5,e0,e1,e2,e3,e4,hsz,aK,aB,SX,SU,SL,reduceCtorEq,Nat.reduceAdd,Nat.reduceLeDiff,reduceIte]
  rw[if_neg (by omega)]
 simp(disch:=omega) only[ae,z5,e0,e1,e2,e3,e4,hsz,aK,aB,SX,SU,SL,reduceCtorEq,Nat.reduceAdd,Nat.reduceLeDiff,reduceIte]
 refine aw (fun hn=>absurd hn (by omega)) (fun hn=> ?_)
 simp(disch:=omega) only[z5,e0,e1,e2,e3,e4,hsz,aK,aB,SX,SU,SL,reduceCtorEq,Nat.reduceAdd,Nat.reduceLeDiff,reduceIte]
 congr 3
 omega
def JH:AF:=⟨2,5,[.tmp 4],(.seq (.ops [.i (.mov 4 (qi 0))]) (.seq (.ops [qm 6 1,qm 7 0,qn 8 7,qd 9 .sub 6 8,qm 1 9]) (.seq (.seq (.ops [qm 10 1, .i (.bin 11 .lss (.s 10) (qi 0))]) (.cond (.s 11) (.seq (.ops [.i (.mov 4 (qi (-1)))]) .ret) .skip)) (.seq (.seq (.ops [.i (.mov 5 (qi 0))]) (.block 0 (.loop [25,24,23,22,21,20,19,18,17,16,15,14,13,12] (.seq (.seq (.ops [qm 12 5,qm 13 0,qn 14 13,qd 15 .lss 12 14]) (.cond (.s 15) .skip (.exit 0))) (.seq (.block 1 (.seq (.ops [qm 18 0,qm 19 5, .i (.iad 20 (.s 18) (.s 19) 10), .i (.ldh 21 (.s 20) 10 true),qm 22 1, .i (.call 24 81 false [(.s 21),(.s 22)]),qm 1 23]) (.seq (.ops [qm 24 1, .i (.bin 25 .lss (.s 24) (qi 0))]) (.cond (.s 25) (.seq (.ops [.i (.mov 4 (qi (-1)))]) .ret) .skip)))) (.ops [qm 16 5, .i (.bin 17 .add (.s 16) (qi 1)),qm 5 17])))))) (.seq (.ops [qm 26 1,qm 4 26]) .ret)))))⟩
theorem JK:cd 64=some JH:=by kernel_rfl
theorem Dv:eN cd 64 (.sl ak):=CC JK FG
def HH:AF:=⟨2,4,[.tmp 4],(.seq (.ops [.i (.lbox 2 (.s 0)), .i (.mov 4 (qi 0))]) (.seq (.ops [qf 5 2 5,ql 6 2 5 1 false,qm 7 1, .i (.call 9 64 false [(.s 6),(.s 7)]),qm 1 8]) (.seq (.seq (.ops [qm 9 1, .i (.bin 10 .lss (.s 9) (qi 0))]) (.cond (.s 10) (.seq (.ops [.i (.mov 4 (qi (-1)))]) .ret) .skip)) (.seq (.ops [qm 11 1,qm 4 11]) .ret))))⟩
theorem JL:cd 16=some HH:=by kernel_rfl
theorem Bi:eN cd 16 TForest:=by
 intro h cs v S k hv hk
 obtain⟨vs,rfl,q0⟩:=hv.st
 obtain⟨v0,r0,S0,T0,rfl,rfl,h0,q1⟩:=q0.step
 obtain⟨v1,r1,S1,T1,rfl,rfl,h1,q2⟩:=q1.step
 obtain⟨c1,e1⟩:=h1.one rfl
 rw[e1]at h1
 obtain⟨_,rfl,rfl⟩:=q2
 have hsz:cs.length=6:=hv.size
 simp only[Ty.size,Ty.aM,Nat.reduceAdd,Nat.zero_add,List.drop_zero]at e1 hsz h0
 have fw0:=Rp.ID br h0 rfl
 have hw:wt (.r [v0,v1])=wt v1:=by simp only[wt,cW];omega
 rw[hw]
 refine aC JL rfl ?_
 simp(disch:=omega) only[HH,e1,hsz,aK,aB,SX,SU,SL,reduceCtorEq,Nat.reduceAdd,Nat.reduceLeDiff,reduceIte]
 refine eN.go Dv h1 (k:=k) (by omega) (fun hf0=> ?_) (fun hf0=> ?_)
 case refine_2=>
  simp(disch:=omega) only[ae,HH,e1,hsz,aK,aB,SX,SU,SL,reduceCtorEq,Nat.reduceAdd,Nat.reduceLeDiff,reduceIte]
  refine aw (fun hn=> ?_) (fun hn=>absurd (show(-1:Int) < 0 by omega) hn)
  simp(disch:=omega) only[HH,e1,hsz,aK,aB,SX,SU,SL,reduceCtorEq,Nat.reduceAdd,Nat.reduceLeDiff,reduceIte]
  rw[if_neg (by omega)]
 simp(disch:=omega) only[ae,HH,e1,hsz,aK,aB,SX,SU,SL,reduceCtorEq,Nat.reduceAdd,Nat.reduceLeDiff,reduceIte]
 refine aw (fun hn=>absurd hn (by omega)) (fun hn=> ?_)
 simp(disch:=omega) only[HH,e1,hsz,aK,aB,SX,SU,SL,reduceCtorEq,Nat.reduceAdd,Nat.reduceLeDiff,reduceIte]
 congr 3
 omega
def Jt:AF:=⟨1,5,[.cell 2 5 true],(.seq (.ops [.i (.lbox 1 (.s 0)), .i (.lal 2 [.int .i64 0, .int .i64 0, .int .i64 0, .int .i64 0, .int .i64 0])]) (.seq (.ops [.i (.lal 3 [.int .i64 0, .int .i64 0, .int .i64 0, .int .i64 0, .int .i64 0])]) (.seq (.ops [qf 4 1 0,ql 5 1 4 1 false,qf 6 3 0,qs 3 6 5 1]) (.seq (.ops [qf 7 1 1,ql 8 1 7 1 false,qf 9 3 1,qs 3 9 8 1]) (.seq (.ops [qf 10 1 2,ql 11 1 10 1 false,qf 12 3 2,qs 3 12 11 1]) (.seq (.ops [qf 13 1 3,ql 14 1 13 1 false,qf 15 3 3,qs 3 15 14 1]) (.seq (.ops [qf 16 1 4,ql 17 1 16 1 false,qf 18 3 4,qs 3 18 17 1]) (.seq (.ops [ql 19 3 3 5 true,qs 2 2 19 5]) .ret))))))))⟩
theorem J0:cd 31=some Jt:=by kernel_rfl
theorem BK:po cd 31 br:=by
 intro h cs v S hv hw
 obtain⟨vs,rfl,q0⟩:=hv.st
 obtain⟨v0,r0,S0,T0,rfl,rfl,h0,q1⟩:=q0.step
 obtain⟨n0,e0,rfl,rfl,lo0,hi0⟩:=h0.int
 obtain⟨v1,r1,S1,T1,rfl,rfl,h1,q2⟩:=q1.step
 obtain⟨n1,e1,rfl,rfl,lo1,hi1⟩:=h1.int
 obtain⟨v2,r2,S2,T2,rfl,rfl,h2,q3⟩:=q2.step
 obtain⟨n2,e2,rfl,rfl,lo2,hi2⟩:=h2.int
 obtain⟨v3,r3,S3,T3,rfl,rfl,h3,q4⟩:=q3.step
 obtain⟨n3,e3,rfl,rfl,lo3,hi3⟩:=h3.int
 obtain⟨v4,r4,S4,T4,rfl,rfl,h4,q5⟩:=q4.step
 obtain⟨n4,e4,rfl,rfl,lo4,hi4⟩:=h4.int
 obtain⟨_,rfl,rfl⟩:=q5
 have hsz:cs.length=5:=hv.size
 simp only[Ty.size,Ty.aM,Nat.reduceAdd,Nat.zero_add,List.drop_zero]at e0 e1 e2 e3 e4 hsz
 simp only[wt,cW]at hw
 refine aC J0 rfl ?_
 simp(disch:=omega) only[ae,Jt,e0,e1,e2,e3,e4,hsz,aK,aB,SX,SU,SL,reduceCtorEq,Nat.reduceAdd,Nat.reduceLeDiff,reduceIte]
 exact⟨[],_,_,by simp,rfl,⟨_,rfl,(Rs.mk (Rp.mkInt lo0 hi0) (Rs.mk (Rp.mkInt lo1 hi1) (Rs.mk (Rp.mkInt lo2 hi2) (Rs.mk (Rp.mkInt lo3 hi3) (Rs.mk (Rp.mkInt lo4 hi4) Rs.nil)))))⟩,by simp[bW],by simp⟩
def I7:AF:=⟨1,5,[.tmp 2],(.seq (.ops [.i (.mov 2 (.c (.val false [.nils])))]) (.seq (.ops [qm 5 0,qn 6 5, .i (.mks 7 5 1 1 [.int .u8 0] (.s 6)),qm 3 7]) (.seq (.seq (.ops [.i (.mov 4 (qi 0))]) (.block 0 (.loop [20,19,18,17,16,15,14,13,12,11,10,9,8] (.seq (.seq (.ops [qm 8 4,qm 9 0,qn 10 9,qd 11 .lss 8 10]) (.cond (.s 11) .skip (.exit 0))) (.seq (.block 1 (.ops [qm 14 3,qm 15 4,qm 16 0,qm 17 4, .i (.iad 18 (.s 16) (.s 17) 1), .i (.ldh 19 (.s 18) 1 false), .i (.iad 20 (.s 14) (.s 15) 1), .i (.sth (.s 20) (.s 19) 1)])) (.ops [qm 12 4, .i (.bin 13 .add (.s 12) (qi 1)),qm 4 13])))))) (.seq (.ops [qm 21 3,qm 2 21]) .ret))))⟩
theorem Jn:cd 174=some I7:=by kernel_rfl
theorem ix:po cd 174 (.sl (.int .u8)):=E3 Jn (by omega)
def Jh:AF:=⟨1,5,[.tmp 2],(.seq (.ops [.i (.mov 2 (.c (.val false [.nils])))]) (.seq (.ops [qm 5 0,qn 6 5, .i (.mks 7 22 1 24 [.nils] (.s 6)),qm 3 7]) (.seq (.seq (.ops [.i (.mov 4 (qi 0))]) (.block 0 (.loop [21,20,19,18,17,16,15,14,13,12,11,10,9,8] (.seq (.seq (.ops [qm 8 4,qm 9 0,qn 10 9,qd 11 .lss 8 10]) (.cond (.s 11) .skip (.exit 0))) (.seq (.block 1 (.ops [qm 14 3,qm 15 4,qm 16 0,qm 17 4, .i (.iad 18 (.s 16) (.s 17) 1), .i (.ldh 19 (.s 18) 1 false),qk 21 174 19, .i (.iad 21 (.s 14) (.s 15) 1), .i (.sth (.s 21) (.s 20) 1)])) (.ops [qm 12 4, .i (.bin 13 .add (.s 12) (qi 1)),qm 4 13])))))) (.seq (.ops [qm 22 3,qm 2 22]) .ret))))⟩
theorem Jd:cd 175=some Jh:=by kernel_rfl
theorem Bw:po cd 175 (.sl (.sl (.int .u8))):=CU Jd (by omega) rfl ix
def Ii:AF:=⟨1,5,[.cell 2 5 true],(.seq (.ops [.i (.lbox 1 (.s 0)), .i (.lal 2 [.int .i64 0, .int .i64 0, .nils, .nils, .nils])]) (.seq (.ops [.i (.lal 3 [.int .i64 0, .int .i64 0, .nils, .nils, .nils])]) (.seq (.ops [qf 4 1 0,ql 5 1 4 1 false,qf 6 3 0,qs 3 6 5 1]) (.seq (.ops [qf 7 1 1,ql 8 1 7 1 false,qf 9 3 1,qs 3 9 8 1]) (.seq (.ops [qf 10 1 2,ql 11 1 10 1 false,qk 13 174 11,qf 13 3 2,qs 3 13 12 1]) (.seq (.ops [qf 14 1 3,ql 15 1 14 1 false,qk 17 174 15,qf 17 3 3,qs 3 17 16 1]) (.seq (.ops [qf 18 1 4,ql 19 1 18 1 false,qk 21 175 19,qf 21 3 4,qs 3 21 20 1]) (.seq (.ops [ql 22 3 3 5 true,qs 2 2 22 5]) .ret))))))))⟩
theorem JE:cd 91=some Ii:=by kernel_rfl
theorem HO:po cd 91 wv:=by
 intro h cs v S hv hw
 obtain⟨vs,rfl,q0⟩:=hv.st
 obtain⟨v0,r0,S0,T0,rfl,rfl,h0,q1⟩:=q0.step
 obtain⟨n0,e0,rfl,rfl,lo0,hi0⟩:=h0.int
 obtain⟨v1,r1,S1,T1,rfl,rfl,h1,q2⟩:=q1.step
 obtain⟨n1,e1,rfl,rfl,lo1,hi1⟩:=h1.int
 obtain⟨v2,r2,S2,T2,rfl,rfl,h2,q3⟩:=q2.step
 obtain⟨c2,e2⟩:=h2.one rfl
 rw[e2]at h2
 obtain⟨v3,r3,S3,T3,rfl,rfl,h3,q4⟩:=q3.step
 obtain⟨c3,e3⟩:=h3.one rfl
 rw[e3]at h3
 obtain⟨v4,r4,S4,T4,rfl,rfl,h4,q5⟩:=q4.step
 obtain⟨c4,e4⟩:=h4.one rfl
 rw[e4]at h4
 obtain⟨_,rfl,rfl⟩:=q5
 have hsz:cs.length=5:=hv.size
 simp only[Ty.size,Ty.aM,Nat.reduceAdd,Nat.zero_add,List.drop_zero]at e0 e1 e2 e3 e4 hsz
 simp only[wt,cW]at hw
 refine aC JE rfl ?_
 simp(disch:=omega) only[ae,Ii,e0,e1,e2,e3,e4,hsz,aK,aB,SX,SU,SL,reduceCtorEq,Nat.reduceAdd,Nat.reduceLeDiff,reduceIte]
 refine aT (ix h2 (by omega)) ?_
 rintro r0 g0 ⟨t0,d0,U0,rfl,rfl,z0,o0,l0⟩
 obtain⟨y0_0,rfl⟩:=z0.one rfl
 simp(disch:=omega) only[ae,Ii,e0,e1,e2,e3,e4,hsz,aK,aB,SX,SU,SL,reduceCtorEq,Nat.reduceAdd,Nat.reduceLeDiff,reduceIte]
 refine aT (ix (h3.app) (by omega)) ?_
 rintro r1 g1 ⟨t1,d1,U1,rfl,rfl,z1,o1,l1⟩
 obtain⟨y1_0,rfl⟩:=z1.one rfl
 simp(disch:=omega) only[ae,Ii,e0,e1,e2,e3,e4,hsz,aK,aB,SX,SU,SL,reduceCtorEq,Nat.reduceAdd,Nat.reduceLeDiff,reduceIte]
 refine aT (Bw ((h4.app).app) (by omega)) ?_
 rintro r2 g2 ⟨t2,d2,U2,rfl,rfl,z2,o2,l2⟩
 obtain⟨y2_0,rfl⟩:=z2.one rfl
 simp(disch:=omega) only[ae,Ii,e0,e1,e2,e3,e4,hsz,aK,aB,SX,SU,SL,reduceCtorEq,Nat.reduceAdd,Nat.reduceLeDiff,reduceIte]
 refine⟨(t0++(t1++t2)),_,_,by simp only[List.append_assoc],rfl,⟨_,rfl,(Rs.mk (Rp.mkInt lo0 hi0) (Rs.mk (Rp.mkInt lo1 hi1) (Rs.mk ((z0.app).app) (Rs.mk (z1.app) (Rs.mk z2 Rs.nil)))))⟩,?_⟩
 have fr:=(uk.step (uk.step (uk.step (uk.nil h) z0.lt o0 l0) z1.lt o1 l1) z2.lt o2 l2)
 simpa only[List.nil_append,List.append_nil,List.append_assoc]using fr.both
def HY:AF:=⟨1,5,[.cell 2 10 true],(.seq (.ops [.i (.lbox 1 (.s 0)), .i (.lal 2 qz)]) (.seq (.ops [.i (.lal 3 qz)]) (.seq (.ops [qf 4 1 0,ql 5 1 4 1 false,qf 6 3 0,qs 3 6 5 1]) (.seq (.ops [qf 7 1 1,ql 8 1 7 1 false,qf 9 3 1,qs 3 9 8 1]) (.seq (.ops [qf 10 1 2,ql 11 1 10 1 false,qf 12 3 2,qs 3 12 11 1]) (.seq (.ops [qf 13 1 3,ql 14 1 13 1 false,qk 16 174 14,qf 16 3 3,qs 3 16 15 1]) (.seq (.ops [qf 17 1 4,ql 18 1 17 1 false,qk 20 174 18,qf 20 3 4,qs 3 20 19 1]) (.seq (.ops [qf 21 1 5,ql 22 1 21 5 true,qk 24 91 22,qf 24 3 5,qs 3 24 23 5]) (.seq (.ops [ql 25 3 3 10 true,qs 2 2 25 10]) .ret)))))))))⟩
theorem JF:cd 92=some HY:=by kernel_rfl
theorem E9:po cd 92 ak:=by
 intro h cs v S hv hw
 obtain⟨vs,rfl,q0⟩:=hv.st
 obtain⟨v0,r0,S0,T0,rfl,rfl,h0,q1⟩:=q0.step
 obtain⟨n0,e0,rfl,rfl,lo0,hi0⟩:=h0.int
 obtain⟨v1,r1,S1,T1,rfl,rfl,h1,q2⟩:=q1.step
 obtain⟨n1,e1,rfl,rfl,lo1,hi1⟩:=h1.int
 obtain⟨v2,r2,S2,T2,rfl,rfl,h2,q3⟩:=q2.step
 obtain⟨n2,e2,rfl,rfl,lo2,hi2⟩:=h2.int
 obtain⟨v3,r3,S3,T3,rfl,rfl,h3,q4⟩:=q3.step
 obtain⟨c3,e3⟩:=h3.one rfl
 rw[e3]at h3
 obtain⟨v4,r4,S4,T4,rfl,rfl,h4,q5⟩:=q4.step
 obtain⟨c4,e4⟩:=h4.one rfl
 rw[e4]at h4
 obtain⟨v5,r5,S5,T5,rfl,rfl,h5,q6⟩:=q5.step
 obtain⟨_,rfl,rfl⟩:=q6
 have hsz:cs.length=10:=hv.size
 simp only[Ty.size,Ty.aM,Nat.reduceAdd,Nat.zero_add,List.drop_zero]at e0 e1 e2 e3 e4 hsz h5
 simp only[wt,cW]at hw
 refine aC JF rfl ?_
 simp(disch:=omega) only[ae,HY,e0,e1,e2,e3,e4,hsz,aK,aB,SX,SU,SL,reduceCtorEq,Nat.reduceAdd,Nat.reduceLeDiff,reduceIte]
 refine aT (ix h3 (by omega)) ?_
 rintro r0 g0 ⟨t0,d0,U0,rfl,rfl,z0,o0,l0⟩
 obtain⟨y0_0,rfl⟩:=z0.one rfl
 simp(disch:=omega) only[ae,HY,e0,e1,e2,e3,e4,hsz,aK,aB,SX,SU,SL,reduceCtorEq,Nat.reduceAdd,Nat.reduceLeDiff,reduceIte]
 refine aT (ix (h4.app) (by omega)) ?_
 rintro r1 g1 ⟨t1,d1,U1,rfl,rfl,z1,o1,l1⟩
 obtain⟨y1_0,rfl⟩:=z1.one rfl
 simp(disch:=omega) only[ae,HY,e0,e1,e2,e3,e4,hsz,aK,aB,SX,SU,SL,reduceCtorEq,Nat.reduceAdd,Nat.reduceLeDiff,reduceIte]
 refine aT (HO ((h5.app).app) (by omega)) ?_
 rintro r2 g2 ⟨t2,d2,U2,rfl,rfl,z2,o2,l2⟩
 obtain⟨y2_0,y2_1,y2_2,y2_3,y2_4,rfl⟩:=Gp z2.size
 simp(disch:=omega) only[ae,HY,e0,e1,e2,e3,e4,hsz,aK,aB,SX,SU,SL,reduceCtorEq,Nat.reduceAdd,Nat.reduceLeDiff,reduceIte]
 refine⟨(t0++(t1++t2)),_,_,by simp only[List.append_assoc],rfl,⟨_,rfl,(Rs.mk (Rp.mkInt lo0 hi0) (Rs.mk (Rp.mkInt lo1 hi1) (Rs.mk (Rp.mkInt lo2 hi2) (Rs.mk ((z0.app).app) (Rs.mk (z1.app) (Rs.mk z2 Rs.nil))))))⟩,?_⟩
 have fr:=(uk.step (uk.step (uk.step (uk.nil h) z0.lt o0 l0) z1.lt o1 l1) z2.lt o2 l2)
 simpa only[List.nil_append,List.append_nil,List.append_assoc]using fr.both
def Kh:AF:=⟨1,5,[.tmp 2],(.seq (.ops [.i (.mov 2 (.c (.val false [.nils])))]) (.seq (.ops [qm 5 0,qn 6 5, .i (.mks 7 40 10 160 qz (.s 6)),qm 3 7]) (.seq (.seq (.ops [.i (.mov 4 (qi 0))]) (.block 0 (.loop [21,20,19,18,17,16,15,14,13,12,11,10,9,8] (.seq (.seq (.ops [qm 8 4,qm 9 0,qn 10 9,qd 11 .lss 8 10]) (.cond (.s 11) .skip (.exit 0))) (.seq (.block 1 (.ops [qm 14 3,qm 15 4,qm 16 0,qm 17 4, .i (.iad 18 (.s 16) (.s 17) 10), .i (.ldh 19 (.s 18) 10 true),qk 21 92 19, .i (.iad 21 (.s 14) (.s 15) 10), .i (.sth (.s 21) (.s 20) 10)])) (.ops [qm 12 4, .i (.bin 13 .add (.s 12) (qi 1)),qm 4 13])))))) (.seq (.ops [qm 22 3,qm 2 22]) .ret))))⟩
theorem JV:cd 69=some Kh:=by kernel_rfl
theorem C7:po cd 69 (.sl ak):=CU JV (by omega) rfl E9
def IJ:AF:=⟨1,4,[.cell 2 6 true],(.seq (.ops [.i (.lbox 1 (.s 0)), .i (.lal 2 [.int .i64 0, .int .i64 0, .int .i64 0, .int .i64 0, .int .i64 0, .nils])]) (.seq (.ops [.i (.lal 3 [.int .i64 0, .int .i64 0, .int .i64 0, .int .i64 0, .int .i64 0, .nils])]) (.seq (.ops [qf 4 1 0,ql 5 1 4 5 true,qk 7 31 5,qf 7 3 0,qs 3 7 6 5]) (.seq (.ops [qf 8 1 5,ql 9 1 8 1 false,qk 11 69 9,qf 11 3 5,qs 3 11 10 1]) (.seq (.ops [ql 12 3 3 6 true,qs 2 2 12 6]) .ret)))))⟩
theorem JW:cd 19=some IJ:=by kernel_rfl
theorem lL:po cd 19 TForest:=by
 intro h cs v S hv hw
 obtain⟨vs,rfl,q0⟩:=hv.st
 obtain⟨v0,r0,S0,T0,rfl,rfl,h0,q1⟩:=q0.step
 obtain⟨v1,r1,S1,T1,rfl,rfl,h1,q2⟩:=q1.step
 obtain⟨c1,e1⟩:=h1.one rfl
 rw[e1]at h1
 obtain⟨_,rfl,rfl⟩:=q2
 have hsz:cs.length=6:=hv.size
 simp only[Ty.size,Ty.aM,Nat.reduceAdd,Nat.zero_add,List.drop_zero]at e1 hsz h0
 simp only[wt,cW]at hw
 refine aC JW rfl ?_
 simp(disch:=omega) only[ae,IJ,e1,hsz,aK,aB,SX,SU,SL,reduceCtorEq,Nat.reduceAdd,Nat.reduceLeDiff,reduceIte]
 refine aT (BK h0 (by omega)) ?_
 rintro r0 g0 ⟨t0,d0,U0,rfl,rfl,z0,o0,l0⟩
 obtain⟨y0_0,y0_1,y0_2,y0_3,y0_4,rfl⟩:=Gp z0.size
 simp(disch:=omega) only[ae,IJ,e1,hsz,aK,aB,SX,SU,SL,reduceCtorEq,Nat.reduceAdd,Nat.reduceLeDiff,reduceIte]
 refine aT (C7 (h1.app) (by omega)) ?_
 rintro r1 g1 ⟨t1,d1,U1,rfl,rfl,z1,o1,l1⟩
 obtain⟨y1_0,rfl⟩:=z1.one rfl
 simp(disch:=omega) only[ae,IJ,e1,hsz,aK,aB,SX,SU,SL,reduceCtorEq,Nat.reduceAdd,Nat.reduceLeDiff,reduceIte]
 refine⟨(t0++t1),_,_,by simp only[List.append_assoc],rfl,⟨_,rfl,(Rs.mk (z0.app) (Rs.mk z1 Rs.nil))⟩,?_⟩
 have fr:=(uk.step (uk.step (uk.nil h) z0.lt o0 l0) z1.lt o1 l1)
 simpa only[List.nil_append,List.append_nil,List.append_assoc]using fr.both
theorem Ik {l:List C} (h:l.length=2):∃x0 x1,l= [x0,x1]:=by
 rcases l with _|⟨x0,l⟩
 ·simp at h
 rcases l with _|⟨x1,l⟩
 ·simp at h
 ·simp at h;exact⟨x0,x1,by simp[h]⟩
def Be:AF:=⟨2,4,[.tmp 4],(.seq (.ops [.i (.lbox 2 (.s 0)), .i (.mov 4 (qi 0))]) (.seq (.ops [qf 5 2 1,ql 6 2 5 1 false,qm 7 1, .i (.call 9 149 false [(.s 6),(.s 7)]),qm 1 8]) (.seq (.seq (.ops [qm 9 1, .i (.bin 10 .lss (.s 9) (qi 0))]) (.cond (.s 10) (.seq (.ops [.i (.mov 4 (qi (-1)))]) .ret) .skip)) (.seq (.ops [qm 11 1,qm 4 11]) .ret))))⟩
theorem Jk:cd 141=some Be:=by kernel_rfl
theorem Hx:eN cd 141 cg:=by
 intro h cs v S k hv hk
 obtain⟨vs,rfl,q0⟩:=hv.st
 obtain⟨v0,r0,S0,T0,rfl,rfl,h0,q1⟩:=q0.step
 obtain⟨n0,e0,rfl,rfl,lo0,hi0⟩:=h0.int
 obtain⟨v1,r1,S1,T1,rfl,rfl,h1,q2⟩:=q1.step
 obtain⟨c1,e1⟩:=h1.one rfl
 rw[e1]at h1
 obtain⟨_,rfl,rfl⟩:=q2
 have hsz:cs.length=2:=hv.size
 simp only[Ty.size,Ty.aM,Nat.reduceAdd,Nat.zero_add,List.drop_zero]at e0 e1 hsz
 have hw:wt (.r [.i n0,v1])=wt v1:=by simp only[wt,cW];omega
 rw[hw]
 refine aC Jk rfl ?_
 simp(disch:=omega) only[Be,e0,e1,hsz,aK,aB,SX,SU,SL,reduceCtorEq,Nat.reduceAdd,Nat.reduceLeDiff,reduceIte]
 refine eN.go hM h1 (k:=k) (by omega) (fun hf0=> ?_) (fun hf0=> ?_)
 case refine_2=>
  simp(disch:=omega) only[ae,Be,e0,e1,hsz,aK,aB,SX,SU,SL,reduceCtorEq,Nat.reduceAdd,Nat.reduceLeDiff,reduceIte]
  refine aw (fun hn=> ?_) (fun hn=>absurd (show(-1:Int) < 0 by omega) hn)
  simp(disch:=omega) only[Be,e0,e1,hsz,aK,aB,SX,SU,SL,reduceCtorEq,Nat.reduceAdd,Nat.reduceLeDiff,reduceIte]
  rw[if_neg (by omega)]
 simp(disch:=omega) only[ae,Be,e0,e1,hsz,aK,aB,SX,SU,SL,reduceCtorEq,Nat.reduceAdd,Nat.reduceLeDiff,reduceIte]
 refine aw (fun hn=>absurd hn (by omega)) (fun hn=> ?_)
 simp(disch:=omega) only[Be,e0,e1,hsz,aK,aB,SX,SU,SL,reduceCtorEq,Nat.reduceAdd,Nat.reduceLeDiff,reduceIte]
 congr 3
 omega
def JJ:AF:=⟨2,5,[.tmp 4],(.seq (.ops [.i (.mov 4 (qi 0))]) (.seq (.ops [qm 6 1,qm 7 0,qn 8 7,qd 9 .sub 6 8,qm 1 9]) (.seq (.seq (.ops [qm 10 1, .i (.bin 11 .lss (.s 10) (qi 0))]) (.cond (.s 11) (.seq (.ops [.i (.mov 4 (qi (-1)))]) .ret) .skip)) (.seq (.seq (.ops [.i (.mov 5 (qi 0))]) (.block 0 (.loop [25,24,23,22,21,20,19,18,17,16,15,14,13,12] (.seq (.seq (.ops [qm 12 5,qm 13 0,qn 14 13,qd 15 .lss 12 14]) (.cond (.s 15) .skip (.exit 0))) (.seq (.block 1 (.seq (.ops [qm 18 0,qm 19 5, .i (.iad 20 (.s 18) (.s 19) 2), .i (.ldh 21 (.s 20) 2 true),qm 22 1, .i (.call 24 141 false [(.s 21),(.s 22)]),qm 1 23]) (.seq (.ops [qm 24 1, .i (.bin 25 .lss (.s 24) (qi 0))]) (.cond (.s 25) (.seq (.ops [.i (.mov 4 (qi (-1)))]) .ret) .skip)))) (.ops [qm 16 5, .i (.bin 17 .add (.s 16) (qi 1)),qm 5 17])))))) (.seq (.ops [qm 26 1,qm 4 26]) .ret)))))⟩
theorem J2:cd 65=some JJ:=by kernel_rfl
theorem Fw:eN cd 65 (.sl cg):=CC J2 Hx
def HI:AF:=⟨2,4,[.tmp 4],(.seq (.ops [.i (.lbox 2 (.s 0)), .i (.mov 4 (qi 0))]) (.seq (.ops [qf 5 2 0,ql 6 2 5 1 false,qm 7 1, .i (.call 9 65 false [(.s 6),(.s 7)]),qm 1 8]) (.seq (.seq (.ops [qm 9 1, .i (.bin 10 .lss (.s 9) (qi 0))]) (.cond (.s 10) (.seq (.ops [.i (.mov 4 (qi (-1)))]) .ret) .skip)) (.seq (.ops [qm 11 1,qm 4 11]) .ret))))⟩
theorem JI:cd 17=some HI:=by kernel_rfl
theorem CE:eN cd 17 TTable:=by
 intro h cs v S k hv hk
 obtain⟨vs,rfl,q0⟩:=hv.st
 obtain⟨v0,r0,S0,T0,rfl,rfl,h0,q1⟩:=q0.step
 obtain⟨c0,e0⟩:=h0.one rfl
 rw[e0]at h0
 obtain⟨_,rfl,rfl⟩:=q1
 have hsz:cs.length=1:=hv.size
 simp only[Ty.size,Ty.aM,Nat.reduceAdd,Nat.zero_add,List.drop_zero]at e0 hsz
 have hw:wt (.r [v0])=wt v0:=by simp only[wt,cW];omega
 rw[hw]
 refine aC JI rfl ?_
 simp(disch:=omega) only[HI,e0,hsz,aK,aB,SX,SU,SL,reduceCtorEq,Nat.reduceAdd,Nat.reduceLeDiff,reduceIte]
 refine eN.go Fw h0 (k:=k) (by omega) (fun hf0=> ?_) (fun hf0=> ?_)
 case refine_2=>
  simp(disch:=omega) only[ae,HI,e0,hsz,aK,aB,SX,SU,SL,reduceCtorEq,Nat.reduceAdd,Nat.reduceLeDiff,reduceIte]
  refine aw (fun hn=> ?_) (fun hn=>absurd (show(-1:Int) < 0 by omega) hn)
  simp(disch:=omega) only[HI,e0,hsz,aK,aB,SX,SU,SL,reduceCtorEq,Nat.reduceAdd,Nat.reduceLeDiff,reduceIte]
  rw[if_neg (by omega)]
 simp(disch:=omega) only[ae,HI,e0,hsz,aK,aB,SX,SU,SL,reduceCtorEq,Nat.reduceAdd,Nat.reduceLeDiff,reduceIte]
 refine aw (fun hn=>absurd hn (by omega)) (fun hn=> ?_)
 simp(disch:=omega) only[HI,e0,hsz,aK,aB,SX,SU,SL,reduceCtorEq,Nat.reduceAdd,Nat.reduceLeDiff,reduceIte]
 congr 3
 omega
def GC:AF:=⟨1,4,[.cell 2 2 true],(.seq (.ops [.i (.lbox 1 (.s 0)), .i (.lal 2 [.int .i64 0, .nils])]) (.seq (.ops [.i (.lal 3 [.int .i64 0, .nils])]) (.seq (.ops [qf 4 1 0,ql 5 1 4 1 false,qf 6 3 0,qs 3 6 5 1]) (.seq (.ops [qf 7 1 1,ql 8 1 7 1 false,qk 10 174 8,qf 10 3 1,qs 3 10 9 1]) (.seq (.ops [ql 11 3 3 2 true,qs 2 2 11 2]) .ret)))))⟩
theorem Je:cd 146=some GC:=by kernel_rfl
theorem GH:po cd 146 cg:=by
 intro h cs v S hv hw
 obtain⟨vs,rfl,q0⟩:=hv.st
 obtain⟨v0,r0,S0,T0,rfl,rfl,h0,q1⟩:=q0.step
 obtain⟨n0,e0,rfl,rfl,lo0,hi0⟩:=h0.int
 obtain⟨v1,r1,S1,T1,rfl,rfl,h1,q2⟩:=q1.step
 obtain⟨c1,e1⟩:=h1.one rfl
 rw[e1]at h1
 obtain⟨_,rfl,rfl⟩:=q2
 have hsz:cs.length=2:=hv.size
 simp only[Ty.size,Ty.aM,Nat.reduceAdd,Nat.zero_add,List.drop_zero]at e0 e1 hsz
 simp only[wt,cW]at hw
 refine aC Je rfl ?_
 simp(disch:=omega) only[ae,GC,e0,e1,hsz,aK,aB,SX,SU,SL,reduceCtorEq,Nat.reduceAdd,Nat.reduceLeDiff,reduceIte]
 refine aT (ix h1 (by omega)) ?_
 rintro r0 g0 ⟨t0,d0,U0,rfl,rfl,z0,o0,l0⟩
 obtain⟨y0_0,rfl⟩:=z0.one rfl
 simp(disch:=omega) only[ae,GC,e0,e1,hsz,aK,aB,SX,SU,SL,reduceCtorEq,Nat.reduceAdd,Nat.reduceLeDiff,reduceIte]
 refine⟨t0,_,_,by simp only[List.append_assoc],rfl,⟨_,rfl,(Rs.mk (Rp.mkInt lo0 hi0) (Rs.mk z0 Rs.nil))⟩,?_⟩
 have fr:=(uk.step (uk.nil h) z0.lt o0 l0)
 simpa only[List.nil_append,List.append_nil,List.append_assoc]using fr.both
def JP:AF:=⟨1,5,[.tmp 2],(.seq (.ops [.i (.mov 2 (.c (.val false [.nils])))]) (.seq (.ops [qm 5 0,qn 6 5, .i (.mks 7 197 2 32 [.int .i64 0, .nils] (.s 6)),qm 3 7]) (.seq (.seq (.ops [.i (.mov 4 (qi 0))]) (.block 0 (.loop [21,20,19,18,17,16,15,14,13,12,11,10,9,8] (.seq (.seq (.ops [qm 8 4,qm 9 0,qn 10 9,qd 11 .lss 8 10]) (.cond (.s 11) .skip (.exit 0))) (.seq (.block 1 (.ops [qm 14 3,qm 15 4,qm 16 0,qm 17 4, .i (.iad 18 (.s 16) (.s 17) 2), .i (.ldh 19 (.s 18) 2 true),qk 21 146 19, .i (.iad 21 (.s 14) (.s 15) 2), .i (.sth (.s 21) (.s 20) 2)])) (.ops [qm 12 4, .i (.bin 13 .add (.s 12) (qi 1)),qm 4 13])))))) (.seq (.ops [qm 22 3,qm 2 22]) .ret))))⟩
theorem JS:cd 70=some JP:=by kernel_rfl
theorem FO:po cd 70 (.sl cg):=CU JS (by omega) rfl GH
def IQ:AF:=⟨1,4,[.cell 2 1 true],(.seq (.ops [.i (.lbox 1 (.s 0)), .i (.lal 2 [.nils])]) (.seq (.ops [.i (.lal 3 [.nils])]) (.seq (.ops [qf 4 1 0,ql 5 1 4 1 false,qk 7 70 5,qf 7 3 0,qs 3 7 6 1]) (.seq (.ops [ql 8 3 3 1 true,qs 2 2 8 1]) .ret))))⟩
theorem J5:cd 20=some IQ:=by kernel_rfl
theorem oU:po cd 20 TTable:=by
 intro h cs v S hv hw
 obtain⟨vs,rfl,q0⟩:=hv.st
 obtain⟨v0,r0,S0,T0,rfl,rfl,h0,q1⟩:=q0.step
 obtain⟨c0,e0⟩:=h0.one rfl
 rw[e0]at h0
 obtain⟨_,rfl,rfl⟩:=q1
 have hsz:cs.length=1:=hv.size
 simp only[Ty.size,Ty.aM,Nat.reduceAdd,Nat.zero_add,List.drop_zero]at e0 hsz
 simp only[wt,cW]at hw
 refine aC J5 rfl ?_
 simp(disch:=omega) only[ae,IQ,e0,hsz,aK,aB,SX,SU,SL,reduceCtorEq,Nat.reduceAdd,Nat.reduceLeDiff,reduceIte]
 refine aT (FO h0 (by omega)) ?_
 rintro r0 g0 ⟨t0,d0,U0,rfl,rfl,z0,o0,l0⟩
 obtain⟨y0_0,rfl⟩:=z0.one rfl
 simp(disch:=omega) only[ae,IQ,e0,hsz,aK,aB,SX,SU,SL,reduceCtorEq,Nat.reduceAdd,Nat.reduceLeDiff,reduceIte]
 refine⟨t0,_,_,by simp only[List.append_assoc],rfl,⟨_,rfl,(Rs.mk z0 Rs.nil)⟩,?_⟩
 have fr:=(uk.step (uk.nil h) z0.lt o0 l0)
 simpa only[List.nil_append,List.append_nil,List.append_assoc]using fr.both
def B7:AF:=⟨2,5,[.tmp 4],(.seq (.ops [.i (.lbox 2 (.s 0)), .i (.lbox 3 (.s 1)), .i (.mov 4 (qb false))]) (.seq (.seq (.ops [qf 5 2 0,ql 6 2 5 1 false,qf 7 3 0,ql 8 3 7 1 false,qd 9 .neq 6 8]) (.cond (.s 9) (.seq (.ops [.i (.mov 4 (qb false))]) .ret) .skip)) (.seq (.seq (.ops [qf 10 2 1,ql 11 2 10 1 false,qf 12 3 1,ql 13 3 12 1 false,qd 14 .neq 11 13]) (.cond (.s 14) (.seq (.ops [.i (.mov 4 (qb false))]) .ret) .skip)) (.seq (.seq (.ops [qf 15 2 2,ql 16 2 15 1 false,qf 17 3 2,ql 18 3 17 1 false,qd 19 .neq 16 18]) (.cond (.s 19) (.seq (.ops [.i (.mov 4 (qb false))]) .ret) .skip)) (.seq (.seq (.ops [qf 20 2 3,ql 21 2 20 1 false,qf 22 3 3,ql 23 3 22 1 false,qd 24 .neq 21 23]) (.cond (.s 24) (.seq (.ops [.i (.mov 4 (qb false))]) .ret) .skip)) (.seq (.seq (.ops [qf 25 2 4,ql 26 2 25 1 false,qf 27 3 4,ql 28 3 27 1 false,qd 29 .neq 26 28]) (.cond (.s 29) (.seq (.ops [.i (.mov 4 (qb false))]) .ret) .skip)) (.seq (.ops [.i (.mov 4 (qb true))]) .ret)))))))⟩
theorem JZ:cd 74=some B7:=by kernel_rfl
theorem BT:dO cd 74 br:=by
 intro h ca cb va vb Sa Sb ha hb
 obtain⟨avs,rfl,aq0⟩:=ha.st
 obtain⟨av0,ar0,aS0,aT0,rfl,rfl,ah0,aq1⟩:=aq0.step
 obtain⟨an0,ae0,rfl,rfl,alo0,ahi0⟩:=ah0.int
 obtain⟨av1,ar1,aS1,aT1,rfl,rfl,ah1,aq2⟩:=aq1.step
 obtain⟨an1,ae1,rfl,rfl,alo1,ahi1⟩:=ah1.int
 obtain⟨av2,ar2,aS2,aT2,rfl,rfl,ah2,aq3⟩:=aq2.step
 obtain⟨an2,ae2,rfl,rfl,alo2,ahi2⟩:=ah2.int
 obtain⟨av3,ar3,aS3,aT3,rfl,rfl,ah3,aq4⟩:=aq3.step
 obtain⟨an3,ae3,rfl,rfl,alo3,ahi3⟩:=ah3.int
 obtain⟨av4,ar4,aS4,aT4,rfl,rfl,ah4,aq5⟩:=aq4.step
 obtain⟨an4,ae4,rfl,rfl,alo4,ahi4⟩:=ah4.int
 obtain⟨_,rfl,rfl⟩:=aq5
 have ahsz:ca.length=5:=ha.size
 obtain⟨bvs,rfl,bq0⟩:=hb.st
 obtain⟨bv0,br0,bS0,bT0,rfl,rfl,bh0,bq1⟩:=bq0.step
 obtain⟨bn0,be0,rfl,rfl,blo0,bhi0⟩:=bh0.int
 obtain⟨bv1,br1,bS1,bT1,rfl,rfl,bh1,bq2⟩:=bq1.step
 obtain⟨bn1,be1,rfl,rfl,blo1,bhi1⟩:=bh1.int
 obtain⟨bv2,br2,bS2,bT2,rfl,rfl,bh2,bq3⟩:=bq2.step
 obtain⟨bn2,be2,rfl,rfl,blo2,bhi2⟩:=bh2.int
 obtain⟨bv3,br3,bS3,bT3,rfl,rfl,bh3,bq4⟩:=bq3.step
 obtain⟨bn3,be3,rfl,rfl,blo3,bhi3⟩:=bh3.int
 obtain⟨bv4,br4,bS4,bT4,rfl,rfl,bh4,bq5⟩:=bq4.step
 obtain⟨bn4,be4,rfl,rfl,blo4,bhi4⟩:=bh4.int
 obtain⟨_,rfl,rfl⟩:=bq5
 have bhsz:cb.length=5:=hb.size
 simp only[Ty.size,Ty.aM,Nat.reduceAdd,Nat.zero_add,List.drop_zero]at ae0 ae1 ae2 ae3 ae4 ahsz be0 be1 be2 be3 be4 bhsz
 refine aC JZ rfl ?_
 simp(disch:=omega) only[ae,B7,ae0,ae1,ae2,ae3,ae4,ahsz,be0,be1,be2,be3,be4,bhsz,aK,aB,SX,SU,SL,reduceCtorEq,Nat.reduceAdd,Nat.reduceLeDiff,reduceIte]
 refine aw (fun hn=> ?_) (fun hn=> ?_)
 case refine_1=>
  simp(disch:=omega) only[ae,B7,ae0,ae1,ae2,ae3,ae4,ahsz,be0,be1,be2,be3,be4,bhsz,aK,aB,SX,SU,SL,reduceCtorEq,Nat.reduceAdd,Nat.reduceLeDiff,reduceIte]
  simp[hn]
 have d0:an0=bn0:=by omega
 subst d0
 simp(disch:=omega) only[ae,B7,ae0,ae1,ae2,ae3,ae4,ahsz,be0,be1,be2,be3,be4,bhsz,aK,aB,SX,SU,SL,reduceCtorEq,Nat.reduceAdd,Nat.reduceLeDiff,reduceIte]
 refine aw (fun hn=> ?_) (fun hn=> ?_)
 case refine_1=>
  simp(disch:=omega) only[ae,B7,ae0,ae1,ae2,ae3,ae4,ahsz,be0,be1,be2,be3,be4,bhsz,aK,aB,SX,SU,SL,reduceCtorEq,Nat.reduceAdd,Nat.reduceLeDiff,reduceIte]
  simp[hn]
 have d1:an1=bn1:=by omega
 subst d1
 simp(disch:=omega) only[ae,B7,ae0,ae1,ae2,ae3,ae4,ahsz,be0,be1,be2,be3,be4,bhsz,aK,aB,SX,SU,SL,reduceCtorEq,Nat.reduceAdd,Nat.reduceLeDiff,reduceIte]
 refine aw (fun hn=> ?_) (fun hn=> ?_)
 case refine_1=>
  simp(disch:=omega) only[ae,B7,ae0,ae1,ae2,ae3,ae4,ahsz,be0,be1,be2,be3,be4,bhsz,aK,aB,SX,SU,SL,reduceCtorEq,Nat.reduceAdd,Nat.reduceLeDiff,reduceIte]
  simp[hn]
 have d2:an2=bn2:=by omega
 subst d2
 simp(disch:=omega) only[ae,B7,ae0,ae1,ae2,ae3,ae4,ahsz,be0,be1,be2,be3,be4,bhsz,aK,aB,SX,SU,SL,reduceCtorEq,Nat.reduceAdd,Nat.reduceLeDiff,reduceIte]
 refine aw (fun hn=> ?_) (fun hn=> ?_)
 case refine_1=>
  simp(disch:=omega) only[ae,B7,ae0,ae1,ae2,ae3,ae4,ahsz,be0,be1,be2,be3,be4,bhsz,aK,aB,SX,SU,SL,reduceCtorEq,Nat.reduceAdd,Nat.reduceLeDiff,reduceIte]
  simp[hn]
 have d3:an3=bn3:=by omega
 subst d3
 simp(disch:=omega) only[ae,B7,ae0,ae1,ae2,ae3,ae4,ahsz,be0,be1,be2,be3,be4,bhsz,aK,aB,SX,SU,SL,reduceCtorEq,Nat.reduceAdd,Nat.reduceLeDiff,reduceIte]
 refine aw (fun hn=> ?_) (fun hn=> ?_)
 case refine_1=>
  simp(disch:=omega) only[ae,B7,ae0,ae1,ae2,ae3,ae4,ahsz,be0,be1,be2,be3,be4,bhsz,aK,aB,SX,SU,SL,reduceCtorEq,Nat.reduceAdd,Nat.reduceLeDiff,reduceIte]
  simp[hn]
 have d4:an4=bn4:=by omega
 subst d4
 simp(disch:=omega) only[ae,B7,ae0,ae1,ae2,ae3,ae4,ahsz,be0,be1,be2,be3,be4,bhsz,aK,aB,SX,SU,SL,reduceCtorEq,Nat.reduceAdd,Nat.reduceLeDiff,reduceIte]
def Kg:AF:=⟨2,5,[.tmp 4],(.seq (.ops [.i (.mov 4 (qb false))]) (.seq (.seq (.ops [qm 6 0,qn 7 6,qm 8 1,qn 9 8,qd 10 .neq 7 9]) (.cond (.s 10) (.seq (.ops [.i (.mov 4 (qb false))]) .ret) .skip)) (.seq (.seq (.ops [.i (.mov 5 (qi 0))]) (.block 0 (.loop [25,24,23,22,21,20,19,18,17,16,15,14,13,12,11] (.seq (.seq (.ops [qm 11 5,qm 12 0,qn 13 12,qd 14 .lss 11 13]) (.cond (.s 14) .skip (.exit 0))) (.seq (.block 1 (.seq (.ops [qm 17 0,qm 18 5, .i (.iad 19 (.s 17) (.s 18) 1), .i (.ldh 20 (.s 19) 1 false),qm 21 1,qm 22 5, .i (.iad 23 (.s 21) (.s 22) 1), .i (.ldh 24 (.s 23) 1 false),qd 25 .neq 20 24]) (.cond (.s 25) (.seq (.ops [.i (.mov 4 (qb false))]) .ret) .skip))) (.ops [qm 15 5, .i (.bin 16 .add (.s 15) (qi 1)),qm 5 16])))))) (.seq (.ops [.i (.mov 4 (qb true))]) .ret))))⟩
theorem Kf:cd 39=some Kg:=by kernel_rfl
theorem gU:dO cd 39 (.sl (.int .u8)):=E8 Kf
def I5:AF:=⟨2,5,[.tmp 4],(.seq (.ops [.i (.mov 4 (qb false))]) (.seq (.seq (.ops [qm 6 0,qn 7 6,qm 8 1,qn 9 8,qd 10 .neq 7 9]) (.cond (.s 10) (.seq (.ops [.i (.mov 4 (qb false))]) .ret) .skip)) (.seq (.seq (.ops [.i (.mov 5 (qi 0))]) (.block 0 (.loop [26,25,24,23,22,21,20,19,18,17,16,15,14,13,12,11] (.seq (.seq (.ops [qm 11 5,qm 12 0,qn 13 12,qd 14 .lss 11 13]) (.cond (.s 14) .skip (.exit 0))) (.seq (.block 1 (.seq (.ops [qm 17 0,qm 18 5, .i (.iad 19 (.s 17) (.s 18) 1), .i (.ldh 20 (.s 19) 1 false),qm 21 1,qm 22 5, .i (.iad 23 (.s 21) (.s 22) 1), .i (.ldh 24 (.s 23) 1 false), .i (.call 26 39 false [(.s 20),(.s 24)]), .i (.not 26 (.s 25))]) (.cond (.s 26) (.seq (.ops [.i (.mov 4 (qb false))]) .ret) .skip))) (.ops [qm 15 5, .i (.bin 16 .add (.s 15) (qi 1)),qm 5 16])))))) (.seq (.ops [.i (.mov 4 (qb true))]) .ret))))⟩
theorem I9:cd 195=some I5:=by kernel_rfl
theorem BA:dO cd 195 (.sl (.sl (.int .u8))):=Ct I9 gU
def rk:AF:=⟨2,6,[.tmp 4],(.seq (.ops [.i (.lbox 2 (.s 0)), .i (.lbox 3 (.s 1)), .i (.mov 4 (qb false))]) (.seq (.seq (.ops [qf 5 2 0,ql 6 2 5 1 false,qf 7 3 0,ql 8 3 7 1 false,qd 9 .neq 6 8]) (.cond (.s 9) (.seq (.ops [.i (.mov 4 (qb false))]) .ret) .skip)) (.seq (.seq (.ops [qf 10 2 1,ql 11 2 10 1 false,qf 12 3 1,ql 13 3 12 1 false,qd 14 .neq 11 13]) (.cond (.s 14) (.seq (.ops [.i (.mov 4 (qb false))]) .ret) .skip)) (.seq (.seq (.ops [qf 15 2 2,ql 16 2 15 1 false,qf 17 3 2,ql 18 3 17 1 false, .i (.call 20 39 false [(.s 16),(.s 18)]), .i (.not 20 (.s 19))]) (.cond (.s 20) (.seq (.ops [.i (.mov 4 (qb false))]) .ret) .skip)) (.seq (.seq (.ops [qf 21 2 3,ql 22 2 21 1 false,qf 23 3 3,ql 24 3 23 1 false, .i (.call 26 39 false [(.s 22),(.s 24)]), .i (.not 26 (.s 25))]) (.cond (.s 26) (.seq (.ops [.i (.mov 4 (qb false))]) .ret) .skip)) (.seq (.seq (.ops [qf 27 2 4,ql 28 2 27 1 false,qf 29 3 4,ql 30 3 29 1 false, .i (.call 32 195 false [(.s 28),(.s 30)]), .i (.not 32 (.s 31))]) (.cond (.s 32) (.seq (.ops [.i (.mov 4 (qb false))]) .ret) .skip)) (.seq (.ops [.i (.mov 4 (qb true))]) .ret)))))))⟩
theorem Jf:cd 101=some rk:=by kernel_rfl
theorem Is:dO cd 101 wv:=by
 intro h ca cb va vb Sa Sb ha hb
 obtain⟨avs,rfl,aq0⟩:=ha.st
 obtain⟨av0,ar0,aS0,aT0,rfl,rfl,ah0,aq1⟩:=aq0.step
 obtain⟨an0,ae0,rfl,rfl,alo0,ahi0⟩:=ah0.int
 obtain⟨av1,ar1,aS1,aT1,rfl,rfl,ah1,aq2⟩:=aq1.step
 obtain⟨an1,ae1,rfl,rfl,alo1,ahi1⟩:=ah1.int
 obtain⟨av2,ar2,aS2,aT2,rfl,rfl,ah2,aq3⟩:=aq2.step
 obtain⟨ac2,ae2⟩:=ah2.one rfl
 rw[ae2]at ah2
 obtain⟨av3,ar3,aS3,aT3,rfl,rfl,ah3,aq4⟩:=aq3.step
 obtain⟨ac3,ae3⟩:=ah3.one rfl
 rw[ae3]at ah3
 obtain⟨av4,ar4,aS4,aT4,rfl,rfl,ah4,aq5⟩:=aq4.step
 obtain⟨ac4,ae4⟩:=ah4.one rfl
 rw[ae4]at ah4
 obtain⟨_,rfl,rfl⟩:=aq5
 have ahsz:ca.length=5:=ha.size
 obtain⟨bvs,rfl,bq0⟩:=hb.st
 obtain⟨bv0,br0,bS0,bT0,rfl,rfl,bh0,bq1⟩:=bq0.step
 obtain⟨bn0,be0,rfl,rfl,blo0,bhi0⟩:=bh0.int
 obtain⟨bv1,br1,bS1,bT1,rfl,rfl,bh1,bq2⟩:=bq1.step
 obtain⟨bn1,be1,rfl,rfl,blo1,bhi1⟩:=bh1.int
 obtain⟨bv2,br2,bS2,bT2,rfl,rfl,bh2,bq3⟩:=bq2.step
 obtain⟨bc2,be2⟩:=bh2.one rfl
 rw[be2]at bh2
 obtain⟨bv3,br3,bS3,bT3,rfl,rfl,bh3,bq4⟩:=bq3.step
 obtain⟨bc3,be3⟩:=bh3.one rfl
 rw[be3]at bh3
 obtain⟨bv4,br4,bS4,bT4,rfl,rfl,bh4,bq5⟩:=bq4.step
 obtain⟨bc4,be4⟩:=bh4.one rfl
 rw[be4]at bh4
 obtain⟨_,rfl,rfl⟩:=bq5
 have bhsz:cb.length=5:=hb.size
 simp only[Ty.size,Ty.aM,Nat.reduceAdd,Nat.zero_add,List.drop_zero]at ae0 ae1 ae2 ae3 ae4 ahsz be0 be1 be2 be3 be4 bhsz
 refine aC Jf rfl ?_
 simp(disch:=omega) only[ae,rk,ae0,ae1,ae2,ae3,ae4,ahsz,be0,be1,be2,be3,be4,bhsz,aK,aB,SX,SU,SL,reduceCtorEq,Nat.reduceAdd,Nat.reduceLeDiff,reduceIte]
 refine aw (fun hn=> ?_) (fun hn=> ?_)
 case refine_1=>
  simp(disch:=omega) only[ae,rk,ae0,ae1,ae2,ae3,ae4,ahsz,be0,be1,be2,be3,be4,bhsz,aK,aB,SX,SU,SL,reduceCtorEq,Nat.reduceAdd,Nat.reduceLeDiff,reduceIte]
  simp[hn]
 have d0:an0=bn0:=by omega
 subst d0
 simp(disch:=omega) only[ae,rk,ae0,ae1,ae2,ae3,ae4,ahsz,be0,be1,be2,be3,be4,bhsz,aK,aB,SX,SU,SL,reduceCtorEq,Nat.reduceAdd,Nat.reduceLeDiff,reduceIte]
 refine aw (fun hn=> ?_) (fun hn=> ?_)
 case refine_1=>
  simp(disch:=omega) only[ae,rk,ae0,ae1,ae2,ae3,ae4,ahsz,be0,be1,be2,be3,be4,bhsz,aK,aB,SX,SU,SL,reduceCtorEq,Nat.reduceAdd,Nat.reduceLeDiff,reduceIte]
  simp[hn]
 have d1:an1=bn1:=by omega
 subst d1
 simp(disch:=omega) only[ae,rk,ae0,ae1,ae2,ae3,ae4,ahsz,be0,be1,be2,be3,be4,bhsz,aK,aB,SX,SU,SL,reduceCtorEq,Nat.reduceAdd,Nat.reduceLeDiff,reduceIte]
 refine dO.go gU ah2 bh2 (fun d2=> ?_) (fun d2=> ?_)
 case refine_2=>
  simp(disch:=omega) only[ae,rk,ae0,ae1,ae2,ae3,ae4,ahsz,be0,be1,be2,be3,be4,bhsz,aK,aB,SX,SU,SL,reduceCtorEq,Nat.reduceAdd,Nat.reduceLeDiff,reduceIte]
  simp[d2]
 subst d2
 simp(disch:=omega) only[ae,rk,ae0,ae1,ae2,ae3,ae4,ahsz,be0,be1,be2,be3,be4,bhsz,aK,aB,SX,SU,SL,reduceCtorEq,Nat.reduceAdd,Nat.reduceLeDiff,reduceIte]
 refine dO.go gU ah3 bh3 (fun d3=> ?_) (fun d3=> ?_)
 case refine_2=>
  simp(disch:=omega) only[ae,rk,ae0,ae1,ae2,ae3,ae4,ahsz,be0,be1,be2,be3,be4,bhsz,aK,aB,SX,SU,SL,reduceCtorEq,Nat.reduceAdd,Nat.reduceLeDiff,reduceIte]
  simp[d3]
 subst d3
 simp(disch:=omega) only[ae,rk,ae0,ae1,ae2,ae3,ae4,ahsz,be0,be1,be2,be3,be4,bhsz,aK,aB,SX,SU,SL,reduceCtorEq,Nat.reduceAdd,Nat.reduceLeDiff,reduceIte]
 refine dO.go BA ah4 bh4 (fun d4=> ?_) (fun d4=> ?_)
 case refine_2=>
  simp(disch:=omega) only[ae,rk,ae0,ae1,ae2,ae3,ae4,ahsz,be0,be1,be2,be3,be4,bhsz,aK,aB,SX,SU,SL,reduceCtorEq,Nat.reduceAdd,Nat.reduceLeDiff,reduceIte]
  simp[d4]
 subst d4
 simp(disch:=omega) only[ae,rk,ae0,ae1,ae2,ae3,ae4,ahsz,be0,be1,be2,be3,be4,bhsz,aK,aB,SX,SU,SL,reduceCtorEq,Nat.reduceAdd,Nat.reduceLeDiff,reduceIte]
def AN:AF:=⟨2,6,[.tmp 4],(.seq (.ops [.i (.lbox 2 (.s 0)), .i (.lbox 3 (.s 1)), .i (.mov 4 (qb false))]) (.seq (.seq (.ops [qf 5 2 0,ql 6 2 5 1 false,qf 7 3 0,ql 8 3 7 1 false,qd 9 .neq 6 8]) (.cond (.s 9) (.seq (.ops [.i (.mov 4 (qb false))]) .ret) .skip)) (.seq (.seq (.ops [qf 10 2 1,ql 11 2 10 1 false,qf 12 3 1,ql 13 3 12 1 false,qd 14 .neq 11 13]) (.cond (.s 14) (.seq (.ops [.i (.mov 4 (qb false))]) .ret) .skip)) (.seq (.seq (.ops [qf 15 2 2,ql 16 2 15 1 false,qf 17 3 2,ql 18 3 17 1 false,qd 19 .neq 16 18]) (.cond (.s 19) (.seq (.ops [.i (.mov 4 (qb false))]) .ret) .skip)) (.seq (.seq (.ops [qf 20 2 3,ql 21 2 20 1 false,qf 22 3 3,ql 23 3 22 1 false, .i (.call 25 39 false [(.s 21),(.s 23)]), .i (.not 25 (.s 24))]) (.cond (.s 25) (.seq (.ops [.i (.mov 4 (qb false))]) .ret) .skip)) (.seq (.seq (.ops [qf 26 2 4,ql 27 2 26 1 false,qf 28 3 4,ql 29 3 28 1 false, .i (.call 31 39 false [(.s 27),(.s 29)]), .i (.not 31 (.s 30))]) (.cond (.s 31) (.seq (.ops [.i (.mov 4 (qb false))]) .ret) .skip)) (.seq (.seq (.ops [qf 32 2 5,ql 33 2 32 5 true,qf 34 3 5,ql 35 3 34 5 true, .i (.call 37 101 false [(.s 33),(.s 35)]), .i (.not 37 (.s 36))]) (.cond (.s 37) (.seq (.ops [.i (.mov 4 (qb false))]) .ret) .skip)) (.seq (.ops [.i (.mov 4 (qb true))]) .ret))))))))⟩
theorem JC:cd 73=some AN:=by kernel_rfl
theorem EM:dO cd 73 ak:=by
 intro h ca cb va vb Sa Sb ha hb
 obtain⟨avs,rfl,aq0⟩:=ha.st
 obtain⟨av0,ar0,aS0,aT0,rfl,rfl,ah0,aq1⟩:=aq0.step
 obtain⟨an0,ae0,rfl,rfl,alo0,ahi0⟩:=ah0.int
 obtain⟨av1,ar1,aS1,aT1,rfl,rfl,ah1,aq2⟩:=aq1.step
 obtain⟨an1,ae1,rfl,rfl,alo1,ahi1⟩:=ah1.int
 obtain⟨av2,ar2,aS2,aT2,rfl,rfl,ah2,aq3⟩:=aq2.step
 obtain⟨an2,ae2,rfl,rfl,alo2,ahi2⟩:=ah2.int
 obtain⟨av3,ar3,aS3,aT3,rfl,rfl,ah3,aq4⟩:=aq3.step
 obtain⟨ac3,ae3⟩:=ah3.one rfl
 rw[ae3]at ah3
 obtain⟨av4,ar4,aS4,aT4,rfl,rfl,ah4,aq5⟩:=aq4.step
 obtain⟨ac4,ae4⟩:=ah4.one rfl
 rw[ae4]at ah4
 obtain⟨av5,ar5,aS5,aT5,rfl,rfl,ah5,aq6⟩:=aq5.step
 obtain⟨_,rfl,rfl⟩:=aq6
 have ahsz:ca.length=10:=ha.size
 obtain⟨bvs,rfl,bq0⟩:=hb.st
 obtain⟨bv0,br0,bS0,bT0,rfl,rfl,bh0,bq1⟩:=bq0.step
 obtain⟨bn0,be0,rfl,rfl,blo0,bhi0⟩:=bh0.int
 obtain⟨bv1,br1,bS1,bT1,rfl,rfl,bh1,bq2⟩:=bq1.step
 obtain⟨bn1,be1,rfl,rfl,blo1,bhi1⟩:=bh1.int
 obtain⟨bv2,br2,bS2,bT2,rfl,rfl,bh2,bq3⟩:=bq2.step
 obtain⟨bn2,be2,rfl,rfl,blo2,bhi2⟩:=bh2.int
 obtain⟨bv3,br3,bS3,bT3,rfl,rfl,bh3,bq4⟩:=bq3.step
 obtain⟨bc3,be3⟩:=bh3.one rfl
 rw[be3]at bh3
 obtain⟨bv4,br4,bS4,bT4,rfl,rfl,bh4,bq5⟩:=bq4.step
 obtain⟨bc4,be4⟩:=bh4.one rfl
 rw[be4]at bh4
 obtain⟨bv5,br5,bS5,bT5,rfl,rfl,bh5,bq6⟩:=bq5.step
 obtain⟨_,rfl,rfl⟩:=bq6
 have bhsz:cb.length=10:=hb.size
 simp only[Ty.size,Ty.aM,Nat.reduceAdd,Nat.zero_add,List.drop_zero]at ae0 ae1 ae2 ae3 ae4 ahsz be0 be1 be2 be3 be4 bhsz ah5 bh5
 refine aC JC rfl ?_
 simp(disch:=omega) only[ae,AN,ae0,ae1,ae2,ae3,ae4,ahsz,be0,be1,be2,be3,be4,bhsz,aK,aB,SX,SU,SL,reduceCtorEq,Nat.reduceAdd,Nat.reduceLeDiff,reduceIte]
 refine aw (fun hn=> ?_) (fun hn=> ?_)
 case refine_1=>
  simp(disch:=omega) only[ae,AN,ae0,ae1,ae2,ae3,ae4,ahsz,be0,be1,be2,be3,be4,bhsz,aK,aB,SX,SU,SL,reduceCtorEq,Nat.reduceAdd,Nat.reduceLeDiff,reduceIte]
  simp[hn]
 have d0:an0=bn0:=by omega
 subst d0
 simp(disch:=omega) only[ae,AN,ae0,ae1,ae2,ae3,ae4,ahsz,be0,be1,be2,be3,be4,bhsz,aK,aB,SX,SU,SL,reduceCtorEq,Nat.reduceAdd,Nat.reduceLeDiff,reduceIte]
 refine aw (fun hn=> ?_) (fun hn=> ?_)
 case refine_1=>
  simp(disch:=omega) only[ae,AN,ae0,ae1,ae2,ae3,ae4,ahsz,be0,be1,be2,be3,be4,bhsz,aK,aB,SX,SU,SL,reduceCtorEq,Nat.reduceAdd,Nat.reduceLeDiff,reduceIte]
  simp[hn]
 have d1:an1=bn1:=by omega
 subst d1
 simp(disch:=omega) only[ae,AN,ae0,ae1,ae2,ae3,ae4,ahsz,be0,be1,be2,be3,be4,bhsz,aK,aB,SX,SU,SL,reduceCtorEq,Nat.reduceAdd,Nat.reduceLeDiff,reduceIte]
 refine aw (fun hn=> ?_) (fun hn=> ?_)
 case refine_1=>
  simp(disch:=omega) only[ae,AN,ae0,ae1,ae2,ae3,ae4,ahsz,be0,be1,be2,be3,be4,bhsz,aK,aB,SX,SU,SL,reduceCtorEq,Nat.reduceAdd,Nat.reduceLeDiff,reduceIte]
  simp[hn]
 have d2:an2=bn2:=by omega
 subst d2
 simp(disch:=omega) only[ae,AN,ae0,ae1,ae2,ae3,ae4,ahsz,be0,be1,be2,be3,be4,bhsz,aK,aB,SX,SU,SL,reduceCtorEq,Nat.reduceAdd,Nat.reduceLeDiff,reduceIte]
 refine dO.go gU ah3 bh3 (fun d3=> ?_) (fun d3=> ?_)
 case refine_2=>
  simp(disch:=omega) only[ae,AN,ae0,ae1,ae2,ae3,ae4,ahsz,be0,be1,be2,be3,be4,bhsz,aK,aB,SX,SU,SL,reduceCtorEq,Nat.reduceAdd,Nat.reduceLeDiff,reduceIte]
  simp[d3]
 subst d3
 simp(disch:=omega) only[ae,AN,ae0,ae1,ae2,ae3,ae4,ahsz,be0,be1,be2,be3,be4,bhsz,aK,aB,SX,SU,SL,reduceCtorEq,Nat.reduceAdd,Nat.reduceLeDiff,reduceIte]
 refine dO.go gU ah4 bh4 (fun d4=> ?_) (fun d4=> ?_)
 case refine_2=>
  simp(disch:=omega) only[ae,AN,ae0,ae1,ae2,ae3,ae4,ahsz,be0,be1,be2,be3,be4,bhsz,aK,aB,SX,SU,SL,reduceCtorEq,Nat.reduceAdd,Nat.reduceLeDiff,reduceIte]
  simp[d4]
 subst d4
 simp(disch:=omega) only[ae,AN,ae0,ae1,ae2,ae3,ae4,ahsz,be0,be1,be2,be3,be4,bhsz,aK,aB,SX,SU,SL,reduceCtorEq,Nat.reduceAdd,Nat.reduceLeDiff,reduceIte]
 refine dO.go Is ah5 bh5 (fun d5=> ?_) (fun d5=> ?_)
 case refine_2=>
  simp(disch:=omega) only[ae,AN,ae0,ae1,ae2,ae3,ae4,ahsz,be0,be1,be2,be3,be4,bhsz,aK,aB,SX,SU,SL,reduceCtorEq,Nat.reduceAdd,Nat.reduceLeDiff,reduceIte]
  simp[d5]
 subst d5
 simp(disch:=omega) only[ae,AN,ae0,ae1,ae2,ae3,ae4,ahsz,be0,be1,be2,be3,be4,bhsz,aK,aB,SX,SU,SL,reduceCtorEq,Nat.reduceAdd,Nat.reduceLeDiff,reduceIte]
def JR:AF:=⟨2,5,[.tmp 4],(.seq (.ops [.i (.mov 4 (qb false))]) (.seq (.seq (.ops [qm 6 0,qn 7 6,qm 8 1,qn 9 8,qd 10 .neq 7 9]) (.cond (.s 10) (.seq (.ops [.i (.mov 4 (qb false))]) .ret) .skip)) (.seq (.seq (.ops [.i (.mov 5 (qi 0))]) (.block 0 (.loop [26,25,24,23,22,21,20,19,18,17,16,15,14,13,12,11] (.seq (.seq (.ops [qm 11 5,qm 12 0,qn 13 12,qd 14 .lss 11 13]) (.cond (.s 14) .skip (.exit 0))) (.seq (.block 1 (.seq (.ops [qm 17 0,qm 18 5, .i (.iad 19 (.s 17) (.s 18) 10), .i (.ldh 20 (.s 19) 10 true),qm 21 1,qm 22 5, .i (.iad 23 (.s 21) (.s 22) 10), .i (.ldh 24 (.s 23) 10 true), .i (.call 26 73 false [(.s 20),(.s 24)]), .i (.not 26 (.s 25))]) (.cond (.s 26) (.seq (.ops [.i (.mov 4 (qb false))]) .ret) .skip))) (.ops [qm 15 5, .i (.bin 16 .add (.s 15) (qi 1)),qm 5 16])))))) (.seq (.ops [.i (.mov 4 (qb true))]) .ret))))⟩
theorem JM:cd 22=some JR:=by kernel_rfl
theorem oB:dO cd 22 (.sl ak):=Ct JM EM
def HG:AF:=⟨2,5,[.tmp 4],(.seq (.ops [.i (.lbox 2 (.s 0)), .i (.lbox 3 (.s 1)), .i (.mov 4 (qb false))]) (.seq (.seq (.ops [qf 5 2 0,ql 6 2 5 5 true,qf 7 3 0,ql 8 3 7 5 true, .i (.call 10 74 false [(.s 6),(.s 8)]), .i (.not 10 (.s 9))]) (.cond (.s 10) (.seq (.ops [.i (.mov 4 (qb false))]) .ret) .skip)) (.seq (.seq (.ops [qf 11 2 5,ql 12 2 11 1 false,qf 13 3 5,ql 14 3 13 1 false, .i (.call 16 22 false [(.s 12),(.s 14)]), .i (.not 16 (.s 15))]) (.cond (.s 16) (.seq (.ops [.i (.mov 4 (qb false))]) .ret) .skip)) (.seq (.ops [.i (.mov 4 (qb true))]) .ret))))⟩
theorem J8:cd 23=some HG:=by kernel_rfl
theorem B3:dO cd 23 TForest:=by
 intro h ca cb va vb Sa Sb ha hb
 obtain⟨avs,rfl,aq0⟩:=ha.st
 obtain⟨av0,ar0,aS0,aT0,rfl,rfl,ah0,aq1⟩:=aq0.step
 obtain⟨av1,ar1,aS1,aT1,rfl,rfl,ah1,aq2⟩:=aq1.step
 obtain⟨ac1,ae1⟩:=ah1.one rfl
 rw[ae1]at ah1
 obtain⟨_,rfl,rfl⟩:=aq2
 have ahsz:ca.length=6:=ha.size
 obtain⟨bvs,rfl,bq0⟩:=hb.st
 obtain⟨bv0,br0,bS0,bT0,rfl,rfl,bh0,bq1⟩:=bq0.step
 obtain⟨bv1,br1,bS1,bT1,rfl,rfl,bh1,bq2⟩:=bq1.step
 obtain⟨bc1,be1⟩:=bh1.one rfl
 rw[be1]at bh1
 obtain⟨_,rfl,rfl⟩:=bq2
 have bhsz:cb.length=6:=hb.size
 simp only[Ty.size,Ty.aM,Nat.reduceAdd,Nat.zero_add,List.drop_zero]at ae1 ahsz be1 bhsz ah0 bh0
 refine aC J8 rfl ?_
 simp(disch:=omega) only[ae,HG,ae1,ahsz,be1,bhsz,aK,aB,SX,SU,SL,reduceCtorEq,Nat.reduceAdd,Nat.reduceLeDiff,reduceIte]
 refine dO.go BT ah0 bh0 (fun d0=> ?_) (fun d0=> ?_)
 case refine_2=>
  simp(disch:=omega) only[ae,HG,ae1,ahsz,be1,bhsz,aK,aB,SX,SU,SL,reduceCtorEq,Nat.reduceAdd,Nat.reduceLeDiff,reduceIte]
  simp[d0]
 subst d0
 simp(disch:=omega) only[ae,HG,ae1,ahsz,be1,bhsz,aK,aB,SX,SU,SL,reduceCtorEq,Nat.reduceAdd,Nat.reduceLeDiff,reduceIte]
 refine dO.go oB ah1 bh1 (fun d1=> ?_) (fun d1=> ?_)
 case refine_2=>
  simp(disch:=omega) only[ae,HG,ae1,ahsz,be1,bhsz,aK,aB,SX,SU,SL,reduceCtorEq,Nat.reduceAdd,Nat.reduceLeDiff,reduceIte]
  simp[d1]
 subst d1
 simp(disch:=omega) only[ae,HG,ae1,ahsz,be1,bhsz,aK,aB,SX,SU,SL,reduceCtorEq,Nat.reduceAdd,Nat.reduceLeDiff,reduceIte]
def Br:AF:=⟨2,5,[.tmp 4],(.seq (.ops [.i (.lbox 2 (.s 0)), .i (.lbox 3 (.s 1)), .i (.mov 4 (qb false))]) (.seq (.seq (.ops [qf 5 2 0,ql 6 2 5 1 false,qf 7 3 0,ql 8 3 7 1 false,qd 9 .neq 6 8]) (.cond (.s 9) (.seq (.ops [.i (.mov 4 (qb false))]) .ret) .skip)) (.seq (.seq (.ops [qf 10 2 1,ql 11 2 10 1 false,qf 12 3 1,ql 13 3 12 1 false, .i (.call 15 39 false [(.s 11),(.s 13)]), .i (.not 15 (.s 14))]) (.cond (.s 15) (.seq (.ops [.i (.mov 4 (qb false))]) .ret) .skip)) (.seq (.ops [.i (.mov 4 (qb true))]) .ret))))⟩
theorem I8:cd 148=some Br:=by kernel_rfl
theorem GX:dO cd 148 cg:=by
 intro h ca cb va vb Sa Sb ha hb
 obtain⟨avs,rfl,aq0⟩:=ha.st
 obtain⟨av0,ar0,aS0,aT0,rfl,rfl,ah0,aq1⟩:=aq0.step
 obtain⟨an0,ae0,rfl,rfl,alo0,ahi0⟩:=ah0.int
 obtain⟨av1,ar1,aS1,aT1,rfl,rfl,ah1,aq2⟩:=aq1.step
 obtain⟨ac1,ae1⟩:=ah1.one rfl
 rw[ae1]at ah1
 obtain⟨_,rfl,rfl⟩:=aq2
 have ahsz:ca.length=2:=ha.size
 obtain⟨bvs,rfl,bq0⟩:=hb.st
 obtain⟨bv0,br0,bS0,bT0,rfl,rfl,bh0,bq1⟩:=bq0.step
 obtain⟨bn0,be0,rfl,rfl,blo0,bhi0⟩:=bh0.int
 obtain⟨bv1,br1,bS1,bT1,rfl,rfl,bh1,bq2⟩:=bq1.step
 obtain⟨bc1,be1⟩:=bh1.one rfl
 rw[be1]at bh1
 obtain⟨_,rfl,rfl⟩:=bq2
 have bhsz:cb.length=2:=hb.size
 simp only[Ty.size,Ty.aM,Nat.reduceAdd,Nat.zero_add,List.drop_zero]at ae0 ae1 ahsz be0 be1 bhsz
 refine aC I8 rfl ?_
 simp(disch:=omega) only[ae,Br,ae0,ae1,ahsz,be0,be1,bhsz,aK,aB,SX,SU,SL,reduceCtorEq,Nat.reduceAdd,Nat.reduceLeDiff,reduceIte]
 refine aw (fun hn=> ?_) (fun hn=> ?_)
 case refine_1=>
  simp(disch:=omega) only[ae,Br,ae0,ae1,ahsz,be0,be1,bhsz,aK,aB,SX,SU,SL,reduceCtorEq,Nat.reduceAdd,Nat.reduceLeDiff,reduceIte]
  simp[hn]
 have d0:an0=bn0:=by omega
 subst d0
 simp(disch:=omega) only[ae,Br,ae0,ae1,ahsz,be0,be1,bhsz,aK,aB,SX,SU,SL,reduceCtorEq,Nat.reduceAdd,Nat.reduceLeDiff,reduceIte]
 refine dO.go gU ah1 bh1 (fun d1=> ?_) (fun d1=> ?_)
 case refine_2=>
  simp(disch:=omega) only[ae,Br,ae0,ae1,ahsz,be0,be1,bhsz,aK,aB,SX,SU,SL,reduceCtorEq,Nat.reduceAdd,Nat.reduceLeDiff,reduceIte]
  simp[d1]
 subst d1
 simp(disch:=omega) only[ae,Br,ae0,ae1,ahsz,be0,be1,bhsz,aK,aB,SX,SU,SL,reduceCtorEq,Nat.reduceAdd,Nat.reduceLeDiff,reduceIte]
def JU:AF:=⟨2,5,[.tmp 4],(.seq (.ops [.i (.mov 4 (qb false))]) (.seq (.seq (.ops [qm 6 0,qn 7 6,qm 8 1,qn 9 8,qd 10 .neq 7 9]) (.cond (.s 10) (.seq (.ops [.i (.mov 4 (qb false))]) .ret) .skip)) (.seq (.seq (.ops [.i (.mov 5 (qi 0))]) (.block 0 (.loop [26,25,24,23,22,21,20,19,18,17,16,15,14,13,12,11] (.seq (.seq (.ops [qm 11 5,qm 12 0,qn 13 12,qd 14 .lss 11 13]) (.cond (.s 14) .skip (.exit 0))) (.seq (.block 1 (.seq (.ops [qm 17 0,qm 18 5, .i (.iad 19 (.s 17) (.s 18) 2), .i (.ldh 20 (.s 19) 2 true),qm 21 1,qm 22 5, .i (.iad 23 (.s 21) (.s 22) 2), .i (.ldh 24 (.s 23) 2 true), .i (.call 26 148 false [(.s 20),(.s 24)]), .i (.not 26 (.s 25))]) (.cond (.s 26) (.seq (.ops [.i (.mov 4 (qb false))]) .ret) .skip))) (.ops [qm 15 5, .i (.bin 16 .add (.s 15) (qi 1)),qm 5 16])))))) (.seq (.ops [.i (.mov 4 (qb true))]) .ret))))⟩
theorem JY:cd 75=some JU:=by kernel_rfl
theorem EY:dO cd 75 (.sl cg):=Ct JY GX
def IH:AF:=⟨2,4,[.tmp 4],(.seq (.ops [.i (.lbox 2 (.s 0)), .i (.lbox 3 (.s 1)), .i (.mov 4 (qb false))]) (.seq (.seq (.ops [qf 5 2 0,ql 6 2 5 1 false,qf 7 3 0,ql 8 3 7 1 false, .i (.call 10 75 false [(.s 6),(.s 8)]), .i (.not 10 (.s 9))]) (.cond (.s 10) (.seq (.ops [.i (.mov 4 (qb false))]) .ret) .skip)) (.seq (.ops [.i (.mov 4 (qb true))]) .ret)))⟩
theorem JN:cd 24=some IH:=by kernel_rfl
theorem D3:dO cd 24 TTable:=by
 intro h ca cb va vb Sa Sb ha hb
 obtain⟨avs,rfl,aq0⟩:=ha.st
 obtain⟨av0,ar0,aS0,aT0,rfl,rfl,ah0,aq1⟩:=aq0.step
 obtain⟨ac0,ae0⟩:=ah0.one rfl
 rw[ae0]at ah0
 obtain⟨_,rfl,rfl⟩:=aq1
 have ahsz:ca.length=1:=ha.size
 obtain⟨bvs,rfl,bq0⟩:=hb.st
 obtain⟨bv0,br0,bS0,bT0,rfl,rfl,bh0,bq1⟩:=bq0.step
 obtain⟨bc0,be0⟩:=bh0.one rfl
 rw[be0]at bh0
 obtain⟨_,rfl,rfl⟩:=bq1
 have bhsz:cb.length=1:=hb.size
 simp only[Ty.size,Ty.aM,Nat.reduceAdd,Nat.zero_add,List.drop_zero]at ae0 ahsz be0 bhsz
 refine aC JN rfl ?_
 simp(disch:=omega) only[ae,IH,ae0,ahsz,be0,bhsz,aK,aB,SX,SU,SL,reduceCtorEq,Nat.reduceAdd,Nat.reduceLeDiff,reduceIte]
 refine dO.go EY ah0 bh0 (fun d0=> ?_) (fun d0=> ?_)
 case refine_2=>
  simp(disch:=omega) only[ae,IH,ae0,ahsz,be0,bhsz,aK,aB,SX,SU,SL,reduceCtorEq,Nat.reduceAdd,Nat.reduceLeDiff,reduceIte]
  simp[d0]
 subst d0
 simp(disch:=omega) only[ae,IH,ae0,ahsz,be0,bhsz,aK,aB,SX,SU,SL,reduceCtorEq,Nat.reduceAdd,Nat.reduceLeDiff,reduceIte]
def Kj:AF:=⟨2,5,[.tmp 4],(.seq (.ops [.i (.mov 4 (qi 0))]) (.seq (.seq (.ops [.i (.mov 5 (qi 0))]) (.block 0 (.loop [18,17,16,15,14,13,12,11,10,9,8,7,6] (.seq (.seq (.ops [qm 6 5,qm 7 0,qn 8 7,qd 9 .lss 6 8]) (.cond (.s 9) .skip (.exit 0))) (.seq (.block 1 (.seq (.ops [qm 12 0,qm 13 5,qm 14 1, .i (.cvi 15 .u8 (.s 14)), .i (.iad 16 (.s 12) (.s 13) 1), .i (.sth (.s 16) (.s 15) 1)]) (.ops [qm 17 1, .i (.bin 18 .add (.s 17) (qi 1)),qm 1 18]))) (.ops [qm 10 5, .i (.bin 11 .add (.s 10) (qi 1)),qm 5 11])))))) (.seq (.ops [qm 19 1,qm 4 19]) .ret)))⟩
theorem JT:cd 41=some Kj:=by kernel_rfl
theorem gS:fA cd 41 (.sl (.int .u8)):=Fb JT
def Ke:AF:=⟨2,5,[.tmp 4],(.seq (.ops [.i (.mov 4 (qi 0))]) (.seq (.seq (.ops [.i (.mov 5 (qi 0))]) (.block 0 (.loop [17,16,15,14,13,12,11,10,9,8,7,6] (.seq (.seq (.ops [qm 6 5,qm 7 0,qn 8 7,qd 9 .lss 6 8]) (.cond (.s 9) .skip (.exit 0))) (.seq (.block 1 (.ops [qm 12 0,qm 13 5, .i (.iad 14 (.s 12) (.s 13) 1), .i (.ldh 15 (.s 14) 1 false),qm 16 1, .i (.call 18 41 false [(.s 15),(.s 16)]),qm 1 17])) (.ops [qm 10 5, .i (.bin 11 .add (.s 10) (qi 1)),qm 5 11])))))) (.seq (.ops [qm 18 1,qm 4 18]) .ret)))⟩
theorem J6:cd 77=some Ke:=by kernel_rfl
theorem BL:fA cd 77 (.sl (.sl (.int .u8))):=H3 J6 gS
def D7:AF:=⟨2,7,[.tmp 4],(.seq (.ops [.i (.mov 4 (qi 0))]) (.seq (.seq (.ops [.i (.mov 5 (qi 0))]) (.block 0 (.loop [86,85,84,83,82,81,80,79,78,77,76,75,74,73,72,71,70,69,68,67,66,65,64,63,62,61,60,59,58,57,56,55,54,53,52,51,50,49,48,47,46,45,44,43,42,41,40,39,38,37,36,35,34,33,32,31,30,29,28,27,26,25,24,23,22,21,20,19,18,17,16,15,14,13,12,11,10,9,8,7,6] (.seq (.seq (.ops [qm 6 5,qm 7 0,qn 8 7,qd 9 .lss 6 8]) (.cond (.s 9) .skip (.exit 0))) (.seq (.block 1 (.seq (.ops [qm 12 0,qm 13 5,qm 14 1, .i (.iad 15 (.s 12) (.s 13) 10),qf 16 15 0, .i (.sth (.s 16) (.s 14) 1)]) (.seq (.ops [qm 17 1, .i (.bin 18 .add (.s 17) (qi 1)),qm 1 18]) (.seq (.ops [qm 19 0,qm 20 5,qm 21 1, .i (.iad 22 (.s 19) (.s 20) 10),qf 23 22 1, .i (.sth (.s 23) (.s 21) 1)]) (.seq (.ops [qm 24 1, .i (.bin 25 .add (.s 24) (qi 1)),qm 1 25]) (.seq (.ops [qm 26 0,qm 27 5,qm 28 1, .i (.iad 29 (.s 26) (.s 27) 10),qf 30 29 2, .i (.sth (.s 30) (.s 28) 1)]) (.seq (.ops [qm 31 1, .i (.bin 32 .add (.s 31) (qi 1)),qm 1 32]) (.seq (.ops [qm 33 0,qm 34 5, .i (.iad 35 (.s 33) (.s 34) 10),qf 36 35 3, .i (.ldh 37 (.s 36) 1 false),qm 38 1, .i (.call 40 41 false [(.s 37),(.s 38)]),qm 1 39]) (.seq (.ops [qm 40 0,qm 41 5, .i (.iad 42 (.s 40) (.s 41) 10),qf 43 42 4, .i (.ldh 44 (.s 43) 1 false),qm 45 1, .i (.call 47 41 false [(.s 44),(.s 45)]),qm 1 46]) (.seq (.ops [qm 47 0,qm 48 5,qm 49 1, .i (.iad 50 (.s 47) (.s 48) 10),qf 51 50 5,qf 52 51 0, .i (.sth (.s 52) (.s 49) 1)]) (.seq (.ops [qm 53 1, .i (.bin 54 .add (.s 53) (qi 1)),qm 1 54]) (.seq (.ops [qm 55 0,qm 56 5,qm 57 1, .i (.iad 58 (.s 55) (.s 56) 10),qf 59 58 5,qf 60 59 1, .i (.sth (.s 60) (.s 57) 1)]) (.seq (.ops [qm 61 1, .i (.bin 62 .add (.s 61) (qi 1)),qm 1 62]) (.seq (.ops [qm 63 0,qm 64 5, .i (.iad 65 (.s 63) (.s 64) 10),qf 66 65 5,qf 67 66 2, .i (.ldh 68 (.s 67) 1 false),qm 69 1, .i (.call 71 41 false [(.s 68),(.s 69)]),qm 1 70]) (.seq (.ops [qm 71 0,qm 72 5, .i (.iad 73 (.s 71) (.s 72) 10),qf 74 73 5,qf 75 74 3, .i (.ldh 76 (.s 75) 1 false),qm 77 1, .i (.call 79 41 false [(.s 76),(.s 77)]),qm 1 78]) (.ops [qm 79 0,qm 80 5, .i (.iad 81 (.s 79) (.s 80) 10),qf 82 81 5,qf 83 82 4, .i (.ldh 84 (.s 83) 1 false),qm 85 1, .i (.call 87 77 false [(.s 84),(.s 85)]),qm 1 86])))))))))))))))) (.ops [qm 10 5, .i (.bin 11 .add (.s 10) (qi 1)),qm 5 11])))))) (.seq (.ops [qm 87 1,qm 4 87]) .ret)))⟩
theorem J3:cd 27=some D7:=by kernel_rfl
theorem xz:fA cd 27 (.sl ak):=by
 intro h cs v S k hv ho hk
 obtain⟨c,xs,id,off,bs,S',rfl,rfl,hm,hl,hat,hce,hbs,hel,hS⟩:=hv.view
 have hcn:ic (.sl ak) (.l xs)=(xs.map (aD ak)).sum:=rfl
 have hmk:nG (.sl ak) (.l xs) k= .l (nm (jh ak) (aD ak) xs k):=rfl
 rw[hcn]at hk⊢
 rw[hmk]
 have hsub:∀j∈S',j∈S:=fun j hj=>by
  rcases hS with e|⟨_,_,e⟩
  ·rw[e];simp[hj]
  ·rw[e]at hj;cases hj
 have hnd:S'.Nodup:=by
  rcases hS with e|⟨_,_,e⟩
  ·have:=ho.1
   rw[e]at this
   exact(List.nodup_cons.1 this).2
  ·rw[e];simp
 have hid:0 < xs.length→id∉S'∧id∈S:=fun hp=>by
  rcases hS with e|⟨e,_,_⟩
  ·have:=ho.1
   rw[e]at this
   exact⟨(List.nodup_cons.1 this).1,by rw[e];simp⟩
  ·rw[e]at hp;simp at hp
 have hown:∃ty,0 < xs.length→h[id]? =some (.own ty bs):=by
  by_cases hp:0 < xs.length
  ·obtain⟨ty,cs,e⟩:=ho.2 id (hid hp).2
   have:=(hce hp).1
   rw[az e]at this
   cases this
   exact⟨ty,fun _=>e⟩
  ·exact⟨0,fun e=>absurd e hp⟩
 obtain⟨ty,hty⟩:=hown
 have hs1:ak.size=10:=rfl
 rw[hs1]at hat hbs
 refine aC J3 rfl ?_
 simp(disch:=omega) only[D7,SX,SU,SL,reduceCtorEq,Nat.reduceAdd,Nat.reduceLeDiff,reduceIte]
 refine cP (σ:=Nat) (f1:=_) (by simp only[SX,SU,SL,reduceCtorEq,Nat.reduceAdd,Nat.reduceLeDiff,reduceIte];rfl) (fun i=> [(5, .val false [.int .i64 i]),(1, .val false [.int .i64 ((k+((xs.take i).map (aD ak)).sum:Nat):Int)])])
  (fun i g h'=>g=xs.length - i∧i≤xs.length∧cI h h' S∧(0 < xs.length→∃bs',h'[id]? =some (.own ty bs')∧bs'.length=bs.length∧aP (Rp h' ak) (B6 ak xs k i) ((bs'.drop off).take (xs.length * ak.size)) S')∧(i=0→h'=h)) 0 xs.length (by simp only[List.take_zero,List.map_nil,List.sum_nil,SX,SU,SL,reduceCtorEq,Nat.reduceAdd,Nat.reduceLeDiff,reduceIte];rfl)
  ⟨by omega,by omega,cI.refl ho.2,fun hp=>⟨bs,hty hp,rfl,by rw[sv];exact hel⟩,fun _=>rfl⟩ ?_
 rintro i g h' ⟨hg,hi,hw,hblk,hz0⟩
 simp(disch:=omega) only[D7,hl,aB,SX,SU,SL,reduceCtorEq,Nat.reduceAdd,Nat.reduceLeDiff,reduceIte]
 refine aw (fun hlt=> ?_) (fun hlt=> ?_)
 ·have hix:i < xs.length:=by omega
  obtain⟨bs',hb1,hb2,he⟩:=hblk (by omega)
  clear hblk
  obtain⟨hidS',hidS⟩:=hid (by omega)
  have hsi:=kI (g:=aD ak) (List.getElem?_eq_getElem hix)
  have hsl:=sY (g:=aD ak) xs (i+1)
  have hfit:off+i * 10+10≤bs'.length:=by
   have:=Nat.mul_le_mul_right 10 hix
   rw[Nat.succ_mul]at this
   omega
  have hme:i * 10+10≤xs.length * 10:=by
   have:=Nat.mul_le_mul_right 10 hix
   rw[Nat.succ_mul]at this
   exact this
  obtain⟨Si,k1,k2,k3,k4⟩:=he.turn hnd (wE hix)
  rw[eW hix,hs1]at k1
  obtain⟨x0,x1,x2,x3,x4,x5,x6,x7,x8,x9,hx⟩:=CW k1.size
  rw[hx]at k1
  obtain⟨pre,post,hpl,rfl⟩:=zL hx hfit
  have hat':=hat i hix
  rw[←hpl]at hat'
  have hidlt:id < h'.length:=(List.getElem?_eq_some_iff.1 hb1).1
  have hset:∀b,(h'.set id b)[id]? =some b:=fun b=>cf hidlt
  have hnid:id∉Si:=fun hm=>hidS' (k2 id hm)
  have hoi:bW h' Si:=⟨k3,fun j hj=>(hw.mh ho).2 j (hsub j (k2 j hj))⟩
  obtain⟨p_vs,p_hv,p_q0⟩:=k1.st
  obtain⟨p_v0,p_r0,p_S0,p_T0,rfl,rfl,p_h0,p_q1⟩:=p_q0.step
  simp only[Ty.size,Ty.aM,Nat.reduceAdd,Nat.zero_add,List.drop_zero,List.drop_succ_cons,List.take_succ_cons,List.take_zero]at p_h0
  obtain⟨n0,e0,rfl,rfl,lo0,hi0⟩:=p_h0.int
  simp only[List.cons.injEq,and_true]at e0
  subst e0
  obtain⟨p_v1,p_r1,p_S1,p_T1,rfl,rfl,p_h1,p_q2⟩:=p_q1.step
  simp only[Ty.size,Ty.aM,Nat.reduceAdd,Nat.zero_add,List.drop_zero,List.drop_succ_cons,List.take_succ_cons,List.take_zero]at p_h1
  obtain⟨n1,e1,rfl,rfl,lo1,hi1⟩:=p_h1.int
  simp only[List.cons.injEq,and_true]at e1
  subst e1
  obtain⟨p_v2,p_r2,p_S2,p_T2,rfl,rfl,p_h2,p_q3⟩:=p_q2.step
  simp only[Ty.size,Ty.aM,Nat.reduceAdd,Nat.zero_add,List.drop_zero,List.drop_succ_cons,List.take_succ_cons,List.take_zero]at p_h2
  obtain⟨n2,e2,rfl,rfl,lo2,hi2⟩:=p_h2.int
  simp only[List.cons.injEq,and_true]at e2
  subst e2
  obtain⟨p_v3,p_r3,p_S3,p_T3,rfl,rfl,p_h3,p_q4⟩:=p_q3.step
  simp only[Ty.size,Ty.aM,Nat.reduceAdd,Nat.zero_add,List.drop_zero,List.drop_succ_cons,List.take_succ_cons,List.take_zero]at p_h3
  have h3:=p_h3
  obtain⟨p_v4,p_r4,p_S4,p_T4,rfl,rfl,p_h4,p_q5⟩:=p_q4.step
  simp only[Ty.size,Ty.aM,Nat.reduceAdd,Nat.zero_add,List.drop_zero,List.drop_succ_cons,List.take_succ_cons,List.take_zero]at p_h4
  have h4:=p_h4
  obtain⟨p_v5,p_r5,p_S5,p_T5,rfl,rfl,p_h5,p_q6⟩:=p_q5.step
  simp only[Ty.size,Ty.aM,Nat.reduceAdd,Nat.zero_add,List.drop_zero,List.drop_succ_cons,List.take_succ_cons,List.take_zero]at p_h5
  obtain⟨p5_vs,p5_hv,p5_q0⟩:=p_h5.st
  obtain⟨p5_v0,p5_r0,p5_S0,p5_T0,rfl,rfl,p5_h0,p5_q1⟩:=p5_q0.step
  simp only[Ty.size,Ty.aM,Nat.reduceAdd,Nat.zero_add,List.drop_zero,List.drop_succ_cons,List.take_succ_cons,List.take_zero]at p5_h0
  obtain⟨n5,e5,rfl,rfl,lo5,hi5⟩:=p5_h0.int
  simp only[List.cons.injEq,and_true]at e5
  subst e5
  obtain⟨p5_v1,p5_r1,p5_S1,p5_T1,rfl,rfl,p5_h1,p5_q2⟩:=p5_q1.step
  simp only[Ty.size,Ty.aM,Nat.reduceAdd,Nat.zero_add,List.drop_zero,List.drop_succ_cons,List.take_succ_cons,List.take_zero]at p5_h1
  obtain⟨n6,e6,rfl,rfl,lo6,hi6⟩:=p5_h1.int
  simp only[List.cons.injEq,and_true]at e6
  subst e6
  obtain⟨p5_v2,p5_r2,p5_S2,p5_T2,rfl,rfl,p5_h2,p5_q3⟩:=p5_q2.step
  simp only[Ty.size,Ty.aM,Nat.reduceAdd,Nat.zero_add,List.drop_zero,List.drop_succ_cons,List.take_succ_cons,List.take_zero]at p5_h2
  have h7:=p5_h2
  obtain⟨p5_v3,p5_r3,p5_S3,p5_T3,rfl,rfl,p5_h3,p5_q4⟩:=p5_q3.step
  simp only[Ty.size,Ty.aM,Nat.reduceAdd,Nat.zero_add,List.drop_zero,List.drop_succ_cons,List.take_succ_cons,List.take_zero]at p5_h3
  have h8:=p5_h3
  obtain⟨p5_v4,p5_r4,p5_S4,p5_T4,rfl,rfl,p5_h4,p5_q5⟩:=p5_q4.step
  simp only[Ty.size,Ty.aM,Nat.reduceAdd,Nat.zero_add,List.drop_zero,List.drop_succ_cons,List.take_succ_cons,List.take_zero]at p5_h4
  have h9:=p5_h4
  obtain⟨_,rfl,rfl⟩:=p5_q5
  subst p5_hv
  obtain⟨_,rfl,rfl⟩:=p_q6
  have hxi:xs[i]= .r [.i n0, .i n1, .i n2,p_v3,p_v4, .r [.i n5, .i n6,p5_v2,p5_v3,p5_v4]]:=p_hv
  rw[hxi]at hsi
  simp only[List.nil_append,List.append_nil]at k2 k3 hnid hoi k4
  have hcne:aD ak (.r [.i n0, .i n1, .i n2,p_v3,p_v4, .r [.i n5, .i n6,p5_v2,p5_v3,p5_v4]])=(1+(1+(1+(aD (.sl (.int .u8)) p_v3+(aD (.sl (.int .u8)) p_v4+((1+(1+(aD (.sl (.int .u8)) p5_v2+(aD (.sl (.int .u8)) p5_v3+(aD (.sl (.sl (.int .u8))) p5_v4+0)))))+0)))))):=rfl
  rw[hcne]at hsi
  obtain⟨o3,ho3,y3,yy3⟩:=hoi.split
  obtain⟨o4,ho4,y4,yy4⟩:=ho3.split
  obtain⟨o7,ho7,y7,yy7⟩:=ho4.split
  obtain⟨o8,ho8,y8,yy8⟩:=ho7.split
  have o9:=ho8
  have hcs:∀ty b,H.cells (h'.set id (.own ty b)) id=some b:=fun ty b=>az (hset _)
  have hcb:h'.cells id=_:=az hb1
  simp(disch:=omega) only[ae,D7,hl,hat',hb1,hset,hcs,hcb,List.set_set,aY,eA,aX,eE,bd,aW,et,eD,List.length_append,List.cons_append,List.nil_append,List.length_set,aK,aB,aO,c8,SX,SU,SL,reduceCtorEq,Nat.reduceAdd,Nat.reduceLeDiff,reduceIte]
  have hn3:id∉p_S3:=fun hm=>hnid (by simp[hm])
  have hn4:id∉p_S4:=fun hm=>hnid (by simp[hm])
  have hn7:id∉p5_S2:=fun hm=>hnid (by simp[hm])
  have hn8:id∉p5_S3:=fun hm=>hnid (by simp[hm])
  have hn9:id∉p5_S4:=fun hm=>hnid (by simp[hm])
  refine fA.go gS (h3.set hn3) (bW.set o3 hidlt) (k:=((((k+((xs.take i).map (aD ak)).sum)+1)+1)+1)) (by rw[aO];omega) (fun g3 w3 z3=> ?_)
  have hb_3:=w3.2.1 id hn3
  simp only[hb1,hset,hcs,hcb]at hb_3
  have hlt_3:id < g3.length:=(List.getElem?_eq_some_iff.1 hb_3).1
  have hset_3:∀b,(g3.set id b)[id]? =some b:=fun b=>cf hlt_3
  have hcs_3:∀ty b,H.cells (g3.set id (.own ty b)) id=some b:=fun ty b=>az (hset_3 _)
  have hcb_3:g3.cells id=_:=az hb_3
  simp(disch:=omega) only[ae,D7,hl,hat',hb_3,hset_3,hcs_3,hcb_3,List.set_set,aY,eA,aX,eE,bd,aW,et,eD,List.length_append,List.cons_append,List.nil_append,List.length_set,aK,aB,aO,c8,SX,SU,SL,reduceCtorEq,Nat.reduceAdd,Nat.reduceLeDiff,reduceIte]
  refine fA.go gS ((h4.set hn4).wrote w3 (fun i hi=>yy3 i (by simp[hi]))) (w3.mh (bW.set o4 hidlt)) (k:=(((((k+((xs.take i).map (aD ak)).sum)+1)+1)+1)+aD (.sl (.int .u8)) p_v3)) (by rw[aO];omega) (fun g4 w4 z4=> ?_)
  have hb_4:=w4.2.1 id hn4
  simp only[hb_3,hset_3,hcs_3,hcb_3]at hb_4
  have hlt_4:id < g4.length:=(List.getElem?_eq_some_iff.1 hb_4).1
  have hset_4:∀b,(g4.set id b)[id]? =some b:=fun b=>cf hlt_4
  have hcs_4:∀ty b,H.cells (g4.set id (.own ty b)) id=some b:=fun ty b=>az (hset_4 _)
  have hcb_4:g4.cells id=_:=az hb_4
  simp(disch:=omega) only[ae,D7,hl,hat',hb_4,hset_4,hcs_4,hcb_4,List.set_set,aY,eA,aX,eE,bd,aW,et,eD,List.length_append,List.cons_append,List.nil_append,List.length_set,aK,aB,aO,c8,SX,SU,SL,reduceCtorEq,Nat.reduceAdd,Nat.reduceLeDiff,reduceIte]
  refine fA.go gS ((((h7.set hn7).wrote w3 (fun i hi=>yy3 i (by simp[hi]))).wrote w4 (fun i hi=>yy4 i (by simp[hi]))).set hn7) (bW.set (w4.mh (w3.mh (bW.set o7 hidlt))) hlt_4) (k:=((((((((k+((xs.take i).map (aD ak)).sum)+1)+1)+1)+aD (.sl (.int .u8)) p_v3)+aD (.sl (.int .u8)) p_v4)+1)+1)) (by rw[aO];omega) (fun g7 w7 z7=> ?_)
  have hb_7:=w7.2.1 id hn7
  simp only[hb_4,hset_4,hcs_4,hcb_4]at hb_7
  have hlt_7:id < g7.length:=(List.getElem?_eq_some_iff.1 hb_7).1
  have hset_7:∀b,(g7.set id b)[id]? =some b:=fun b=>cf hlt_7
  have hcs_7:∀ty b,H.cells (g7.set id (.own ty b)) id=some b:=fun ty b=>az (hset_7 _)
  have hcb_7:g7.cells id=_:=az hb_7
  simp(disch:=omega) only[ae,D7,hl,hat',hb_7,hset_7,hcs_7,hcb_7,List.set_set,aY,eA,aX,eE,bd,aW,et,eD,List.length_append,List.cons_append,List.nil_append,List.length_set,aK,aB,aO,c8,SX,SU,SL,reduceCtorEq,Nat.reduceAdd,Nat.reduceLeDiff,reduceIte]
  refine fA.go gS (((((h8.set hn8).wrote w3 (fun i hi=>yy3 i (by simp[hi]))).wrote w4 (fun i hi=>yy4 i (by simp[hi]))).set hn8).wrote w7 (fun i hi=>yy7 i (by simp[hi]))) (w7.mh (bW.set (w4.mh (w3.mh (bW.set o8 hidlt))) hlt_4)) (k:=(((((((((k+((xs.take i).map (aD ak)).sum)+1)+1)+1)+aD (.sl (.int .u8)) p_v3)+aD (.sl (.int .u8)) p_v4)+1)+1)+aD (.sl (.int .u8)) p5_v2)) (by rw[aO];omega) (fun g8 w8 z8=> ?_)
  have hb_8:=w8.2.1 id hn8
  simp only[hb_7,hset_7,hcs_7,hcb_7]at hb_8
  have hlt_8:id < g8.length:=(List.getElem?_eq_some_iff.1 hb_8).1
  have hset_8:∀b,(g8.set id b)[id]? =some b:=fun b=>cf hlt_8
  have hcs_8:∀ty b,H.cells (g8.set id (.own ty b)) id=some b:=fun ty b=>az (hset_8 _)
  have hcb_8:g8.cells id=_:=az hb_8
  simp(disch:=omega) only[ae,D7,hl,hat',hb_8,hset_8,hcs_8,hcb_8,List.set_set,aY,eA,aX,eE,bd,aW,et,eD,List.length_append,List.cons_append,List.nil_append,List.length_set,aK,aB,aO,c8,SX,SU,SL,reduceCtorEq,Nat.reduceAdd,Nat.reduceLeDiff,reduceIte]
  refine fA.go BL ((((((h9.set hn9).wrote w3 (fun i hi=>yy3 i (by simp[hi]))).wrote w4 (fun i hi=>yy4 i (by simp[hi]))).set hn9).wrote w7 (fun i hi=>yy7 i (by simp[hi]))).wrote w8 (fun i hi=>yy8 i (by simp[hi]))) (w8.mh (w7.mh (bW.set (w4.mh (w3.mh (bW.set o9 hidlt))) hlt_4))) (k:=((((((((((k+((xs.take i).map (aD ak)).sum)+1)+1)+1)+aD (.sl (.int .u8)) p_v3)+aD (.sl (.int .u8)) p_v4)+1)+1)+aD (.sl (.int .u8)) p5_v2)+aD (.sl (.int .u8)) p5_v3)) (by rw[aO];omega) (fun g9 w9 z9=> ?_)
  have hb_9:=w9.2.1 id hn9
  simp only[hb_8,hset_8,hcs_8,hcb_8]at hb_9
  have hlt_9:id < g9.length:=(List.getElem?_eq_some_iff.1 hb_9).1
  have hset_9:∀b,(g9.set id b)[id]? =some b:=fun b=>cf hlt_9
  have hcs_9:∀ty b,H.cells (g9.set id (.own ty b)) id=some b:=fun ty b=>az (hset_9 _)
  have hcb_9:g9.cells id=_:=az hb_9
  simp(disch:=omega) only[ae,D7,hl,hat',hb_9,hset_9,hcs_9,hcb_9,List.set_set,aY,eA,aX,eE,bd,aW,et,eD,List.length_append,List.cons_append,List.nil_append,List.length_set,aK,aB,aO,c8,SX,SU,SL,reduceCtorEq,Nat.reduceAdd,Nat.reduceLeDiff,reduceIte]
  have wF0:cI h' h' (id::(p_S3++(p_S4++(p5_S2++(p5_S3++(p5_S4)))))):=cI.refl (fun j hj=>by
   rcases List.mem_cons.1 hj with rfl|hj
   ·exact⟨_,_,hb1⟩
   ·exact hoi.2 j hj)
  have hmkE:jh ak xs[i] (k+((xs.take i).map (aD ak)).sum)= .r [.i (IntKind.i64.wrap (((k+((xs.take i).map (aD ak)).sum):Nat):Int)), .i (IntKind.i64.wrap ((((k+((xs.take i).map (aD ak)).sum)+1):Nat):Int)), .i (IntKind.i64.wrap (((((k+((xs.take i).map (aD ak)).sum)+1)+1):Nat):Int)),jh (.sl (.int .u8)) p_v3 (((((k+((xs.take i).map (aD ak)).sum)+1)+1)+1)),jh (.sl (.int .u8)) p_v4 ((((((k+((xs.take i).map (aD ak)).sum)+1)+1)+1)+aD (.sl (.int .u8)) p_v3)), .r [.i (IntKind.i64.wrap ((((((((k+((xs.take i).map (aD ak)).sum)+1)+1)+1)+aD (.sl (.int .u8)) p_v3)+aD (.sl (.int .u8)) p_v4):Nat):Int)), .i (IntKind.i64.wrap (((((((((k+((xs.take i).map (aD ak)).sum)+1)+1)+1)+aD (.sl (.int .u8)) p_v3)+aD (.sl (.int .u8)) p_v4)+1):Nat):Int)),jh (.sl (.int .u8)) p5_v2 (((((((((k+((xs.take i).map (aD ak)).sum)+1)+1)+1)+aD (.sl (.int .u8)) p_v3)+aD (.sl (.int .u8)) p_v4)+1)+1)),jh (.sl (.int .u8)) p5_v3 ((((((((((k+((xs.take i).map (aD ak)).sum)+1)+1)+1)+aD (.sl (.int .u8)) p_v3)+aD (.sl (.int .u8)) p_v4)+1)+1)+aD (.sl (.int .u8)) p5_v2)),jh (.sl (.sl (.int .u8))) p5_v4 (((((((((((k+((xs.take i).map (aD ak)).sum)+1)+1)+1)+aD (.sl (.int .u8)) p_v3)+aD (.sl (.int .u8)) p_v4)+1)+1)+aD (.sl (.int .u8)) p5_v2)+aD (.sl (.int .u8)) p5_v3))]]:=by rw[hxi];rfl
  simp only[iL]at z3 z4 z7 z8 z9
  have wF:=(((((((wF0.set (by simp) hidlt).more w3 (fun i hi=>by simp[hi])).more w4 (fun i hi=>by simp[hi])).set (by simp) hlt_4).more w7 (fun i hi=>by simp[hi])).more w8 (fun i hi=>by simp[hi])).more w9 (fun i hi=>by simp[hi]))
  have hnew:=Rp.G7 (Rs.mk (Rp.mkNat (n:=(k+((xs.take i).map (aD ak)).sum)) (by omega)) (Rs.mk (Rp.mkNat (n:=((k+((xs.take i).map (aD ak)).sum)+1)) (by omega)) (Rs.mk (Rp.mkNat (n:=(((k+((xs.take i).map (aD ak)).sum)+1)+1)) (by omega)) (Rs.mk (((((z3.wrote w4 (fun i hi hn=>y3 i hi (by simp[hn]))).set hn3).wrote w7 (fun i hi hn=>y3 i hi (by simp[hn]))).wrote w8 (fun i hi hn=>y3 i hi (by simp[hn]))).wrote w9 (fun i hi hn=>y3 i hi (by simp[hn]))) (Rs.mk ((((z4.set hn4).wrote w7 (fun i hi hn=>y4 i hi (by simp[hn]))).wrote w8 (fun i hi hn=>y4 i hi (by simp[hn]))).wrote w9 (fun i hi hn=>y4 i hi (by simp[hn]))) (Rs.mk (Rp.G7 (Rs.mk (Rp.mkNat (n:=((((((k+((xs.take i).map (aD ak)).sum)+1)+1)+1)+aD (.sl (.int .u8)) p_v3)+aD (.sl (.int .u8)) p_v4)) (by omega)) (Rs.mk (Rp.mkNat (n:=(((((((k+((xs.take i).map (aD ak)).sum)+1)+1)+1)+aD (.sl (.int .u8)) p_v3)+aD (.sl (.int .u8)) p_v4)+1)) (by omega)) (Rs.mk ((z7.wrote w8 (fun i hi hn=>y7 i hi (by simp[hn]))).wrote w9 (fun i hi hn=>y7 i hi (by simp[hn]))) (Rs.mk (z8.wrote w9 (fun i hi hn=>y8 i hi (by simp[hn]))) (Rs.mk z9 Rs.nil)))))) Rs.nil))))))
  simp only[List.cons_append,List.nil_append,List.append_nil]at hnew
  rw[←hmkE]at hnew
  have hE:=k4 _ _ _ (fun j hj hn=>bF (wF.2.1 j (fun hm=>by
   rcases List.mem_cons.1 hm with rfl|hm
   ·exact hidS' hj
   ·exact hn hm))) hnew
  rw[tf hix]at hE
  refine⟨i+1,xs.length - (i+1),by omega,?_,rfl,by omega,hw.more wF (fun j hj=> ?_),fun _=>⟨pre++C.int .i64 (((k+((xs.take i).map (aD ak)).sum):Nat):Int)::C.int .i64 ((((k+((xs.take i).map (aD ak)).sum)+1):Nat):Int)::C.int .i64 (((((k+((xs.take i).map (aD ak)).sum)+1)+1):Nat):Int)::x3::x4::C.int .i64 ((((((((k+((xs.take i).map (aD ak)).sum)+1)+1)+1)+aD (.sl (.int .u8)) p_v3)+aD (.sl (.int .u8)) p_v4):Nat):Int)::C.int .i64 (((((((((k+((xs.take i).map (aD ak)).sum)+1)+1)+1)+aD (.sl (.int .u8)) p_v3)+aD (.sl (.int .u8)) p_v4)+1):Nat):Int)::x7::x8::x9::post,by first|exact rfl|exact hb_9,?_,?_⟩,fun e=>by omega⟩
  ·have e1:k+((xs.take (i+1)).map (aD ak)).sum=(((((((((((k+((xs.take i).map (aD ak)).sum)+1)+1)+1)+aD (.sl (.int .u8)) p_v3)+aD (.sl (.int .u8)) p_v4)+1)+1)+aD (.sl (.int .u8)) p5_v2)+aD (.sl (.int .u8)) p5_v3)+aD (.sl (.sl (.int .u8))) p5_v4):=by omega
   rw[e1]
  ·rcases List.mem_cons.1 hj with rfl|hj
   ·exact hidS
   ·exact hsub j (k2 j hj)
  ·rw[←hb2];simp
  ·have ht:=Cd (l:= [C.int .i64 n0,C.int .i64 n1,C.int .i64 n2,x3,x4,C.int .i64 n5,C.int .i64 n6,x7,x8,x9]) (l':= [C.int .i64 (((k+((xs.take i).map (aD ak)).sum):Nat):Int),C.int .i64 ((((k+((xs.take i).map (aD ak)).sum)+1):Nat):Int),C.int .i64 (((((k+((xs.take i).map (aD ak)).sum)+1)+1):Nat):Int),x3,x4,C.int .i64 ((((((((k+((xs.take i).map (aD ak)).sum)+1)+1)+1)+aD (.sl (.int .u8)) p_v3)+aD (.sl (.int .u8)) p_v4):Nat):Int),C.int .i64 (((((((((k+((xs.take i).map (aD ak)).sum)+1)+1)+1)+aD (.sl (.int .u8)) p_v3)+aD (.sl (.int .u8)) p_v4)+1):Nat):Int),x7,x8,x9]) (post:=post) hpl rfl (m:=xs.length * 10) (by simpa using hme)
   rw[hs1]at hE
   rw[←ht]at hE
   exact hE
 ·simp(disch:=omega) only[D7,SX,SU,SL,reduceCtorEq,Nat.reduceAdd,Nat.reduceLeDiff,reduceIte]
  have hi':i=xs.length:=by omega
  subst hi'
  rw[List.take_length]
  refine⟨rfl,hw,?_⟩
  by_cases hp:0 < xs.length
  ·obtain⟨bs',hb1,hb2,he⟩:=hblk hp
   rw[wh]at he
   refine⟨_,rfl,?_, .inr ⟨id,off,bs',S',_,?_,az hb1,?_,?_,?_, .inl rfl⟩⟩
   ·rw[bV];simp only[maxLen];omega
   ·rw[bV];rw[(hce hp).2]
   ·rw[bV,hb2,hs1];exact hbs
   ·rcases hS with e|⟨e,_⟩
    ·exact e
    ·rw[e]at hp;simp at hp
   ·rw[bV];exact he
  ·have hx:xs= []:=List.eq_nil_of_length_eq_zero (by omega)
   subst hx
   rw[hz0 rfl]
   exact hv
def IP:AF:=⟨2,4,[.tmp 4],(.seq (.ops [.i (.lbox 2 (.s 0)), .i (.mov 4 (qi 0))]) (.seq (.ops [qf 5 2 5,ql 6 2 5 1 false,qm 7 1, .i (.call 9 27 false [(.s 6),(.s 7)]),qm 1 8]) (.seq (.ops [qm 9 1,qm 4 9]) .ret)))⟩
theorem Kd:cd 25=some IP:=by kernel_rfl
theorem BX:fA cd 25 TForest:=by
 intro h cs v S k hv ho hk
 obtain⟨vs,rfl,q0⟩:=hv.st
 obtain⟨v0,r0,S0,T0,rfl,rfl,h0,q1⟩:=q0.step
 obtain⟨v1,r1,S1,T1,rfl,rfl,h1,q2⟩:=q1.step
 obtain⟨c1,e1⟩:=h1.one rfl
 rw[e1]at h1
 obtain⟨_,rfl,rfl⟩:=q2
 have hsz:cs.length=6:=hv.size
 simp only[Ty.size,Ty.aM,Nat.reduceAdd,Nat.zero_add,List.drop_zero]at e1 hsz h0
 have f0:=CL br v0 rfl
 have m0:=fun n=>DV br v0 n rfl
 have hcn:ic TForest (.r [v0,v1])=(0+(ic (.sl ak) v1+0)):=by rw[show ic TForest (.r [v0,v1])=(ic br v0+(ic (.sl ak) v1+0))from rfl,f0]
 have hmk:nG TForest (.r [v0,v1]) k= .r [v0,nG (.sl ak) v1 (k)]:=by rw[show nG TForest (.r [v0,v1]) k= .r [nG br v0 (k),nG (.sl ak) v1 (k+ic br v0)]from rfl,f0,m0];rfl
 rw[hmk]
 rw[hcn]at hk⊢
 obtain⟨rfl,_⟩:=h0.HE (h':=h) _ rfl
 simp only[List.nil_append,List.append_nil]at ho⊢
 have o1:=ho
 refine aC Kd rfl ?_
 simp(disch:=omega) only[ae,IP,e1,hsz,aK,aB,SX,SU,SL,reduceCtorEq,Nat.reduceAdd,Nat.reduceLeDiff,reduceIte]
 refine fA.go xz h1 o1 (k:=k) (by omega) (fun g1 w1 z1=> ?_)
 simp(disch:=omega) only[ae,IP,e1,hsz,aK,aB,SX,SU,SL,reduceCtorEq,Nat.reduceAdd,Nat.reduceLeDiff,reduceIte]
 have fin:Rs g1 [br,(.sl ak)] (cs.drop 0) [v0,nG (.sl ak) v1 (k)] _:=(Rs.zo (o:=0) (h0.HE _ rfl).2 (Rs.zo (o:=5) (Rp.F2 e1 z1) (Rs.fin (Nat.le_of_eq hsz))))
 simp only[List.nil_append,List.append_nil,List.drop_zero]at fin
 have wr:=((cI.refl ho.2).more w1 (fun i hi=>by simp[hi]))
 first
  |exact⟨wr,_,rfl,fin⟩
  |(refine⟨?_,wr,_,rfl,fin⟩
    congr 3
    omega)
def HK:AF:=⟨2,5,[.tmp 4],(.seq (.ops [.i (.mov 4 (qi 0))]) (.seq (.seq (.ops [.i (.mov 5 (qi 0))]) (.block 0 (.loop [25,24,23,22,21,20,19,18,17,16,15,14,13,12,11,10,9,8,7,6] (.seq (.seq (.ops [qm 6 5,qm 7 0,qn 8 7,qd 9 .lss 6 8]) (.cond (.s 9) .skip (.exit 0))) (.seq (.block 1 (.seq (.ops [qm 12 0,qm 13 5,qm 14 1, .i (.iad 15 (.s 12) (.s 13) 2),qf 16 15 0, .i (.sth (.s 16) (.s 14) 1)]) (.seq (.ops [qm 17 1, .i (.bin 18 .add (.s 17) (qi 1)),qm 1 18]) (.ops [qm 19 0,qm 20 5, .i (.iad 21 (.s 19) (.s 20) 2),qf 22 21 1, .i (.ldh 23 (.s 22) 1 false),qm 24 1, .i (.call 26 41 false [(.s 23),(.s 24)]),qm 1 25])))) (.ops [qm 10 5, .i (.bin 11 .add (.s 10) (qi 1)),qm 5 11])))))) (.seq (.ops [qm 26 1,qm 4 26]) .ret)))⟩
theorem J7:cd 76=some HK:=by kernel_rfl
theorem ET:fA cd 76 (.sl cg):=by
 intro h cs v S k hv ho hk
 obtain⟨c,xs,id,off,bs,S',rfl,rfl,hm,hl,hat,hce,hbs,hel,hS⟩:=hv.view
 have hcn:ic (.sl cg) (.l xs)=(xs.map (aD cg)).sum:=rfl
 have hmk:nG (.sl cg) (.l xs) k= .l (nm (jh cg) (aD cg) xs k):=rfl
 rw[hcn]at hk⊢
 rw[hmk]
 have hsub:∀j∈S',j∈S:=fun j hj=>by
  rcases hS with e|⟨_,_,e⟩
  ·rw[e];simp[hj]
  ·rw[e]at hj;cases hj
 have hnd:S'.Nodup:=by
  rcases hS with e|⟨_,_,e⟩
  ·have:=ho.1
   rw[e]at this
   exact(List.nodup_cons.1 this).2
  ·rw[e];simp
 have hid:0 < xs.length→id∉S'∧id∈S:=fun hp=>by
  rcases hS with e|⟨e,_,_⟩
  ·have:=ho.1
   rw[e]at this
   exact⟨(List.nodup_cons.1 this).1,by rw[e];simp⟩
  ·rw[e]at hp;simp at hp
 have hown:∃ty,0 < xs.length→h[id]? =some (.own ty bs):=by
  by_cases hp:0 < xs.length
  ·obtain⟨ty,cs,e⟩:=ho.2 id (hid hp).2
   have:=(hce hp).1
   rw[az e]at this
   cases this
   exact⟨ty,fun _=>e⟩
  ·exact⟨0,fun e=>absurd e hp⟩
 obtain⟨ty,hty⟩:=hown
 have hs1:cg.size=2:=rfl
 rw[hs1]at hat hbs
 refine aC J7 rfl ?_
 simp(disch:=omega) only[HK,SX,SU,SL,reduceCtorEq,Nat.reduceAdd,Nat.reduceLeDiff,reduceIte]
 refine cP (σ:=Nat) (f1:=_) (by simp only[SX,SU,SL,reduceCtorEq,Nat.reduceAdd,Nat.reduceLeDiff,reduceIte];rfl) (fun i=> [(5, .val false [.int .i64 i]),(1, .val false [.int .i64 ((k+((xs.take i).map (aD cg)).sum:Nat):Int)])])
  (fun i g h'=>g=xs.length - i∧i≤xs.length∧cI h h' S∧(0 < xs.length→∃bs',h'[id]? =some (.own ty bs')∧bs'.length=bs.length∧aP (Rp h' cg) (B6 cg xs k i) ((bs'.drop off).take (xs.length * cg.size)) S')∧(i=0→h'=h)) 0 xs.length (by simp only[List.take_zero,List.map_nil,List.sum_nil,SX,SU,SL,reduceCtorEq,Nat.reduceAdd,Nat.reduceLeDiff,reduceIte];rfl)
  ⟨by omega,by omega,cI.refl ho.2,fun hp=>⟨bs,hty hp,rfl,by rw[sv];exact hel⟩,fun _=>rfl⟩ ?_
 rintro i g h' ⟨hg,hi,hw,hblk,hz0⟩
 simp(disch:=omega) only[HK,hl,aB,SX,SU,SL,reduceCtorEq,Nat.reduceAdd,Nat.reduceLeDiff,reduceIte]
 refine aw (fun hlt=> ?_) (fun hlt=> ?_)
 ·have hix:i < xs.length:=by omega
  obtain⟨bs',hb1,hb2,he⟩:=hblk (by omega)
  clear hblk
  obtain⟨hidS',hidS⟩:=hid (by omega)
  have hsi:=kI (g:=aD cg) (List.getElem?_eq_getElem hix)
  have hsl:=sY (g:=aD cg) xs (i+1)
  have hfit:off+i * 2+2≤bs'.length:=by
   have:=Nat.mul_le_mul_right 2 hix
   rw[Nat.succ_mul]at this
   omega
  have hme:i * 2+2≤xs.length * 2:=by
   have:=Nat.mul_le_mul_right 2 hix
   rw[Nat.succ_mul]at this
   exact this
  obtain⟨Si,k1,k2,k3,k4⟩:=he.turn hnd (wE hix)
  rw[eW hix,hs1]at k1
  obtain⟨x0,x1,hx⟩:=Ik k1.size
  rw[hx]at k1
  obtain⟨pre,post,hpl,rfl⟩:=zL hx hfit
  have hat':=hat i hix
  rw[←hpl]at hat'
  have hidlt:id < h'.length:=(List.getElem?_eq_some_iff.1 hb1).1
  have hset:∀b,(h'.set id b)[id]? =some b:=fun b=>cf hidlt
  have hnid:id∉Si:=fun hm=>hidS' (k2 id hm)
  have hoi:bW h' Si:=⟨k3,fun j hj=>(hw.mh ho).2 j (hsub j (k2 j hj))⟩
  obtain⟨p_vs,p_hv,p_q0⟩:=k1.st
  obtain⟨p_v0,p_r0,p_S0,p_T0,rfl,rfl,p_h0,p_q1⟩:=p_q0.step
  simp only[Ty.size,Ty.aM,Nat.reduceAdd,Nat.zero_add,List.drop_zero,List.drop_succ_cons,List.take_succ_cons,List.take_zero]at p_h0
  obtain⟨n0,e0,rfl,rfl,lo0,hi0⟩:=p_h0.int
  simp only[List.cons.injEq,and_true]at e0
  subst e0
  obtain⟨p_v1,p_r1,p_S1,p_T1,rfl,rfl,p_h1,p_q2⟩:=p_q1.step
  simp only[Ty.size,Ty.aM,Nat.reduceAdd,Nat.zero_add,List.drop_zero,List.drop_succ_cons,List.take_succ_cons,List.take_zero]at p_h1
  have h1:=p_h1
  obtain⟨_,rfl,rfl⟩:=p_q2
  have hxi:xs[i]= .r [.i n0,p_v1]:=p_hv
  rw[hxi]at hsi
  simp only[List.nil_append,List.append_nil]at k2 k3 hnid hoi k4
  have hcne:aD cg (.r [.i n0,p_v1])=(1+(aD (.sl (.int .u8)) p_v1+0)):=rfl
  rw[hcne]at hsi
  have o1:=hoi
  have hcs:∀ty b,H.cells (h'.set id (.own ty b)) id=some b:=fun ty b=>az (hset _)
  have hcb:h'.cells id=_:=az hb1
  simp(disch:=omega) only[ae,HK,hl,hat',hb1,hset,hcs,hcb,List.set_set,aY,eA,aX,eE,bd,aW,et,eD,List.length_append,List.cons_append,List.nil_append,List.length_set,aK,aB,aO,c8,SX,SU,SL,reduceCtorEq,Nat.reduceAdd,Nat.reduceLeDiff,reduceIte]
  have hn1:id∉p_S1:=fun hm=>hnid (by simp[hm])
  refine fA.go gS (h1.set hn1) (bW.set o1 hidlt) (k:=((k+((xs.take i).map (aD cg)).sum)+1)) (by rw[aO];omega) (fun g1 w1 z1=> ?_)
  have hb_1:=w1.2.1 id hn1
  simp only[hb1,hset,hcs,hcb]at hb_1
  have hlt_1:id < g1.length:=(List.getElem?_eq_some_iff.1 hb_1).1
  have hset_1:∀b,(g1.set id b)[id]? =some b:=fun b=>cf hlt_1
  have hcs_1:∀ty b,H.cells (g1.set id (.own ty b)) id=some b:=fun ty b=>az (hset_1 _)
  have hcb_1:g1.cells id=_:=az hb_1
  simp(disch:=omega) only[ae,HK,hl,hat',hb_1,hset_1,hcs_1,hcb_1,List.set_set,aY,eA,aX,eE,bd,aW,et,eD,List.length_append,List.cons_append,List.nil_append,List.length_set,aK,aB,aO,c8,SX,SU,SL,reduceCtorEq,Nat.reduceAdd,Nat.reduceLeDiff,reduceIte]
  have wF0:cI h' h' (id::(p_S1)):=cI.refl (fun j hj=>by
   rcases List.mem_cons.1 hj with rfl|hj
   ·exact⟨_,_,hb1⟩
   ·exact hoi.2 j hj)
  have hmkE:jh cg xs[i] (k+((xs.take i).map (aD cg)).sum)= .r [.i (IntKind.i64.wrap (((k+((xs.take i).map (aD cg)).sum):Nat):Int)),jh (.sl (.int .u8)) p_v1 (((k+((xs.take i).map (aD cg)).sum)+1))]:=by rw[hxi];rfl
  simp only[iL]at z1
  have wF:=((wF0.set (by simp) hidlt).more w1 (fun i hi=>by simp[hi]))
  have hnew:=Rp.G7 (Rs.mk (Rp.mkNat (n:=(k+((xs.take i).map (aD cg)).sum)) (by omega)) (Rs.mk z1 Rs.nil))
  simp only[List.cons_append,List.nil_append,List.append_nil]at hnew
  rw[←hmkE]at hnew
  have hE:=k4 _ _ _ (fun j hj hn=>bF (wF.2.1 j (fun hm=>by
   rcases List.mem_cons.1 hm with rfl|hm
   ·exact hidS' hj
   ·exact hn hm))) hnew
  rw[tf hix]at hE
  refine⟨i+1,xs.length - (i+1),by omega,?_,rfl,by omega,hw.more wF (fun j hj=> ?_),fun _=>⟨pre++C.int .i64 (((k+((xs.take i).map (aD cg)).sum):Nat):Int)::x1::post,by first|exact rfl|exact hb_1,?_,?_⟩,fun e=>by omega⟩
  ·have e1:k+((xs.take (i+1)).map (aD cg)).sum=(((k+((xs.take i).map (aD cg)).sum)+1)+aD (.sl (.int .u8)) p_v1):=by omega
   rw[e1]
  ·rcases List.mem_cons.1 hj with rfl|hj
   ·exact hidS
   ·exact hsub j (k2 j hj)
  ·rw[←hb2];simp
  ·have ht:=Cd (l:= [C.int .i64 n0,x1]) (l':= [C.int .i64 (((k+((xs.take i).map (aD cg)).sum):Nat):Int),x1]) (post:=post) hpl rfl (m:=xs.length * 2) (by simpa using hme)
   rw[hs1]at hE
   rw[←ht]at hE
   exact hE
 ·simp(disch:=omega) only[HK,SX,SU,SL,reduceCtorEq,Nat.reduceAdd,Nat.reduceLeDiff,reduceIte]
  have hi':i=xs.length:=by omega
  subst hi'
  rw[List.take_length]
  refine⟨rfl,hw,?_⟩
  by_cases hp:0 < xs.length
  ·obtain⟨bs',hb1,hb2,he⟩:=hblk hp
   rw[wh]at he
   refine⟨_,rfl,?_, .inr ⟨id,off,bs',S',_,?_,az hb1,?_,?_,?_, .inl rfl⟩⟩
   ·rw[bV];simp only[maxLen];omega
   ·rw[bV];rw[(hce hp).2]
   ·rw[bV,hb2,hs1];exact hbs
   ·rcases hS with e|⟨e,_⟩
    ·exact e
    ·rw[e]at hp;simp at hp
   ·rw[bV];exact he
  ·have hx:xs= []:=List.eq_nil_of_length_eq_zero (by omega)
   subst hx
   rw[hz0 rfl]
   exact hv
def IZ:AF:=⟨2,4,[.tmp 4],(.seq (.ops [.i (.lbox 2 (.s 0)), .i (.mov 4 (qi 0))]) (.seq (.ops [qf 5 2 0,ql 6 2 5 1 false,qm 7 1, .i (.call 9 76 false [(.s 6),(.s 7)]),qm 1 8]) (.seq (.ops [qm 9 1,qm 4 9]) .ret)))⟩
theorem JO:cd 26=some IZ:=by kernel_rfl
theorem Dn:fA cd 26 TTable:=by
 intro h cs v S k hv ho hk
 obtain⟨vs,rfl,q0⟩:=hv.st
 obtain⟨v0,r0,S0,T0,rfl,rfl,h0,q1⟩:=q0.step
 obtain⟨c0,e0⟩:=h0.one rfl
 rw[e0]at h0
 obtain⟨_,rfl,rfl⟩:=q1
 have hsz:cs.length=1:=hv.size
 simp only[Ty.size,Ty.aM,Nat.reduceAdd,Nat.zero_add,List.drop_zero]at e0 hsz
 have hcn:ic TTable (.r [v0])=(ic (.sl cg) v0+0):=rfl
 have hmk:nG TTable (.r [v0]) k= .r [nG (.sl cg) v0 (k)]:=rfl
 rw[hmk]
 rw[hcn]at hk⊢
 simp only[List.nil_append,List.append_nil]at ho⊢
 have o0:=ho
 refine aC JO rfl ?_
 simp(disch:=omega) only[ae,IZ,e0,hsz,aK,aB,SX,SU,SL,reduceCtorEq,Nat.reduceAdd,Nat.reduceLeDiff,reduceIte]
 refine fA.go ET h0 o0 (k:=k) (by omega) (fun g0 w0 z0=> ?_)
 simp(disch:=omega) only[ae,IZ,e0,hsz,aK,aB,SX,SU,SL,reduceCtorEq,Nat.reduceAdd,Nat.reduceLeDiff,reduceIte]
 have fin:Rs g0 [(.sl cg)] (cs.drop 0) [nG (.sl cg) v0 (k)] _:=(Rs.zo (o:=0) (Rp.F2 e0 z0) (Rs.fin (Nat.le_of_eq hsz)))
 simp only[List.nil_append,List.append_nil,List.drop_zero]at fin
 have wr:=((cI.refl ho.2).more w0 (fun i hi=>by simp[hi]))
 first
  |exact⟨wr,_,rfl,fin⟩
  |(refine⟨?_,wr,_,rfl,fin⟩
    congr 3
    omega)
def Kc:AF:=⟨2,5,[.tmp 4],(.seq (.ops [.i (.mov 4 (qi 0))]) (.seq (.seq (.ops [.i (.mov 5 (qi 0))]) (.block 0 (.loop [20,19,18,17,16,15,14,13,12,11,10,9,8,7,6] (.seq (.seq (.ops [qm 6 5,qm 7 0,qn 8 7,qd 9 .lss 6 8]) (.cond (.s 9) .skip (.exit 0))) (.seq (.block 1 (.seq (.seq (.ops [qm 12 0,qm 13 5, .i (.iad 14 (.s 12) (.s 13) 1), .i (.ldh 15 (.s 14) 1 false),qm 16 1, .i (.cvi 17 .u8 (.s 16)),qd 18 .neq 15 17]) (.cond (.s 18) (.seq (.ops [.i (.mov 4 (qi (-1)))]) .ret) .skip)) (.ops [qm 19 1, .i (.bin 20 .add (.s 19) (qi 1)),qm 1 20]))) (.ops [qm 10 5, .i (.bin 11 .add (.s 10) (qi 1)),qm 5 11])))))) (.seq (.ops [qm 21 1,qm 4 21]) .ret)))⟩
theorem JG:cd 42=some Kc:=by kernel_rfl
theorem j4:ny cd 42 (.sl (.int .u8)):=FF JG
def Kb:AF:=⟨2,5,[.tmp 4],(.seq (.ops [.i (.mov 4 (qi 0))]) (.seq (.seq (.ops [.i (.mov 5 (qi 0))]) (.block 0 (.loop [19,18,17,16,15,14,13,12,11,10,9,8,7,6] (.seq (.seq (.ops [qm 6 5,qm 7 0,qn 8 7,qd 9 .lss 6 8]) (.cond (.s 9) .skip (.exit 0))) (.seq (.block 1 (.seq (.ops [qm 12 0,qm 13 5, .i (.iad 14 (.s 12) (.s 13) 1), .i (.ldh 15 (.s 14) 1 false),qm 16 1, .i (.call 18 42 false [(.s 15),(.s 16)]),qm 1 17]) (.seq (.ops [qm 18 1, .i (.bin 19 .lss (.s 18) (qi 0))]) (.cond (.s 19) (.seq (.ops [.i (.mov 4 (qi (-1)))]) .ret) .skip)))) (.ops [qm 10 5, .i (.bin 11 .add (.s 10) (qi 1)),qm 5 11])))))) (.seq (.ops [qm 20 1,qm 4 20]) .ret)))⟩
theorem JX:cd 78=some Kb:=by kernel_rfl
theorem Bx:ny cd 78 (.sl (.sl (.int .u8))):=HQ JX j4
def vH:AF:=⟨2,7,[.tmp 4],(.seq (.ops [.i (.mov 4 (qi 0))]) (.seq (.seq (.ops [.i (.mov 5 (qi 0))]) (.block 0 (.loop [106,105,104,103,102,101,100,99,98,97,96,95,94,93,92,91,90,89,88,87,86,85,84,83,82,81,80,79,78,77,76,75,74,73,72,71,70,69,68,67,66,65,64,63,62,61,60,59,58,57,56,55,54,53,52,51,50,49,48,47,46,45,44,43,42,41,40,39,38,37,36,35,34,33,32,31,30,29,28,27,26,25,24,23,22,21,20,19,18,17,16,15,14,13,12,11,10,9,8,7,6] (.seq (.seq (.ops [qm 6 5,qm 7 0,qn 8 7,qd 9 .lss 6 8]) (.cond (.s 9) .skip (.exit 0))) (.seq (.block 1 (.seq (.seq (.ops [qm 12 0,qm 13 5, .i (.iad 14 (.s 12) (.s 13) 10),qf 15 14 0, .i (.ldh 16 (.s 15) 1 false),qm 17 1,qd 18 .neq 16 17]) (.cond (.s 18) (.seq (.ops [.i (.mov 4 (qi (-1)))]) .ret) .skip)) (.seq (.ops [qm 19 1, .i (.bin 20 .add (.s 19) (qi 1)),qm 1 20]) (.seq (.seq (.ops [qm 21 0,qm 22 5, .i (.iad 23 (.s 21) (.s 22) 10),qf 24 23 1, .i (.ldh 25 (.s 24) 1 false),qm 26 1,qd 27 .neq 25 26]) (.cond (.s 27) (.seq (.ops [.i (.mov 4 (qi (-1)))]) .ret) .skip)) (.seq (.ops [qm 28 1, .i (.bin 29 .add (.s 28) (qi 1)),qm 1 29]) (.seq (.seq (.ops [qm 30 0,qm 31 5, .i (.iad 32 (.s 30) (.s 31) 10),qf 33 32 2, .i (.ldh 34 (.s 33) 1 false),qm 35 1,qd 36 .neq 34 35]) (.cond (.s 36) (.seq (.ops [.i (.mov 4 (qi (-1)))]) .ret) .skip)) (.seq (.ops [qm 37 1, .i (.bin 38 .add (.s 37) (qi 1)),qm 1 38]) (.seq (.ops [qm 39 0,qm 40 5, .i (.iad 41 (.s 39) (.s 40) 10),qf 42 41 3, .i (.ldh 43 (.s 42) 1 false),qm 44 1, .i (.call 46 42 false [(.s 43),(.s 44)]),qm 1 45]) (.seq (.seq (.ops [qm 46 1, .i (.bin 47 .lss (.s 46) (qi 0))]) (.cond (.s 47) (.seq (.ops [.i (.mov 4 (qi (-1)))]) .ret) .skip)) (.seq (.ops [qm 48 0,qm 49 5, .i (.iad 50 (.s 48) (.s 49) 10),qf 51 50 4, .i (.ldh 52 (.s 51) 1 false),qm 53 1, .i (.call 55 42 false [(.s 52),(.s 53)]),qm 1 54]) (.seq (.seq (.ops [qm 55 1, .i (.bin 56 .lss (.s 55) (qi 0))]) (.cond (.s 56) (.seq (.ops [.i (.mov 4 (qi (-1)))]) .ret) .skip)) (.seq (.seq (.ops [qm 57 0,qm 58 5, .i (.iad 59 (.s 57) (.s 58) 10),qf 60 59 5,qf 61 60 0, .i (.ldh 62 (.s 61) 1 false),qm 63 1,qd 64 .neq 62 63]) (.cond (.s 64) (.seq (.ops [.i (.mov 4 (qi (-1)))]) .ret) .skip)) (.seq (.ops [qm 65 1, .i (.bin 66 .add (.s 65) (qi 1)),qm 1 66]) (.seq (.seq (.ops [qm 67 0,qm 68 5, .i (.iad 69 (.s 67) (.s 68) 10),qf 70 69 5,qf 71 70 1, .i (.ldh 72 (.s 71) 1 false),qm 73 1,qd 74 .neq 72 73]) (.cond (.s 74) (.seq (.ops [.i (.mov 4 (qi (-1)))]) .ret) .skip)) (.seq (.ops [qm 75 1, .i (.bin 76 .add (.s 75) (qi 1)),qm 1 76]) (.seq (.ops [qm 77 0,qm 78 5, .i (.iad 79 (.s 77) (.s 78) 10),qf 80 79 5,qf 81 80 2, .i (.ldh 82 (.s 81) 1 false),qm 83 1, .i (.call 85 42 false [(.s 82),(.s 83)]),qm 1 84]) (.seq (.seq (.ops [qm 85 1, .i (.bin 86 .lss (.s 85) (qi 0))]) (.cond (.s 86) (.seq (.ops [.i (.mov 4 (qi (-1)))]) .ret) .skip)) (.seq (.ops [qm 87 0,qm 88 5, .i (.iad 89 (.s 87) (.s 88) 10),qf 90 89 5,qf 91 90 3, .i (.ldh 92 (.s 91) 1 false),qm 93 1, .i (.call 95 42 false [(.s 92),(.s 93)]),qm 1 94]) (.seq (.seq (.ops [qm 95 1, .i (.bin 96 .lss (.s 95) (qi 0))]) (.cond (.s 96) (.seq (.ops [.i (.mov 4 (qi (-1)))]) .ret) .skip)) (.seq (.ops [qm 97 0,qm 98 5, .i (.iad 99 (.s 97) (.s 98) 10),qf 100 99 5,qf 101 100 4, .i (.ldh 102 (.s 101) 1 false),qm 103 1, .i (.call 105 78 false [(.s 102),(.s 103)]),qm 1 104]) (.seq (.ops [qm 105 1, .i (.bin 106 .lss (.s 105) (qi 0))]) (.cond (.s 106) (.seq (.ops [.i (.mov 4 (qi (-1)))]) .ret) .skip)))))))))))))))))))))) (.ops [qm 10 5, .i (.bin 11 .add (.s 10) (qi 1)),qm 5 11])))))) (.seq (.ops [qm 107 1,qm 4 107]) .ret)))⟩
theorem JD:cd 28=some vH:=by kernel_rfl
end Go.Eng.U
namespace Go.Eng.U
theorem y6:ny cd 28 (.sl ak):=by
 intro h cs v S k hT hv hk
 by_cases hsl:∃xs,v= .l xs
 case neg=>
  obtain⟨xs,e,_⟩:=hv.sl
  cases v <;>simp[nG]at e
  exact absurd ⟨_,rfl⟩ hsl
 obtain⟨zs,rfl⟩:=hsl
 have hTe:∀i (hi:i < zs.length),IK ak zs[i]:=fun i hi=>by
  obtain⟨h0,cs0,S0,hT⟩:=hT
  obtain⟨_,ys,_,_,_,_,_,e,_,_,_,_,_,hel0,_⟩:=hT.view
  simp at e
  subst e
  obtain⟨Si,hx⟩:=hel0.at hi
  exact⟨_,_,_,hx⟩
 obtain⟨c,xs,id,off,bs,S',rfl,hxs,hm,hl,hat,hce,hbs,hel,hS⟩:=hv.view
 have hcn:ic (.sl ak) (.l zs)=(zs.map (aD ak)).sum:=rfl
 rw[hcn]at hk⊢
 have hxs':xs=nm (jh ak) (aD ak) zs k:=by
  have e:nG (.sl ak) (.l zs) k= .l (nm (jh ak) (aD ak) zs k):=rfl
  rw[e]at hxs
  exact(by simpa using hxs.symm)
 have hlen:xs.length=zs.length:=by rw[hxs',bV]
 have hs1:ak.size=10:=rfl
 rw[hs1]at hat hbs
 refine aC JD rfl ?_
 simp(disch:=omega) only[vH,SX,SU,SL,reduceCtorEq,Nat.reduceAdd,Nat.reduceLeDiff,reduceIte]
 refine cP (σ:=Nat) (f1:=_) (by simp only[SX,SU,SL,reduceCtorEq,Nat.reduceAdd,Nat.reduceLeDiff,reduceIte];rfl) (fun i=> [(5, .val false [.int .i64 i]),(1, .val false [.int .i64 ((k+((zs.take i).map (aD ak)).sum:Nat):Int)])])
  (fun i g h'=>g=xs.length - i∧i≤xs.length∧h'=h) 0 xs.length (by simp only[List.take_zero,List.map_nil,List.sum_nil,SX,SU,SL,reduceCtorEq,Nat.reduceAdd,Nat.reduceLeDiff,reduceIte];rfl) ⟨by omega,by omega,rfl⟩ ?_
 rintro i g h' ⟨hg,hi,rfl⟩
 simp(disch:=omega) only[vH,hl,aB,SX,SU,SL,reduceCtorEq,Nat.reduceAdd,Nat.reduceLeDiff,reduceIte]
 refine aw (fun hlt=> ?_) (fun hlt=> ?_)
 ·have hix:i < xs.length:=by omega
  have hiz:i < zs.length:=by omega
  have hsi:=kI (g:=aD ak) (List.getElem?_eq_getElem hiz)
  have hsl:=sY (g:=aD ak) zs (i+1)
  have hfit:off+i * 10+10≤bs.length:=by
   have:=Nat.mul_le_mul_right 10 hix
   rw[Nat.succ_mul]at this
   omega
  obtain⟨Si,k1⟩:=hel.at hix
  have hxi:xs[i]=jh ak zs[i] (k+((zs.take i).map (aD ak)).sum):=by
   have e1:xs[i]? =some (jh ak zs[i] (k+((zs.take i).map (aD ak)).sum)):=by
    rw[hxs']
    have e2:zs=zs.take i++zs[i]::zs.drop (i+1):=by rw[←List.drop_eq_getElem_cons hiz,List.take_append_drop]
    conv=>lhs;rw[e2,rR,nm]
    have hl2:(nm (jh ak) (aD ak) (zs.take i) k).length=i:=by rw[bV,List.length_take];omega
    rw[List.getElem?_append_right (by omega),hl2,Nat.sub_self,List.getElem?_cons_zero]
   rw[List.getElem?_eq_getElem hix]at e1
   simpa using e1
  rw[hs1]at k1
  obtain⟨x0,x1,x2,x3,x4,x5,x6,x7,x8,x9,hx⟩:=CW k1.size
  rw[hx]at k1
  obtain⟨pre,post,hpl,rfl⟩:=zL hx hfit
  have hat':=hat i hix
  rw[←hpl]at hat'
  have hcb:=(hce (by omega)).1
  obtain⟨h0_,cs0_,S0_,hTi⟩:=hTe i hiz
  obtain⟨w_vs,w_hv,w_q0⟩:=hTi.st
  obtain⟨w_v0,w_r0,w_S0,w_T0,rfl,w_e0,w_h0,w_q1⟩:=w_q0.step
  obtain⟨m0,_,rfl,_,_,_⟩:=w_h0.int
  obtain⟨w_v1,w_r1,w_S1,w_T1,rfl,w_e1,w_h1,w_q2⟩:=w_q1.step
  obtain⟨m1,_,rfl,_,_,_⟩:=w_h1.int
  obtain⟨w_v2,w_r2,w_S2,w_T2,rfl,w_e2,w_h2,w_q3⟩:=w_q2.step
  obtain⟨m2,_,rfl,_,_,_⟩:=w_h2.int
  obtain⟨w_v3,w_r3,w_S3,w_T3,rfl,w_e3,w_h3,w_q4⟩:=w_q3.step
  obtain⟨w_v4,w_r4,w_S4,w_T4,rfl,w_e4,w_h4,w_q5⟩:=w_q4.step
  obtain⟨w_v5,w_r5,w_S5,w_T5,rfl,w_e5,w_h5,w_q6⟩:=w_q5.step
  obtain⟨w5_vs,w5_hv,w5_q0⟩:=w_h5.st
  obtain⟨w5_v0,w5_r0,w5_S0,w5_T0,rfl,w5_e0,w5_h0,w5_q1⟩:=w5_q0.step
  obtain⟨m5,_,rfl,_,_,_⟩:=w5_h0.int
  obtain⟨w5_v1,w5_r1,w5_S1,w5_T1,rfl,w5_e1,w5_h1,w5_q2⟩:=w5_q1.step
  obtain⟨m6,_,rfl,_,_,_⟩:=w5_h1.int
  obtain⟨w5_v2,w5_r2,w5_S2,w5_T2,rfl,w5_e2,w5_h2,w5_q3⟩:=w5_q2.step
  obtain⟨w5_v3,w5_r3,w5_S3,w5_T3,rfl,w5_e3,w5_h3,w5_q4⟩:=w5_q3.step
  obtain⟨w5_v4,w5_r4,w5_S4,w5_T4,rfl,w5_e4,w5_h4,w5_q5⟩:=w5_q4.step
  obtain⟨_,rfl,_⟩:=w5_q5
  subst w5_hv
  obtain⟨_,rfl,_⟩:=w_q6
  have hzi:zs[i]= .r [.i m0, .i m1, .i m2,w_v3,w_v4, .r [.i m5, .i m6,w5_v2,w5_v3,w5_v4]]:=w_hv
  have hmkE:xs[i]= .r [.i (IntKind.i64.wrap (((k+((zs.take i).map (aD ak)).sum):Nat):Int)), .i (IntKind.i64.wrap ((((k+((zs.take i).map (aD ak)).sum)+1):Nat):Int)), .i (IntKind.i64.wrap (((((k+((zs.take i).map (aD ak)).sum)+1)+1):Nat):Int)),jh (.sl (.int .u8)) w_v3 (((((k+((zs.take i).map (aD ak)).sum)+1)+1)+1)),jh (.sl (.int .u8)) w_v4 ((((((k+((zs.take i).map (aD ak)).sum)+1)+1)+1)+aD (.sl (.int .u8)) w_v3)), .r [.i (IntKind.i64.wrap ((((((((k+((zs.take i).map (aD ak)).sum)+1)+1)+1)+aD (.sl (.int .u8)) w_v3)+aD (.sl (.int .u8)) w_v4):Nat):Int)), .i (IntKind.i64.wrap (((((((((k+((zs.take i).map (aD ak)).sum)+1)+1)+1)+aD (.sl (.int .u8)) w_v3)+aD (.sl (.int .u8)) w_v4)+1):Nat):Int)),jh (.sl (.int .u8)) w5_v2 (((((((((k+((zs.take i).map (aD ak)).sum)+1)+1)+1)+aD (.sl (.int .u8)) w_v3)+aD (.sl (.int .u8)) w_v4)+1)+1)),jh (.sl (.int .u8)) w5_v3 ((((((((((k+((zs.take i).map (aD ak)).sum)+1)+1)+1)+aD (.sl (.int .u8)) w_v3)+aD (.sl (.int .u8)) w_v4)+1)+1)+aD (.sl (.int .u8)) w5_v2)),jh (.sl (.sl (.int .u8))) w5_v4 (((((((((((k+((zs.take i).map (aD ak)).sum)+1)+1)+1)+aD (.sl (.int .u8)) w_v3)+aD (.sl (.int .u8)) w_v4)+1)+1)+aD (.sl (.int .u8)) w5_v2)+aD (.sl (.int .u8)) w5_v3))]]:=by rw[hxi,hzi];rfl
  have hcne:aD ak zs[i]=(1+(1+(1+(aD (.sl (.int .u8)) w_v3+(aD (.sl (.int .u8)) w_v4+((1+(1+(aD (.sl (.int .u8)) w5_v2+(aD (.sl (.int .u8)) w5_v3+(aD (.sl (.sl (.int .u8))) w5_v4+0)))))+0)))))):=by rw[hzi];rfl
  rw[hcne]at hsi
  obtain⟨p_vs,p_hv,p_q0⟩:=k1.st
  obtain⟨p_v0,p_r0,p_S0,p_T0,rfl,rfl,p_h0,p_q1⟩:=p_q0.step
  simp only[Ty.size,Ty.aM,Nat.reduceAdd,Nat.zero_add,List.drop_zero,List.drop_succ_cons,List.take_succ_cons,List.take_zero]at p_h0
  obtain⟨n0,e0,rfl,rfl,lo0,hi0⟩:=p_h0.int
  simp only[List.cons.injEq,and_true]at e0
  subst e0
  obtain⟨p_v1,p_r1,p_S1,p_T1,rfl,rfl,p_h1,p_q2⟩:=p_q1.step
  simp only[Ty.size,Ty.aM,Nat.reduceAdd,Nat.zero_add,List.drop_zero,List.drop_succ_cons,List.take_succ_cons,List.take_zero]at p_h1
  obtain⟨n1,e1,rfl,rfl,lo1,hi1⟩:=p_h1.int
  simp only[List.cons.injEq,and_true]at e1
  subst e1
  obtain⟨p_v2,p_r2,p_S2,p_T2,rfl,rfl,p_h2,p_q3⟩:=p_q2.step
  simp only[Ty.size,Ty.aM,Nat.reduceAdd,Nat.zero_add,List.drop_zero,List.drop_succ_cons,List.take_succ_cons,List.take_zero]at p_h2
  obtain⟨n2,e2,rfl,rfl,lo2,hi2⟩:=p_h2.int
  simp only[List.cons.injEq,and_true]at e2
  subst e2
  obtain⟨p_v3,p_r3,p_S3,p_T3,rfl,rfl,p_h3,p_q4⟩:=p_q3.step
  simp only[Ty.size,Ty.aM,Nat.reduceAdd,Nat.zero_add,List.drop_zero,List.drop_succ_cons,List.take_succ_cons,List.take_zero]at p_h3
  have h3:=p_h3
  obtain⟨p_v4,p_r4,p_S4,p_T4,rfl,rfl,p_h4,p_q5⟩:=p_q4.step
  simp only[Ty.size,Ty.aM,Nat.reduceAdd,Nat.zero_add,List.drop_zero,List.drop_succ_cons,List.take_succ_cons,List.take_zero]at p_h4
  have h4:=p_h4
  obtain⟨p_v5,p_r5,p_S5,p_T5,rfl,rfl,p_h5,p_q6⟩:=p_q5.step
  simp only[Ty.size,Ty.aM,Nat.reduceAdd,Nat.zero_add,List.drop_zero,List.drop_succ_cons,List.take_succ_cons,List.take_zero]at p_h5
  obtain⟨p5_vs,p5_hv,p5_q0⟩:=p_h5.st
  obtain⟨p5_v0,p5_r0,p5_S0,p5_T0,rfl,rfl,p5_h0,p5_q1⟩:=p5_q0.step
  simp only[Ty.size,Ty.aM,Nat.reduceAdd,Nat.zero_add,List.drop_zero,List.drop_succ_cons,List.take_succ_cons,List.take_zero]at p5_h0
  obtain⟨n5,e5,rfl,rfl,lo5,hi5⟩:=p5_h0.int
  simp only[List.cons.injEq,and_true]at e5
  subst e5
  obtain⟨p5_v1,p5_r1,p5_S1,p5_T1,rfl,rfl,p5_h1,p5_q2⟩:=p5_q1.step
  simp only[Ty.size,Ty.aM,Nat.reduceAdd,Nat.zero_add,List.drop_zero,List.drop_succ_cons,List.take_succ_cons,List.take_zero]at p5_h1
  obtain⟨n6,e6,rfl,rfl,lo6,hi6⟩:=p5_h1.int
  simp only[List.cons.injEq,and_true]at e6
  subst e6
  obtain⟨p5_v2,p5_r2,p5_S2,p5_T2,rfl,rfl,p5_h2,p5_q3⟩:=p5_q2.step
  simp only[Ty.size,Ty.aM,Nat.reduceAdd,Nat.zero_add,List.drop_zero,List.drop_succ_cons,List.take_succ_cons,List.take_zero]at p5_h2
  have h7:=p5_h2
  obtain⟨p5_v3,p5_r3,p5_S3,p5_T3,rfl,rfl,p5_h3,p5_q4⟩:=p5_q3.step
  simp only[Ty.size,Ty.aM,Nat.reduceAdd,Nat.zero_add,List.drop_zero,List.drop_succ_cons,List.take_succ_cons,List.take_zero]at p5_h3
  have h8:=p5_h3
  obtain⟨p5_v4,p5_r4,p5_S4,p5_T4,rfl,rfl,p5_h4,p5_q5⟩:=p5_q4.step
  simp only[Ty.size,Ty.aM,Nat.reduceAdd,Nat.zero_add,List.drop_zero,List.drop_succ_cons,List.take_succ_cons,List.take_zero]at p5_h4
  have h9:=p5_h4
  obtain⟨_,rfl,rfl⟩:=p5_q5
  subst p5_hv
  obtain⟨_,rfl,rfl⟩:=p_q6
  have heq:=hmkE.symm.trans p_hv
  simp only[Tv.r.injEq,List.cons.injEq,Tv.i.injEq,and_true,and_assoc]at heq
  obtain⟨a0,a1,a2,a3,a4,a5,a6,a7,a8,a9⟩:=heq
  rw[←a3]at h3
  rw[←a4]at h4
  rw[←a7]at h7
  rw[←a8]at h8
  rw[←a9]at h9
  simp(disch:=omega) only[ae,vH,hl,hat',hcb,aY,aX,bd,aW,List.length_append,List.cons_append,List.nil_append,aK,aB,aO,c8,SX,SU,SL,reduceCtorEq,Nat.reduceAdd,Nat.reduceLeDiff,reduceIte]
  refine aw (fun hn=>absurd (by rw[←a0,aB (by omega) (by omega)]) hn) (fun hn=> ?_)
  simp(disch:=omega) only[ae,vH,hl,hat',hcb,aY,aX,bd,aW,List.length_append,List.cons_append,List.nil_append,aK,aB,aO,c8,SX,SU,SL,reduceCtorEq,Nat.reduceAdd,Nat.reduceLeDiff,reduceIte]
  refine aw (fun hn=>absurd (by rw[←a1,aB (by omega) (by omega)]) hn) (fun hn=> ?_)
  simp(disch:=omega) only[ae,vH,hl,hat',hcb,aY,aX,bd,aW,List.length_append,List.cons_append,List.nil_append,aK,aB,aO,c8,SX,SU,SL,reduceCtorEq,Nat.reduceAdd,Nat.reduceLeDiff,reduceIte]
  refine aw (fun hn=>absurd (by rw[←a2,aB (by omega) (by omega)]) hn) (fun hn=> ?_)
  simp(disch:=omega) only[ae,vH,hl,hat',hcb,aY,aX,bd,aW,List.length_append,List.cons_append,List.nil_append,aK,aB,aO,c8,SX,SU,SL,reduceCtorEq,Nat.reduceAdd,Nat.reduceLeDiff,reduceIte]
  rw[←iL]at h3
  refine ny.go j4 ⟨_,_,_,w_h3⟩ h3 (k:=((((k+((zs.take i).map (aD ak)).sum)+1)+1)+1)) (by rw[aO];omega) ?_
  simp(disch:=omega) only[ae,vH,hl,hat',hcb,aY,aX,bd,aW,List.length_append,List.cons_append,List.nil_append,aK,aB,aO,c8,SX,SU,SL,reduceCtorEq,Nat.reduceAdd,Nat.reduceLeDiff,reduceIte]
  refine aw (fun hn=>absurd hn (by omega)) (fun hn=> ?_)
  simp(disch:=omega) only[ae,vH,hl,hat',hcb,aY,aX,bd,aW,List.length_append,List.cons_append,List.nil_append,aK,aB,aO,c8,SX,SU,SL,reduceCtorEq,Nat.reduceAdd,Nat.reduceLeDiff,reduceIte]
  rw[←iL]at h4
  refine ny.go j4 ⟨_,_,_,w_h4⟩ h4 (k:=(((((k+((zs.take i).map (aD ak)).sum)+1)+1)+1)+aD (.sl (.int .u8)) w_v3)) (by rw[aO];omega) ?_
  simp(disch:=omega) only[ae,vH,hl,hat',hcb,aY,aX,bd,aW,List.length_append,List.cons_append,List.nil_append,aK,aB,aO,c8,SX,SU,SL,reduceCtorEq,Nat.reduceAdd,Nat.reduceLeDiff,reduceIte]
  refine aw (fun hn=>absurd hn (by omega)) (fun hn=> ?_)
  simp(disch:=omega) only[ae,vH,hl,hat',hcb,aY,aX,bd,aW,List.length_append,List.cons_append,List.nil_append,aK,aB,aO,c8,SX,SU,SL,reduceCtorEq,Nat.reduceAdd,Nat.reduceLeDiff,reduceIte]
  refine aw (fun hn=>absurd (by rw[←a5,aB (by omega) (by omega)]) hn) (fun hn=> ?_)
  simp(disch:=omega) only[ae,vH,hl,hat',hcb,aY,aX,bd,aW,List.length_append,List.cons_append,List.nil_append,aK,aB,aO,c8,SX,SU,SL,reduceCtorEq,Nat.reduceAdd,Nat.reduceLeDiff,reduceIte]
  refine aw (fun hn=>absurd (by rw[←a6,aB (by omega) (by omega)]) hn) (fun hn=> ?_)
  simp(disch:=omega) only[ae,vH,hl,hat',hcb,aY,aX,bd,aW,List.length_append,List.cons_append,List.nil_append,aK,aB,aO,c8,SX,SU,SL,reduceCtorEq,Nat.reduceAdd,Nat.reduceLeDiff,reduceIte]
  rw[←iL]at h7
  refine ny.go j4 ⟨_,_,_,w5_h2⟩ h7 (k:=((((((((k+((zs.take i).map (aD ak)).sum)+1)+1)+1)+aD (.sl (.int .u8)) w_v3)+aD (.sl (.int .u8)) w_v4)+1)+1)) (by rw[aO];omega) ?_
  simp(disch:=omega) only[ae,vH,hl,hat',hcb,aY,aX,bd,aW,List.length_append,List.cons_append,List.nil_append,aK,aB,aO,c8,SX,SU,SL,reduceCtorEq,Nat.reduceAdd,Nat.reduceLeDiff,reduceIte]
  refine aw (fun hn=>absurd hn (by omega)) (fun hn=> ?_)
  simp(disch:=omega) only[ae,vH,hl,hat',hcb,aY,aX,bd,aW,List.length_append,List.cons_append,List.nil_append,aK,aB,aO,c8,SX,SU,SL,reduceCtorEq,Nat.reduceAdd,Nat.reduceLeDiff,reduceIte]
  rw[←iL]at h8
  refine ny.go j4 ⟨_,_,_,w5_h3⟩ h8 (k:=(((((((((k+((zs.take i).map (aD ak)).sum)+1)+1)+1)+aD (.sl (.int .u8)) w_v3)+aD (.sl (.int .u8)) w_v4)+1)+1)+aD (.sl (.int .u8)) w5_v2)) (by rw[aO];omega) ?_
  simp(disch:=omega) only[ae,vH,hl,hat',hcb,aY,aX,bd,aW,List.length_append,List.cons_append,List.nil_append,aK,aB,aO,c8,SX,SU,SL,reduceCtorEq,Nat.reduceAdd,Nat.reduceLeDiff,reduceIte]
  refine aw (fun hn=>absurd hn (by omega)) (fun hn=> ?_)
  simp(disch:=omega) only[ae,vH,hl,hat',hcb,aY,aX,bd,aW,List.length_append,List.cons_append,List.nil_append,aK,aB,aO,c8,SX,SU,SL,reduceCtorEq,Nat.reduceAdd,Nat.reduceLeDiff,reduceIte]
  rw[←iL]at h9
  refine ny.go Bx ⟨_,_,_,w5_h4⟩ h9 (k:=((((((((((k+((zs.take i).map (aD ak)).sum)+1)+1)+1)+aD (.sl (.int .u8)) w_v3)+aD (.sl (.int .u8)) w_v4)+1)+1)+aD (.sl (.int .u8)) w5_v2)+aD (.sl (.int .u8)) w5_v3)) (by rw[aO];omega) ?_
  simp(disch:=omega) only[ae,vH,hl,hat',hcb,aY,aX,bd,aW,List.length_append,List.cons_append,List.nil_append,aK,aB,aO,c8,SX,SU,SL,reduceCtorEq,Nat.reduceAdd,Nat.reduceLeDiff,reduceIte]
  refine aw (fun hn=>absurd hn (by omega)) (fun hn=> ?_)
  simp(disch:=omega) only[ae,vH,hl,hat',hcb,aY,aX,bd,aW,List.length_append,List.cons_append,List.nil_append,aK,aB,aO,c8,SX,SU,SL,reduceCtorEq,Nat.reduceAdd,Nat.reduceLeDiff,reduceIte]
  refine⟨i+1,xs.length - (i+1),by omega,?_,rfl,by omega⟩
  have e1:k+((zs.take (i+1)).map (aD ak)).sum=(((((((((((k+((zs.take i).map (aD ak)).sum)+1)+1)+1)+aD (.sl (.int .u8)) w_v3)+aD (.sl (.int .u8)) w_v4)+1)+1)+aD (.sl (.int .u8)) w5_v2)+aD (.sl (.int .u8)) w5_v3)+aD (.sl (.sl (.int .u8))) w5_v4):=by omega
  rw[e1]
 ·simp(disch:=omega) only[vH,SX,SU,SL,reduceCtorEq,Nat.reduceAdd,Nat.reduceLeDiff,reduceIte]
  have:i=zs.length:=by omega
  rw[this,List.take_length]
end Go.Eng.U
namespace Go.Eng.U
open Go.Eng.F (ao Table aH)
def c4:AF:=⟨2,7,[.tmp 4],(.seq (.ops [.i (.lbox 2 (.s 0)), .i (.lbox 3 (.s 1)), .i (.mov 4 (qb false))]) (.seq (.ops [.i (.mov 5 (qi 1048576))]) (.seq (.ops [ql 14 2 2 6 true,qm 15 5, .i (.call 17 16 false [(.s 14),(.s 15)]),qm 5 16]) (.seq (.seq (.ops [qm 17 5, .i (.bin 18 .lss (.s 17) (qi 0))]) (.cond (.s 18) (.seq (.ops [.i (.mov 4 (qb true))]) .ret) .skip)) (.seq (.ops [ql 19 3 3 1 true,qm 20 5, .i (.call 22 17 false [(.s 19),(.s 20)]),qm 5 21]) (.seq (.seq (.ops [qm 22 5, .i (.bin 23 .lss (.s 22) (qi 0))]) (.cond (.s 23) (.seq (.ops [.i (.mov 4 (qb true))]) .ret) .skip)) (.seq (.ops [ql 24 2 2 6 true,qk 26 19 24,ql 26 3 3 1 true,qk 28 20 26, .i (.call 29 18 false [(.s 25),(.s 27)]),qm 6 28]) (.seq (.ops [ql 29 2 2 6 true,qk 31 19 29, .i (.lal 7 [.int .i64 0, .int .i64 0, .int .i64 0, .int .i64 0, .int .i64 0, .nils]),qs 7 7 30 6]) (.seq (.ops [ql 31 3 3 1 true,qk 33 20 31, .i (.lal 8 [.nils]),qs 8 8 32 1]) (.seq (.ops [ql 33 7 7 6 true,ql 34 8 8 1 true, .i (.call 36 21 false [(.s 33),(.s 34)]),qm 9 35]) (.seq (.seq (.ops [qm 36 9,qm 37 6, .i (.call 39 22 false [(.s 36),(.s 37)]), .i (.not 39 (.s 38))]) (.cond (.s 39) (.seq (.ops [.i (.mov 4 (qb false))]) .ret) .skip)) (.seq (.seq (.ops [ql 40 7 7 6 true,ql 41 2 2 6 true,qk 43 19 41, .i (.call 44 23 false [(.s 40),(.s 42)]), .i (.not 44 (.s 43))]) (.cond (.s 44) (.seq (.ops [.i (.mov 4 (qb false))]) .ret) .skip)) (.seq (.seq (.ops [ql 45 8 8 1 true,ql 46 3 3 1 true,qk 48 20 46, .i (.call 49 24 false [(.s 45),(.s 47)]), .i (.not 49 (.s 48))]) (.cond (.s 49) (.seq (.ops [.i (.mov 4 (qb false))]) .ret) .skip)) (.seq (.ops [.i (.mov 10 (qi 1))]) (.seq (.ops [ql 50 7 7 6 true,qm 51 10, .i (.call 53 25 false [(.s 50),(.s 51)]),qm 10 52]) (.seq (.ops [ql 53 8 8 1 true,qm 54 10, .i (.call 56 26 false [(.s 53),(.s 54)]),qm 10 55]) (.seq (.seq (.ops [qm 56 10, .i (.bin 57 .lss (.s 56) (qi 0)),qm 58 57, .g 58 false 60 (.mov 59 (.s 9)), .g 58 false 61 (.mov 60 (.s 6)), .g 58 false 62 (.call 62 22 false [(.s 59),(.s 60)]), .g 58 false 63 (.not 62 (.s 61)), .i (.pick 63 (.s 58) (qb true) (.s 62))]) (.cond (.s 63) (.seq (.ops [.i (.mov 4 (qb false))]) .ret) .skip)) (.seq (.ops [.i (.mov 11 (qi 1))]) (.seq (.ops [qm 64 9,qm 65 11, .i (.call 67 27 false [(.s 64),(.s 65)]),qm 11 66]) (.seq (.ops [.i (.mov 12 (qi 1))]) (.seq (.ops [qm 67 9,qm 68 12, .i (.call 70 28 false [(.s 67),(.s 68)]),qm 12 69]) (.seq (.seq (.ops [qm 70 12, .i (.bin 71 .lss (.s 70) (qi 0))]) (.cond (.s 71) (.seq (.ops [.i (.mov 4 (qb false))]) .ret) .skip)) (.seq (.seq (.ops [qm 72 12,qm 73 11,qd 74 .neq 72 73]) (.cond (.s 74) (.seq (.ops [.i (.mov 4 (qb false))]) .ret) .skip)) (.seq (.ops [ql 75 2 2 6 true,qk 77 19 75,ql 77 3 3 1 true,qk 79 20 77, .i (.call 80 21 false [(.s 76),(.s 78)]),qm 13 79]) (.seq (.seq (.ops [qm 80 13,qm 81 6, .i (.call 83 22 false [(.s 80),(.s 81)]), .i (.not 83 (.s 82))]) (.cond (.s 83) (.seq (.ops [.i (.mov 4 (qb false))]) .ret) .skip)) (.seq (.ops [.i (.mov 12 (qi 1))]) (.seq (.ops [qm 84 9,qm 85 12, .i (.call 87 28 false [(.s 84),(.s 85)]),qm 12 86]) (.seq (.seq (.ops [qm 87 12, .i (.bin 88 .lss (.s 87) (qi 0))]) (.cond (.s 88) (.seq (.ops [.i (.mov 4 (qb false))]) .ret) .skip)) (.seq (.seq (.ops [qm 89 12,qm 90 11,qd 91 .neq 89 90]) (.cond (.s 91) (.seq (.ops [.i (.mov 4 (qb false))]) .ret) .skip)) (.seq (.ops [.i (.mov 4 (qb true))]) .ret))))))))))))))))))))))))))))))⟩
theorem k4:cd 4=some c4:=by kernel_rfl
theorem jO {h:H} {kk:IntKind} {c:C} {v:Tv} {S:List Nat} (hv:Rp h (.sl (.int kk)) [c] v S):xm c=some (wt v):=by
 obtain⟨c2,xs,id,off,bs,S',e,rfl,hm,hl,hat,hce,hbs,hel,hS⟩:=hv.view
 injection e with e
 subst e
 rw[hl]
 simp[wt,(nX hel).1]
theorem law_Settled:∀h vs,xe h [TForest,TTable] vs→WC cd 4 vs h (fun r _=>r= .val false [.bool true]):=by
 intro h vs ha
 obtain⟨cs0,v0,S0,r0,rfl,hv0,ha0⟩:=ha
 obtain⟨cs1,v1,S1,r1,rfl,hv1,ha1⟩:=ha0
 have hr0:r1= []:=ha1
 subst hr0
 have hsz0:cs0.length=6:=hv0.size
 have hall0:cs0.take 6=cs0:=List.take_of_length_le (by omega)
 have hsz1:cs1.length=1:=hv1.size
 have hall1:cs1.take 1=cs1:=List.take_of_length_le (by omega)
 obtain⟨f,rfl⟩:=ao.ex hv0.ok
 obtain⟨t,rfl⟩:=Table.ex hv1.ok
 have hc0:ic TForest f.tv≤15 * (1+wt f.tv):=Nat.le_trans (wC _ _) (tw _ _)
 have hc1:ic TTable t.tv≤2 * (1+wt t.tv):=Nat.le_trans (wC _ _) (tw _ _)
 have hr0:ic (.sl ak) (F.fw (aH f t))≤10 * (1+wt (F.fw (aH f t))):=Nat.le_trans (wC _ _) (tw _ _)
 have hw0:=F.ze f t
 refine aC k4 rfl ?_
 simp(disch:=omega) only[ae,c4,hsz0,hall0,hsz1,hall1,aK,aB,cH,beq_self_eq_true,bne_self_eq_false,List.getElem?_cons_zero,List.getElem?_cons_succ,Bool.or_false,Bool.false_or,Bool.or_self,SX,SU,SL,reduceCtorEq,Nat.reduceAdd,Nat.reduceLeDiff,reduceIte]
 refine eN.go Bi hv0 (k:=1048576) (by omega) (fun hf0=> ?_) (fun hf0=> ?_)
 case refine_2=>
  simp(disch:=omega) only[ae,c4,hsz0,hall0,hsz1,hall1,aK,aB,cH,beq_self_eq_true,bne_self_eq_false,List.getElem?_cons_zero,List.getElem?_cons_succ,Bool.or_false,Bool.false_or,Bool.or_self,SX,SU,SL,reduceCtorEq,Nat.reduceAdd,Nat.reduceLeDiff,reduceIte]
  refine aw (fun hn=> ?_) (fun hn=>absurd (show(-1:Int) < 0 by omega) hn)
  simp(disch:=omega) only[ae,c4,hsz0,hall0,hsz1,hall1,aK,aB,cH,beq_self_eq_true,bne_self_eq_false,List.getElem?_cons_zero,List.getElem?_cons_succ,Bool.or_false,Bool.false_or,Bool.or_self,SX,SU,SL,reduceCtorEq,Nat.reduceAdd,Nat.reduceLeDiff,reduceIte]
 simp(disch:=omega) only[ae,c4,hsz0,hall0,hsz1,hall1,aK,aB,cH,beq_self_eq_true,bne_self_eq_false,List.getElem?_cons_zero,List.getElem?_cons_succ,Bool.or_false,Bool.false_or,Bool.or_self,SX,SU,SL,reduceCtorEq,Nat.reduceAdd,Nat.reduceLeDiff,reduceIte]
 refine aw (fun hn=>absurd hn (by omega)) (fun hn=> ?_)
 simp(disch:=omega) only[ae,c4,hsz0,hall0,hsz1,hall1,aK,aB,cH,beq_self_eq_true,bne_self_eq_false,List.getElem?_cons_zero,List.getElem?_cons_succ,Bool.or_false,Bool.false_or,Bool.or_self,SX,SU,SL,reduceCtorEq,Nat.reduceAdd,Nat.reduceLeDiff,reduceIte]
 refine eN.go CE hv1 (k:=1048576 - wt f.tv) (by omega) (fun hf1=> ?_) (fun hf1=> ?_)
 case refine_2=>
  simp(disch:=omega) only[ae,c4,hsz0,hall0,hsz1,hall1,aK,aB,cH,beq_self_eq_true,bne_self_eq_false,List.getElem?_cons_zero,List.getElem?_cons_succ,Bool.or_false,Bool.false_or,Bool.or_self,SX,SU,SL,reduceCtorEq,Nat.reduceAdd,Nat.reduceLeDiff,reduceIte]
  refine aw (fun hn=> ?_) (fun hn=>absurd (show(-1:Int) < 0 by omega) hn)
  simp(disch:=omega) only[ae,c4,hsz0,hall0,hsz1,hall1,aK,aB,cH,beq_self_eq_true,bne_self_eq_false,List.getElem?_cons_zero,List.getElem?_cons_succ,Bool.or_false,Bool.false_or,Bool.or_self,SX,SU,SL,reduceCtorEq,Nat.reduceAdd,Nat.reduceLeDiff,reduceIte]
 simp(disch:=omega) only[ae,c4,hsz0,hall0,hsz1,hall1,aK,aB,cH,beq_self_eq_true,bne_self_eq_false,List.getElem?_cons_zero,List.getElem?_cons_succ,Bool.or_false,Bool.false_or,Bool.or_self,SX,SU,SL,reduceCtorEq,Nat.reduceAdd,Nat.reduceLeDiff,reduceIte]
 refine aw (fun hn=>absurd hn (by omega)) (fun hn=> ?_)
 simp(disch:=omega) only[ae,c4,hsz0,hall0,hsz1,hall1,aK,aB,cH,beq_self_eq_true,bne_self_eq_false,List.getElem?_cons_zero,List.getElem?_cons_succ,Bool.or_false,Bool.false_or,Bool.or_self,SX,SU,SL,reduceCtorEq,Nat.reduceAdd,Nat.reduceLeDiff,reduceIte]
 refine aT (lL hv0 (by omega)) ?_
 rintro r0 g0 ⟨t0,d0,U0,hg0,rfl,z0,o0,l0⟩
 have n0:=de hg0
 have b0:=z0.lt
 have hd0:d0.length=6:=z0.size
 have ht0:d0.take 6=d0:=List.take_of_length_le (by omega)
 have hs0_0:aE [.int .i64 0, .int .i64 0, .int .i64 0, .int .i64 0, .int .i64 0, .nils] 0 d0=d0:=ew (by rw[hd0];rfl)
 simp(disch:=omega) only[ae,c4,hsz0,hall0,hsz1,hall1,hd0,ht0,hs0_0,aK,aB,cH,beq_self_eq_true,bne_self_eq_false,List.getElem?_cons_zero,List.getElem?_cons_succ,Bool.or_false,Bool.false_or,Bool.or_self,SX,SU,SL,reduceCtorEq,Nat.reduceAdd,Nat.reduceLeDiff,reduceIte]
 refine aT (oU (Rp.aL hg0 hv1) (by omega)) ?_
 rintro r1 g1 ⟨t1,d1,U1,hg1,rfl,z1,o1,l1⟩
 have n1:=de hg1
 have b1:=z1.lt
 have hd1:d1.length=1:=z1.size
 have ht1:d1.take 1=d1:=List.take_of_length_le (by omega)
 have hs1_0:aE [.nils] 0 d1=d1:=ew (by rw[hd1];rfl)
 simp(disch:=omega) only[ae,c4,hsz0,hall0,hsz1,hall1,hd0,ht0,hs0_0,hd1,ht1,hs1_0,aK,aB,cH,beq_self_eq_true,bne_self_eq_false,List.getElem?_cons_zero,List.getElem?_cons_succ,Bool.or_false,Bool.false_or,Bool.or_self,SX,SU,SL,reduceCtorEq,Nat.reduceAdd,Nat.reduceLeDiff,reduceIte]
 refine aT (F.rl ⟨_,_,rfl,⟨_,(Rp.aL hg1 z0)⟩,⟨_,_,rfl,⟨_,z1⟩,rfl⟩⟩ (by omega) (by omega)) ?_
 rintro r2 g2 ⟨t2,css2,U2,hg2,rfl,zz2,o2,l2⟩
 have n2:=de hg2
 obtain⟨d2_0,cr2_0,U2_0,V2_0,rfl,rfl,z2_0,zz2_0⟩:=zz2
 obtain⟨rfl,rfl⟩:=zz2_0
 simp only[List.nil_append,List.append_nil]at o2 l2
 have o2_0:=o2
 have b2_0:=z2_0.lt
 have l2_0:=l2
 obtain⟨e2_0,rfl⟩:=z2_0.one rfl
 simp(disch:=omega) only[ae,c4,hsz0,hall0,hsz1,hall1,hd0,ht0,hs0_0,hd1,ht1,hs1_0,aK,aB,cH,beq_self_eq_true,bne_self_eq_false,List.getElem?_cons_zero,List.getElem?_cons_succ,Bool.or_false,Bool.false_or,Bool.or_self,SX,SU,SL,reduceCtorEq,Nat.reduceAdd,Nat.reduceLeDiff,reduceIte]
 refine aT (lL (Rp.aL hg2 (Rp.aL hg1 (Rp.aL hg0 hv0))) (by omega)) ?_
 rintro r3 g3 ⟨t3,d3,U3,hg3,rfl,z3,o3,l3⟩
 have n3:=de hg3
 have b3:=z3.lt
 have hd3:d3.length=6:=z3.size
 have ht3:d3.take 6=d3:=List.take_of_length_le (by omega)
 have hs3_0:aE [.int .i64 0, .int .i64 0, .int .i64 0, .int .i64 0, .int .i64 0, .nils] 0 d3=d3:=ew (by rw[hd3];rfl)
 simp(disch:=omega) only[ae,c4,hsz0,hall0,hsz1,hall1,hd0,ht0,hs0_0,hd1,ht1,hs1_0,hd3,ht3,hs3_0,aK,aB,cH,beq_self_eq_true,bne_self_eq_false,List.getElem?_cons_zero,List.getElem?_cons_succ,Bool.or_false,Bool.false_or,Bool.or_self,SX,SU,SL,reduceCtorEq,Nat.reduceAdd,Nat.reduceLeDiff,reduceIte]
 refine aT (oU (Rp.aL hg3 (Rp.aL hg2 (Rp.aL hg1 (Rp.aL hg0 hv1)))) (by omega)) ?_
 rintro r4 g4 ⟨t4,d4,U4,hg4,rfl,z4,o4,l4⟩
 have n4:=de hg4
 have b4:=z4.lt
 have hd4:d4.length=1:=z4.size
 have ht4:d4.take 1=d4:=List.take_of_length_le (by omega)
 have hs4_0:aE [.nils] 0 d4=d4:=ew (by rw[hd4];rfl)
 simp(disch:=omega) only[ae,c4,hsz0,hall0,hsz1,hall1,hd0,ht0,hs0_0,hd1,ht1,hs1_0,hd3,ht3,hs3_0,hd4,ht4,hs4_0,aK,aB,cH,beq_self_eq_true,bne_self_eq_false,List.getElem?_cons_zero,List.getElem?_cons_succ,Bool.or_false,Bool.false_or,Bool.or_self,SX,SU,SL,reduceCtorEq,Nat.reduceAdd,Nat.reduceLeDiff,reduceIte]
 refine aT (F.jC ⟨_,_,rfl,⟨_,(Rp.aL hg4 z3)⟩,⟨_,_,rfl,⟨_,z4⟩,rfl⟩⟩ (by omega) (by omega)) ?_
 rintro r5 g5 ⟨t5,css5,U5,hg5,rfl,zz5,o5,l5⟩
 have n5:=de hg5
 obtain⟨d5_0,cr5_0,U5_0,V5_0,rfl,rfl,z5_0,zz5_0⟩:=zz5
 obtain⟨rfl,rfl⟩:=zz5_0
 simp only[List.nil_append,List.append_nil]at o5 l5
 have o5_0:=o5
 have b5_0:=z5_0.lt
 have l5_0:=l5
 obtain⟨e5_0,rfl⟩:=z5_0.one rfl
 simp(disch:=omega) only[ae,c4,hsz0,hall0,hsz1,hall1,hd0,ht0,hs0_0,hd1,ht1,hs1_0,hd3,ht3,hs3_0,hd4,ht4,hs4_0,aK,aB,cH,beq_self_eq_true,bne_self_eq_false,List.getElem?_cons_zero,List.getElem?_cons_succ,Bool.or_false,Bool.false_or,Bool.or_self,SX,SU,SL,reduceCtorEq,Nat.reduceAdd,Nat.reduceLeDiff,reduceIte]
 refine dO.go oB z5_0 (Rp.aL hg5 (Rp.aL hg4 (Rp.aL hg3 z2_0))) (fun _=> ?_) (fun hne=>absurd rfl hne)
 simp(disch:=omega) only[ae,c4,hsz0,hall0,hsz1,hall1,hd0,ht0,hs0_0,hd1,ht1,hs1_0,hd3,ht3,hs3_0,hd4,ht4,hs4_0,aK,aB,cH,beq_self_eq_true,bne_self_eq_false,List.getElem?_cons_zero,List.getElem?_cons_succ,Bool.or_false,Bool.false_or,Bool.or_self,SX,SU,SL,reduceCtorEq,Nat.reduceAdd,Nat.reduceLeDiff,reduceIte]
 refine aT (lL (Rp.aL hg5 (Rp.aL hg4 (Rp.aL hg3 (Rp.aL hg2 (Rp.aL hg1 (Rp.aL hg0 hv0)))))) (by omega)) ?_
 rintro r6 g6 ⟨t6,d6,U6,hg6,rfl,z6,o6,l6⟩
 have n6:=de hg6
 have b6:=z6.lt
 have hd6:d6.length=6:=z6.size
 have ht6:d6.take 6=d6:=List.take_of_length_le (by omega)
 have hs6_0:aE [.int .i64 0, .int .i64 0, .int .i64 0, .int .i64 0, .int .i64 0, .nils] 0 d6=d6:=ew (by rw[hd6];rfl)
 simp(disch:=omega) only[ae,c4,hsz0,hall0,hsz1,hall1,hd0,ht0,hs0_0,hd1,ht1,hs1_0,hd3,ht3,hs3_0,hd4,ht4,hs4_0,hd6,ht6,hs6_0,aK,aB,cH,beq_self_eq_true,bne_self_eq_false,List.getElem?_cons_zero,List.getElem?_cons_succ,Bool.or_false,Bool.false_or,Bool.or_self,SX,SU,SL,reduceCtorEq,Nat.reduceAdd,Nat.reduceLeDiff,reduceIte]
 refine dO.go B3 (Rp.aL hg6 (Rp.aL hg5 (Rp.aL hg4 z3))) z6 (fun _=> ?_) (fun hne=>absurd rfl hne)
 simp(disch:=omega) only[ae,c4,hsz0,hall0,hsz1,hall1,hd0,ht0,hs0_0,hd1,ht1,hs1_0,hd3,ht3,hs3_0,hd4,ht4,hs4_0,hd6,ht6,hs6_0,aK,aB,cH,beq_self_eq_true,bne_self_eq_false,List.getElem?_cons_zero,List.getElem?_cons_succ,Bool.or_false,Bool.false_or,Bool.or_self,SX,SU,SL,reduceCtorEq,Nat.reduceAdd,Nat.reduceLeDiff,reduceIte]
 refine aT (oU (Rp.aL hg6 (Rp.aL hg5 (Rp.aL hg4 (Rp.aL hg3 (Rp.aL hg2 (Rp.aL hg1 (Rp.aL hg0 hv1))))))) (by omega)) ?_
 rintro r7 g7 ⟨t7,d7,U7,hg7,rfl,z7,o7,l7⟩
 have n7:=de hg7
 have b7:=z7.lt
 have hd7:d7.length=1:=z7.size
 have ht7:d7.take 1=d7:=List.take_of_length_le (by omega)
 have hs7_0:aE [.nils] 0 d7=d7:=ew (by rw[hd7];rfl)
 simp(disch:=omega) only[ae,c4,hsz0,hall0,hsz1,hall1,hd0,ht0,hs0_0,hd1,ht1,hs1_0,hd3,ht3,hs3_0,hd4,ht4,hs4_0,hd6,ht6,hs6_0,hd7,ht7,hs7_0,aK,aB,cH,beq_self_eq_true,bne_self_eq_false,List.getElem?_cons_zero,List.getElem?_cons_succ,Bool.or_false,Bool.false_or,Bool.or_self,SX,SU,SL,reduceCtorEq,Nat.reduceAdd,Nat.reduceLeDiff,reduceIte]
 refine dO.go D3 (Rp.aL hg7 (Rp.aL hg6 (Rp.aL hg5 z4))) z7 (fun _=> ?_) (fun hne=>absurd rfl hne)
 simp(disch:=omega) only[ae,c4,hsz0,hall0,hsz1,hall1,hd0,ht0,hs0_0,hd1,ht1,hs1_0,hd3,ht3,hs3_0,hd4,ht4,hs4_0,hd6,ht6,hs6_0,hd7,ht7,hs7_0,aK,aB,cH,beq_self_eq_true,bne_self_eq_false,List.getElem?_cons_zero,List.getElem?_cons_succ,Bool.or_false,Bool.false_or,Bool.or_self,SX,SU,SL,reduceCtorEq,Nat.reduceAdd,Nat.reduceLeDiff,reduceIte]
 refine fA.go BX (Rp.aL hg7 (Rp.aL hg6 (Rp.aL hg5 (Rp.aL hg4 z3)))) (bW.aL hg7 (bW.aL hg6 (bW.aL hg5 (bW.aL hg4 o3)))) (k:=1) (by omega) (fun gw0 w0 zw0=> ?_)
 have nw0:=w0.1
 simp(disch:=omega) only[ae,c4,hsz0,hall0,hsz1,hall1,hd0,ht0,hs0_0,hd1,ht1,hs1_0,hd3,ht3,hs3_0,hd4,ht4,hs4_0,hd6,ht6,hs6_0,hd7,ht7,hs7_0,aK,aB,cH,beq_self_eq_true,bne_self_eq_false,List.getElem?_cons_zero,List.getElem?_cons_succ,Bool.or_false,Bool.false_or,Bool.or_self,SX,SU,SL,reduceCtorEq,Nat.reduceAdd,Nat.reduceLeDiff,reduceIte]
 refine fA.go Dn ((Rp.aL hg7 (Rp.aL hg6 (Rp.aL hg5 z4))).wrote w0 (fun i hi hn=>by have:=b4 i hi;have:=l4 i hi;have:=b3 i hn;have:=l3 i hn;omega)) (w0.mh (bW.aL hg7 (bW.aL hg6 (bW.aL hg5 o4)))) (k:=1+ic TForest f.tv) (by omega) (fun gw1 w1 zw1=> ?_)
 have nw1:=w1.1
 have hneg:decide (((1+ic TForest f.tv+ic TTable t.tv:Nat):Int) < 0)=false:=by simp;omega
 simp(disch:=omega) only[ae,c4,hsz0,hall0,hsz1,hall1,hd0,ht0,hs0_0,hd1,ht1,hs1_0,hd3,ht3,hs3_0,hd4,ht4,hs4_0,hd6,ht6,hs6_0,hd7,ht7,hs7_0,hneg,aK,aB,cH,beq_self_eq_true,bne_self_eq_false,List.getElem?_cons_zero,List.getElem?_cons_succ,Bool.or_false,Bool.false_or,Bool.or_self,SX,SU,SL,reduceCtorEq,Nat.reduceAdd,Nat.reduceLeDiff,reduceIte]
 refine dO.go oB (((Rp.aL hg7 (Rp.aL hg6 z5_0)).wrote w0 (fun i hi hn=>by have:=b5_0 i hi;have:=l5_0 i hi;have:=b3 i hn;have:=l3 i hn;omega)).wrote w1 (fun i hi hn=>by have:=b5_0 i hi;have:=l5_0 i hi;have:=b4 i hn;have:=l4 i hn;omega)) (((Rp.aL hg7 (Rp.aL hg6 (Rp.aL hg5 (Rp.aL hg4 (Rp.aL hg3 z2_0))))).wrote w0 (fun i hi hn=>by have:=b2_0 i hi;have:=l2_0 i hi;have:=b3 i hn;have:=l3 i hn;omega)).wrote w1 (fun i hi hn=>by have:=b2_0 i hi;have:=l2_0 i hi;have:=b4 i hn;have:=l4 i hn;omega)) (fun _=> ?_) (fun hne=>absurd rfl hne)
 simp(disch:=omega) only[ae,c4,hsz0,hall0,hsz1,hall1,hd0,ht0,hs0_0,hd1,ht1,hs1_0,hd3,ht3,hs3_0,hd4,ht4,hs4_0,hd6,ht6,hs6_0,hd7,ht7,hs7_0,hneg,aK,aB,cH,beq_self_eq_true,bne_self_eq_false,List.getElem?_cons_zero,List.getElem?_cons_succ,Bool.or_false,Bool.false_or,Bool.or_self,SX,SU,SL,reduceCtorEq,Nat.reduceAdd,Nat.reduceLeDiff,reduceIte]
 refine fA.go xz (((Rp.aL hg7 (Rp.aL hg6 z5_0)).wrote w0 (fun i hi hn=>by have:=b5_0 i hi;have:=l5_0 i hi;have:=b3 i hn;have:=l3 i hn;omega)).wrote w1 (fun i hi hn=>by have:=b5_0 i hi;have:=l5_0 i hi;have:=b4 i hn;have:=l4 i hn;omega)) (w1.mh (w0.mh (bW.aL hg7 (bW.aL hg6 o5_0)))) (k:=1) (by omega) (fun gm0 wm0 zm0=> ?_)
 have nm0:=wm0.1
 simp(disch:=omega) only[ae,c4,hsz0,hall0,hsz1,hall1,hd0,ht0,hs0_0,hd1,ht1,hs1_0,hd3,ht3,hs3_0,hd4,ht4,hs4_0,hd6,ht6,hs6_0,hd7,ht7,hs7_0,hneg,aK,aB,cH,beq_self_eq_true,bne_self_eq_false,List.getElem?_cons_zero,List.getElem?_cons_succ,Bool.or_false,Bool.false_or,Bool.or_self,SX,SU,SL,reduceCtorEq,Nat.reduceAdd,Nat.reduceLeDiff,reduceIte]
 refine ny.go y6 ⟨_,_,_,z5_0⟩ zm0 (k:=1) (by omega) ?_
 simp(disch:=omega) only[ae,c4,hsz0,hall0,hsz1,hall1,hd0,ht0,hs0_0,hd1,ht1,hs1_0,hd3,ht3,hs3_0,hd4,ht4,hs4_0,hd6,ht6,hs6_0,hd7,ht7,hs7_0,hneg,aK,aB,cH,beq_self_eq_true,bne_self_eq_false,List.getElem?_cons_zero,List.getElem?_cons_succ,Bool.or_false,Bool.false_or,Bool.or_self,SX,SU,SL,reduceCtorEq,Nat.reduceAdd,Nat.reduceLeDiff,reduceIte]
 refine aw (fun hn=>absurd hn (by omega)) (fun hn=> ?_)
 simp(disch:=omega) only[ae,c4,hsz0,hall0,hsz1,hall1,hd0,ht0,hs0_0,hd1,ht1,hs1_0,hd3,ht3,hs3_0,hd4,ht4,hs4_0,hd6,ht6,hs6_0,hd7,ht7,hs7_0,hneg,aK,aB,cH,beq_self_eq_true,bne_self_eq_false,List.getElem?_cons_zero,List.getElem?_cons_succ,Bool.or_false,Bool.false_or,Bool.or_self,SX,SU,SL,reduceCtorEq,Nat.reduceAdd,Nat.reduceLeDiff,reduceIte]
 refine aT (lL ((((Rp.aL hg7 (Rp.aL hg6 (Rp.aL hg5 (Rp.aL hg4 (Rp.aL hg3 (Rp.aL hg2 (Rp.aL hg1 (Rp.aL hg0 hv0)))))))).wrote w0 (fun i hi hn=>by have:=hv0.lt i hi;have:=b3 i hn;have:=l3 i hn;omega)).wrote w1 (fun i hi hn=>by have:=hv0.lt i hi;have:=b4 i hn;have:=l4 i hn;omega)).wrote wm0 (fun i hi hn=>by have:=hv0.lt i hi;have:=b5_0 i hn;have:=l5_0 i hn;omega)) (by omega)) ?_
 rintro r8 g8 ⟨t8,d8,U8,hg8,rfl,z8,o8,l8⟩
 have n8:=de hg8
 have b8:=z8.lt
 have hd8:d8.length=6:=z8.size
 have ht8:d8.take 6=d8:=List.take_of_length_le (by omega)
 have hs8_0:aE [.int .i64 0, .int .i64 0, .int .i64 0, .int .i64 0, .int .i64 0, .nils] 0 d8=d8:=ew (by rw[hd8];rfl)
 simp(disch:=omega) only[ae,c4,hsz0,hall0,hsz1,hall1,hd0,ht0,hs0_0,hd1,ht1,hs1_0,hd3,ht3,hs3_0,hd4,ht4,hs4_0,hd6,ht6,hs6_0,hd7,ht7,hs7_0,hneg,hd8,ht8,hs8_0,aK,aB,cH,beq_self_eq_true,bne_self_eq_false,List.getElem?_cons_zero,List.getElem?_cons_succ,Bool.or_false,Bool.false_or,Bool.or_self,SX,SU,SL,reduceCtorEq,Nat.reduceAdd,Nat.reduceLeDiff,reduceIte]
 refine aT (oU (Rp.aL hg8 ((((Rp.aL hg7 (Rp.aL hg6 (Rp.aL hg5 (Rp.aL hg4 (Rp.aL hg3 (Rp.aL hg2 (Rp.aL hg1 (Rp.aL hg0 hv1)))))))).wrote w0 (fun i hi hn=>by have:=hv1.lt i hi;have:=b3 i hn;have:=l3 i hn;omega)).wrote w1 (fun i hi hn=>by have:=hv1.lt i hi;have:=b4 i hn;have:=l4 i hn;omega)).wrote wm0 (fun i hi hn=>by have:=hv1.lt i hi;have:=b5_0 i hn;have:=l5_0 i hn;omega))) (by omega)) ?_
 rintro r9 g9 ⟨t9,d9,U9,hg9,rfl,z9,o9,l9⟩
 have n9:=de hg9
 have b9:=z9.lt
 have hd9:d9.length=1:=z9.size
 have ht9:d9.take 1=d9:=List.take_of_length_le (by omega)
 have hs9_0:aE [.nils] 0 d9=d9:=ew (by rw[hd9];rfl)
 simp(disch:=omega) only[ae,c4,hsz0,hall0,hsz1,hall1,hd0,ht0,hs0_0,hd1,ht1,hs1_0,hd3,ht3,hs3_0,hd4,ht4,hs4_0,hd6,ht6,hs6_0,hd7,ht7,hs7_0,hneg,hd8,ht8,hs8_0,hd9,ht9,hs9_0,aK,aB,cH,beq_self_eq_true,bne_self_eq_false,List.getElem?_cons_zero,List.getElem?_cons_succ,Bool.or_false,Bool.false_or,Bool.or_self,SX,SU,SL,reduceCtorEq,Nat.reduceAdd,Nat.reduceLeDiff,reduceIte]
 refine aT (F.jC ⟨_,_,rfl,⟨_,(Rp.aL hg9 z8)⟩,⟨_,_,rfl,⟨_,z9⟩,rfl⟩⟩ (by omega) (by omega)) ?_
 rintro r10 g10 ⟨t10,css10,U10,hg10,rfl,zz10,o10,l10⟩
 have n10:=de hg10
 obtain⟨d10_0,cr10_0,U10_0,V10_0,rfl,rfl,z10_0,zz10_0⟩:=zz10
 obtain⟨rfl,rfl⟩:=zz10_0
 simp only[List.nil_append,List.append_nil]at o10 l10
 have o10_0:=o10
 have b10_0:=z10_0.lt
 have l10_0:=l10
 obtain⟨e10_0,rfl⟩:=z10_0.one rfl
 simp(disch:=omega) only[ae,c4,hsz0,hall0,hsz1,hall1,hd0,ht0,hs0_0,hd1,ht1,hs1_0,hd3,ht3,hs3_0,hd4,ht4,hs4_0,hd6,ht6,hs6_0,hd7,ht7,hs7_0,hneg,hd8,ht8,hs8_0,hd9,ht9,hs9_0,aK,aB,cH,beq_self_eq_true,bne_self_eq_false,List.getElem?_cons_zero,List.getElem?_cons_succ,Bool.or_false,Bool.false_or,Bool.or_self,SX,SU,SL,reduceCtorEq,Nat.reduceAdd,Nat.reduceLeDiff,reduceIte]
 refine dO.go oB z10_0 (Rp.aL hg10 (Rp.aL hg9 (Rp.aL hg8 ((((Rp.aL hg7 (Rp.aL hg6 (Rp.aL hg5 (Rp.aL hg4 (Rp.aL hg3 z2_0))))).wrote w0 (fun i hi hn=>by have:=b2_0 i hi;have:=l2_0 i hi;have:=b3 i hn;have:=l3 i hn;omega)).wrote w1 (fun i hi hn=>by have:=b2_0 i hi;have:=l2_0 i hi;have:=b4 i hn;have:=l4 i hn;omega)).wrote wm0 (fun i hi hn=>by have:=b2_0 i hi;have:=l2_0 i hi;have:=b5_0 i hn;have:=l5_0 i hn;omega))))) (fun _=> ?_) (fun hne=>absurd rfl hne)
 simp(disch:=omega) only[ae,c4,hsz0,hall0,hsz1,hall1,hd0,ht0,hs0_0,hd1,ht1,hs1_0,hd3,ht3,hs3_0,hd4,ht4,hs4_0,hd6,ht6,hs6_0,hd7,ht7,hs7_0,hneg,hd8,ht8,hs8_0,hd9,ht9,hs9_0,aK,aB,cH,beq_self_eq_true,bne_self_eq_false,List.getElem?_cons_zero,List.getElem?_cons_succ,Bool.or_false,Bool.false_or,Bool.or_self,SX,SU,SL,reduceCtorEq,Nat.reduceAdd,Nat.reduceLeDiff,reduceIte]
 refine ny.go y6 ⟨_,_,_,z5_0⟩ (Rp.aL hg10 (Rp.aL hg9 (Rp.aL hg8 zm0))) (k:=1) (by omega) ?_
 simp(disch:=omega) only[ae,c4,hsz0,hall0,hsz1,hall1,hd0,ht0,hs0_0,hd1,ht1,hs1_0,hd3,ht3,hs3_0,hd4,ht4,hs4_0,hd6,ht6,hs6_0,hd7,ht7,hs7_0,hneg,hd8,ht8,hs8_0,hd9,ht9,hs9_0,aK,aB,cH,beq_self_eq_true,bne_self_eq_false,List.getElem?_cons_zero,List.getElem?_cons_succ,Bool.or_false,Bool.false_or,Bool.or_self,SX,SU,SL,reduceCtorEq,Nat.reduceAdd,Nat.reduceLeDiff,reduceIte]
 refine aw (fun hn=>absurd hn (by omega)) (fun hn=> ?_)
 simp(disch:=omega) only[ae,c4,hsz0,hall0,hsz1,hall1,hd0,ht0,hs0_0,hd1,ht1,hs1_0,hd3,ht3,hs3_0,hd4,ht4,hs4_0,hd6,ht6,hs6_0,hd7,ht7,hs7_0,hneg,hd8,ht8,hs8_0,hd9,ht9,hs9_0,aK,aB,cH,beq_self_eq_true,bne_self_eq_false,List.getElem?_cons_zero,List.getElem?_cons_succ,Bool.or_false,Bool.false_or,Bool.or_self,SX,SU,SL,reduceCtorEq,Nat.reduceAdd,Nat.reduceLeDiff,reduceIte]
end Go.Eng.U
