import Derived.Test.YtfackchfbefaiaaGreatGb
import Derived.Test.YtfackchfbefaiaaGreatGh
set_option maxRecDepth 100000
set_option linter.unusedSimpArgs false
set_option linter.unusedVariables false
namespace Go.Eng.F
theorem dI {r:Rd} {bad:Bool} {c:Nat} (h:(aw r bad c).er=0):r.er=0:=by
 apply Decidable.byContradiction
 intro g
 rw[dF g]at h
 exact g h
theorem E6 {b:Bytes} {r:Rd} (h:(aM b r).2.er=0):r.er=0:=by
 apply Decidable.byContradiction
 intro g
 simp[aM,g]at h
theorem Ki {b:Bytes} {r:Rd} {n:Nat} (h:(aY b r n).2.er=0):r.er=0:=by
 apply Decidable.byContradiction
 intro g
 simp[aY,g]at h
theorem Dr {b:Bytes} {r:Rd} {n:Nat} (h:(bW b r n).2.er=0):r.er=0:=by
 apply Decidable.byContradiction
 intro g
 simp[bW,g]at h
theorem Aa {b:Bytes} {l:ao} {r:Rd} (h:(bq b l r).2.er=0):(bq b l r).1.2.2.1 < (bq b l r).1.2.1∧((bq b l r).1.2.1:Int)≤l.txs:=by
 simp only[bq,aL]at h⊢
 have h1:=Dr h
 have h2:=eD h1 (by omega)
 have h4:=E6 (dI h1)
 have h5:=eD h4 (by omega)
 simp only[decide_eq_false_iff_not]at h2 h5
 omega
theorem HK {b:Bytes} {k:Nat} {r:Rd} (h:r.er≠0):(el (fun r=>aY b r 32) k r).2=r:=by
 induction k with
 |zero=>rfl
 |succ k ih=>
  have e:(aY b r 32).2=r:=by simp[aY,h]
  simp only[el,e,ih]
theorem tW {b:Bytes}:∀(k:Nat) (r:Rd),(el (fun r=>aY b r 32) k r).2=(bj (fun r=>aY b r 32) k r).2∧((bj (fun r=>aY b r 32) k r).2.er=0→(el (fun r=>aY b r 32) k r).1=(bj (fun r=>aY b r 32) k r).1)
 |0,r=>⟨rfl,fun _=>rfl⟩
 |k+1,r=>by
  by_cases h:r.er=0
  ·rw[fe h]
   have:=tW (b:=b) k (aY b r 32).2
   exact⟨this.1,fun g=>by simp only[el];rw[this.2 g]⟩
  ·rw[fv h,HK h]
   exact⟨rfl,fun g=>absurd g h⟩
def ei (b:Bytes) (l:ao) (r:Rd):ck×Rd:=
 let i:=bq b l r
 if i.2.er=0 then
  let p:=el (fun r=>aY b r 32) (bE i.1.2.2.1 i.1.2.1) i.2
  (⟨i.1.1,i.1.2.1,i.1.2.2.1,i.1.2.2.2,p.1⟩,p.2)
 else(⟨i.1.1,i.1.2.1,i.1.2.2.1,i.1.2.2.2,[]⟩,i.2)
def kC (b:Bytes) (l:ao) (r:Rd):ck×Rd:=
 let i:=bq b l r
 let p:=bj (fun r=>aY b r 32) (bE i.1.2.2.1 i.1.2.1) i.2
 (⟨i.1.1,i.1.2.1,i.1.2.2.1,i.1.2.2.2,p.1⟩,p.2)
theorem EY (b:Bytes) (l:ao) (r:Rd):(ei b l r).2=(kC b l r).2∧((kC b l r).2.er=0→(ei b l r).1=(kC b l r).1):=by
 simp only[ei,kC]
 have:=tW (b:=b) (bE (bq b l r).1.2.2.1 (bq b l r).1.2.1) (bq b l r).2
 by_cases h:(bq b l r).2.er=0
 ·rw[if_pos h]
  exact⟨this.1,fun g=>by rw[this.2 g]⟩
 ·rw[if_neg h,fv h]
  exact⟨rfl,fun g=>absurd g h⟩
abbrev gQ:Nat:=209
def lj:AF:=⟨2,6,[.cell 4 5 true],(.seq (.ops [.i (.lbox 2 (.s 0)), .i (.lal 4 [.int .i64 0, .int .i64 0, .int .i64 0, .nils, .nils])]) (.seq (.ops [qm 6 1,qk 8 274 6,qm 8 1,qk 10 274 8, .i (.bld 10 [.int .i64 0, .int .i64 0, .int .i64 0, .nils, .nils] [(0,1,(.s 7)),(1,1,(.s 9))]), .i (.lal 5 [.int .i64 0, .int .i64 0, .int .i64 0, .nils, .nils]),qs 5 5 10 5]) (.seq (.ops [qm 11 1,qf 12 5 1,ql 13 5 12 1 false, .i (.bin 14 .gtr (.s 13) (qi 0)), .i (.call 16 279 false [(.s 11),(.s 14),(qi 5)])]) (.seq (.ops [qm 16 1,qf 17 5 1,ql 18 5 17 1 false,qf 19 2 2,ql 20 2 19 1 false,qd 21 .leq 18 20, .i (.call 23 279 false [(.s 16),(.s 21),(qi 3)])]) (.seq (.ops [qm 23 1,qf 24 5 1,ql 25 5 24 1 false, .i (.call 27 276 false [(.s 23),(.s 25),(qi 5)]),qf 27 5 2,qs 5 27 26 1]) (.seq (.ops [qm 28 1,qf 29 2 1,ql 30 2 29 1 false, .i (.call 32 281 false [(.s 28),(.s 30)]),qf 32 5 3,qs 5 32 31 1]) (.seq (.seq (.ops [qm 33 1, .i (.nch 34 (.s 33)),qf 35 34 2, .i (.ldh 36 (.s 35) 1 false), .i (.bin 37 .eql (.s 36) (qi 0))]) (.cond (.s 37) (.seq (.ops [qf 38 5 2,ql 39 5 38 1 false,qf 40 5 1,ql 41 5 40 1 false, .i (.call 43 284 false [(.s 39),(.s 41)]), .i (.mov 43 (qi 0))]) (.block 0 (.loop [52,51,50,49,48,47,46,45,44] (.seq (.ops [qd 44 .lss 43 42]) (.seq (.cond (.s 44) .skip (.exit 0)) (.seq (.block 1 (.ops [qf 45 5 4,ql 46 5 45 1 false,qm 47 1,qk 49 275 47, .i (.lsl 49 1 1 [.nils] [(0,1,(.s 48))]), .i (.app 50 24 1 24 (.s 46) (.s 49)),qf 51 5 4,qs 5 51 50 1])) (.ops [.i (.bin 52 .add (.s 43) (qi 1)),qm 43 52]))))))) .skip)) (.seq (.ops [ql 53 5 5 5 true,qs 4 4 53 5]) .ret))))))))⟩
theorem vc:cd gQ=some lj:=by kernel_rfl
theorem tn (b:Bytes) (l:ao) (r:Rd) (hL:l.rd) (hr:r.wf b) (hb:b.length≤1073741824):VC cd gQ (oT [(true,l.c)] 279 (au b r) []) (fun rs p=>rs= [(true,(ei b l r).1.o)]∧p= [.pt 279 (au b (ei b l r).2)]):=by
 refine VC.gV ?_
 obtain⟨hl,hx,ht,hh⟩:=hL
 have hi:=Aa (b:=b) (l:=l) (r:=r)
 refine bd vc rfl ?_
 simp(disch:=omega) [lj,au,ao.c,VZ]
 refine bG (bH b r hr hb) ?_
 have w1:=aR hr
 generalize h1:aM b r=s1 at w1⊢
 simp(disch:=omega) [au,VZ]
 refine bG (bH b s1.2 w1.1 hb) ?_
 have w2:=aR w1.1
 generalize h2:aM b s1.2=s2 at w2⊢
 simp(disch:=omega) [au,VZ]
 refine bG (aW b s2.2 (decide (0 < s2.1)) 5) ?_
 have e3:(!decide (0 < s2.1))=decide (s2.1=0):=by rw[←decide_not,decide_eq_decide];omega
 rw[e3]
 have w3:=aV (bad:=decide (s2.1=0)) (c:=5) w2.1 (by omega)
 generalize h3:aw s2.2 (decide (s2.1=0)) 5=s3 at w3⊢
 simp(disch:=omega) [au,VZ]
 refine bG (aW b s3 (decide ((s2.1:Int)≤l.txs)) 3) ?_
 have e4:(!decide ((s2.1:Int)≤l.txs))=decide (l.txs < (s2.1:Int)):=by rw[←decide_not,decide_eq_decide];omega
 rw[e4]
 have w4:=aV (bad:=decide (l.txs < (s2.1:Int))) (c:=3) w3 (by omega)
 generalize h4:aw s3 (decide (l.txs < (s2.1:Int))) 3=s4 at w4⊢
 simp(disch:=omega) [au,VZ]
 refine bG (cQ b s4 (s2.1:Int) 5 w4 hb) ?_
 have w5:=cN (n:=(s2.1:Int)) (c:=5) w4 (by omega)
 generalize h5:aL b s4 (s2.1:Int) 5=s5 at w5⊢
 simp(disch:=omega) [au,VZ]
 refine bG (kH b s5.2 l.tx (by omega) w5.1 hb) ?_
 have w6:=eX w5.1 l.tx.toNat
 generalize h6:bW b s5.2 l.tx.toNat=s6 at w6⊢
 simp(disch:=omega) [au,VZ]
 have hi0:bq b l r=((s1.1,s2.1,s5.1,s6.1),s6.2):=by simp only[bq,h1,h2,h3,h4,h5,h6]
 rw[hi0]at hi
 simp only at hi
 by_cases g:s6.2.er=0
 case neg=>simp(disch:=omega) [g,ei,hi0,ck.o,au,aH,aI,aN,ab,dN,VZ]
 have hi2:=hi g
 have hpl:=dk s2.1 s5.1
 simp(disch:=omega) [g,VZ]
 refine cI (vq s2.1 s5.1 (by omega) (by omega)) ?_
 simp(disch:=omega) [VZ]
 refine eb (σ:=Nat×Nat×List Bytes×Rd) (f0:=_) (by simp(disch:=omega) [VZ];rfl) (dt.yO (s:=5) (k:=5) (i:=4) rfl rfl) (f1:=_) (es0:=_) (by simp(disch:=omega) [VZ];rfl) (by simp(disch:=omega) [VZ];rfl) (fun p=> [(43, .val false [.int .i64 (p.1:Int)]),(5, .box [.int .i64 s1.1, .int .i64 s2.1, .int .i64 s5.1, .ow 270336 32, .ow 5 p.2.1])]) (fun p=> [(4101, .pt 5 279 [.sl (bytes b), .int .i64 (p.2.2.2.at_:Int), .int .i64 (p.2.2.2.er:Int)]),(5, .sl p.2.1 true true (some (24,1)) (dN p.2.2.1))])
  (fun p g=>(g+p.1=(bE s5.1 s2.1)∧p.2.2.1.length=p.1)∧p.2.2.2.wf b∧el (fun r=>aY b r 32) (bE s5.1 s2.1) s6.2=(p.2.2.1++(el (fun r=>aY b r 32) g p.2.2.2).1,(el (fun r=>aY b r 32) g p.2.2.2).2)) (0,_,[],s6.2) (bE s5.1 s2.1) (by simp(disch:=omega) [VZ];rfl) (by simp(disch:=omega) [dN,au,g,VZ]) ⟨⟨by simp,rfl⟩,w6.1,by simp⟩ ?_
 rintro⟨i,v,x,q⟩ nx g0 ⟨⟨hg,h5⟩,h6,h7⟩ P hP
 simp only at hg h5 h6 h7
 have hl2:(dN x).length=i:=by rw[cM];exact h5
 simp(disch:=omega) [VZ]
 refine aj (fun h8=> ?_) (fun h8=> ?_)
 ·simp(disch:=omega) [au,VZ]
  refine bG (cJ b q h6 hb) ?_
  have w25:=bS h6 32
  obtain⟨g1,rfl⟩:∃g1,g0=g1+1:=⟨g0 - 1,by omega⟩
  simp only[el]at h7
  generalize h9:aY b q 32=s25 at w25 h7⊢
  simp(disch:=omega) [au,hl2,oK,VZ]
  refine hP (i+1,_,x++ [s25.1],s25.2) g1 _ _ (by omega) ⟨⟨by simp only;omega,by simp[h5]⟩,w25.1,by rw[h7];simp⟩ (by simp(disch:=omega) [VZ];rfl) (by simp(disch:=omega) [au,VZ])
 ·obtain rfl:g0=0:=by omega
  simp only[el,List.append_nil]at h7
  simp(disch:=omega) [ei,hi0,g,h7,ck.o,au,aH,aI,aN,VZ]
abbrev iY:Nat:=131
def iS:AF:=⟨2,7,[.cell 4 5 true],(.seq (.ops [.i (.lbox 3 (.s 1)), .i (.lal 4 [.int .i64 0, .int .i64 0, .int .i64 0, .nils, .nils])]) (.seq (.ops [qm 7 0,qk 9 184 7, .i (.bld 9 [.int .i64 0, .int .i64 0, .int .i64 0, .nils, .nils] [(0,1,(.s 8))]), .i (.lal 5 [.int .i64 0, .int .i64 0, .int .i64 0, .nils, .nils]),qs 5 5 9 5]) (.seq (.ops [qm 10 0,qk 12 184 10,qf 12 5 1,qs 5 12 11 1]) (.seq (.ops [qm 13 0,qf 14 5 1,ql 15 5 14 1 false, .i (.bin 16 .eql (.s 15) (qi 0)), .i (.call 18 132 false [(.s 13),(.s 16),(qi 5)])]) (.seq (.ops [qm 18 0,qf 19 5 1,ql 20 5 19 1 false,qf 21 3 2,ql 22 3 21 1 false,qd 23 .gtr 20 22, .i (.call 25 132 false [(.s 18),(.s 23),(qi 3)])]) (.seq (.ops [qm 25 0,qk 27 184 25,qf 27 5 2,qs 5 27 26 1]) (.seq (.ops [qm 28 0,qf 29 5 2,ql 30 5 29 1 false,qf 31 5 1,ql 32 5 31 1 false,qd 33 .geq 30 32, .i (.call 35 132 false [(.s 28),(.s 33),(qi 5)])]) (.seq (.ops [qm 35 0,qf 36 3 1,ql 37 3 36 1 false, .i (.call 39 189 false [(.s 35),(.s 37)]),qf 39 5 3,qs 5 39 38 1]) (.seq (.seq (.ops [.i (.mov 6 (qi 0))]) (.block 0 (.loop [62,61,60,59,58,57,56,55,54,53,52,51,50,49,48,47,46,45,44,43,42,41,40] (.seq (.seq (.ops [qm 40 0, .i (.nch 41 (.s 40)),qf 42 41 2, .i (.ldh 43 (.s 42) 1 false), .i (.bin 44 .eql (.s 43) (qi 0)),qm 45 44, .g 45 true 47 (.mov 46 (.s 6)), .g 45 true 48 (.fad 47 (.s 5) 2), .g 45 true 49 (.ldl 48 5 (.s 47) 1 false), .g 45 true 50 (.fad 49 (.s 5) 1), .g 45 true 51 (.ldl 50 5 (.s 49) 1 false), .g 45 true 52 (.call 52 193 false [(.s 48),(.s 50)]), .g 45 true 53 (.bin 52 .lss (.s 46) (.s 51)), .i (.pick 53 (.s 45) (.s 52) (qb false))]) (.cond (.s 53) .skip (.exit 0))) (.seq (.block 1 (.ops [qf 56 5 4,ql 57 5 56 1 false,qm 58 0,qk 60 185 58, .i (.lsl 60 1 1 [.nils] [(0,1,(.s 59))]), .i (.app 61 24 1 24 (.s 57) (.s 60)),qf 62 5 4,qs 5 62 61 1])) (.ops [qm 54 6, .i (.bin 55 .add (.s 54) (qi 1)),qm 6 55])))))) (.seq (.ops [ql 63 5 5 5 true,qs 4 4 63 5]) .ret))))))))))⟩
theorem rG:cd iY=some iS:=by kernel_rfl
theorem yF (b:Bytes) (l:ao) (r:Rd) (hL:l.rd) (hr:r.wf b) (hb:b.length≤1073741824):VC cd iY (oT [] 166 (au b r) [(true,l.c)]) (fun rs p=>rs= [(true,(kC b l r).1.o)]∧p= [.pt 166 (au b (kC b l r).2)]):=by
 refine VC.gV ?_
 obtain⟨hl,hx,ht,hh⟩:=hL
 have hi:=Aa (b:=b) (l:=l) (r:=r)
 refine bd rG rfl ?_
 simp(disch:=omega) [iS,au,ao.c,VZ]
 refine bG (bO b r hr hb) ?_
 have w1:=aR hr
 generalize h1:aM b r=s1 at w1⊢
 simp(disch:=omega) [au,VZ]
 refine bG (bO b s1.2 w1.1 hb) ?_
 have w2:=aR w1.1
 generalize h2:aM b s1.2=s2 at w2⊢
 simp(disch:=omega) [au,VZ]
 refine bG (az b s2.2 (decide (s2.1=0)) 5) ?_
 have e3:decide (s2.1=0)=decide (s2.1=0):=by first|rfl|(rw[decide_eq_decide];omega)
 rw[e3]
 have w3:=aV (bad:=decide (s2.1=0)) (c:=5) w2.1 (by omega)
 generalize h3:aw s2.2 (decide (s2.1=0)) 5=s3 at w3⊢
 simp(disch:=omega) [au,VZ]
 refine bG (az b s3 (decide (l.txs < (s2.1:Int))) 3) ?_
 have e4:decide (l.txs < (s2.1:Int))=decide (l.txs < (s2.1:Int)):=by first|rfl|(rw[decide_eq_decide];omega)
 rw[e4]
 have w4:=aV (bad:=decide (l.txs < (s2.1:Int))) (c:=3) w3 (by omega)
 generalize h4:aw s3 (decide (l.txs < (s2.1:Int))) 3=s4 at w4⊢
 simp(disch:=omega) [au,VZ]
 refine bG (bO b s4 w4 hb) ?_
 have w5:=aR w4
 generalize h5:aM b s4=s5 at w5⊢
 simp(disch:=omega) [au,VZ]
 refine bG (az b s5.2 (decide (s2.1≤s5.1)) 5) ?_
 have e6:decide (s2.1≤s5.1)=decide ((s2.1:Int)≤(s5.1:Int)):=by first|rfl|(rw[decide_eq_decide];omega)
 rw[e6]
 have w6:=aV (bad:=decide ((s2.1:Int)≤(s5.1:Int))) (c:=5) w5.1 (by omega)
 generalize h6:aw s5.2 (decide ((s2.1:Int)≤(s5.1:Int))) 5=s6 at w6⊢
 simp(disch:=omega) [au,VZ]
 refine bG (uZ b s6 l.tx (by omega) w6 hb) ?_
 have w7:=eX w6 l.tx.toNat
 generalize h7:bW b s6 l.tx.toNat=s7 at w7⊢
 simp(disch:=omega) [au,VZ]
 have hi0:bq b l r=((s1.1,s2.1,s5.1,s7.1),s7.2):=by simp only[bq,aL,h1,h2,h3,h4,h5,h6,h7]
 rw[hi0]at hi
 simp only at hi
 refine eb (σ:=Nat×Nat×List Bytes×Rd) (f0:=_) (by simp(disch:=omega) [VZ];rfl) (dt.yO (s:=5) (k:=5) (i:=4) rfl rfl) (f1:=_) (es0:=_) (by simp(disch:=omega) [VZ];rfl) (by simp(disch:=omega) [VZ];rfl) (fun p=> [(6, .val false [.int .i64 (p.1:Int)]),(5, .box [.int .i64 s1.1, .int .i64 s2.1, .int .i64 s5.1, .ow 327680 36, .ow 5 p.2.1])]) (fun p=> [(4096, .pt 0 166 [.sl (bytes b), .int .i64 (p.2.2.2.at_:Int), .int .i64 (p.2.2.2.er:Int)]),(5, .sl p.2.1 true true (some (24,1)) (dN p.2.2.1))])
  (fun p g=>(g+p.1=(bE s5.1 s2.1)∧p.2.2.1.length=p.1)∧(p.2.2.2.er=0→s7.2.er=0)∧p.2.2.2.wf b∧bj (fun r=>aY b r 32) (bE s5.1 s2.1) s7.2=(p.2.2.1++(bj (fun r=>aY b r 32) g p.2.2.2).1,(bj (fun r=>aY b r 32) g p.2.2.2).2)) (0,_,[],s7.2) (bE s5.1 s2.1) (by simp(disch:=omega) [VZ];rfl) (by simp(disch:=omega) [dN,au,VZ]) ⟨⟨by simp,rfl⟩,fun h=>h,w7.1,by simp⟩ ?_
 rintro⟨i,v,x,⟨qa,qe⟩⟩ nx g0 ⟨⟨hg,h5⟩,h10,h6,h7⟩ P hP
 simp only at hg h5 h6 h7 h10
 have hl2:(dN x).length=i:=by rw[cM];exact h5
 by_cases h9:qe=0
 ·subst h9
  have hi2:=hi (h10 rfl)
  have hpl:=dk s2.1 s5.1
  simp(disch:=omega) [au,VZ]
  refine cI (vR s2.1 s5.1 (by omega) (by omega)) ?_
  simp(disch:=omega) [VZ]
  refine aj (fun h8=> ?_) (fun h8=> ?_)
  ·simp(disch:=omega) [au,VZ]
   refine bG (fx b ⟨qa,0⟩ h6 hb) ?_
   have w25:=bS h6 32
   obtain⟨g1,rfl⟩:∃g1,g0=g1+1:=⟨g0 - 1,by omega⟩
   rw[fe rfl]at h7
   simp only at h7
   generalize h12:aY b ⟨qa,0⟩ 32=s25 at w25 h7⊢
   simp(disch:=omega) [au,hl2,oK,VZ]
   refine hP (i+1,_,x++ [s25.1],s25.2) g1 _ _ (by omega) ⟨⟨by simp only;omega,by simp[h5]⟩,fun _=>h10 rfl,w25.1,by rw[h7];simp⟩ (by simp(disch:=omega) [VZ];rfl) (by simp(disch:=omega) [au,VZ])
  ·obtain rfl:g0=0:=by omega
   simp only[bj,List.append_nil]at h7
   simp(disch:=omega) [kC,hi0,h7,ck.o,au,aH,aI,aN,VZ]
 ·rw[fv (k:=g0) (r:=⟨qa,qe⟩) h9]at h7
  simp only[List.append_nil]at h7
  simp(disch:=omega) [h9,kC,hi0,h7,ck.o,au,aH,aI,aN,VZ]
end Go.Eng.F
namespace Go.Eng.F
def bU (x:List E) (z:List E) (r:Rd):List (Bool×List E):=if r.er=0 then [(true,x),(false,[.p (.int .i64 (r.at_:Int))]),(false,[.p (.int .i64 0)])]else [(true,z),(false,[.p (.int .i64 0)]),(false,[.p (.int .i64 (r.er:Int))])]
def Oi:List E:= [.p (.int .i64 0), .p (.int .i64 0), .p .nils, .p .nils, .p .nils]
def uW:List E:= [.p (.int .i64 0), .p (.int .i64 0), .p .nils, .p (.int .i64 0), .p .nils]
def Cg:List E:= [.p (.int .i64 0), .p (.int .i64 0), .p (.int .i64 0), .p .nils, .p .nils, .p (.int .i64 0), .p (.int .i64 0), .p .nils, .p .nils, .p .nils]
def xD:List E:= [.p (.int .i64 0), .p (.int .i64 0), .p (.int .i64 0), .p .nils, .p .nils, .p (.int .i64 0), .p (.int .i64 0), .p .nils, .p .nils, .p .nils, .p .nils]
def Ob:List E:= [.p (.int .i64 0), .p .nils]
def xL:List E:= [.p .nils, .p (.int .i64 0), .p (.int .i64 0), .p .nils, .p .nils, .p .nils]
def Cw:List E:= [.p (.int .i64 0), .p (.int .i64 0), .p (.int .i64 0), .p .nils, .p .nils]
abbrev fX:Nat:=196
def fU:AF:=⟨4,6,[.cell 8 5 true, .tmp 9, .tmp 10],(.seq (.ops [.i (.lbox 4 (.s 0)), .i (.lal 8 [.int .i64 0, .int .i64 0, .nils, .int .i64 0, .nils]), .i (.mov 9 (qi 0)), .i (.mov 10 (qi 0))]) (.seq (.ops [.i (.lal 11 [.int .i64 0, .int .i64 0, .nils, .int .i64 0, .nils])]) (.seq (.seq (.ops [ql 14 4 4 5 true,qk 16 70 14, .i (.not 16 (.s 15))]) (.cond (.s 16) (.seq (.ops [ql 17 11 11 5 true,qs 8 8 17 5, .i (.mov 9 (qi 0)), .i (.mov 10 (qi 5))]) .ret) .skip)) (.seq (.ops [qm 18 1,qm 19 2, .i (.bld 20 [.nils, .int .i64 0, .int .i64 0] [(0,1,(.s 18)),(1,1,(.s 19))]), .i (.hbox 21 279 (.s 20)),qm 12 21]) (.seq (.ops [qm 22 3,ql 23 4 4 5 true,qm 24 12, .i (.clv 26 false (.s 22) [(.s 23),(.s 24)]), .i (.lal 13 [.int .i64 0, .int .i64 0, .nils, .int .i64 0, .nils]),qs 13 13 25 5]) (.seq (.seq (.ops [qm 26 12, .i (.nch 27 (.s 26)),qf 28 27 2, .i (.ldh 29 (.s 28) 1 false), .i (.bin 30 .neq (.s 29) (qi 0))]) (.cond (.s 30) (.seq (.ops [ql 31 11 11 5 true,qm 32 12, .i (.nch 33 (.s 32)),qf 34 33 2, .i (.ldh 35 (.s 34) 1 false),qs 8 8 31 5, .i (.mov 9 (qi 0)),qm 10 35]) .ret) .skip)) (.seq (.ops [ql 36 13 13 5 true,qm 37 12, .i (.nch 38 (.s 37)),qf 39 38 1, .i (.ldh 40 (.s 39) 1 false),qs 8 8 36 5,qm 9 40, .i (.mov 10 (qi 0))]) .ret)))))))⟩
theorem lP:cd fX=some fU:=by kernel_rfl
theorem lN (b:Bytes) (l:ao) (k:Nat) (hok:l.ok=true) (hk:k≤b.length) (hb:b.length≤1073741824):VC cd fX (bI [(true,l.c),(false,[.sl (bytes b)]),(false,[.int .i64 (k:Int)]),(false,[.fn gY])]) (fun rs _=>rs=bU (eB b l ⟨k,0⟩).1.o uW (eB b l ⟨k,0⟩).2):=by
 have hr:Rd.wf b ⟨k,0⟩:=⟨hk,by simp⟩
 refine aa lP rfl ?_
 simp(disch:=omega) [fU,ao.c,VZ]
 refine cI (bx l) ?_ (ha:=by first|rfl|(simp[ao.c,VY] <;>repeat' constructor))
 simp(disch:=omega) [hok,VZ]
 refine bG (uw b l ⟨k,0⟩ hr hb) ?_ (n1:=by simp(disch:=omega) [cX.o,VZ]) (n3:=by simp(disch:=omega) [cX.o,VZ])
 generalize h1:eB b l ⟨k,0⟩=s1
 simp(disch:=omega) [au,cX.o,VZ]
 by_cases g:s1.2.er=0
 ·simp(disch:=omega) [g,bU,cX.o,VZ]
 ·simp(disch:=omega) [g,bU,uW,VZ]
abbrev mb:Nat:=135
def mO:AF:=⟨3,5,[.cell 6 5 true, .tmp 7, .tmp 8],(.seq (.ops [.i (.lbox 3 (.s 0)), .i (.lal 6 [.int .i64 0, .int .i64 0, .nils, .int .i64 0, .nils]), .i (.mov 7 (qi 0)), .i (.mov 8 (qi 0))]) (.seq (.ops [ql 9 3 3 5 true,qm 10 1,qm 11 2, .i (.call 13 196 false [(.s 9),(.s 10),(.s 11),(.c (.val false [.fn 197]))]), .i (.ext 13 (.s 12) 0), .i (.ext 14 (.s 12) 1), .i (.ext 15 (.s 12) 2),qs 6 6 13 5,qm 7 14,qm 8 15]) .ret))⟩
theorem yv:cd mb=some mO:=by kernel_rfl
theorem u5 (b:Bytes) (l:ao) (k:Nat) (hok:l.ok=true) (hk:k≤b.length) (hb:b.length≤1073741824):VC cd mb (bI [(true,l.c),(false,[.sl (bytes b)]),(false,[.int .i64 (k:Int)])]) (fun rs _=>rs=bU (eB b l ⟨k,0⟩).1.o uW (eB b l ⟨k,0⟩).2):=by
 refine aa yv rfl ?_
 simp(disch:=omega) [mO,ao.c,VZ]
 have h0:=lN b l k hok hk hb
 generalize h1:eB b l ⟨k,0⟩=s1 at h0⊢
 by_cases g:s1.2.er=0
 ·simp only[bU,if_pos g,cX.o]at h0⊢
  refine cI (h0) ?_ (ha:=by first|rfl|(simp[ao.c,VY] <;>repeat' constructor))
  simp(disch:=omega) [VZ]
 ·simp only[bU,if_neg g,uW]at h0⊢
  refine cI (h0) ?_ (ha:=by first|rfl|(simp[ao.c,VY] <;>repeat' constructor))
  simp(disch:=omega) [VZ]
abbrev hC:Nat:=198
def hF:AF:=⟨4,6,[.cell 8 5 true, .tmp 9, .tmp 10],(.seq (.ops [.i (.lbox 4 (.s 0)), .i (.lal 8 [.int .i64 0, .int .i64 0, .nils, .nils, .nils]), .i (.mov 9 (qi 0)), .i (.mov 10 (qi 0))]) (.seq (.ops [.i (.lal 11 [.int .i64 0, .int .i64 0, .nils, .nils, .nils])]) (.seq (.seq (.ops [ql 14 4 4 5 true,qk 16 70 14, .i (.not 16 (.s 15))]) (.cond (.s 16) (.seq (.ops [ql 17 11 11 5 true,qs 8 8 17 5, .i (.mov 9 (qi 0)), .i (.mov 10 (qi 5))]) .ret) .skip)) (.seq (.ops [qm 18 1,qm 19 2, .i (.bld 20 [.nils, .int .i64 0, .int .i64 0] [(0,1,(.s 18)),(1,1,(.s 19))]), .i (.hbox 21 279 (.s 20)),qm 12 21]) (.seq (.ops [qm 22 3,ql 23 4 4 5 true,qm 24 12, .i (.clv 26 false (.s 22) [(.s 23),(.s 24)]), .i (.lal 13 [.int .i64 0, .int .i64 0, .nils, .nils, .nils]),qs 13 13 25 5]) (.seq (.seq (.ops [qm 26 12, .i (.nch 27 (.s 26)),qf 28 27 2, .i (.ldh 29 (.s 28) 1 false), .i (.bin 30 .neq (.s 29) (qi 0))]) (.cond (.s 30) (.seq (.ops [ql 31 11 11 5 true,qm 32 12, .i (.nch 33 (.s 32)),qf 34 33 2, .i (.ldh 35 (.s 34) 1 false),qs 8 8 31 5, .i (.mov 9 (qi 0)),qm 10 35]) .ret) .skip)) (.seq (.ops [ql 36 13 13 5 true,qm 37 12, .i (.nch 38 (.s 37)),qf 39 38 1, .i (.ldh 40 (.s 39) 1 false),qs 8 8 36 5,qm 9 40, .i (.mov 10 (qi 0))]) .ret)))))))⟩
theorem pb:cd hC=some hF:=by kernel_rfl
theorem oL (b:Bytes) (l:ao) (k:Nat) (hok:l.ok=true) (hk:k≤b.length) (hb:b.length≤1073741824):VC cd hC (bI [(true,l.c),(false,[.sl (bytes b)]),(false,[.int .i64 (k:Int)]),(false,[.fn jc])]) (fun rs _=>rs=bU (jD b l ⟨k,0⟩).1.o Oi (jD b l ⟨k,0⟩).2):=by
 have hr:Rd.wf b ⟨k,0⟩:=⟨hk,by simp⟩
 refine aa pb rfl ?_
 simp(disch:=omega) [hF,ao.c,VZ]
 refine cI (bx l) ?_ (ha:=by first|rfl|(simp[ao.c,VY] <;>repeat' constructor))
 simp(disch:=omega) [hok,VZ]
 refine bG (ey b l ⟨k,0⟩ (dw hok).1 hr hb) ?_ (n1:=by simp(disch:=omega) [Qc.o,VZ]) (n3:=by simp(disch:=omega) [Qc.o,VZ])
 generalize h1:jD b l ⟨k,0⟩=s1
 simp(disch:=omega) [au,Qc.o,VZ]
 by_cases g:s1.2.er=0
 ·simp(disch:=omega) [g,bU,Qc.o,VZ]
 ·simp(disch:=omega) [g,bU,Oi,VZ]
abbrev sF:Nat:=136
def rY:AF:=⟨3,5,[.cell 6 5 true, .tmp 7, .tmp 8],(.seq (.ops [.i (.lbox 3 (.s 0)), .i (.lal 6 [.int .i64 0, .int .i64 0, .nils, .nils, .nils]), .i (.mov 7 (qi 0)), .i (.mov 8 (qi 0))]) (.seq (.ops [ql 9 3 3 5 true,qm 10 1,qm 11 2, .i (.call 13 198 false [(.s 9),(.s 10),(.s 11),(.c (.val false [.fn 199]))]), .i (.ext 13 (.s 12) 0), .i (.ext 14 (.s 12) 1), .i (.ext 15 (.s 12) 2),qs 6 6 13 5,qm 7 14,qm 8 15]) .ret))⟩
theorem AJ:cd sF=some rY:=by kernel_rfl
theorem zd (b:Bytes) (l:ao) (k:Nat) (hok:l.ok=true) (hk:k≤b.length) (hb:b.length≤1073741824):VC cd sF (bI [(true,l.c),(false,[.sl (bytes b)]),(false,[.int .i64 (k:Int)])]) (fun rs _=>rs=bU (jD b l ⟨k,0⟩).1.o Oi (jD b l ⟨k,0⟩).2):=by
 refine aa AJ rfl ?_
 simp(disch:=omega) [rY,ao.c,VZ]
 have h0:=oL b l k hok hk hb
 generalize h1:jD b l ⟨k,0⟩=s1 at h0⊢
 by_cases g:s1.2.er=0
 ·simp only[bU,if_pos g,Qc.o]at h0⊢
  refine cI (h0) ?_ (ha:=by first|rfl|(simp[ao.c,VY] <;>repeat' constructor))
  simp(disch:=omega) [VZ]
 ·simp only[bU,if_neg g,Oi]at h0⊢
  refine cI (h0) ?_ (ha:=by first|rfl|(simp[ao.c,VY] <;>repeat' constructor))
  simp(disch:=omega) [VZ]
abbrev fZ:Nat:=200
def fT:AF:=⟨4,6,[.cell 8 10 true, .tmp 9, .tmp 10],(.seq (.ops [.i (.lbox 4 (.s 0)), .i (.lal 8 qz), .i (.mov 9 (qi 0)), .i (.mov 10 (qi 0))]) (.seq (.ops [.i (.lal 11 qz)]) (.seq (.seq (.ops [ql 14 4 4 5 true,qk 16 70 14, .i (.not 16 (.s 15))]) (.cond (.s 16) (.seq (.ops [ql 17 11 11 10 true,qs 8 8 17 10, .i (.mov 9 (qi 0)), .i (.mov 10 (qi 5))]) .ret) .skip)) (.seq (.ops [qm 18 1,qm 19 2, .i (.bld 20 [.nils, .int .i64 0, .int .i64 0] [(0,1,(.s 18)),(1,1,(.s 19))]), .i (.hbox 21 279 (.s 20)),qm 12 21]) (.seq (.ops [qm 22 3,ql 23 4 4 5 true,qm 24 12, .i (.clv 26 false (.s 22) [(.s 23),(.s 24)]), .i (.lal 13 qz),qs 13 13 25 10]) (.seq (.seq (.ops [qm 26 12, .i (.nch 27 (.s 26)),qf 28 27 2, .i (.ldh 29 (.s 28) 1 false), .i (.bin 30 .neq (.s 29) (qi 0))]) (.cond (.s 30) (.seq (.ops [ql 31 11 11 10 true,qm 32 12, .i (.nch 33 (.s 32)),qf 34 33 2, .i (.ldh 35 (.s 34) 1 false),qs 8 8 31 10, .i (.mov 9 (qi 0)),qm 10 35]) .ret) .skip)) (.seq (.ops [ql 36 13 13 10 true,qm 37 12, .i (.nch 38 (.s 37)),qf 39 38 1, .i (.ldh 40 (.s 39) 1 false),qs 8 8 36 10,qm 9 40, .i (.mov 10 (qi 0))]) .ret)))))))⟩
theorem lM:cd fZ=some fT:=by kernel_rfl
theorem lQ (b:Bytes) (l:ao) (k:Nat) (hok:l.ok=true) (hk:k≤b.length) (hb:b.length≤1073741824):VC cd fZ (bI [(true,l.c),(false,[.sl (bytes b)]),(false,[.int .i64 (k:Int)]),(false,[.fn gT])]) (fun rs _=>rs=bU (bJ b l ⟨k,0⟩).1.o Cg (bJ b l ⟨k,0⟩).2):=by
 have hr:Rd.wf b ⟨k,0⟩:=⟨hk,by simp⟩
 refine aa lM rfl ?_
 simp(disch:=omega) [fT,ao.c,VZ]
 refine cI (bx l) ?_ (ha:=by first|rfl|(simp[ao.c,VY] <;>repeat' constructor))
 simp(disch:=omega) [hok,VZ]
 refine bG (gr b l ⟨k,0⟩ (dw hok).1 hr hb) ?_ (n1:=by simp(disch:=omega) [Head.o,VZ]) (n3:=by simp(disch:=omega) [Head.o,VZ])
 generalize h1:bJ b l ⟨k,0⟩=s1
 simp(disch:=omega) [au,Head.o,VZ]
 by_cases g:s1.2.er=0
 ·simp(disch:=omega) [g,bU,Head.o,VZ]
 ·simp(disch:=omega) [g,bU,Cg,VZ]
abbrev nb:Nat:=137
def nM:AF:=⟨3,5,[.cell 6 10 true, .tmp 7, .tmp 8],(.seq (.ops [.i (.lbox 3 (.s 0)), .i (.lal 6 qz), .i (.mov 7 (qi 0)), .i (.mov 8 (qi 0))]) (.seq (.ops [ql 9 3 3 5 true,qm 10 1,qm 11 2, .i (.call 13 200 false [(.s 9),(.s 10),(.s 11),(.c (.val false [.fn 201]))]), .i (.ext 13 (.s 12) 0), .i (.ext 14 (.s 12) 1), .i (.ext 15 (.s 12) 2),qs 6 6 13 10,qm 7 14,qm 8 15]) .ret))⟩
theorem xk:cd nb=some nM:=by kernel_rfl
theorem vL (b:Bytes) (l:ao) (k:Nat) (hok:l.ok=true) (hk:k≤b.length) (hb:b.length≤1073741824):VC cd nb (bI [(true,l.c),(false,[.sl (bytes b)]),(false,[.int .i64 (k:Int)])]) (fun rs _=>rs=bU (bJ b l ⟨k,0⟩).1.o Cg (bJ b l ⟨k,0⟩).2):=by
 refine aa xk rfl ?_
 simp(disch:=omega) [nM,ao.c,VZ]
 have h0:=lQ b l k hok hk hb
 generalize h1:bJ b l ⟨k,0⟩=s1 at h0⊢
 by_cases g:s1.2.er=0
 ·simp only[bU,if_pos g,Head.o]at h0⊢
  refine cI (h0) ?_ (ha:=by first|rfl|(simp[ao.c,VY] <;>repeat' constructor))
  simp(disch:=omega) [VZ]
 ·simp only[bU,if_neg g,Cg]at h0⊢
  refine cI (h0) ?_ (ha:=by first|rfl|(simp[ao.c,VY] <;>repeat' constructor))
  simp(disch:=omega) [VZ]
abbrev fL:Nat:=202
def fH:AF:=⟨4,6,[.cell 8 11 true, .tmp 9, .tmp 10],(.seq (.ops [.i (.lbox 4 (.s 0)), .i (.lal 8 [.int .i64 0, .int .i64 0, .int .i64 0, .nils, .nils, .int .i64 0, .int .i64 0, .nils, .nils, .nils, .nils]), .i (.mov 9 (qi 0)), .i (.mov 10 (qi 0))]) (.seq (.ops [.i (.lal 11 [.int .i64 0, .int .i64 0, .int .i64 0, .nils, .nils, .int .i64 0, .int .i64 0, .nils, .nils, .nils, .nils])]) (.seq (.seq (.ops [ql 14 4 4 5 true,qk 16 70 14, .i (.not 16 (.s 15))]) (.cond (.s 16) (.seq (.ops [ql 17 11 11 11 true,qs 8 8 17 11, .i (.mov 9 (qi 0)), .i (.mov 10 (qi 5))]) .ret) .skip)) (.seq (.ops [qm 18 1,qm 19 2, .i (.bld 20 [.nils, .int .i64 0, .int .i64 0] [(0,1,(.s 18)),(1,1,(.s 19))]), .i (.hbox 21 279 (.s 20)),qm 12 21]) (.seq (.ops [qm 22 3,ql 23 4 4 5 true,qm 24 12, .i (.clv 26 false (.s 22) [(.s 23),(.s 24)]), .i (.lal 13 [.int .i64 0, .int .i64 0, .int .i64 0, .nils, .nils, .int .i64 0, .int .i64 0, .nils, .nils, .nils, .nils]),qs 13 13 25 11]) (.seq (.seq (.ops [qm 26 12, .i (.nch 27 (.s 26)),qf 28 27 2, .i (.ldh 29 (.s 28) 1 false), .i (.bin 30 .neq (.s 29) (qi 0))]) (.cond (.s 30) (.seq (.ops [ql 31 11 11 11 true,qm 32 12, .i (.nch 33 (.s 32)),qf 34 33 2, .i (.ldh 35 (.s 34) 1 false),qs 8 8 31 11, .i (.mov 9 (qi 0)),qm 10 35]) .ret) .skip)) (.seq (.ops [ql 36 13 13 11 true,qm 37 12, .i (.nch 38 (.s 37)),qf 39 38 1, .i (.ldh 40 (.s 39) 1 false),qs 8 8 36 11,qm 9 40, .i (.mov 10 (qi 0))]) .ret)))))))⟩
theorem j8:cd fL=some fH:=by kernel_rfl
theorem j7 (b:Bytes) (l:ao) (k:Nat) (hok:l.ok=true) (hk:k≤b.length) (hb:b.length≤1073741824):VC cd fL (bI [(true,l.c),(false,[.sl (bytes b)]),(false,[.int .i64 (k:Int)]),(false,[.fn gp])]) (fun rs _=>rs=bU (cm b l ⟨k,0⟩).1.o xD (cm b l ⟨k,0⟩).2):=by
 have hr:Rd.wf b ⟨k,0⟩:=⟨hk,by simp⟩
 refine aa j8 rfl ?_
 simp(disch:=omega) [fH,ao.c,VZ]
 refine cI (bx l) ?_ (ha:=by first|rfl|(simp[ao.c,VY] <;>repeat' constructor))
 simp(disch:=omega) [hok,VZ]
 refine bG (sy b l ⟨k,0⟩ (dw hok) hr hb) ?_ (n1:=by simp(disch:=omega) [Block.o,VZ]) (n3:=by simp(disch:=omega) [Block.o,VZ])
 generalize h1:cm b l ⟨k,0⟩=s1
 simp(disch:=omega) [au,Block.o,VZ]
 by_cases g:s1.2.er=0
 ·simp(disch:=omega) [g,bU,Block.o,VZ]
 ·simp(disch:=omega) [g,bU,xD,VZ]
abbrev lG:Nat:=138
def lE:AF:=⟨3,5,[.cell 6 11 true, .tmp 7, .tmp 8],(.seq (.ops [.i (.lbox 3 (.s 0)), .i (.lal 6 [.int .i64 0, .int .i64 0, .int .i64 0, .nils, .nils, .int .i64 0, .int .i64 0, .nils, .nils, .nils, .nils]), .i (.mov 7 (qi 0)), .i (.mov 8 (qi 0))]) (.seq (.ops [ql 9 3 3 5 true,qm 10 1,qm 11 2, .i (.call 13 202 false [(.s 9),(.s 10),(.s 11),(.c (.val false [.fn 203]))]), .i (.ext 13 (.s 12) 0), .i (.ext 14 (.s 12) 1), .i (.ext 15 (.s 12) 2),qs 6 6 13 11,qm 7 14,qm 8 15]) .ret))⟩
theorem vC:cd lG=some lE:=by kernel_rfl
theorem tA (b:Bytes) (l:ao) (k:Nat) (hok:l.ok=true) (hk:k≤b.length) (hb:b.length≤1073741824):VC cd lG (bI [(true,l.c),(false,[.sl (bytes b)]),(false,[.int .i64 (k:Int)])]) (fun rs _=>rs=bU (cm b l ⟨k,0⟩).1.o xD (cm b l ⟨k,0⟩).2):=by
 refine aa vC rfl ?_
 simp(disch:=omega) [lE,ao.c,VZ]
 have h0:=j7 b l k hok hk hb
 generalize h1:cm b l ⟨k,0⟩=s1 at h0⊢
 by_cases g:s1.2.er=0
 ·simp only[bU,if_pos g,Block.o]at h0⊢
  refine cI (h0) ?_ (ha:=by first|rfl|(simp[ao.c,VY] <;>repeat' constructor))
  simp(disch:=omega) [VZ]
 ·simp only[bU,if_neg g,xD]at h0⊢
  refine cI (h0) ?_ (ha:=by first|rfl|(simp[ao.c,VY] <;>repeat' constructor))
  simp(disch:=omega) [VZ]
abbrev hY:Nat:=204
def hG:AF:=⟨4,6,[.cell 8 2 true, .tmp 9, .tmp 10],(.seq (.ops [.i (.lbox 4 (.s 0)), .i (.lal 8 [.int .i64 0, .nils]), .i (.mov 9 (qi 0)), .i (.mov 10 (qi 0))]) (.seq (.ops [.i (.lal 11 [.int .i64 0, .nils])]) (.seq (.seq (.ops [ql 14 4 4 5 true,qk 16 70 14, .i (.not 16 (.s 15))]) (.cond (.s 16) (.seq (.ops [ql 17 11 11 2 true,qs 8 8 17 2, .i (.mov 9 (qi 0)), .i (.mov 10 (qi 5))]) .ret) .skip)) (.seq (.ops [qm 18 1,qm 19 2, .i (.bld 20 [.nils, .int .i64 0, .int .i64 0] [(0,1,(.s 18)),(1,1,(.s 19))]), .i (.hbox 21 279 (.s 20)),qm 12 21]) (.seq (.ops [qm 22 3,ql 23 4 4 5 true,qm 24 12, .i (.clv 26 false (.s 22) [(.s 23),(.s 24)]), .i (.lal 13 [.int .i64 0, .nils]),qs 13 13 25 2]) (.seq (.seq (.ops [qm 26 12, .i (.nch 27 (.s 26)),qf 28 27 2, .i (.ldh 29 (.s 28) 1 false), .i (.bin 30 .neq (.s 29) (qi 0))]) (.cond (.s 30) (.seq (.ops [ql 31 11 11 2 true,qm 32 12, .i (.nch 33 (.s 32)),qf 34 33 2, .i (.ldh 35 (.s 34) 1 false),qs 8 8 31 2, .i (.mov 9 (qi 0)),qm 10 35]) .ret) .skip)) (.seq (.ops [ql 36 13 13 2 true,qm 37 12, .i (.nch 38 (.s 37)),qf 39 38 1, .i (.ldh 40 (.s 39) 1 false),qs 8 8 36 2,qm 9 40, .i (.mov 10 (qi 0))]) .ret)))))))⟩
theorem oQ:cd hY=some hG:=by kernel_rfl
theorem oM (b:Bytes) (l:ao) (k:Nat) (hok:l.ok=true) (hk:k≤b.length) (hb:b.length≤1073741824):VC cd hY (bI [(true,l.c),(false,[.sl (bytes b)]),(false,[.int .i64 (k:Int)]),(false,[.fn jd])]) (fun rs _=>rs=bU (uo b l ⟨k,0⟩).1.o Ob (uo b l ⟨k,0⟩).2):=by
 have hr:Rd.wf b ⟨k,0⟩:=⟨hk,by simp⟩
 refine aa oQ rfl ?_
 simp(disch:=omega) [hG,ao.c,VZ]
 refine cI (bx l) ?_ (ha:=by first|rfl|(simp[ao.c,VY] <;>repeat' constructor))
 simp(disch:=omega) [hok,VZ]
 refine bG (wS b l ⟨k,0⟩ (dw hok) hr hb) ?_ (n1:=by simp(disch:=omega) [Tc.o,VZ]) (n3:=by simp(disch:=omega) [Tc.o,VZ])
 generalize h1:uo b l ⟨k,0⟩=s1
 simp(disch:=omega) [au,Tc.o,VZ]
 by_cases g:s1.2.er=0
 ·simp(disch:=omega) [g,bU,Tc.o,VZ]
 ·simp(disch:=omega) [g,bU,Ob,VZ]
abbrev ta:Nat:=139
def si:AF:=⟨3,5,[.cell 6 2 true, .tmp 7, .tmp 8],(.seq (.ops [.i (.lbox 3 (.s 0)), .i (.lal 6 [.int .i64 0, .nils]), .i (.mov 7 (qi 0)), .i (.mov 8 (qi 0))]) (.seq (.ops [ql 9 3 3 5 true,qm 10 1,qm 11 2, .i (.call 13 204 false [(.s 9),(.s 10),(.s 11),(.c (.val false [.fn 205]))]), .i (.ext 13 (.s 12) 0), .i (.ext 14 (.s 12) 1), .i (.ext 15 (.s 12) 2),qs 6 6 13 2,qm 7 14,qm 8 15]) .ret))⟩
theorem BL:cd ta=some si:=by kernel_rfl
theorem y8 (b:Bytes) (l:ao) (k:Nat) (hok:l.ok=true) (hk:k≤b.length) (hb:b.length≤1073741824):VC cd ta (bI [(true,l.c),(false,[.sl (bytes b)]),(false,[.int .i64 (k:Int)])]) (fun rs _=>rs=bU (uo b l ⟨k,0⟩).1.o Ob (uo b l ⟨k,0⟩).2):=by
 refine aa BL rfl ?_
 simp(disch:=omega) [si,ao.c,VZ]
 have h0:=oM b l k hok hk hb
 generalize h1:uo b l ⟨k,0⟩=s1 at h0⊢
 by_cases g:s1.2.er=0
 ·simp only[bU,if_pos g,Tc.o]at h0⊢
  refine cI (h0) ?_ (ha:=by first|rfl|(simp[ao.c,VY] <;>repeat' constructor))
  simp(disch:=omega) [VZ]
 ·simp only[bU,if_neg g,Ob]at h0⊢
  refine cI (h0) ?_ (ha:=by first|rfl|(simp[ao.c,VY] <;>repeat' constructor))
  simp(disch:=omega) [VZ]
abbrev fQ:Nat:=206
def fP:AF:=⟨4,6,[.cell 8 6 true, .tmp 9, .tmp 10],(.seq (.ops [.i (.lbox 4 (.s 0)), .i (.lal 8 [.nils, .int .i64 0, .int .i64 0, .nils, .nils, .nils]), .i (.mov 9 (qi 0)), .i (.mov 10 (qi 0))]) (.seq (.ops [.i (.lal 11 [.nils, .int .i64 0, .int .i64 0, .nils, .nils, .nils])]) (.seq (.seq (.ops [ql 14 4 4 5 true,qk 16 70 14, .i (.not 16 (.s 15))]) (.cond (.s 16) (.seq (.ops [ql 17 11 11 6 true,qs 8 8 17 6, .i (.mov 9 (qi 0)), .i (.mov 10 (qi 5))]) .ret) .skip)) (.seq (.ops [qm 18 1,qm 19 2, .i (.bld 20 [.nils, .int .i64 0, .int .i64 0] [(0,1,(.s 18)),(1,1,(.s 19))]), .i (.hbox 21 279 (.s 20)),qm 12 21]) (.seq (.ops [qm 22 3,ql 23 4 4 5 true,qm 24 12, .i (.clv 26 false (.s 22) [(.s 23),(.s 24)]), .i (.lal 13 [.nils, .int .i64 0, .int .i64 0, .nils, .nils, .nils]),qs 13 13 25 6]) (.seq (.seq (.ops [qm 26 12, .i (.nch 27 (.s 26)),qf 28 27 2, .i (.ldh 29 (.s 28) 1 false), .i (.bin 30 .neq (.s 29) (qi 0))]) (.cond (.s 30) (.seq (.ops [ql 31 11 11 6 true,qm 32 12, .i (.nch 33 (.s 32)),qf 34 33 2, .i (.ldh 35 (.s 34) 1 false),qs 8 8 31 6, .i (.mov 9 (qi 0)),qm 10 35]) .ret) .skip)) (.seq (.ops [ql 36 13 13 6 true,qm 37 12, .i (.nch 38 (.s 37)),qf 39 38 1, .i (.ldh 40 (.s 39) 1 false),qs 8 8 36 6,qm 9 40, .i (.mov 10 (qi 0))]) .ret)))))))⟩
theorem j6:cd fQ=some fP:=by kernel_rfl
theorem kA (b:Bytes) (l:ao) (k:Nat) (hok:l.ok=true) (hk:k≤b.length) (hb:b.length≤1073741824):VC cd fQ (bI [(true,l.c),(false,[.sl (bytes b)]),(false,[.int .i64 (k:Int)]),(false,[.fn gf])]) (fun rs _=>rs=bU (b7 b l ⟨k,0⟩).1.o xL (b7 b l ⟨k,0⟩).2):=by
 have hr:Rd.wf b ⟨k,0⟩:=⟨hk,by simp⟩
 refine aa j6 rfl ?_
 simp(disch:=omega) [fP,ao.c,VZ]
 refine cI (bx l) ?_ (ha:=by first|rfl|(simp[ao.c,VY] <;>repeat' constructor))
 simp(disch:=omega) [hok,VZ]
 refine bG (sR b l ⟨k,0⟩ (dw hok) hr hb) ?_ (n1:=by simp(disch:=omega) [Proof.o,VZ]) (n3:=by simp(disch:=omega) [Proof.o,VZ])
 generalize h1:b7 b l ⟨k,0⟩=s1
 simp(disch:=omega) [au,Proof.o,VZ]
 by_cases g:s1.2.er=0
 ·simp(disch:=omega) [g,bU,Proof.o,VZ]
 ·simp(disch:=omega) [g,bU,xL,VZ]
abbrev kU:Nat:=140
def lF:AF:=⟨3,5,[.cell 6 6 true, .tmp 7, .tmp 8],(.seq (.ops [.i (.lbox 3 (.s 0)), .i (.lal 6 [.nils, .int .i64 0, .int .i64 0, .nils, .nils, .nils]), .i (.mov 7 (qi 0)), .i (.mov 8 (qi 0))]) (.seq (.ops [ql 9 3 3 5 true,qm 10 1,qm 11 2, .i (.call 13 206 false [(.s 9),(.s 10),(.s 11),(.c (.val false [.fn 207]))]), .i (.ext 13 (.s 12) 0), .i (.ext 14 (.s 12) 1), .i (.ext 15 (.s 12) 2),qs 6 6 13 6,qm 7 14,qm 8 15]) .ret))⟩
theorem vm:cd kU=some lF:=by kernel_rfl
theorem tZ (b:Bytes) (l:ao) (k:Nat) (hok:l.ok=true) (hk:k≤b.length) (hb:b.length≤1073741824):VC cd kU (bI [(true,l.c),(false,[.sl (bytes b)]),(false,[.int .i64 (k:Int)])]) (fun rs _=>rs=bU (b7 b l ⟨k,0⟩).1.o xL (b7 b l ⟨k,0⟩).2):=by
 refine aa vm rfl ?_
 simp(disch:=omega) [lF,ao.c,VZ]
 have h0:=kA b l k hok hk hb
 generalize h1:b7 b l ⟨k,0⟩=s1 at h0⊢
 by_cases g:s1.2.er=0
 ·simp only[bU,if_pos g,Proof.o]at h0⊢
  refine cI (h0) ?_ (ha:=by first|rfl|(simp[ao.c,VY] <;>repeat' constructor))
  simp(disch:=omega) [VZ]
 ·simp only[bU,if_neg g,xL]at h0⊢
  refine cI (h0) ?_ (ha:=by first|rfl|(simp[ao.c,VY] <;>repeat' constructor))
  simp(disch:=omega) [VZ]
abbrev fY:Nat:=208
def fV:AF:=⟨4,6,[.cell 8 5 true, .tmp 9, .tmp 10],(.seq (.ops [.i (.lbox 4 (.s 0)), .i (.lal 8 [.int .i64 0, .int .i64 0, .int .i64 0, .nils, .nils]), .i (.mov 9 (qi 0)), .i (.mov 10 (qi 0))]) (.seq (.ops [.i (.lal 11 [.int .i64 0, .int .i64 0, .int .i64 0, .nils, .nils])]) (.seq (.seq (.ops [ql 14 4 4 5 true,qk 16 70 14, .i (.not 16 (.s 15))]) (.cond (.s 16) (.seq (.ops [ql 17 11 11 5 true,qs 8 8 17 5, .i (.mov 9 (qi 0)), .i (.mov 10 (qi 5))]) .ret) .skip)) (.seq (.ops [qm 18 1,qm 19 2, .i (.bld 20 [.nils, .int .i64 0, .int .i64 0] [(0,1,(.s 18)),(1,1,(.s 19))]), .i (.hbox 21 279 (.s 20)),qm 12 21]) (.seq (.ops [qm 22 3,ql 23 4 4 5 true,qm 24 12, .i (.clv 26 false (.s 22) [(.s 23),(.s 24)]), .i (.lal 13 [.int .i64 0, .int .i64 0, .int .i64 0, .nils, .nils]),qs 13 13 25 5]) (.seq (.seq (.ops [qm 26 12, .i (.nch 27 (.s 26)),qf 28 27 2, .i (.ldh 29 (.s 28) 1 false), .i (.bin 30 .neq (.s 29) (qi 0))]) (.cond (.s 30) (.seq (.ops [ql 31 11 11 5 true,qm 32 12, .i (.nch 33 (.s 32)),qf 34 33 2, .i (.ldh 35 (.s 34) 1 false),qs 8 8 31 5, .i (.mov 9 (qi 0)),qm 10 35]) .ret) .skip)) (.seq (.ops [ql 36 13 13 5 true,qm 37 12, .i (.nch 38 (.s 37)),qf 39 38 1, .i (.ldh 40 (.s 39) 1 false),qs 8 8 36 5,qm 9 40, .i (.mov 10 (qi 0))]) .ret)))))))⟩
theorem lR:cd fY=some fV:=by kernel_rfl
theorem lL (b:Bytes) (l:ao) (k:Nat) (hok:l.ok=true) (hk:k≤b.length) (hb:b.length≤1073741824):VC cd fY (bI [(true,l.c),(false,[.sl (bytes b)]),(false,[.int .i64 (k:Int)]),(false,[.fn gQ])]) (fun rs _=>rs=bU (ei b l ⟨k,0⟩).1.o Cw (ei b l ⟨k,0⟩).2):=by
 have hr:Rd.wf b ⟨k,0⟩:=⟨hk,by simp⟩
 refine aa lR rfl ?_
 simp(disch:=omega) [fV,ao.c,VZ]
 refine cI (bx l) ?_ (ha:=by first|rfl|(simp[ao.c,VY] <;>repeat' constructor))
 simp(disch:=omega) [hok,VZ]
 refine bG (tn b l ⟨k,0⟩ (dw hok) hr hb) ?_ (n1:=by simp(disch:=omega) [ck.o,VZ]) (n3:=by simp(disch:=omega) [ck.o,VZ])
 generalize h1:ei b l ⟨k,0⟩=s1
 simp(disch:=omega) [au,ck.o,VZ]
 by_cases g:s1.2.er=0
 ·simp(disch:=omega) [g,bU,ck.o,VZ]
 ·simp(disch:=omega) [g,bU,Cw,VZ]
abbrev mu:Nat:=141
def nU:AF:=⟨3,5,[.cell 6 5 true, .tmp 7, .tmp 8],(.seq (.ops [.i (.lbox 3 (.s 0)), .i (.lal 6 [.int .i64 0, .int .i64 0, .int .i64 0, .nils, .nils]), .i (.mov 7 (qi 0)), .i (.mov 8 (qi 0))]) (.seq (.ops [ql 9 3 3 5 true,qm 10 1,qm 11 2, .i (.call 13 208 false [(.s 9),(.s 10),(.s 11),(.c (.val false [.fn 209]))]), .i (.ext 13 (.s 12) 0), .i (.ext 14 (.s 12) 1), .i (.ext 15 (.s 12) 2),qs 6 6 13 5,qm 7 14,qm 8 15]) .ret))⟩
theorem xt:cd mu=some nU:=by kernel_rfl
theorem vy (b:Bytes) (l:ao) (k:Nat) (hok:l.ok=true) (hk:k≤b.length) (hb:b.length≤1073741824):VC cd mu (bI [(true,l.c),(false,[.sl (bytes b)]),(false,[.int .i64 (k:Int)])]) (fun rs _=>rs=bU (ei b l ⟨k,0⟩).1.o Cw (ei b l ⟨k,0⟩).2):=by
 refine aa xt rfl ?_
 simp(disch:=omega) [nU,ao.c,VZ]
 have h0:=lL b l k hok hk hb
 generalize h1:ei b l ⟨k,0⟩=s1 at h0⊢
 by_cases g:s1.2.er=0
 ·simp only[bU,if_pos g,ck.o]at h0⊢
  refine cI (h0) ?_ (ha:=by first|rfl|(simp[ao.c,VY] <;>repeat' constructor))
  simp(disch:=omega) [VZ]
 ·simp only[bU,if_neg g,Cw]at h0⊢
  refine cI (h0) ?_ (ha:=by first|rfl|(simp[ao.c,VY] <;>repeat' constructor))
  simp(disch:=omega) [VZ]
end Go.Eng.F
namespace Go.Eng.F
def strs (l:List ByteArray):List (List D):=l.map fun s=> [.str s]
theorem IX (l:List ByteArray):(strs l).length=l.length:=by simp[strs]
theorem H2 {l:List ByteArray} {i:Nat} (h:i < l.length):(strs l)[i]? =some [.str l[i]]:=by simp[strs,h]
abbrev pw:Nat:=195
def qu:AF:=⟨2,4,[.tmp 4],(.seq (.ops [.i (.mov 4 (.c (.val false [.str ByteArray.empty])))]) (.seq (.seq (.ops [qm 5 0,qm 6 1,qn 7 6, .i (.bin 8 .sub (.s 7) (qi 1)), .i (.call 10 103 false [(.s 5),(qi 0),(.s 8)]), .i (.not 10 (.s 9))]) (.cond (.s 10) (.seq (.ops [.i (.mov 4 (.c (.val false [.str ByteArray.empty])))]) .ret) .skip)) (.seq (.ops [qm 11 1,qm 12 0, .i (.iad 13 (.s 11) (.s 12) 1), .i (.ldh 14 (.s 13) 1 false),qm 4 14]) .ret)))⟩
theorem zm:cd pw=some qu:=by kernel_rfl
theorem G3 (l:List ByteArray) (k:Nat) (hl:l.length≤1000):VC cd pw (bI [(false,[.int .i64 (k:Int)]),(false,[.sl (strs l)])]) (fun rs _=>rs= [(false,[.p (.str ((l[k]?).getD ByteArray.empty))])]):=by
 refine aa zm rfl ?_
 simp(disch:=omega) [qu,IX,VY]
 refine cI (bu (k:Int) 0 ((l.length:Int) - 1)) ?_
 simp(disch:=omega) [dK,VY]
 by_cases h:k < l.length
 ·have h1:(k:Int)≤(l.length:Int) - 1:=by omega
  simp(disch:=omega) [h1,H2 h,h,VY]
 ·have h1:¬(k:Int)≤(l.length:Int) - 1:=by omega
  simp(disch:=omega) [h1,h,VY]
def kinds:List ByteArray:= [ByteArray.empty,⟨#[118,111,116,101]⟩,⟨#[113,99]⟩,⟨#[104,101,97,100]⟩,⟨#[98,108,111,99,107]⟩,⟨#[116,99]⟩,⟨#[112,114,111,111,102]⟩,⟨#[105,110,99,108]⟩]
def kindName (k:Nat):ByteArray:=(kinds[k]?).getD ByteArray.empty
abbrev kS:Nat:=134
def lx:AF:=⟨1,3,[.tmp 2],(.seq (.ops [.i (.mov 2 (.c (.val false [.str ByteArray.empty])))]) (.seq (.ops [qm 3 0, .i (.bsl 4 9 1 8 [.str ByteArray.empty] [(0,1,(.c (.val false [.str ByteArray.empty]))),(1,1,(.c (.val false [.str ⟨#[118,111,116,101]⟩]))),(2,1,(.c (.val false [.str ⟨#[113,99]⟩]))),(3,1,(.c (.val false [.str ⟨#[104,101,97,100]⟩]))),(4,1,(.c (.val false [.str ⟨#[98,108,111,99,107]⟩]))),(5,1,(.c (.val false [.str ⟨#[116,99]⟩]))),(6,1,(.c (.val false [.str ⟨#[112,114,111,111,102]⟩]))),(7,1,(.c (.val false [.str ⟨#[105,110,99,108]⟩])))]), .i (.call 6 195 false [(.s 3),(.s 4)]),qm 2 5]) .ret))⟩
theorem vO:cd kS=some lx:=by kernel_rfl
theorem DO (k:Nat):VC cd kS (bI [(false,[.int .i64 (k:Int)])]) (fun rs _=>rs= [(false,[.p (.str (kindName k))])]):=by
 refine aa vO rfl ?_
 simp(disch:=omega) [lx,VY]
 refine cI (G3 kinds k (by simp[kinds])) ?_
 simp(disch:=omega) [kindName,VY]
theorem ma (k:Nat):kindName k=ByteArray.empty↔k=0∨8≤k:=by
 by_cases h:8≤k
 ·have:kindName k=ByteArray.empty:=by
   unfold kindName
   rw[List.getElem?_eq_none (by simp[kinds];omega)]
   rfl
  exact⟨fun _=> .inr h,fun _=>this⟩
 ·have ne:∀s:ByteArray,s.size≠0→s≠ByteArray.empty:=fun s h1 h2=>h1 (by rw[h2];rfl)
  have hk:k=0∨k=1∨k=2∨k=3∨k=4∨k=5∨k=6∨k=7:=by omega
  rcases hk with rfl|rfl|rfl|rfl|rfl|rfl|rfl|rfl
  ·exact⟨fun _=> .inl rfl,fun _=>rfl⟩
  all_goals exact⟨fun e=>absurd e (ne _ (by decide)),fun e=>by omega⟩
abbrev qg:Nat:=124
def qq:AF:=⟨3,5,[.tmp 6],(.seq (.ops [.i (.lbox 3 (.s 0)), .i (.mov 6 (.c (.val false [.nilp])))]) (.seq (.ops [qm 8 1,qm 9 2, .i (.bld 10 [.nils, .int .i64 0, .int .i64 0] [(0,1,(.s 8)),(1,1,(.s 9))]), .i (.hbox 11 166 (.s 10)),qm 7 11]) (.seq (.seq (.ops [ql 12 3 3 5 true,qk 14 66 12, .i (.not 14 (.s 13))]) (.cond (.s 14) (.ops [qm 15 7, .i (.nch 16 (.s 15)),qf 17 16 2, .i (.sth (.s 17) (qi 5) 1)]) .skip)) (.seq (.ops [qm 18 7,qm 6 18]) .ret))))⟩
theorem y5:cd qg=some qq:=by kernel_rfl
theorem tu (b:Bytes) (l:ao) (k:Nat):VC cd qg (bI [(true,l.c),(false,[.sl (bytes b)]),(false,[.int .i64 (k:Int)])]) (fun rs _=>rs= [(false,[.pt 166 (au b ⟨k,if l.ok=true then 0 else 5⟩)])]):=by
 refine aa y5 rfl ?_
 simp(disch:=omega) [qq,ao.c,VZ]
 refine cI (dH l) ?_ (ha:=by first|rfl|(simp[ao.c,VY] <;>repeat' constructor))
 simp(disch:=omega) [VZ]
 refine dO (fun h1=> ?_) (fun h1=> ?_)
 ·simp(disch:=omega) [h1,au,VZ]
 ·simp(disch:=omega) [h1,au,VZ]
abbrev nW:Nat:=125
def mN:AF:=⟨3,6,[.cell 6 5 true, .tmp 7, .tmp 8],(.seq (.ops [.i (.lbox 3 (.s 0)), .i (.lal 6 [.int .i64 0, .int .i64 0, .nils, .int .i64 0, .nils]), .i (.mov 7 (qi 0)), .i (.mov 8 (qi 0))]) (.seq (.ops [ql 11 3 3 5 true,qm 12 1,qm 13 2, .i (.call 15 124 false [(.s 11),(.s 12),(.s 13)]),qm 9 14]) (.seq (.ops [qm 15 9,qk 17 184 15, .i (.bld 17 [.int .i64 0, .int .i64 0, .nils, .int .i64 0, .nils] [(0,1,(.s 16))]), .i (.lal 10 [.int .i64 0, .int .i64 0, .nils, .int .i64 0, .nils]),qs 10 10 17 5]) (.seq (.ops [qm 18 9,qk 20 184 18,qf 20 10 1,qs 10 20 19 1]) (.seq (.ops [qm 21 9,qk 23 185 21,qf 23 10 2,qs 10 23 22 1]) (.seq (.ops [qm 24 9,qk 26 184 24,qf 26 10 3,qs 10 26 25 1]) (.seq (.ops [qm 27 9,qf 28 10 3,ql 29 10 28 1 false,qf 30 3 0,ql 31 3 30 1 false,qd 32 .geq 29 31, .i (.call 34 132 false [(.s 27),(.s 32),(qi 5)])]) (.seq (.ops [qm 34 9,qk 36 185 34,qf 36 10 4,qs 10 36 35 1]) (.seq (.seq (.ops [qm 37 9, .i (.nch 38 (.s 37)),qf 39 38 2, .i (.ldh 40 (.s 39) 1 false), .i (.bin 41 .neq (.s 40) (qi 0))]) (.cond (.s 41) (.seq (.ops [.i (.bld 42 [.int .i64 0, .int .i64 0, .nils, .int .i64 0, .nils] []),qm 43 9, .i (.nch 44 (.s 43)),qf 45 44 2, .i (.ldh 46 (.s 45) 1 false),qs 6 6 42 5, .i (.mov 7 (qi 0)),qm 8 46]) .ret) .skip)) (.seq (.ops [ql 47 10 10 5 true,qm 48 9, .i (.nch 49 (.s 48)),qf 50 49 1, .i (.ldh 51 (.s 50) 1 false),qs 6 6 47 5,qm 7 51, .i (.mov 8 (qi 0))]) .ret))))))))))⟩
theorem x6:cd nW=some mN:=by kernel_rfl
theorem vu (b:Bytes) (l:ao) (k:Nat) (hok:l.ok=true) (hk:k≤b.length) (hb:b.length≤1073741824):VC cd nW (bI [(true,l.c),(false,[.sl (bytes b)]),(false,[.int .i64 (k:Int)])]) (fun rs _=>rs=bU (eB b l ⟨k,0⟩).1.o uW (eB b l ⟨k,0⟩).2):=by
 have hr:Rd.wf b ⟨k,0⟩:=⟨hk,by simp⟩
 refine aa x6 rfl ?_
 simp(disch:=omega) [mN,ao.c,VZ]
 refine Pe (tu b l k) ?_ (ha:=by first|rfl|(simp[ao.c,VY] <;>repeat' constructor))
 simp(disch:=omega) [hok,au,AK,VZ]
 refine bG (bO b ⟨k,0⟩ hr hb) ?_
 have w1:=aR hr
 generalize h1:aM b ⟨k,0⟩=s1 at w1⊢
 simp(disch:=omega) [au,VZ]
 refine bG (bO b s1.2 w1.1 hb) ?_
 have w2:=aR w1.1
 generalize h2:aM b s1.2=s2 at w2⊢
 simp(disch:=omega) [au,VZ]
 refine bG (fx b s2.2 w2.1 hb) ?_
 have w3:=bS w2.1 32
 generalize h3:aY b s2.2 32=s3 at w3⊢
 simp(disch:=omega) [au,VZ]
 refine bG (bO b s3.2 w3.1 hb) ?_
 have w4:=aR w3.1
 generalize h4:aM b s3.2=s4 at w4⊢
 simp(disch:=omega) [au,VZ]
 refine bG (az b s4.2 (decide (l.n≤(s4.1:Int))) 5) ?_
 have w5:=aV (bad:=decide (l.n≤(s4.1:Int))) (c:=5) w4.1 (by omega)
 generalize h5:aw s4.2 (decide (l.n≤(s4.1:Int))) 5=s5 at w5⊢
 simp(disch:=omega) [au,VZ]
 refine bG (fx b s5 w5 hb) ?_
 have w6:=bS w5 32
 generalize h6:aY b s5 32=s6 at w6⊢
 simp(disch:=omega) [au,VZ]
 have h0:eB b l ⟨k,0⟩=(⟨s1.1,s2.1,s3.1,s4.1,s6.1⟩,s6.2):=by simp only[eB,aL,h1,h2,h3,h4,h5,h6]
 by_cases g:s6.2.er=0
 ·simp(disch:=omega) [g,h0,bU,cX.o,VZ]
 ·simp(disch:=omega) [g,h0,bU,uW,VZ]
end Go.Eng.F
namespace Go.Eng.F
def cg.o (m:cg):List E:= [.p (.int .i64 m.kind), .p (.int .i64 m.vote.view), .p (.int .i64 m.vote.height), .o true (some (5,1)) (bytes m.vote.block), .p (.int .i64 m.vote.who), .o true (some (5,1)) (bytes m.vote.tag), .p (.int .i64 m.qc.view), .p (.int .i64 m.qc.height), .o true (some (5,1)) (bytes m.qc.block), .o true (some (5,1)) (bytes m.qc.bits), .o true (some (24,1)) (dN m.qc.tags), .p (.int .i64 m.head.view), .p (.int .i64 m.head.height), .p (.int .i64 m.head.proposer), .o true (some (5,1)) (bytes m.head.parent), .o true (some (5,1)) (bytes m.head.root), .p (.int .i64 m.head.qc.view), .p (.int .i64 m.head.qc.height), .o true (some (5,1)) (bytes m.head.qc.block), .o true (some (5,1)) (bytes m.head.qc.bits), .o true (some (24,1)) (dN m.head.qc.tags), .p (.int .i64 m.block.head.view), .p (.int .i64 m.block.head.height), .p (.int .i64 m.block.head.proposer), .o true (some (5,1)) (bytes m.block.head.parent), .o true (some (5,1)) (bytes m.block.head.root), .p (.int .i64 m.block.head.qc.view), .p (.int .i64 m.block.head.qc.height), .o true (some (5,1)) (bytes m.block.head.qc.block), .o true (some (5,1)) (bytes m.block.head.qc.bits), .o true (some (24,1)) (dN m.block.head.qc.tags), .o true (some (24,1)) (dN m.block.txs), .p (.int .i64 m.tc.view), .o true (some (135,3)) (zY m.tc.entries), .o true (some (64,10)) (ud m.proof.heads), .p (.int .i64 m.proof.qc.view), .p (.int .i64 m.proof.qc.height), .o true (some (5,1)) (bytes m.proof.qc.block), .o true (some (5,1)) (bytes m.proof.qc.bits), .o true (some (24,1)) (dN m.proof.qc.tags), .p (.int .i64 m.incl.height), .p (.int .i64 m.incl.n), .p (.int .i64 m.incl.idx), .o true (some (5,1)) (bytes m.incl.tx), .o true (some (24,1)) (dN m.incl.path)]
def cz (b:Bytes) (m:cg) (r:Rd):cg×Nat:=if r.er≠0 then(ay,r.er)else if r.at_≠b.length then(ay,9)else(m,0)
def gm (l:ao) (b:Bytes):Nat→cg×Nat
 |1=>cz b {ay with kind:=1,vote:=(eB b l ⟨1,0⟩).1} (eB b l ⟨1,0⟩).2
 |2=>cz b {ay with kind:=2,qc:=(jD b l ⟨1,0⟩).1} (jD b l ⟨1,0⟩).2
 |3=>cz b {ay with kind:=3,head:=(bJ b l ⟨1,0⟩).1} (bJ b l ⟨1,0⟩).2
 |4=>cz b {ay with kind:=4,block:=(cm b l ⟨1,0⟩).1} (cm b l ⟨1,0⟩).2
 |5=>cz b {ay with kind:=5,tc:=(uo b l ⟨1,0⟩).1} (uo b l ⟨1,0⟩).2
 |6=>cz b {ay with kind:=6,proof:=(b7 b l ⟨1,0⟩).1} (b7 b l ⟨1,0⟩).2
 |7=>cz b {ay with kind:=7,incl:=(ei b l ⟨1,0⟩).1} (ei b l ⟨1,0⟩).2
 |_=>(ay,8)
def dec (l:ao) (b:Bytes):cg×Nat:=if l.ok=true then(match b[0]? with|none=>(ay,1)|some c=>gm l b c.toNat)else(ay,5)
theorem vT {l:ao} {b:Bytes} {k:Nat} (h:k=0∨8≤k):gm l b k=(ay,8):=by
 unfold gm
 split <;>first|omega|rfl
theorem wA {l:ao} {b:Bytes} (h:¬l.ok=true):dec l b=(ay,5):=by simp[dec,h]
theorem oE {l:ao} {b:Bytes} (h:l.ok=true) (hc:¬0 < b.length):dec l b=(ay,1):=by
 have:b[0]? =none:=List.getElem?_eq_none (by omega)
 simp[dec,h,this]
theorem Du {l:ao} {b:Bytes} (h:l.ok=true) (hc:0 < b.length):dec l b=gm l b b[0].toNat:=by
 have:b[0]? =some b[0]:=List.getElem?_eq_getElem hc
 simp[dec,h,this]
def cC (x:cg×Nat):List (Bool×List E):= [(true,x.1.o),(false,[.p (.int .i64 (x.2:Int))])]
theorem aE:dN []= []:=rfl
theorem aC:zY []= []:=rfl
theorem aD:ud []= []:=rfl
abbrev pU:Nat:=83
def pG:AF:=⟨2,7,[.cell 4 45 true, .tmp 5],(.seq (.ops [.i (.lbox 2 (.s 0)), .i (.lal 4 [.int .i64 0, .int .i64 0, .int .i64 0, .nils, .int .i64 0, .nils, .int .i64 0, .int .i64 0, .nils, .nils, .nils, .int .i64 0, .int .i64 0, .int .i64 0, .nils, .nils, .int .i64 0, .int .i64 0, .nils, .nils, .nils, .int .i64 0, .int .i64 0, .int .i64 0, .nils, .nils, .int .i64 0, .int .i64 0, .nils, .nils, .nils, .nils, .int .i64 0, .nils, .nils, .int .i64 0, .int .i64 0, .nils, .nils, .nils, .int .i64 0, .int .i64 0, .int .i64 0, .nils, .nils]), .i (.mov 5 (qi 0))]) (.seq (.block 0 (.seq (.ops [ql 10 2 2 5 true,qk 12 70 10, .i (.not 12 (.s 11)),qm 9 12]) (.cond (.s 9) (.seq (.ops [.i (.bld 13 [.int .i64 0, .int .i64 0, .int .i64 0, .nils, .int .i64 0, .nils, .int .i64 0, .int .i64 0, .nils, .nils, .nils, .int .i64 0, .int .i64 0, .int .i64 0, .nils, .nils, .int .i64 0, .int .i64 0, .nils, .nils, .nils, .int .i64 0, .int .i64 0, .int .i64 0, .nils, .nils, .int .i64 0, .int .i64 0, .nils, .nils, .nils, .nils, .int .i64 0, .nils, .nils, .int .i64 0, .int .i64 0, .nils, .nils, .nils, .int .i64 0, .int .i64 0, .int .i64 0, .nils, .nils] []),qs 4 4 13 45, .i (.mov 5 (qi 5))]) .ret) (.seq (.ops [qm 15 1,qn 16 15, .i (.bin 17 .eql (.s 16) (qi 0)),qm 14 17]) (.cond (.s 14) (.seq (.ops [.i (.bld 18 [.int .i64 0, .int .i64 0, .int .i64 0, .nils, .int .i64 0, .nils, .int .i64 0, .int .i64 0, .nils, .nils, .nils, .int .i64 0, .int .i64 0, .int .i64 0, .nils, .nils, .int .i64 0, .int .i64 0, .nils, .nils, .nils, .int .i64 0, .int .i64 0, .int .i64 0, .nils, .nils, .int .i64 0, .int .i64 0, .nils, .nils, .nils, .nils, .int .i64 0, .nils, .nils, .int .i64 0, .int .i64 0, .nils, .nils, .nils, .int .i64 0, .int .i64 0, .int .i64 0, .nils, .nils] []),qs 4 4 18 45, .i (.mov 5 (qi 1))]) .ret) (.seq (.ops [qm 20 1, .i (.iad 21 (.s 20) (qi 0) 1), .i (.ldh 22 (.s 21) 1 false), .i (.cvi 23 .i64 (.s 22)),qk 25 134 23, .i (.bin 25 .eql (.s 24) (.c (.val false [.str ByteArray.empty]))),qm 19 25]) (.cond (.s 19) (.seq (.ops [.i (.bld 26 [.int .i64 0, .int .i64 0, .int .i64 0, .nils, .int .i64 0, .nils, .int .i64 0, .int .i64 0, .nils, .nils, .nils, .int .i64 0, .int .i64 0, .int .i64 0, .nils, .nils, .int .i64 0, .int .i64 0, .nils, .nils, .nils, .int .i64 0, .int .i64 0, .int .i64 0, .nils, .nils, .int .i64 0, .int .i64 0, .nils, .nils, .nils, .nils, .int .i64 0, .nils, .nils, .int .i64 0, .int .i64 0, .nils, .nils, .nils, .int .i64 0, .int .i64 0, .int .i64 0, .nils, .nils] []),qs 4 4 26 45, .i (.mov 5 (qi 8))]) .ret) .skip))))))) (.seq (.ops [qm 27 1, .i (.iad 28 (.s 27) (qi 0) 1), .i (.ldh 29 (.s 28) 1 false), .i (.cvi 30 .i64 (.s 29)), .i (.bld 31 [.int .i64 0, .int .i64 0, .int .i64 0, .nils, .int .i64 0, .nils, .int .i64 0, .int .i64 0, .nils, .nils, .nils, .int .i64 0, .int .i64 0, .int .i64 0, .nils, .nils, .int .i64 0, .int .i64 0, .nils, .nils, .nils, .int .i64 0, .int .i64 0, .int .i64 0, .nils, .nils, .int .i64 0, .int .i64 0, .nils, .nils, .nils, .nils, .int .i64 0, .nils, .nils, .int .i64 0, .int .i64 0, .nils, .nils, .nils, .int .i64 0, .int .i64 0, .int .i64 0, .nils, .nils] [(0,1,(.s 30))]), .i (.lal 6 [.int .i64 0, .int .i64 0, .int .i64 0, .nils, .int .i64 0, .nils, .int .i64 0, .int .i64 0, .nils, .nils, .nils, .int .i64 0, .int .i64 0, .int .i64 0, .nils, .nils, .int .i64 0, .int .i64 0, .nils, .nils, .nils, .int .i64 0, .int .i64 0, .int .i64 0, .nils, .nils, .int .i64 0, .int .i64 0, .nils, .nils, .nils, .nils, .int .i64 0, .nils, .nils, .int .i64 0, .int .i64 0, .nils, .nils, .nils, .int .i64 0, .int .i64 0, .int .i64 0, .nils, .nils]),qs 6 6 31 45, .i (.mov 7 (qi 0)), .i (.mov 8 (qi 0))]) (.seq (.seq (.ops [qf 32 6 0,ql 33 6 32 1 false]) (.block 1 (.seq (.ops [.i (.bin 43 .eql (.s 33) (qi 1)),qm 42 43]) (.cond (.s 42) (.ops [ql 45 2 2 5 true,qm 46 1, .i (.call 48 135 false [(.s 45),(.s 46),(qi 1)]),qm 44 47, .i (.ext 48 (.s 44) 0), .i (.ext 49 (.s 44) 1), .i (.ext 50 (.s 44) 2),qf 51 6 1,qs 6 51 48 5,qm 7 49,qm 8 50]) (.seq (.ops [.i (.bin 53 .eql (.s 33) (qi 2)),qm 52 53]) (.cond (.s 52) (.ops [ql 55 2 2 5 true,qm 56 1, .i (.call 58 136 false [(.s 55),(.s 56),(qi 1)]),qm 54 57, .i (.ext 58 (.s 54) 0), .i (.ext 59 (.s 54) 1), .i (.ext 60 (.s 54) 2),qf 61 6 6,qs 6 61 58 5,qm 7 59,qm 8 60]) (.seq (.ops [.i (.bin 63 .eql (.s 33) (qi 3)),qm 62 63]) (.cond (.s 62) (.ops [ql 65 2 2 5 true,qm 66 1, .i (.call 68 137 false [(.s 65),(.s 66),(qi 1)]),qm 64 67, .i (.ext 68 (.s 64) 0), .i (.ext 69 (.s 64) 1), .i (.ext 70 (.s 64) 2),qf 71 6 11,qs 6 71 68 10,qm 7 69,qm 8 70]) (.seq (.ops [.i (.bin 73 .eql (.s 33) (qi 4)),qm 72 73]) (.cond (.s 72) (.ops [ql 75 2 2 5 true,qm 76 1, .i (.call 78 138 false [(.s 75),(.s 76),(qi 1)]),qm 74 77, .i (.ext 78 (.s 74) 0), .i (.ext 79 (.s 74) 1), .i (.ext 80 (.s 74) 2),qf 81 6 21,qs 6 81 78 11,qm 7 79,qm 8 80]) (.seq (.ops [.i (.bin 83 .eql (.s 33) (qi 5)),qm 82 83]) (.cond (.s 82) (.ops [ql 85 2 2 5 true,qm 86 1, .i (.call 88 139 false [(.s 85),(.s 86),(qi 1)]),qm 84 87, .i (.ext 88 (.s 84) 0), .i (.ext 89 (.s 84) 1), .i (.ext 90 (.s 84) 2),qf 91 6 32,qs 6 91 88 2,qm 7 89,qm 8 90]) (.seq (.ops [.i (.bin 93 .eql (.s 33) (qi 6)),qm 92 93]) (.cond (.s 92) (.ops [ql 95 2 2 5 true,qm 96 1, .i (.call 98 140 false [(.s 95),(.s 96),(qi 1)]),qm 94 97, .i (.ext 98 (.s 94) 0), .i (.ext 99 (.s 94) 1), .i (.ext 100 (.s 94) 2),qf 101 6 34,qs 6 101 98 6,qm 7 99,qm 8 100]) (.ops [ql 35 2 2 5 true,qm 36 1, .i (.call 38 141 false [(.s 35),(.s 36),(qi 1)]),qm 34 37, .i (.ext 38 (.s 34) 0), .i (.ext 39 (.s 34) 1), .i (.ext 40 (.s 34) 2),qf 41 6 40,qs 6 41 38 5,qm 7 39,qm 8 40]))))))))))))))) (.seq (.seq (.ops [qm 102 8, .i (.bin 103 .eql (.s 102) (qi 0)),qm 104 103, .g 104 true 106 (.mov 105 (.s 7)), .g 104 true 107 (.mov 106 (.s 1)), .g 104 true 108 (.len 107 false (.s 106)), .g 104 true 109 (.bin 108 .neq (.s 105) (.s 107)), .i (.pick 109 (.s 104) (.s 108) (qb false))]) (.cond (.s 109) (.ops [.i (.mov 8 (qi 9))]) .skip)) (.seq (.seq (.ops [qm 110 8, .i (.bin 111 .neq (.s 110) (qi 0))]) (.cond (.s 111) (.seq (.ops [.i (.bld 112 [.int .i64 0, .int .i64 0, .int .i64 0, .nils, .int .i64 0, .nils, .int .i64 0, .int .i64 0, .nils, .nils, .nils, .int .i64 0, .int .i64 0, .int .i64 0, .nils, .nils, .int .i64 0, .int .i64 0, .nils, .nils, .nils, .int .i64 0, .int .i64 0, .int .i64 0, .nils, .nils, .int .i64 0, .int .i64 0, .nils, .nils, .nils, .nils, .int .i64 0, .nils, .nils, .int .i64 0, .int .i64 0, .nils, .nils, .nils, .int .i64 0, .int .i64 0, .int .i64 0, .nils, .nils] []),qm 113 8,qs 4 4 112 45,qm 5 113]) .ret) .skip)) (.seq (.ops [ql 114 6 6 45 true,qs 4 4 114 45, .i (.mov 5 (qi 0))]) .ret)))))))⟩
theorem yH:cd pU=some pG:=by kernel_rfl
theorem yq (b:Bytes) (l:ao) (hb:b.length≤1073741824):VC cd pU (bI [(true,l.c),(false,[.sl (bytes b)])]) (fun rs _=>rs=cC (dec l b)):=by
 refine VC.gV ?_
 refine aa yH rfl ?_
 simp(disch:=omega) [pG,ao.c,VZ]
 refine cI (bx l) ?_ (ha:=by first|rfl|(simp[ao.c,VY] <;>repeat' constructor))
 simp(disch:=omega) [VZ]
 by_cases hok:l.ok=true
 case neg=>rw[wA hok];simp(disch:=omega) [hok,cC,cg.o,ay,bm,gw,bh,aJ,gC,aK,bk,aH,aI,aN,ab,aE,aC,aD,VZ]
 by_cases he:b= []
 case pos=>rw[oE hok (by simp[he])];simp(disch:=omega) [hok,he,cC,cg.o,ay,bm,gw,bh,aJ,gC,aK,bk,aH,aI,aN,ab,aE,aC,aD,VZ]
 have hc:0 < b.length:=List.length_pos_iff.2 he
 have h256:b[0].toNat < 256:=UInt8.toNat_lt _
 rw[Du hok hc]
 simp(disch:=omega) [hok,he,hc,bQ hc,VZ]
 refine cI (DO b[0].toNat) ?_
 by_cases hz:b[0].toNat=0∨8≤b[0].toNat
 case pos=>
  have hz2:=(ma _).2 hz
  rw[vT hz]
  simp(disch:=omega) [hz2,cC,cg.o,ay,bm,gw,bh,aJ,gC,aK,bk,aH,aI,aN,ab,aE,aC,aD,VZ]
 have hz2:¬kindName b[0].toNat=ByteArray.empty:=fun e=>hz ((ma _).1 e)
 have hk:b[0].toNat=1∨b[0].toNat=2∨b[0].toNat=3∨b[0].toNat=4∨b[0].toNat=5∨b[0].toNat=6∨b[0].toNat=7:=by omega
 simp(disch:=omega) [hz2,hc,bQ hc,VZ]
 generalize b[0].toNat=k at hk⊢
 clear hz hz2
 rcases hk with rfl|rfl|rfl|rfl|rfl|rfl|rfl
 ·simp only[gm]
  have h0:=u5 b l 1 hok (by omega) hb
  generalize h1:eB b l ⟨1,0⟩=s1 at h0⊢
  by_cases g:s1.2.er=0
  ·simp only[bU,if_pos g,cX.o]at h0
   simp(disch:=omega) [VZ]
   refine cI (h0) ?_ (ha:=by first|rfl|(simp[ao.c,VY] <;>repeat' constructor))
   simp(disch:=omega) [VZ]
   by_cases g2:s1.2.at_=b.length
   ·simp(disch:=omega) [g2,cz,g,cC,cg.o,ay,bm,gw,bh,aJ,gC,aK,bk,aH,aI,aN,ab,aE,aC,aD,VZ]
   ·have g3:¬(s1.2.at_:Int)=(b.length:Int):=by omega
    simp(disch:=omega) [g2,g3,cz,g,cC,cg.o,ay,bm,gw,bh,aJ,gC,aK,bk,aH,aI,aN,ab,aE,aC,aD,VZ]
  ·simp only[bU,if_neg g,uW]at h0
   simp(disch:=omega) [VZ]
   refine cI (h0) ?_ (ha:=by first|rfl|(simp[ao.c,VY] <;>repeat' constructor))
   simp(disch:=omega) [g,cz,cC,cg.o,ay,bm,gw,bh,aJ,gC,aK,bk,aH,aI,aN,ab,aE,aC,aD,VZ]
 ·simp only[gm]
  have h0:=zd b l 1 hok (by omega) hb
  generalize h1:jD b l ⟨1,0⟩=s1 at h0⊢
  by_cases g:s1.2.er=0
  ·simp only[bU,if_pos g,Qc.o]at h0
   simp(disch:=omega) [VZ]
   refine cI (h0) ?_ (ha:=by first|rfl|(simp[ao.c,VY] <;>repeat' constructor))
   simp(disch:=omega) [VZ]
   by_cases g2:s1.2.at_=b.length
   ·simp(disch:=omega) [g2,cz,g,cC,cg.o,ay,bm,gw,bh,aJ,gC,aK,bk,aH,aI,aN,ab,aE,aC,aD,VZ]
   ·have g3:¬(s1.2.at_:Int)=(b.length:Int):=by omega
    simp(disch:=omega) [g2,g3,cz,g,cC,cg.o,ay,bm,gw,bh,aJ,gC,aK,bk,aH,aI,aN,ab,aE,aC,aD,VZ]
  ·simp only[bU,if_neg g,Oi]at h0
   simp(disch:=omega) [VZ]
   refine cI (h0) ?_ (ha:=by first|rfl|(simp[ao.c,VY] <;>repeat' constructor))
   simp(disch:=omega) [g,cz,cC,cg.o,ay,bm,gw,bh,aJ,gC,aK,bk,aH,aI,aN,ab,aE,aC,aD,VZ]
 ·simp only[gm]
  have h0:=vL b l 1 hok (by omega) hb
  generalize h1:bJ b l ⟨1,0⟩=s1 at h0⊢
  by_cases g:s1.2.er=0
  ·simp only[bU,if_pos g,Head.o]at h0
   simp(disch:=omega) [VZ]
   refine cI (h0) ?_ (ha:=by first|rfl|(simp[ao.c,VY] <;>repeat' constructor))
   simp(disch:=omega) [VZ]
   by_cases g2:s1.2.at_=b.length
   ·simp(disch:=omega) [g2,cz,g,cC,cg.o,ay,bm,gw,bh,aJ,gC,aK,bk,aH,aI,aN,ab,aE,aC,aD,VZ]
   ·have g3:¬(s1.2.at_:Int)=(b.length:Int):=by omega
    simp(disch:=omega) [g2,g3,cz,g,cC,cg.o,ay,bm,gw,bh,aJ,gC,aK,bk,aH,aI,aN,ab,aE,aC,aD,VZ]
  ·simp only[bU,if_neg g,Cg]at h0
   simp(disch:=omega) [VZ]
   refine cI (h0) ?_ (ha:=by first|rfl|(simp[ao.c,VY] <;>repeat' constructor))
   simp(disch:=omega) [g,cz,cC,cg.o,ay,bm,gw,bh,aJ,gC,aK,bk,aH,aI,aN,ab,aE,aC,aD,VZ]
 ·simp only[gm]
  have h0:=tA b l 1 hok (by omega) hb
  generalize h1:cm b l ⟨1,0⟩=s1 at h0⊢
  by_cases g:s1.2.er=0
  ·simp only[bU,if_pos g,Block.o]at h0
   simp(disch:=omega) [VZ]
   refine cI (h0) ?_ (ha:=by first|rfl|(simp[ao.c,VY] <;>repeat' constructor))
   simp(disch:=omega) [VZ]
   by_cases g2:s1.2.at_=b.length
   ·simp(disch:=omega) [g2,cz,g,cC,cg.o,ay,bm,gw,bh,aJ,gC,aK,bk,aH,aI,aN,ab,aE,aC,aD,VZ]
   ·have g3:¬(s1.2.at_:Int)=(b.length:Int):=by omega
    simp(disch:=omega) [g2,g3,cz,g,cC,cg.o,ay,bm,gw,bh,aJ,gC,aK,bk,aH,aI,aN,ab,aE,aC,aD,VZ]
  ·simp only[bU,if_neg g,xD]at h0
   simp(disch:=omega) [VZ]
   refine cI (h0) ?_ (ha:=by first|rfl|(simp[ao.c,VY] <;>repeat' constructor))
   simp(disch:=omega) [g,cz,cC,cg.o,ay,bm,gw,bh,aJ,gC,aK,bk,aH,aI,aN,ab,aE,aC,aD,VZ]
 ·simp only[gm]
  have h0:=y8 b l 1 hok (by omega) hb
  generalize h1:uo b l ⟨1,0⟩=s1 at h0⊢
  by_cases g:s1.2.er=0
  ·simp only[bU,if_pos g,Tc.o]at h0
   simp(disch:=omega) [VZ]
   refine cI (h0) ?_ (ha:=by first|rfl|(simp[ao.c,VY] <;>repeat' constructor))
   simp(disch:=omega) [VZ]
   by_cases g2:s1.2.at_=b.length
   ·simp(disch:=omega) [g2,cz,g,cC,cg.o,ay,bm,gw,bh,aJ,gC,aK,bk,aH,aI,aN,ab,aE,aC,aD,VZ]
   ·have g3:¬(s1.2.at_:Int)=(b.length:Int):=by omega
    simp(disch:=omega) [g2,g3,cz,g,cC,cg.o,ay,bm,gw,bh,aJ,gC,aK,bk,aH,aI,aN,ab,aE,aC,aD,VZ]
  ·simp only[bU,if_neg g,Ob]at h0
   simp(disch:=omega) [VZ]
   refine cI (h0) ?_ (ha:=by first|rfl|(simp[ao.c,VY] <;>repeat' constructor))
   simp(disch:=omega) [g,cz,cC,cg.o,ay,bm,gw,bh,aJ,gC,aK,bk,aH,aI,aN,ab,aE,aC,aD,VZ]
 ·simp only[gm]
  have h0:=tZ b l 1 hok (by omega) hb
  generalize h1:b7 b l ⟨1,0⟩=s1 at h0⊢
  by_cases g:s1.2.er=0
  ·simp only[bU,if_pos g,Proof.o]at h0
   simp(disch:=omega) [VZ]
   refine cI (h0) ?_ (ha:=by first|rfl|(simp[ao.c,VY] <;>repeat' constructor))
   simp(disch:=omega) [VZ]
   by_cases g2:s1.2.at_=b.length
   ·simp(disch:=omega) [g2,cz,g,cC,cg.o,ay,bm,gw,bh,aJ,gC,aK,bk,aH,aI,aN,ab,aE,aC,aD,VZ]
   ·have g3:¬(s1.2.at_:Int)=(b.length:Int):=by omega
    simp(disch:=omega) [g2,g3,cz,g,cC,cg.o,ay,bm,gw,bh,aJ,gC,aK,bk,aH,aI,aN,ab,aE,aC,aD,VZ]
  ·simp only[bU,if_neg g,xL]at h0
   simp(disch:=omega) [VZ]
   refine cI (h0) ?_ (ha:=by first|rfl|(simp[ao.c,VY] <;>repeat' constructor))
   simp(disch:=omega) [g,cz,cC,cg.o,ay,bm,gw,bh,aJ,gC,aK,bk,aH,aI,aN,ab,aE,aC,aD,VZ]
 ·simp only[gm]
  have h0:=vy b l 1 hok (by omega) hb
  generalize h1:ei b l ⟨1,0⟩=s1 at h0⊢
  by_cases g:s1.2.er=0
  ·simp only[bU,if_pos g,ck.o]at h0
   simp(disch:=omega) [VZ]
   refine cI (h0) ?_ (ha:=by first|rfl|(simp[ao.c,VY] <;>repeat' constructor))
   simp(disch:=omega) [VZ]
   by_cases g2:s1.2.at_=b.length
   ·simp(disch:=omega) [g2,cz,g,cC,cg.o,ay,bm,gw,bh,aJ,gC,aK,bk,aH,aI,aN,ab,aE,aC,aD,VZ]
   ·have g3:¬(s1.2.at_:Int)=(b.length:Int):=by omega
    simp(disch:=omega) [g2,g3,cz,g,cC,cg.o,ay,bm,gw,bh,aJ,gC,aK,bk,aH,aI,aN,ab,aE,aC,aD,VZ]
  ·simp only[bU,if_neg g,Cw]at h0
   simp(disch:=omega) [VZ]
   refine cI (h0) ?_ (ha:=by first|rfl|(simp[ao.c,VY] <;>repeat' constructor))
   simp(disch:=omega) [g,cz,cC,cg.o,ay,bm,gw,bh,aJ,gC,aK,bk,aH,aI,aN,ab,aE,aC,aD,VZ]
abbrev gz:Nat:=79
def jf:AF:=⟨2,7,[.cell 4 45 true, .tmp 5],(.seq (.ops [.i (.lbox 2 (.s 0)), .i (.lal 4 [.int .i64 0, .int .i64 0, .int .i64 0, .nils, .int .i64 0, .nils, .int .i64 0, .int .i64 0, .nils, .nils, .nils, .int .i64 0, .int .i64 0, .int .i64 0, .nils, .nils, .int .i64 0, .int .i64 0, .nils, .nils, .nils, .int .i64 0, .int .i64 0, .int .i64 0, .nils, .nils, .int .i64 0, .int .i64 0, .nils, .nils, .nils, .nils, .int .i64 0, .nils, .nils, .int .i64 0, .int .i64 0, .nils, .nils, .nils, .int .i64 0, .int .i64 0, .int .i64 0, .nils, .nils]), .i (.mov 5 (qi 0))]) (.seq (.seq (.ops [ql 11 2 2 5 true,qk 13 66 11, .i (.not 13 (.s 12))]) (.cond (.s 13) (.seq (.ops [.i (.bld 14 [.int .i64 0, .int .i64 0, .int .i64 0, .nils, .int .i64 0, .nils, .int .i64 0, .int .i64 0, .nils, .nils, .nils, .int .i64 0, .int .i64 0, .int .i64 0, .nils, .nils, .int .i64 0, .int .i64 0, .nils, .nils, .nils, .int .i64 0, .int .i64 0, .int .i64 0, .nils, .nils, .int .i64 0, .int .i64 0, .nils, .nils, .nils, .nils, .int .i64 0, .nils, .nils, .int .i64 0, .int .i64 0, .nils, .nils, .nils, .int .i64 0, .int .i64 0, .int .i64 0, .nils, .nils] []),qs 4 4 14 45, .i (.mov 5 (qi 5))]) .ret) .skip)) (.seq (.seq (.ops [qm 15 1,qn 16 15, .i (.bin 17 .eql (.s 16) (qi 0))]) (.cond (.s 17) (.seq (.ops [.i (.bld 18 [.int .i64 0, .int .i64 0, .int .i64 0, .nils, .int .i64 0, .nils, .int .i64 0, .int .i64 0, .nils, .nils, .nils, .int .i64 0, .int .i64 0, .int .i64 0, .nils, .nils, .int .i64 0, .int .i64 0, .nils, .nils, .nils, .int .i64 0, .int .i64 0, .int .i64 0, .nils, .nils, .int .i64 0, .int .i64 0, .nils, .nils, .nils, .nils, .int .i64 0, .nils, .nils, .int .i64 0, .int .i64 0, .nils, .nils, .nils, .int .i64 0, .int .i64 0, .int .i64 0, .nils, .nils] []),qs 4 4 18 45, .i (.mov 5 (qi 1))]) .ret) .skip)) (.seq (.ops [qm 19 1, .i (.iad 20 (.s 19) (qi 0) 1), .i (.ldh 21 (.s 20) 1 false), .i (.cvi 22 .i64 (.s 21)), .i (.bld 23 [.int .i64 0, .int .i64 0, .int .i64 0, .nils, .int .i64 0, .nils, .int .i64 0, .int .i64 0, .nils, .nils, .nils, .int .i64 0, .int .i64 0, .int .i64 0, .nils, .nils, .int .i64 0, .int .i64 0, .nils, .nils, .nils, .int .i64 0, .int .i64 0, .int .i64 0, .nils, .nils, .int .i64 0, .int .i64 0, .nils, .nils, .nils, .nils, .int .i64 0, .nils, .nils, .int .i64 0, .int .i64 0, .nils, .nils, .nils, .int .i64 0, .int .i64 0, .int .i64 0, .nils, .nils] [(0,1,(.s 22))]), .i (.lal 6 [.int .i64 0, .int .i64 0, .int .i64 0, .nils, .int .i64 0, .nils, .int .i64 0, .int .i64 0, .nils, .nils, .nils, .int .i64 0, .int .i64 0, .int .i64 0, .nils, .nils, .int .i64 0, .int .i64 0, .nils, .nils, .nils, .int .i64 0, .int .i64 0, .int .i64 0, .nils, .nils, .int .i64 0, .int .i64 0, .nils, .nils, .nils, .nils, .int .i64 0, .nils, .nils, .int .i64 0, .int .i64 0, .nils, .nils, .nils, .int .i64 0, .int .i64 0, .int .i64 0, .nils, .nils]),qs 6 6 23 45]) (.seq (.ops [ql 24 2 2 5 true,qm 25 1, .i (.call 27 124 false [(.s 24),(.s 25),(qi 1)]),qm 7 26]) (.seq (.seq (.ops [qf 27 6 0,ql 28 6 27 1 false]) (.block 0 (.seq (.ops [.i (.bin 33 .eql (.s 28) (qi 1)),qm 32 33]) (.cond (.s 32) (.seq (.ops [ql 35 2 2 5 true,qm 36 1, .i (.call 38 125 false [(.s 35),(.s 36),(qi 1)]),qm 34 37, .i (.ext 38 (.s 34) 0), .i (.ext 39 (.s 34) 1), .i (.ext 40 (.s 34) 2), .i (.lal 8 [.int .i64 0, .int .i64 0, .nils, .int .i64 0, .nils]),qs 8 8 38 5,qm 9 39,qm 10 40]) (.seq (.ops [ql 41 8 8 5 true,qf 42 6 1,qs 6 42 41 5]) (.seq (.ops [qm 43 7,qm 44 9, .i (.nch 45 (.s 43)),qf 46 45 1, .i (.sth (.s 46) (.s 44) 1)]) (.ops [qm 47 7,qm 48 10, .i (.nch 49 (.s 47)),qf 50 49 2, .i (.sth (.s 50) (.s 48) 1)])))) (.seq (.ops [.i (.bin 52 .eql (.s 28) (qi 2)),qm 51 52]) (.cond (.s 51) (.ops [qm 53 7,ql 54 2 2 5 true, .i (.call 56 126 false [(.s 53),(.s 54)]),qf 56 6 6,qs 6 56 55 5]) (.seq (.ops [.i (.bin 58 .eql (.s 28) (qi 3)),qm 57 58]) (.cond (.s 57) (.ops [qm 59 7,ql 60 2 2 5 true, .i (.call 62 127 false [(.s 59),(.s 60)]),qf 62 6 11,qs 6 62 61 10]) (.seq (.ops [.i (.bin 64 .eql (.s 28) (qi 4)),qm 63 64]) (.cond (.s 63) (.ops [qm 65 7,ql 66 2 2 5 true, .i (.call 68 128 false [(.s 65),(.s 66)]),qf 68 6 21,qs 6 68 67 11]) (.seq (.ops [.i (.bin 70 .eql (.s 28) (qi 5)),qm 69 70]) (.cond (.s 69) (.ops [qm 71 7,ql 72 2 2 5 true, .i (.call 74 129 false [(.s 71),(.s 72)]),qf 74 6 32,qs 6 74 73 2]) (.seq (.ops [.i (.bin 76 .eql (.s 28) (qi 6)),qm 75 76]) (.cond (.s 75) (.ops [qm 77 7,ql 78 2 2 5 true, .i (.call 80 130 false [(.s 77),(.s 78)]),qf 80 6 34,qs 6 80 79 6]) (.seq (.ops [.i (.bin 82 .eql (.s 28) (qi 7)),qm 81 82]) (.cond (.s 81) (.ops [qm 83 7,ql 84 2 2 5 true, .i (.call 86 131 false [(.s 83),(.s 84)]),qf 86 6 40,qs 6 86 85 5]) (.ops [qm 29 7, .i (.nch 30 (.s 29)),qf 31 30 2, .i (.sth (.s 31) (qi 8) 1)]))))))))))))))))) (.seq (.ops [qm 87 7,qm 88 7, .i (.nch 89 (.s 88)),qf 90 89 1, .i (.ldh 91 (.s 90) 1 false),qm 92 1,qn 93 92,qd 94 .neq 91 93, .i (.call 96 132 false [(.s 87),(.s 94),(qi 9)])]) (.seq (.seq (.ops [qm 96 7, .i (.nch 97 (.s 96)),qf 98 97 2, .i (.ldh 99 (.s 98) 1 false), .i (.bin 100 .neq (.s 99) (qi 0))]) (.cond (.s 100) (.seq (.ops [.i (.bld 101 [.int .i64 0, .int .i64 0, .int .i64 0, .nils, .int .i64 0, .nils, .int .i64 0, .int .i64 0, .nils, .nils, .nils, .int .i64 0, .int .i64 0, .int .i64 0, .nils, .nils, .int .i64 0, .int .i64 0, .nils, .nils, .nils, .int .i64 0, .int .i64 0, .int .i64 0, .nils, .nils, .int .i64 0, .int .i64 0, .nils, .nils, .nils, .nils, .int .i64 0, .nils, .nils, .int .i64 0, .int .i64 0, .nils, .nils, .nils, .int .i64 0, .int .i64 0, .int .i64 0, .nils, .nils] []),qm 102 7, .i (.nch 103 (.s 102)),qf 104 103 2, .i (.ldh 105 (.s 104) 1 false),qs 4 4 101 45,qm 5 105]) .ret) .skip)) (.seq (.ops [ql 106 6 6 45 true,qs 4 4 106 45, .i (.mov 5 (qi 0))]) .ret)))))))))⟩
theorem pJ:cd gz=some jf:=by kernel_rfl
theorem jg (b:Bytes) (l:ao) (hb:b.length≤1073741824) (hq:l.ok=true→∀h:0 < b.length,b[0].toNat≤3∨8≤b[0].toNat):VC cd gz (bI [(true,l.c),(false,[.sl (bytes b)])]) (fun rs _=>rs=cC (dec l b)):=by
 refine VC.gV ?_
 refine aa pJ rfl ?_
 simp(disch:=omega) [jf,ao.c,VZ]
 refine cI (dH l) ?_ (ha:=by first|rfl|(simp[ao.c,VY] <;>repeat' constructor))
 simp(disch:=omega) [VZ]
 by_cases hok:l.ok=true
 case neg=>rw[wA hok];simp(disch:=omega) [hok,cC,cg.o,ay,bm,gw,bh,aJ,gC,aK,bk,aH,aI,aN,ab,aE,aC,aD,VZ]
 by_cases he:b= []
 case pos=>rw[oE hok (by simp[he])];simp(disch:=omega) [hok,he,cC,cg.o,ay,bm,gw,bh,aJ,gC,aK,bk,aH,aI,aN,ab,aE,aC,aD,VZ]
 have hc:0 < b.length:=List.length_pos_iff.2 he
 have h256:b[0].toNat < 256:=UInt8.toNat_lt _
 rw[Du hok hc]
 have hr:Rd.wf b ⟨1,0⟩:=⟨by simp only;omega,by simp⟩
 simp(disch:=omega) [hok,he,hc,bQ hc,VZ]
 refine Pe (tu b l 1) ?_ (ha:=by first|rfl|(simp[ao.c,VY] <;>repeat' constructor))
 simp(disch:=omega) [hok,au,AK,VZ]
 replace hq:=hq hok hc
 by_cases hz:b[0].toNat=0∨8≤b[0].toNat
 case pos=>
  rw[vT hz]
  generalize b[0].toNat=k at hz h256⊢
  have n1:¬(k:Int)=1:=by omega
  have n2:¬(k:Int)=2:=by omega
  have n3:¬(k:Int)=3:=by omega
  have n4:¬(k:Int)=4:=by omega
  have n5:¬(k:Int)=5:=by omega
  have n6:¬(k:Int)=6:=by omega
  have n7:¬(k:Int)=7:=by omega
  simp(disch:=omega) [n1,n2,n3,n4,n5,n6,n7,VZ]
  refine bG (az b ⟨1,8⟩ (!decide ((1:Int)=(b.length:Int))) 9) ?_
  simp(disch:=omega) [aw,au,cC,cg.o,ay,bm,gw,bh,aJ,gC,aK,bk,aH,aI,aN,ab,aE,aC,aD,VZ]
 have hk:b[0].toNat=1∨b[0].toNat=2∨b[0].toNat=3:=by omega
 generalize b[0].toNat=k at hk⊢
 clear hz
 rcases hk with rfl|rfl|rfl
 ·simp only[gm]
  have h0:=vu b l 1 hok (by omega) hb
  generalize h1:eB b l ⟨1,0⟩=s1 at h0⊢
  obtain⟨x,⟨qa,qe⟩⟩:=s1
  by_cases g:qe=0
  ·subst g
   simp(disch:=omega) [VZ]
   simp only[bU,if_true,cX.o]at h0
   refine cI (h0) ?_ (ha:=by first|rfl|(simp[ao.c,VY] <;>repeat' constructor))
   simp(disch:=omega) [VZ]
   refine bG (az b ⟨qa,0⟩ (!decide ((qa:Int)=(b.length:Int))) 9) ?_
   by_cases g2:qa=b.length
   ·simp(disch:=omega) [aw,g2,au,cz,cC,cg.o,ay,bm,gw,bh,aJ,gC,aK,bk,aH,aI,aN,ab,aE,aC,aD,VZ]
   ·have g3:¬(qa:Int)=(b.length:Int):=by omega
    simp(disch:=omega) [aw,g2,g3,au,cz,cC,cg.o,ay,bm,gw,bh,aJ,gC,aK,bk,aH,aI,aN,ab,aE,aC,aD,VZ]
  ·skip
   simp(disch:=omega) [VZ]
   simp only[bU,if_neg,g,uW]at h0
   refine cI (h0) ?_ (ha:=by first|rfl|(simp[ao.c,VY] <;>repeat' constructor))
   simp(disch:=omega) [VZ]
   refine bG (az b ⟨0,qe⟩ (!decide ((0:Int)=(b.length:Int))) 9) ?_
   simp(disch:=omega) [aw,g,au,cz,cC,cg.o,ay,bm,gw,bh,aJ,gC,aK,bk,aH,aI,aN,ab,aE,aC,aD,VZ]
 ·simp only[gm]
  have h0:=jB b l ⟨1,0⟩ (dw hok).1 hr hb
  generalize h1:jD b l ⟨1,0⟩=s1 at h0⊢
  obtain⟨x,⟨qa,qe⟩⟩:=s1
  by_cases g:qe=0
  ·subst g
   simp(disch:=omega) [VZ]
   refine bG (h0) ?_ (n1:=by simp(disch:=omega) [Qc.o,VZ]) (n3:=by simp(disch:=omega) [Qc.o,VZ])
   simp(disch:=omega) [au,Qc.o,VZ]
   refine bG (az b ⟨qa,0⟩ (!decide ((qa:Int)=(b.length:Int))) 9) ?_
   by_cases g2:qa=b.length
   ·simp(disch:=omega) [aw,g2,au,cz,cC,cg.o,ay,bm,gw,bh,aJ,gC,aK,bk,aH,aI,aN,ab,aE,aC,aD,VZ]
   ·have g3:¬(qa:Int)=(b.length:Int):=by omega
    simp(disch:=omega) [aw,g2,g3,au,cz,cC,cg.o,ay,bm,gw,bh,aJ,gC,aK,bk,aH,aI,aN,ab,aE,aC,aD,VZ]
  ·skip
   simp(disch:=omega) [VZ]
   refine bG (h0) ?_ (n1:=by simp(disch:=omega) [Qc.o,VZ]) (n3:=by simp(disch:=omega) [Qc.o,VZ])
   simp(disch:=omega) [au,Qc.o,VZ]
   refine bG (az b ⟨qa,qe⟩ (!decide ((qa:Int)=(b.length:Int))) 9) ?_
   simp(disch:=omega) [aw,g,au,cz,cC,cg.o,ay,bm,gw,bh,aJ,gC,aK,bk,aH,aI,aN,ab,aE,aC,aD,VZ]
 ·simp only[gm]
  have h0:=tU b l ⟨1,0⟩ (dw hok).1 hr hb
  generalize h1:bJ b l ⟨1,0⟩=s1 at h0⊢
  obtain⟨x,⟨qa,qe⟩⟩:=s1
  by_cases g:qe=0
  ·subst g
   simp(disch:=omega) [VZ]
   refine bG (h0) ?_ (n1:=by simp(disch:=omega) [Head.o,VZ]) (n3:=by simp(disch:=omega) [Head.o,VZ])
   simp(disch:=omega) [au,Head.o,VZ]
   refine bG (az b ⟨qa,0⟩ (!decide ((qa:Int)=(b.length:Int))) 9) ?_
   by_cases g2:qa=b.length
   ·simp(disch:=omega) [aw,g2,au,cz,cC,cg.o,ay,bm,gw,bh,aJ,gC,aK,bk,aH,aI,aN,ab,aE,aC,aD,VZ]
   ·have g3:¬(qa:Int)=(b.length:Int):=by omega
    simp(disch:=omega) [aw,g2,g3,au,cz,cC,cg.o,ay,bm,gw,bh,aJ,gC,aK,bk,aH,aI,aN,ab,aE,aC,aD,VZ]
  ·skip
   simp(disch:=omega) [VZ]
   refine bG (h0) ?_ (n1:=by simp(disch:=omega) [Head.o,VZ]) (n3:=by simp(disch:=omega) [Head.o,VZ])
   simp(disch:=omega) [au,Head.o,VZ]
   refine bG (az b ⟨qa,qe⟩ (!decide ((qa:Int)=(b.length:Int))) 9) ?_
   simp(disch:=omega) [aw,g,au,cz,cC,cg.o,ay,bm,gw,bh,aJ,gC,aK,bk,aH,aI,aN,ab,aE,aC,aD,VZ]
theorem zk (b:Bytes) (l:ao) (hb:b.length≤1073741824) (hok:l.ok=true) (hc:0 < b.length) (hq:4≤b[0].toNat∧b[0].toNat≤7):VC cd gz (bI [(true,l.c),(false,[.sl (bytes b)])]) (fun rs _=>rs=cC (dec l b)):=by
 refine VC.gV ?_
 refine aa pJ rfl ?_
 simp(disch:=omega) [jf,ao.c,VZ]
 refine cI (dH l) ?_ (ha:=by first|rfl|(simp[ao.c,VY] <;>repeat' constructor))
 simp(disch:=omega) [VZ]
 have he:b≠ []:=List.length_pos_iff.1 hc
 have h256:b[0].toNat < 256:=UInt8.toNat_lt _
 rw[Du hok hc]
 have hr:Rd.wf b ⟨1,0⟩:=⟨by simp only;omega,by simp⟩
 simp(disch:=omega) [hok,he,hc,bQ hc,VZ]
 refine Pe (tu b l 1) ?_ (ha:=by first|rfl|(simp[ao.c,VY] <;>repeat' constructor))
 simp(disch:=omega) [hok,au,AK,VZ]
 have hk:b[0].toNat=4∨b[0].toNat=5∨b[0].toNat=6∨b[0].toNat=7:=by omega
 generalize b[0].toNat=k at hk⊢
 rcases hk with rfl|rfl|rfl|rfl
 ·simp only[gm]
  have h0:=GA b l ⟨1,0⟩ (dw hok) hr hb
  generalize h1:cm b l ⟨1,0⟩=s1 at h0⊢
  obtain⟨x,⟨qa,qe⟩⟩:=s1
  by_cases g:qe=0
  ·subst g
   simp(disch:=omega) [VZ]
   refine bG (h0) ?_ (n1:=by simp(disch:=omega) [Block.o,VZ]) (n3:=by simp(disch:=omega) [Block.o,VZ])
   simp(disch:=omega) [au,Block.o,VZ]
   refine bG (az b ⟨qa,0⟩ (!decide ((qa:Int)=(b.length:Int))) 9) ?_
   by_cases g2:qa=b.length
   ·simp(disch:=omega) [aw,g2,au,cz,cC,cg.o,ay,bm,gw,bh,aJ,gC,aK,bk,aH,aI,aN,ab,aE,aC,aD,VZ]
   ·have g3:¬(qa:Int)=(b.length:Int):=by omega
    simp(disch:=omega) [aw,g2,g3,au,cz,cC,cg.o,ay,bm,gw,bh,aJ,gC,aK,bk,aH,aI,aN,ab,aE,aC,aD,VZ]
  ·skip
   simp(disch:=omega) [VZ]
   refine bG (h0) ?_ (n1:=by simp(disch:=omega) [Block.o,VZ]) (n3:=by simp(disch:=omega) [Block.o,VZ])
   simp(disch:=omega) [au,Block.o,VZ]
   refine bG (az b ⟨qa,qe⟩ (!decide ((qa:Int)=(b.length:Int))) 9) ?_
   simp(disch:=omega) [aw,g,au,cz,cC,cg.o,ay,bm,gw,bh,aJ,gC,aK,bk,aH,aI,aN,ab,aE,aC,aD,VZ]
 ·simp only[gm]
  have h0:=GD b l ⟨1,0⟩ (dw hok) hr hb
  generalize h1:uo b l ⟨1,0⟩=s1 at h0⊢
  obtain⟨x,⟨qa,qe⟩⟩:=s1
  by_cases g:qe=0
  ·subst g
   simp(disch:=omega) [VZ]
   refine bG (h0) ?_ (n1:=by simp(disch:=omega) [Tc.o,VZ]) (n3:=by simp(disch:=omega) [Tc.o,VZ])
   simp(disch:=omega) [au,Tc.o,VZ]
   refine bG (az b ⟨qa,0⟩ (!decide ((qa:Int)=(b.length:Int))) 9) ?_
   by_cases g2:qa=b.length
   ·simp(disch:=omega) [aw,g2,au,cz,cC,cg.o,ay,bm,gw,bh,aJ,gC,aK,bk,aH,aI,aN,ab,aE,aC,aD,VZ]
   ·have g3:¬(qa:Int)=(b.length:Int):=by omega
    simp(disch:=omega) [aw,g2,g3,au,cz,cC,cg.o,ay,bm,gw,bh,aJ,gC,aK,bk,aH,aI,aN,ab,aE,aC,aD,VZ]
  ·skip
   simp(disch:=omega) [VZ]
   refine bG (h0) ?_ (n1:=by simp(disch:=omega) [Tc.o,VZ]) (n3:=by simp(disch:=omega) [Tc.o,VZ])
   simp(disch:=omega) [au,Tc.o,VZ]
   refine bG (az b ⟨qa,qe⟩ (!decide ((qa:Int)=(b.length:Int))) 9) ?_
   simp(disch:=omega) [aw,g,au,cz,cC,cg.o,ay,bm,gw,bh,aJ,gC,aK,bk,aH,aI,aN,ab,aE,aC,aD,VZ]
 ·simp only[gm]
  have h0:=GN b l ⟨1,0⟩ (dw hok) hr hb
  generalize h1:b7 b l ⟨1,0⟩=s1 at h0⊢
  obtain⟨x,⟨qa,qe⟩⟩:=s1
  by_cases g:qe=0
  ·subst g
   simp(disch:=omega) [VZ]
   refine bG (h0) ?_ (n1:=by simp(disch:=omega) [Proof.o,VZ]) (n3:=by simp(disch:=omega) [Proof.o,VZ])
   simp(disch:=omega) [au,Proof.o,VZ]
   refine bG (az b ⟨qa,0⟩ (!decide ((qa:Int)=(b.length:Int))) 9) ?_
   by_cases g2:qa=b.length
   ·simp(disch:=omega) [aw,g2,au,cz,cC,cg.o,ay,bm,gw,bh,aJ,gC,aK,bk,aH,aI,aN,ab,aE,aC,aD,VZ]
   ·have g3:¬(qa:Int)=(b.length:Int):=by omega
    simp(disch:=omega) [aw,g2,g3,au,cz,cC,cg.o,ay,bm,gw,bh,aJ,gC,aK,bk,aH,aI,aN,ab,aE,aC,aD,VZ]
  ·skip
   simp(disch:=omega) [VZ]
   refine bG (h0) ?_ (n1:=by simp(disch:=omega) [Proof.o,VZ]) (n3:=by simp(disch:=omega) [Proof.o,VZ])
   simp(disch:=omega) [au,Proof.o,VZ]
   refine bG (az b ⟨qa,qe⟩ (!decide ((qa:Int)=(b.length:Int))) 9) ?_
   simp(disch:=omega) [aw,g,au,cz,cC,cg.o,ay,bm,gw,bh,aJ,gC,aK,bk,aH,aI,aN,ab,aE,aC,aD,VZ]
 ·simp only[gm]
  obtain⟨j1,j2⟩:=EY b l ⟨1,0⟩
  have h0:=yF b l ⟨1,0⟩ (dw hok) hr hb
  rw[j1]
  generalize h1:kC b l ⟨1,0⟩=s1 at h0 j2⊢
  obtain⟨x,⟨qa,qe⟩⟩:=s1
  simp only at j2
  by_cases g:qe=0
  ·subst g
   simp(disch:=omega) [VZ]
   refine bG (h0) ?_ (n1:=by simp(disch:=omega) [ck.o,VZ]) (n3:=by simp(disch:=omega) [ck.o,VZ])
   simp(disch:=omega) [au,ck.o,VZ]
   rw[j2 rfl]
   refine bG (az b ⟨qa,0⟩ (!decide ((qa:Int)=(b.length:Int))) 9) ?_
   by_cases g2:qa=b.length
   ·simp(disch:=omega) [aw,g2,au,cz,cC,cg.o,ay,bm,gw,bh,aJ,gC,aK,bk,aH,aI,aN,ab,aE,aC,aD,VZ]
   ·have g3:¬(qa:Int)=(b.length:Int):=by omega
    simp(disch:=omega) [aw,g2,g3,au,cz,cC,cg.o,ay,bm,gw,bh,aJ,gC,aK,bk,aH,aI,aN,ab,aE,aC,aD,VZ]
  ·skip
   simp(disch:=omega) [VZ]
   refine bG (h0) ?_ (n1:=by simp(disch:=omega) [ck.o,VZ]) (n3:=by simp(disch:=omega) [ck.o,VZ])
   simp(disch:=omega) [au,ck.o,VZ]
   refine bG (az b ⟨qa,qe⟩ (!decide ((qa:Int)=(b.length:Int))) 9) ?_
   simp(disch:=omega) [aw,g,au,cz,cC,cg.o,ay,bm,gw,bh,aJ,gC,aK,bk,aH,aI,aN,ab,aE,aC,aD,VZ]
theorem wU (b:Bytes) (l:ao) (hb:b.length≤1073741824):VC cd gz (bI [(true,l.c),(false,[.sl (bytes b)])]) (fun rs _=>rs=cC (dec l b)):=by
 by_cases hok:l.ok=true
 ·by_cases hc:0 < b.length
  ·by_cases hq:4≤b[0].toNat∧b[0].toNat≤7
   ·exact zk b l hb hok hc hq
   ·exact jg b l hb (fun _ _=>by omega)
  ·exact jg b l hb (fun _ h=>absurd h hc)
 ·exact jg b l hb (fun h=>absurd h hok)
end Go.Eng.F
namespace Go.Eng.F
theorem NL.wc {q:Qc} (h:NL q):q.wc:=by
 have h1:=eM h.view
 have h2:=eM h.height
 have h3:=h.block
 have h4:=h.bits
 have h5:=h.tags
 refine⟨⟨⟨by omega,by omega⟩,⟨by omega,by omega⟩,?_,?_,?_⟩,fun x hx=> ?_⟩ <;>unfold Sz
 ·omega
 ·omega
 ·omega
 ·have:=h.tag x hx;omega
end Go.Eng.F
namespace Go.Eng.F
end Go.Eng.F
namespace Go.Eng.F
structure Ev where
 kind:Int
 n:Int
 msg:cg
def Ev.c (e:Ev):List D:= .int .i64 e.kind:: .int .i64 e.n::e.msg.c
def yz (l:List Ev):List (List D):=l.map Ev.c
theorem wq (l:List Ev):(yz l).length=l.length:=by simp[yz]
theorem Fo:yz []= []:=rfl
theorem vV (l:List Ev) (k n:Int) (m:cg):yz l++ [[.int .i64 k, .int .i64 n, .int .i64 m.kind, .int .i64 m.vote.view, .int .i64 m.vote.height, .sl (bytes m.vote.block), .int .i64 m.vote.who, .sl (bytes m.vote.tag), .int .i64 m.qc.view, .int .i64 m.qc.height, .sl (bytes m.qc.block), .sl (bytes m.qc.bits), .sl (dN m.qc.tags), .int .i64 m.head.view, .int .i64 m.head.height, .int .i64 m.head.proposer, .sl (bytes m.head.parent), .sl (bytes m.head.root), .int .i64 m.head.qc.view, .int .i64 m.head.qc.height, .sl (bytes m.head.qc.block), .sl (bytes m.head.qc.bits), .sl (dN m.head.qc.tags), .int .i64 m.block.head.view, .int .i64 m.block.head.height, .int .i64 m.block.head.proposer, .sl (bytes m.block.head.parent), .sl (bytes m.block.head.root), .int .i64 m.block.head.qc.view, .int .i64 m.block.head.qc.height, .sl (bytes m.block.head.qc.block), .sl (bytes m.block.head.qc.bits), .sl (dN m.block.head.qc.tags), .sl (dN m.block.txs), .int .i64 m.tc.view, .sl (zY m.tc.entries), .sl (ud m.proof.heads), .int .i64 m.proof.qc.view, .int .i64 m.proof.qc.height, .sl (bytes m.proof.qc.block), .sl (bytes m.proof.qc.bits), .sl (dN m.proof.qc.tags), .int .i64 m.incl.height, .int .i64 m.incl.n, .int .i64 m.incl.idx, .sl (bytes m.incl.tx), .sl (dN m.incl.path)]]=yz (l++ [⟨k,n,m⟩]):=by simp[yz,Ev.c,cg.c]
theorem mh (l:List Ev) (k n:Int):yz l++ [[.int .i64 k, .int .i64 n, .int .i64 0, .int .i64 0, .int .i64 0, .sl [], .int .i64 0, .sl [], .int .i64 0, .int .i64 0, .sl [], .sl [], .sl [], .int .i64 0, .int .i64 0, .int .i64 0, .sl [], .sl [], .int .i64 0, .int .i64 0, .sl [], .sl [], .sl [], .int .i64 0, .int .i64 0, .int .i64 0, .sl [], .sl [], .int .i64 0, .int .i64 0, .sl [], .sl [], .sl [], .sl [], .int .i64 0, .sl [], .sl [], .int .i64 0, .int .i64 0, .sl [], .sl [], .sl [], .int .i64 0, .int .i64 0, .int .i64 0, .sl [], .sl []]]=yz (l++ [⟨k,n,ay⟩]):=by simp[yz,Ev.c,cg.c,ay,bm,gw,bh,aJ,gC,aK,bk,bytes,dN,ud,zY]
def dr (s:Bytes) (a n:Nat):Bytes:=(s.drop (a+8)).take (n - 8)
def c5 (k:Nat):List Ev:=if k=0 then []else [⟨1,k,ay⟩]
def ky (l:ao) (d:Bytes):Ev:=if(dec l d).2=0 then⟨3,0,(dec l d).1⟩else⟨2,(dec l d).2,ay⟩
def dq (l:ao) (s:Bytes) (cl:Bool):Nat→Nat→Nat→List Ev→List Ev×Nat×Nat
 |0,a,k,e=>(e,k,a)
 |g+1,a,k,e=>
  if a < s.length then
   if(av l s a).1=1∧cl=false then(e,k,a)
   else if(av l s a).1≠3 then dq l s cl g (a+1) (k+1) e
   else dq l s cl g (a+(av l s a).2.toNat) 0 (e++(c5 k++ [ky l (dr s a (av l s a).2.toNat)]))
  else(e,k,a)
def dE (l:ao) (s:Bytes) (cl:Bool) (k:Nat):List Ev×Nat×Nat:=
 let r:=dq l s cl s.length 0 k []
 (r.1++(if cl=true then c5 r.2.1 else []),r.2)
theorem zw {l:ao} {s:Bytes} {cl:Bool} {g a k:Nat} {e:List Ev} (h:¬a < s.length):dq l s cl g a k e=(e,k,a):=by
 cases g
 ·rfl
 ·rw[dq,if_neg h]
theorem fG {l:ao} {s:Bytes} {a:Nat} (h:(av l s a).1=3):∃n:Nat,av l s a=(3,(n:Int))∧9≤n∧a+n≤s.length∧l.ok=true:=by
 unfold av at h⊢
 split at h
 ·rename_i h1
  rw[if_pos h1]
  split at h
  ·rename_i h2
   rw[if_pos h2]
   split at h
   ·simp at h
   ·rename_i h3
    rw[if_neg h3]
    split at h
    ·simp at h
    ·rename_i h4
     rw[if_neg h4]
     split at h
     ·simp at h
     ·rename_i h5
      rw[if_neg h5]
      split at h
      ·simp at h
      ·rename_i h6
       rw[if_neg h6]
       split at h
       ·rename_i h7
        rw[if_pos h7]
        have h8:dK (ra s a) 1 l.frame=true:=by simpa using h5
        have h9:=eM h8
        exact⟨8+ra s a,by simp,by omega,by omega,h1.1⟩
       ·simp at h
  ·simp at h
 ·simp at h
theorem qI (l:ao) (s:Bytes) (a:Nat):(av l s a).1=0∨(av l s a).1=1∨(av l s a).1=2∨(av l s a).1=3:=by
 unfold av
 repeat' split
 all_goals simp
theorem tL {s:Bytes} {a n:Nat}:(dr s a n).length≤s.length:=by simp[dr];omega
abbrev js:Nat:=82
def jQ:AF:=⟨3,5,[.tmp 6, .tmp 7],(.seq (.ops [.i (.lbox 3 (.s 0)), .i (.mov 6 (.c (.val false [.nils]))), .i (.mov 7 (qb false))]) (.seq (.ops [ql 11 3 3 5 true,qm 12 1,qm 13 2, .i (.call 15 80 false [(.s 11),(.s 12),(.s 13)]),qm 10 14, .i (.ext 15 (.s 10) 0), .i (.ext 16 (.s 10) 1),qm 8 15,qm 9 16]) (.seq (.seq (.ops [qm 17 8, .i (.bin 18 .neq (.s 17) (qi 3))]) (.cond (.s 18) (.seq (.ops [.i (.mov 6 (.c (.val false [.nils]))), .i (.mov 7 (qb false))]) .ret) .skip)) (.seq (.ops [qm 19 1,qm 20 2, .i (.bin 21 .add (.s 20) (qi 8)),qm 22 2,qm 23 9,qd 24 .add 22 23, .i (.eQ 25 1 (.s 19) (some (.s 21)) (some (.s 24))),qk 27 47 25,qm 6 26, .i (.mov 7 (qb true))]) .ret))))⟩
theorem uG:cd js=some jQ:=by kernel_rfl
theorem nK (l:ao) (s:Bytes) (a n:Nat) (hs:s.length≤1073741824) (h:av l s a=(3,(n:Int))) (h9:9≤n) (hn:a+n≤s.length):VC cd js (bI [(true,l.c),(false,[.sl (bytes s)]),(false,[.int .i64 (a:Int)])]) (fun rs _=>rs= [(false,[.o true (some (5,1)) (bytes (dr s a n))]),(false,[.p (.bool true)])]):=by
 have h0:=gR l s a hs (by omega)
 rw[h]at h0
 simp only[cu]at h0
 have e1:List.take ((a:Int)+(n:Int) - ((a:Int)+8)).toNat (List.drop ((a:Int)+8).toNat (bytes s))=bytes (dr s a n):=by
  rw[show((a:Int)+8).toNat=a+8 by omega,show((a:Int)+(n:Int) - ((a:Int)+8)).toNat=n - 8 by omega,dr]
  simp only[bytes,←List.map_take,←List.map_drop]
 have f1:0≤(a:Int)+8:=by omega
 have f2:8≤(n:Int):=by omega
 have f3:(a:Int)+(n:Int)≤(s.length:Int):=by omega
 refine aa uG rfl ?_
 simp(disch:=omega) [jQ,ao.c,VY]
 refine cI (h0) ?_ (ha:=by first|rfl|(simp[ao.c,VY] <;>repeat' constructor))
 simp(disch:=omega) [f1,f2,f3,e1,VY]
 refine cI (eG (dr s a n) (by have:=tL (s:=s) (a:=a) (n:=n);omega)) ?_
 simp(disch:=omega) [VY]
theorem xQ {l:ao} {s:Bytes} {cl:Bool} {g a k:Nat} {e:List Ev} (h:a < s.length) (h1:(av l s a).1=1) (h2:cl=false):dq l s cl (g+1) a k e=(e,k,a):=by
 rw[dq,if_pos h,if_pos ⟨h1,h2⟩]
theorem kg {l:ao} {s:Bytes} {cl:Bool} {g a k:Nat} {e:List Ev} (h:a < s.length) (h1:¬((av l s a).1=1∧cl=false)) (h2:(av l s a).1≠3):dq l s cl (g+1) a k e=dq l s cl g (a+1) (k+1) e:=by
 rw[dq,if_pos h,if_neg h1,if_pos h2]
theorem xI {l:ao} {s:Bytes} {cl:Bool} {g a k n:Nat} {e:List Ev} (h:a < s.length) (h1:av l s a=(3,(n:Int))):dq l s cl (g+1) a k e=dq l s cl g (a+n) 0 (e++(c5 k++ [ky l (dr s a n)])):=by
 rw[dq,if_pos h,if_neg (by simp[h1]),if_neg (by simp[h1])]
 simp[h1]
def Ak (r:List Ev×Nat×Nat):List (Bool×List E):= [(false,[.o true (some (82,47)) (yz r.1)]),(false,[.p (.int .i64 (r.2.1:Int))]),(false,[.p (.int .i64 (r.2.2:Int))])]
abbrev uP:Nat:=48
def uX:AF:=⟨4,7,[.tmp 8, .tmp 9, .tmp 10],(.seq (.ops [.i (.lbox 4 (.s 0)), .i (.mov 8 (.c (.val false [.nils]))), .i (.mov 9 (qi 0)), .i (.mov 10 (qi 0))]) (.seq (.ops [.i (.bse 19),qm 11 19, .i (.mov 12 (qi 0))]) (.seq (.block 0 (.loop [80,79,78,77,76,75,74,73,72,71,70,69,68,67,66,65,64,63,62,61,60,59,58,57,56,55,54,53,52,51,50,49,48,47,46,45,44,43,42,41,40,39,38,37,36,35,34,33,32,31,30,29,28,27,26,25,24,23,22,21,20,18,17,16,15,14,13] (.seq (.seq (.ops [qm 20 12,qm 21 1,qn 22 21,qd 23 .lss 20 22]) (.cond (.s 23) .skip (.exit 0))) (.block 1 (.seq (.ops [ql 25 4 4 5 true,qm 26 1,qm 27 12, .i (.call 29 80 false [(.s 25),(.s 26),(.s 27)]),qm 24 28, .i (.ext 29 (.s 24) 0), .i (.ext 30 (.s 24) 1),qm 13 29,qm 14 30]) (.seq (.seq (.ops [qm 31 13, .i (.bin 32 .eql (.s 31) (qi 1)),qm 33 32, .g 33 true 35 (.mov 34 (.s 2)), .g 33 true 36 (.not 35 (.s 34)), .i (.pick 36 (.s 33) (.s 35) (qb false))]) (.cond (.s 36) (.seq (.ops [qm 37 11,qm 38 3,qm 39 12,qm 8 37,qm 9 38,qm 10 39]) .ret) .skip)) (.seq (.seq (.ops [qm 40 13, .i (.bin 41 .neq (.s 40) (qi 3))]) (.cond (.s 41) (.seq (.ops [qm 42 12, .i (.bin 43 .add (.s 42) (qi 1)),qm 12 43]) (.seq (.ops [qm 44 3, .i (.bin 45 .add (.s 44) (qi 1)),qm 3 45]) (.exit 1))) .skip)) (.seq (.seq (.ops [qm 46 3, .i (.bin 47 .neq (.s 46) (qi 0))]) (.cond (.s 47) (.ops [qm 48 11,qm 49 3, .i (.bld 50 [.int .i64 0, .int .i64 0, .int .i64 0, .int .i64 0, .int .i64 0, .nils, .int .i64 0, .nils, .int .i64 0, .int .i64 0, .nils, .nils, .nils, .int .i64 0, .int .i64 0, .int .i64 0, .nils, .nils, .int .i64 0, .int .i64 0, .nils, .nils, .nils, .int .i64 0, .int .i64 0, .int .i64 0, .nils, .nils, .int .i64 0, .int .i64 0, .nils, .nils, .nils, .nils, .int .i64 0, .nils, .nils, .int .i64 0, .int .i64 0, .nils, .nils, .nils, .int .i64 0, .int .i64 0, .int .i64 0, .nils, .nils] [(0,1,(qi 1)),(1,1,(.s 49))]), .i (.lsl 51 47 1 [.int .i64 0, .int .i64 0, .int .i64 0, .int .i64 0, .int .i64 0, .nils, .int .i64 0, .nils, .int .i64 0, .int .i64 0, .nils, .nils, .nils, .int .i64 0, .int .i64 0, .int .i64 0, .nils, .nils, .int .i64 0, .int .i64 0, .nils, .nils, .nils, .int .i64 0, .int .i64 0, .int .i64 0, .nils, .nils, .int .i64 0, .int .i64 0, .nils, .nils, .nils, .nils, .int .i64 0, .nils, .nils, .int .i64 0, .int .i64 0, .nils, .nils, .nils, .int .i64 0, .int .i64 0, .int .i64 0, .nils, .nils] [(0,47,(.s 50))]), .i (.app 52 82 47 744 (.s 48) (.s 51)),qm 11 52]) .skip)) (.seq (.ops [ql 54 4 4 5 true,qm 55 1,qm 56 12, .i (.call 58 82 false [(.s 54),(.s 55),(.s 56)]),qm 53 57, .i (.ext 58 (.s 53) 0), .i (.ext 59 (.s 53) 1),qm 15 58,qm 16 59]) (.seq (.seq (.ops [ql 61 4 4 5 true,qm 62 15, .i (.call 64 83 false [(.s 61),(.s 62)]),qm 60 63, .i (.ext 64 (.s 60) 0), .i (.ext 65 (.s 60) 1), .i (.lal 17 [.int .i64 0, .int .i64 0, .int .i64 0, .nils, .int .i64 0, .nils, .int .i64 0, .int .i64 0, .nils, .nils, .nils, .int .i64 0, .int .i64 0, .int .i64 0, .nils, .nils, .int .i64 0, .int .i64 0, .nils, .nils, .nils, .int .i64 0, .int .i64 0, .int .i64 0, .nils, .nils, .int .i64 0, .int .i64 0, .nils, .nils, .nils, .nils, .int .i64 0, .nils, .nils, .int .i64 0, .int .i64 0, .nils, .nils, .nils, .int .i64 0, .int .i64 0, .int .i64 0, .nils, .nils]),qs 17 17 64 45,qm 18 65]) (.seq (.ops [qm 66 18, .i (.bin 67 .eql (.s 66) (qi 0))]) (.cond (.s 67) (.ops [qm 68 11,ql 69 17 17 45 true, .i (.bld 70 [.int .i64 0, .int .i64 0, .int .i64 0, .int .i64 0, .int .i64 0, .nils, .int .i64 0, .nils, .int .i64 0, .int .i64 0, .nils, .nils, .nils, .int .i64 0, .int .i64 0, .int .i64 0, .nils, .nils, .int .i64 0, .int .i64 0, .nils, .nils, .nils, .int .i64 0, .int .i64 0, .int .i64 0, .nils, .nils, .int .i64 0, .int .i64 0, .nils, .nils, .nils, .nils, .int .i64 0, .nils, .nils, .int .i64 0, .int .i64 0, .nils, .nils, .nils, .int .i64 0, .int .i64 0, .int .i64 0, .nils, .nils] [(0,1,(qi 3)),(2,45,(.s 69))]), .i (.lsl 71 47 1 [.int .i64 0, .int .i64 0, .int .i64 0, .int .i64 0, .int .i64 0, .nils, .int .i64 0, .nils, .int .i64 0, .int .i64 0, .nils, .nils, .nils, .int .i64 0, .int .i64 0, .int .i64 0, .nils, .nils, .int .i64 0, .int .i64 0, .nils, .nils, .nils, .int .i64 0, .int .i64 0, .int .i64 0, .nils, .nils, .int .i64 0, .int .i64 0, .nils, .nils, .nils, .nils, .int .i64 0, .nils, .nils, .int .i64 0, .int .i64 0, .nils, .nils, .nils, .int .i64 0, .int .i64 0, .int .i64 0, .nils, .nils] [(0,47,(.s 70))]), .i (.app 72 82 47 744 (.s 68) (.s 71)),qm 11 72]) (.ops [qm 73 11,qm 74 18, .i (.bld 75 [.int .i64 0, .int .i64 0, .int .i64 0, .int .i64 0, .int .i64 0, .nils, .int .i64 0, .nils, .int .i64 0, .int .i64 0, .nils, .nils, .nils, .int .i64 0, .int .i64 0, .int .i64 0, .nils, .nils, .int .i64 0, .int .i64 0, .nils, .nils, .nils, .int .i64 0, .int .i64 0, .int .i64 0, .nils, .nils, .int .i64 0, .int .i64 0, .nils, .nils, .nils, .nils, .int .i64 0, .nils, .nils, .int .i64 0, .int .i64 0, .nils, .nils, .nils, .int .i64 0, .int .i64 0, .int .i64 0, .nils, .nils] [(0,1,(qi 2)),(1,1,(.s 74))]), .i (.lsl 76 47 1 [.int .i64 0, .int .i64 0, .int .i64 0, .int .i64 0, .int .i64 0, .nils, .int .i64 0, .nils, .int .i64 0, .int .i64 0, .nils, .nils, .nils, .int .i64 0, .int .i64 0, .int .i64 0, .nils, .nils, .int .i64 0, .int .i64 0, .nils, .nils, .nils, .int .i64 0, .int .i64 0, .int .i64 0, .nils, .nils, .int .i64 0, .int .i64 0, .nils, .nils, .nils, .nils, .int .i64 0, .nils, .nils, .int .i64 0, .int .i64 0, .nils, .nils, .nils, .int .i64 0, .int .i64 0, .int .i64 0, .nils, .nils] [(0,47,(.s 75))]), .i (.app 77 82 47 744 (.s 73) (.s 76)),qm 11 77])))) (.ops [qm 78 12,qm 79 14,qd 80 .add 78 79,qm 12 80, .i (.mov 3 (qi 0))]))))))))))) (.seq (.seq (.ops [qm 81 2,qm 82 81, .g 82 true 84 (.mov 83 (.s 3)), .g 82 true 85 (.bin 84 .neq (.s 83) (qi 0)), .i (.pick 85 (.s 82) (.s 84) (qb false))]) (.cond (.s 85) (.ops [qm 86 11,qm 87 3, .i (.bld 88 [.int .i64 0, .int .i64 0, .int .i64 0, .int .i64 0, .int .i64 0, .nils, .int .i64 0, .nils, .int .i64 0, .int .i64 0, .nils, .nils, .nils, .int .i64 0, .int .i64 0, .int .i64 0, .nils, .nils, .int .i64 0, .int .i64 0, .nils, .nils, .nils, .int .i64 0, .int .i64 0, .int .i64 0, .nils, .nils, .int .i64 0, .int .i64 0, .nils, .nils, .nils, .nils, .int .i64 0, .nils, .nils, .int .i64 0, .int .i64 0, .nils, .nils, .nils, .int .i64 0, .int .i64 0, .int .i64 0, .nils, .nils] [(0,1,(qi 1)),(1,1,(.s 87))]), .i (.lsl 89 47 1 [.int .i64 0, .int .i64 0, .int .i64 0, .int .i64 0, .int .i64 0, .nils, .int .i64 0, .nils, .int .i64 0, .int .i64 0, .nils, .nils, .nils, .int .i64 0, .int .i64 0, .int .i64 0, .nils, .nils, .int .i64 0, .int .i64 0, .nils, .nils, .nils, .int .i64 0, .int .i64 0, .int .i64 0, .nils, .nils, .int .i64 0, .int .i64 0, .nils, .nils, .nils, .nils, .int .i64 0, .nils, .nils, .int .i64 0, .int .i64 0, .nils, .nils, .nils, .int .i64 0, .int .i64 0, .int .i64 0, .nils, .nils] [(0,47,(.s 88))]), .i (.app 90 82 47 744 (.s 86) (.s 89)),qm 11 90]) .skip)) (.seq (.ops [qm 91 11,qm 92 3,qm 93 12,qm 8 91,qm 9 92,qm 10 93]) .ret)))))⟩
theorem CL:cd uP=some uX:=by kernel_rfl
theorem Bs (l:ao) (s:Bytes) (cl:Bool) (k0:Nat) (hs:s.length≤1073741824) (hk:k0≤1152921504606846975):VC cd uP (bI [(true,l.c),(false,[.sl (bytes s)]),(false,[.bool cl]),(false,[.int .i64 (k0:Int)])]) (fun rs _=>rs=Ak (dE l s cl k0)):=by
 refine aa CL rfl ?_
 simp(disch:=omega) [uX,ao.c,VZ]
 refine eZ (σ:=Nat×Nat×Nat×List Ev) (f1:=_) (es0:=_) (by simp(disch:=omega) [VZ];rfl) (by simp(disch:=omega) [VZ];rfl) (fun p=> [(12, .val false [.int .i64 (p.1:Int)]),(3, .val false [.int .i64 (p.2.1:Int)]),(11, .val false [.ow 19 p.2.2.1])]) (fun p=> [(19, .sl p.2.2.1 true true (some (82,47)) (yz p.2.2.2))])
  (fun p g=>s.length≤g+p.1∧p.1≤s.length∧p.2.1≤k0+p.1∧p.2.2.2.length≤2 * p.1∧dq l s cl s.length 0 k0 []=dq l s cl g p.1 p.2.1 p.2.2.2) (0,k0,_,[]) s.length (by simp(disch:=omega) [VZ];rfl) (by simp(disch:=omega) [yz,VZ]) ⟨by simp,by simp,by simp,by simp,rfl⟩ ?_
 rintro⟨a,k,v,x⟩ nx g ⟨hg,h5,h6,h7,h8⟩ P hP
 simp only at hg h5 h6 h7 h8
 have hl:(yz x).length=x.length:=wq x
 simp(disch:=omega) [VZ]
 refine aj (fun h9=> ?_) (fun h9=> ?_)
 ·obtain⟨g1,rfl⟩:∃g1,g=g1+1:=⟨g - 1,by omega⟩
  have h0:=gR l s a hs (by omega)
  have hc:=qI l s a
  rcases hf:av l s a with⟨st,n⟩
  rw[hf]at h0 hc
  simp only[cu]at h0
  simp only at hc
  simp(disch:=omega) [VZ]
  refine cI (h0) ?_ (ha:=by first|rfl|(simp[ao.c,VY] <;>repeat' constructor))
  rcases hc with rfl|rfl|rfl|rfl
  case inr.inl=>
   cases cl with
   |false=>
    rw[xQ h9 (by rw[hf]) rfl]at h8
    simp(disch:=omega) [dE,Ak,h8,VZ]
   |true=>
    rw[kg h9 (by simp) (by rw[hf];simp)]at h8
    simp(disch:=omega) [VZ]
    exact hP (a+1,k+1,v,x) g1 _ _ (by omega) ⟨by simp only;omega,by simp only;omega,by simp only;omega,by simp only;omega,h8⟩ (by simp(disch:=omega) [VZ] <;>rfl) (by simp(disch:=omega) [VZ])
  case inr.inr.inr=>
   obtain⟨n',hf',n9,nl,hok⟩:=fG (by rw[hf]:(av l s a).1=3)
   rw[hf]at hf'
   obtain rfl:n=(n':Int):=by simpa using hf'
   rw[xI h9 hf]at h8
   have hfl:=tL (s:=s) (a:=a) (n:=n')
   have hd:=yq (dr s a n') l (by omega)
   have he:ky l (dr s a n')=if(dec l (dr s a n')).2=0 then⟨3,0,(dec l (dr s a n')).1⟩else⟨2,(dec l (dr s a n')).2,ay⟩:=rfl
   rw[he]at h8
   clear he
   generalize dec l (dr s a n')=d at hd h8
   obtain⟨dm,dc⟩:=d
   simp only[cC,cg.o]at hd h8
   by_cases k1:k=0
   ·subst k1
    simp(disch:=omega) [VZ]
    refine cI (nK l s a n' hs hf n9 nl) ?_ (ha:=by first|rfl|(simp[ao.c,VY] <;>repeat' constructor))
    simp(disch:=omega) [VZ]
    refine cI (hd) ?_ (ha:=by first|rfl|(simp[ao.c,VY] <;>repeat' constructor))
    by_cases d0:dc=0
    ·subst d0
     simp(disch:=omega) [vV,hl,VZ]
     exact hP (a+n',0,_,x++ [⟨3,0,dm⟩]) g1 _ _ (by omega) ⟨by simp only;omega,by simp only;omega,by simp only;omega,by simp only[List.length_append,List.length_cons,List.length_nil];omega,by rw[h8];simp[c5]⟩ (by simp(disch:=omega) [VZ] <;>rfl) (by simp(disch:=omega) [VZ])
    ·simp(disch:=omega) [d0,mh,hl,VZ]
     exact hP (a+n',0,_,x++ [⟨2,dc,ay⟩]) g1 _ _ (by omega) ⟨by simp only;omega,by simp only;omega,by simp only;omega,by simp only[List.length_append,List.length_cons,List.length_nil];omega,by rw[h8];simp[c5,d0]⟩ (by simp(disch:=omega) [VZ] <;>rfl) (by simp(disch:=omega) [VZ])
   ·simp(disch:=omega) [k1,mh,hl,VZ]
    refine cI (nK l s a n' hs hf n9 nl) ?_ (ha:=by first|rfl|(simp[ao.c,VY] <;>repeat' constructor))
    have hl3:(yz (x++ [⟨1,(k:Int),ay⟩])).length=x.length+1:=by simp[wq]
    simp(disch:=omega) [VZ]
    refine cI (hd) ?_ (ha:=by first|rfl|(simp[ao.c,VY] <;>repeat' constructor))
    by_cases d0:dc=0
    ·subst d0
     simp(disch:=omega) [vV,hl3,VZ]
     exact hP (a+n',0,_,x++ [⟨1,(k:Int),ay⟩]++ [⟨3,0,dm⟩]) g1 _ _ (by omega) ⟨by simp only;omega,by simp only;omega,by simp only;omega,by simp only[List.length_append,List.length_cons,List.length_nil];omega,by rw[h8];simp[c5,k1]⟩ (by simp(disch:=omega) [VZ] <;>rfl) (by simp(disch:=omega) [VZ])
    ·simp(disch:=omega) [d0,mh,hl3,VZ]
     exact hP (a+n',0,_,x++ [⟨1,(k:Int),ay⟩]++ [⟨2,dc,ay⟩]) g1 _ _ (by omega) ⟨by simp only;omega,by simp only;omega,by simp only;omega,by simp only[List.length_append,List.length_cons,List.length_nil];omega,by rw[h8];simp[c5,k1,d0]⟩ (by simp(disch:=omega) [VZ] <;>rfl) (by simp(disch:=omega) [VZ])
  all_goals
   rw[kg h9 (by rw[hf];simp) (by rw[hf];simp)]at h8
   simp(disch:=omega) [VZ]
   exact hP (a+1,k+1,v,x) g1 _ _ (by omega) ⟨by simp only;omega,by simp only;omega,by simp only;omega,by simp only;omega,h8⟩ (by simp(disch:=omega) [VZ] <;>rfl) (by simp(disch:=omega) [VZ])
 ·rw[zw h9]at h8
  cases cl with
  |false=>simp(disch:=omega) [dE,Ak,h8,VZ]
  |true=>
   by_cases k1:k=0
   ·simp(disch:=omega) [k1,dE,Ak,h8,c5,VZ]
   ·simp(disch:=omega) [k1,dE,Ak,h8,c5,mh,hl,VZ]
theorem Hm {s:Bytes} {a n:Nat} (h9:9≤n) (hn:a+n≤s.length):List.take ((a:Int)+(n:Int) - ((a:Int)+8)).toNat (List.drop ((a:Int)+8).toNat (bytes s))=bytes (dr s a n)∧0≤(a:Int)+8∧8≤(n:Int)∧(a:Int)+(n:Int)≤(s.length:Int):=by
 refine⟨?_,by omega,by omega,by omega⟩
 rw[show((a:Int)+8).toNat=a+8 by omega,show((a:Int)+(n:Int) - ((a:Int)+8)).toNat=n - 8 by omega,dr]
 simp only[bytes,←List.map_take,←List.map_drop]
def tq (r:List Ev×Nat×Nat):List (Bool×List E):= [(false,[.o true (some (82,47)) (yz r.1)]),(false,[.p (.int .i64 (r.2.2:Int))]),(false,[.p (.int .i64 (r.2.1:Int))])]
abbrev ln:Nat:=44
def lq:AF:=⟨4,7,[.tmp 8, .tmp 9, .tmp 10],(.seq (.ops [.i (.lbox 4 (.s 0)), .i (.mov 8 (.c (.val false [.nils]))), .i (.mov 9 (qi 0)), .i (.mov 10 (qi 0))]) (.seq (.ops [.i (.bse 17),qm 11 17]) (.seq (.ops [.i (.mov 12 (qi 0))]) (.seq (.block 0 (.loop [74,73,72,71,70,69,68,67,66,65,64,63,62,61,60,59,58,57,56,55,54,53,52,51,50,49,48,47,46,45,44,43,42,41,40,39,38,37,36,35,34,33,32,31,30,29,28,27,26,25,24,23,22,21,20,19,18,16,15,14,13] (.seq (.seq (.ops [qm 18 12,qm 19 1,qn 20 19,qd 21 .lss 18 20]) (.cond (.s 21) .skip (.exit 0))) (.block 1 (.seq (.ops [ql 23 4 4 5 true,qm 24 1,qm 25 12, .i (.call 27 37 false [(.s 23),(.s 24),(.s 25)]),qm 22 26, .i (.ext 27 (.s 22) 0), .i (.ext 28 (.s 22) 1),qm 13 27,qm 14 28]) (.seq (.seq (.ops [qm 29 13, .i (.bin 30 .eql (.s 29) (qi 1)),qm 31 30, .g 31 true 33 (.mov 32 (.s 2)), .g 31 true 34 (.not 33 (.s 32)), .i (.pick 34 (.s 31) (.s 33) (qb false))]) (.cond (.s 34) (.exit 0) .skip)) (.seq (.seq (.ops [qm 35 13, .i (.bin 36 .neq (.s 35) (qi 3))]) (.cond (.s 36) (.seq (.ops [qm 37 3, .i (.bin 38 .add (.s 37) (qi 1)),qm 3 38]) (.seq (.ops [qm 39 12, .i (.bin 40 .add (.s 39) (qi 1)),qm 12 40]) (.exit 1))) .skip)) (.seq (.seq (.ops [qm 41 3, .i (.bin 42 .gtr (.s 41) (qi 0))]) (.cond (.s 42) (.seq (.ops [qm 43 11,qm 44 3, .i (.bld 45 [.int .i64 0, .int .i64 0, .int .i64 0, .int .i64 0, .int .i64 0, .nils, .int .i64 0, .nils, .int .i64 0, .int .i64 0, .nils, .nils, .nils, .int .i64 0, .int .i64 0, .int .i64 0, .nils, .nils, .int .i64 0, .int .i64 0, .nils, .nils, .nils, .int .i64 0, .int .i64 0, .int .i64 0, .nils, .nils, .int .i64 0, .int .i64 0, .nils, .nils, .nils, .nils, .int .i64 0, .nils, .nils, .int .i64 0, .int .i64 0, .nils, .nils, .nils, .int .i64 0, .int .i64 0, .int .i64 0, .nils, .nils] [(0,1,(qi 1)),(1,1,(.s 44))]), .i (.lsl 46 47 1 [.int .i64 0, .int .i64 0, .int .i64 0, .int .i64 0, .int .i64 0, .nils, .int .i64 0, .nils, .int .i64 0, .int .i64 0, .nils, .nils, .nils, .int .i64 0, .int .i64 0, .int .i64 0, .nils, .nils, .int .i64 0, .int .i64 0, .nils, .nils, .nils, .int .i64 0, .int .i64 0, .int .i64 0, .nils, .nils, .int .i64 0, .int .i64 0, .nils, .nils, .nils, .nils, .int .i64 0, .nils, .nils, .int .i64 0, .int .i64 0, .nils, .nils, .nils, .int .i64 0, .int .i64 0, .int .i64 0, .nils, .nils] [(0,47,(.s 45))]), .i (.app 47 82 47 744 (.s 43) (.s 46)),qm 11 47]) (.ops [.i (.mov 3 (qi 0))])) .skip)) (.seq (.ops [ql 49 4 4 5 true,qm 50 1,qm 51 12, .i (.bin 52 .add (.s 51) (qi 8)),qm 53 12,qm 54 14,qd 55 .add 53 54, .i (.eQ 56 1 (.s 50) (some (.s 52)) (some (.s 55))), .i (.call 58 79 false [(.s 49),(.s 56)]),qm 48 57, .i (.ext 58 (.s 48) 0), .i (.ext 59 (.s 48) 1), .i (.lal 15 [.int .i64 0, .int .i64 0, .int .i64 0, .nils, .int .i64 0, .nils, .int .i64 0, .int .i64 0, .nils, .nils, .nils, .int .i64 0, .int .i64 0, .int .i64 0, .nils, .nils, .int .i64 0, .int .i64 0, .nils, .nils, .nils, .int .i64 0, .int .i64 0, .int .i64 0, .nils, .nils, .int .i64 0, .int .i64 0, .nils, .nils, .nils, .nils, .int .i64 0, .nils, .nils, .int .i64 0, .int .i64 0, .nils, .nils, .nils, .int .i64 0, .int .i64 0, .int .i64 0, .nils, .nils]),qs 15 15 58 45,qm 16 59]) (.seq (.seq (.ops [qm 60 16, .i (.bin 61 .eql (.s 60) (qi 0))]) (.cond (.s 61) (.ops [qm 62 11,ql 63 15 15 45 true, .i (.bld 64 [.int .i64 0, .int .i64 0, .int .i64 0, .int .i64 0, .int .i64 0, .nils, .int .i64 0, .nils, .int .i64 0, .int .i64 0, .nils, .nils, .nils, .int .i64 0, .int .i64 0, .int .i64 0, .nils, .nils, .int .i64 0, .int .i64 0, .nils, .nils, .nils, .int .i64 0, .int .i64 0, .int .i64 0, .nils, .nils, .int .i64 0, .int .i64 0, .nils, .nils, .nils, .nils, .int .i64 0, .nils, .nils, .int .i64 0, .int .i64 0, .nils, .nils, .nils, .int .i64 0, .int .i64 0, .int .i64 0, .nils, .nils] [(0,1,(qi 3)),(2,45,(.s 63))]), .i (.lsl 65 47 1 [.int .i64 0, .int .i64 0, .int .i64 0, .int .i64 0, .int .i64 0, .nils, .int .i64 0, .nils, .int .i64 0, .int .i64 0, .nils, .nils, .nils, .int .i64 0, .int .i64 0, .int .i64 0, .nils, .nils, .int .i64 0, .int .i64 0, .nils, .nils, .nils, .int .i64 0, .int .i64 0, .int .i64 0, .nils, .nils, .int .i64 0, .int .i64 0, .nils, .nils, .nils, .nils, .int .i64 0, .nils, .nils, .int .i64 0, .int .i64 0, .nils, .nils, .nils, .int .i64 0, .int .i64 0, .int .i64 0, .nils, .nils] [(0,47,(.s 64))]), .i (.app 66 82 47 744 (.s 62) (.s 65)),qm 11 66]) (.ops [qm 67 11,qm 68 16, .i (.bld 69 [.int .i64 0, .int .i64 0, .int .i64 0, .int .i64 0, .int .i64 0, .nils, .int .i64 0, .nils, .int .i64 0, .int .i64 0, .nils, .nils, .nils, .int .i64 0, .int .i64 0, .int .i64 0, .nils, .nils, .int .i64 0, .int .i64 0, .nils, .nils, .nils, .int .i64 0, .int .i64 0, .int .i64 0, .nils, .nils, .int .i64 0, .int .i64 0, .nils, .nils, .nils, .nils, .int .i64 0, .nils, .nils, .int .i64 0, .int .i64 0, .nils, .nils, .nils, .int .i64 0, .int .i64 0, .int .i64 0, .nils, .nils] [(0,1,(qi 2)),(1,1,(.s 68))]), .i (.lsl 70 47 1 [.int .i64 0, .int .i64 0, .int .i64 0, .int .i64 0, .int .i64 0, .nils, .int .i64 0, .nils, .int .i64 0, .int .i64 0, .nils, .nils, .nils, .int .i64 0, .int .i64 0, .int .i64 0, .nils, .nils, .int .i64 0, .int .i64 0, .nils, .nils, .nils, .int .i64 0, .int .i64 0, .int .i64 0, .nils, .nils, .int .i64 0, .int .i64 0, .nils, .nils, .nils, .nils, .int .i64 0, .nils, .nils, .int .i64 0, .int .i64 0, .nils, .nils, .nils, .int .i64 0, .int .i64 0, .int .i64 0, .nils, .nils] [(0,47,(.s 69))]), .i (.app 71 82 47 744 (.s 67) (.s 70)),qm 11 71]))) (.ops [qm 72 12,qm 73 14,qd 74 .add 72 73,qm 12 74]))))))))))) (.seq (.seq (.ops [qm 75 2,qm 76 75, .g 76 true 78 (.mov 77 (.s 3)), .g 76 true 79 (.bin 78 .gtr (.s 77) (qi 0)), .i (.pick 79 (.s 76) (.s 78) (qb false))]) (.cond (.s 79) (.ops [qm 80 11,qm 81 3, .i (.bld 82 [.int .i64 0, .int .i64 0, .int .i64 0, .int .i64 0, .int .i64 0, .nils, .int .i64 0, .nils, .int .i64 0, .int .i64 0, .nils, .nils, .nils, .int .i64 0, .int .i64 0, .int .i64 0, .nils, .nils, .int .i64 0, .int .i64 0, .nils, .nils, .nils, .int .i64 0, .int .i64 0, .int .i64 0, .nils, .nils, .int .i64 0, .int .i64 0, .nils, .nils, .nils, .nils, .int .i64 0, .nils, .nils, .int .i64 0, .int .i64 0, .nils, .nils, .nils, .int .i64 0, .int .i64 0, .int .i64 0, .nils, .nils] [(0,1,(qi 1)),(1,1,(.s 81))]), .i (.lsl 83 47 1 [.int .i64 0, .int .i64 0, .int .i64 0, .int .i64 0, .int .i64 0, .nils, .int .i64 0, .nils, .int .i64 0, .int .i64 0, .nils, .nils, .nils, .int .i64 0, .int .i64 0, .int .i64 0, .nils, .nils, .int .i64 0, .int .i64 0, .nils, .nils, .nils, .int .i64 0, .int .i64 0, .int .i64 0, .nils, .nils, .int .i64 0, .int .i64 0, .nils, .nils, .nils, .nils, .int .i64 0, .nils, .nils, .int .i64 0, .int .i64 0, .nils, .nils, .nils, .int .i64 0, .int .i64 0, .int .i64 0, .nils, .nils] [(0,47,(.s 82))]), .i (.app 84 82 47 744 (.s 80) (.s 83)),qm 11 84]) .skip)) (.seq (.ops [qm 85 11,qm 86 12,qm 87 3,qm 8 85,qm 9 86,qm 10 87]) .ret))))))⟩
theorem vF:cd ln=some lq:=by kernel_rfl
theorem Dq (l:ao) (s:Bytes) (cl:Bool) (k0:Nat) (hs:s.length≤1073741824) (hk:k0≤1152921504606846975):VC cd ln (bI [(true,l.c),(false,[.sl (bytes s)]),(false,[.bool cl]),(false,[.int .i64 (k0:Int)])]) (fun rs _=>rs=tq (dE l s cl k0)):=by
 refine aa vF rfl ?_
 simp(disch:=omega) [lq,ao.c,VZ]
 refine eZ (σ:=Nat×Nat×Nat×List Ev) (f1:=_) (es0:=_) (by simp(disch:=omega) [VZ];rfl) (by simp(disch:=omega) [VZ];rfl) (fun p=> [(12, .val false [.int .i64 (p.1:Int)]),(3, .val false [.int .i64 (p.2.1:Int)]),(11, .val false [.ow 17 p.2.2.1])]) (fun p=> [(17, .sl p.2.2.1 true true (some (82,47)) (yz p.2.2.2))])
  (fun p g=>s.length≤g+p.1∧p.1≤s.length∧p.2.1≤k0+p.1∧p.2.2.2.length≤2 * p.1∧dq l s cl s.length 0 k0 []=dq l s cl g p.1 p.2.1 p.2.2.2) (0,k0,_,[]) s.length (by simp(disch:=omega) [VZ];rfl) (by simp(disch:=omega) [yz,VZ]) ⟨by simp,by simp,by simp,by simp,rfl⟩ ?_
 rintro⟨a,k,v,x⟩ nx g ⟨hg,h5,h6,h7,h8⟩ P hP
 simp only at hg h5 h6 h7 h8
 have hl:(yz x).length=x.length:=wq x
 simp(disch:=omega) [VZ]
 refine aj (fun h9=> ?_) (fun h9=> ?_)
 ·obtain⟨g1,rfl⟩:∃g1,g=g1+1:=⟨g - 1,by omega⟩
  have h0:=lJ l s a hs (by omega)
  have hc:=qI l s a
  rcases hf:av l s a with⟨st,n⟩
  rw[hf]at h0 hc
  simp only[cu]at h0
  simp only at hc
  simp(disch:=omega) [VZ]
  refine cI (h0) ?_ (ha:=by first|rfl|(simp[ao.c,VY] <;>repeat' constructor))
  rcases hc with rfl|rfl|rfl|rfl
  case inr.inl=>
   cases cl with
   |false=>
    rw[xQ h9 (by rw[hf]) rfl]at h8
    simp(disch:=omega) [dE,tq,h8,VZ]
   |true=>
    rw[kg h9 (by simp) (by rw[hf];simp)]at h8
    simp(disch:=omega) [VZ]
    exact hP (a+1,k+1,v,x) g1 _ _ (by omega) ⟨by simp only;omega,by simp only;omega,by simp only;omega,by simp only;omega,h8⟩ (by simp(disch:=omega) [VZ] <;>rfl) (by simp(disch:=omega) [VZ])
  case inr.inr.inr=>
   obtain⟨n',hf',n9,nl,hok⟩:=fG (by rw[hf]:(av l s a).1=3)
   rw[hf]at hf'
   obtain rfl:n=(n':Int):=by simpa using hf'
   rw[xI h9 hf]at h8
   obtain⟨e1,f1,f2,f3⟩:=Hm n9 nl
   have hfl:=tL (s:=s) (a:=a) (n:=n')
   have hd:=wU (dr s a n') l (by omega)
   have he:ky l (dr s a n')=if(dec l (dr s a n')).2=0 then⟨3,0,(dec l (dr s a n')).1⟩else⟨2,(dec l (dr s a n')).2,ay⟩:=rfl
   rw[he]at h8
   clear he
   generalize dec l (dr s a n')=d at hd h8
   obtain⟨dm,dc⟩:=d
   simp only[cC,cg.o]at hd h8
   by_cases k1:k=0
   ·subst k1
    simp(disch:=omega) [f1,f2,f3,e1,VZ]
    refine cI (hd) ?_ (ha:=by first|rfl|(simp[ao.c,VY] <;>repeat' constructor))
    by_cases d0:dc=0
    ·subst d0
     simp(disch:=omega) [vV,hl,VZ]
     exact hP (a+n',0,_,x++ [⟨3,0,dm⟩]) g1 _ _ (by omega) ⟨by simp only;omega,by simp only;omega,by simp only;omega,by simp only[List.length_append,List.length_cons,List.length_nil];omega,by rw[h8];simp[c5]⟩ (by simp(disch:=omega) [VZ] <;>rfl) (by simp(disch:=omega) [VZ])
    ·simp(disch:=omega) [d0,mh,hl,VZ]
     exact hP (a+n',0,_,x++ [⟨2,dc,ay⟩]) g1 _ _ (by omega) ⟨by simp only;omega,by simp only;omega,by simp only;omega,by simp only[List.length_append,List.length_cons,List.length_nil];omega,by rw[h8];simp[c5,d0]⟩ (by simp(disch:=omega) [VZ] <;>rfl) (by simp(disch:=omega) [VZ])
   ·have k2:0 < k:=by omega
    simp(disch:=omega) [k1,k2,mh,hl,f1,f2,f3,e1,VZ]
    have hl3:(yz (x++ [⟨1,(k:Int),ay⟩])).length=x.length+1:=by simp[wq]
    refine cI (hd) ?_ (ha:=by first|rfl|(simp[ao.c,VY] <;>repeat' constructor))
    by_cases d0:dc=0
    ·subst d0
     simp(disch:=omega) [vV,hl3,VZ]
     exact hP (a+n',0,_,x++ [⟨1,(k:Int),ay⟩]++ [⟨3,0,dm⟩]) g1 _ _ (by omega) ⟨by simp only;omega,by simp only;omega,by simp only;omega,by simp only[List.length_append,List.length_cons,List.length_nil];omega,by rw[h8];simp[c5,k1]⟩ (by simp(disch:=omega) [VZ] <;>rfl) (by simp(disch:=omega) [VZ])
    ·simp(disch:=omega) [d0,mh,hl3,VZ]
     exact hP (a+n',0,_,x++ [⟨1,(k:Int),ay⟩]++ [⟨2,dc,ay⟩]) g1 _ _ (by omega) ⟨by simp only;omega,by simp only;omega,by simp only;omega,by simp only[List.length_append,List.length_cons,List.length_nil];omega,by rw[h8];simp[c5,k1,d0]⟩ (by simp(disch:=omega) [VZ] <;>rfl) (by simp(disch:=omega) [VZ])
  all_goals
   rw[kg h9 (by rw[hf];simp) (by rw[hf];simp)]at h8
   simp(disch:=omega) [VZ]
   exact hP (a+1,k+1,v,x) g1 _ _ (by omega) ⟨by simp only;omega,by simp only;omega,by simp only;omega,by simp only;omega,h8⟩ (by simp(disch:=omega) [VZ] <;>rfl) (by simp(disch:=omega) [VZ])
 ·rw[zw h9]at h8
  cases cl with
  |false=>simp(disch:=omega) [dE,tq,h8,VZ]
  |true=>
   by_cases k1:k=0
   ·simp(disch:=omega) [k1,dE,tq,h8,c5,VZ]
   ·have k2:0 < k:=by omega
    simp(disch:=omega) [k1,k2,dE,tq,h8,c5,mh,hl,VZ]
end Go.Eng.F
namespace Go.Eng.F
theorem rT {l:ao} {s:Bytes} {cl:Bool}:∀(g a k:Nat) (e:List Ev),a≤s.length→(dq l s cl g a k e).2.2≤s.length∧(dq l s cl g a k e).2.1+a≤k+(dq l s cl g a k e).2.2∧a≤(dq l s cl g a k e).2.2
 |0,a,k,e,h=>⟨h,by simp only[dq];omega,by simp only[dq];omega⟩
 |g+1,a,k,e,h=>by
  rw[dq]
  split
  ·rename_i h1
   split
   ·exact⟨h,by simp only;omega,by simp only;omega⟩
   ·split
    ·have:=rT (l:=l) (s:=s) (cl:=cl) g (a+1) (k+1) e (by omega)
     omega
    ·rename_i h3
     obtain⟨n,hn,h9,hl,_⟩:=fG (Decidable.not_not.1 h3)
     have e1:(av l s a).2.toNat=n:=by rw[hn];rfl
     rw[e1]
     have:=rT (l:=l) (s:=s) (cl:=cl) g (a+n) 0 (e++(c5 k++ [ky l (dr s a n)])) (by omega)
     omega
  ·exact⟨h,by simp only;omega,by simp only;omega⟩
def tail (l:ao) (s:Bytes):Nat×Nat:=if l.ok=true then((dE l s false 0).2.1,s.length - (dE l s false 0).2.2)else(0,0)
def feed (l:ao) (p:cf) (b:Bytes):cf×List Ev:=if jb l p=true then(⟨((dE l (p.buf++b) false p.skip.toNat).2.1:Int),(p.buf++b).drop (dE l (p.buf++b) false p.skip.toNat).2.2⟩,(dE l (p.buf++b) false p.skip.toNat).1)else(p,[])
theorem my {l:ao} {p:cf} (h:jb l p=true):0≤p.skip∧p.skip≤1152921504606846975:=by
 simp only[jb,isNum,dK,Bool.and_eq_true,decide_eq_true_eq]at h
 omega
abbrev iw:Nat:=46
def ix:AF:=⟨1,4,[.cell 2 2 true],(.seq (.ops [.i (.lbox 1 (.s 0)), .i (.lal 2 [.int .i64 0, .nils])]) (.seq (.ops [qf 3 1 0,ql 4 1 3 1 false,qf 5 1 1,ql 6 1 5 1 false,qk 8 47 6, .i (.bld 8 [.int .i64 0, .nils] [(0,1,(.s 4)),(1,1,(.s 7))]),qs 2 2 8 2]) .ret))⟩
theorem rl:cd iw=some ix:=by kernel_rfl
theorem xr (p:cf) (hb:p.buf.length≤1073741824):VC cd iw (bI [(true,p.c)]) (fun rs _=>rs= [(true,[.p (.int .i64 p.skip), .o true (some (5,1)) (bytes p.buf)])]):=by
 refine aa rl rfl ?_
 simp(disch:=omega) [ix,cf.c,VZ]
 refine cI (eG p.buf (by omega)) ?_
 simp(disch:=omega) [VZ]
def wO (x:cf×List Ev):List (Bool×List E):= [(true,[.p (.int .i64 x.1.skip), .o true (some (5,1)) (bytes x.1.buf)]),(false,[.o true (some (82,47)) (yz x.2)])]
abbrev nn:Nat:=12
def uJ:AF:=⟨3,6,[.cell 6 2 true, .tmp 7],(.seq (.ops [.i (.lbox 3 (.s 0)), .i (.lbox 4 (.s 1)), .i (.lal 6 [.int .i64 0, .nils]), .i (.mov 7 (.c (.val false [.nils])))]) (.seq (.seq (.ops [ql 12 3 3 5 true,ql 13 4 4 2 true, .i (.call 15 45 false [(.s 12),(.s 13)]), .i (.not 15 (.s 14))]) (.cond (.s 15) (.seq (.ops [ql 16 4 4 2 true,qk 18 46 16,qs 6 6 17 2, .i (.mov 7 (.c (.val false [.nils])))]) .ret) .skip)) (.seq (.ops [qf 18 4 1,ql 19 4 18 1 false,qk 21 47 19,qm 21 2, .i (.app 22 5 1 1 (.s 20) (.s 21)),qm 8 22]) (.seq (.ops [ql 24 3 3 5 true,qm 25 8,qf 26 4 0,ql 27 4 26 1 false, .i (.call 29 48 false [(.s 24),(.s 25),(qb false),(.s 27)]),qm 23 28, .i (.ext 29 (.s 23) 0), .i (.ext 30 (.s 23) 1), .i (.ext 31 (.s 23) 2),qm 9 29,qm 10 30,qm 11 31]) (.seq (.ops [qm 32 10,qm 33 8,qm 34 11, .i (.eQ 35 1 (.s 33) (some (.s 34)) none),qk 37 47 35, .i (.bld 37 [.int .i64 0, .nils] [(0,1,(.s 32)),(1,1,(.s 36))]),qm 38 9,qs 6 6 37 2,qm 7 38]) .ret)))))⟩
theorem C1:cd nn=some uJ:=by kernel_rfl
theorem Bi (l:ao) (p:cf) (b:Bytes) (hb:p.buf.length+b.length≤1073741824):VC cd nn (bI [(true,l.c),(true,p.c),(false,[.sl (bytes b)])]) (fun rs _=>rs=wO (feed l p b)):=by
 refine VC.gV ?_
 have hlen:(p.buf++b).length≤1073741824:=by rw[List.length_append];exact hb
 have h2:=rT (l:=l) (s:=p.buf++b) (cl:=false) (p.buf++b).length 0 p.skip.toNat [] (by omega)
 refine aa C1 rfl ?_
 simp(disch:=omega) [uJ,ao.c,cf.c,VZ]
 refine cI (wY l p (by omega)) ?_ (ha:=by first|rfl|(simp[ao.c,cf.c,VY] <;>repeat' constructor))
 simp(disch:=omega) [VZ]
 refine dO (fun h1=> ?_) (fun h1=> ?_)
 case refine_2=>
  simp(disch:=omega) [h1,VZ]
  refine cI (xr p (by omega)) ?_ (ha:=by first|rfl|(simp[cf.c,VY] <;>repeat' constructor))
  simp(disch:=omega) [feed,wO,h1,Fo,aH,aI,aN,VZ]
 have hk:=my h1
 have e2:((p.skip.toNat:Nat):Int)=p.skip:=by omega
 simp(disch:=omega) [h1,VZ]
 refine cI (eG p.buf (by omega)) ?_
 simp(disch:=omega) [zS,VZ]
 have hd:=Bs l (p.buf++b) false p.skip.toNat hlen (by omega)
 rw[e2]at hd
 simp only[Ak]at hd
 refine cI (hd) ?_ (ha:=by first|rfl|(simp[ao.c,VY] <;>repeat' constructor))
 have h3:(dE l (p.buf++b) false p.skip.toNat).2.2≤(p.buf++b).length:=h2.1
 have hf:feed l p b=(⟨((dE l (p.buf++b) false p.skip.toNat).2.1:Int),(p.buf++b).drop (dE l (p.buf++b) false p.skip.toNat).2.2⟩,(dE l (p.buf++b) false p.skip.toNat).1):=by rw[feed,if_pos h1]
 rw[hf]
 generalize dE l (p.buf++b) false p.skip.toNat=r at h3⊢
 rw[List.length_append]at h3
 have f4:(r.2.2:Int)≤(p.buf.length:Int)+(b.length:Int):=by omega
 have e4:List.take (((p.buf.length:Int)+(b.length:Int)).toNat - r.2.2) (List.drop r.2.2 (bytes (p.buf++b)))=bytes ((p.buf++b).drop r.2.2):=by
  rw[show((p.buf.length:Int)+(b.length:Int)).toNat=p.buf.length+b.length by omega,List.take_of_length_le (by simp[bytes])]
  simp[bytes]
 simp(disch:=omega) [f4,e4,VZ]
 refine cI (eG ((p.buf++b).drop r.2.2) (by rw[List.length_drop,List.length_append];omega)) ?_
 simp(disch:=omega) [wO,aH,aI,aN,VZ]
abbrev mZ:Nat:=8
def uK:AF:=⟨3,6,[.cell 6 2 true, .tmp 7],(.seq (.ops [.i (.lbox 3 (.s 0)), .i (.lbox 4 (.s 1)), .i (.lal 6 [.int .i64 0, .nils]), .i (.mov 7 (.c (.val false [.nils])))]) (.seq (.seq (.ops [ql 12 3 3 5 true,ql 13 4 4 2 true, .i (.call 15 42 false [(.s 12),(.s 13)]), .i (.not 15 (.s 14))]) (.cond (.s 15) (.seq (.ops [qf 16 4 0,ql 17 4 16 1 false,qf 18 4 1,ql 19 4 18 1 false,qk 21 43 19, .i (.bld 21 [.int .i64 0, .nils] [(0,1,(.s 17)),(1,1,(.s 20))]),qs 6 6 21 2, .i (.mov 7 (.c (.val false [.nils])))]) .ret) .skip)) (.seq (.ops [qf 22 4 1,ql 23 4 22 1 false,qk 25 43 23,qm 25 2, .i (.app 26 5 1 1 (.s 24) (.s 25)),qm 8 26]) (.seq (.ops [ql 28 3 3 5 true,qm 29 8,qf 30 4 0,ql 31 4 30 1 false, .i (.call 33 44 false [(.s 28),(.s 29),(qb false),(.s 31)]),qm 27 32, .i (.ext 33 (.s 27) 0), .i (.ext 34 (.s 27) 1), .i (.ext 35 (.s 27) 2),qm 9 33,qm 10 34,qm 11 35]) (.seq (.ops [qm 36 11,qm 37 8,qm 38 10, .i (.eQ 39 1 (.s 37) (some (.s 38)) none),qk 41 43 39, .i (.bld 41 [.int .i64 0, .nils] [(0,1,(.s 36)),(1,1,(.s 40))]),qm 42 9,qs 6 6 41 2,qm 7 42]) .ret)))))⟩
theorem C3:cd mZ=some uK:=by kernel_rfl
theorem AH (l:ao) (p:cf) (b:Bytes) (hb:p.buf.length+b.length≤1073741824):VC cd mZ (bI [(true,l.c),(true,p.c),(false,[.sl (bytes b)])]) (fun rs _=>rs=wO (feed l p b)):=by
 refine VC.gV ?_
 have hlen:(p.buf++b).length≤1073741824:=by rw[List.length_append];exact hb
 have h2:=rT (l:=l) (s:=p.buf++b) (cl:=false) (p.buf++b).length 0 p.skip.toNat [] (by omega)
 refine aa C3 rfl ?_
 simp(disch:=omega) [uK,ao.c,cf.c,VZ]
 refine cI (xE l p (by omega)) ?_ (ha:=by first|rfl|(simp[ao.c,cf.c,VY] <;>repeat' constructor))
 simp(disch:=omega) [VZ]
 refine dO (fun h1=> ?_) (fun h1=> ?_)
 case refine_2=>
  simp(disch:=omega) [h1,VZ]
  refine cI (iE p.buf (by omega)) ?_
  simp(disch:=omega) [feed,wO,h1,Fo,aH,aI,aN,VZ]
 have hk:=my h1
 have e2:((p.skip.toNat:Nat):Int)=p.skip:=by omega
 simp(disch:=omega) [h1,VZ]
 refine cI (iE p.buf (by omega)) ?_
 simp(disch:=omega) [zS,VZ]
 have hd:=Dq l (p.buf++b) false p.skip.toNat hlen (by omega)
 rw[e2]at hd
 simp only[tq]at hd
 refine cI (hd) ?_ (ha:=by first|rfl|(simp[ao.c,VY] <;>repeat' constructor))
 have h3:(dE l (p.buf++b) false p.skip.toNat).2.2≤(p.buf++b).length:=h2.1
 have hf:feed l p b=(⟨((dE l (p.buf++b) false p.skip.toNat).2.1:Int),(p.buf++b).drop (dE l (p.buf++b) false p.skip.toNat).2.2⟩,(dE l (p.buf++b) false p.skip.toNat).1):=by rw[feed,if_pos h1]
 rw[hf]
 generalize dE l (p.buf++b) false p.skip.toNat=r at h3⊢
 rw[List.length_append]at h3
 have f4:(r.2.2:Int)≤(p.buf.length:Int)+(b.length:Int):=by omega
 have e4:List.take (((p.buf.length:Int)+(b.length:Int)).toNat - r.2.2) (List.drop r.2.2 (bytes (p.buf++b)))=bytes ((p.buf++b).drop r.2.2):=by
  rw[show((p.buf.length:Int)+(b.length:Int)).toNat=p.buf.length+b.length by omega,List.take_of_length_le (by simp[bytes])]
  simp[bytes]
 simp(disch:=omega) [f4,e4,VZ]
 refine cI (iE ((p.buf++b).drop r.2.2) (by rw[List.length_drop,List.length_append];omega)) ?_
 simp(disch:=omega) [wO,aH,aI,aN,VZ]
end Go.Eng.F
namespace Go.Eng.F
end Go.Eng.F
namespace Go.Eng.F
end Go.Eng.F
namespace Go.Eng.F
end Go.Eng.F
namespace Go.Eng.F
theorem At.le {b:Bytes} {a:Nat} {s:Bytes} (h:At b a s) (h0:0 < s.length):a+s.length≤b.length:=by
 rcases h.len with h1|h1
 ·exact h1
 ·rw[h1]at h0;simp at h0
def Cut (b:Bytes) (a:Nat) (s:Bytes):Prop:=a≤b.length∧∃k,k < s.length∧b.drop a=s.take k
theorem Cut.app {b:Bytes} {a:Nat} {s t:Bytes} (h:Cut b a (s++t)):Cut b a s∨(At b a s∧Cut b (a+s.length) t):=by
 obtain⟨h0,k,hk,h⟩:=h
 by_cases hs:k < s.length
 ·exact .inl ⟨h0,k,hs,by rw[h,List.take_append_of_le_length (by omega)]⟩
 ·have e:b.drop a=s++t.take (k - s.length):=by rw[h,List.take_append,List.take_of_length_le (by omega)]
  have hl:=congrArg List.length e
  simp only[List.length_drop,List.length_append,List.length_take]at hl hk
  refine .inr ⟨⟨_,e⟩,by omega,k - s.length,by omega,?_⟩
  rw[←List.drop_drop,e,List.drop_left]
theorem Cut.nil {b:Bytes} {a:Nat} (h:Cut b a []):False:=by
 obtain⟨_,k,hk,_⟩:=h
 simp at hk
theorem Lw {r:Rd} {c:Nat}:aw r false c=r:=by simp[aw]
theorem uk {l:ao} {h:Head} (w:eE l h=true):isNum h.view=true∧isNum h.height=true∧isNum h.proposer=true∧1≤h.height∧h.proposer < l.n∧h.parent.length=32∧h.root.length=32∧mV l h.qc=true∧fits h=true:=by
 simp only[eE,Bool.and_eq_true]at w
 have h1:=eM w.1.1.1.1.2
 have h2:=eM w.1.1.1.2
 have h3:l.ok=true:=by have:=w.1.1.1.1.1.1;simp only[mV,Bool.and_eq_true]at this;exact this.1.1.1.1.1.1
 have h4:=LI h3
 refine⟨w.1.1.1.1.1.2,by simp only[isNum,dK,decide_eq_true_eq];omega,by simp only[isNum,dK,decide_eq_true_eq];omega,h1.1,by omega,jT w.1.1.2,jT w.1.2,w.1.1.1.1.1.1,w.2⟩
theorem rk {l:ao} {x:Block} (h:iX l x=true):eE l x.head=true∧l.ok=true∧(x.txs.length:Int)≤l.txs∧(∀t∈x.txs,t.length≤l.tx.toNat)∧x.head.root=br x.txs:=by
 simp only[iX,Bool.and_eq_true,decide_eq_true_eq]at h
 have h3:l.ok=true:=by have:=h.1.1.1;simp only[eE,mV,Bool.and_eq_true]at this;exact this.1.1.1.1.1.1.1.1.1.1.1.1
 refine⟨h.1.1.1,h3,h.1.1.2,fun t ht=> ?_,h.2⟩
 have h2:=h.1.2
 simp only[FC,List.all_eq_true,decide_eq_true_eq]at h2
 have:=h2 t ht
 omega
def x7 (l:ao) (view:Int):Int→List Entry→Prop
 |_,[]=>True
 |bf,e::es=>((0≤e.who∧e.who < l.n∧bf < e.who)∧(0≤e.high∧e.high < view)∧e.tag.length=32)∧x7 l view e.who es
theorem Ai {l:ao} {t:Tc} (h:∀i < t.entries.length,FX l t i=true):∀(es pre:List Entry) (bf:Int),t.entries=pre++es→(pre= []∧bf= -1∨∃d,pre.getLast? =some d∧d.who=bf)→x7 l t.view bf es
 | [],_,_,_,_=>trivial
 |e::es,pre,bf,he,hp=>by
  have hi:t.entries[pre.length]? =some e:=by rw[he];simp
  have h1:=h pre.length (by rw[he];simp)
  simp only[FX,hi,Bool.and_eq_true,Bool.or_eq_true,decide_eq_true_eq]at h1
  obtain⟨⟨⟨a1,a2⟩,a3⟩,a4⟩:=h1
  have b1:=eM a1
  have b2:=eM a2
  refine⟨⟨⟨by omega,by omega,?_⟩,⟨by omega,by omega⟩,jT a3⟩,Ai h es (pre++ [e]) e.who (by rw[he];simp) (.inr ⟨e,by simp,rfl⟩)⟩
  rcases hp with⟨rfl,rfl⟩|⟨d,hd,rfl⟩
  ·omega
  ·have hn:pre≠ []:=by rintro rfl;simp at hd
   have hpl:0 < pre.length:=List.length_pos_iff.2 hn
   have h2:t.entries[pre.length - 1]? =some d:=by
    rw[he,List.getElem?_append_left (by omega),←List.getLast?_eq_getElem?]
    exact hd
   rw[h2]at a4
   rcases a4 with a4|a4
   ·omega
   ·simpa using a4
theorem AB {l:ao} {t:Tc} (h:CT l t=true):l.ok=true∧isNum t.view=true∧(t.entries.length:Int)≤l.n∧x7 l t.view (-1) t.entries:=by
 simp only[CT,Bool.and_eq_true,decide_eq_true_eq,List.all_eq_true,List.mem_range]at h
 exact⟨h.1.1.1,h.1.1.2,h.1.2,Ai h.2 t.entries [] (-1) rfl (.inl ⟨rfl,rfl⟩)⟩
theorem rn {l:ao} {p:Proof} (h:iT l p=true):l.ok=true∧(3≤p.heads.length∧(p.heads.length:Int)≤l.heads)∧(∀h∈p.heads,eE l h=true)∧mV l p.qc=true∧kh p=true:=by
 simp only[iT,Bool.and_eq_true,A5,List.all_eq_true]at h
 have h3:l.ok=true:=by have:=h.1.2;simp only[mV,Bool.and_eq_true]at this;exact this.1.1.1.1.1.1
 have:=eM h.1.1.1
 exact⟨h3,by omega,h.1.1.2,h.1.2,h.2⟩
theorem uA {l:ao} {x:ck} (h:nB l x=true):l.ok=true∧isNum x.height=true∧(1≤x.n∧x.n≤l.txs)∧(0≤x.idx∧x.idx < x.n)∧(x.tx.length:Int)≤l.tx∧x.path.length=bE x.idx.toNat x.n.toNat∧∀t∈x.path,t.length=32:=by
 simp only[nB,Bool.and_eq_true,decide_eq_true_eq,hashes,List.all_eq_true]at h
 have h1:=eM h.1.1.1.1.2
 have h2:=eM h.1.1.1.2
 exact⟨h.1.1.1.1.1.1,h.1.1.1.1.1.2,by omega,by omega,h.1.1.2,h.1.2,fun t ht=>jT (h.2 t ht)⟩
end Go.Eng.F
namespace Go.Eng.F
theorem At.join {b:Bytes} {a:Nat} {s t:Bytes} (h1:At b a s) (h2:At b (a+s.length) t):At b a (s++t):=by
 obtain⟨u,h1⟩:=h1
 obtain⟨w,h2⟩:=h2
 refine⟨w,?_⟩
 rw[←List.drop_drop,h1,List.drop_left]at h2
 rw[h1,h2,List.append_assoc]
def j9 (b:Bytes) (r:Rd) (s:Bytes) (r':Rd):Prop:=r.er=0∧At b r.at_ s∧r'=⟨r.at_+s.length,0⟩
theorem j9.nil {b:Bytes} {r:Rd} (h:r.er=0):j9 b r [] r:=⟨h,⟨b.drop r.at_,rfl⟩,by obtain⟨x,y⟩:=r;simp only at h;subst h;rfl⟩
theorem j9.join {b:Bytes} {r r1 r2:Rd} {s t:Bytes} (h1:j9 b r s r1) (h2:j9 b r1 t r2):j9 b r (s++t) r2:=by
 obtain⟨a1,a2,rfl⟩:=h1
 obtain⟨_,b2,rfl⟩:=h2
 exact⟨a1,a2.join b2,by simp only[List.length_append,Nat.add_assoc]⟩
theorem j9.er {b:Bytes} {r r1:Rd} {s:Bytes} (h:j9 b r s r1):r1.er=0:=by rw[h.2.2]
theorem Jh:∀(s:Bytes) (k n:Nat),(gv s k n).2.2=0→∃v,(k=0∨0 < v)∧(gv s k n).1=n+v * 128 ^ k∧(gv s k n).2.1=k+(ek v).length∧(∃t,s=ek v++t)∧n+v * 128 ^ k≤1152921504606846975
 | [],k,n,h=>by simp[gv]at h
 |c::r,k,n,h=>by
  have hc:c.toNat < 256:=c.toNat_lt
  have ec:UInt8.ofNat c.toNat=c:=by simp
  rw[gv]at h⊢
  split at h
  ·simp at h
  ·rename_i h1
   rw[if_neg h1]
   split at h
   ·rename_i h2
    rw[if_pos h2]
    split at h
    ·rename_i h3
     rw[if_pos h3]
     refine⟨c.toNat,by omega,rfl,by rw[F4 h2];rfl,⟨r,by rw[F4 h2,ec];rfl⟩,h3⟩
    ·simp at h
   ·rename_i h2
    rw[if_neg h2]
    obtain⟨v,e1,e2,e3,⟨t,e4⟩,e5⟩:=Jh r (k+1) (n+(c.toNat - 128) * 128 ^ k) h
    have hv:¬v * 128+(c.toNat - 128) < 128:=by omega
    have hd:(v * 128+(c.toNat - 128)) / 128=v:=by omega
    have hm:(v * 128+(c.toNat - 128)) % 128+128=c.toNat:=by omega
    have hb:ek (v * 128+(c.toNat - 128))=c::ek v:=by rw[JZ hv,hd,hm,ec]
    have hx:n+(c.toNat - 128) * 128 ^ k+v * 128 ^ (k+1)=n+(v * 128+(c.toNat - 128)) * 128 ^ k:=by
     rw[Nat.add_mul,Nat.pow_succ,Nat.mul_comm (128 ^ k) 128,←Nat.mul_assoc]
     omega
    refine⟨v * 128+(c.toNat - 128), .inr (by omega),by rw[e2,hx],by rw[e3,hb,List.length_cons];omega,⟨t,by rw[hb,e4];rfl⟩,by rw[←hx];exact e5⟩
theorem dZ {b:Bytes} {r:Rd} (h:(aM b r).2.er=0):j9 b r (ek (aM b r).1) (aM b r).2∧isNum ((aM b r).1:Int)=true:=by
 have h0:=E6 h
 simp only[aM,if_pos h0,getVar]at h⊢
 split at h
 ·rename_i h1
  obtain⟨v,_,e1,e2,⟨t,e3⟩,e4⟩:=Jh _ 0 0 h1
  rw[if_pos h1]
  simp only[Nat.zero_add,Nat.pow_zero,Nat.mul_one]at e1 e2 e4
  simp only[e1,e2]
  exact⟨⟨h0,⟨t,e3⟩,rfl⟩,by simp only[isNum,dK,decide_eq_true_eq];omega⟩
 ·rename_i h1
  exact absurd h h1
theorem dA {r:Rd} {bad:Bool} {c:Nat} (h:(aw r bad c).er=0) (hc:c≠0):aw r bad c=r∧bad=false:=by
 have e:=eD h hc
 subst e
 exact⟨Lw,rfl⟩
theorem fi {b:Bytes} {r:Rd} {N:Int} {c:Nat} (h:(aL b r N c).2.er=0) (hc:c≠0):j9 b r (ek (aL b r N c).1) (aL b r N c).2∧isNum ((aL b r N c).1:Int)=true∧((aL b r N c).1:Int) < N:=by
 have h1:=dA h hc
 have h2:=dZ (dI h)
 simp only[aL]at h1⊢
 rw[h1.1]
 exact⟨h2.1,h2.2,by simpa using h1.2⟩
theorem qN {b:Bytes} {a n:Nat} (h:(db b a n).2.er=0):At b a (db b a n).1∧(db b a n).1.length=n∧(db b a n).2=⟨a+n,0⟩:=by
 unfold db at h⊢
 split at h
 ·rename_i h1
  rw[if_pos h1]
  exact⟨⟨(b.drop a).drop n,(List.take_append_drop n (b.drop a)).symm⟩,by simp;omega,rfl⟩
 ·simp at h
theorem gF {b:Bytes} {r:Rd} {n:Nat} (h:(aY b r n).2.er=0):j9 b r (aY b r n).1 (aY b r n).2∧(aY b r n).1.length=n:=by
 have h0:=Ki h
 simp only[aY,if_pos h0]at h⊢
 have:=qN h
 exact⟨⟨h0,this.1,by rw[this.2.2,this.2.1]⟩,this.2.1⟩
theorem tj {b:Bytes} {r:Rd} {m:Nat} (h:(bW b r m).2.er=0):j9 b r (zM (bW b r m).1) (bW b r m).2∧(bW b r m).1.length≤m:=by
 have h0:=Dr h
 simp only[bW,if_pos h0,ej]at h⊢
 have ev:getVar b r.at_=aM b r:=by simp[aM,h0]
 rw[ev]at h⊢
 split at h
 ·rename_i h1
  exact absurd h h1
 ·rename_i h1
  rw[if_neg h1]
  split at h
  ·simp at h
  ·rename_i h2
   rw[if_neg h2]
   have g1:=dZ (Decidable.not_not.1 h1)
   have g2:=qN h
   have e2:(aM b r).2=⟨r.at_+(ek (aM b r).1).length,0⟩:=g1.1.2.2
   have g3:j9 b (aM b r).2 (db b (aM b r).2.at_ (aM b r).1).1 (db b (aM b r).2.at_ (aM b r).1).2:=⟨Decidable.not_not.1 h1,g2.1,by rw[g2.2.2,g2.2.1]⟩
   refine⟨?_,by rw[g2.2.1];omega⟩
   have:=g1.1.join g3
   unfold zM
   rw[g2.2.1]
   exact this
theorem Dc {b:Bytes} {a:Nat} {n:Int} (h:(bF b a n).2.er=0):At b a (bF b a n).1∧ef (bF b a n).1 n=true∧(bF b a n).2=⟨a+(bF b a n).1.length,0⟩:=by
 simp only[bF]at h⊢
 split at h
 ·rename_i h1
  exact absurd h h1
 ·rename_i h1
  rw[if_neg h1]
  split at h
  ·rename_i h2
   rw[if_pos h2]
   have g:=qN (Decidable.not_not.1 h1)
   exact⟨g.1,h2,by rw[g.2.2,g.2.1]⟩
  ·simp at h
theorem oD {α:Type} {b:Bytes} {f:Rd→α×Rd} {e:α→Bytes} {p:α→Prop} (hf:∀r,(f r).2.er=0→p (f r).1∧j9 b r (e (f r).1) (f r).2):∀(k:Nat) (r:Rd),(bj f k r).2.er=0→(∀x∈(bj f k r).1,p x)∧j9 b r ((bj f k r).1.map e).flatten (bj f k r).2
 |0,r,h=>⟨by simp[bj],j9.nil h⟩
 |k+1,r,h=>by
  by_cases h0:r.er=0
  ·rw[fe h0]at h⊢
   have h1:=oD hf k _ h
   have h2:=hf r h1.2.1
   exact⟨fun x hx=>by
    rcases List.mem_cons.1 hx with rfl|hx
    ·exact h2.1
    ·exact h1.1 x hx,by
    simp only[List.map_cons,List.flatten_cons]
    exact h2.2.join h1.2⟩
  ·rw[fv h0]at h
   exact absurd h h0
theorem DM {b:Bytes} {k:Nat} {r:Rd} (h:(el (fun r=>aY b r 32) k r).2.er=0):(∀x∈(el (fun r=>aY b r 32) k r).1,x.length=32)∧j9 b r (el (fun r=>aY b r 32) k r).1.flatten (el (fun r=>aY b r 32) k r).2:=by
 have h1:=tW (b:=b) k r
 rw[h1.1]at h
 have h2:=h1.2 h
 have h3:=oD (b:=b) (f:=fun r=>aY b r 32) (e:=fun x=>x) (p:=fun x=>x.length=32) (fun r hr=>⟨(gF hr).2,(gF hr).1⟩) k r h
 rw[h2,h1.1]
 simpa using h3
theorem iM {x:Bytes} (h:x.length=32):hash x=true:=by simp[hash,h]
theorem Gm {b:Bytes} {l:ao} {r:Rd} (hl:l.ok=true) (h:(eB b l r).2.er=0):Bk l (eB b l r).1=true∧j9 b r (OX (eB b l r).1) (eB b l r).2:=by
 have g5:=gF (show(aY b (aL b (aY b (aM b (aM b r).2).2 32).2 l.n 5).2 32).2.er=0 from h)
 have g4:=fi g5.1.1 (by omega)
 have g3:=gF g4.1.1
 have g2:=dZ g3.1.1
 have g1:=dZ g2.1.1
 refine⟨?_,g1.1.join (g2.1.join (g3.1.join (g4.1.join g5.1)))⟩
 have h4:dK ((aL b (aY b (aM b (aM b r).2).2 32).2 l.n 5).1:Int) 0 (l.n - 1)=true:=by simp only[dK,decide_eq_true_eq];omega
 simp only[Bk,eB,hl,g1.2,g2.2,iM g3.2,iM g5.2,h4,Bool.and_self]
theorem AO {b:Bytes} {l:ao} {r:Rd} (hl:l.ok=true) (h:(jD b l r).2.er=0):mV l (jD b l r).1=true∧j9 b r (MW (jD b l r).1) (jD b l r).2:=by
 by_cases h0:(aY b (aM b (aM b r).2).2 32).2.er=0
 ·simp only[jD,if_pos h0]at h⊢
  have g5:=DM h
  have g3:=gF h0
  have g2:=dZ g3.1.1
  have g1:=dZ g2.1.1
  have g4:=Dc g5.2.1
  have g4':j9 b (aY b (aM b (aM b r).2).2 32).2 (bF b (aY b (aM b (aM b r).2).2 32).2.at_ l.n).1 (bF b (aY b (aM b (aM b r).2).2 32).2.at_ l.n).2:=⟨h0,g4.1,g4.2.2⟩
  have h6:=g1.1.join (g2.1.join (g3.1.join (g4'.join g5.2)))
  refine⟨?_,by simp only[MW,List.append_assoc];exact h6⟩
  have h7:hashes (el (fun r=>aY b r 32) (aX (bF b (aY b (aM b (aM b r).2).2 32).2.at_ l.n).1).length (bF b (aY b (aM b (aM b r).2).2 32).2.at_ l.n).2).1=true:=by
   simp only[hashes,List.all_eq_true]
   exact fun x hx=>iM (g5.1 x hx)
  simp only[mV,hl,g1.2,g2.2,iM g3.2,g4.2.1,sP,decide_true,h7,Bool.and_self]
 ·simp only[jD,if_neg h0]at h
  exact absurd h h0
theorem j9.fail {b:Bytes} {r r':Rd} {bad:Bool} {c:Nat} {s:Bytes} (h:j9 b (aw r bad c) s r') (hc:c≠0):j9 b r s r':=by
 have e:=(dA h.1 hc).1
 rw[e]at h
 exact h
theorem j9.len {b:Bytes} {r r':Rd} {s t:Bytes} {n m:Nat} (h:j9 b r (s++(ek n++t)) r') (e:m=n):j9 b r (s++(ek m++t)) r':=by
 rw[e]
 exact h
theorem ur {b:Bytes} {l:ao} {r:Rd} (hl:l.ok=true) (h:(bJ b l r).2.er=0):eE l (bJ b l r).1=true∧j9 b r (ry (bJ b l r).1) (bJ b l r).2:=by
 simp only[bJ]at h⊢
 have f7:=dA h (by omega)
 have h':=dI h
 rw[f7.1]
 have g6:=AO hl h'
 have g5:=gF g6.2.1
 have g4:=gF g5.1.1
 have g3:=fi g4.1.1 (by omega)
 have f3:=dA g3.1.1 (by omega)
 have g2:=dZ (dI g3.1.1)
 have g1:=dZ g2.1.1
 have h2:dK ((aM b (aM b r).2).1:Int) 1 1152921504606846975=true:=by
  have a1:=eM g2.2
  have a2:=f3.2
  simp only[decide_eq_false_iff_not]at a2
  simp only[dK,decide_eq_true_eq]
  omega
 have h7:=f7.2
 rw[Bool.not_eq_false']at h7
 generalize e3:aL b (aw (aM b (aM b r).2).2 (decide ((aM b (aM b r).2).1=0)) 5) l.n 5=s3 at g3 g4 g5 g6 h7⊢
 have h6:=g1.1.join (g2.1.join ((g3.1.fail (by omega)).join (g4.1.join (g5.1.join g6.2))))
 refine⟨?_,by simp only[ry,List.append_assoc,Int.toNat_natCast];exact h6⟩
 have h3:dK (s3.1:Int) 0 (l.n - 1)=true:=by simp only[dK,decide_eq_true_eq];omega
 simp only[eE,g6.1,g1.2,h2,h3,iM g4.2,iM g5.2,h7,Bool.and_self]
theorem D9 {b:Bytes} {l:ao} {r:Rd} (hl:l.ok=true) (h:(cm b l r).2.er=0):iX l (cm b l r).1=true∧j9 b r (AN (cm b l r).1) (cm b l r).2:=by
 have hL:=dw hl
 simp only[cm]at h⊢
 have f3:=dA h (by omega)
 have h':=dI h
 rw[f3.1]
 have g3:=oD (b:=b) (f:=fun r=>bW b r l.tx.toNat) (e:=zM) (p:=fun x=>x.length≤l.tx.toNat) (fun r hr=>⟨(tj hr).2,(tj hr).1⟩) _ _ h'
 have g4:=re _ _ h'
 have g2:=fi g3.2.1 (by omega)
 have g1:=ur hl g2.1.1
 have h5:=f3.2
 simp only[decide_eq_false_iff_not,Decidable.not_not]at h5
 generalize aL b (bJ b l r).2 (l.txs+1) 3=s2 at g2 g3 g4 h5⊢
 generalize bj (fun r=>bW b r l.tx.toNat) s2.1 s2.2=s3 at g3 g4 h5⊢
 have h6:=g1.2.join (g2.1.join g3.2)
 refine⟨?_,h6.len g4⟩
 have h4:FC l s3.1=true:=by
  simp only[FC,List.all_eq_true,decide_eq_true_eq]
  intro x hx
  have:=g3.1 x hx
  have:=hL.2.1
  omega
 simp only[iX,Bool.and_eq_true,decide_eq_true_eq]
 exact⟨⟨⟨g1.1,by rw[g4];omega⟩,h4⟩,h5⟩
theorem zL {b:Bytes} {l:ao} {view:Int}:∀(k:Nat) (bf:Int) (r:Rd),(eA b l view k bf r).2.er=0→(eA b l view k bf r).1.length=k∧x7 l view bf (eA b l view k bf r).1∧j9 b r ((eA b l view k bf r).1.map OH).flatten (eA b l view k bf r).2
 |0,bf,r,h=>⟨rfl,trivial,j9.nil h⟩
 |k+1,bf,r,h=>by
  by_cases h0:r.er=0
  ·simp only[kb h0]at h⊢
   have h1:=zL k _ _ h
   have g3:=gF h1.2.2.1
   have g2:=fi g3.1.1 (by omega)
   have f1:=dA g2.1.1 (by omega)
   have g1:=fi (dI g2.1.1) (by omega)
   have h2:=f1.2
   simp only[decide_eq_false_iff_not]at h2
   generalize aL b (aw (aL b r l.n 5).2 (decide (((aL b r l.n 5).1:Int)≤bf)) 6) view 6=s2 at g2 g3 h1⊢
   have b1:0≤((aL b r l.n 5).1:Int)∧((aL b r l.n 5).1:Int) < l.n∧bf < ((aL b r l.n 5).1:Int):=⟨by omega,g1.2.2,by omega⟩
   have b2:0≤(s2.1:Int)∧(s2.1:Int) < view:=⟨by omega,g2.2.2⟩
   refine⟨by simp only[List.length_cons,h1.1],⟨⟨b1,b2,g3.2⟩,h1.2.1⟩,?_⟩
   simp only[List.map_cons,List.flatten_cons]
   exact j9.join (g1.1.join ((g2.1.fail (by omega)).join g3.1)) h1.2.2
  ·rw[oJ h0]at h
   exact absurd h h0
theorem ox {l:ao} {view:Int}:∀(es:List Entry) (bf:Int),x7 l view bf es→∀(i:Nat) (e:Entry),es[i]? =some e→(0≤e.who∧e.who < l.n)∧(0≤e.high∧e.high < view)∧e.tag.length=32∧(i=0∧bf < e.who∨0 < i∧∃d,es[i - 1]? =some d∧d.who < e.who)
 | [],_,_,i,e,h=>by simp at h
 |x::es,bf,⟨⟨h1,h2,h3⟩,hr⟩,0,e,h=>by
  simp only[List.getElem?_cons_zero,Option.some.injEq]at h
  subst h
  exact⟨⟨h1.1,h1.2.1⟩,h2,h3, .inl ⟨rfl,h1.2.2⟩⟩
 |x::es,bf,⟨⟨h1,h2,h3⟩,hr⟩,i+1,e,h=>by
  rw[List.getElem?_cons_succ]at h
  obtain⟨a1,a2,a3,a4⟩:=ox es x.who hr i e h
  refine⟨a1,a2,a3, .inr ⟨by omega,?_⟩⟩
  rcases a4 with⟨rfl,a4⟩|⟨a5,d,a6,a7⟩
  ·exact⟨x,rfl,a4⟩
  ·refine⟨d,?_,a7⟩
   obtain⟨j,rfl⟩:∃j,i=j+1:=⟨i - 1,by omega⟩
   simpa using a6
theorem Kz {b:Bytes} {l:ao} {r:Rd} (hl:l.ok=true) (h:(uo b l r).2.er=0):CT l (uo b l r).1=true∧j9 b r (OV (uo b l r).1) (uo b l r).2:=by
 simp only[uo]at h⊢
 have g3:=zL _ _ _ h
 have g2:=fi g3.2.2.1 (by omega)
 have g1:=dZ g2.1.1
 have h6:=g1.1.join (g2.1.join g3.2.2)
 refine⟨?_,h6.len g3.1⟩
 simp only[CT,hl,g1.2,Bool.and_eq_true,decide_eq_true_eq,List.all_eq_true,List.mem_range]
 refine⟨⟨⟨trivial,trivial⟩,by rw[g3.1];omega⟩,fun i hi=> ?_⟩
 have hg:=List.getElem?_eq_getElem hi
 obtain⟨a1,a2,a3,a4⟩:=ox _ _ g3.2.1 i _ hg
 have b1:∀n hi:Int,0≤n→n < hi→dK n 0 (hi - 1)=true:=fun n hi h1 h2=>by simp only[dK,decide_eq_true_eq];omega
 simp only[FX,hg,b1 _ _ a1.1 a1.2,b1 _ _ a2.1 a2.2,iM a3,Bool.true_and,Bool.or_eq_true,decide_eq_true_eq]
 rcases a4 with⟨a4,_⟩|⟨_,d,a5,a6⟩
 ·exact .inl a4
 ·exact .inr (by rw[a5];simpa using a6)
theorem Eg {b:Bytes} {l:ao} {r:Rd} (hl:l.ok=true) (h:(b7 b l r).2.er=0):iT l (b7 b l r).1=true∧j9 b r (Bj (b7 b l r).1) (b7 b l r).2:=by
 simp only[b7]at h⊢
 have f3:=dA h (by omega)
 have h':=dI h
 rw[f3.1]
 have g3:=AO hl h'
 have g2:=oD (b:=b) (f:=bJ b l) (e:=ry) (p:=fun x=>eE l x=true) (fun r hr=>ur hl hr) _ _ g3.2.1
 have g4:=re _ _ g3.2.1
 have f2:=dA g2.2.1 (by omega)
 have f1:=dA (dI g2.2.1) (by omega)
 have g1:=dZ (dI (dI g2.2.1))
 have a3:=f3.2
 rw[Bool.not_eq_false']at a3
 have a1:=f1.2
 have a2:=f2.2
 simp only[decide_eq_false_iff_not]at a1 a2
 generalize bj (bJ b l) (aM b r).1 (aw (aw (aM b r).2 (decide ((aM b r).1 < 3)) 5) (decide (l.heads < ((aM b r).1:Int))) 3)=s2 at g2 g3 g4 a3⊢
 have h6:=j9.join (s:= []) (j9.nil g1.1.1) (g1.1.join (((g2.2.fail (by omega)).fail (by omega)).join g3.2))
 refine⟨?_,h6.len g4⟩
 simp only[iT,Bool.and_eq_true,A5,List.all_eq_true]
 exact⟨⟨⟨by rw[g4];simp only[dK,decide_eq_true_eq];omega,g2.1⟩,g3.1⟩,a3⟩
theorem Et {b:Bytes} {l:ao} {r:Rd} (h:(bq b l r).2.er=0):(isNum ((bq b l r).1.1:Int)=true∧(1≤(bq b l r).1.2.1∧((bq b l r).1.2.1:Int)≤l.txs)∧(bq b l r).1.2.2.1 < (bq b l r).1.2.1∧(bq b l r).1.2.2.2.length≤l.tx.toNat)∧j9 b r (ek (bq b l r).1.1++(ek (bq b l r).1.2.1++(ek (bq b l r).1.2.2.1++zM (bq b l r).1.2.2.2))) (bq b l r).2:=by
 simp only[bq]at h⊢
 have g4:=tj h
 have g3:=fi g4.1.1 (by omega)
 have f2:=dA g3.1.1 (by omega)
 have f1:=dA (dI g3.1.1) (by omega)
 have g2:=dZ (dI (dI g3.1.1))
 have g1:=dZ g2.1.1
 have a1:=f1.2
 have a2:=f2.2
 simp only[decide_eq_false_iff_not]at a1 a2
 have a3:=g3.2.2
 exact⟨⟨g1.2,by omega,by omega,g4.2⟩,g1.1.join (g2.1.join (((g3.1.fail (by omega)).fail (by omega)).join g4.1))⟩
theorem GX {b:Bytes} {l:ao} {r:Rd} (hl:l.ok=true) (h:(ei b l r).2.er=0):nB l (ei b l r).1=true∧j9 b r (E9 (ei b l r).1) (ei b l r).2:=by
 have hL:=dw hl
 have hL1:=hL.2.1
 by_cases h0:(bq b l r).2.er=0
 ·simp only[ei,if_pos h0]at h⊢
  obtain⟨⟨b1,b2,b3,b4⟩,b5⟩:=Et h0
  have g5:=DM h
  have gl:=sP (f:=fun r=>aY b r 32) (bE (bq b l r).1.2.2.1 (bq b l r).1.2.1) (bq b l r).2
  generalize el (fun r=>aY b r 32) (bE (bq b l r).1.2.2.1 (bq b l r).1.2.1) (bq b l r).2=s5 at g5 gl⊢
  generalize bq b l r=s0 at *
  have h6:=b5.join g5.2
  simp only[List.append_assoc]at h6
  refine⟨?_,h6⟩
  have c1:dK (s0.1.2.1:Int) 1 l.txs=true:=by simp only[dK,decide_eq_true_eq];omega
  have c2:dK (s0.1.2.2.1:Int) 0 ((s0.1.2.1:Int) - 1)=true:=by simp only[dK,decide_eq_true_eq];omega
  simp only[nB,hl,b1,c1,c2,Bool.true_and,Bool.and_eq_true,decide_eq_true_eq,hashes,List.all_eq_true,Int.toNat_natCast]
  exact⟨⟨by omega,gl⟩,fun x hx=>iM (g5.1 x hx)⟩
 ·simp only[ei,if_neg h0]at h
  exact absurd h h0
end Go.Eng.F
namespace Go.Eng.F
theorem AU {a b:cX}:yl a b=true↔a=b:=by
 obtain⟨_,_,_,_,_⟩:=a
 obtain⟨_,_,_,_,_⟩:=b
 simp[yl,and_assoc]
theorem q9 {a b:Qc}:wP a b=true↔a=b:=by
 obtain⟨_,_,_,_,_⟩:=a
 obtain⟨_,_,_,_,_⟩:=b
 simp[wP,and_assoc]
theorem j4 {a b:Head}:nI a b=true↔a=b:=by
 obtain⟨_,_,_,_,_,_⟩:=a
 obtain⟨_,_,_,_,_,_⟩:=b
 simp[nI,and_assoc,q9]
theorem yI {a b:Block}:tG a b=true↔a=b:=by
 obtain⟨_,_⟩:=a
 obtain⟨_,_⟩:=b
 simp[tG,j4]
theorem Bv {a b:ck}:xv a b=true↔a=b:=by
 obtain⟨_,_,_,_,_⟩:=a
 obtain⟨_,_,_,_,_⟩:=b
 simp[xv,and_assoc]
theorem Dv {a b:Entry}:AW a b=true↔a=b:=by
 obtain⟨_,_,_⟩:=a
 obtain⟨_,_,_⟩:=b
 simp[AW,and_assoc]
theorem uY {α:Type} {f:α→α→Bool} (hf:∀x y,f x y=true↔x=y) {a b:List α}:wu f a b=true↔a=b:=by
 simp only[wu,Bool.and_eq_true,decide_eq_true_eq,List.all_eq_true,List.mem_range]
 constructor
 ·rintro⟨h1,h2⟩
  refine List.ext_getElem h1 fun i hi hj=> ?_
  have:=h2 i hj
  rw[List.getElem?_eq_getElem hi,List.getElem?_eq_getElem hj]at this
  exact(hf _ _).1 this
 ·rintro rfl
  refine⟨rfl,fun i hi=> ?_⟩
  rw[List.getElem?_eq_getElem hi]
  exact(hf _ _).2 rfl
theorem yQ {a b:Proof}:tk a b=true↔a=b:=by
 obtain⟨_,_⟩:=a
 obtain⟨_,_⟩:=b
 simp[tk,Al,q9,uY (fun x y=> @j4 x y)]
theorem Er {a b:Tc}:Ei a b=true↔a=b:=by
 obtain⟨_,_⟩:=a
 obtain⟨_,_⟩:=b
 simp[Ei,uY (fun x y=> @Dv x y)]
theorem dP {a b:cg}:BX a b=true↔a=b:=by
 obtain⟨_,_,_,_,_,_,_,_⟩:=a
 obtain⟨_,_,_,_,_,_,_,_⟩:=b
 simp[BX,and_assoc,AU,q9,j4,yI,Er,yQ,Bv]
theorem xl {l:ao} {m:cg} (h:eO l m=true):m=gD m:=by
 simp only[eO,Bool.and_eq_true]at h
 exact dP.1 h.2
theorem Ed {l:ao} {x:Head} (h:eE l x=true):l.ok=true:=DF (uk h).2.2.2.2.2.2.2.1
theorem Hv {l:ao} {v:cX} (h:Bk l v=true):l.ok=true:=by
 simp only[Bk,Bool.and_eq_true]at h
 exact h.1.1.1.1.1
theorem iq {b:Bytes} {m:cg} {r:Rd} (h:(cz b m r).2=0):r.er=0∧r.at_=b.length∧cz b m r=(m,0):=by
 unfold cz at h⊢
 split at h
 ·rename_i h1;exact absurd h h1
 ·rename_i h1
  rw[if_neg h1]
  split at h
  ·simp at h
  ·rename_i h2
   rw[if_neg h2]
   exact⟨Decidable.not_not.1 h1,Decidable.not_not.1 h2,rfl⟩
theorem kl {b:Bytes} {m:cg} {r:Rd} (h:r.er≤9):(cz b m r).2≤9:=by
 unfold cz
 split
 ·exact h
 ·split <;>simp
theorem j9.rest {c:UInt8} {t s:Bytes} {r':Rd} (h:j9 (c::t) ⟨1,0⟩ s r') (ha:r'.at_=(c::t).length):t=s:=by
 obtain⟨_,⟨u,hu⟩,h2⟩:=h
 rw[h2]at ha
 simp only[List.length_cons]at ha
 simp only[List.drop_succ_cons,List.drop_zero]at hu
 have hl:=congrArg List.length hu
 rw[List.length_append]at hl
 have:u= []:=List.eq_nil_of_length_eq_zero (by omega)
 rw[this,List.append_nil]at hu
 exact hu
theorem im {k:Nat} (hk:k < 256) {m:cg} (h:m.kind=(k:Int)):(fW m).toNat=k:=by
 rw[fW,h]
 exact Nr hk
theorem BG {l:ao} {m:cg} (h:m.kind=1):dD l m=Bk l m.vote∧ep m=OX m.vote∧gD m= {ay with kind:=1,vote:=m.vote}∧(fW m).toNat=1:=by
 refine⟨by simp[dD,h],by simp[ep,h],by simp[gD,h],im (k:=1) (by omega) h⟩
theorem Bz {l:ao} {m:cg} (h:m.kind=2):dD l m=mV l m.qc∧ep m=MW m.qc∧gD m= {ay with kind:=2,qc:=m.qc}∧(fW m).toNat=2:=by
 refine⟨by simp[dD,h],by simp[ep,h],by simp[gD,h],im (k:=2) (by omega) h⟩
theorem BZ {l:ao} {m:cg} (h:m.kind=3):dD l m=eE l m.head∧ep m=ry m.head∧gD m= {ay with kind:=3,head:=m.head}∧(fW m).toNat=3:=by
 refine⟨by simp[dD,h],by simp[ep,h],by simp[gD,h],im (k:=3) (by omega) h⟩
theorem Ar {l:ao} {m:cg} (h:m.kind=4):dD l m=iX l m.block∧ep m=AN m.block∧gD m= {ay with kind:=4,block:=m.block}∧(fW m).toNat=4:=by
 refine⟨by simp[dD,h],by simp[ep,h],by simp[gD,h],im (k:=4) (by omega) h⟩
theorem Ao {l:ao} {m:cg} (h:m.kind=5):dD l m=CT l m.tc∧ep m=OV m.tc∧gD m= {ay with kind:=5,tc:=m.tc}∧(fW m).toNat=5:=by
 refine⟨by simp[dD,h],by simp[ep,h],by simp[gD,h],im (k:=5) (by omega) h⟩
theorem Bb {l:ao} {m:cg} (h:m.kind=6):dD l m=iT l m.proof∧ep m=Bj m.proof∧gD m= {ay with kind:=6,proof:=m.proof}∧(fW m).toNat=6:=by
 refine⟨by simp[dD,h],by simp[ep,h],by simp[gD,h],im (k:=6) (by omega) h⟩
theorem Bd {l:ao} {m:cg} (h:m.kind=7):dD l m=nB l m.incl∧ep m=E9 m.incl∧gD m= {ay with kind:=7,incl:=m.incl}∧(fW m).toNat=7:=by
 refine⟨by simp[dD,h],by simp[ep,h],by simp[gD,h],im (k:=7) (by omega) h⟩
theorem Pn {l:ao} {x:cX} (h:Bk l x=true):eO l {ay with kind:=1,vote:=x}=true∧fW {ay with kind:=1,vote:=x}=UInt8.ofNat 1∧ep {ay with kind:=1,vote:=x}=OX x:=by
 obtain⟨p1,p2,p3,p4⟩:=BG (l:=l) (m:= {ay with kind:=1,vote:=x}) rfl
 exact⟨by simp only[eO,p1,h,Bool.true_and,p3];exact dP.2 rfl,rfl,p2⟩
theorem Pf {l:ao} {x:Qc} (h:mV l x=true):eO l {ay with kind:=2,qc:=x}=true∧fW {ay with kind:=2,qc:=x}=UInt8.ofNat 2∧ep {ay with kind:=2,qc:=x}=MW x:=by
 obtain⟨p1,p2,p3,p4⟩:=Bz (l:=l) (m:= {ay with kind:=2,qc:=x}) rfl
 exact⟨by simp only[eO,p1,h,Bool.true_and,p3];exact dP.2 rfl,rfl,p2⟩
theorem PB {l:ao} {x:Head} (h:eE l x=true):eO l {ay with kind:=3,head:=x}=true∧fW {ay with kind:=3,head:=x}=UInt8.ofNat 3∧ep {ay with kind:=3,head:=x}=ry x:=by
 obtain⟨p1,p2,p3,p4⟩:=BZ (l:=l) (m:= {ay with kind:=3,head:=x}) rfl
 exact⟨by simp only[eO,p1,h,Bool.true_and,p3];exact dP.2 rfl,rfl,p2⟩
theorem PE {l:ao} {x:Block} (h:iX l x=true):eO l {ay with kind:=4,block:=x}=true∧fW {ay with kind:=4,block:=x}=UInt8.ofNat 4∧ep {ay with kind:=4,block:=x}=AN x:=by
 obtain⟨p1,p2,p3,p4⟩:=Ar (l:=l) (m:= {ay with kind:=4,block:=x}) rfl
 exact⟨by simp only[eO,p1,h,Bool.true_and,p3];exact dP.2 rfl,rfl,p2⟩
theorem Pq {l:ao} {x:Tc} (h:CT l x=true):eO l {ay with kind:=5,tc:=x}=true∧fW {ay with kind:=5,tc:=x}=UInt8.ofNat 5∧ep {ay with kind:=5,tc:=x}=OV x:=by
 obtain⟨p1,p2,p3,p4⟩:=Ao (l:=l) (m:= {ay with kind:=5,tc:=x}) rfl
 exact⟨by simp only[eO,p1,h,Bool.true_and,p3];exact dP.2 rfl,rfl,p2⟩
theorem Px {l:ao} {x:Proof} (h:iT l x=true):eO l {ay with kind:=6,proof:=x}=true∧fW {ay with kind:=6,proof:=x}=UInt8.ofNat 6∧ep {ay with kind:=6,proof:=x}=Bj x:=by
 obtain⟨p1,p2,p3,p4⟩:=Bb (l:=l) (m:= {ay with kind:=6,proof:=x}) rfl
 exact⟨by simp only[eO,p1,h,Bool.true_and,p3];exact dP.2 rfl,rfl,p2⟩
theorem Ps {l:ao} {x:ck} (h:nB l x=true):eO l {ay with kind:=7,incl:=x}=true∧fW {ay with kind:=7,incl:=x}=UInt8.ofNat 7∧ep {ay with kind:=7,incl:=x}=E9 x:=by
 obtain⟨p1,p2,p3,p4⟩:=Bd (l:=l) (m:= {ay with kind:=7,incl:=x}) rfl
 exact⟨by simp only[eO,p1,h,Bool.true_and,p3];exact dP.2 rfl,rfl,p2⟩
theorem D4 {l:ao} {m:cg} (h:dD l m=true):l.ok=true:=by
 rcases nF h with e|e|e|e|e|e|e
 ·rw[(BG (l:=l) e).1]at h;exact Hv h
 ·rw[(Bz (l:=l) e).1]at h;exact DF h
 ·rw[(BZ (l:=l) e).1]at h;exact Ed h
 ·rw[(Ar (l:=l) e).1]at h;exact(rk h).2.1
 ·rw[(Ao (l:=l) e).1]at h;exact(AB h).1
 ·rw[(Bb (l:=l) e).1]at h;exact(rn h).1
 ·rw[(Bd (l:=l) e).1]at h;exact(uA h).1
theorem Jd {l:ao} {c:UInt8} {t:Bytes} (hl:l.ok=true) (h:(gm l (c::t) c.toNat).2=0):∃m,gm l (c::t) c.toNat=(m,0)∧eO l m=true∧fW m::ep m=c::t:=by
 have hc:c.toNat < 256:=c.toNat_lt
 have ec:UInt8.ofNat c.toNat=c:=by simp
 have hk:c.toNat=1∨c.toNat=2∨c.toNat=3∨c.toNat=4∨c.toNat=5∨c.toNat=6∨c.toNat=7:=by
  apply Decidable.byContradiction
  intro hn
  rw[vT (by omega)]at h
  simp at h
 generalize hk0:c.toNat=k at h hk ec⊢
 rcases hk with rfl|rfl|rfl|rfl|rfl|rfl|rfl
 ·simp only[gm]at h⊢
  obtain⟨g1,g2,g3⟩:=iq h
  obtain⟨g4,g5⟩:=Gm hl g1
  obtain⟨p1,p2,p3⟩:=Pn g4
  exact⟨_,g3,p1,by rw[p2,p3,←g5.rest g2,ec]⟩
 ·simp only[gm]at h⊢
  obtain⟨g1,g2,g3⟩:=iq h
  obtain⟨g4,g5⟩:=AO hl g1
  obtain⟨p1,p2,p3⟩:=Pf g4
  exact⟨_,g3,p1,by rw[p2,p3,←g5.rest g2,ec]⟩
 ·simp only[gm]at h⊢
  obtain⟨g1,g2,g3⟩:=iq h
  obtain⟨g4,g5⟩:=ur hl g1
  obtain⟨p1,p2,p3⟩:=PB g4
  exact⟨_,g3,p1,by rw[p2,p3,←g5.rest g2,ec]⟩
 ·simp only[gm]at h⊢
  obtain⟨g1,g2,g3⟩:=iq h
  obtain⟨g4,g5⟩:=D9 hl g1
  obtain⟨p1,p2,p3⟩:=PE g4
  exact⟨_,g3,p1,by rw[p2,p3,←g5.rest g2,ec]⟩
 ·simp only[gm]at h⊢
  obtain⟨g1,g2,g3⟩:=iq h
  obtain⟨g4,g5⟩:=Kz hl g1
  obtain⟨p1,p2,p3⟩:=Pq g4
  exact⟨_,g3,p1,by rw[p2,p3,←g5.rest g2,ec]⟩
 ·simp only[gm]at h⊢
  obtain⟨g1,g2,g3⟩:=iq h
  obtain⟨g4,g5⟩:=Eg hl g1
  obtain⟨p1,p2,p3⟩:=Px g4
  exact⟨_,g3,p1,by rw[p2,p3,←g5.rest g2,ec]⟩
 ·simp only[gm]at h⊢
  obtain⟨g1,g2,g3⟩:=iq h
  obtain⟨g4,g5⟩:=GX hl g1
  obtain⟨p1,p2,p3⟩:=Ps g4
  exact⟨_,g3,p1,by rw[p2,p3,←g5.rest g2,ec]⟩
theorem K3 {l:ao} {b:Bytes} (h:(dec l b).2=0):∃m,dec l b=(m,0)∧eO l m=true∧fW m::ep m=b:=by
 by_cases hl:l.ok=true
 ·cases b with
  |nil=>rw[oE hl (by simp)]at h;simp at h
  |cons c t=>
   have e:=Du (b:=c::t) hl (by simp)
   rw[e]at h⊢
   exact Jd hl h
 ·rw[wA hl]at h
  simp at h
theorem Iq {b:Bytes} {l:ao} {r:Rd} (h:r.wf b):(eB b l r).2.er≤9:=by
 have h5:=(bS (cN (n:=l.n) (c:=5) (bS (aR (aR h).1).1 32).1 (by omega)).1 32).1.2
 exact h5
theorem MP {b:Bytes} {l:ao} {r:Rd} (h:r.wf b):(jD b l r).2.er≤9:=(ij h).1.2
theorem Hq {b:Bytes} {l:ao} {r:Rd} (h:r.wf b):(bJ b l r).2.er≤9:=(fO h).1.2
theorem GL {b:Bytes} {l:ao} {r:Rd} (h:r.wf b):(cm b l r).2.er≤9:=by
 have h2:=(cN (n:=l.txs+1) (c:=3) (fO (l:=l) h).1 (by omega)).1
 simp only[cm]
 exact(aV (xK (f:=fun r=>bW b r l.tx.toNat) (fun r hr=>(eX hr _).1) _ _ h2) (by omega)).2
theorem DE {b:Bytes} {l:ao} {view:Int}:∀(k:Nat) (bf:Int) (r:Rd),r.wf b→(eA b l view k bf r).2.wf b
 |0,bf,r,h=>h
 |k+1,bf,r,h=>by
  by_cases h0:r.er=0
  ·rw[kb h0]
   exact DE k _ _ (bS (cN (aV (cN h (by omega)).1 (by omega)) (by omega)).1 32).1
  ·rw[oJ h0]
   exact h
theorem MO {b:Bytes} {l:ao} {r:Rd} (h:r.wf b):(uo b l r).2.er≤9:=by
 simp only[uo]
 exact(DE _ _ _ (cN (n:=l.n+1) (c:=3) (aR h).1 (by omega)).1).2
theorem GQ {b:Bytes} {l:ao} {r:Rd} (h:r.wf b):(b7 b l r).2.er≤9:=by
 have h2:(aw (aw (aM b r).2 (decide ((aM b r).1 < 3)) 5) (decide (l.heads < ((aM b r).1:Int))) 3).wf b:=aV (aV (aR h).1 (by omega)) (by omega)
 simp only[b7]
 exact(aV (ij (xK (f:=bJ b l) (fun r hr=>(fO hr).1) _ _ h2)).1 (by omega)).2
theorem Ho {b:Bytes} {l:ao} {r:Rd} (h:r.wf b):(ei b l r).2.er≤9:=by
 have h2:(bq b l r).2.wf b:=by
  simp only[bq]
  exact(eX (cN (aV (aV (aR (aR h).1).1 (by omega)) (by omega)) (by omega)).1 _).1
 simp only[ei]
 split
 ·exact(A6 (fun r hr=>(bS hr 32).1) _ _ h2).2
 ·exact h2.2
theorem MA (l:ao) (b:Bytes):(dec l b).2≤9:=by
 by_cases hl:l.ok=true
 ·by_cases hb:0 < b.length
  ·rw[Du hl hb]
   by_cases hk:b[0].toNat=0∨8≤b[0].toNat
   ·rw[vT hk]
    simp
   ·have hL:=dw hl
    have w:Rd.wf b ⟨1,0⟩:=⟨by simp only;omega,by simp⟩
    have hk2:b[0].toNat=1∨b[0].toNat=2∨b[0].toNat=3∨b[0].toNat=4∨b[0].toNat=5∨b[0].toNat=6∨b[0].toNat=7:=by omega
    generalize b[0].toNat=k at hk2⊢
    rcases hk2 with rfl|rfl|rfl|rfl|rfl|rfl|rfl
    ·exact kl (Iq (l:=l) w)
    ·exact kl (MP (l:=l) w)
    ·exact kl (Hq (l:=l) w)
    ·exact kl (GL (l:=l) w)
    ·exact kl (MO (l:=l) w)
    ·exact kl (GQ (l:=l) w)
    ·exact kl (Ho (l:=l) w)
  ·rw[oE hl hb]
   simp
 ·rw[wA hl]
  simp
end Go.Eng.F
namespace Go.Eng.F
end Go.Eng.F
namespace Go.Eng.F
end Go.Eng.F
namespace Go.Eng.F
theorem EW (s:Bytes) (a n:Nat):dr s a n=dr (s.drop a) 0 n:=by
 simp only[dr,List.drop_drop,Nat.zero_add]
theorem Bh (l:ao) (s:Bytes) (a:Nat):av l s a=av l (s.drop a) 0:=by
 have e1:∀i,(s.drop a).getD i 0=s.getD (a+i) 0:=fun i=>by simp only[List.getD_eq_getElem?_getD,List.getElem?_drop]
 have e2:ra (s.drop a) 0=ra s a:=by simp only[ra,List.drop_drop,Nat.zero_add]
 have e3:FG (s.drop a) 0=FG s a:=by simp only[FG,List.drop_drop,Nat.zero_add]
 have e4:Cc (s.drop a) 0=Cc s a:=by simp only[Cc,List.drop_drop,Nat.zero_add,e2]
 have c1:(0 < (s.drop a).length)=(a < s.length):=propext (by rw[List.length_drop];omega)
 have c2:(1 < (s.drop a).length)=(a+1 < s.length):=propext (by rw[List.length_drop];omega)
 have c3:(s.drop a).length - 0=s.length - a:=by rw[List.length_drop];omega
 simp only[av,c1,c2,c3,e1,e2,e3,e4,Nat.add_zero,Nat.zero_add]
def fR (l:ao) (cl:Bool):Nat→Bytes→Nat→List Ev×Nat×Bytes
 |0,u,k=>([],k,u)
 |g+1,u,k=>
  if u= []then([],k,[])
  else if(av l u 0).1=1∧cl=false then([],k,u)
  else if(av l u 0).1≠3 then fR l cl g (u.drop 1) (k+1)
  else((c5 k++ [ky l (dr u 0 (av l u 0).2.toNat)])++(fR l cl g (u.drop (av l u 0).2.toNat) 0).1,(fR l cl g (u.drop (av l u 0).2.toNat) 0).2)
theorem eJ (l:ao) (cl:Bool) (g k:Nat):fR l cl g [] k=([],k,[]):=by
 cases g
 ·rfl
 ·rw[fR,if_pos rfl]
theorem BQ {l:ao} {s:Bytes} {cl:Bool}:∀(g a k:Nat) (e:List Ev),a≤s.length→dq l s cl g a k e=(e++(fR l cl g (s.drop a) k).1,(fR l cl g (s.drop a) k).2.1,s.length - (fR l cl g (s.drop a) k).2.2.length)
 |0,a,k,e,h=>by simp[dq,fR];omega
 |g+1,a,k,e,h=>by
  by_cases h0:a < s.length
  ·have hu:s.drop a≠ []:=fun x=>by have:=congrArg List.length x;simp at this;omega
   rw[dq,if_pos h0,fR,if_neg hu,←Bh,←EW]
   by_cases h1:(av l s a).1=1∧cl=false
   ·rw[if_pos h1,if_pos h1]
    simp;omega
   ·rw[if_neg h1,if_neg h1]
    by_cases h2:(av l s a).1≠3
    ·rw[if_pos h2,if_pos h2,BQ g (a+1) (k+1) e (by omega),List.drop_drop]
    ·rw[if_neg h2,if_neg h2]
     obtain⟨n,hn,h9,hl,_⟩:=fG (Decidable.not_not.1 h2)
     have e1:(av l s a).2.toNat=n:=by rw[hn];rfl
     rw[e1,BQ g (a+n) 0 _ (by omega),List.drop_drop]
     simp only[List.append_assoc]
  ·have hu:s.drop a= []:=List.drop_eq_nil_of_le (by omega)
   rw[dq,if_neg h0,hu,eJ]
   simp
   omega
theorem DR {l:ao} {u:Bytes} (h:¬(av l u 0).1≠3):∃n:Nat,av l u 0=(3,(n:Int))∧(av l u 0).2.toNat=n∧9≤n∧n≤u.length:=by
 obtain⟨n,hn,h9,hl,_⟩:=fG (Decidable.not_not.1 h)
 exact⟨n,hn,by rw[hn];rfl,h9,by omega⟩
theorem kc (l:ao) (cl:Bool):∀(n g g':Nat) (u:Bytes) (k:Nat),u.length≤n→u.length≤g→u.length≤g'→fR l cl g u k=fR l cl g' u k
 |n,0,g',u,k,_,h,_=>by
  have:u= []:=List.eq_nil_of_length_eq_zero (by omega)
  rw[this,eJ,eJ]
 |n,g+1,0,u,k,_,_,h=>by
  have:u= []:=List.eq_nil_of_length_eq_zero (by omega)
  rw[this,eJ,eJ]
 |0,g+1,g'+1,u,k,h,_,_=>by
  have:u= []:=List.eq_nil_of_length_eq_zero (by omega)
  rw[this,eJ,eJ]
 |n+1,g+1,g'+1,u,k,h,h1,h2=>by
  by_cases hu:u= []
  ·rw[hu,eJ,eJ]
  have hp:=List.length_pos_iff.2 hu
  rw[fR,fR,if_neg hu,if_neg hu]
  have e1:=kc l cl n g g' (u.drop 1) (k+1) (by rw[List.length_drop];omega) (by rw[List.length_drop];omega) (by rw[List.length_drop];omega)
  rw[e1]
  by_cases h3:(av l u 0).1≠3
  ·simp only[if_pos h3]
  ·obtain⟨m,_,hm,h9,hl⟩:=DR h3
   have e2:=kc l cl n g g' (u.drop m) 0 (by rw[List.length_drop];omega) (by rw[List.length_drop];omega) (by rw[List.length_drop];omega)
   rw[hm,e2]
def scan (l:ao) (cl:Bool) (u:Bytes) (k:Nat):List Ev×Nat×Bytes:=fR l cl u.length u k
theorem CF (l:ao) (cl:Bool) (k:Nat):scan l cl [] k=([],k,[]):=rfl
theorem G6 {l:ao} {u:Bytes} {k:Nat} (hu:u≠ []) (h:(av l u 0).1=1):scan l false u k=([],k,u):=by
 have hp:=List.length_pos_iff.2 hu
 obtain⟨g,hg⟩:∃g,u.length=g+1:=⟨u.length - 1,by omega⟩
 rw[scan,hg,fR,if_neg hu,if_pos ⟨h,rfl⟩]
theorem G4 {l:ao} {cl:Bool} {u:Bytes} {k:Nat} (hu:u≠ []) (h:¬((av l u 0).1=1∧cl=false)) (h2:(av l u 0).1≠3):scan l cl u k=scan l cl (u.drop 1) (k+1):=by
 have hp:=List.length_pos_iff.2 hu
 obtain⟨g,hg⟩:∃g,u.length=g+1:=⟨u.length - 1,by omega⟩
 rw[scan,hg,fR,if_neg hu,if_neg h,if_pos h2,scan]
 exact kc l cl g _ _ _ _ (by rw[List.length_drop];omega) (by rw[List.length_drop];omega) (Nat.le_refl _)
theorem Gq {l:ao} {cl:Bool} {u:Bytes} {k n:Nat} (h:av l u 0=(3,(n:Int))) (hn:9≤n) (hl:n≤u.length):scan l cl u k=((c5 k++ [ky l (dr u 0 n)])++(scan l cl (u.drop n) 0).1,(scan l cl (u.drop n) 0).2):=by
 have hu:u≠ []:=by rintro rfl;simp at hl;omega
 obtain⟨g,hg⟩:∃g,u.length=g+1:=⟨u.length - 1,by omega⟩
 have e:fR l cl g (u.drop n) 0=scan l cl (u.drop n) 0:=kc l cl g _ _ _ _ (by rw[List.length_drop];omega) (by rw[List.length_drop];omega) (Nat.le_refl _)
 have e1:(av l u 0).2.toNat=n:=by rw[h];rfl
 rw[scan,hg,fR,if_neg hu,if_neg (by rw[h];simp),if_neg (by rw[h];simp),e1,e]
theorem D2 (l:ao) (s:Bytes) (cl:Bool) (k:Nat):dE l s cl k=((scan l cl s k).1++(if cl=true then c5 (scan l cl s k).2.1 else []),(scan l cl s k).2.1,s.length - (scan l cl s k).2.2.length):=by
 simp only[dE,BQ s.length 0 k [] (Nat.zero_le _),List.drop_zero,List.nil_append]
 rfl
end Go.Eng.F
namespace Go.Eng.F
end Go.Eng.F
namespace Go.Eng.F
end Go.Eng.F
namespace Go.Eng.F
end Go.Eng.F
namespace Go.Eng.F
theorem MK.wf {v:cX} (s:MK v):v.wf:=by
 have h1:=s.block
 have h2:=s.tag
 exact⟨fw s.view,fw s.height,by unfold Sz;omega,fw s.who,by unfold Sz;omega⟩
theorem oI {l:ao} {h:Head} (w:eE l h=true):h.wc:=by
 obtain⟨w1,w2,w3,w4,w5,w6,w7,w8,w9⟩:=uk w
 have q:=(wk w8).wc
 exact⟨⟨fw w1,fw w2,fw w3,by unfold Sz;omega,by unfold Sz;omega,q.1⟩,q.2⟩
theorem EB {l:ao} {x:Block} (h:iX l x=true):x.wx:=by
 obtain⟨w1,w2,w3,w4,w5⟩:=rk h
 have hL:=dw w2
 have h1:=hL.2.1
 have h2:=hL.2.2.1
 exact⟨⟨oI w1,⟨by unfold Sz;omega,fun y hy=>by have:=w4 y hy;unfold Sz;omega⟩⟩,fun t ht=>by have:=w4 t ht;omega⟩
theorem Ln {l:ao} {t:Tc} (h:CT l t=true):t.wf:=by
 obtain⟨w1,w2,w3,w4⟩:=AB h
 have hL:=dw w1
 have h1:=hL.1
 refine⟨fw w2,by unfold Sz;omega,fun r hr=> ?_⟩
 obtain⟨i,hi,rfl⟩:=List.getElem_of_mem hr
 obtain⟨a1,a2,a3,_⟩:=ox _ _ w4 i _ (List.getElem?_eq_getElem hi)
 have hv:=eM w2
 exact⟨⟨by omega,by omega⟩,⟨by omega,by omega⟩,by unfold Sz;omega⟩
theorem DX {l:ao} {p:Proof} (h:iT l p=true):p.wc:=by
 obtain⟨w1,w2,w3,w4,w5⟩:=rn h
 have hL:=dw w1
 have h1:=hL.2.2.2
 have q:=(wk w4).wc
 exact⟨⟨⟨by unfold Sz;omega,fun x hx=>(oI (w3 x hx)).1⟩,q.1⟩,fun x hx=>oI (w3 x hx),q⟩
theorem Ae {l:ao} {x:ck} (h:nB l x=true):x.wc∧x.tx.length≤100000000:=by
 obtain⟨w1,w2,w3,w4,w5,w6,w7⟩:=uA h
 have hL:=dw w1
 have h1:=hL.2.1
 have h2:=hL.2.2.1
 have h6:=dk x.n.toNat x.idx.toNat
 exact⟨⟨fw w2,⟨by omega,by omega⟩,⟨by omega,by omega⟩,by unfold Sz;omega,⟨by unfold Sz;omega,fun y hy=>by have:=w7 y hy;unfold Sz;omega⟩⟩,by omega⟩
theorem Hu {l:ao} {m:cg} (h:eO l m=true):m.wc:=by
 have hp:=xH h
 rw[xl h]
 rcases nF hp with e|e|e|e|e|e|e
 ·obtain⟨p1,_,p3,_⟩:=BG (l:=l) e
  rw[p1]at hp;rw[p3]
  exact {ic with kind:=⟨by simp only;omega,by simp only;omega⟩,vote:=(E5 hp).wf}
 ·obtain⟨p1,_,p3,_⟩:=Bz (l:=l) e
  rw[p1]at hp;rw[p3]
  exact {ic with kind:=⟨by simp only;omega,by simp only;omega⟩,qc:=(wk hp).wc}
 ·obtain⟨p1,_,p3,_⟩:=BZ (l:=l) e
  rw[p1]at hp;rw[p3]
  exact {ic with kind:=⟨by simp only;omega,by simp only;omega⟩,head:=oI hp}
 ·obtain⟨p1,_,p3,_⟩:=Ar (l:=l) e
  rw[p1]at hp;rw[p3]
  exact {ic with kind:=⟨by simp only;omega,by simp only;omega⟩,block:=EB hp}
 ·obtain⟨p1,_,p3,_⟩:=Ao (l:=l) e
  rw[p1]at hp;rw[p3]
  exact {ic with kind:=⟨by simp only;omega,by simp only;omega⟩,tc:=Ln hp}
 ·obtain⟨p1,_,p3,_⟩:=Bb (l:=l) e
  rw[p1]at hp;rw[p3]
  exact {ic with kind:=⟨by simp only;omega,by simp only;omega⟩,proof:=DX hp}
 ·obtain⟨p1,_,p3,_⟩:=Bd (l:=l) e
  rw[p1]at hp;rw[p3]
  exact {ic with kind:=⟨by simp only;omega,by simp only;omega⟩,incl:=(Ae hp).1,tx:=(Ae hp).2}
structure Ev.Mp (l:ao) (k:Nat) (e:Ev):Prop where
 kind:e.kind=1∨e.kind=2∨e.kind=3
 n:e.kind=1→0≤e.n∧e.n≤k
 msg:e.kind=3→eO l e.msg=true
 wc:e.msg.wc
theorem Ev.Mp.up {l:ao} {k k':Nat} {e:Ev} (h:e.Mp l k) (hk:k≤k'):e.Mp l k':= {h with n:=fun x=>by have:=h.n x;omega}
theorem JE (k:Nat):(c5 k).length≤1:=by unfold c5;split <;>simp
end Go.Eng.F
namespace Go.Eng.F
open Go.Eng.U (oR fg)
def Ev.tv (e:Ev):Tv:= .r [.i e.kind, .i e.n,e.msg.tv]
theorem Ev.enc (e:Ev):enc fg e.tv=e.c:=by simp only[Ev.tv,cg.enc,eP,cc,cT,dS,Ev.c,List.cons_append,List.nil_append,List.append_nil]
theorem Ev.ex {v:Tv} (h:aB fg v):∃e:Ev,v=e.tv:=by
 obtain⟨vs,rfl,h⟩:=h.st
 obtain⟨v0,_,rfl,h0,h⟩:=h.step
 obtain⟨v1,_,rfl,h1,h⟩:=h.step
 obtain⟨v2,_,rfl,h2,h⟩:=h.step
 obtain rfl:=h.fin
 obtain⟨n0,rfl,_⟩:=h0.int
 obtain⟨n1,rfl,_⟩:=h1.int
 obtain⟨n2,rfl⟩:=cg.ex h2
 exact⟨⟨n0,n1,n2⟩,rfl⟩
def u7 (l:List Ev):Tv:= .l (l.map Ev.tv)
theorem BM (l:List Ev):enc (.sl fg) (u7 l)= [.sl (yz l)]:=by
 simp only[u7,yg,List.map_map,yz]
 congr 2
 exact List.map_congr_left fun x _=>Ev.enc x
end Go.Eng.F
namespace Go.Eng.F
open Go.Eng.U (oR fg TPush uO yx cZ ik KW fq uN TLimits)
theorem cg.wc.tok {m:cg} (h:m.wc):aB oR m.tv:=by
 simp only[cg.tv,c8,ba]
 exact⟨dQ h.kind,h.vote.tok,h.qc.tok,h.head.tok,h.block.1.tok,h.tc.tok,h.proof.tok,h.incl.tok,eK.2 trivial⟩
theorem rW {α:Type} {f:α→Tv} {N:Nat}:∀ {l:List α},(∀x∈l,wt (f x)≤N)→fB (l.map f)≤N * l.length
 | [],_=>by simp[fB]
 |x::l,h=>by
  have h1:=h x (by simp)
  have h2:=rW (l:=l) fun y hy=>h y (by simp[hy])
  simp only[List.map_cons,fB,List.length_cons,Nat.mul_succ]
  omega
theorem qS {l:List Bytes} {N:Nat} (h:∀x∈l,x.length≤N):wt (j5 l)≤(N+1) * l.length:=by
 unfold j5
 rw[B5,List.length_map,Nat.add_mul,Nat.one_mul]
 have:=rW (f:=lO) (l:=l) fun x hx=>by rw[iP];exact h x hx
 omega
theorem Iu {l:ao} {q:Qc} (h:mV l q=true):wt q.tv≤600:=by
 have s:=wk h
 have h1:=s.block
 have h2:=s.bits
 have h3:=s.tags
 have h4:=qS (l:=q.tags) fun x hx=>Nat.le_of_eq (s.tag x hx)
 have h5:(32+1) * q.tags.length≤(32+1) * 16:=Nat.mul_le_mul_left _ h3
 simp only[Qc.tv,wt,fB,iP]
 omega
theorem AD {l:ao} {h:Head} (w:eE l h=true):wt h.tv≤700:=by
 obtain⟨w1,w2,w3,w4,w5,w6,w7,w8,w9⟩:=uk w
 have:=Iu w8
 simp only[Head.tv,wt,fB,iP]
 omega
theorem Ol:wt bm.tv=0∧wt gw.tv=0∧wt bh.tv=0∧wt aJ.tv=0∧wt gC.tv=0∧wt aK.tv=0∧wt bk.tv=0:=by
 simp[bm,gw,bh,aJ,gC,aK,bk,cX.tv,Qc.tv,Head.tv,Block.tv,Tc.tv,Proof.tv,ck.tv,wt,fB,lO,j5,wD,oZ]
theorem JO {l:ao} {m:cg} (h:dD l m=true) (ho:m=gD m):wt m.tv≤10000:=by
 have hL:=dw (D4 h)
 have hl1:=hL.1
 have hl2:=hL.2.1
 have hl3:=hL.2.2.1
 have hl4:=hL.2.2.2
 obtain⟨z1,z2,z3,z4,z5,z6,z7⟩:=Ol
 rw[ho]
 rcases nF h with e|e|e|e|e|e|e
 ·obtain⟨p1,_,p3,_⟩:=BG (l:=l) e
  rw[p1]at h;rw[p3]
  have s:=E5 h
  have h1:=s.block
  have h2:=s.tag
  simp only[cg.tv,ay,wt,fB,z1,z2,z3,z4,z5,z6,z7,cX.tv,iP]
  omega
 ·obtain⟨p1,_,p3,_⟩:=Bz (l:=l) e
  rw[p1]at h;rw[p3]
  have h1:=Iu h
  simp only[cg.tv,ay,wt,fB,z1,z2,z3,z4,z5,z6,z7]
  omega
 ·obtain⟨p1,_,p3,_⟩:=BZ (l:=l) e
  rw[p1]at h;rw[p3]
  have h1:=AD h
  simp only[cg.tv,ay,wt,fB,z1,z2,z3,z4,z5,z6,z7]
  omega
 ·obtain⟨p1,_,p3,_⟩:=Ar (l:=l) e
  rw[p1]at h;rw[p3]
  obtain⟨w1,w2,w3,w4,w5⟩:=rk h
  have h1:=AD w1
  have h2:=qS (l:=m.block.txs) (N:=40) fun x hx=>by have:=w4 x hx;omega
  have h3:(40+1) * m.block.txs.length≤(40+1) * 8:=Nat.mul_le_mul_left _ (by omega)
  simp only[cg.tv,ay,wt,fB,z1,z2,z3,z4,z5,z6,z7,Block.tv]
  omega
 ·obtain⟨p1,_,p3,_⟩:=Ao (l:=l) e
  rw[p1]at h;rw[p3]
  obtain⟨w1,w2,w3,w4⟩:=AB h
  have h1:fB (m.tc.entries.map Entry.tv)≤32 * m.tc.entries.length:=rW fun x hx=>by
   obtain⟨i,hi,rfl⟩:=List.getElem_of_mem hx
   obtain⟨a1,a2,a3,_⟩:=ox _ _ w4 i _ (List.getElem?_eq_getElem hi)
   simp only[Entry.tv,wt,fB,iP]
   omega
  have h2:32 * m.tc.entries.length≤32 * 10:=Nat.mul_le_mul_left _ (by omega)
  simp only[cg.tv,ay,wt,fB,z1,z2,z3,z4,z5,z6,z7,Tc.tv,wD,B5,List.length_map]
  omega
 ·obtain⟨p1,_,p3,_⟩:=Bb (l:=l) e
  rw[p1]at h;rw[p3]
  obtain⟨w1,w2,w3,w4,w5⟩:=rn h
  have h1:fB (m.proof.heads.map Head.tv)≤700 * m.proof.heads.length:=rW fun x hx=>AD (w3 x hx)
  have h2:700 * m.proof.heads.length≤700 * 5:=Nat.mul_le_mul_left _ (by omega)
  have h3:=Iu w4
  simp only[cg.tv,ay,wt,fB,z1,z2,z3,z4,z5,z6,z7,Proof.tv,oZ,B5,List.length_map]
  omega
 ·obtain⟨p1,_,p3,_⟩:=Bd (l:=l) e
  rw[p1]at h;rw[p3]
  obtain⟨w1,w2,w3,w4,w5,w6,w7⟩:=uA h
  have h1:=qS (l:=m.incl.path) (N:=32) fun x hx=>Nat.le_of_eq (w7 x hx)
  have h6:=dk m.incl.n.toNat m.incl.idx.toNat
  have h2:(32+1) * m.incl.path.length≤(32+1) * 8:=Nat.mul_le_mul_left _ (by omega)
  simp only[cg.tv,ay,wt,fB,z1,z2,z3,z4,z5,z6,z7,ck.tv,iP]
  omega
theorem Gb:wt ay.tv=0:=by
 obtain⟨z1,z2,z3,z4,z5,z6,z7⟩:=Ol
 simp only[cg.tv,ay,wt,fB,z1,z2,z3,z4,z5,z6,z7]
structure Ev.small (k:Nat) (e:Ev):Prop where
 kind:1≤e.kind∧e.kind≤3
 n:0≤e.n∧e.n≤k+9
 wc:e.msg.wc
 wt:wt e.msg.tv≤10000
theorem Ev.small.up {k k':Nat} {e:Ev} (h:e.small k) (hk:k≤k'):e.small k':= {h with n:=by have:=h.n;omega}
theorem EO {k k':Nat} (hk:k≤k'):∀e∈c5 k,e.small k':=fun e he=>by
 unfold c5 at he
 split at he
 ·cases he
 ·rw[List.mem_singleton]at he
  subst he
  exact⟨by simp only;omega,by simp only;omega,ic,by simp only;rw[Gb];omega⟩
theorem Eb {l:ao} {d:Bytes} {k:Nat}:(ky l d).small k:=by
 unfold ky
 split
 ·rename_i h
  obtain⟨m,e1,e2,_⟩:=K3 h
  rw[e1]
  exact⟨by simp only;omega,by simp only;omega,Hu e2,JO (xH e2) (xl e2)⟩
 ·have:=MA l d
  exact⟨by simp only;omega,by simp only;omega,ic,by simp only;rw[Gb];omega⟩
theorem rb {l:ao} {cl:Bool}:∀(n:Nat) (u:Bytes) (k:Nat),u.length≤n→(∀e∈(scan l cl u k).1,e.small (k+u.length))∧(scan l cl u k).2.1≤k+u.length∧(scan l cl u k).1.length≤u.length
 |0,u,k,h=>by
  have:u= []:=List.eq_nil_of_length_eq_zero (by omega)
  subst this
  simp[CF]
 |n+1,u,k,h=>by
  by_cases hu:u= []
  ·subst hu
   simp[CF]
  have hp:=List.length_pos_iff.2 hu
  by_cases hw:(av l u 0).1=1∧cl=false
  ·obtain⟨hw,rfl⟩:=hw
   rw[G6 hu hw]
   simp
  by_cases h2:(av l u 0).1≠3
  ·rw[G4 hu hw h2]
   obtain⟨a1,a2,a3⟩:=rb (l:=l) (cl:=cl) n (u.drop 1) (k+1) (by rw[List.length_drop];omega)
   rw[List.length_drop]at a1 a2 a3
   exact⟨fun e he=>(a1 e he).up (by omega),by omega,by omega⟩
  ·obtain⟨m,hm,_,h9,hl⟩:=DR h2
   rw[Gq hm h9 hl]
   obtain⟨a1,a2,a3⟩:=rb (l:=l) (cl:=cl) n (u.drop m) 0 (by rw[List.length_drop];omega)
   rw[List.length_drop]at a1 a2 a3
   have hs:=JE k
   refine⟨fun e he=> ?_,by simp only;omega,by simp only[List.length_append,List.length_cons,List.length_nil];omega⟩
   simp only[List.mem_append,List.mem_singleton]at he
   rcases he with(he|rfl)|he
   ·exact EO (by omega) e he
   ·exact Eb
   ·exact(a1 e he).up (by omega)
theorem J0 {e:List Ev} {k:Nat} (hl:e.length≤1073741824) (hk:k≤1152921504606846976+1152921504606846976) (h:∀x∈e,x.small k):aB (.sl fg) (u7 e):=by
 unfold u7
 refine wX.2 ⟨by rw[List.length_map];exact Nat.le_trans hl (by decide),fun v hv=> ?_⟩
 obtain⟨x,hx,rfl⟩:=List.mem_map.1 hv
 have s:=h x hx
 have s1:=s.kind
 have s2:=s.n
 simp only[Ev.tv,c8,ba]
 exact⟨dQ ⟨by omega,by omega⟩,dQ ⟨by omega,by omega⟩,s.wc.tok,eK.2 trivial⟩
theorem NI {e:List Ev} {k:Nat} (h:∀x∈e,x.small k):wt (u7 e)≤10001 * e.length:=by
 unfold u7
 rw[B5,List.length_map]
 have:=rW (f:=Ev.tv) (N:=10000) (l:=e) fun x hx=>by
  have:=(h x hx).wt
  simp only[Ev.tv,wt,fB]
  omega
 omega
end Go.Eng.F
namespace Go.Eng.F
open Go.Eng.U (oR fg TPush TLimits)
theorem wm (p:cf):wt p.tv=p.buf.length:=by simp only[cf.tv,wt,fB,iP];omega
theorem rf {l:ao} {p:cf} {b:Bytes}:(feed l p b).1.buf.length≤p.buf.length+b.length∧(feed l p b).2.length≤p.buf.length+b.length∧(∀e∈(feed l p b).2,e.small (1152921504606846976+(p.buf.length+b.length)))∧(ru p.skip→p.buf.length+b.length≤1073741824→ru (feed l p b).1.skip):=by
 unfold feed
 split
 ·rename_i h
  have hs:=my h
  rw[D2]
  obtain⟨a1,a2,a3⟩:=rb (l:=l) (cl:=false) (p.buf++b).length (p.buf++b) p.skip.toNat (Nat.le_refl _)
  rw[List.length_append]at a1 a2 a3
  refine⟨by simp only[List.length_drop,List.length_append];omega,by simpa using a3,fun e he=> ?_,fun _ hb=>⟨by simp only;omega,by simp only;omega⟩⟩
  simp only[Bool.false_eq_true,if_false,List.append_nil]at he
  exact(a1 e he).up (by omega)
 ·exact⟨by simp,by simp,by simp,fun h _=>h⟩
theorem FM {l:ao} {p:cf} {b:Bytes} (hp:p.wf) (h1:p.buf.length≤1048576) (h2:b.length≤1048576):Nv (wO (feed l p b)) [(TPush,(feed l p b).1.tv),(.sl fg,u7 (feed l p b).2)]:=by
 obtain⟨s1,s2,s3,s4⟩:=rf (l:=l) (p:=p) (b:=b)
 have hw:(feed l p b).1.wf:=⟨s4 hp.1 (by omega),by unfold Sz;omega⟩
 refine⟨rfl,?_,hw.tok,rfl,?_,J0 (by omega) (by omega) s3,trivial⟩
 ·rw[cf.enc]
  simp only[cf.c,zA,D.leaf,and_self]
 ·rw[BM]
  simp only[zA,and_self]
theorem Iv (l:ao) (p:cf) (b:Bytes):wt (feed l p b).1.tv≤wt p.tv+wt (lO b):=by
 have:=(rf (l:=l) (p:=p) (b:=b)).1
 rw[wm,wm,iP]
 exact this
theorem HB (l:ao) (p:cf) (b:Bytes):wt (u7 (feed l p b).2)≤10001 * (wt p.tv+wt (lO b)):=by
 obtain⟨s1,s2,s3,s4⟩:=rf (l:=l) (p:=p) (b:=b)
 have h1:=NI s3
 have h2:10001 * (feed l p b).2.length≤10001 * (p.buf.length+b.length):=Nat.mul_le_mul_left _ s2
 rw[wm,iP]
 omega
theorem Fv {p:cf} (h:aB TPush p.tv) (hw:wt p.tv≤1048576):p.wf∧p.buf.length≤1048576:=⟨cf.of h hw,by rw[wm]at hw;exact hw⟩
theorem rB {h0:H} {l:ao} {p:cf} {b:Bytes} {ms:List (Bool×List C)} (ha:dR h0 [(TLimits,l.tv),(TPush,p.tv),((.sl (.int .u8)),lO b)] ms) (hp1:wt p.tv≤1048576) (hp2:wt (lO b)≤1048576):
 WC cd nn ms h0 (PF h0 [(TPush,(feed l p b).1.tv),(.sl fg,u7 (feed l p b).2)]):=by
 obtain⟨k0,mr0,ha0⟩:=dR.NS ha
 obtain⟨k1,mr1,ha1⟩:=dR.NS ha0
 obtain⟨k2,mr2,ha2⟩:=dR.NS ha1
 obtain⟨w1,w2⟩:=Fv k1 hp1
 rw[iP]at hp2
 have hc:=Bi l p b (by omega)
 have e:Ci [(TLimits,l.tv),(TPush,p.tv),((.sl (.int .u8)),lO b)]= [(true,l.c),(true,p.c),(false,[.sl (bytes b)])]:=by simp only[Ci,List.map,ao.enc,Head.enc,Qc.enc,dY,gx,dS,eW,gB,ot,cf.enc,BM,Ty.agg]
 rw[←e]at hc
 exact hc.wc ha fun rs q=>by rw[q];exact FM w1 w2 hp2
theorem AX {h0:H} {l:ao} {p:cf} {b:Bytes} {ms:List (Bool×List C)} (ha:dR h0 [(TLimits,l.tv),(TPush,p.tv),((.sl (.int .u8)),lO b)] ms) (hp1:wt p.tv≤1048576) (hp2:wt (lO b)≤1048576):
 WC cd mZ ms h0 (PF h0 [(TPush,(feed l p b).1.tv),(.sl fg,u7 (feed l p b).2)]):=by
 obtain⟨k0,mr0,ha0⟩:=dR.NS ha
 obtain⟨k1,mr1,ha1⟩:=dR.NS ha0
 obtain⟨k2,mr2,ha2⟩:=dR.NS ha1
 obtain⟨w1,w2⟩:=Fv k1 hp1
 rw[iP]at hp2
 have hc:=AH l p b (by omega)
 have e:Ci [(TLimits,l.tv),(TPush,p.tv),((.sl (.int .u8)),lO b)]= [(true,l.c),(true,p.c),(false,[.sl (bytes b)])]:=by simp only[Ci,List.map,ao.enc,Head.enc,Qc.enc,dY,gx,dS,eW,gB,ot,cf.enc,BM,Ty.agg]
 rw[←e]at hc
 exact hc.wc ha fun rs q=>by rw[q];exact FM w1 w2 hp2
end Go.Eng.F
