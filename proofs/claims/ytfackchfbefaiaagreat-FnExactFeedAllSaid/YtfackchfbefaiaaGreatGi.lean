import Derived.Test.YtfackchfbefaiaaGreatGb
import Derived.Test.YtfackchfbefaiaaGreatGh
set_option maxRecDepth 100000
set_option linter.unusedSimpArgs false
set_option linter.unusedVariables false
namespace Go.Eng.F
theorem dG {r:Rd} {bad:Bool} {c:Nat} (h:(ax r bad c).er=0):r.er=0:=by
 apply Decidable.byContradiction
 intro g
 rw[dK g]at h
 exact g h
theorem Gc {b:Bytes} {r:Rd} (h:(aO b r).2.er=0):r.er=0:=by
 apply Decidable.byContradiction
 intro g
 simp[aO,g]at h
theorem Lo {b:Bytes} {r:Rd} {n:Nat} (h:(ba b r n).2.er=0):r.er=0:=by
 apply Decidable.byContradiction
 intro g
 simp[ba,g]at h
theorem Ee {b:Bytes} {r:Rd} {n:Nat} (h:(bZ b r n).2.er=0):r.er=0:=by
 apply Decidable.byContradiction
 intro g
 simp[bZ,g]at h
theorem AO {b:Bytes} {l:ao} {r:Rd} (h:(bu b l r).2.er=0):(bu b l r).1.2.2.1 < (bu b l r).1.2.1∧((bu b l r).1.2.1:Int)≤l.txs:=by
 simp only[bu,aM]at h⊢
 have h1:=Ee h
 have h2:=eI h1 (by omega)
 have h4:=Gc (dG h1)
 have h5:=eI h4 (by omega)
 simp only[decide_eq_false_iff_not]at h2 h5
 omega
theorem IV {b:Bytes} {k:Nat} {r:Rd} (h:r.er≠0):(eA (fun r=>ba b r 32) k r).2=r:=by
 induction k with
 |zero=>rfl
 |succ k ih=>
  have e:(ba b r 32).2=r:=by simp[ba,h]
  simp only[eA,e,ih]
theorem uu {b:Bytes}:∀(k:Nat) (r:Rd),(eA (fun r=>ba b r 32) k r).2=(bm (fun r=>ba b r 32) k r).2∧((bm (fun r=>ba b r 32) k r).2.er=0→(eA (fun r=>ba b r 32) k r).1=(bm (fun r=>ba b r 32) k r).1)
 |0,r=>⟨rfl,fun _=>rfl⟩
 |k+1,r=>by
  by_cases h:r.er=0
  ·rw[fB h]
   have:=uu (b:=b) k (ba b r 32).2
   exact⟨this.1,fun g=>by simp only[eA];rw[this.2 g]⟩
  ·rw[fI h,IV h]
   exact⟨rfl,fun g=>absurd g h⟩
def eu (b:Bytes) (l:ao) (r:Rd):cq×Rd:=
 let i:=bu b l r
 if i.2.er=0 then
  let p:=eA (fun r=>ba b r 32) (bG i.1.2.2.1 i.1.2.1) i.2
  (⟨i.1.1,i.1.2.1,i.1.2.2.1,i.1.2.2.2,p.1⟩,p.2)
 else(⟨i.1.1,i.1.2.1,i.1.2.2.1,i.1.2.2.2,[]⟩,i.2)
def kv (b:Bytes) (l:ao) (r:Rd):cq×Rd:=
 let i:=bu b l r
 let p:=bm (fun r=>ba b r 32) (bG i.1.2.2.1 i.1.2.1) i.2
 (⟨i.1.1,i.1.2.1,i.1.2.2.1,i.1.2.2.2,p.1⟩,p.2)
theorem Fg (b:Bytes) (l:ao) (r:Rd):(eu b l r).2=(kv b l r).2∧((kv b l r).2.er=0→(eu b l r).1=(kv b l r).1):=by
 simp only[eu,kv]
 have:=uu (b:=b) (bG (bu b l r).1.2.2.1 (bu b l r).1.2.1) (bu b l r).2
 by_cases h:(bu b l r).2.er=0
 ·rw[if_pos h]
  exact⟨this.1,fun g=>by rw[this.2 g]⟩
 ·rw[if_neg h,fI h]
  exact⟨rfl,fun g=>absurd g h⟩
abbrev hX:Nat:=209
def lT:AF:=⟨2,6,[.cell 4 5 true],(.seq (.ops [.i (.lbox 2 (.s 0)), .i (.lal 4 [.int .i64 0, .int .i64 0, .int .i64 0, .nils, .nils])]) (.seq (.ops [qm 6 1,qk 8 274 6,qm 8 1,qk 10 274 8, .i (.bld 10 [.int .i64 0, .int .i64 0, .int .i64 0, .nils, .nils] [(0,1,(.s 7)),(1,1,(.s 9))]), .i (.lal 5 [.int .i64 0, .int .i64 0, .int .i64 0, .nils, .nils]),qs 5 5 10 5]) (.seq (.ops [qm 11 1,qf 12 5 1,ql 13 5 12 1 false, .i (.bin 14 .gtr (.s 13) (qi 0)), .i (.call 16 279 false [(.s 11),(.s 14),(qi 5)])]) (.seq (.ops [qm 16 1,qf 17 5 1,ql 18 5 17 1 false,qf 19 2 2,ql 20 2 19 1 false,qd 21 .leq 18 20, .i (.call 23 279 false [(.s 16),(.s 21),(qi 3)])]) (.seq (.ops [qm 23 1,qf 24 5 1,ql 25 5 24 1 false, .i (.call 27 276 false [(.s 23),(.s 25),(qi 5)]),qf 27 5 2,qs 5 27 26 1]) (.seq (.ops [qm 28 1,qf 29 2 1,ql 30 2 29 1 false, .i (.call 32 281 false [(.s 28),(.s 30)]),qf 32 5 3,qs 5 32 31 1]) (.seq (.seq (.ops [qm 33 1, .i (.nch 34 (.s 33)),qf 35 34 2, .i (.ldh 36 (.s 35) 1 false), .i (.bin 37 .eql (.s 36) (qi 0))]) (.cond (.s 37) (.seq (.ops [qf 38 5 2,ql 39 5 38 1 false,qf 40 5 1,ql 41 5 40 1 false, .i (.call 43 284 false [(.s 39),(.s 41)]), .i (.mov 43 (qi 0))]) (.block 0 (.loop [52,51,50,49,48,47,46,45,44] (.seq (.ops [qd 44 .lss 43 42]) (.seq (.cond (.s 44) .skip (.exit 0)) (.seq (.block 1 (.ops [qf 45 5 4,ql 46 5 45 1 false,qm 47 1,qk 49 275 47, .i (.lsl 49 1 1 [.nils] [(0,1,(.s 48))]), .i (.app 50 24 1 24 (.s 46) (.s 49)),qf 51 5 4,qs 5 51 50 1])) (.ops [.i (.bin 52 .add (.s 43) (qi 1)),qm 43 52]))))))) .skip)) (.seq (.ops [ql 53 5 5 5 true,qs 4 4 53 5]) .ret))))))))⟩
theorem vX:cd hX=some lT:=by kernel_rfl
theorem uW (b:Bytes) (l:ao) (r:Rd) (hL:l.rd) (hr:r.wf b) (hb:b.length≤1073741824):VC cd hX (pK [(true,l.c)] 279 (av b r) []) (fun rs p=>rs= [(true,(eu b l r).1.o)]∧p= [.pt 279 (av b (eu b l r).2)]):=by
 refine VC.ic ?_
 obtain⟨hl,hx,ht,hh⟩:=hL
 have hi:=AO (b:=b) (l:=l) (r:=r)
 refine bg vX rfl ?_
 simp(disch:=omega) [lT,av,ao.c,VZ]
 refine bI (bN b r hr hb) ?_
 have w1:=aT hr
 generalize h1:aO b r=s1 at w1⊢
 simp(disch:=omega) [av,VZ]
 refine bI (bN b s1.2 w1.1 hb) ?_
 have w2:=aT w1.1
 generalize h2:aO b s1.2=s2 at w2⊢
 simp(disch:=omega) [av,VZ]
 refine bI (aY b s2.2 (decide (0 < s2.1)) 5) ?_
 have e3:(!decide (0 < s2.1))=decide (s2.1=0):=by rw[←decide_not,decide_eq_decide];omega
 rw[e3]
 have w3:=aX (bad:=decide (s2.1=0)) (c:=5) w2.1 (by omega)
 generalize h3:ax s2.2 (decide (s2.1=0)) 5=s3 at w3⊢
 simp(disch:=omega) [av,VZ]
 refine bI (aY b s3 (decide ((s2.1:Int)≤l.txs)) 3) ?_
 have e4:(!decide ((s2.1:Int)≤l.txs))=decide (l.txs < (s2.1:Int)):=by rw[←decide_not,decide_eq_decide];omega
 rw[e4]
 have w4:=aX (bad:=decide (l.txs < (s2.1:Int))) (c:=3) w3 (by omega)
 generalize h4:ax s3 (decide (l.txs < (s2.1:Int))) 3=s4 at w4⊢
 simp(disch:=omega) [av,VZ]
 refine bI (cV b s4 (s2.1:Int) 5 w4 hb) ?_
 have w5:=cP (n:=(s2.1:Int)) (c:=5) w4 (by omega)
 generalize h5:aM b s4 (s2.1:Int) 5=s5 at w5⊢
 simp(disch:=omega) [av,VZ]
 refine bI (lM b s5.2 l.tx (by omega) w5.1 hb) ?_
 have w6:=fi w5.1 l.tx.toNat
 generalize h6:bZ b s5.2 l.tx.toNat=s6 at w6⊢
 simp(disch:=omega) [av,VZ]
 have hi0:bu b l r=((s1.1,s2.1,s5.1,s6.1),s6.2):=by simp only[bu,h1,h2,h3,h4,h5,h6]
 rw[hi0]at hi
 simp only at hi
 by_cases g:s6.2.er=0
 case neg=>simp(disch:=omega) [g,eu,hi0,cq.o,av,aI,aJ,aP,ab,df,VZ]
 have hi2:=hi g
 have hpl:=dz s2.1 s5.1
 simp(disch:=omega) [g,VZ]
 refine cp (wv s2.1 s5.1 (by omega) (by omega)) ?_
 simp(disch:=omega) [VZ]
 refine ej (σ:=Nat×Nat×List Bytes×Rd) (f0:=_) (by simp(disch:=omega) [VZ];rfl) (dD.zg (s:=5) (k:=5) (i:=4) rfl rfl) (f1:=_) (es0:=_) (by simp(disch:=omega) [VZ];rfl) (by simp(disch:=omega) [VZ];rfl) (fun p=> [(43, .val false [.int .i64 (p.1:Int)]),(5, .box [.int .i64 s1.1, .int .i64 s2.1, .int .i64 s5.1, .ow 270336 32, .ow 5 p.2.1])]) (fun p=> [(4101, .pt 5 279 [.sl (bytes b), .int .i64 (p.2.2.2.at_:Int), .int .i64 (p.2.2.2.er:Int)]),(5, .sl p.2.1 true true (some (24,1)) (df p.2.2.1))])
  (fun p g=>(g+p.1=(bG s5.1 s2.1)∧p.2.2.1.length=p.1)∧p.2.2.2.wf b∧eA (fun r=>ba b r 32) (bG s5.1 s2.1) s6.2=(p.2.2.1++(eA (fun r=>ba b r 32) g p.2.2.2).1,(eA (fun r=>ba b r 32) g p.2.2.2).2)) (0,_,[],s6.2) (bG s5.1 s2.1) (by simp(disch:=omega) [VZ];rfl) (by simp(disch:=omega) [df,av,g,VZ]) ⟨⟨by simp,rfl⟩,w6.1,by simp⟩ ?_
 rintro⟨i,v,x,q⟩ nx g0 ⟨⟨hg,h5⟩,h6,h7⟩ P hP
 simp only at hg h5 h6 h7
 have hl2:(df x).length=i:=by rw[cn];exact h5
 simp(disch:=omega) [VZ]
 refine aj (fun h8=> ?_) (fun h8=> ?_)
 ·simp(disch:=omega) [av,VZ]
  refine bI (cJ b q h6 hb) ?_
  have w25:=bU h6 32
  obtain⟨g1,rfl⟩:∃g1,g0=g1+1:=⟨g0 - 1,by omega⟩
  simp only[eA]at h7
  generalize h9:ba b q 32=s25 at w25 h7⊢
  simp(disch:=omega) [av,hl2,oM,VZ]
  refine hP (i+1,_,x++ [s25.1],s25.2) g1 _ _ (by omega) ⟨⟨by simp only;omega,by simp[h5]⟩,w25.1,by rw[h7];simp⟩ (by simp(disch:=omega) [VZ];rfl) (by simp(disch:=omega) [av,VZ])
 ·obtain rfl:g0=0:=by omega
  simp only[eA,List.append_nil]at h7
  simp(disch:=omega) [eu,hi0,g,h7,cq.o,av,aI,aJ,aP,VZ]
abbrev jg:Nat:=131
def jm:AF:=⟨2,7,[.cell 4 5 true],(.seq (.ops [.i (.lbox 3 (.s 1)), .i (.lal 4 [.int .i64 0, .int .i64 0, .int .i64 0, .nils, .nils])]) (.seq (.ops [qm 7 0,qk 9 184 7, .i (.bld 9 [.int .i64 0, .int .i64 0, .int .i64 0, .nils, .nils] [(0,1,(.s 8))]), .i (.lal 5 [.int .i64 0, .int .i64 0, .int .i64 0, .nils, .nils]),qs 5 5 9 5]) (.seq (.ops [qm 10 0,qk 12 184 10,qf 12 5 1,qs 5 12 11 1]) (.seq (.ops [qm 13 0,qf 14 5 1,ql 15 5 14 1 false, .i (.bin 16 .eql (.s 15) (qi 0)), .i (.call 18 132 false [(.s 13),(.s 16),(qi 5)])]) (.seq (.ops [qm 18 0,qf 19 5 1,ql 20 5 19 1 false,qf 21 3 2,ql 22 3 21 1 false,qd 23 .gtr 20 22, .i (.call 25 132 false [(.s 18),(.s 23),(qi 3)])]) (.seq (.ops [qm 25 0,qk 27 184 25,qf 27 5 2,qs 5 27 26 1]) (.seq (.ops [qm 28 0,qf 29 5 2,ql 30 5 29 1 false,qf 31 5 1,ql 32 5 31 1 false,qd 33 .geq 30 32, .i (.call 35 132 false [(.s 28),(.s 33),(qi 5)])]) (.seq (.ops [qm 35 0,qf 36 3 1,ql 37 3 36 1 false, .i (.call 39 189 false [(.s 35),(.s 37)]),qf 39 5 3,qs 5 39 38 1]) (.seq (.seq (.ops [.i (.mov 6 (qi 0))]) (.block 0 (.loop [62,61,60,59,58,57,56,55,54,53,52,51,50,49,48,47,46,45,44,43,42,41,40] (.seq (.seq (.ops [qm 40 0, .i (.nch 41 (.s 40)),qf 42 41 2, .i (.ldh 43 (.s 42) 1 false), .i (.bin 44 .eql (.s 43) (qi 0)),qm 45 44, .g 45 true 47 (.mov 46 (.s 6)), .g 45 true 48 (.fad 47 (.s 5) 2), .g 45 true 49 (.ldl 48 5 (.s 47) 1 false), .g 45 true 50 (.fad 49 (.s 5) 1), .g 45 true 51 (.ldl 50 5 (.s 49) 1 false), .g 45 true 52 (.call 52 193 false [(.s 48),(.s 50)]), .g 45 true 53 (.bin 52 .lss (.s 46) (.s 51)), .i (.pick 53 (.s 45) (.s 52) (qb false))]) (.cond (.s 53) .skip (.exit 0))) (.seq (.block 1 (.ops [qf 56 5 4,ql 57 5 56 1 false,qm 58 0,qk 60 185 58, .i (.lsl 60 1 1 [.nils] [(0,1,(.s 59))]), .i (.app 61 24 1 24 (.s 57) (.s 60)),qf 62 5 4,qs 5 62 61 1])) (.ops [qm 54 6, .i (.bin 55 .add (.s 54) (qi 1)),qm 6 55])))))) (.seq (.ops [ql 63 5 5 5 true,qs 4 4 63 5]) .ret))))))))))⟩
theorem sR:cd jg=some jm:=by kernel_rfl
theorem zz (b:Bytes) (l:ao) (r:Rd) (hL:l.rd) (hr:r.wf b) (hb:b.length≤1073741824):VC cd jg (pK [] 166 (av b r) [(true,l.c)]) (fun rs p=>rs= [(true,(kv b l r).1.o)]∧p= [.pt 166 (av b (kv b l r).2)]):=by
 refine VC.ic ?_
 obtain⟨hl,hx,ht,hh⟩:=hL
 have hi:=AO (b:=b) (l:=l) (r:=r)
 refine bg sR rfl ?_
 simp(disch:=omega) [jm,av,ao.c,VZ]
 refine bI (bQ b r hr hb) ?_
 have w1:=aT hr
 generalize h1:aO b r=s1 at w1⊢
 simp(disch:=omega) [av,VZ]
 refine bI (bQ b s1.2 w1.1 hb) ?_
 have w2:=aT w1.1
 generalize h2:aO b s1.2=s2 at w2⊢
 simp(disch:=omega) [av,VZ]
 refine bI (aA b s2.2 (decide (s2.1=0)) 5) ?_
 have e3:decide (s2.1=0)=decide (s2.1=0):=by first|rfl|(rw[decide_eq_decide];omega)
 rw[e3]
 have w3:=aX (bad:=decide (s2.1=0)) (c:=5) w2.1 (by omega)
 generalize h3:ax s2.2 (decide (s2.1=0)) 5=s3 at w3⊢
 simp(disch:=omega) [av,VZ]
 refine bI (aA b s3 (decide (l.txs < (s2.1:Int))) 3) ?_
 have e4:decide (l.txs < (s2.1:Int))=decide (l.txs < (s2.1:Int)):=by first|rfl|(rw[decide_eq_decide];omega)
 rw[e4]
 have w4:=aX (bad:=decide (l.txs < (s2.1:Int))) (c:=3) w3 (by omega)
 generalize h4:ax s3 (decide (l.txs < (s2.1:Int))) 3=s4 at w4⊢
 simp(disch:=omega) [av,VZ]
 refine bI (bQ b s4 w4 hb) ?_
 have w5:=aT w4
 generalize h5:aO b s4=s5 at w5⊢
 simp(disch:=omega) [av,VZ]
 refine bI (aA b s5.2 (decide (s2.1≤s5.1)) 5) ?_
 have e6:decide (s2.1≤s5.1)=decide ((s2.1:Int)≤(s5.1:Int)):=by first|rfl|(rw[decide_eq_decide];omega)
 rw[e6]
 have w6:=aX (bad:=decide ((s2.1:Int)≤(s5.1:Int))) (c:=5) w5.1 (by omega)
 generalize h6:ax s5.2 (decide ((s2.1:Int)≤(s5.1:Int))) 5=s6 at w6⊢
 simp(disch:=omega) [av,VZ]
 refine bI (vv b s6 l.tx (by omega) w6 hb) ?_
 have w7:=fi w6 l.tx.toNat
 generalize h7:bZ b s6 l.tx.toNat=s7 at w7⊢
 simp(disch:=omega) [av,VZ]
 have hi0:bu b l r=((s1.1,s2.1,s5.1,s7.1),s7.2):=by simp only[bu,aM,h1,h2,h3,h4,h5,h6,h7]
 rw[hi0]at hi
 simp only at hi
 refine ej (σ:=Nat×Nat×List Bytes×Rd) (f0:=_) (by simp(disch:=omega) [VZ];rfl) (dD.zg (s:=5) (k:=5) (i:=4) rfl rfl) (f1:=_) (es0:=_) (by simp(disch:=omega) [VZ];rfl) (by simp(disch:=omega) [VZ];rfl) (fun p=> [(6, .val false [.int .i64 (p.1:Int)]),(5, .box [.int .i64 s1.1, .int .i64 s2.1, .int .i64 s5.1, .ow 327680 36, .ow 5 p.2.1])]) (fun p=> [(4096, .pt 0 166 [.sl (bytes b), .int .i64 (p.2.2.2.at_:Int), .int .i64 (p.2.2.2.er:Int)]),(5, .sl p.2.1 true true (some (24,1)) (df p.2.2.1))])
  (fun p g=>(g+p.1=(bG s5.1 s2.1)∧p.2.2.1.length=p.1)∧(p.2.2.2.er=0→s7.2.er=0)∧p.2.2.2.wf b∧bm (fun r=>ba b r 32) (bG s5.1 s2.1) s7.2=(p.2.2.1++(bm (fun r=>ba b r 32) g p.2.2.2).1,(bm (fun r=>ba b r 32) g p.2.2.2).2)) (0,_,[],s7.2) (bG s5.1 s2.1) (by simp(disch:=omega) [VZ];rfl) (by simp(disch:=omega) [df,av,VZ]) ⟨⟨by simp,rfl⟩,fun h=>h,w7.1,by simp⟩ ?_
 rintro⟨i,v,x,⟨qa,qe⟩⟩ nx g0 ⟨⟨hg,h5⟩,h10,h6,h7⟩ P hP
 simp only at hg h5 h6 h7 h10
 have hl2:(df x).length=i:=by rw[cn];exact h5
 by_cases h9:qe=0
 ·subst h9
  have hi2:=hi (h10 rfl)
  have hpl:=dz s2.1 s5.1
  simp(disch:=omega) [av,VZ]
  refine cp (vG s2.1 s5.1 (by omega) (by omega)) ?_
  simp(disch:=omega) [VZ]
  refine aj (fun h8=> ?_) (fun h8=> ?_)
  ·simp(disch:=omega) [av,VZ]
   refine bI (fK b ⟨qa,0⟩ h6 hb) ?_
   have w25:=bU h6 32
   obtain⟨g1,rfl⟩:∃g1,g0=g1+1:=⟨g0 - 1,by omega⟩
   rw[fB rfl]at h7
   simp only at h7
   generalize h12:ba b ⟨qa,0⟩ 32=s25 at w25 h7⊢
   simp(disch:=omega) [av,hl2,oM,VZ]
   refine hP (i+1,_,x++ [s25.1],s25.2) g1 _ _ (by omega) ⟨⟨by simp only;omega,by simp[h5]⟩,fun _=>h10 rfl,w25.1,by rw[h7];simp⟩ (by simp(disch:=omega) [VZ];rfl) (by simp(disch:=omega) [av,VZ])
  ·obtain rfl:g0=0:=by omega
   simp only[bm,List.append_nil]at h7
   simp(disch:=omega) [kv,hi0,h7,cq.o,av,aI,aJ,aP,VZ]
 ·rw[fI (k:=g0) (r:=⟨qa,qe⟩) h9]at h7
  simp only[List.append_nil]at h7
  simp(disch:=omega) [h9,kv,hi0,h7,cq.o,av,aI,aJ,aP,VZ]
end Go.Eng.F
namespace Go.Eng.F
def bY (x:List E) (z:List E) (r:Rd):List (Bool×List E):=if r.er=0 then [(true,x),(false,[.p (.int .i64 (r.at_:Int))]),(false,[.p (.int .i64 0)])]else [(true,z),(false,[.p (.int .i64 0)]),(false,[.p (.int .i64 (r.er:Int))])]
def Pp:List E:= [.p (.int .i64 0), .p (.int .i64 0), .p .nils, .p .nils, .p .nils]
def vx:List E:= [.p (.int .i64 0), .p (.int .i64 0), .p .nils, .p (.int .i64 0), .p .nils]
def EA:List E:= [.p (.int .i64 0), .p (.int .i64 0), .p (.int .i64 0), .p .nils, .p .nils, .p (.int .i64 0), .p (.int .i64 0), .p .nils, .p .nils, .p .nils]
def x6:List E:= [.p (.int .i64 0), .p (.int .i64 0), .p (.int .i64 0), .p .nils, .p .nils, .p (.int .i64 0), .p (.int .i64 0), .p .nils, .p .nils, .p .nils, .p .nils]
def Pd:List E:= [.p (.int .i64 0), .p .nils]
def yI:List E:= [.p .nils, .p (.int .i64 0), .p (.int .i64 0), .p .nils, .p .nils, .p .nils]
def D8:List E:= [.p (.int .i64 0), .p (.int .i64 0), .p (.int .i64 0), .p .nils, .p .nils]
abbrev gp:Nat:=196
def gq:AF:=⟨4,6,[.cell 8 5 true, .tmp 9, .tmp 10],(.seq (.ops [.i (.lbox 4 (.s 0)), .i (.lal 8 [.int .i64 0, .int .i64 0, .nils, .int .i64 0, .nils]), .i (.mov 9 (qi 0)), .i (.mov 10 (qi 0))]) (.seq (.ops [.i (.lal 11 [.int .i64 0, .int .i64 0, .nils, .int .i64 0, .nils])]) (.seq (.seq (.ops [ql 14 4 4 5 true,qk 16 70 14, .i (.not 16 (.s 15))]) (.cond (.s 16) (.seq (.ops [ql 17 11 11 5 true,qs 8 8 17 5, .i (.mov 9 (qi 0)), .i (.mov 10 (qi 5))]) .ret) .skip)) (.seq (.ops [qm 18 1,qm 19 2, .i (.bld 20 [.nils, .int .i64 0, .int .i64 0] [(0,1,(.s 18)),(1,1,(.s 19))]), .i (.hbox 21 279 (.s 20)),qm 12 21]) (.seq (.ops [qm 22 3,ql 23 4 4 5 true,qm 24 12, .i (.clv 26 false (.s 22) [(.s 23),(.s 24)]), .i (.lal 13 [.int .i64 0, .int .i64 0, .nils, .int .i64 0, .nils]),qs 13 13 25 5]) (.seq (.seq (.ops [qm 26 12, .i (.nch 27 (.s 26)),qf 28 27 2, .i (.ldh 29 (.s 28) 1 false), .i (.bin 30 .neq (.s 29) (qi 0))]) (.cond (.s 30) (.seq (.ops [ql 31 11 11 5 true,qm 32 12, .i (.nch 33 (.s 32)),qf 34 33 2, .i (.ldh 35 (.s 34) 1 false),qs 8 8 31 5, .i (.mov 9 (qi 0)),qm 10 35]) .ret) .skip)) (.seq (.ops [ql 36 13 13 5 true,qm 37 12, .i (.nch 38 (.s 37)),qf 39 38 1, .i (.ldh 40 (.s 39) 1 false),qs 8 8 36 5,qm 9 40, .i (.mov 10 (qi 0))]) .ret)))))))⟩
theorem me:cd gp=some gq:=by kernel_rfl
theorem mi (b:Bytes) (l:ao) (k:Nat) (hok:l.ok=true) (hk:k≤b.length) (hb:b.length≤1073741824):VC cd gp (bJ [(true,l.c),(false,[.sl (bytes b)]),(false,[.int .i64 (k:Int)]),(false,[.fn ib])]) (fun rs _=>rs=bY (eG b l ⟨k,0⟩).1.o vx (eG b l ⟨k,0⟩).2):=by
 have hr:Rd.wf b ⟨k,0⟩:=⟨hk,by simp⟩
 refine aa me rfl ?_
 simp(disch:=omega) [gq,ao.c,VZ]
 refine cp (bz l) ?_ (ha:=by first|rfl|(simp[ao.c,VY] <;>repeat' constructor))
 simp(disch:=omega) [hok,VZ]
 refine bI (tW b l ⟨k,0⟩ hr hb) ?_ (n1:=by simp(disch:=omega) [c4.o,VZ]) (n3:=by simp(disch:=omega) [c4.o,VZ])
 generalize h1:eG b l ⟨k,0⟩=s1
 simp(disch:=omega) [av,c4.o,VZ]
 by_cases g:s1.2.er=0
 ·simp(disch:=omega) [g,bY,c4.o,VZ]
 ·simp(disch:=omega) [g,bY,vx,VZ]
abbrev oq:Nat:=135
def nP:AF:=⟨3,5,[.cell 6 5 true, .tmp 7, .tmp 8],(.seq (.ops [.i (.lbox 3 (.s 0)), .i (.lal 6 [.int .i64 0, .int .i64 0, .nils, .int .i64 0, .nils]), .i (.mov 7 (qi 0)), .i (.mov 8 (qi 0))]) (.seq (.ops [ql 9 3 3 5 true,qm 10 1,qm 11 2, .i (.call 13 196 false [(.s 9),(.s 10),(.s 11),(.c (.val false [.fn 197]))]), .i (.ext 13 (.s 12) 0), .i (.ext 14 (.s 12) 1), .i (.ext 15 (.s 12) 2),qs 6 6 13 5,qm 7 14,qm 8 15]) .ret))⟩
theorem xt:cd oq=some nP:=by kernel_rfl
theorem vK (b:Bytes) (l:ao) (k:Nat) (hok:l.ok=true) (hk:k≤b.length) (hb:b.length≤1073741824):VC cd oq (bJ [(true,l.c),(false,[.sl (bytes b)]),(false,[.int .i64 (k:Int)])]) (fun rs _=>rs=bY (eG b l ⟨k,0⟩).1.o vx (eG b l ⟨k,0⟩).2):=by
 refine aa xt rfl ?_
 simp(disch:=omega) [nP,ao.c,VZ]
 have h0:=mi b l k hok hk hb
 generalize h1:eG b l ⟨k,0⟩=s1 at h0⊢
 by_cases g:s1.2.er=0
 ·simp only[bY,if_pos g,c4.o]at h0⊢
  refine cp (h0) ?_ (ha:=by first|rfl|(simp[ao.c,VY] <;>repeat' constructor))
  simp(disch:=omega) [VZ]
 ·simp only[bY,if_neg g,vx]at h0⊢
  refine cp (h0) ?_ (ha:=by first|rfl|(simp[ao.c,VY] <;>repeat' constructor))
  simp(disch:=omega) [VZ]
abbrev il:Nat:=198
def ij:AF:=⟨4,6,[.cell 8 5 true, .tmp 9, .tmp 10],(.seq (.ops [.i (.lbox 4 (.s 0)), .i (.lal 8 [.int .i64 0, .int .i64 0, .nils, .nils, .nils]), .i (.mov 9 (qi 0)), .i (.mov 10 (qi 0))]) (.seq (.ops [.i (.lal 11 [.int .i64 0, .int .i64 0, .nils, .nils, .nils])]) (.seq (.seq (.ops [ql 14 4 4 5 true,qk 16 70 14, .i (.not 16 (.s 15))]) (.cond (.s 16) (.seq (.ops [ql 17 11 11 5 true,qs 8 8 17 5, .i (.mov 9 (qi 0)), .i (.mov 10 (qi 5))]) .ret) .skip)) (.seq (.ops [qm 18 1,qm 19 2, .i (.bld 20 [.nils, .int .i64 0, .int .i64 0] [(0,1,(.s 18)),(1,1,(.s 19))]), .i (.hbox 21 279 (.s 20)),qm 12 21]) (.seq (.ops [qm 22 3,ql 23 4 4 5 true,qm 24 12, .i (.clv 26 false (.s 22) [(.s 23),(.s 24)]), .i (.lal 13 [.int .i64 0, .int .i64 0, .nils, .nils, .nils]),qs 13 13 25 5]) (.seq (.seq (.ops [qm 26 12, .i (.nch 27 (.s 26)),qf 28 27 2, .i (.ldh 29 (.s 28) 1 false), .i (.bin 30 .neq (.s 29) (qi 0))]) (.cond (.s 30) (.seq (.ops [ql 31 11 11 5 true,qm 32 12, .i (.nch 33 (.s 32)),qf 34 33 2, .i (.ldh 35 (.s 34) 1 false),qs 8 8 31 5, .i (.mov 9 (qi 0)),qm 10 35]) .ret) .skip)) (.seq (.ops [ql 36 13 13 5 true,qm 37 12, .i (.nch 38 (.s 37)),qf 39 38 1, .i (.ldh 40 (.s 39) 1 false),qs 8 8 36 5,qm 9 40, .i (.mov 10 (qi 0))]) .ret)))))))⟩
theorem py:cd il=some ij:=by kernel_rfl
theorem pw (b:Bytes) (l:ao) (k:Nat) (hok:l.ok=true) (hk:k≤b.length) (hb:b.length≤1073741824):VC cd il (bJ [(true,l.c),(false,[.sl (bytes b)]),(false,[.int .i64 (k:Int)]),(false,[.fn ju])]) (fun rs _=>rs=bY (kb b l ⟨k,0⟩).1.o Pp (kb b l ⟨k,0⟩).2):=by
 have hr:Rd.wf b ⟨k,0⟩:=⟨hk,by simp⟩
 refine aa py rfl ?_
 simp(disch:=omega) [ij,ao.c,VZ]
 refine cp (bz l) ?_ (ha:=by first|rfl|(simp[ao.c,VY] <;>repeat' constructor))
 simp(disch:=omega) [hok,VZ]
 refine bI (eD b l ⟨k,0⟩ (dQ hok).1 hr hb) ?_ (n1:=by simp(disch:=omega) [Qc.o,VZ]) (n3:=by simp(disch:=omega) [Qc.o,VZ])
 generalize h1:kb b l ⟨k,0⟩=s1
 simp(disch:=omega) [av,Qc.o,VZ]
 by_cases g:s1.2.er=0
 ·simp(disch:=omega) [g,bY,Qc.o,VZ]
 ·simp(disch:=omega) [g,bY,Pp,VZ]
abbrev tg:Nat:=136
def rV:AF:=⟨3,5,[.cell 6 5 true, .tmp 7, .tmp 8],(.seq (.ops [.i (.lbox 3 (.s 0)), .i (.lal 6 [.int .i64 0, .int .i64 0, .nils, .nils, .nils]), .i (.mov 7 (qi 0)), .i (.mov 8 (qi 0))]) (.seq (.ops [ql 9 3 3 5 true,qm 10 1,qm 11 2, .i (.call 13 198 false [(.s 9),(.s 10),(.s 11),(.c (.val false [.fn 199]))]), .i (.ext 13 (.s 12) 0), .i (.ext 14 (.s 12) 1), .i (.ext 15 (.s 12) 2),qs 6 6 13 5,qm 7 14,qm 8 15]) .ret))⟩
theorem CN:cd tg=some rV:=by kernel_rfl
theorem zE (b:Bytes) (l:ao) (k:Nat) (hok:l.ok=true) (hk:k≤b.length) (hb:b.length≤1073741824):VC cd tg (bJ [(true,l.c),(false,[.sl (bytes b)]),(false,[.int .i64 (k:Int)])]) (fun rs _=>rs=bY (kb b l ⟨k,0⟩).1.o Pp (kb b l ⟨k,0⟩).2):=by
 refine aa CN rfl ?_
 simp(disch:=omega) [rV,ao.c,VZ]
 have h0:=pw b l k hok hk hb
 generalize h1:kb b l ⟨k,0⟩=s1 at h0⊢
 by_cases g:s1.2.er=0
 ·simp only[bY,if_pos g,Qc.o]at h0⊢
  refine cp (h0) ?_ (ha:=by first|rfl|(simp[ao.c,VY] <;>repeat' constructor))
  simp(disch:=omega) [VZ]
 ·simp only[bY,if_neg g,Pp]at h0⊢
  refine cp (h0) ?_ (ha:=by first|rfl|(simp[ao.c,VY] <;>repeat' constructor))
  simp(disch:=omega) [VZ]
abbrev gw:Nat:=200
def gk:AF:=⟨4,6,[.cell 8 10 true, .tmp 9, .tmp 10],(.seq (.ops [.i (.lbox 4 (.s 0)), .i (.lal 8 qz), .i (.mov 9 (qi 0)), .i (.mov 10 (qi 0))]) (.seq (.ops [.i (.lal 11 qz)]) (.seq (.seq (.ops [ql 14 4 4 5 true,qk 16 70 14, .i (.not 16 (.s 15))]) (.cond (.s 16) (.seq (.ops [ql 17 11 11 10 true,qs 8 8 17 10, .i (.mov 9 (qi 0)), .i (.mov 10 (qi 5))]) .ret) .skip)) (.seq (.ops [qm 18 1,qm 19 2, .i (.bld 20 [.nils, .int .i64 0, .int .i64 0] [(0,1,(.s 18)),(1,1,(.s 19))]), .i (.hbox 21 279 (.s 20)),qm 12 21]) (.seq (.ops [qm 22 3,ql 23 4 4 5 true,qm 24 12, .i (.clv 26 false (.s 22) [(.s 23),(.s 24)]), .i (.lal 13 qz),qs 13 13 25 10]) (.seq (.seq (.ops [qm 26 12, .i (.nch 27 (.s 26)),qf 28 27 2, .i (.ldh 29 (.s 28) 1 false), .i (.bin 30 .neq (.s 29) (qi 0))]) (.cond (.s 30) (.seq (.ops [ql 31 11 11 10 true,qm 32 12, .i (.nch 33 (.s 32)),qf 34 33 2, .i (.ldh 35 (.s 34) 1 false),qs 8 8 31 10, .i (.mov 9 (qi 0)),qm 10 35]) .ret) .skip)) (.seq (.ops [ql 36 13 13 10 true,qm 37 12, .i (.nch 38 (.s 37)),qf 39 38 1, .i (.ldh 40 (.s 39) 1 false),qs 8 8 36 10,qm 9 40, .i (.mov 10 (qi 0))]) .ret)))))))⟩
theorem mu:cd gw=some gk:=by kernel_rfl
theorem mn (b:Bytes) (l:ao) (k:Nat) (hok:l.ok=true) (hk:k≤b.length) (hb:b.length≤1073741824):VC cd gw (bJ [(true,l.c),(false,[.sl (bytes b)]),(false,[.int .i64 (k:Int)]),(false,[.fn hZ])]) (fun rs _=>rs=bY (bK b l ⟨k,0⟩).1.o EA (bK b l ⟨k,0⟩).2):=by
 have hr:Rd.wf b ⟨k,0⟩:=⟨hk,by simp⟩
 refine aa mu rfl ?_
 simp(disch:=omega) [gk,ao.c,VZ]
 refine cp (bz l) ?_ (ha:=by first|rfl|(simp[ao.c,VY] <;>repeat' constructor))
 simp(disch:=omega) [hok,VZ]
 refine bI (gz b l ⟨k,0⟩ (dQ hok).1 hr hb) ?_ (n1:=by simp(disch:=omega) [Head.o,VZ]) (n3:=by simp(disch:=omega) [Head.o,VZ])
 generalize h1:bK b l ⟨k,0⟩=s1
 simp(disch:=omega) [av,Head.o,VZ]
 by_cases g:s1.2.er=0
 ·simp(disch:=omega) [g,bY,Head.o,VZ]
 ·simp(disch:=omega) [g,bY,EA,VZ]
abbrev mz:Nat:=137
def oc:AF:=⟨3,5,[.cell 6 10 true, .tmp 7, .tmp 8],(.seq (.ops [.i (.lbox 3 (.s 0)), .i (.lal 6 qz), .i (.mov 7 (qi 0)), .i (.mov 8 (qi 0))]) (.seq (.ops [ql 9 3 3 5 true,qm 10 1,qm 11 2, .i (.call 13 200 false [(.s 9),(.s 10),(.s 11),(.c (.val false [.fn 201]))]), .i (.ext 13 (.s 12) 0), .i (.ext 14 (.s 12) 1), .i (.ext 15 (.s 12) 2),qs 6 6 13 10,qm 7 14,qm 8 15]) .ret))⟩
theorem ya:cd mz=some oc:=by kernel_rfl
theorem vD (b:Bytes) (l:ao) (k:Nat) (hok:l.ok=true) (hk:k≤b.length) (hb:b.length≤1073741824):VC cd mz (bJ [(true,l.c),(false,[.sl (bytes b)]),(false,[.int .i64 (k:Int)])]) (fun rs _=>rs=bY (bK b l ⟨k,0⟩).1.o EA (bK b l ⟨k,0⟩).2):=by
 refine aa ya rfl ?_
 simp(disch:=omega) [oc,ao.c,VZ]
 have h0:=mn b l k hok hk hb
 generalize h1:bK b l ⟨k,0⟩=s1 at h0⊢
 by_cases g:s1.2.er=0
 ·simp only[bY,if_pos g,Head.o]at h0⊢
  refine cp (h0) ?_ (ha:=by first|rfl|(simp[ao.c,VY] <;>repeat' constructor))
  simp(disch:=omega) [VZ]
 ·simp only[bY,if_neg g,EA]at h0⊢
  refine cp (h0) ?_ (ha:=by first|rfl|(simp[ao.c,VY] <;>repeat' constructor))
  simp(disch:=omega) [VZ]
abbrev fW:Nat:=202
def fU:AF:=⟨4,6,[.cell 8 11 true, .tmp 9, .tmp 10],(.seq (.ops [.i (.lbox 4 (.s 0)), .i (.lal 8 [.int .i64 0, .int .i64 0, .int .i64 0, .nils, .nils, .int .i64 0, .int .i64 0, .nils, .nils, .nils, .nils]), .i (.mov 9 (qi 0)), .i (.mov 10 (qi 0))]) (.seq (.ops [.i (.lal 11 [.int .i64 0, .int .i64 0, .int .i64 0, .nils, .nils, .int .i64 0, .int .i64 0, .nils, .nils, .nils, .nils])]) (.seq (.seq (.ops [ql 14 4 4 5 true,qk 16 70 14, .i (.not 16 (.s 15))]) (.cond (.s 16) (.seq (.ops [ql 17 11 11 11 true,qs 8 8 17 11, .i (.mov 9 (qi 0)), .i (.mov 10 (qi 5))]) .ret) .skip)) (.seq (.ops [qm 18 1,qm 19 2, .i (.bld 20 [.nils, .int .i64 0, .int .i64 0] [(0,1,(.s 18)),(1,1,(.s 19))]), .i (.hbox 21 279 (.s 20)),qm 12 21]) (.seq (.ops [qm 22 3,ql 23 4 4 5 true,qm 24 12, .i (.clv 26 false (.s 22) [(.s 23),(.s 24)]), .i (.lal 13 [.int .i64 0, .int .i64 0, .int .i64 0, .nils, .nils, .int .i64 0, .int .i64 0, .nils, .nils, .nils, .nils]),qs 13 13 25 11]) (.seq (.seq (.ops [qm 26 12, .i (.nch 27 (.s 26)),qf 28 27 2, .i (.ldh 29 (.s 28) 1 false), .i (.bin 30 .neq (.s 29) (qi 0))]) (.cond (.s 30) (.seq (.ops [ql 31 11 11 11 true,qm 32 12, .i (.nch 33 (.s 32)),qf 34 33 2, .i (.ldh 35 (.s 34) 1 false),qs 8 8 31 11, .i (.mov 9 (qi 0)),qm 10 35]) .ret) .skip)) (.seq (.ops [ql 36 13 13 11 true,qm 37 12, .i (.nch 38 (.s 37)),qf 39 38 1, .i (.ldh 40 (.s 39) 1 false),qs 8 8 36 11,qm 9 40, .i (.mov 10 (qi 0))]) .ret)))))))⟩
theorem kQ:cd fW=some fU:=by kernel_rfl
theorem kL (b:Bytes) (l:ao) (k:Nat) (hok:l.ok=true) (hk:k≤b.length) (hb:b.length≤1073741824):VC cd fW (bJ [(true,l.c),(false,[.sl (bytes b)]),(false,[.int .i64 (k:Int)]),(false,[.fn gD])]) (fun rs _=>rs=bY (cz b l ⟨k,0⟩).1.o x6 (cz b l ⟨k,0⟩).2):=by
 have hr:Rd.wf b ⟨k,0⟩:=⟨hk,by simp⟩
 refine aa kQ rfl ?_
 simp(disch:=omega) [fU,ao.c,VZ]
 refine cp (bz l) ?_ (ha:=by first|rfl|(simp[ao.c,VY] <;>repeat' constructor))
 simp(disch:=omega) [hok,VZ]
 refine bI (sw b l ⟨k,0⟩ (dQ hok) hr hb) ?_ (n1:=by simp(disch:=omega) [Block.o,VZ]) (n3:=by simp(disch:=omega) [Block.o,VZ])
 generalize h1:cz b l ⟨k,0⟩=s1
 simp(disch:=omega) [av,Block.o,VZ]
 by_cases g:s1.2.er=0
 ·simp(disch:=omega) [g,bY,Block.o,VZ]
 ·simp(disch:=omega) [g,bY,x6,VZ]
abbrev lY:Nat:=138
def lb:AF:=⟨3,5,[.cell 6 11 true, .tmp 7, .tmp 8],(.seq (.ops [.i (.lbox 3 (.s 0)), .i (.lal 6 [.int .i64 0, .int .i64 0, .int .i64 0, .nils, .nils, .int .i64 0, .int .i64 0, .nils, .nils, .nils, .nils]), .i (.mov 7 (qi 0)), .i (.mov 8 (qi 0))]) (.seq (.ops [ql 9 3 3 5 true,qm 10 1,qm 11 2, .i (.call 13 202 false [(.s 9),(.s 10),(.s 11),(.c (.val false [.fn 203]))]), .i (.ext 13 (.s 12) 0), .i (.ext 14 (.s 12) 1), .i (.ext 15 (.s 12) 2),qs 6 6 13 11,qm 7 14,qm 8 15]) .ret))⟩
theorem vO:cd lY=some lb:=by kernel_rfl
theorem ur (b:Bytes) (l:ao) (k:Nat) (hok:l.ok=true) (hk:k≤b.length) (hb:b.length≤1073741824):VC cd lY (bJ [(true,l.c),(false,[.sl (bytes b)]),(false,[.int .i64 (k:Int)])]) (fun rs _=>rs=bY (cz b l ⟨k,0⟩).1.o x6 (cz b l ⟨k,0⟩).2):=by
 refine aa vO rfl ?_
 simp(disch:=omega) [lb,ao.c,VZ]
 have h0:=kL b l k hok hk hb
 generalize h1:cz b l ⟨k,0⟩=s1 at h0⊢
 by_cases g:s1.2.er=0
 ·simp only[bY,if_pos g,Block.o]at h0⊢
  refine cp (h0) ?_ (ha:=by first|rfl|(simp[ao.c,VY] <;>repeat' constructor))
  simp(disch:=omega) [VZ]
 ·simp only[bY,if_neg g,x6]at h0⊢
  refine cp (h0) ?_ (ha:=by first|rfl|(simp[ao.c,VY] <;>repeat' constructor))
  simp(disch:=omega) [VZ]
abbrev ir:Nat:=204
def ik:AF:=⟨4,6,[.cell 8 2 true, .tmp 9, .tmp 10],(.seq (.ops [.i (.lbox 4 (.s 0)), .i (.lal 8 [.int .i64 0, .nils]), .i (.mov 9 (qi 0)), .i (.mov 10 (qi 0))]) (.seq (.ops [.i (.lal 11 [.int .i64 0, .nils])]) (.seq (.seq (.ops [ql 14 4 4 5 true,qk 16 70 14, .i (.not 16 (.s 15))]) (.cond (.s 16) (.seq (.ops [ql 17 11 11 2 true,qs 8 8 17 2, .i (.mov 9 (qi 0)), .i (.mov 10 (qi 5))]) .ret) .skip)) (.seq (.ops [qm 18 1,qm 19 2, .i (.bld 20 [.nils, .int .i64 0, .int .i64 0] [(0,1,(.s 18)),(1,1,(.s 19))]), .i (.hbox 21 279 (.s 20)),qm 12 21]) (.seq (.ops [qm 22 3,ql 23 4 4 5 true,qm 24 12, .i (.clv 26 false (.s 22) [(.s 23),(.s 24)]), .i (.lal 13 [.int .i64 0, .nils]),qs 13 13 25 2]) (.seq (.seq (.ops [qm 26 12, .i (.nch 27 (.s 26)),qf 28 27 2, .i (.ldh 29 (.s 28) 1 false), .i (.bin 30 .neq (.s 29) (qi 0))]) (.cond (.s 30) (.seq (.ops [ql 31 11 11 2 true,qm 32 12, .i (.nch 33 (.s 32)),qf 34 33 2, .i (.ldh 35 (.s 34) 1 false),qs 8 8 31 2, .i (.mov 9 (qi 0)),qm 10 35]) .ret) .skip)) (.seq (.ops [ql 36 13 13 2 true,qm 37 12, .i (.nch 38 (.s 37)),qf 39 38 1, .i (.ldh 40 (.s 39) 1 false),qs 8 8 36 2,qm 9 40, .i (.mov 10 (qi 0))]) .ret)))))))⟩
theorem pF:cd ir=some ik:=by kernel_rfl
theorem pJ (b:Bytes) (l:ao) (k:Nat) (hok:l.ok=true) (hk:k≤b.length) (hb:b.length≤1073741824):VC cd ir (bJ [(true,l.c),(false,[.sl (bytes b)]),(false,[.int .i64 (k:Int)]),(false,[.fn jz])]) (fun rs _=>rs=bY (uX b l ⟨k,0⟩).1.o Pd (uX b l ⟨k,0⟩).2):=by
 have hr:Rd.wf b ⟨k,0⟩:=⟨hk,by simp⟩
 refine aa pF rfl ?_
 simp(disch:=omega) [ik,ao.c,VZ]
 refine cp (bz l) ?_ (ha:=by first|rfl|(simp[ao.c,VY] <;>repeat' constructor))
 simp(disch:=omega) [hok,VZ]
 refine bI (x0 b l ⟨k,0⟩ (dQ hok) hr hb) ?_ (n1:=by simp(disch:=omega) [Tc.o,VZ]) (n3:=by simp(disch:=omega) [Tc.o,VZ])
 generalize h1:uX b l ⟨k,0⟩=s1
 simp(disch:=omega) [av,Tc.o,VZ]
 by_cases g:s1.2.er=0
 ·simp(disch:=omega) [g,bY,Tc.o,VZ]
 ·simp(disch:=omega) [g,bY,Pd,VZ]
abbrev so:Nat:=139
def sX:AF:=⟨3,5,[.cell 6 2 true, .tmp 7, .tmp 8],(.seq (.ops [.i (.lbox 3 (.s 0)), .i (.lal 6 [.int .i64 0, .nils]), .i (.mov 7 (qi 0)), .i (.mov 8 (qi 0))]) (.seq (.ops [ql 9 3 3 5 true,qm 10 1,qm 11 2, .i (.call 13 204 false [(.s 9),(.s 10),(.s 11),(.c (.val false [.fn 205]))]), .i (.ext 13 (.s 12) 0), .i (.ext 14 (.s 12) 1), .i (.ext 15 (.s 12) 2),qs 6 6 13 2,qm 7 14,qm 8 15]) .ret))⟩
theorem B9:cd so=some sX:=by kernel_rfl
theorem zV (b:Bytes) (l:ao) (k:Nat) (hok:l.ok=true) (hk:k≤b.length) (hb:b.length≤1073741824):VC cd so (bJ [(true,l.c),(false,[.sl (bytes b)]),(false,[.int .i64 (k:Int)])]) (fun rs _=>rs=bY (uX b l ⟨k,0⟩).1.o Pd (uX b l ⟨k,0⟩).2):=by
 refine aa B9 rfl ?_
 simp(disch:=omega) [sX,ao.c,VZ]
 have h0:=pJ b l k hok hk hb
 generalize h1:uX b l ⟨k,0⟩=s1 at h0⊢
 by_cases g:s1.2.er=0
 ·simp only[bY,if_pos g,Tc.o]at h0⊢
  refine cp (h0) ?_ (ha:=by first|rfl|(simp[ao.c,VY] <;>repeat' constructor))
  simp(disch:=omega) [VZ]
 ·simp only[bY,if_neg g,Pd]at h0⊢
  refine cp (h0) ?_ (ha:=by first|rfl|(simp[ao.c,VY] <;>repeat' constructor))
  simp(disch:=omega) [VZ]
abbrev fT:Nat:=206
def fQ:AF:=⟨4,6,[.cell 8 6 true, .tmp 9, .tmp 10],(.seq (.ops [.i (.lbox 4 (.s 0)), .i (.lal 8 [.nils, .int .i64 0, .int .i64 0, .nils, .nils, .nils]), .i (.mov 9 (qi 0)), .i (.mov 10 (qi 0))]) (.seq (.ops [.i (.lal 11 [.nils, .int .i64 0, .int .i64 0, .nils, .nils, .nils])]) (.seq (.seq (.ops [ql 14 4 4 5 true,qk 16 70 14, .i (.not 16 (.s 15))]) (.cond (.s 16) (.seq (.ops [ql 17 11 11 6 true,qs 8 8 17 6, .i (.mov 9 (qi 0)), .i (.mov 10 (qi 5))]) .ret) .skip)) (.seq (.ops [qm 18 1,qm 19 2, .i (.bld 20 [.nils, .int .i64 0, .int .i64 0] [(0,1,(.s 18)),(1,1,(.s 19))]), .i (.hbox 21 279 (.s 20)),qm 12 21]) (.seq (.ops [qm 22 3,ql 23 4 4 5 true,qm 24 12, .i (.clv 26 false (.s 22) [(.s 23),(.s 24)]), .i (.lal 13 [.nils, .int .i64 0, .int .i64 0, .nils, .nils, .nils]),qs 13 13 25 6]) (.seq (.seq (.ops [qm 26 12, .i (.nch 27 (.s 26)),qf 28 27 2, .i (.ldh 29 (.s 28) 1 false), .i (.bin 30 .neq (.s 29) (qi 0))]) (.cond (.s 30) (.seq (.ops [ql 31 11 11 6 true,qm 32 12, .i (.nch 33 (.s 32)),qf 34 33 2, .i (.ldh 35 (.s 34) 1 false),qs 8 8 31 6, .i (.mov 9 (qi 0)),qm 10 35]) .ret) .skip)) (.seq (.ops [ql 36 13 13 6 true,qm 37 12, .i (.nch 38 (.s 37)),qf 39 38 1, .i (.ldh 40 (.s 39) 1 false),qs 8 8 36 6,qm 9 40, .i (.mov 10 (qi 0))]) .ret)))))))⟩
theorem kU:cd fT=some fQ:=by kernel_rfl
theorem kP (b:Bytes) (l:ao) (k:Nat) (hok:l.ok=true) (hk:k≤b.length) (hb:b.length≤1073741824):VC cd fT (bJ [(true,l.c),(false,[.sl (bytes b)]),(false,[.int .i64 (k:Int)]),(false,[.fn gB])]) (fun rs _=>rs=bY (b7 b l ⟨k,0⟩).1.o yI (b7 b l ⟨k,0⟩).2):=by
 have hr:Rd.wf b ⟨k,0⟩:=⟨hk,by simp⟩
 refine aa kU rfl ?_
 simp(disch:=omega) [fQ,ao.c,VZ]
 refine cp (bz l) ?_ (ha:=by first|rfl|(simp[ao.c,VY] <;>repeat' constructor))
 simp(disch:=omega) [hok,VZ]
 refine bI (sM b l ⟨k,0⟩ (dQ hok) hr hb) ?_ (n1:=by simp(disch:=omega) [Proof.o,VZ]) (n3:=by simp(disch:=omega) [Proof.o,VZ])
 generalize h1:b7 b l ⟨k,0⟩=s1
 simp(disch:=omega) [av,Proof.o,VZ]
 by_cases g:s1.2.er=0
 ·simp(disch:=omega) [g,bY,Proof.o,VZ]
 ·simp(disch:=omega) [g,bY,yI,VZ]
abbrev lR:Nat:=140
def lK:AF:=⟨3,5,[.cell 6 6 true, .tmp 7, .tmp 8],(.seq (.ops [.i (.lbox 3 (.s 0)), .i (.lal 6 [.nils, .int .i64 0, .int .i64 0, .nils, .nils, .nils]), .i (.mov 7 (qi 0)), .i (.mov 8 (qi 0))]) (.seq (.ops [ql 9 3 3 5 true,qm 10 1,qm 11 2, .i (.call 13 206 false [(.s 9),(.s 10),(.s 11),(.c (.val false [.fn 207]))]), .i (.ext 13 (.s 12) 0), .i (.ext 14 (.s 12) 1), .i (.ext 15 (.s 12) 2),qs 6 6 13 6,qm 7 14,qm 8 15]) .ret))⟩
theorem wq:cd lR=some lK:=by kernel_rfl
theorem tT (b:Bytes) (l:ao) (k:Nat) (hok:l.ok=true) (hk:k≤b.length) (hb:b.length≤1073741824):VC cd lR (bJ [(true,l.c),(false,[.sl (bytes b)]),(false,[.int .i64 (k:Int)])]) (fun rs _=>rs=bY (b7 b l ⟨k,0⟩).1.o yI (b7 b l ⟨k,0⟩).2):=by
 refine aa wq rfl ?_
 simp(disch:=omega) [lK,ao.c,VZ]
 have h0:=kP b l k hok hk hb
 generalize h1:b7 b l ⟨k,0⟩=s1 at h0⊢
 by_cases g:s1.2.er=0
 ·simp only[bY,if_pos g,Proof.o]at h0⊢
  refine cp (h0) ?_ (ha:=by first|rfl|(simp[ao.c,VY] <;>repeat' constructor))
  simp(disch:=omega) [VZ]
 ·simp only[bY,if_neg g,yI]at h0⊢
  refine cp (h0) ?_ (ha:=by first|rfl|(simp[ao.c,VY] <;>repeat' constructor))
  simp(disch:=omega) [VZ]
abbrev gr:Nat:=208
def gj:AF:=⟨4,6,[.cell 8 5 true, .tmp 9, .tmp 10],(.seq (.ops [.i (.lbox 4 (.s 0)), .i (.lal 8 [.int .i64 0, .int .i64 0, .int .i64 0, .nils, .nils]), .i (.mov 9 (qi 0)), .i (.mov 10 (qi 0))]) (.seq (.ops [.i (.lal 11 [.int .i64 0, .int .i64 0, .int .i64 0, .nils, .nils])]) (.seq (.seq (.ops [ql 14 4 4 5 true,qk 16 70 14, .i (.not 16 (.s 15))]) (.cond (.s 16) (.seq (.ops [ql 17 11 11 5 true,qs 8 8 17 5, .i (.mov 9 (qi 0)), .i (.mov 10 (qi 5))]) .ret) .skip)) (.seq (.ops [qm 18 1,qm 19 2, .i (.bld 20 [.nils, .int .i64 0, .int .i64 0] [(0,1,(.s 18)),(1,1,(.s 19))]), .i (.hbox 21 279 (.s 20)),qm 12 21]) (.seq (.ops [qm 22 3,ql 23 4 4 5 true,qm 24 12, .i (.clv 26 false (.s 22) [(.s 23),(.s 24)]), .i (.lal 13 [.int .i64 0, .int .i64 0, .int .i64 0, .nils, .nils]),qs 13 13 25 5]) (.seq (.seq (.ops [qm 26 12, .i (.nch 27 (.s 26)),qf 28 27 2, .i (.ldh 29 (.s 28) 1 false), .i (.bin 30 .neq (.s 29) (qi 0))]) (.cond (.s 30) (.seq (.ops [ql 31 11 11 5 true,qm 32 12, .i (.nch 33 (.s 32)),qf 34 33 2, .i (.ldh 35 (.s 34) 1 false),qs 8 8 31 5, .i (.mov 9 (qi 0)),qm 10 35]) .ret) .skip)) (.seq (.ops [ql 36 13 13 5 true,qm 37 12, .i (.nch 38 (.s 37)),qf 39 38 1, .i (.ldh 40 (.s 39) 1 false),qs 8 8 36 5,qm 9 40, .i (.mov 10 (qi 0))]) .ret)))))))⟩
theorem mg:cd gr=some gj:=by kernel_rfl
theorem ml (b:Bytes) (l:ao) (k:Nat) (hok:l.ok=true) (hk:k≤b.length) (hb:b.length≤1073741824):VC cd gr (bJ [(true,l.c),(false,[.sl (bytes b)]),(false,[.int .i64 (k:Int)]),(false,[.fn hX])]) (fun rs _=>rs=bY (eu b l ⟨k,0⟩).1.o D8 (eu b l ⟨k,0⟩).2):=by
 have hr:Rd.wf b ⟨k,0⟩:=⟨hk,by simp⟩
 refine aa mg rfl ?_
 simp(disch:=omega) [gj,ao.c,VZ]
 refine cp (bz l) ?_ (ha:=by first|rfl|(simp[ao.c,VY] <;>repeat' constructor))
 simp(disch:=omega) [hok,VZ]
 refine bI (uW b l ⟨k,0⟩ (dQ hok) hr hb) ?_ (n1:=by simp(disch:=omega) [cq.o,VZ]) (n3:=by simp(disch:=omega) [cq.o,VZ])
 generalize h1:eu b l ⟨k,0⟩=s1
 simp(disch:=omega) [av,cq.o,VZ]
 by_cases g:s1.2.er=0
 ·simp(disch:=omega) [g,bY,cq.o,VZ]
 ·simp(disch:=omega) [g,bY,D8,VZ]
abbrev oF:Nat:=141
def nc:AF:=⟨3,5,[.cell 6 5 true, .tmp 7, .tmp 8],(.seq (.ops [.i (.lbox 3 (.s 0)), .i (.lal 6 [.int .i64 0, .int .i64 0, .int .i64 0, .nils, .nils]), .i (.mov 7 (qi 0)), .i (.mov 8 (qi 0))]) (.seq (.ops [ql 9 3 3 5 true,qm 10 1,qm 11 2, .i (.call 13 208 false [(.s 9),(.s 10),(.s 11),(.c (.val false [.fn 209]))]), .i (.ext 13 (.s 12) 0), .i (.ext 14 (.s 12) 1), .i (.ext 15 (.s 12) 2),qs 6 6 13 5,qm 7 14,qm 8 15]) .ret))⟩
theorem y7:cd oF=some nc:=by kernel_rfl
theorem vS (b:Bytes) (l:ao) (k:Nat) (hok:l.ok=true) (hk:k≤b.length) (hb:b.length≤1073741824):VC cd oF (bJ [(true,l.c),(false,[.sl (bytes b)]),(false,[.int .i64 (k:Int)])]) (fun rs _=>rs=bY (eu b l ⟨k,0⟩).1.o D8 (eu b l ⟨k,0⟩).2):=by
 refine aa y7 rfl ?_
 simp(disch:=omega) [nc,ao.c,VZ]
 have h0:=ml b l k hok hk hb
 generalize h1:eu b l ⟨k,0⟩=s1 at h0⊢
 by_cases g:s1.2.er=0
 ·simp only[bY,if_pos g,cq.o]at h0⊢
  refine cp (h0) ?_ (ha:=by first|rfl|(simp[ao.c,VY] <;>repeat' constructor))
  simp(disch:=omega) [VZ]
 ·simp only[bY,if_neg g,D8]at h0⊢
  refine cp (h0) ?_ (ha:=by first|rfl|(simp[ao.c,VY] <;>repeat' constructor))
  simp(disch:=omega) [VZ]
end Go.Eng.F
namespace Go.Eng.F
def strs (l:List ByteArray):List (List D):=l.map fun s=> [.str s]
theorem JP (l:List ByteArray):(strs l).length=l.length:=by simp[strs]
theorem H5 {l:List ByteArray} {i:Nat} (h:i < l.length):(strs l)[i]? =some [.str l[i]]:=by simp[strs,h]
abbrev qK:Nat:=195
def qU:AF:=⟨2,4,[.tmp 4],(.seq (.ops [.i (.mov 4 (.c (.val false [.str ByteArray.empty])))]) (.seq (.seq (.ops [qm 5 0,qm 6 1,qn 7 6, .i (.bin 8 .sub (.s 7) (qi 1)), .i (.call 10 103 false [(.s 5),(qi 0),(.s 8)]), .i (.not 10 (.s 9))]) (.cond (.s 10) (.seq (.ops [.i (.mov 4 (.c (.val false [.str ByteArray.empty])))]) .ret) .skip)) (.seq (.ops [qm 11 1,qm 12 0, .i (.iad 13 (.s 11) (.s 12) 1), .i (.ldh 14 (.s 13) 1 false),qm 4 14]) .ret)))⟩
theorem zf:cd qK=some qU:=by kernel_rfl
theorem HB (l:List ByteArray) (k:Nat) (hl:l.length≤1000):VC cd qK (bJ [(false,[.int .i64 (k:Int)]),(false,[.sl (strs l)])]) (fun rs _=>rs= [(false,[.p (.str ((l[k]?).getD ByteArray.empty))])]):=by
 refine aa zf rfl ?_
 simp(disch:=omega) [qU,JP,VY]
 refine cp (bA (k:Int) 0 ((l.length:Int) - 1)) ?_
 simp(disch:=omega) [dR,VY]
 by_cases h:k < l.length
 ·have h1:(k:Int)≤(l.length:Int) - 1:=by omega
  simp(disch:=omega) [h1,H5 h,h,VY]
 ·have h1:¬(k:Int)≤(l.length:Int) - 1:=by omega
  simp(disch:=omega) [h1,h,VY]
def kinds:List ByteArray:= [ByteArray.empty,⟨#[118,111,116,101]⟩,⟨#[113,99]⟩,⟨#[104,101,97,100]⟩,⟨#[98,108,111,99,107]⟩,⟨#[116,99]⟩,⟨#[112,114,111,111,102]⟩,⟨#[105,110,99,108]⟩]
def kindName (k:Nat):ByteArray:=(kinds[k]?).getD ByteArray.empty
abbrev lF:Nat:=134
def lL:AF:=⟨1,3,[.tmp 2],(.seq (.ops [.i (.mov 2 (.c (.val false [.str ByteArray.empty])))]) (.seq (.ops [qm 3 0, .i (.bsl 4 9 1 8 [.str ByteArray.empty] [(0,1,(.c (.val false [.str ByteArray.empty]))),(1,1,(.c (.val false [.str ⟨#[118,111,116,101]⟩]))),(2,1,(.c (.val false [.str ⟨#[113,99]⟩]))),(3,1,(.c (.val false [.str ⟨#[104,101,97,100]⟩]))),(4,1,(.c (.val false [.str ⟨#[98,108,111,99,107]⟩]))),(5,1,(.c (.val false [.str ⟨#[116,99]⟩]))),(6,1,(.c (.val false [.str ⟨#[112,114,111,111,102]⟩]))),(7,1,(.c (.val false [.str ⟨#[105,110,99,108]⟩])))]), .i (.call 6 195 false [(.s 3),(.s 4)]),qm 2 5]) .ret))⟩
theorem vI:cd lF=some lL:=by kernel_rfl
theorem DX (k:Nat):VC cd lF (bJ [(false,[.int .i64 (k:Int)])]) (fun rs _=>rs= [(false,[.p (.str (kindName k))])]):=by
 refine aa vI rfl ?_
 simp(disch:=omega) [lL,VY]
 refine cp (HB kinds k (by simp[kinds])) ?_
 simp(disch:=omega) [kindName,VY]
theorem m0 (k:Nat):kindName k=ByteArray.empty↔k=0∨8≤k:=by
 by_cases h:8≤k
 ·have:kindName k=ByteArray.empty:=by
   unfold kindName
   rw[List.getElem?_eq_none (by simp[kinds];omega)]
   rfl
  exact⟨fun _=> .inr h,fun _=>this⟩
 ·have ne:∀s:ByteArray,s.size≠0→s≠ByteArray.empty:=fun s h1 h2=>h1 (by rw[h2];rfl)
  have hk:k=0∨k=1∨k=2∨k=3∨k=4∨k=5∨k=6∨k=7:=by omega
  rcases hk with rfl|rfl|rfl|rfl|rfl|rfl|rfl|rfl
  ·exact⟨fun _=> .inl rfl,fun _=>rfl⟩
  all_goals exact⟨fun e=>absurd e (ne _ (by decide)),fun e=>by omega⟩
abbrev qI:Nat:=124
def pU:AF:=⟨3,5,[.tmp 6],(.seq (.ops [.i (.lbox 3 (.s 0)), .i (.mov 6 (.c (.val false [.nilp])))]) (.seq (.ops [qm 8 1,qm 9 2, .i (.bld 10 [.nils, .int .i64 0, .int .i64 0] [(0,1,(.s 8)),(1,1,(.s 9))]), .i (.hbox 11 166 (.s 10)),qm 7 11]) (.seq (.seq (.ops [ql 12 3 3 5 true,qk 14 66 12, .i (.not 14 (.s 13))]) (.cond (.s 14) (.ops [qm 15 7, .i (.nch 16 (.s 15)),qf 17 16 2, .i (.sth (.s 17) (qi 5) 1)]) .skip)) (.seq (.ops [qm 18 7,qm 6 18]) .ret))))⟩
theorem zl:cd qI=some pU:=by kernel_rfl
theorem uy (b:Bytes) (l:ao) (k:Nat):VC cd qI (bJ [(true,l.c),(false,[.sl (bytes b)]),(false,[.int .i64 (k:Int)])]) (fun rs _=>rs= [(false,[.pt 166 (av b ⟨k,if l.ok=true then 0 else 5⟩)])]):=by
 refine aa zl rfl ?_
 simp(disch:=omega) [pU,ao.c,VZ]
 refine cp (dL l) ?_ (ha:=by first|rfl|(simp[ao.c,VY] <;>repeat' constructor))
 simp(disch:=omega) [VZ]
 refine dT (fun h1=> ?_) (fun h1=> ?_)
 ·simp(disch:=omega) [h1,av,VZ]
 ·simp(disch:=omega) [h1,av,VZ]
abbrev oE:Nat:=125
def na:AF:=⟨3,6,[.cell 6 5 true, .tmp 7, .tmp 8],(.seq (.ops [.i (.lbox 3 (.s 0)), .i (.lal 6 [.int .i64 0, .int .i64 0, .nils, .int .i64 0, .nils]), .i (.mov 7 (qi 0)), .i (.mov 8 (qi 0))]) (.seq (.ops [ql 11 3 3 5 true,qm 12 1,qm 13 2, .i (.call 15 124 false [(.s 11),(.s 12),(.s 13)]),qm 9 14]) (.seq (.ops [qm 15 9,qk 17 184 15, .i (.bld 17 [.int .i64 0, .int .i64 0, .nils, .int .i64 0, .nils] [(0,1,(.s 16))]), .i (.lal 10 [.int .i64 0, .int .i64 0, .nils, .int .i64 0, .nils]),qs 10 10 17 5]) (.seq (.ops [qm 18 9,qk 20 184 18,qf 20 10 1,qs 10 20 19 1]) (.seq (.ops [qm 21 9,qk 23 185 21,qf 23 10 2,qs 10 23 22 1]) (.seq (.ops [qm 24 9,qk 26 184 24,qf 26 10 3,qs 10 26 25 1]) (.seq (.ops [qm 27 9,qf 28 10 3,ql 29 10 28 1 false,qf 30 3 0,ql 31 3 30 1 false,qd 32 .geq 29 31, .i (.call 34 132 false [(.s 27),(.s 32),(qi 5)])]) (.seq (.ops [qm 34 9,qk 36 185 34,qf 36 10 4,qs 10 36 35 1]) (.seq (.seq (.ops [qm 37 9, .i (.nch 38 (.s 37)),qf 39 38 2, .i (.ldh 40 (.s 39) 1 false), .i (.bin 41 .neq (.s 40) (qi 0))]) (.cond (.s 41) (.seq (.ops [.i (.bld 42 [.int .i64 0, .int .i64 0, .nils, .int .i64 0, .nils] []),qm 43 9, .i (.nch 44 (.s 43)),qf 45 44 2, .i (.ldh 46 (.s 45) 1 false),qs 6 6 42 5, .i (.mov 7 (qi 0)),qm 8 46]) .ret) .skip)) (.seq (.ops [ql 47 10 10 5 true,qm 48 9, .i (.nch 49 (.s 48)),qf 50 49 1, .i (.ldh 51 (.s 50) 1 false),qs 6 6 47 5,qm 7 51, .i (.mov 8 (qi 0))]) .ret))))))))))⟩
theorem x5:cd oE=some na:=by kernel_rfl
theorem wo (b:Bytes) (l:ao) (k:Nat) (hok:l.ok=true) (hk:k≤b.length) (hb:b.length≤1073741824):VC cd oE (bJ [(true,l.c),(false,[.sl (bytes b)]),(false,[.int .i64 (k:Int)])]) (fun rs _=>rs=bY (eG b l ⟨k,0⟩).1.o vx (eG b l ⟨k,0⟩).2):=by
 have hr:Rd.wf b ⟨k,0⟩:=⟨hk,by simp⟩
 refine aa x5 rfl ?_
 simp(disch:=omega) [na,ao.c,VZ]
 refine P1 (uy b l k) ?_ (ha:=by first|rfl|(simp[ao.c,VY] <;>repeat' constructor))
 simp(disch:=omega) [hok,av,Bf,VZ]
 refine bI (bQ b ⟨k,0⟩ hr hb) ?_
 have w1:=aT hr
 generalize h1:aO b ⟨k,0⟩=s1 at w1⊢
 simp(disch:=omega) [av,VZ]
 refine bI (bQ b s1.2 w1.1 hb) ?_
 have w2:=aT w1.1
 generalize h2:aO b s1.2=s2 at w2⊢
 simp(disch:=omega) [av,VZ]
 refine bI (fK b s2.2 w2.1 hb) ?_
 have w3:=bU w2.1 32
 generalize h3:ba b s2.2 32=s3 at w3⊢
 simp(disch:=omega) [av,VZ]
 refine bI (bQ b s3.2 w3.1 hb) ?_
 have w4:=aT w3.1
 generalize h4:aO b s3.2=s4 at w4⊢
 simp(disch:=omega) [av,VZ]
 refine bI (aA b s4.2 (decide (l.n≤(s4.1:Int))) 5) ?_
 have w5:=aX (bad:=decide (l.n≤(s4.1:Int))) (c:=5) w4.1 (by omega)
 generalize h5:ax s4.2 (decide (l.n≤(s4.1:Int))) 5=s5 at w5⊢
 simp(disch:=omega) [av,VZ]
 refine bI (fK b s5 w5 hb) ?_
 have w6:=bU w5 32
 generalize h6:ba b s5 32=s6 at w6⊢
 simp(disch:=omega) [av,VZ]
 have h0:eG b l ⟨k,0⟩=(⟨s1.1,s2.1,s3.1,s4.1,s6.1⟩,s6.2):=by simp only[eG,aM,h1,h2,h3,h4,h5,h6]
 by_cases g:s6.2.er=0
 ·simp(disch:=omega) [g,h0,bY,c4.o,VZ]
 ·simp(disch:=omega) [g,h0,bY,vx,VZ]
end Go.Eng.F
namespace Go.Eng.F
def cm.o (m:cm):List E:= [.p (.int .i64 m.kind), .p (.int .i64 m.vote.view), .p (.int .i64 m.vote.height), .o true (some (5,1)) (bytes m.vote.block), .p (.int .i64 m.vote.who), .o true (some (5,1)) (bytes m.vote.tag), .p (.int .i64 m.qc.view), .p (.int .i64 m.qc.height), .o true (some (5,1)) (bytes m.qc.block), .o true (some (5,1)) (bytes m.qc.bits), .o true (some (24,1)) (df m.qc.tags), .p (.int .i64 m.head.view), .p (.int .i64 m.head.height), .p (.int .i64 m.head.proposer), .o true (some (5,1)) (bytes m.head.parent), .o true (some (5,1)) (bytes m.head.root), .p (.int .i64 m.head.qc.view), .p (.int .i64 m.head.qc.height), .o true (some (5,1)) (bytes m.head.qc.block), .o true (some (5,1)) (bytes m.head.qc.bits), .o true (some (24,1)) (df m.head.qc.tags), .p (.int .i64 m.block.head.view), .p (.int .i64 m.block.head.height), .p (.int .i64 m.block.head.proposer), .o true (some (5,1)) (bytes m.block.head.parent), .o true (some (5,1)) (bytes m.block.head.root), .p (.int .i64 m.block.head.qc.view), .p (.int .i64 m.block.head.qc.height), .o true (some (5,1)) (bytes m.block.head.qc.block), .o true (some (5,1)) (bytes m.block.head.qc.bits), .o true (some (24,1)) (df m.block.head.qc.tags), .o true (some (24,1)) (df m.block.txs), .p (.int .i64 m.tc.view), .o true (some (135,3)) (AZ m.tc.entries), .o true (some (64,10)) (uL m.proof.heads), .p (.int .i64 m.proof.qc.view), .p (.int .i64 m.proof.qc.height), .o true (some (5,1)) (bytes m.proof.qc.block), .o true (some (5,1)) (bytes m.proof.qc.bits), .o true (some (24,1)) (df m.proof.qc.tags), .p (.int .i64 m.incl.height), .p (.int .i64 m.incl.n), .p (.int .i64 m.incl.idx), .o true (some (5,1)) (bytes m.incl.tx), .o true (some (24,1)) (df m.incl.path)]
def cH (b:Bytes) (m:cm) (r:Rd):cm×Nat:=if r.er≠0 then(az,r.er)else if r.at_≠b.length then(az,9)else(m,0)
def gH (l:ao) (b:Bytes):Nat→cm×Nat
 |1=>cH b {az with kind:=1,vote:=(eG b l ⟨1,0⟩).1} (eG b l ⟨1,0⟩).2
 |2=>cH b {az with kind:=2,qc:=(kb b l ⟨1,0⟩).1} (kb b l ⟨1,0⟩).2
 |3=>cH b {az with kind:=3,head:=(bK b l ⟨1,0⟩).1} (bK b l ⟨1,0⟩).2
 |4=>cH b {az with kind:=4,block:=(cz b l ⟨1,0⟩).1} (cz b l ⟨1,0⟩).2
 |5=>cH b {az with kind:=5,tc:=(uX b l ⟨1,0⟩).1} (uX b l ⟨1,0⟩).2
 |6=>cH b {az with kind:=6,proof:=(b7 b l ⟨1,0⟩).1} (b7 b l ⟨1,0⟩).2
 |7=>cH b {az with kind:=7,incl:=(eu b l ⟨1,0⟩).1} (eu b l ⟨1,0⟩).2
 |_=>(az,8)
def dec (l:ao) (b:Bytes):cm×Nat:=if l.ok=true then(match b[0]? with|none=>(az,1)|some c=>gH l b c.toNat)else(az,5)
theorem wN {l:ao} {b:Bytes} {k:Nat} (h:k=0∨8≤k):gH l b k=(az,8):=by
 unfold gH
 split <;>first|omega|rfl
theorem wP {l:ao} {b:Bytes} (h:¬l.ok=true):dec l b=(az,5):=by simp[dec,h]
theorem oS {l:ao} {b:Bytes} (h:l.ok=true) (hc:¬0 < b.length):dec l b=(az,1):=by
 have:b[0]? =none:=List.getElem?_eq_none (by omega)
 simp[dec,h,this]
theorem Dk {l:ao} {b:Bytes} (h:l.ok=true) (hc:0 < b.length):dec l b=gH l b b[0].toNat:=by
 have:b[0]? =some b[0]:=List.getElem?_eq_getElem hc
 simp[dec,h,this]
def cE (x:cm×Nat):List (Bool×List E):= [(true,x.1.o),(false,[.p (.int .i64 (x.2:Int))])]
theorem aE:df []= []:=rfl
theorem aF:AZ []= []:=rfl
theorem aD:uL []= []:=rfl
abbrev qu:Nat:=83
def qC:AF:=⟨2,7,[.cell 4 45 true, .tmp 5],(.seq (.ops [.i (.lbox 2 (.s 0)), .i (.lal 4 [.int .i64 0, .int .i64 0, .int .i64 0, .nils, .int .i64 0, .nils, .int .i64 0, .int .i64 0, .nils, .nils, .nils, .int .i64 0, .int .i64 0, .int .i64 0, .nils, .nils, .int .i64 0, .int .i64 0, .nils, .nils, .nils, .int .i64 0, .int .i64 0, .int .i64 0, .nils, .nils, .int .i64 0, .int .i64 0, .nils, .nils, .nils, .nils, .int .i64 0, .nils, .nils, .int .i64 0, .int .i64 0, .nils, .nils, .nils, .int .i64 0, .int .i64 0, .int .i64 0, .nils, .nils]), .i (.mov 5 (qi 0))]) (.seq (.block 0 (.seq (.ops [ql 10 2 2 5 true,qk 12 70 10, .i (.not 12 (.s 11)),qm 9 12]) (.cond (.s 9) (.seq (.ops [.i (.bld 13 [.int .i64 0, .int .i64 0, .int .i64 0, .nils, .int .i64 0, .nils, .int .i64 0, .int .i64 0, .nils, .nils, .nils, .int .i64 0, .int .i64 0, .int .i64 0, .nils, .nils, .int .i64 0, .int .i64 0, .nils, .nils, .nils, .int .i64 0, .int .i64 0, .int .i64 0, .nils, .nils, .int .i64 0, .int .i64 0, .nils, .nils, .nils, .nils, .int .i64 0, .nils, .nils, .int .i64 0, .int .i64 0, .nils, .nils, .nils, .int .i64 0, .int .i64 0, .int .i64 0, .nils, .nils] []),qs 4 4 13 45, .i (.mov 5 (qi 5))]) .ret) (.seq (.ops [qm 15 1,qn 16 15, .i (.bin 17 .eql (.s 16) (qi 0)),qm 14 17]) (.cond (.s 14) (.seq (.ops [.i (.bld 18 [.int .i64 0, .int .i64 0, .int .i64 0, .nils, .int .i64 0, .nils, .int .i64 0, .int .i64 0, .nils, .nils, .nils, .int .i64 0, .int .i64 0, .int .i64 0, .nils, .nils, .int .i64 0, .int .i64 0, .nils, .nils, .nils, .int .i64 0, .int .i64 0, .int .i64 0, .nils, .nils, .int .i64 0, .int .i64 0, .nils, .nils, .nils, .nils, .int .i64 0, .nils, .nils, .int .i64 0, .int .i64 0, .nils, .nils, .nils, .int .i64 0, .int .i64 0, .int .i64 0, .nils, .nils] []),qs 4 4 18 45, .i (.mov 5 (qi 1))]) .ret) (.seq (.ops [qm 20 1, .i (.iad 21 (.s 20) (qi 0) 1), .i (.ldh 22 (.s 21) 1 false), .i (.cvi 23 .i64 (.s 22)),qk 25 134 23, .i (.bin 25 .eql (.s 24) (.c (.val false [.str ByteArray.empty]))),qm 19 25]) (.cond (.s 19) (.seq (.ops [.i (.bld 26 [.int .i64 0, .int .i64 0, .int .i64 0, .nils, .int .i64 0, .nils, .int .i64 0, .int .i64 0, .nils, .nils, .nils, .int .i64 0, .int .i64 0, .int .i64 0, .nils, .nils, .int .i64 0, .int .i64 0, .nils, .nils, .nils, .int .i64 0, .int .i64 0, .int .i64 0, .nils, .nils, .int .i64 0, .int .i64 0, .nils, .nils, .nils, .nils, .int .i64 0, .nils, .nils, .int .i64 0, .int .i64 0, .nils, .nils, .nils, .int .i64 0, .int .i64 0, .int .i64 0, .nils, .nils] []),qs 4 4 26 45, .i (.mov 5 (qi 8))]) .ret) .skip))))))) (.seq (.ops [qm 27 1, .i (.iad 28 (.s 27) (qi 0) 1), .i (.ldh 29 (.s 28) 1 false), .i (.cvi 30 .i64 (.s 29)), .i (.bld 31 [.int .i64 0, .int .i64 0, .int .i64 0, .nils, .int .i64 0, .nils, .int .i64 0, .int .i64 0, .nils, .nils, .nils, .int .i64 0, .int .i64 0, .int .i64 0, .nils, .nils, .int .i64 0, .int .i64 0, .nils, .nils, .nils, .int .i64 0, .int .i64 0, .int .i64 0, .nils, .nils, .int .i64 0, .int .i64 0, .nils, .nils, .nils, .nils, .int .i64 0, .nils, .nils, .int .i64 0, .int .i64 0, .nils, .nils, .nils, .int .i64 0, .int .i64 0, .int .i64 0, .nils, .nils] [(0,1,(.s 30))]), .i (.lal 6 [.int .i64 0, .int .i64 0, .int .i64 0, .nils, .int .i64 0, .nils, .int .i64 0, .int .i64 0, .nils, .nils, .nils, .int .i64 0, .int .i64 0, .int .i64 0, .nils, .nils, .int .i64 0, .int .i64 0, .nils, .nils, .nils, .int .i64 0, .int .i64 0, .int .i64 0, .nils, .nils, .int .i64 0, .int .i64 0, .nils, .nils, .nils, .nils, .int .i64 0, .nils, .nils, .int .i64 0, .int .i64 0, .nils, .nils, .nils, .int .i64 0, .int .i64 0, .int .i64 0, .nils, .nils]),qs 6 6 31 45, .i (.mov 7 (qi 0)), .i (.mov 8 (qi 0))]) (.seq (.seq (.ops [qf 32 6 0,ql 33 6 32 1 false]) (.block 1 (.seq (.ops [.i (.bin 43 .eql (.s 33) (qi 1)),qm 42 43]) (.cond (.s 42) (.ops [ql 45 2 2 5 true,qm 46 1, .i (.call 48 135 false [(.s 45),(.s 46),(qi 1)]),qm 44 47, .i (.ext 48 (.s 44) 0), .i (.ext 49 (.s 44) 1), .i (.ext 50 (.s 44) 2),qf 51 6 1,qs 6 51 48 5,qm 7 49,qm 8 50]) (.seq (.ops [.i (.bin 53 .eql (.s 33) (qi 2)),qm 52 53]) (.cond (.s 52) (.ops [ql 55 2 2 5 true,qm 56 1, .i (.call 58 136 false [(.s 55),(.s 56),(qi 1)]),qm 54 57, .i (.ext 58 (.s 54) 0), .i (.ext 59 (.s 54) 1), .i (.ext 60 (.s 54) 2),qf 61 6 6,qs 6 61 58 5,qm 7 59,qm 8 60]) (.seq (.ops [.i (.bin 63 .eql (.s 33) (qi 3)),qm 62 63]) (.cond (.s 62) (.ops [ql 65 2 2 5 true,qm 66 1, .i (.call 68 137 false [(.s 65),(.s 66),(qi 1)]),qm 64 67, .i (.ext 68 (.s 64) 0), .i (.ext 69 (.s 64) 1), .i (.ext 70 (.s 64) 2),qf 71 6 11,qs 6 71 68 10,qm 7 69,qm 8 70]) (.seq (.ops [.i (.bin 73 .eql (.s 33) (qi 4)),qm 72 73]) (.cond (.s 72) (.ops [ql 75 2 2 5 true,qm 76 1, .i (.call 78 138 false [(.s 75),(.s 76),(qi 1)]),qm 74 77, .i (.ext 78 (.s 74) 0), .i (.ext 79 (.s 74) 1), .i (.ext 80 (.s 74) 2),qf 81 6 21,qs 6 81 78 11,qm 7 79,qm 8 80]) (.seq (.ops [.i (.bin 83 .eql (.s 33) (qi 5)),qm 82 83]) (.cond (.s 82) (.ops [ql 85 2 2 5 true,qm 86 1, .i (.call 88 139 false [(.s 85),(.s 86),(qi 1)]),qm 84 87, .i (.ext 88 (.s 84) 0), .i (.ext 89 (.s 84) 1), .i (.ext 90 (.s 84) 2),qf 91 6 32,qs 6 91 88 2,qm 7 89,qm 8 90]) (.seq (.ops [.i (.bin 93 .eql (.s 33) (qi 6)),qm 92 93]) (.cond (.s 92) (.ops [ql 95 2 2 5 true,qm 96 1, .i (.call 98 140 false [(.s 95),(.s 96),(qi 1)]),qm 94 97, .i (.ext 98 (.s 94) 0), .i (.ext 99 (.s 94) 1), .i (.ext 100 (.s 94) 2),qf 101 6 34,qs 6 101 98 6,qm 7 99,qm 8 100]) (.ops [ql 35 2 2 5 true,qm 36 1, .i (.call 38 141 false [(.s 35),(.s 36),(qi 1)]),qm 34 37, .i (.ext 38 (.s 34) 0), .i (.ext 39 (.s 34) 1), .i (.ext 40 (.s 34) 2),qf 41 6 40,qs 6 41 38 5,qm 7 39,qm 8 40]))))))))))))))) (.seq (.seq (.ops [qm 102 8, .i (.bin 103 .eql (.s 102) (qi 0)),qm 104 103, .g 104 true 106 (.mov 105 (.s 7)), .g 104 true 107 (.mov 106 (.s 1)), .g 104 true 108 (.len 107 false (.s 106)), .g 104 true 109 (.bin 108 .neq (.s 105) (.s 107)), .i (.pick 109 (.s 104) (.s 108) (qb false))]) (.cond (.s 109) (.ops [.i (.mov 8 (qi 9))]) .skip)) (.seq (.seq (.ops [qm 110 8, .i (.bin 111 .neq (.s 110) (qi 0))]) (.cond (.s 111) (.seq (.ops [.i (.bld 112 [.int .i64 0, .int .i64 0, .int .i64 0, .nils, .int .i64 0, .nils, .int .i64 0, .int .i64 0, .nils, .nils, .nils, .int .i64 0, .int .i64 0, .int .i64 0, .nils, .nils, .int .i64 0, .int .i64 0, .nils, .nils, .nils, .int .i64 0, .int .i64 0, .int .i64 0, .nils, .nils, .int .i64 0, .int .i64 0, .nils, .nils, .nils, .nils, .int .i64 0, .nils, .nils, .int .i64 0, .int .i64 0, .nils, .nils, .nils, .int .i64 0, .int .i64 0, .int .i64 0, .nils, .nils] []),qm 113 8,qs 4 4 112 45,qm 5 113]) .ret) .skip)) (.seq (.ops [ql 114 6 6 45 true,qs 4 4 114 45, .i (.mov 5 (qi 0))]) .ret)))))))⟩
theorem zN:cd qu=some qC:=by kernel_rfl
theorem xW (b:Bytes) (l:ao) (hb:b.length≤1073741824):VC cd qu (bJ [(true,l.c),(false,[.sl (bytes b)])]) (fun rs _=>rs=cE (dec l b)):=by
 refine VC.ic ?_
 refine aa zN rfl ?_
 simp(disch:=omega) [qC,ao.c,VZ]
 refine cp (bz l) ?_ (ha:=by first|rfl|(simp[ao.c,VY] <;>repeat' constructor))
 simp(disch:=omega) [VZ]
 by_cases hok:l.ok=true
 case neg=>rw[wP hok];simp(disch:=omega) [hok,cE,cm.o,az,bn,gA,bj,aL,hG,aK,bo,aI,aJ,aP,ab,aE,aF,aD,VZ]
 by_cases he:b= []
 case pos=>rw[oS hok (by simp[he])];simp(disch:=omega) [hok,he,cE,cm.o,az,bn,gA,bj,aL,hG,aK,bo,aI,aJ,aP,ab,aE,aF,aD,VZ]
 have hc:0 < b.length:=List.length_pos_iff.2 he
 have h256:b[0].toNat < 256:=UInt8.toNat_lt _
 rw[Dk hok hc]
 simp(disch:=omega) [hok,he,hc,bP hc,VZ]
 refine cp (DX b[0].toNat) ?_
 by_cases hz:b[0].toNat=0∨8≤b[0].toNat
 case pos=>
  have hz2:=(m0 _).2 hz
  rw[wN hz]
  simp(disch:=omega) [hz2,cE,cm.o,az,bn,gA,bj,aL,hG,aK,bo,aI,aJ,aP,ab,aE,aF,aD,VZ]
 have hz2:¬kindName b[0].toNat=ByteArray.empty:=fun e=>hz ((m0 _).1 e)
 have hk:b[0].toNat=1∨b[0].toNat=2∨b[0].toNat=3∨b[0].toNat=4∨b[0].toNat=5∨b[0].toNat=6∨b[0].toNat=7:=by omega
 simp(disch:=omega) [hz2,hc,bP hc,VZ]
 generalize b[0].toNat=k at hk⊢
 clear hz hz2
 rcases hk with rfl|rfl|rfl|rfl|rfl|rfl|rfl
 ·simp only[gH]
  have h0:=vK b l 1 hok (by omega) hb
  generalize h1:eG b l ⟨1,0⟩=s1 at h0⊢
  by_cases g:s1.2.er=0
  ·simp only[bY,if_pos g,c4.o]at h0
   simp(disch:=omega) [VZ]
   refine cp (h0) ?_ (ha:=by first|rfl|(simp[ao.c,VY] <;>repeat' constructor))
   simp(disch:=omega) [VZ]
   by_cases g2:s1.2.at_=b.length
   ·simp(disch:=omega) [g2,cH,g,cE,cm.o,az,bn,gA,bj,aL,hG,aK,bo,aI,aJ,aP,ab,aE,aF,aD,VZ]
   ·have g3:¬(s1.2.at_:Int)=(b.length:Int):=by omega
    simp(disch:=omega) [g2,g3,cH,g,cE,cm.o,az,bn,gA,bj,aL,hG,aK,bo,aI,aJ,aP,ab,aE,aF,aD,VZ]
  ·simp only[bY,if_neg g,vx]at h0
   simp(disch:=omega) [VZ]
   refine cp (h0) ?_ (ha:=by first|rfl|(simp[ao.c,VY] <;>repeat' constructor))
   simp(disch:=omega) [g,cH,cE,cm.o,az,bn,gA,bj,aL,hG,aK,bo,aI,aJ,aP,ab,aE,aF,aD,VZ]
 ·simp only[gH]
  have h0:=zE b l 1 hok (by omega) hb
  generalize h1:kb b l ⟨1,0⟩=s1 at h0⊢
  by_cases g:s1.2.er=0
  ·simp only[bY,if_pos g,Qc.o]at h0
   simp(disch:=omega) [VZ]
   refine cp (h0) ?_ (ha:=by first|rfl|(simp[ao.c,VY] <;>repeat' constructor))
   simp(disch:=omega) [VZ]
   by_cases g2:s1.2.at_=b.length
   ·simp(disch:=omega) [g2,cH,g,cE,cm.o,az,bn,gA,bj,aL,hG,aK,bo,aI,aJ,aP,ab,aE,aF,aD,VZ]
   ·have g3:¬(s1.2.at_:Int)=(b.length:Int):=by omega
    simp(disch:=omega) [g2,g3,cH,g,cE,cm.o,az,bn,gA,bj,aL,hG,aK,bo,aI,aJ,aP,ab,aE,aF,aD,VZ]
  ·simp only[bY,if_neg g,Pp]at h0
   simp(disch:=omega) [VZ]
   refine cp (h0) ?_ (ha:=by first|rfl|(simp[ao.c,VY] <;>repeat' constructor))
   simp(disch:=omega) [g,cH,cE,cm.o,az,bn,gA,bj,aL,hG,aK,bo,aI,aJ,aP,ab,aE,aF,aD,VZ]
 ·simp only[gH]
  have h0:=vD b l 1 hok (by omega) hb
  generalize h1:bK b l ⟨1,0⟩=s1 at h0⊢
  by_cases g:s1.2.er=0
  ·simp only[bY,if_pos g,Head.o]at h0
   simp(disch:=omega) [VZ]
   refine cp (h0) ?_ (ha:=by first|rfl|(simp[ao.c,VY] <;>repeat' constructor))
   simp(disch:=omega) [VZ]
   by_cases g2:s1.2.at_=b.length
   ·simp(disch:=omega) [g2,cH,g,cE,cm.o,az,bn,gA,bj,aL,hG,aK,bo,aI,aJ,aP,ab,aE,aF,aD,VZ]
   ·have g3:¬(s1.2.at_:Int)=(b.length:Int):=by omega
    simp(disch:=omega) [g2,g3,cH,g,cE,cm.o,az,bn,gA,bj,aL,hG,aK,bo,aI,aJ,aP,ab,aE,aF,aD,VZ]
  ·simp only[bY,if_neg g,EA]at h0
   simp(disch:=omega) [VZ]
   refine cp (h0) ?_ (ha:=by first|rfl|(simp[ao.c,VY] <;>repeat' constructor))
   simp(disch:=omega) [g,cH,cE,cm.o,az,bn,gA,bj,aL,hG,aK,bo,aI,aJ,aP,ab,aE,aF,aD,VZ]
 ·simp only[gH]
  have h0:=ur b l 1 hok (by omega) hb
  generalize h1:cz b l ⟨1,0⟩=s1 at h0⊢
  by_cases g:s1.2.er=0
  ·simp only[bY,if_pos g,Block.o]at h0
   simp(disch:=omega) [VZ]
   refine cp (h0) ?_ (ha:=by first|rfl|(simp[ao.c,VY] <;>repeat' constructor))
   simp(disch:=omega) [VZ]
   by_cases g2:s1.2.at_=b.length
   ·simp(disch:=omega) [g2,cH,g,cE,cm.o,az,bn,gA,bj,aL,hG,aK,bo,aI,aJ,aP,ab,aE,aF,aD,VZ]
   ·have g3:¬(s1.2.at_:Int)=(b.length:Int):=by omega
    simp(disch:=omega) [g2,g3,cH,g,cE,cm.o,az,bn,gA,bj,aL,hG,aK,bo,aI,aJ,aP,ab,aE,aF,aD,VZ]
  ·simp only[bY,if_neg g,x6]at h0
   simp(disch:=omega) [VZ]
   refine cp (h0) ?_ (ha:=by first|rfl|(simp[ao.c,VY] <;>repeat' constructor))
   simp(disch:=omega) [g,cH,cE,cm.o,az,bn,gA,bj,aL,hG,aK,bo,aI,aJ,aP,ab,aE,aF,aD,VZ]
 ·simp only[gH]
  have h0:=zV b l 1 hok (by omega) hb
  generalize h1:uX b l ⟨1,0⟩=s1 at h0⊢
  by_cases g:s1.2.er=0
  ·simp only[bY,if_pos g,Tc.o]at h0
   simp(disch:=omega) [VZ]
   refine cp (h0) ?_ (ha:=by first|rfl|(simp[ao.c,VY] <;>repeat' constructor))
   simp(disch:=omega) [VZ]
   by_cases g2:s1.2.at_=b.length
   ·simp(disch:=omega) [g2,cH,g,cE,cm.o,az,bn,gA,bj,aL,hG,aK,bo,aI,aJ,aP,ab,aE,aF,aD,VZ]
   ·have g3:¬(s1.2.at_:Int)=(b.length:Int):=by omega
    simp(disch:=omega) [g2,g3,cH,g,cE,cm.o,az,bn,gA,bj,aL,hG,aK,bo,aI,aJ,aP,ab,aE,aF,aD,VZ]
  ·simp only[bY,if_neg g,Pd]at h0
   simp(disch:=omega) [VZ]
   refine cp (h0) ?_ (ha:=by first|rfl|(simp[ao.c,VY] <;>repeat' constructor))
   simp(disch:=omega) [g,cH,cE,cm.o,az,bn,gA,bj,aL,hG,aK,bo,aI,aJ,aP,ab,aE,aF,aD,VZ]
 ·simp only[gH]
  have h0:=tT b l 1 hok (by omega) hb
  generalize h1:b7 b l ⟨1,0⟩=s1 at h0⊢
  by_cases g:s1.2.er=0
  ·simp only[bY,if_pos g,Proof.o]at h0
   simp(disch:=omega) [VZ]
   refine cp (h0) ?_ (ha:=by first|rfl|(simp[ao.c,VY] <;>repeat' constructor))
   simp(disch:=omega) [VZ]
   by_cases g2:s1.2.at_=b.length
   ·simp(disch:=omega) [g2,cH,g,cE,cm.o,az,bn,gA,bj,aL,hG,aK,bo,aI,aJ,aP,ab,aE,aF,aD,VZ]
   ·have g3:¬(s1.2.at_:Int)=(b.length:Int):=by omega
    simp(disch:=omega) [g2,g3,cH,g,cE,cm.o,az,bn,gA,bj,aL,hG,aK,bo,aI,aJ,aP,ab,aE,aF,aD,VZ]
  ·simp only[bY,if_neg g,yI]at h0
   simp(disch:=omega) [VZ]
   refine cp (h0) ?_ (ha:=by first|rfl|(simp[ao.c,VY] <;>repeat' constructor))
   simp(disch:=omega) [g,cH,cE,cm.o,az,bn,gA,bj,aL,hG,aK,bo,aI,aJ,aP,ab,aE,aF,aD,VZ]
 ·simp only[gH]
  have h0:=vS b l 1 hok (by omega) hb
  generalize h1:eu b l ⟨1,0⟩=s1 at h0⊢
  by_cases g:s1.2.er=0
  ·simp only[bY,if_pos g,cq.o]at h0
   simp(disch:=omega) [VZ]
   refine cp (h0) ?_ (ha:=by first|rfl|(simp[ao.c,VY] <;>repeat' constructor))
   simp(disch:=omega) [VZ]
   by_cases g2:s1.2.at_=b.length
   ·simp(disch:=omega) [g2,cH,g,cE,cm.o,az,bn,gA,bj,aL,hG,aK,bo,aI,aJ,aP,ab,aE,aF,aD,VZ]
   ·have g3:¬(s1.2.at_:Int)=(b.length:Int):=by omega
    simp(disch:=omega) [g2,g3,cH,g,cE,cm.o,az,bn,gA,bj,aL,hG,aK,bo,aI,aJ,aP,ab,aE,aF,aD,VZ]
  ·simp only[bY,if_neg g,D8]at h0
   simp(disch:=omega) [VZ]
   refine cp (h0) ?_ (ha:=by first|rfl|(simp[ao.c,VY] <;>repeat' constructor))
   simp(disch:=omega) [g,cH,cE,cm.o,az,bn,gA,bj,aL,hG,aK,bo,aI,aJ,aP,ab,aE,aF,aD,VZ]
abbrev gP:Nat:=79
def jy:AF:=⟨2,7,[.cell 4 45 true, .tmp 5],(.seq (.ops [.i (.lbox 2 (.s 0)), .i (.lal 4 [.int .i64 0, .int .i64 0, .int .i64 0, .nils, .int .i64 0, .nils, .int .i64 0, .int .i64 0, .nils, .nils, .nils, .int .i64 0, .int .i64 0, .int .i64 0, .nils, .nils, .int .i64 0, .int .i64 0, .nils, .nils, .nils, .int .i64 0, .int .i64 0, .int .i64 0, .nils, .nils, .int .i64 0, .int .i64 0, .nils, .nils, .nils, .nils, .int .i64 0, .nils, .nils, .int .i64 0, .int .i64 0, .nils, .nils, .nils, .int .i64 0, .int .i64 0, .int .i64 0, .nils, .nils]), .i (.mov 5 (qi 0))]) (.seq (.seq (.ops [ql 11 2 2 5 true,qk 13 66 11, .i (.not 13 (.s 12))]) (.cond (.s 13) (.seq (.ops [.i (.bld 14 [.int .i64 0, .int .i64 0, .int .i64 0, .nils, .int .i64 0, .nils, .int .i64 0, .int .i64 0, .nils, .nils, .nils, .int .i64 0, .int .i64 0, .int .i64 0, .nils, .nils, .int .i64 0, .int .i64 0, .nils, .nils, .nils, .int .i64 0, .int .i64 0, .int .i64 0, .nils, .nils, .int .i64 0, .int .i64 0, .nils, .nils, .nils, .nils, .int .i64 0, .nils, .nils, .int .i64 0, .int .i64 0, .nils, .nils, .nils, .int .i64 0, .int .i64 0, .int .i64 0, .nils, .nils] []),qs 4 4 14 45, .i (.mov 5 (qi 5))]) .ret) .skip)) (.seq (.seq (.ops [qm 15 1,qn 16 15, .i (.bin 17 .eql (.s 16) (qi 0))]) (.cond (.s 17) (.seq (.ops [.i (.bld 18 [.int .i64 0, .int .i64 0, .int .i64 0, .nils, .int .i64 0, .nils, .int .i64 0, .int .i64 0, .nils, .nils, .nils, .int .i64 0, .int .i64 0, .int .i64 0, .nils, .nils, .int .i64 0, .int .i64 0, .nils, .nils, .nils, .int .i64 0, .int .i64 0, .int .i64 0, .nils, .nils, .int .i64 0, .int .i64 0, .nils, .nils, .nils, .nils, .int .i64 0, .nils, .nils, .int .i64 0, .int .i64 0, .nils, .nils, .nils, .int .i64 0, .int .i64 0, .int .i64 0, .nils, .nils] []),qs 4 4 18 45, .i (.mov 5 (qi 1))]) .ret) .skip)) (.seq (.ops [qm 19 1, .i (.iad 20 (.s 19) (qi 0) 1), .i (.ldh 21 (.s 20) 1 false), .i (.cvi 22 .i64 (.s 21)), .i (.bld 23 [.int .i64 0, .int .i64 0, .int .i64 0, .nils, .int .i64 0, .nils, .int .i64 0, .int .i64 0, .nils, .nils, .nils, .int .i64 0, .int .i64 0, .int .i64 0, .nils, .nils, .int .i64 0, .int .i64 0, .nils, .nils, .nils, .int .i64 0, .int .i64 0, .int .i64 0, .nils, .nils, .int .i64 0, .int .i64 0, .nils, .nils, .nils, .nils, .int .i64 0, .nils, .nils, .int .i64 0, .int .i64 0, .nils, .nils, .nils, .int .i64 0, .int .i64 0, .int .i64 0, .nils, .nils] [(0,1,(.s 22))]), .i (.lal 6 [.int .i64 0, .int .i64 0, .int .i64 0, .nils, .int .i64 0, .nils, .int .i64 0, .int .i64 0, .nils, .nils, .nils, .int .i64 0, .int .i64 0, .int .i64 0, .nils, .nils, .int .i64 0, .int .i64 0, .nils, .nils, .nils, .int .i64 0, .int .i64 0, .int .i64 0, .nils, .nils, .int .i64 0, .int .i64 0, .nils, .nils, .nils, .nils, .int .i64 0, .nils, .nils, .int .i64 0, .int .i64 0, .nils, .nils, .nils, .int .i64 0, .int .i64 0, .int .i64 0, .nils, .nils]),qs 6 6 23 45]) (.seq (.ops [ql 24 2 2 5 true,qm 25 1, .i (.call 27 124 false [(.s 24),(.s 25),(qi 1)]),qm 7 26]) (.seq (.seq (.ops [qf 27 6 0,ql 28 6 27 1 false]) (.block 0 (.seq (.ops [.i (.bin 33 .eql (.s 28) (qi 1)),qm 32 33]) (.cond (.s 32) (.seq (.ops [ql 35 2 2 5 true,qm 36 1, .i (.call 38 125 false [(.s 35),(.s 36),(qi 1)]),qm 34 37, .i (.ext 38 (.s 34) 0), .i (.ext 39 (.s 34) 1), .i (.ext 40 (.s 34) 2), .i (.lal 8 [.int .i64 0, .int .i64 0, .nils, .int .i64 0, .nils]),qs 8 8 38 5,qm 9 39,qm 10 40]) (.seq (.ops [ql 41 8 8 5 true,qf 42 6 1,qs 6 42 41 5]) (.seq (.ops [qm 43 7,qm 44 9, .i (.nch 45 (.s 43)),qf 46 45 1, .i (.sth (.s 46) (.s 44) 1)]) (.ops [qm 47 7,qm 48 10, .i (.nch 49 (.s 47)),qf 50 49 2, .i (.sth (.s 50) (.s 48) 1)])))) (.seq (.ops [.i (.bin 52 .eql (.s 28) (qi 2)),qm 51 52]) (.cond (.s 51) (.ops [qm 53 7,ql 54 2 2 5 true, .i (.call 56 126 false [(.s 53),(.s 54)]),qf 56 6 6,qs 6 56 55 5]) (.seq (.ops [.i (.bin 58 .eql (.s 28) (qi 3)),qm 57 58]) (.cond (.s 57) (.ops [qm 59 7,ql 60 2 2 5 true, .i (.call 62 127 false [(.s 59),(.s 60)]),qf 62 6 11,qs 6 62 61 10]) (.seq (.ops [.i (.bin 64 .eql (.s 28) (qi 4)),qm 63 64]) (.cond (.s 63) (.ops [qm 65 7,ql 66 2 2 5 true, .i (.call 68 128 false [(.s 65),(.s 66)]),qf 68 6 21,qs 6 68 67 11]) (.seq (.ops [.i (.bin 70 .eql (.s 28) (qi 5)),qm 69 70]) (.cond (.s 69) (.ops [qm 71 7,ql 72 2 2 5 true, .i (.call 74 129 false [(.s 71),(.s 72)]),qf 74 6 32,qs 6 74 73 2]) (.seq (.ops [.i (.bin 76 .eql (.s 28) (qi 6)),qm 75 76]) (.cond (.s 75) (.ops [qm 77 7,ql 78 2 2 5 true, .i (.call 80 130 false [(.s 77),(.s 78)]),qf 80 6 34,qs 6 80 79 6]) (.seq (.ops [.i (.bin 82 .eql (.s 28) (qi 7)),qm 81 82]) (.cond (.s 81) (.ops [qm 83 7,ql 84 2 2 5 true, .i (.call 86 131 false [(.s 83),(.s 84)]),qf 86 6 40,qs 6 86 85 5]) (.ops [qm 29 7, .i (.nch 30 (.s 29)),qf 31 30 2, .i (.sth (.s 31) (qi 8) 1)]))))))))))))))))) (.seq (.ops [qm 87 7,qm 88 7, .i (.nch 89 (.s 88)),qf 90 89 1, .i (.ldh 91 (.s 90) 1 false),qm 92 1,qn 93 92,qd 94 .neq 91 93, .i (.call 96 132 false [(.s 87),(.s 94),(qi 9)])]) (.seq (.seq (.ops [qm 96 7, .i (.nch 97 (.s 96)),qf 98 97 2, .i (.ldh 99 (.s 98) 1 false), .i (.bin 100 .neq (.s 99) (qi 0))]) (.cond (.s 100) (.seq (.ops [.i (.bld 101 [.int .i64 0, .int .i64 0, .int .i64 0, .nils, .int .i64 0, .nils, .int .i64 0, .int .i64 0, .nils, .nils, .nils, .int .i64 0, .int .i64 0, .int .i64 0, .nils, .nils, .int .i64 0, .int .i64 0, .nils, .nils, .nils, .int .i64 0, .int .i64 0, .int .i64 0, .nils, .nils, .int .i64 0, .int .i64 0, .nils, .nils, .nils, .nils, .int .i64 0, .nils, .nils, .int .i64 0, .int .i64 0, .nils, .nils, .nils, .int .i64 0, .int .i64 0, .int .i64 0, .nils, .nils] []),qm 102 7, .i (.nch 103 (.s 102)),qf 104 103 2, .i (.ldh 105 (.s 104) 1 false),qs 4 4 101 45,qm 5 105]) .ret) .skip)) (.seq (.ops [ql 106 6 6 45 true,qs 4 4 106 45, .i (.mov 5 (qi 0))]) .ret)))))))))⟩
theorem qT:cd gP=some jy:=by kernel_rfl
theorem js (b:Bytes) (l:ao) (hb:b.length≤1073741824) (hq:l.ok=true→∀h:0 < b.length,b[0].toNat≤3∨8≤b[0].toNat):VC cd gP (bJ [(true,l.c),(false,[.sl (bytes b)])]) (fun rs _=>rs=cE (dec l b)):=by
 refine VC.ic ?_
 refine aa qT rfl ?_
 simp(disch:=omega) [jy,ao.c,VZ]
 refine cp (dL l) ?_ (ha:=by first|rfl|(simp[ao.c,VY] <;>repeat' constructor))
 simp(disch:=omega) [VZ]
 by_cases hok:l.ok=true
 case neg=>rw[wP hok];simp(disch:=omega) [hok,cE,cm.o,az,bn,gA,bj,aL,hG,aK,bo,aI,aJ,aP,ab,aE,aF,aD,VZ]
 by_cases he:b= []
 case pos=>rw[oS hok (by simp[he])];simp(disch:=omega) [hok,he,cE,cm.o,az,bn,gA,bj,aL,hG,aK,bo,aI,aJ,aP,ab,aE,aF,aD,VZ]
 have hc:0 < b.length:=List.length_pos_iff.2 he
 have h256:b[0].toNat < 256:=UInt8.toNat_lt _
 rw[Dk hok hc]
 have hr:Rd.wf b ⟨1,0⟩:=⟨by simp only;omega,by simp⟩
 simp(disch:=omega) [hok,he,hc,bP hc,VZ]
 refine P1 (uy b l 1) ?_ (ha:=by first|rfl|(simp[ao.c,VY] <;>repeat' constructor))
 simp(disch:=omega) [hok,av,Bf,VZ]
 replace hq:=hq hok hc
 by_cases hz:b[0].toNat=0∨8≤b[0].toNat
 case pos=>
  rw[wN hz]
  generalize b[0].toNat=k at hz h256⊢
  have n1:¬(k:Int)=1:=by omega
  have n2:¬(k:Int)=2:=by omega
  have n3:¬(k:Int)=3:=by omega
  have n4:¬(k:Int)=4:=by omega
  have n5:¬(k:Int)=5:=by omega
  have n6:¬(k:Int)=6:=by omega
  have n7:¬(k:Int)=7:=by omega
  simp(disch:=omega) [n1,n2,n3,n4,n5,n6,n7,VZ]
  refine bI (aA b ⟨1,8⟩ (!decide ((1:Int)=(b.length:Int))) 9) ?_
  simp(disch:=omega) [ax,av,cE,cm.o,az,bn,gA,bj,aL,hG,aK,bo,aI,aJ,aP,ab,aE,aF,aD,VZ]
 have hk:b[0].toNat=1∨b[0].toNat=2∨b[0].toNat=3:=by omega
 generalize b[0].toNat=k at hk⊢
 clear hz
 rcases hk with rfl|rfl|rfl
 ·simp only[gH]
  have h0:=wo b l 1 hok (by omega) hb
  generalize h1:eG b l ⟨1,0⟩=s1 at h0⊢
  obtain⟨x,⟨qa,qe⟩⟩:=s1
  by_cases g:qe=0
  ·subst g
   simp(disch:=omega) [VZ]
   simp only[bY,if_true,c4.o]at h0
   refine cp (h0) ?_ (ha:=by first|rfl|(simp[ao.c,VY] <;>repeat' constructor))
   simp(disch:=omega) [VZ]
   refine bI (aA b ⟨qa,0⟩ (!decide ((qa:Int)=(b.length:Int))) 9) ?_
   by_cases g2:qa=b.length
   ·simp(disch:=omega) [ax,g2,av,cH,cE,cm.o,az,bn,gA,bj,aL,hG,aK,bo,aI,aJ,aP,ab,aE,aF,aD,VZ]
   ·have g3:¬(qa:Int)=(b.length:Int):=by omega
    simp(disch:=omega) [ax,g2,g3,av,cH,cE,cm.o,az,bn,gA,bj,aL,hG,aK,bo,aI,aJ,aP,ab,aE,aF,aD,VZ]
  ·skip
   simp(disch:=omega) [VZ]
   simp only[bY,if_neg,g,vx]at h0
   refine cp (h0) ?_ (ha:=by first|rfl|(simp[ao.c,VY] <;>repeat' constructor))
   simp(disch:=omega) [VZ]
   refine bI (aA b ⟨0,qe⟩ (!decide ((0:Int)=(b.length:Int))) 9) ?_
   simp(disch:=omega) [ax,g,av,cH,cE,cm.o,az,bn,gA,bj,aL,hG,aK,bo,aI,aJ,aP,ab,aE,aF,aD,VZ]
 ·simp only[gH]
  have h0:=jP b l ⟨1,0⟩ (dQ hok).1 hr hb
  generalize h1:kb b l ⟨1,0⟩=s1 at h0⊢
  obtain⟨x,⟨qa,qe⟩⟩:=s1
  by_cases g:qe=0
  ·subst g
   simp(disch:=omega) [VZ]
   refine bI (h0) ?_ (n1:=by simp(disch:=omega) [Qc.o,VZ]) (n3:=by simp(disch:=omega) [Qc.o,VZ])
   simp(disch:=omega) [av,Qc.o,VZ]
   refine bI (aA b ⟨qa,0⟩ (!decide ((qa:Int)=(b.length:Int))) 9) ?_
   by_cases g2:qa=b.length
   ·simp(disch:=omega) [ax,g2,av,cH,cE,cm.o,az,bn,gA,bj,aL,hG,aK,bo,aI,aJ,aP,ab,aE,aF,aD,VZ]
   ·have g3:¬(qa:Int)=(b.length:Int):=by omega
    simp(disch:=omega) [ax,g2,g3,av,cH,cE,cm.o,az,bn,gA,bj,aL,hG,aK,bo,aI,aJ,aP,ab,aE,aF,aD,VZ]
  ·skip
   simp(disch:=omega) [VZ]
   refine bI (h0) ?_ (n1:=by simp(disch:=omega) [Qc.o,VZ]) (n3:=by simp(disch:=omega) [Qc.o,VZ])
   simp(disch:=omega) [av,Qc.o,VZ]
   refine bI (aA b ⟨qa,qe⟩ (!decide ((qa:Int)=(b.length:Int))) 9) ?_
   simp(disch:=omega) [ax,g,av,cH,cE,cm.o,az,bn,gA,bj,aL,hG,aK,bo,aI,aJ,aP,ab,aE,aF,aD,VZ]
 ·simp only[gH]
  have h0:=uU b l ⟨1,0⟩ (dQ hok).1 hr hb
  generalize h1:bK b l ⟨1,0⟩=s1 at h0⊢
  obtain⟨x,⟨qa,qe⟩⟩:=s1
  by_cases g:qe=0
  ·subst g
   simp(disch:=omega) [VZ]
   refine bI (h0) ?_ (n1:=by simp(disch:=omega) [Head.o,VZ]) (n3:=by simp(disch:=omega) [Head.o,VZ])
   simp(disch:=omega) [av,Head.o,VZ]
   refine bI (aA b ⟨qa,0⟩ (!decide ((qa:Int)=(b.length:Int))) 9) ?_
   by_cases g2:qa=b.length
   ·simp(disch:=omega) [ax,g2,av,cH,cE,cm.o,az,bn,gA,bj,aL,hG,aK,bo,aI,aJ,aP,ab,aE,aF,aD,VZ]
   ·have g3:¬(qa:Int)=(b.length:Int):=by omega
    simp(disch:=omega) [ax,g2,g3,av,cH,cE,cm.o,az,bn,gA,bj,aL,hG,aK,bo,aI,aJ,aP,ab,aE,aF,aD,VZ]
  ·skip
   simp(disch:=omega) [VZ]
   refine bI (h0) ?_ (n1:=by simp(disch:=omega) [Head.o,VZ]) (n3:=by simp(disch:=omega) [Head.o,VZ])
   simp(disch:=omega) [av,Head.o,VZ]
   refine bI (aA b ⟨qa,qe⟩ (!decide ((qa:Int)=(b.length:Int))) 9) ?_
   simp(disch:=omega) [ax,g,av,cH,cE,cm.o,az,bn,gA,bj,aL,hG,aK,bo,aI,aJ,aP,ab,aE,aF,aD,VZ]
theorem zW (b:Bytes) (l:ao) (hb:b.length≤1073741824) (hok:l.ok=true) (hc:0 < b.length) (hq:4≤b[0].toNat∧b[0].toNat≤7):VC cd gP (bJ [(true,l.c),(false,[.sl (bytes b)])]) (fun rs _=>rs=cE (dec l b)):=by
 refine VC.ic ?_
 refine aa qT rfl ?_
 simp(disch:=omega) [jy,ao.c,VZ]
 refine cp (dL l) ?_ (ha:=by first|rfl|(simp[ao.c,VY] <;>repeat' constructor))
 simp(disch:=omega) [VZ]
 have he:b≠ []:=List.length_pos_iff.1 hc
 have h256:b[0].toNat < 256:=UInt8.toNat_lt _
 rw[Dk hok hc]
 have hr:Rd.wf b ⟨1,0⟩:=⟨by simp only;omega,by simp⟩
 simp(disch:=omega) [hok,he,hc,bP hc,VZ]
 refine P1 (uy b l 1) ?_ (ha:=by first|rfl|(simp[ao.c,VY] <;>repeat' constructor))
 simp(disch:=omega) [hok,av,Bf,VZ]
 have hk:b[0].toNat=4∨b[0].toNat=5∨b[0].toNat=6∨b[0].toNat=7:=by omega
 generalize b[0].toNat=k at hk⊢
 rcases hk with rfl|rfl|rfl|rfl
 ·simp only[gH]
  have h0:=Hc b l ⟨1,0⟩ (dQ hok) hr hb
  generalize h1:cz b l ⟨1,0⟩=s1 at h0⊢
  obtain⟨x,⟨qa,qe⟩⟩:=s1
  by_cases g:qe=0
  ·subst g
   simp(disch:=omega) [VZ]
   refine bI (h0) ?_ (n1:=by simp(disch:=omega) [Block.o,VZ]) (n3:=by simp(disch:=omega) [Block.o,VZ])
   simp(disch:=omega) [av,Block.o,VZ]
   refine bI (aA b ⟨qa,0⟩ (!decide ((qa:Int)=(b.length:Int))) 9) ?_
   by_cases g2:qa=b.length
   ·simp(disch:=omega) [ax,g2,av,cH,cE,cm.o,az,bn,gA,bj,aL,hG,aK,bo,aI,aJ,aP,ab,aE,aF,aD,VZ]
   ·have g3:¬(qa:Int)=(b.length:Int):=by omega
    simp(disch:=omega) [ax,g2,g3,av,cH,cE,cm.o,az,bn,gA,bj,aL,hG,aK,bo,aI,aJ,aP,ab,aE,aF,aD,VZ]
  ·skip
   simp(disch:=omega) [VZ]
   refine bI (h0) ?_ (n1:=by simp(disch:=omega) [Block.o,VZ]) (n3:=by simp(disch:=omega) [Block.o,VZ])
   simp(disch:=omega) [av,Block.o,VZ]
   refine bI (aA b ⟨qa,qe⟩ (!decide ((qa:Int)=(b.length:Int))) 9) ?_
   simp(disch:=omega) [ax,g,av,cH,cE,cm.o,az,bn,gA,bj,aL,hG,aK,bo,aI,aJ,aP,ab,aE,aF,aD,VZ]
 ·simp only[gH]
  have h0:=Hk b l ⟨1,0⟩ (dQ hok) hr hb
  generalize h1:uX b l ⟨1,0⟩=s1 at h0⊢
  obtain⟨x,⟨qa,qe⟩⟩:=s1
  by_cases g:qe=0
  ·subst g
   simp(disch:=omega) [VZ]
   refine bI (h0) ?_ (n1:=by simp(disch:=omega) [Tc.o,VZ]) (n3:=by simp(disch:=omega) [Tc.o,VZ])
   simp(disch:=omega) [av,Tc.o,VZ]
   refine bI (aA b ⟨qa,0⟩ (!decide ((qa:Int)=(b.length:Int))) 9) ?_
   by_cases g2:qa=b.length
   ·simp(disch:=omega) [ax,g2,av,cH,cE,cm.o,az,bn,gA,bj,aL,hG,aK,bo,aI,aJ,aP,ab,aE,aF,aD,VZ]
   ·have g3:¬(qa:Int)=(b.length:Int):=by omega
    simp(disch:=omega) [ax,g2,g3,av,cH,cE,cm.o,az,bn,gA,bj,aL,hG,aK,bo,aI,aJ,aP,ab,aE,aF,aD,VZ]
  ·skip
   simp(disch:=omega) [VZ]
   refine bI (h0) ?_ (n1:=by simp(disch:=omega) [Tc.o,VZ]) (n3:=by simp(disch:=omega) [Tc.o,VZ])
   simp(disch:=omega) [av,Tc.o,VZ]
   refine bI (aA b ⟨qa,qe⟩ (!decide ((qa:Int)=(b.length:Int))) 9) ?_
   simp(disch:=omega) [ax,g,av,cH,cE,cm.o,az,bn,gA,bj,aL,hG,aK,bo,aI,aJ,aP,ab,aE,aF,aD,VZ]
 ·simp only[gH]
  have h0:=Hw b l ⟨1,0⟩ (dQ hok) hr hb
  generalize h1:b7 b l ⟨1,0⟩=s1 at h0⊢
  obtain⟨x,⟨qa,qe⟩⟩:=s1
  by_cases g:qe=0
  ·subst g
   simp(disch:=omega) [VZ]
   refine bI (h0) ?_ (n1:=by simp(disch:=omega) [Proof.o,VZ]) (n3:=by simp(disch:=omega) [Proof.o,VZ])
   simp(disch:=omega) [av,Proof.o,VZ]
   refine bI (aA b ⟨qa,0⟩ (!decide ((qa:Int)=(b.length:Int))) 9) ?_
   by_cases g2:qa=b.length
   ·simp(disch:=omega) [ax,g2,av,cH,cE,cm.o,az,bn,gA,bj,aL,hG,aK,bo,aI,aJ,aP,ab,aE,aF,aD,VZ]
   ·have g3:¬(qa:Int)=(b.length:Int):=by omega
    simp(disch:=omega) [ax,g2,g3,av,cH,cE,cm.o,az,bn,gA,bj,aL,hG,aK,bo,aI,aJ,aP,ab,aE,aF,aD,VZ]
  ·skip
   simp(disch:=omega) [VZ]
   refine bI (h0) ?_ (n1:=by simp(disch:=omega) [Proof.o,VZ]) (n3:=by simp(disch:=omega) [Proof.o,VZ])
   simp(disch:=omega) [av,Proof.o,VZ]
   refine bI (aA b ⟨qa,qe⟩ (!decide ((qa:Int)=(b.length:Int))) 9) ?_
   simp(disch:=omega) [ax,g,av,cH,cE,cm.o,az,bn,gA,bj,aL,hG,aK,bo,aI,aJ,aP,ab,aE,aF,aD,VZ]
 ·simp only[gH]
  obtain⟨j1,j2⟩:=Fg b l ⟨1,0⟩
  have h0:=zz b l ⟨1,0⟩ (dQ hok) hr hb
  rw[j1]
  generalize h1:kv b l ⟨1,0⟩=s1 at h0 j2⊢
  obtain⟨x,⟨qa,qe⟩⟩:=s1
  simp only at j2
  by_cases g:qe=0
  ·subst g
   simp(disch:=omega) [VZ]
   refine bI (h0) ?_ (n1:=by simp(disch:=omega) [cq.o,VZ]) (n3:=by simp(disch:=omega) [cq.o,VZ])
   simp(disch:=omega) [av,cq.o,VZ]
   rw[j2 rfl]
   refine bI (aA b ⟨qa,0⟩ (!decide ((qa:Int)=(b.length:Int))) 9) ?_
   by_cases g2:qa=b.length
   ·simp(disch:=omega) [ax,g2,av,cH,cE,cm.o,az,bn,gA,bj,aL,hG,aK,bo,aI,aJ,aP,ab,aE,aF,aD,VZ]
   ·have g3:¬(qa:Int)=(b.length:Int):=by omega
    simp(disch:=omega) [ax,g2,g3,av,cH,cE,cm.o,az,bn,gA,bj,aL,hG,aK,bo,aI,aJ,aP,ab,aE,aF,aD,VZ]
  ·skip
   simp(disch:=omega) [VZ]
   refine bI (h0) ?_ (n1:=by simp(disch:=omega) [cq.o,VZ]) (n3:=by simp(disch:=omega) [cq.o,VZ])
   simp(disch:=omega) [av,cq.o,VZ]
   refine bI (aA b ⟨qa,qe⟩ (!decide ((qa:Int)=(b.length:Int))) 9) ?_
   simp(disch:=omega) [ax,g,av,cH,cE,cm.o,az,bn,gA,bj,aL,hG,aK,bo,aI,aJ,aP,ab,aE,aF,aD,VZ]
theorem xR (b:Bytes) (l:ao) (hb:b.length≤1073741824):VC cd gP (bJ [(true,l.c),(false,[.sl (bytes b)])]) (fun rs _=>rs=cE (dec l b)):=by
 by_cases hok:l.ok=true
 ·by_cases hc:0 < b.length
  ·by_cases hq:4≤b[0].toNat∧b[0].toNat≤7
   ·exact zW b l hb hok hc hq
   ·exact js b l hb (fun _ _=>by omega)
  ·exact js b l hb (fun _ h=>absurd h hc)
 ·exact js b l hb (fun h=>absurd h hok)
end Go.Eng.F
namespace Go.Eng.F
theorem Oj.wc {q:Qc} (h:Oj q):q.wc:=by
 have h1:=eU h.view
 have h2:=eU h.height
 have h3:=h.block
 have h4:=h.bits
 have h5:=h.tags
 refine⟨⟨⟨by omega,by omega⟩,⟨by omega,by omega⟩,?_,?_,?_⟩,fun x hx=> ?_⟩ <;>unfold Sz
 ·omega
 ·omega
 ·omega
 ·have:=h.tag x hx;omega
end Go.Eng.F
namespace Go.Eng.F
end Go.Eng.F
namespace Go.Eng.F
structure Ev where
 kind:Int
 n:Int
 msg:cm
def Ev.c (e:Ev):List D:= .int .i64 e.kind:: .int .i64 e.n::e.msg.c
def iz (l:List Ev):List (List D):=l.map Ev.c
theorem fq (l:List Ev):(iz l).length=l.length:=by simp[iz]
theorem GU:iz []= []:=rfl
theorem xb (l:List Ev) (k n:Int) (m:cm):iz l++ [[.int .i64 k, .int .i64 n, .int .i64 m.kind, .int .i64 m.vote.view, .int .i64 m.vote.height, .sl (bytes m.vote.block), .int .i64 m.vote.who, .sl (bytes m.vote.tag), .int .i64 m.qc.view, .int .i64 m.qc.height, .sl (bytes m.qc.block), .sl (bytes m.qc.bits), .sl (df m.qc.tags), .int .i64 m.head.view, .int .i64 m.head.height, .int .i64 m.head.proposer, .sl (bytes m.head.parent), .sl (bytes m.head.root), .int .i64 m.head.qc.view, .int .i64 m.head.qc.height, .sl (bytes m.head.qc.block), .sl (bytes m.head.qc.bits), .sl (df m.head.qc.tags), .int .i64 m.block.head.view, .int .i64 m.block.head.height, .int .i64 m.block.head.proposer, .sl (bytes m.block.head.parent), .sl (bytes m.block.head.root), .int .i64 m.block.head.qc.view, .int .i64 m.block.head.qc.height, .sl (bytes m.block.head.qc.block), .sl (bytes m.block.head.qc.bits), .sl (df m.block.head.qc.tags), .sl (df m.block.txs), .int .i64 m.tc.view, .sl (AZ m.tc.entries), .sl (uL m.proof.heads), .int .i64 m.proof.qc.view, .int .i64 m.proof.qc.height, .sl (bytes m.proof.qc.block), .sl (bytes m.proof.qc.bits), .sl (df m.proof.qc.tags), .int .i64 m.incl.height, .int .i64 m.incl.n, .int .i64 m.incl.idx, .sl (bytes m.incl.tx), .sl (df m.incl.path)]]=iz (l++ [⟨k,n,m⟩]):=by simp[iz,Ev.c,cm.c]
theorem mY (l:List Ev) (k n:Int):iz l++ [[.int .i64 k, .int .i64 n, .int .i64 0, .int .i64 0, .int .i64 0, .sl [], .int .i64 0, .sl [], .int .i64 0, .int .i64 0, .sl [], .sl [], .sl [], .int .i64 0, .int .i64 0, .int .i64 0, .sl [], .sl [], .int .i64 0, .int .i64 0, .sl [], .sl [], .sl [], .int .i64 0, .int .i64 0, .int .i64 0, .sl [], .sl [], .int .i64 0, .int .i64 0, .sl [], .sl [], .sl [], .sl [], .int .i64 0, .sl [], .sl [], .int .i64 0, .int .i64 0, .sl [], .sl [], .sl [], .int .i64 0, .int .i64 0, .int .i64 0, .sl [], .sl []]]=iz (l++ [⟨k,n,az⟩]):=by simp[iz,Ev.c,cm.c,az,bn,gA,bj,aL,hG,aK,bo,bytes,df,uL,AZ]
def dA (s:Bytes) (a n:Nat):Bytes:=(s.drop (a+8)).take (n - 8)
def db (k:Nat):List Ev:=if k=0 then []else [⟨1,k,az⟩]
def kN (l:ao) (d:Bytes):Ev:=if(dec l d).2=0 then⟨3,0,(dec l d).1⟩else⟨2,(dec l d).2,az⟩
def dB (l:ao) (s:Bytes) (cl:Bool):Nat→Nat→Nat→List Ev→List Ev×Nat×Nat
 |0,a,k,e=>(e,k,a)
 |g+1,a,k,e=>
  if a < s.length then
   if(aw l s a).1=1∧cl=false then(e,k,a)
   else if(aw l s a).1≠3 then dB l s cl g (a+1) (k+1) e
   else dB l s cl g (a+(aw l s a).2.toNat) 0 (e++(db k++ [kN l (dA s a (aw l s a).2.toNat)]))
  else(e,k,a)
def dI (l:ao) (s:Bytes) (cl:Bool) (k:Nat):List Ev×Nat×Nat:=
 let r:=dB l s cl s.length 0 k []
 (r.1++(if cl=true then db r.2.1 else []),r.2)
theorem AP {l:ao} {s:Bytes} {cl:Bool} {g a k:Nat} {e:List Ev} (h:¬a < s.length):dB l s cl g a k e=(e,k,a):=by
 cases g
 ·rfl
 ·rw[dB,if_neg h]
theorem ga {l:ao} {s:Bytes} {a:Nat} (h:(aw l s a).1=3):∃n:Nat,aw l s a=(3,(n:Int))∧9≤n∧a+n≤s.length∧l.ok=true:=by
 unfold aw at h⊢
 split at h
 ·rename_i h1
  rw[if_pos h1]
  split at h
  ·rename_i h2
   rw[if_pos h2]
   split at h
   ·simp at h
   ·rename_i h3
    rw[if_neg h3]
    split at h
    ·simp at h
    ·rename_i h4
     rw[if_neg h4]
     split at h
     ·simp at h
     ·rename_i h5
      rw[if_neg h5]
      split at h
      ·simp at h
      ·rename_i h6
       rw[if_neg h6]
       split at h
       ·rename_i h7
        rw[if_pos h7]
        have h8:dR (rL s a) 1 l.frame=true:=by simpa using h5
        have h9:=eU h8
        exact⟨8+rL s a,by simp,by omega,by omega,h1.1⟩
       ·simp at h
  ·simp at h
 ·simp at h
theorem qo (l:ao) (s:Bytes) (a:Nat):(aw l s a).1=0∨(aw l s a).1=1∨(aw l s a).1=2∨(aw l s a).1=3:=by
 unfold aw
 repeat' split
 all_goals simp
theorem uz {s:Bytes} {a n:Nat}:(dA s a n).length≤s.length:=by simp[dA];omega
abbrev kq:Nat:=82
def jV:AF:=⟨3,5,[.tmp 6, .tmp 7],(.seq (.ops [.i (.lbox 3 (.s 0)), .i (.mov 6 (.c (.val false [.nils]))), .i (.mov 7 (qb false))]) (.seq (.ops [ql 11 3 3 5 true,qm 12 1,qm 13 2, .i (.call 15 80 false [(.s 11),(.s 12),(.s 13)]),qm 10 14, .i (.ext 15 (.s 10) 0), .i (.ext 16 (.s 10) 1),qm 8 15,qm 9 16]) (.seq (.seq (.ops [qm 17 8, .i (.bin 18 .neq (.s 17) (qi 3))]) (.cond (.s 18) (.seq (.ops [.i (.mov 6 (.c (.val false [.nils]))), .i (.mov 7 (qb false))]) .ret) .skip)) (.seq (.ops [qm 19 1,qm 20 2, .i (.bin 21 .add (.s 20) (qi 8)),qm 22 2,qm 23 9,qd 24 .add 22 23, .i (.fb 25 1 (.s 19) (some (.s 21)) (some (.s 24))),qk 27 47 25,qm 6 26, .i (.mov 7 (qb true))]) .ret))))⟩
theorem uj:cd kq=some jV:=by kernel_rfl
theorem nL (l:ao) (s:Bytes) (a n:Nat) (hs:s.length≤1073741824) (h:aw l s a=(3,(n:Int))) (h9:9≤n) (hn:a+n≤s.length):VC cd kq (bJ [(true,l.c),(false,[.sl (bytes s)]),(false,[.int .i64 (a:Int)])]) (fun rs _=>rs= [(false,[.o true (some (5,1)) (bytes (dA s a n))]),(false,[.p (.bool true)])]):=by
 have h0:=hM l s a hs (by omega)
 rw[h]at h0
 simp only[cw]at h0
 have e1:List.take ((a:Int)+(n:Int) - ((a:Int)+8)).toNat (List.drop ((a:Int)+8).toNat (bytes s))=bytes (dA s a n):=by
  rw[show((a:Int)+8).toNat=a+8 by omega,show((a:Int)+(n:Int) - ((a:Int)+8)).toNat=n - 8 by omega,dA]
  simp only[bytes,←List.map_take,←List.map_drop]
 have f1:0≤(a:Int)+8:=by omega
 have f2:8≤(n:Int):=by omega
 have f3:(a:Int)+(n:Int)≤(s.length:Int):=by omega
 refine aa uj rfl ?_
 simp(disch:=omega) [jV,ao.c,VY]
 refine cp (h0) ?_ (ha:=by first|rfl|(simp[ao.c,VY] <;>repeat' constructor))
 simp(disch:=omega) [f1,f2,f3,e1,VY]
 refine cp (eQ (dA s a n) (by have:=uz (s:=s) (a:=a) (n:=n);omega)) ?_
 simp(disch:=omega) [VY]
theorem x9 {l:ao} {s:Bytes} {cl:Bool} {g a k:Nat} {e:List Ev} (h:a < s.length) (h1:(aw l s a).1=1) (h2:cl=false):dB l s cl (g+1) a k e=(e,k,a):=by
 rw[dB,if_pos h,if_pos ⟨h1,h2⟩]
theorem kF {l:ao} {s:Bytes} {cl:Bool} {g a k:Nat} {e:List Ev} (h:a < s.length) (h1:¬((aw l s a).1=1∧cl=false)) (h2:(aw l s a).1≠3):dB l s cl (g+1) a k e=dB l s cl g (a+1) (k+1) e:=by
 rw[dB,if_pos h,if_neg h1,if_pos h2]
theorem y3 {l:ao} {s:Bytes} {cl:Bool} {g a k n:Nat} {e:List Ev} (h:a < s.length) (h1:aw l s a=(3,(n:Int))):dB l s cl (g+1) a k e=dB l s cl g (a+n) 0 (e++(db k++ [kN l (dA s a n)])):=by
 rw[dB,if_pos h,if_neg (by simp[h1]),if_neg (by simp[h1])]
 simp[h1]
def Ae (r:List Ev×Nat×Nat):List (Bool×List E):= [(false,[.o true (some (82,47)) (iz r.1)]),(false,[.p (.int .i64 (r.2.1:Int))]),(false,[.p (.int .i64 (r.2.2:Int))])]
abbrev vz:Nat:=48
def vi:AF:=⟨4,7,[.tmp 8, .tmp 9, .tmp 10],(.seq (.ops [.i (.lbox 4 (.s 0)), .i (.mov 8 (.c (.val false [.nils]))), .i (.mov 9 (qi 0)), .i (.mov 10 (qi 0))]) (.seq (.ops [.i (.bse 19),qm 11 19, .i (.mov 12 (qi 0))]) (.seq (.block 0 (.loop [80,79,78,77,76,75,74,73,72,71,70,69,68,67,66,65,64,63,62,61,60,59,58,57,56,55,54,53,52,51,50,49,48,47,46,45,44,43,42,41,40,39,38,37,36,35,34,33,32,31,30,29,28,27,26,25,24,23,22,21,20,18,17,16,15,14,13] (.seq (.seq (.ops [qm 20 12,qm 21 1,qn 22 21,qd 23 .lss 20 22]) (.cond (.s 23) .skip (.exit 0))) (.block 1 (.seq (.ops [ql 25 4 4 5 true,qm 26 1,qm 27 12, .i (.call 29 80 false [(.s 25),(.s 26),(.s 27)]),qm 24 28, .i (.ext 29 (.s 24) 0), .i (.ext 30 (.s 24) 1),qm 13 29,qm 14 30]) (.seq (.seq (.ops [qm 31 13, .i (.bin 32 .eql (.s 31) (qi 1)),qm 33 32, .g 33 true 35 (.mov 34 (.s 2)), .g 33 true 36 (.not 35 (.s 34)), .i (.pick 36 (.s 33) (.s 35) (qb false))]) (.cond (.s 36) (.seq (.ops [qm 37 11,qm 38 3,qm 39 12,qm 8 37,qm 9 38,qm 10 39]) .ret) .skip)) (.seq (.seq (.ops [qm 40 13, .i (.bin 41 .neq (.s 40) (qi 3))]) (.cond (.s 41) (.seq (.ops [qm 42 12, .i (.bin 43 .add (.s 42) (qi 1)),qm 12 43]) (.seq (.ops [qm 44 3, .i (.bin 45 .add (.s 44) (qi 1)),qm 3 45]) (.exit 1))) .skip)) (.seq (.seq (.ops [qm 46 3, .i (.bin 47 .neq (.s 46) (qi 0))]) (.cond (.s 47) (.ops [qm 48 11,qm 49 3, .i (.bld 50 [.int .i64 0, .int .i64 0, .int .i64 0, .int .i64 0, .int .i64 0, .nils, .int .i64 0, .nils, .int .i64 0, .int .i64 0, .nils, .nils, .nils, .int .i64 0, .int .i64 0, .int .i64 0, .nils, .nils, .int .i64 0, .int .i64 0, .nils, .nils, .nils, .int .i64 0, .int .i64 0, .int .i64 0, .nils, .nils, .int .i64 0, .int .i64 0, .nils, .nils, .nils, .nils, .int .i64 0, .nils, .nils, .int .i64 0, .int .i64 0, .nils, .nils, .nils, .int .i64 0, .int .i64 0, .int .i64 0, .nils, .nils] [(0,1,(qi 1)),(1,1,(.s 49))]), .i (.lsl 51 47 1 [.int .i64 0, .int .i64 0, .int .i64 0, .int .i64 0, .int .i64 0, .nils, .int .i64 0, .nils, .int .i64 0, .int .i64 0, .nils, .nils, .nils, .int .i64 0, .int .i64 0, .int .i64 0, .nils, .nils, .int .i64 0, .int .i64 0, .nils, .nils, .nils, .int .i64 0, .int .i64 0, .int .i64 0, .nils, .nils, .int .i64 0, .int .i64 0, .nils, .nils, .nils, .nils, .int .i64 0, .nils, .nils, .int .i64 0, .int .i64 0, .nils, .nils, .nils, .int .i64 0, .int .i64 0, .int .i64 0, .nils, .nils] [(0,47,(.s 50))]), .i (.app 52 82 47 744 (.s 48) (.s 51)),qm 11 52]) .skip)) (.seq (.ops [ql 54 4 4 5 true,qm 55 1,qm 56 12, .i (.call 58 82 false [(.s 54),(.s 55),(.s 56)]),qm 53 57, .i (.ext 58 (.s 53) 0), .i (.ext 59 (.s 53) 1),qm 15 58,qm 16 59]) (.seq (.seq (.ops [ql 61 4 4 5 true,qm 62 15, .i (.call 64 83 false [(.s 61),(.s 62)]),qm 60 63, .i (.ext 64 (.s 60) 0), .i (.ext 65 (.s 60) 1), .i (.lal 17 [.int .i64 0, .int .i64 0, .int .i64 0, .nils, .int .i64 0, .nils, .int .i64 0, .int .i64 0, .nils, .nils, .nils, .int .i64 0, .int .i64 0, .int .i64 0, .nils, .nils, .int .i64 0, .int .i64 0, .nils, .nils, .nils, .int .i64 0, .int .i64 0, .int .i64 0, .nils, .nils, .int .i64 0, .int .i64 0, .nils, .nils, .nils, .nils, .int .i64 0, .nils, .nils, .int .i64 0, .int .i64 0, .nils, .nils, .nils, .int .i64 0, .int .i64 0, .int .i64 0, .nils, .nils]),qs 17 17 64 45,qm 18 65]) (.seq (.ops [qm 66 18, .i (.bin 67 .eql (.s 66) (qi 0))]) (.cond (.s 67) (.ops [qm 68 11,ql 69 17 17 45 true, .i (.bld 70 [.int .i64 0, .int .i64 0, .int .i64 0, .int .i64 0, .int .i64 0, .nils, .int .i64 0, .nils, .int .i64 0, .int .i64 0, .nils, .nils, .nils, .int .i64 0, .int .i64 0, .int .i64 0, .nils, .nils, .int .i64 0, .int .i64 0, .nils, .nils, .nils, .int .i64 0, .int .i64 0, .int .i64 0, .nils, .nils, .int .i64 0, .int .i64 0, .nils, .nils, .nils, .nils, .int .i64 0, .nils, .nils, .int .i64 0, .int .i64 0, .nils, .nils, .nils, .int .i64 0, .int .i64 0, .int .i64 0, .nils, .nils] [(0,1,(qi 3)),(2,45,(.s 69))]), .i (.lsl 71 47 1 [.int .i64 0, .int .i64 0, .int .i64 0, .int .i64 0, .int .i64 0, .nils, .int .i64 0, .nils, .int .i64 0, .int .i64 0, .nils, .nils, .nils, .int .i64 0, .int .i64 0, .int .i64 0, .nils, .nils, .int .i64 0, .int .i64 0, .nils, .nils, .nils, .int .i64 0, .int .i64 0, .int .i64 0, .nils, .nils, .int .i64 0, .int .i64 0, .nils, .nils, .nils, .nils, .int .i64 0, .nils, .nils, .int .i64 0, .int .i64 0, .nils, .nils, .nils, .int .i64 0, .int .i64 0, .int .i64 0, .nils, .nils] [(0,47,(.s 70))]), .i (.app 72 82 47 744 (.s 68) (.s 71)),qm 11 72]) (.ops [qm 73 11,qm 74 18, .i (.bld 75 [.int .i64 0, .int .i64 0, .int .i64 0, .int .i64 0, .int .i64 0, .nils, .int .i64 0, .nils, .int .i64 0, .int .i64 0, .nils, .nils, .nils, .int .i64 0, .int .i64 0, .int .i64 0, .nils, .nils, .int .i64 0, .int .i64 0, .nils, .nils, .nils, .int .i64 0, .int .i64 0, .int .i64 0, .nils, .nils, .int .i64 0, .int .i64 0, .nils, .nils, .nils, .nils, .int .i64 0, .nils, .nils, .int .i64 0, .int .i64 0, .nils, .nils, .nils, .int .i64 0, .int .i64 0, .int .i64 0, .nils, .nils] [(0,1,(qi 2)),(1,1,(.s 74))]), .i (.lsl 76 47 1 [.int .i64 0, .int .i64 0, .int .i64 0, .int .i64 0, .int .i64 0, .nils, .int .i64 0, .nils, .int .i64 0, .int .i64 0, .nils, .nils, .nils, .int .i64 0, .int .i64 0, .int .i64 0, .nils, .nils, .int .i64 0, .int .i64 0, .nils, .nils, .nils, .int .i64 0, .int .i64 0, .int .i64 0, .nils, .nils, .int .i64 0, .int .i64 0, .nils, .nils, .nils, .nils, .int .i64 0, .nils, .nils, .int .i64 0, .int .i64 0, .nils, .nils, .nils, .int .i64 0, .int .i64 0, .int .i64 0, .nils, .nils] [(0,47,(.s 75))]), .i (.app 77 82 47 744 (.s 73) (.s 76)),qm 11 77])))) (.ops [qm 78 12,qm 79 14,qd 80 .add 78 79,qm 12 80, .i (.mov 3 (qi 0))]))))))))))) (.seq (.seq (.ops [qm 81 2,qm 82 81, .g 82 true 84 (.mov 83 (.s 3)), .g 82 true 85 (.bin 84 .neq (.s 83) (qi 0)), .i (.pick 85 (.s 82) (.s 84) (qb false))]) (.cond (.s 85) (.ops [qm 86 11,qm 87 3, .i (.bld 88 [.int .i64 0, .int .i64 0, .int .i64 0, .int .i64 0, .int .i64 0, .nils, .int .i64 0, .nils, .int .i64 0, .int .i64 0, .nils, .nils, .nils, .int .i64 0, .int .i64 0, .int .i64 0, .nils, .nils, .int .i64 0, .int .i64 0, .nils, .nils, .nils, .int .i64 0, .int .i64 0, .int .i64 0, .nils, .nils, .int .i64 0, .int .i64 0, .nils, .nils, .nils, .nils, .int .i64 0, .nils, .nils, .int .i64 0, .int .i64 0, .nils, .nils, .nils, .int .i64 0, .int .i64 0, .int .i64 0, .nils, .nils] [(0,1,(qi 1)),(1,1,(.s 87))]), .i (.lsl 89 47 1 [.int .i64 0, .int .i64 0, .int .i64 0, .int .i64 0, .int .i64 0, .nils, .int .i64 0, .nils, .int .i64 0, .int .i64 0, .nils, .nils, .nils, .int .i64 0, .int .i64 0, .int .i64 0, .nils, .nils, .int .i64 0, .int .i64 0, .nils, .nils, .nils, .int .i64 0, .int .i64 0, .int .i64 0, .nils, .nils, .int .i64 0, .int .i64 0, .nils, .nils, .nils, .nils, .int .i64 0, .nils, .nils, .int .i64 0, .int .i64 0, .nils, .nils, .nils, .int .i64 0, .int .i64 0, .int .i64 0, .nils, .nils] [(0,47,(.s 88))]), .i (.app 90 82 47 744 (.s 86) (.s 89)),qm 11 90]) .skip)) (.seq (.ops [qm 91 11,qm 92 3,qm 93 12,qm 8 91,qm 9 92,qm 10 93]) .ret)))))⟩
theorem Dl:cd vz=some vi:=by kernel_rfl
theorem CI (l:ao) (s:Bytes) (cl:Bool) (k0:Nat) (hs:s.length≤1073741824) (hk:k0≤1152921504606846975):VC cd vz (bJ [(true,l.c),(false,[.sl (bytes s)]),(false,[.bool cl]),(false,[.int .i64 (k0:Int)])]) (fun rs _=>rs=Ae (dI l s cl k0)):=by
 refine aa Dl rfl ?_
 simp(disch:=omega) [vi,ao.c,VZ]
 refine ed (σ:=Nat×Nat×Nat×List Ev) (f1:=_) (es0:=_) (by simp(disch:=omega) [VZ];rfl) (by simp(disch:=omega) [VZ];rfl) (fun p=> [(12, .val false [.int .i64 (p.1:Int)]),(3, .val false [.int .i64 (p.2.1:Int)]),(11, .val false [.ow 19 p.2.2.1])]) (fun p=> [(19, .sl p.2.2.1 true true (some (82,47)) (iz p.2.2.2))])
  (fun p g=>s.length≤g+p.1∧p.1≤s.length∧p.2.1≤k0+p.1∧p.2.2.2.length≤2 * p.1∧dB l s cl s.length 0 k0 []=dB l s cl g p.1 p.2.1 p.2.2.2) (0,k0,_,[]) s.length (by simp(disch:=omega) [VZ];rfl) (by simp(disch:=omega) [iz,VZ]) ⟨by simp,by simp,by simp,by simp,rfl⟩ ?_
 rintro⟨a,k,v,x⟩ nx g ⟨hg,h5,h6,h7,h8⟩ P hP
 simp only at hg h5 h6 h7 h8
 have hl:(iz x).length=x.length:=fq x
 simp(disch:=omega) [VZ]
 refine aj (fun h9=> ?_) (fun h9=> ?_)
 ·obtain⟨g1,rfl⟩:∃g1,g=g1+1:=⟨g - 1,by omega⟩
  have h0:=hM l s a hs (by omega)
  have hc:=qo l s a
  rcases hf:aw l s a with⟨st,n⟩
  rw[hf]at h0 hc
  simp only[cw]at h0
  simp only at hc
  simp(disch:=omega) [VZ]
  refine cp (h0) ?_ (ha:=by first|rfl|(simp[ao.c,VY] <;>repeat' constructor))
  rcases hc with rfl|rfl|rfl|rfl
  case inr.inl=>
   cases cl with
   |false=>
    rw[x9 h9 (by rw[hf]) rfl]at h8
    simp(disch:=omega) [dI,Ae,h8,VZ]
   |true=>
    rw[kF h9 (by simp) (by rw[hf];simp)]at h8
    simp(disch:=omega) [VZ]
    exact hP (a+1,k+1,v,x) g1 _ _ (by omega) ⟨by simp only;omega,by simp only;omega,by simp only;omega,by simp only;omega,h8⟩ (by simp(disch:=omega) [VZ] <;>rfl) (by simp(disch:=omega) [VZ])
  case inr.inr.inr=>
   obtain⟨n',hf',n9,nl,hok⟩:=ga (by rw[hf]:(aw l s a).1=3)
   rw[hf]at hf'
   obtain rfl:n=(n':Int):=by simpa using hf'
   rw[y3 h9 hf]at h8
   have hfl:=uz (s:=s) (a:=a) (n:=n')
   have hd:=xW (dA s a n') l (by omega)
   have he:kN l (dA s a n')=if(dec l (dA s a n')).2=0 then⟨3,0,(dec l (dA s a n')).1⟩else⟨2,(dec l (dA s a n')).2,az⟩:=rfl
   rw[he]at h8
   clear he
   generalize dec l (dA s a n')=d at hd h8
   obtain⟨dm,dc⟩:=d
   simp only[cE,cm.o]at hd h8
   by_cases k1:k=0
   ·subst k1
    simp(disch:=omega) [VZ]
    refine cp (nL l s a n' hs hf n9 nl) ?_ (ha:=by first|rfl|(simp[ao.c,VY] <;>repeat' constructor))
    simp(disch:=omega) [VZ]
    refine cp (hd) ?_ (ha:=by first|rfl|(simp[ao.c,VY] <;>repeat' constructor))
    by_cases d0:dc=0
    ·subst d0
     simp(disch:=omega) [xb,hl,VZ]
     exact hP (a+n',0,_,x++ [⟨3,0,dm⟩]) g1 _ _ (by omega) ⟨by simp only;omega,by simp only;omega,by simp only;omega,by simp only[List.length_append,List.length_cons,List.length_nil];omega,by rw[h8];simp[db]⟩ (by simp(disch:=omega) [VZ] <;>rfl) (by simp(disch:=omega) [VZ])
    ·simp(disch:=omega) [d0,mY,hl,VZ]
     exact hP (a+n',0,_,x++ [⟨2,dc,az⟩]) g1 _ _ (by omega) ⟨by simp only;omega,by simp only;omega,by simp only;omega,by simp only[List.length_append,List.length_cons,List.length_nil];omega,by rw[h8];simp[db,d0]⟩ (by simp(disch:=omega) [VZ] <;>rfl) (by simp(disch:=omega) [VZ])
   ·simp(disch:=omega) [k1,mY,hl,VZ]
    refine cp (nL l s a n' hs hf n9 nl) ?_ (ha:=by first|rfl|(simp[ao.c,VY] <;>repeat' constructor))
    have hl3:(iz (x++ [⟨1,(k:Int),az⟩])).length=x.length+1:=by simp[fq]
    simp(disch:=omega) [VZ]
    refine cp (hd) ?_ (ha:=by first|rfl|(simp[ao.c,VY] <;>repeat' constructor))
    by_cases d0:dc=0
    ·subst d0
     simp(disch:=omega) [xb,hl3,VZ]
     exact hP (a+n',0,_,x++ [⟨1,(k:Int),az⟩]++ [⟨3,0,dm⟩]) g1 _ _ (by omega) ⟨by simp only;omega,by simp only;omega,by simp only;omega,by simp only[List.length_append,List.length_cons,List.length_nil];omega,by rw[h8];simp[db,k1]⟩ (by simp(disch:=omega) [VZ] <;>rfl) (by simp(disch:=omega) [VZ])
    ·simp(disch:=omega) [d0,mY,hl3,VZ]
     exact hP (a+n',0,_,x++ [⟨1,(k:Int),az⟩]++ [⟨2,dc,az⟩]) g1 _ _ (by omega) ⟨by simp only;omega,by simp only;omega,by simp only;omega,by simp only[List.length_append,List.length_cons,List.length_nil];omega,by rw[h8];simp[db,k1,d0]⟩ (by simp(disch:=omega) [VZ] <;>rfl) (by simp(disch:=omega) [VZ])
  all_goals
   rw[kF h9 (by rw[hf];simp) (by rw[hf];simp)]at h8
   simp(disch:=omega) [VZ]
   exact hP (a+1,k+1,v,x) g1 _ _ (by omega) ⟨by simp only;omega,by simp only;omega,by simp only;omega,by simp only;omega,h8⟩ (by simp(disch:=omega) [VZ] <;>rfl) (by simp(disch:=omega) [VZ])
 ·rw[AP h9]at h8
  cases cl with
  |false=>simp(disch:=omega) [dI,Ae,h8,VZ]
  |true=>
   by_cases k1:k=0
   ·simp(disch:=omega) [k1,dI,Ae,h8,db,VZ]
   ·simp(disch:=omega) [k1,dI,Ae,h8,db,mY,hl,VZ]
theorem Jv {s:Bytes} {a n:Nat} (h9:9≤n) (hn:a+n≤s.length):List.take ((a:Int)+(n:Int) - ((a:Int)+8)).toNat (List.drop ((a:Int)+8).toNat (bytes s))=bytes (dA s a n)∧0≤(a:Int)+8∧8≤(n:Int)∧(a:Int)+(n:Int)≤(s.length:Int):=by
 refine⟨?_,by omega,by omega,by omega⟩
 rw[show((a:Int)+8).toNat=a+8 by omega,show((a:Int)+(n:Int) - ((a:Int)+8)).toNat=n - 8 by omega,dA]
 simp only[bytes,←List.map_take,←List.map_drop]
def uY (r:List Ev×Nat×Nat):List (Bool×List E):= [(false,[.o true (some (82,47)) (iz r.1)]),(false,[.p (.int .i64 (r.2.2:Int))]),(false,[.p (.int .i64 (r.2.1:Int))])]
abbrev lO:Nat:=44
def lP:AF:=⟨4,7,[.tmp 8, .tmp 9, .tmp 10],(.seq (.ops [.i (.lbox 4 (.s 0)), .i (.mov 8 (.c (.val false [.nils]))), .i (.mov 9 (qi 0)), .i (.mov 10 (qi 0))]) (.seq (.ops [.i (.bse 17),qm 11 17]) (.seq (.ops [.i (.mov 12 (qi 0))]) (.seq (.block 0 (.loop [74,73,72,71,70,69,68,67,66,65,64,63,62,61,60,59,58,57,56,55,54,53,52,51,50,49,48,47,46,45,44,43,42,41,40,39,38,37,36,35,34,33,32,31,30,29,28,27,26,25,24,23,22,21,20,19,18,16,15,14,13] (.seq (.seq (.ops [qm 18 12,qm 19 1,qn 20 19,qd 21 .lss 18 20]) (.cond (.s 21) .skip (.exit 0))) (.block 1 (.seq (.ops [ql 23 4 4 5 true,qm 24 1,qm 25 12, .i (.call 27 37 false [(.s 23),(.s 24),(.s 25)]),qm 22 26, .i (.ext 27 (.s 22) 0), .i (.ext 28 (.s 22) 1),qm 13 27,qm 14 28]) (.seq (.seq (.ops [qm 29 13, .i (.bin 30 .eql (.s 29) (qi 1)),qm 31 30, .g 31 true 33 (.mov 32 (.s 2)), .g 31 true 34 (.not 33 (.s 32)), .i (.pick 34 (.s 31) (.s 33) (qb false))]) (.cond (.s 34) (.exit 0) .skip)) (.seq (.seq (.ops [qm 35 13, .i (.bin 36 .neq (.s 35) (qi 3))]) (.cond (.s 36) (.seq (.ops [qm 37 3, .i (.bin 38 .add (.s 37) (qi 1)),qm 3 38]) (.seq (.ops [qm 39 12, .i (.bin 40 .add (.s 39) (qi 1)),qm 12 40]) (.exit 1))) .skip)) (.seq (.seq (.ops [qm 41 3, .i (.bin 42 .gtr (.s 41) (qi 0))]) (.cond (.s 42) (.seq (.ops [qm 43 11,qm 44 3, .i (.bld 45 [.int .i64 0, .int .i64 0, .int .i64 0, .int .i64 0, .int .i64 0, .nils, .int .i64 0, .nils, .int .i64 0, .int .i64 0, .nils, .nils, .nils, .int .i64 0, .int .i64 0, .int .i64 0, .nils, .nils, .int .i64 0, .int .i64 0, .nils, .nils, .nils, .int .i64 0, .int .i64 0, .int .i64 0, .nils, .nils, .int .i64 0, .int .i64 0, .nils, .nils, .nils, .nils, .int .i64 0, .nils, .nils, .int .i64 0, .int .i64 0, .nils, .nils, .nils, .int .i64 0, .int .i64 0, .int .i64 0, .nils, .nils] [(0,1,(qi 1)),(1,1,(.s 44))]), .i (.lsl 46 47 1 [.int .i64 0, .int .i64 0, .int .i64 0, .int .i64 0, .int .i64 0, .nils, .int .i64 0, .nils, .int .i64 0, .int .i64 0, .nils, .nils, .nils, .int .i64 0, .int .i64 0, .int .i64 0, .nils, .nils, .int .i64 0, .int .i64 0, .nils, .nils, .nils, .int .i64 0, .int .i64 0, .int .i64 0, .nils, .nils, .int .i64 0, .int .i64 0, .nils, .nils, .nils, .nils, .int .i64 0, .nils, .nils, .int .i64 0, .int .i64 0, .nils, .nils, .nils, .int .i64 0, .int .i64 0, .int .i64 0, .nils, .nils] [(0,47,(.s 45))]), .i (.app 47 82 47 744 (.s 43) (.s 46)),qm 11 47]) (.ops [.i (.mov 3 (qi 0))])) .skip)) (.seq (.ops [ql 49 4 4 5 true,qm 50 1,qm 51 12, .i (.bin 52 .add (.s 51) (qi 8)),qm 53 12,qm 54 14,qd 55 .add 53 54, .i (.fb 56 1 (.s 50) (some (.s 52)) (some (.s 55))), .i (.call 58 79 false [(.s 49),(.s 56)]),qm 48 57, .i (.ext 58 (.s 48) 0), .i (.ext 59 (.s 48) 1), .i (.lal 15 [.int .i64 0, .int .i64 0, .int .i64 0, .nils, .int .i64 0, .nils, .int .i64 0, .int .i64 0, .nils, .nils, .nils, .int .i64 0, .int .i64 0, .int .i64 0, .nils, .nils, .int .i64 0, .int .i64 0, .nils, .nils, .nils, .int .i64 0, .int .i64 0, .int .i64 0, .nils, .nils, .int .i64 0, .int .i64 0, .nils, .nils, .nils, .nils, .int .i64 0, .nils, .nils, .int .i64 0, .int .i64 0, .nils, .nils, .nils, .int .i64 0, .int .i64 0, .int .i64 0, .nils, .nils]),qs 15 15 58 45,qm 16 59]) (.seq (.seq (.ops [qm 60 16, .i (.bin 61 .eql (.s 60) (qi 0))]) (.cond (.s 61) (.ops [qm 62 11,ql 63 15 15 45 true, .i (.bld 64 [.int .i64 0, .int .i64 0, .int .i64 0, .int .i64 0, .int .i64 0, .nils, .int .i64 0, .nils, .int .i64 0, .int .i64 0, .nils, .nils, .nils, .int .i64 0, .int .i64 0, .int .i64 0, .nils, .nils, .int .i64 0, .int .i64 0, .nils, .nils, .nils, .int .i64 0, .int .i64 0, .int .i64 0, .nils, .nils, .int .i64 0, .int .i64 0, .nils, .nils, .nils, .nils, .int .i64 0, .nils, .nils, .int .i64 0, .int .i64 0, .nils, .nils, .nils, .int .i64 0, .int .i64 0, .int .i64 0, .nils, .nils] [(0,1,(qi 3)),(2,45,(.s 63))]), .i (.lsl 65 47 1 [.int .i64 0, .int .i64 0, .int .i64 0, .int .i64 0, .int .i64 0, .nils, .int .i64 0, .nils, .int .i64 0, .int .i64 0, .nils, .nils, .nils, .int .i64 0, .int .i64 0, .int .i64 0, .nils, .nils, .int .i64 0, .int .i64 0, .nils, .nils, .nils, .int .i64 0, .int .i64 0, .int .i64 0, .nils, .nils, .int .i64 0, .int .i64 0, .nils, .nils, .nils, .nils, .int .i64 0, .nils, .nils, .int .i64 0, .int .i64 0, .nils, .nils, .nils, .int .i64 0, .int .i64 0, .int .i64 0, .nils, .nils] [(0,47,(.s 64))]), .i (.app 66 82 47 744 (.s 62) (.s 65)),qm 11 66]) (.ops [qm 67 11,qm 68 16, .i (.bld 69 [.int .i64 0, .int .i64 0, .int .i64 0, .int .i64 0, .int .i64 0, .nils, .int .i64 0, .nils, .int .i64 0, .int .i64 0, .nils, .nils, .nils, .int .i64 0, .int .i64 0, .int .i64 0, .nils, .nils, .int .i64 0, .int .i64 0, .nils, .nils, .nils, .int .i64 0, .int .i64 0, .int .i64 0, .nils, .nils, .int .i64 0, .int .i64 0, .nils, .nils, .nils, .nils, .int .i64 0, .nils, .nils, .int .i64 0, .int .i64 0, .nils, .nils, .nils, .int .i64 0, .int .i64 0, .int .i64 0, .nils, .nils] [(0,1,(qi 2)),(1,1,(.s 68))]), .i (.lsl 70 47 1 [.int .i64 0, .int .i64 0, .int .i64 0, .int .i64 0, .int .i64 0, .nils, .int .i64 0, .nils, .int .i64 0, .int .i64 0, .nils, .nils, .nils, .int .i64 0, .int .i64 0, .int .i64 0, .nils, .nils, .int .i64 0, .int .i64 0, .nils, .nils, .nils, .int .i64 0, .int .i64 0, .int .i64 0, .nils, .nils, .int .i64 0, .int .i64 0, .nils, .nils, .nils, .nils, .int .i64 0, .nils, .nils, .int .i64 0, .int .i64 0, .nils, .nils, .nils, .int .i64 0, .int .i64 0, .int .i64 0, .nils, .nils] [(0,47,(.s 69))]), .i (.app 71 82 47 744 (.s 67) (.s 70)),qm 11 71]))) (.ops [qm 72 12,qm 73 14,qd 74 .add 72 73,qm 12 74]))))))))))) (.seq (.seq (.ops [qm 75 2,qm 76 75, .g 76 true 78 (.mov 77 (.s 3)), .g 76 true 79 (.bin 78 .gtr (.s 77) (qi 0)), .i (.pick 79 (.s 76) (.s 78) (qb false))]) (.cond (.s 79) (.ops [qm 80 11,qm 81 3, .i (.bld 82 [.int .i64 0, .int .i64 0, .int .i64 0, .int .i64 0, .int .i64 0, .nils, .int .i64 0, .nils, .int .i64 0, .int .i64 0, .nils, .nils, .nils, .int .i64 0, .int .i64 0, .int .i64 0, .nils, .nils, .int .i64 0, .int .i64 0, .nils, .nils, .nils, .int .i64 0, .int .i64 0, .int .i64 0, .nils, .nils, .int .i64 0, .int .i64 0, .nils, .nils, .nils, .nils, .int .i64 0, .nils, .nils, .int .i64 0, .int .i64 0, .nils, .nils, .nils, .int .i64 0, .int .i64 0, .int .i64 0, .nils, .nils] [(0,1,(qi 1)),(1,1,(.s 81))]), .i (.lsl 83 47 1 [.int .i64 0, .int .i64 0, .int .i64 0, .int .i64 0, .int .i64 0, .nils, .int .i64 0, .nils, .int .i64 0, .int .i64 0, .nils, .nils, .nils, .int .i64 0, .int .i64 0, .int .i64 0, .nils, .nils, .int .i64 0, .int .i64 0, .nils, .nils, .nils, .int .i64 0, .int .i64 0, .int .i64 0, .nils, .nils, .int .i64 0, .int .i64 0, .nils, .nils, .nils, .nils, .int .i64 0, .nils, .nils, .int .i64 0, .int .i64 0, .nils, .nils, .nils, .int .i64 0, .int .i64 0, .int .i64 0, .nils, .nils] [(0,47,(.s 82))]), .i (.app 84 82 47 744 (.s 80) (.s 83)),qm 11 84]) .skip)) (.seq (.ops [qm 85 11,qm 86 12,qm 87 3,qm 8 85,qm 9 86,qm 10 87]) .ret))))))⟩
theorem vM:cd lO=some lP:=by kernel_rfl
theorem El (l:ao) (s:Bytes) (cl:Bool) (k0:Nat) (hs:s.length≤1073741824) (hk:k0≤1152921504606846975):VC cd lO (bJ [(true,l.c),(false,[.sl (bytes s)]),(false,[.bool cl]),(false,[.int .i64 (k0:Int)])]) (fun rs _=>rs=uY (dI l s cl k0)):=by
 refine aa vM rfl ?_
 simp(disch:=omega) [lP,ao.c,VZ]
 refine ed (σ:=Nat×Nat×Nat×List Ev) (f1:=_) (es0:=_) (by simp(disch:=omega) [VZ];rfl) (by simp(disch:=omega) [VZ];rfl) (fun p=> [(12, .val false [.int .i64 (p.1:Int)]),(3, .val false [.int .i64 (p.2.1:Int)]),(11, .val false [.ow 17 p.2.2.1])]) (fun p=> [(17, .sl p.2.2.1 true true (some (82,47)) (iz p.2.2.2))])
  (fun p g=>s.length≤g+p.1∧p.1≤s.length∧p.2.1≤k0+p.1∧p.2.2.2.length≤2 * p.1∧dB l s cl s.length 0 k0 []=dB l s cl g p.1 p.2.1 p.2.2.2) (0,k0,_,[]) s.length (by simp(disch:=omega) [VZ];rfl) (by simp(disch:=omega) [iz,VZ]) ⟨by simp,by simp,by simp,by simp,rfl⟩ ?_
 rintro⟨a,k,v,x⟩ nx g ⟨hg,h5,h6,h7,h8⟩ P hP
 simp only at hg h5 h6 h7 h8
 have hl:(iz x).length=x.length:=fq x
 simp(disch:=omega) [VZ]
 refine aj (fun h9=> ?_) (fun h9=> ?_)
 ·obtain⟨g1,rfl⟩:∃g1,g=g1+1:=⟨g - 1,by omega⟩
  have h0:=lX l s a hs (by omega)
  have hc:=qo l s a
  rcases hf:aw l s a with⟨st,n⟩
  rw[hf]at h0 hc
  simp only[cw]at h0
  simp only at hc
  simp(disch:=omega) [VZ]
  refine cp (h0) ?_ (ha:=by first|rfl|(simp[ao.c,VY] <;>repeat' constructor))
  rcases hc with rfl|rfl|rfl|rfl
  case inr.inl=>
   cases cl with
   |false=>
    rw[x9 h9 (by rw[hf]) rfl]at h8
    simp(disch:=omega) [dI,uY,h8,VZ]
   |true=>
    rw[kF h9 (by simp) (by rw[hf];simp)]at h8
    simp(disch:=omega) [VZ]
    exact hP (a+1,k+1,v,x) g1 _ _ (by omega) ⟨by simp only;omega,by simp only;omega,by simp only;omega,by simp only;omega,h8⟩ (by simp(disch:=omega) [VZ] <;>rfl) (by simp(disch:=omega) [VZ])
  case inr.inr.inr=>
   obtain⟨n',hf',n9,nl,hok⟩:=ga (by rw[hf]:(aw l s a).1=3)
   rw[hf]at hf'
   obtain rfl:n=(n':Int):=by simpa using hf'
   rw[y3 h9 hf]at h8
   obtain⟨e1,f1,f2,f3⟩:=Jv n9 nl
   have hfl:=uz (s:=s) (a:=a) (n:=n')
   have hd:=xR (dA s a n') l (by omega)
   have he:kN l (dA s a n')=if(dec l (dA s a n')).2=0 then⟨3,0,(dec l (dA s a n')).1⟩else⟨2,(dec l (dA s a n')).2,az⟩:=rfl
   rw[he]at h8
   clear he
   generalize dec l (dA s a n')=d at hd h8
   obtain⟨dm,dc⟩:=d
   simp only[cE,cm.o]at hd h8
   by_cases k1:k=0
   ·subst k1
    simp(disch:=omega) [f1,f2,f3,e1,VZ]
    refine cp (hd) ?_ (ha:=by first|rfl|(simp[ao.c,VY] <;>repeat' constructor))
    by_cases d0:dc=0
    ·subst d0
     simp(disch:=omega) [xb,hl,VZ]
     exact hP (a+n',0,_,x++ [⟨3,0,dm⟩]) g1 _ _ (by omega) ⟨by simp only;omega,by simp only;omega,by simp only;omega,by simp only[List.length_append,List.length_cons,List.length_nil];omega,by rw[h8];simp[db]⟩ (by simp(disch:=omega) [VZ] <;>rfl) (by simp(disch:=omega) [VZ])
    ·simp(disch:=omega) [d0,mY,hl,VZ]
     exact hP (a+n',0,_,x++ [⟨2,dc,az⟩]) g1 _ _ (by omega) ⟨by simp only;omega,by simp only;omega,by simp only;omega,by simp only[List.length_append,List.length_cons,List.length_nil];omega,by rw[h8];simp[db,d0]⟩ (by simp(disch:=omega) [VZ] <;>rfl) (by simp(disch:=omega) [VZ])
   ·have k2:0 < k:=by omega
    simp(disch:=omega) [k1,k2,mY,hl,f1,f2,f3,e1,VZ]
    have hl3:(iz (x++ [⟨1,(k:Int),az⟩])).length=x.length+1:=by simp[fq]
    refine cp (hd) ?_ (ha:=by first|rfl|(simp[ao.c,VY] <;>repeat' constructor))
    by_cases d0:dc=0
    ·subst d0
     simp(disch:=omega) [xb,hl3,VZ]
     exact hP (a+n',0,_,x++ [⟨1,(k:Int),az⟩]++ [⟨3,0,dm⟩]) g1 _ _ (by omega) ⟨by simp only;omega,by simp only;omega,by simp only;omega,by simp only[List.length_append,List.length_cons,List.length_nil];omega,by rw[h8];simp[db,k1]⟩ (by simp(disch:=omega) [VZ] <;>rfl) (by simp(disch:=omega) [VZ])
    ·simp(disch:=omega) [d0,mY,hl3,VZ]
     exact hP (a+n',0,_,x++ [⟨1,(k:Int),az⟩]++ [⟨2,dc,az⟩]) g1 _ _ (by omega) ⟨by simp only;omega,by simp only;omega,by simp only;omega,by simp only[List.length_append,List.length_cons,List.length_nil];omega,by rw[h8];simp[db,k1,d0]⟩ (by simp(disch:=omega) [VZ] <;>rfl) (by simp(disch:=omega) [VZ])
  all_goals
   rw[kF h9 (by rw[hf];simp) (by rw[hf];simp)]at h8
   simp(disch:=omega) [VZ]
   exact hP (a+1,k+1,v,x) g1 _ _ (by omega) ⟨by simp only;omega,by simp only;omega,by simp only;omega,by simp only;omega,h8⟩ (by simp(disch:=omega) [VZ] <;>rfl) (by simp(disch:=omega) [VZ])
 ·rw[AP h9]at h8
  cases cl with
  |false=>simp(disch:=omega) [dI,uY,h8,VZ]
  |true=>
   by_cases k1:k=0
   ·simp(disch:=omega) [k1,dI,uY,h8,db,VZ]
   ·have k2:0 < k:=by omega
    simp(disch:=omega) [k1,k2,dI,uY,h8,db,mY,hl,VZ]
end Go.Eng.F
namespace Go.Eng.F
theorem ss {l:ao} {s:Bytes} {cl:Bool}:∀(g a k:Nat) (e:List Ev),a≤s.length→(dB l s cl g a k e).2.2≤s.length∧(dB l s cl g a k e).2.1+a≤k+(dB l s cl g a k e).2.2∧a≤(dB l s cl g a k e).2.2
 |0,a,k,e,h=>⟨h,by simp only[dB];omega,by simp only[dB];omega⟩
 |g+1,a,k,e,h=>by
  rw[dB]
  split
  ·rename_i h1
   split
   ·exact⟨h,by simp only;omega,by simp only;omega⟩
   ·split
    ·have:=ss (l:=l) (s:=s) (cl:=cl) g (a+1) (k+1) e (by omega)
     omega
    ·rename_i h3
     obtain⟨n,hn,h9,hl,_⟩:=ga (Decidable.not_not.1 h3)
     have e1:(aw l s a).2.toNat=n:=by rw[hn];rfl
     rw[e1]
     have:=ss (l:=l) (s:=s) (cl:=cl) g (a+n) 0 (e++(db k++ [kN l (dA s a n)])) (by omega)
     omega
  ·exact⟨h,by simp only;omega,by simp only;omega⟩
def tail (l:ao) (s:Bytes):Nat×Nat:=if l.ok=true then((dI l s false 0).2.1,s.length - (dI l s false 0).2.2)else(0,0)
def feed (l:ao) (p:bC) (b:Bytes):bC×List Ev:=if jv l p=true then(⟨((dI l (p.buf++b) false p.skip.toNat).2.1:Int),(p.buf++b).drop (dI l (p.buf++b) false p.skip.toNat).2.2⟩,(dI l (p.buf++b) false p.skip.toNat).1)else(p,[])
theorem nj {l:ao} {p:bC} (h:jv l p=true):0≤p.skip∧p.skip≤1152921504606846975:=by
 simp only[jv,isNum,dR,Bool.and_eq_true,decide_eq_true_eq]at h
 omega
abbrev iY:Nat:=46
def iE:AF:=⟨1,4,[.cell 2 2 true],(.seq (.ops [.i (.lbox 1 (.s 0)), .i (.lal 2 [.int .i64 0, .nils])]) (.seq (.ops [qf 3 1 0,ql 4 1 3 1 false,qf 5 1 1,ql 6 1 5 1 false,qk 8 47 6, .i (.bld 8 [.int .i64 0, .nils] [(0,1,(.s 4)),(1,1,(.s 7))]),qs 2 2 8 2]) .ret))⟩
theorem rG:cd iY=some iE:=by kernel_rfl
theorem nR (p:bC) (hb:p.buf.length≤1073741824):VC cd iY (bJ [(true,p.c)]) (fun rs _=>rs= [(true,[.p (.int .i64 p.skip), .o true (some (5,1)) (bytes p.buf)])]):=by
 refine aa rG rfl ?_
 simp(disch:=omega) [iE,bC.c,VZ]
 refine cp (eQ p.buf (by omega)) ?_
 simp(disch:=omega) [VZ]
def gZ (x:bC×List Ev):List (Bool×List E):= [(true,[.p (.int .i64 x.1.skip), .o true (some (5,1)) (bytes x.1.buf)]),(false,[.o true (some (82,47)) (iz x.2)])]
abbrev vl:Nat:=12
def vh:AF:=⟨3,6,[.cell 6 2 true, .tmp 7],(.seq (.ops [.i (.lbox 3 (.s 0)), .i (.lbox 4 (.s 1)), .i (.lal 6 [.int .i64 0, .nils]), .i (.mov 7 (.c (.val false [.nils])))]) (.seq (.seq (.ops [ql 12 3 3 5 true,ql 13 4 4 2 true, .i (.call 15 45 false [(.s 12),(.s 13)]), .i (.not 15 (.s 14))]) (.cond (.s 15) (.seq (.ops [ql 16 4 4 2 true,qk 18 46 16,qs 6 6 17 2, .i (.mov 7 (.c (.val false [.nils])))]) .ret) .skip)) (.seq (.ops [qf 18 4 1,ql 19 4 18 1 false,qk 21 47 19,qm 21 2, .i (.app 22 5 1 1 (.s 20) (.s 21)),qm 8 22]) (.seq (.ops [ql 24 3 3 5 true,qm 25 8,qf 26 4 0,ql 27 4 26 1 false, .i (.call 29 48 false [(.s 24),(.s 25),(qb false),(.s 27)]),qm 23 28, .i (.ext 29 (.s 23) 0), .i (.ext 30 (.s 23) 1), .i (.ext 31 (.s 23) 2),qm 9 29,qm 10 30,qm 11 31]) (.seq (.ops [qm 32 10,qm 33 8,qm 34 11, .i (.fb 35 1 (.s 33) (some (.s 34)) none),qk 37 47 35, .i (.bld 37 [.int .i64 0, .nils] [(0,1,(.s 32)),(1,1,(.s 36))]),qm 38 9,qs 6 6 37 2,qm 7 38]) .ret)))))⟩
theorem Dy:cd vl=some vh:=by kernel_rfl
theorem tH (l:ao) (p:bC) (b:Bytes) (hb:p.buf.length+b.length≤1073741824):VC cd vl (bJ [(true,l.c),(true,p.c),(false,[.sl (bytes b)])]) (fun rs _=>rs=gZ (feed l p b)):=by
 refine VC.ic ?_
 have hlen:(p.buf++b).length≤1073741824:=by rw[List.length_append];exact hb
 have h2:=ss (l:=l) (s:=p.buf++b) (cl:=false) (p.buf++b).length 0 p.skip.toNat [] (by omega)
 refine aa Dy rfl ?_
 simp(disch:=omega) [vh,ao.c,bC.c,VZ]
 refine cp (xS l p (by omega)) ?_ (ha:=by first|rfl|(simp[ao.c,bC.c,VY] <;>repeat' constructor))
 simp(disch:=omega) [VZ]
 refine dT (fun h1=> ?_) (fun h1=> ?_)
 case refine_2=>
  simp(disch:=omega) [h1,VZ]
  refine cp (nR p (by omega)) ?_ (ha:=by first|rfl|(simp[bC.c,VY] <;>repeat' constructor))
  simp(disch:=omega) [feed,gZ,h1,GU,aI,aJ,aP,VZ]
 have hk:=nj h1
 have e2:((p.skip.toNat:Nat):Int)=p.skip:=by omega
 simp(disch:=omega) [h1,VZ]
 refine cp (eQ p.buf (by omega)) ?_
 simp(disch:=omega) [Af,VZ]
 have hd:=CI l (p.buf++b) false p.skip.toNat hlen (by omega)
 rw[e2]at hd
 simp only[Ae]at hd
 refine cp (hd) ?_ (ha:=by first|rfl|(simp[ao.c,VY] <;>repeat' constructor))
 have h3:(dI l (p.buf++b) false p.skip.toNat).2.2≤(p.buf++b).length:=h2.1
 have hf:feed l p b=(⟨((dI l (p.buf++b) false p.skip.toNat).2.1:Int),(p.buf++b).drop (dI l (p.buf++b) false p.skip.toNat).2.2⟩,(dI l (p.buf++b) false p.skip.toNat).1):=by rw[feed,if_pos h1]
 rw[hf]
 generalize dI l (p.buf++b) false p.skip.toNat=r at h3⊢
 rw[List.length_append]at h3
 have f4:(r.2.2:Int)≤(p.buf.length:Int)+(b.length:Int):=by omega
 have e4:List.take (((p.buf.length:Int)+(b.length:Int)).toNat - r.2.2) (List.drop r.2.2 (bytes (p.buf++b)))=bytes ((p.buf++b).drop r.2.2):=by
  rw[show((p.buf.length:Int)+(b.length:Int)).toNat=p.buf.length+b.length by omega,List.take_of_length_le (by simp[bytes])]
  simp[bytes]
 simp(disch:=omega) [f4,e4,VZ]
 refine cp (eQ ((p.buf++b).drop r.2.2) (by rw[List.length_drop,List.length_append];omega)) ?_
 simp(disch:=omega) [gZ,aI,aJ,aP,VZ]
abbrev vo:Nat:=8
def vw:AF:=⟨3,6,[.cell 6 2 true, .tmp 7],(.seq (.ops [.i (.lbox 3 (.s 0)), .i (.lbox 4 (.s 1)), .i (.lal 6 [.int .i64 0, .nils]), .i (.mov 7 (.c (.val false [.nils])))]) (.seq (.seq (.ops [ql 12 3 3 5 true,ql 13 4 4 2 true, .i (.call 15 42 false [(.s 12),(.s 13)]), .i (.not 15 (.s 14))]) (.cond (.s 15) (.seq (.ops [qf 16 4 0,ql 17 4 16 1 false,qf 18 4 1,ql 19 4 18 1 false,qk 21 43 19, .i (.bld 21 [.int .i64 0, .nils] [(0,1,(.s 17)),(1,1,(.s 20))]),qs 6 6 21 2, .i (.mov 7 (.c (.val false [.nils])))]) .ret) .skip)) (.seq (.ops [qf 22 4 1,ql 23 4 22 1 false,qk 25 43 23,qm 25 2, .i (.app 26 5 1 1 (.s 24) (.s 25)),qm 8 26]) (.seq (.ops [ql 28 3 3 5 true,qm 29 8,qf 30 4 0,ql 31 4 30 1 false, .i (.call 33 44 false [(.s 28),(.s 29),(qb false),(.s 31)]),qm 27 32, .i (.ext 33 (.s 27) 0), .i (.ext 34 (.s 27) 1), .i (.ext 35 (.s 27) 2),qm 9 33,qm 10 34,qm 11 35]) (.seq (.ops [qm 36 11,qm 37 8,qm 38 10, .i (.fb 39 1 (.s 37) (some (.s 38)) none),qk 41 43 39, .i (.bld 41 [.int .i64 0, .nils] [(0,1,(.s 36)),(1,1,(.s 40))]),qm 42 9,qs 6 6 41 2,qm 7 42]) .ret)))))⟩
theorem Dj:cd vo=some vw:=by kernel_rfl
theorem tw (l:ao) (p:bC) (b:Bytes) (hb:p.buf.length+b.length≤1073741824):VC cd vo (bJ [(true,l.c),(true,p.c),(false,[.sl (bytes b)])]) (fun rs _=>rs=gZ (feed l p b)):=by
 refine VC.ic ?_
 have hlen:(p.buf++b).length≤1073741824:=by rw[List.length_append];exact hb
 have h2:=ss (l:=l) (s:=p.buf++b) (cl:=false) (p.buf++b).length 0 p.skip.toNat [] (by omega)
 refine aa Dj rfl ?_
 simp(disch:=omega) [vw,ao.c,bC.c,VZ]
 refine cp (xl l p (by omega)) ?_ (ha:=by first|rfl|(simp[ao.c,bC.c,VY] <;>repeat' constructor))
 simp(disch:=omega) [VZ]
 refine dT (fun h1=> ?_) (fun h1=> ?_)
 case refine_2=>
  simp(disch:=omega) [h1,VZ]
  refine cp (gI p.buf (by omega)) ?_
  simp(disch:=omega) [feed,gZ,h1,GU,aI,aJ,aP,VZ]
 have hk:=nj h1
 have e2:((p.skip.toNat:Nat):Int)=p.skip:=by omega
 simp(disch:=omega) [h1,VZ]
 refine cp (gI p.buf (by omega)) ?_
 simp(disch:=omega) [Af,VZ]
 have hd:=El l (p.buf++b) false p.skip.toNat hlen (by omega)
 rw[e2]at hd
 simp only[uY]at hd
 refine cp (hd) ?_ (ha:=by first|rfl|(simp[ao.c,VY] <;>repeat' constructor))
 have h3:(dI l (p.buf++b) false p.skip.toNat).2.2≤(p.buf++b).length:=h2.1
 have hf:feed l p b=(⟨((dI l (p.buf++b) false p.skip.toNat).2.1:Int),(p.buf++b).drop (dI l (p.buf++b) false p.skip.toNat).2.2⟩,(dI l (p.buf++b) false p.skip.toNat).1):=by rw[feed,if_pos h1]
 rw[hf]
 generalize dI l (p.buf++b) false p.skip.toNat=r at h3⊢
 rw[List.length_append]at h3
 have f4:(r.2.2:Int)≤(p.buf.length:Int)+(b.length:Int):=by omega
 have e4:List.take (((p.buf.length:Int)+(b.length:Int)).toNat - r.2.2) (List.drop r.2.2 (bytes (p.buf++b)))=bytes ((p.buf++b).drop r.2.2):=by
  rw[show((p.buf.length:Int)+(b.length:Int)).toNat=p.buf.length+b.length by omega,List.take_of_length_le (by simp[bytes])]
  simp[bytes]
 simp(disch:=omega) [f4,e4,VZ]
 refine cp (gI ((p.buf++b).drop r.2.2) (by rw[List.length_drop,List.length_append];omega)) ?_
 simp(disch:=omega) [gZ,aI,aJ,aP,VZ]
end Go.Eng.F
namespace Go.Eng.F
end Go.Eng.F
namespace Go.Eng.F
end Go.Eng.F
namespace Go.Eng.F
end Go.Eng.F
namespace Go.Eng.F
theorem At.le {b:Bytes} {a:Nat} {s:Bytes} (h:At b a s) (h0:0 < s.length):a+s.length≤b.length:=by
 rcases h.len with h1|h1
 ·exact h1
 ·rw[h1]at h0;simp at h0
def Cut (b:Bytes) (a:Nat) (s:Bytes):Prop:=a≤b.length∧∃k,k < s.length∧b.drop a=s.take k
theorem Cut.app {b:Bytes} {a:Nat} {s t:Bytes} (h:Cut b a (s++t)):Cut b a s∨(At b a s∧Cut b (a+s.length) t):=by
 obtain⟨h0,k,hk,h⟩:=h
 by_cases hs:k < s.length
 ·exact .inl ⟨h0,k,hs,by rw[h,List.take_append_of_le_length (by omega)]⟩
 ·have e:b.drop a=s++t.take (k - s.length):=by rw[h,List.take_append,List.take_of_length_le (by omega)]
  have hl:=congrArg List.length e
  simp only[List.length_drop,List.length_append,List.length_take]at hl hk
  refine .inr ⟨⟨_,e⟩,by omega,k - s.length,by omega,?_⟩
  rw[←List.drop_drop,e,List.drop_left]
theorem Cut.nil {b:Bytes} {a:Nat} (h:Cut b a []):False:=by
 obtain⟨_,k,hk,_⟩:=h
 simp at hk
theorem KO {r:Rd} {c:Nat}:ax r false c=r:=by simp[ax]
theorem uq {l:ao} {h:Head} (w:eC l h=true):isNum h.view=true∧isNum h.height=true∧isNum h.proposer=true∧1≤h.height∧h.proposer < l.n∧h.parent.length=32∧h.root.length=32∧oy l h.qc=true∧fits h=true:=by
 simp only[eC,Bool.and_eq_true]at w
 have h1:=eU w.1.1.1.1.2
 have h2:=eU w.1.1.1.2
 have h3:l.ok=true:=by have:=w.1.1.1.1.1.1;simp only[oy,Bool.and_eq_true]at this;exact this.1.1.1.1.1.1
 have h4:=Mt h3
 refine⟨w.1.1.1.1.1.2,by simp only[isNum,dR,decide_eq_true_eq];omega,by simp only[isNum,dR,decide_eq_true_eq];omega,h1.1,by omega,j0 w.1.1.2,j0 w.1.2,w.1.1.1.1.1.1,w.2⟩
theorem rD {l:ao} {x:Block} (h:jq l x=true):eC l x.head=true∧l.ok=true∧(x.txs.length:Int)≤l.txs∧(∀t∈x.txs,t.length≤l.tx.toNat)∧x.head.root=bx x.txs:=by
 simp only[jq,Bool.and_eq_true,decide_eq_true_eq]at h
 have h3:l.ok=true:=by have:=h.1.1.1;simp only[eC,oy,Bool.and_eq_true]at this;exact this.1.1.1.1.1.1.1.1.1.1.1.1
 refine⟨h.1.1.1,h3,h.1.1.2,fun t ht=> ?_,h.2⟩
 have h2:=h.1.2
 simp only[Gz,List.all_eq_true,decide_eq_true_eq]at h2
 have:=h2 t ht
 omega
def x7 (l:ao) (view:Int):Int→List Entry→Prop
 |_,[]=>True
 |bf,e::es=>((0≤e.who∧e.who < l.n∧bf < e.who)∧(0≤e.high∧e.high < view)∧e.tag.length=32)∧x7 l view e.who es
theorem AQ {l:ao} {t:Tc} (h:∀i < t.entries.length,Gt l t i=true):∀(es pre:List Entry) (bf:Int),t.entries=pre++es→(pre= []∧bf= -1∨∃d,pre.getLast? =some d∧d.who=bf)→x7 l t.view bf es
 | [],_,_,_,_=>trivial
 |e::es,pre,bf,he,hp=>by
  have hi:t.entries[pre.length]? =some e:=by rw[he];simp
  have h1:=h pre.length (by rw[he];simp)
  simp only[Gt,hi,Bool.and_eq_true,Bool.or_eq_true,decide_eq_true_eq]at h1
  obtain⟨⟨⟨a1,a2⟩,a3⟩,a4⟩:=h1
  have b1:=eU a1
  have b2:=eU a2
  refine⟨⟨⟨by omega,by omega,?_⟩,⟨by omega,by omega⟩,j0 a3⟩,AQ h es (pre++ [e]) e.who (by rw[he];simp) (.inr ⟨e,by simp,rfl⟩)⟩
  rcases hp with⟨rfl,rfl⟩|⟨d,hd,rfl⟩
  ·omega
  ·have hn:pre≠ []:=by rintro rfl;simp at hd
   have hpl:0 < pre.length:=List.length_pos_iff.2 hn
   have h2:t.entries[pre.length - 1]? =some d:=by
    rw[he,List.getElem?_append_left (by omega),←List.getLast?_eq_getElem?]
    exact hd
   rw[h2]at a4
   rcases a4 with a4|a4
   ·omega
   ·simpa using a4
theorem CF {l:ao} {t:Tc} (h:C4 l t=true):l.ok=true∧isNum t.view=true∧(t.entries.length:Int)≤l.n∧x7 l t.view (-1) t.entries:=by
 simp only[C4,Bool.and_eq_true,decide_eq_true_eq,List.all_eq_true,List.mem_range]at h
 exact⟨h.1.1.1,h.1.1.2,h.1.2,AQ h.2 t.entries [] (-1) rfl (.inl ⟨rfl,rfl⟩)⟩
theorem rJ {l:ao} {p:Proof} (h:jd l p=true):l.ok=true∧(3≤p.heads.length∧(p.heads.length:Int)≤l.heads)∧(∀h∈p.heads,eC l h=true)∧oy l p.qc=true∧kA p=true:=by
 simp only[jd,Bool.and_eq_true,BK,List.all_eq_true]at h
 have h3:l.ok=true:=by have:=h.1.2;simp only[oy,Bool.and_eq_true]at this;exact this.1.1.1.1.1.1
 have:=eU h.1.1.1
 exact⟨h3,by omega,h.1.1.2,h.1.2,h.2⟩
theorem uP {l:ao} {x:cq} (h:nJ l x=true):l.ok=true∧isNum x.height=true∧(1≤x.n∧x.n≤l.txs)∧(0≤x.idx∧x.idx < x.n)∧(x.tx.length:Int)≤l.tx∧x.path.length=bG x.idx.toNat x.n.toNat∧∀t∈x.path,t.length=32:=by
 simp only[nJ,Bool.and_eq_true,decide_eq_true_eq,hashes,List.all_eq_true]at h
 have h1:=eU h.1.1.1.1.2
 have h2:=eU h.1.1.1.2
 exact⟨h.1.1.1.1.1.1,h.1.1.1.1.1.2,by omega,by omega,h.1.1.2,h.1.2,fun t ht=>j0 (h.2 t ht)⟩
end Go.Eng.F
namespace Go.Eng.F
theorem At.join {b:Bytes} {a:Nat} {s t:Bytes} (h1:At b a s) (h2:At b (a+s.length) t):At b a (s++t):=by
 obtain⟨u,h1⟩:=h1
 obtain⟨w,h2⟩:=h2
 refine⟨w,?_⟩
 rw[←List.drop_drop,h1,List.drop_left]at h2
 rw[h1,h2,List.append_assoc]
def kI (b:Bytes) (r:Rd) (s:Bytes) (r':Rd):Prop:=r.er=0∧At b r.at_ s∧r'=⟨r.at_+s.length,0⟩
theorem kI.nil {b:Bytes} {r:Rd} (h:r.er=0):kI b r [] r:=⟨h,⟨b.drop r.at_,rfl⟩,by obtain⟨x,y⟩:=r;simp only at h;subst h;rfl⟩
theorem kI.join {b:Bytes} {r r1 r2:Rd} {s t:Bytes} (h1:kI b r s r1) (h2:kI b r1 t r2):kI b r (s++t) r2:=by
 obtain⟨a1,a2,rfl⟩:=h1
 obtain⟨_,b2,rfl⟩:=h2
 exact⟨a1,a2.join b2,by simp only[List.length_append,Nat.add_assoc]⟩
theorem kI.er {b:Bytes} {r r1:Rd} {s:Bytes} (h:kI b r s r1):r1.er=0:=by rw[h.2.2]
theorem Ia:∀(s:Bytes) (k n:Nat),(gv s k n).2.2=0→∃v,(k=0∨0 < v)∧(gv s k n).1=n+v * 128 ^ k∧(gv s k n).2.1=k+(ey v).length∧(∃t,s=ey v++t)∧n+v * 128 ^ k≤1152921504606846975
 | [],k,n,h=>by simp[gv]at h
 |c::r,k,n,h=>by
  have hc:c.toNat < 256:=c.toNat_lt
  have ec:UInt8.ofNat c.toNat=c:=by simp
  rw[gv]at h⊢
  split at h
  ·simp at h
  ·rename_i h1
   rw[if_neg h1]
   split at h
   ·rename_i h2
    rw[if_pos h2]
    split at h
    ·rename_i h3
     rw[if_pos h3]
     refine⟨c.toNat,by omega,rfl,by rw[FX h2];rfl,⟨r,by rw[FX h2,ec];rfl⟩,h3⟩
    ·simp at h
   ·rename_i h2
    rw[if_neg h2]
    obtain⟨v,e1,e2,e3,⟨t,e4⟩,e5⟩:=Ia r (k+1) (n+(c.toNat - 128) * 128 ^ k) h
    have hv:¬v * 128+(c.toNat - 128) < 128:=by omega
    have hd:(v * 128+(c.toNat - 128)) / 128=v:=by omega
    have hm:(v * 128+(c.toNat - 128)) % 128+128=c.toNat:=by omega
    have hb:ey (v * 128+(c.toNat - 128))=c::ey v:=by rw[Li hv,hd,hm,ec]
    have hx:n+(c.toNat - 128) * 128 ^ k+v * 128 ^ (k+1)=n+(v * 128+(c.toNat - 128)) * 128 ^ k:=by
     rw[Nat.add_mul,Nat.pow_succ,Nat.mul_comm (128 ^ k) 128,←Nat.mul_assoc]
     omega
    refine⟨v * 128+(c.toNat - 128), .inr (by omega),by rw[e2,hx],by rw[e3,hb,List.length_cons];omega,⟨t,by rw[hb,e4];rfl⟩,by rw[←hx];exact e5⟩
theorem ef {b:Bytes} {r:Rd} (h:(aO b r).2.er=0):kI b r (ey (aO b r).1) (aO b r).2∧isNum ((aO b r).1:Int)=true:=by
 have h0:=Gc h
 simp only[aO,if_pos h0,getVar]at h⊢
 split at h
 ·rename_i h1
  obtain⟨v,_,e1,e2,⟨t,e3⟩,e4⟩:=Ia _ 0 0 h1
  rw[if_pos h1]
  simp only[Nat.zero_add,Nat.pow_zero,Nat.mul_one]at e1 e2 e4
  simp only[e1,e2]
  exact⟨⟨h0,⟨t,e3⟩,rfl⟩,by simp only[isNum,dR,decide_eq_true_eq];omega⟩
 ·rename_i h1
  exact absurd h h1
theorem dF {r:Rd} {bad:Bool} {c:Nat} (h:(ax r bad c).er=0) (hc:c≠0):ax r bad c=r∧bad=false:=by
 have e:=eI h hc
 subst e
 exact⟨KO,rfl⟩
theorem fD {b:Bytes} {r:Rd} {N:Int} {c:Nat} (h:(aM b r N c).2.er=0) (hc:c≠0):kI b r (ey (aM b r N c).1) (aM b r N c).2∧isNum ((aM b r N c).1:Int)=true∧((aM b r N c).1:Int) < N:=by
 have h1:=dF h hc
 have h2:=ef (dG h)
 simp only[aM]at h1⊢
 rw[h1.1]
 exact⟨h2.1,h2.2,by simpa using h1.2⟩
theorem rT {b:Bytes} {a n:Nat} (h:(dh b a n).2.er=0):At b a (dh b a n).1∧(dh b a n).1.length=n∧(dh b a n).2=⟨a+n,0⟩:=by
 unfold dh at h⊢
 split at h
 ·rename_i h1
  rw[if_pos h1]
  exact⟨⟨(b.drop a).drop n,(List.take_append_drop n (b.drop a)).symm⟩,by simp;omega,rfl⟩
 ·simp at h
theorem gS {b:Bytes} {r:Rd} {n:Nat} (h:(ba b r n).2.er=0):kI b r (ba b r n).1 (ba b r n).2∧(ba b r n).1.length=n:=by
 have h0:=Lo h
 simp only[ba,if_pos h0]at h⊢
 have:=rT h
 exact⟨⟨h0,this.1,by rw[this.2.2,this.2.1]⟩,this.2.1⟩
theorem uC {b:Bytes} {r:Rd} {m:Nat} (h:(bZ b r m).2.er=0):kI b r (Ba (bZ b r m).1) (bZ b r m).2∧(bZ b r m).1.length≤m:=by
 have h0:=Ee h
 simp only[bZ,if_pos h0,et]at h⊢
 have ev:getVar b r.at_=aO b r:=by simp[aO,h0]
 rw[ev]at h⊢
 split at h
 ·rename_i h1
  exact absurd h h1
 ·rename_i h1
  rw[if_neg h1]
  split at h
  ·simp at h
  ·rename_i h2
   rw[if_neg h2]
   have g1:=ef (Decidable.not_not.1 h1)
   have g2:=rT h
   have e2:(aO b r).2=⟨r.at_+(ey (aO b r).1).length,0⟩:=g1.1.2.2
   have g3:kI b (aO b r).2 (dh b (aO b r).2.at_ (aO b r).1).1 (dh b (aO b r).2.at_ (aO b r).1).2:=⟨Decidable.not_not.1 h1,g2.1,by rw[g2.2.2,g2.2.1]⟩
   refine⟨?_,by rw[g2.2.1];omega⟩
   have:=g1.1.join g3
   unfold Ba
   rw[g2.2.1]
   exact this
theorem DZ {b:Bytes} {a:Nat} {n:Int} (h:(bH b a n).2.er=0):At b a (bH b a n).1∧eo (bH b a n).1 n=true∧(bH b a n).2=⟨a+(bH b a n).1.length,0⟩:=by
 simp only[bH]at h⊢
 split at h
 ·rename_i h1
  exact absurd h h1
 ·rename_i h1
  rw[if_neg h1]
  split at h
  ·rename_i h2
   rw[if_pos h2]
   have g:=rT (Decidable.not_not.1 h1)
   exact⟨g.1,h2,by rw[g.2.2,g.2.1]⟩
  ·simp at h
theorem oQ {α:Type} {b:Bytes} {f:Rd→α×Rd} {e:α→Bytes} {p:α→Prop} (hf:∀r,(f r).2.er=0→p (f r).1∧kI b r (e (f r).1) (f r).2):∀(k:Nat) (r:Rd),(bm f k r).2.er=0→(∀x∈(bm f k r).1,p x)∧kI b r ((bm f k r).1.map e).flatten (bm f k r).2
 |0,r,h=>⟨by simp[bm],kI.nil h⟩
 |k+1,r,h=>by
  by_cases h0:r.er=0
  ·rw[fB h0]at h⊢
   have h1:=oQ hf k _ h
   have h2:=hf r h1.2.1
   exact⟨fun x hx=>by
    rcases List.mem_cons.1 hx with rfl|hx
    ·exact h2.1
    ·exact h1.1 x hx,by
    simp only[List.map_cons,List.flatten_cons]
    exact h2.2.join h1.2⟩
  ·rw[fI h0]at h
   exact absurd h h0
theorem DI {b:Bytes} {k:Nat} {r:Rd} (h:(eA (fun r=>ba b r 32) k r).2.er=0):(∀x∈(eA (fun r=>ba b r 32) k r).1,x.length=32)∧kI b r (eA (fun r=>ba b r 32) k r).1.flatten (eA (fun r=>ba b r 32) k r).2:=by
 have h1:=uu (b:=b) k r
 rw[h1.1]at h
 have h2:=h1.2 h
 have h3:=oQ (b:=b) (f:=fun r=>ba b r 32) (e:=fun x=>x) (p:=fun x=>x.length=32) (fun r hr=>⟨(gS hr).2,(gS hr).1⟩) k r h
 rw[h2,h1.1]
 simpa using h3
theorem je {x:Bytes} (h:x.length=32):hash x=true:=by simp[hash,h]
theorem G6 {b:Bytes} {l:ao} {r:Rd} (hl:l.ok=true) (h:(eG b l r).2.er=0):Ck l (eG b l r).1=true∧kI b r (PE (eG b l r).1) (eG b l r).2:=by
 have g5:=gS (show(ba b (aM b (ba b (aO b (aO b r).2).2 32).2 l.n 5).2 32).2.er=0 from h)
 have g4:=fD g5.1.1 (by omega)
 have g3:=gS g4.1.1
 have g2:=ef g3.1.1
 have g1:=ef g2.1.1
 refine⟨?_,g1.1.join (g2.1.join (g3.1.join (g4.1.join g5.1)))⟩
 have h4:dR ((aM b (ba b (aO b (aO b r).2).2 32).2 l.n 5).1:Int) 0 (l.n - 1)=true:=by simp only[dR,decide_eq_true_eq];omega
 simp only[Ck,eG,hl,g1.2,g2.2,je g3.2,je g5.2,h4,Bool.and_self]
theorem Ca {b:Bytes} {l:ao} {r:Rd} (hl:l.ok=true) (h:(kb b l r).2.er=0):oy l (kb b l r).1=true∧kI b r (M5 (kb b l r).1) (kb b l r).2:=by
 by_cases h0:(ba b (aO b (aO b r).2).2 32).2.er=0
 ·simp only[kb,if_pos h0]at h⊢
  have g5:=DI h
  have g3:=gS h0
  have g2:=ef g3.1.1
  have g1:=ef g2.1.1
  have g4:=DZ g5.2.1
  have g4':kI b (ba b (aO b (aO b r).2).2 32).2 (bH b (ba b (aO b (aO b r).2).2 32).2.at_ l.n).1 (bH b (ba b (aO b (aO b r).2).2 32).2.at_ l.n).2:=⟨h0,g4.1,g4.2.2⟩
  have h6:=g1.1.join (g2.1.join (g3.1.join (g4'.join g5.2)))
  refine⟨?_,by simp only[M5,List.append_assoc];exact h6⟩
  have h7:hashes (eA (fun r=>ba b r 32) (a9 (bH b (ba b (aO b (aO b r).2).2 32).2.at_ l.n).1).length (bH b (ba b (aO b (aO b r).2).2 32).2.at_ l.n).2).1=true:=by
   simp only[hashes,List.all_eq_true]
   exact fun x hx=>je (g5.1 x hx)
  simp only[oy,hl,g1.2,g2.2,je g3.2,g4.2.1,sG,decide_true,h7,Bool.and_self]
 ·simp only[kb,if_neg h0]at h
  exact absurd h h0
theorem kI.fail {b:Bytes} {r r':Rd} {bad:Bool} {c:Nat} {s:Bytes} (h:kI b (ax r bad c) s r') (hc:c≠0):kI b r s r':=by
 have e:=(dF h.1 hc).1
 rw[e]at h
 exact h
theorem kI.len {b:Bytes} {r r':Rd} {s t:Bytes} {n m:Nat} (h:kI b r (s++(ey n++t)) r') (e:m=n):kI b r (s++(ey m++t)) r':=by
 rw[e]
 exact h
theorem uc {b:Bytes} {l:ao} {r:Rd} (hl:l.ok=true) (h:(bK b l r).2.er=0):eC l (bK b l r).1=true∧kI b r (sV (bK b l r).1) (bK b l r).2:=by
 simp only[bK]at h⊢
 have f7:=dF h (by omega)
 have h':=dG h
 rw[f7.1]
 have g6:=Ca hl h'
 have g5:=gS g6.2.1
 have g4:=gS g5.1.1
 have g3:=fD g4.1.1 (by omega)
 have f3:=dF g3.1.1 (by omega)
 have g2:=ef (dG g3.1.1)
 have g1:=ef g2.1.1
 have h2:dR ((aO b (aO b r).2).1:Int) 1 1152921504606846975=true:=by
  have a1:=eU g2.2
  have a2:=f3.2
  simp only[decide_eq_false_iff_not]at a2
  simp only[dR,decide_eq_true_eq]
  omega
 have h7:=f7.2
 rw[Bool.not_eq_false']at h7
 generalize e3:aM b (ax (aO b (aO b r).2).2 (decide ((aO b (aO b r).2).1=0)) 5) l.n 5=s3 at g3 g4 g5 g6 h7⊢
 have h6:=g1.1.join (g2.1.join ((g3.1.fail (by omega)).join (g4.1.join (g5.1.join g6.2))))
 refine⟨?_,by simp only[sV,List.append_assoc,Int.toNat_natCast];exact h6⟩
 have h3:dR (s3.1:Int) 0 (l.n - 1)=true:=by simp only[dR,decide_eq_true_eq];omega
 simp only[eC,g6.1,g1.2,h2,h3,je g4.2,je g5.2,h7,Bool.and_self]
theorem E9 {b:Bytes} {l:ao} {r:Rd} (hl:l.ok=true) (h:(cz b l r).2.er=0):jq l (cz b l r).1=true∧kI b r (BZ (cz b l r).1) (cz b l r).2:=by
 have hL:=dQ hl
 simp only[cz]at h⊢
 have f3:=dF h (by omega)
 have h':=dG h
 rw[f3.1]
 have g3:=oQ (b:=b) (f:=fun r=>bZ b r l.tx.toNat) (e:=Ba) (p:=fun x=>x.length≤l.tx.toNat) (fun r hr=>⟨(uC hr).2,(uC hr).1⟩) _ _ h'
 have g4:=rz _ _ h'
 have g2:=fD g3.2.1 (by omega)
 have g1:=uc hl g2.1.1
 have h5:=f3.2
 simp only[decide_eq_false_iff_not,Decidable.not_not]at h5
 generalize aM b (bK b l r).2 (l.txs+1) 3=s2 at g2 g3 g4 h5⊢
 generalize bm (fun r=>bZ b r l.tx.toNat) s2.1 s2.2=s3 at g3 g4 h5⊢
 have h6:=g1.2.join (g2.1.join g3.2)
 refine⟨?_,h6.len g4⟩
 have h4:Gz l s3.1=true:=by
  simp only[Gz,List.all_eq_true,decide_eq_true_eq]
  intro x hx
  have:=g3.1 x hx
  have:=hL.2.1
  omega
 simp only[jq,Bool.and_eq_true,decide_eq_true_eq]
 exact⟨⟨⟨g1.1,by rw[g4];omega⟩,h4⟩,h5⟩
theorem Az {b:Bytes} {l:ao} {view:Int}:∀(k:Nat) (bf:Int) (r:Rd),(eF b l view k bf r).2.er=0→(eF b l view k bf r).1.length=k∧x7 l view bf (eF b l view k bf r).1∧kI b r ((eF b l view k bf r).1.map Pb).flatten (eF b l view k bf r).2
 |0,bf,r,h=>⟨rfl,trivial,kI.nil h⟩
 |k+1,bf,r,h=>by
  by_cases h0:r.er=0
  ·simp only[kE h0]at h⊢
   have h1:=Az k _ _ h
   have g3:=gS h1.2.2.1
   have g2:=fD g3.1.1 (by omega)
   have f1:=dF g2.1.1 (by omega)
   have g1:=fD (dG g2.1.1) (by omega)
   have h2:=f1.2
   simp only[decide_eq_false_iff_not]at h2
   generalize aM b (ax (aM b r l.n 5).2 (decide (((aM b r l.n 5).1:Int)≤bf)) 6) view 6=s2 at g2 g3 h1⊢
   have b1:0≤((aM b r l.n 5).1:Int)∧((aM b r l.n 5).1:Int) < l.n∧bf < ((aM b r l.n 5).1:Int):=⟨by omega,g1.2.2,by omega⟩
   have b2:0≤(s2.1:Int)∧(s2.1:Int) < view:=⟨by omega,g2.2.2⟩
   refine⟨by simp only[List.length_cons,h1.1],⟨⟨b1,b2,g3.2⟩,h1.2.1⟩,?_⟩
   simp only[List.map_cons,List.flatten_cons]
   exact kI.join (g1.1.join ((g2.1.fail (by omega)).join g3.1)) h1.2.2
  ·rw[pf h0]at h
   exact absurd h h0
theorem oY {l:ao} {view:Int}:∀(es:List Entry) (bf:Int),x7 l view bf es→∀(i:Nat) (e:Entry),es[i]? =some e→(0≤e.who∧e.who < l.n)∧(0≤e.high∧e.high < view)∧e.tag.length=32∧(i=0∧bf < e.who∨0 < i∧∃d,es[i - 1]? =some d∧d.who < e.who)
 | [],_,_,i,e,h=>by simp at h
 |x::es,bf,⟨⟨h1,h2,h3⟩,hr⟩,0,e,h=>by
  simp only[List.getElem?_cons_zero,Option.some.injEq]at h
  subst h
  exact⟨⟨h1.1,h1.2.1⟩,h2,h3, .inl ⟨rfl,h1.2.2⟩⟩
 |x::es,bf,⟨⟨h1,h2,h3⟩,hr⟩,i+1,e,h=>by
  rw[List.getElem?_cons_succ]at h
  obtain⟨a1,a2,a3,a4⟩:=oY es x.who hr i e h
  refine⟨a1,a2,a3, .inr ⟨by omega,?_⟩⟩
  rcases a4 with⟨rfl,a4⟩|⟨a5,d,a6,a7⟩
  ·exact⟨x,rfl,a4⟩
  ·refine⟨d,?_,a7⟩
   obtain⟨j,rfl⟩:∃j,i=j+1:=⟨i - 1,by omega⟩
   simpa using a6
theorem LG {b:Bytes} {l:ao} {r:Rd} (hl:l.ok=true) (h:(uX b l r).2.er=0):C4 l (uX b l r).1=true∧kI b r (PD (uX b l r).1) (uX b l r).2:=by
 simp only[uX]at h⊢
 have g3:=Az _ _ _ h
 have g2:=fD g3.2.2.1 (by omega)
 have g1:=ef g2.1.1
 have h6:=g1.1.join (g2.1.join g3.2.2)
 refine⟨?_,h6.len g3.1⟩
 simp only[C4,hl,g1.2,Bool.and_eq_true,decide_eq_true_eq,List.all_eq_true,List.mem_range]
 refine⟨⟨⟨trivial,trivial⟩,by rw[g3.1];omega⟩,fun i hi=> ?_⟩
 have hg:=List.getElem?_eq_getElem hi
 obtain⟨a1,a2,a3,a4⟩:=oY _ _ g3.2.1 i _ hg
 have b1:∀n hi:Int,0≤n→n < hi→dR n 0 (hi - 1)=true:=fun n hi h1 h2=>by simp only[dR,decide_eq_true_eq];omega
 simp only[Gt,hg,b1 _ _ a1.1 a1.2,b1 _ _ a2.1 a2.2,je a3,Bool.true_and,Bool.or_eq_true,decide_eq_true_eq]
 rcases a4 with⟨a4,_⟩|⟨_,d,a5,a6⟩
 ·exact .inl a4
 ·exact .inr (by rw[a5];simpa using a6)
theorem FF {b:Bytes} {l:ao} {r:Rd} (hl:l.ok=true) (h:(b7 b l r).2.er=0):jd l (b7 b l r).1=true∧kI b r (BU (b7 b l r).1) (b7 b l r).2:=by
 simp only[b7]at h⊢
 have f3:=dF h (by omega)
 have h':=dG h
 rw[f3.1]
 have g3:=Ca hl h'
 have g2:=oQ (b:=b) (f:=bK b l) (e:=sV) (p:=fun x=>eC l x=true) (fun r hr=>uc hl hr) _ _ g3.2.1
 have g4:=rz _ _ g3.2.1
 have f2:=dF g2.2.1 (by omega)
 have f1:=dF (dG g2.2.1) (by omega)
 have g1:=ef (dG (dG g2.2.1))
 have a3:=f3.2
 rw[Bool.not_eq_false']at a3
 have a1:=f1.2
 have a2:=f2.2
 simp only[decide_eq_false_iff_not]at a1 a2
 generalize bm (bK b l) (aO b r).1 (ax (ax (aO b r).2 (decide ((aO b r).1 < 3)) 5) (decide (l.heads < ((aO b r).1:Int))) 3)=s2 at g2 g3 g4 a3⊢
 have h6:=kI.join (s:= []) (kI.nil g1.1.1) (g1.1.join (((g2.2.fail (by omega)).fail (by omega)).join g3.2))
 refine⟨?_,h6.len g4⟩
 simp only[jd,Bool.and_eq_true,BK,List.all_eq_true]
 exact⟨⟨⟨by rw[g4];simp only[dR,decide_eq_true_eq];omega,g2.1⟩,g3.1⟩,a3⟩
theorem EP {b:Bytes} {l:ao} {r:Rd} (h:(bu b l r).2.er=0):(isNum ((bu b l r).1.1:Int)=true∧(1≤(bu b l r).1.2.1∧((bu b l r).1.2.1:Int)≤l.txs)∧(bu b l r).1.2.2.1 < (bu b l r).1.2.1∧(bu b l r).1.2.2.2.length≤l.tx.toNat)∧kI b r (ey (bu b l r).1.1++(ey (bu b l r).1.2.1++(ey (bu b l r).1.2.2.1++Ba (bu b l r).1.2.2.2))) (bu b l r).2:=by
 simp only[bu]at h⊢
 have g4:=uC h
 have g3:=fD g4.1.1 (by omega)
 have f2:=dF g3.1.1 (by omega)
 have f1:=dF (dG g3.1.1) (by omega)
 have g2:=ef (dG (dG g3.1.1))
 have g1:=ef g2.1.1
 have a1:=f1.2
 have a2:=f2.2
 simp only[decide_eq_false_iff_not]at a1 a2
 have a3:=g3.2.2
 exact⟨⟨g1.2,by omega,by omega,g4.2⟩,g1.1.join (g2.1.join (((g3.1.fail (by omega)).fail (by omega)).join g4.1))⟩
theorem HK {b:Bytes} {l:ao} {r:Rd} (hl:l.ok=true) (h:(eu b l r).2.er=0):nJ l (eu b l r).1=true∧kI b r (GF (eu b l r).1) (eu b l r).2:=by
 have hL:=dQ hl
 have hL1:=hL.2.1
 by_cases h0:(bu b l r).2.er=0
 ·simp only[eu,if_pos h0]at h⊢
  obtain⟨⟨b1,b2,b3,b4⟩,b5⟩:=EP h0
  have g5:=DI h
  have gl:=sG (f:=fun r=>ba b r 32) (bG (bu b l r).1.2.2.1 (bu b l r).1.2.1) (bu b l r).2
  generalize eA (fun r=>ba b r 32) (bG (bu b l r).1.2.2.1 (bu b l r).1.2.1) (bu b l r).2=s5 at g5 gl⊢
  generalize bu b l r=s0 at *
  have h6:=b5.join g5.2
  simp only[List.append_assoc]at h6
  refine⟨?_,h6⟩
  have c1:dR (s0.1.2.1:Int) 1 l.txs=true:=by simp only[dR,decide_eq_true_eq];omega
  have c2:dR (s0.1.2.2.1:Int) 0 ((s0.1.2.1:Int) - 1)=true:=by simp only[dR,decide_eq_true_eq];omega
  simp only[nJ,hl,b1,c1,c2,Bool.true_and,Bool.and_eq_true,decide_eq_true_eq,hashes,List.all_eq_true,Int.toNat_natCast]
  exact⟨⟨by omega,gl⟩,fun x hx=>je (g5.1 x hx)⟩
 ·simp only[eu,if_neg h0]at h
  exact absurd h h0
end Go.Eng.F
namespace Go.Eng.F
theorem BG {a b:c4}:xC a b=true↔a=b:=by
 obtain⟨_,_,_,_,_⟩:=a
 obtain⟨_,_,_,_,_⟩:=b
 simp[xC,and_assoc]
theorem rE {a b:Qc}:yB a b=true↔a=b:=by
 obtain⟨_,_,_,_,_⟩:=a
 obtain⟨_,_,_,_,_⟩:=b
 simp[yB,and_assoc]
theorem kx {a b:Head}:ng a b=true↔a=b:=by
 obtain⟨_,_,_,_,_,_⟩:=a
 obtain⟨_,_,_,_,_,_⟩:=b
 simp[ng,and_assoc,rE]
theorem zQ {a b:Block}:uO a b=true↔a=b:=by
 obtain⟨_,_⟩:=a
 obtain⟨_,_⟩:=b
 simp[uO,kx]
theorem BJ {a b:cq}:x3 a b=true↔a=b:=by
 obtain⟨_,_,_,_,_⟩:=a
 obtain⟨_,_,_,_,_⟩:=b
 simp[x3,and_assoc]
theorem Ez {a b:Entry}:CK a b=true↔a=b:=by
 obtain⟨_,_,_⟩:=a
 obtain⟨_,_,_⟩:=b
 simp[CK,and_assoc]
theorem vf {α:Type} {f:α→α→Bool} (hf:∀x y,f x y=true↔x=y) {a b:List α}:wM f a b=true↔a=b:=by
 simp only[wM,Bool.and_eq_true,decide_eq_true_eq,List.all_eq_true,List.mem_range]
 constructor
 ·rintro⟨h1,h2⟩
  refine List.ext_getElem h1 fun i hi hj=> ?_
  have:=h2 i hj
  rw[List.getElem?_eq_getElem hi,List.getElem?_eq_getElem hj]at this
  exact(hf _ _).1 this
 ·rintro rfl
  refine⟨rfl,fun i hi=> ?_⟩
  rw[List.getElem?_eq_getElem hi]
  exact(hf _ _).2 rfl
theorem zG {a b:Proof}:u6 a b=true↔a=b:=by
 obtain⟨_,_⟩:=a
 obtain⟨_,_⟩:=b
 simp[u6,AX,rE,vf (fun x y=> @kx x y)]
theorem Fj {a b:Tc}:E6 a b=true↔a=b:=by
 obtain⟨_,_⟩:=a
 obtain⟨_,_⟩:=b
 simp[E6,vf (fun x y=> @Ez x y)]
theorem dU {a b:cm}:Bb a b=true↔a=b:=by
 obtain⟨_,_,_,_,_,_,_,_⟩:=a
 obtain⟨_,_,_,_,_,_,_,_⟩:=b
 simp[Bb,and_assoc,BG,rE,kx,zQ,Fj,zG,BJ]
theorem yV {l:ao} {m:cm} (h:eV l m=true):m=gX m:=by
 simp only[eV,Bool.and_eq_true]at h
 exact dU.1 h.2
theorem Fl {l:ao} {x:Head} (h:eC l x=true):l.ok=true:=DK (uq h).2.2.2.2.2.2.2.1
theorem Kj {l:ao} {v:c4} (h:Ck l v=true):l.ok=true:=by
 simp only[Ck,Bool.and_eq_true]at h
 exact h.1.1.1.1.1
theorem iX {b:Bytes} {m:cm} {r:Rd} (h:(cH b m r).2=0):r.er=0∧r.at_=b.length∧cH b m r=(m,0):=by
 unfold cH at h⊢
 split at h
 ·rename_i h1;exact absurd h h1
 ·rename_i h1
  rw[if_neg h1]
  split at h
  ·simp at h
  ·rename_i h2
   rw[if_neg h2]
   exact⟨Decidable.not_not.1 h1,Decidable.not_not.1 h2,rfl⟩
theorem kB {b:Bytes} {m:cm} {r:Rd} (h:r.er≤9):(cH b m r).2≤9:=by
 unfold cH
 split
 ·exact h
 ·split <;>simp
theorem kI.rest {c:UInt8} {t s:Bytes} {r':Rd} (h:kI (c::t) ⟨1,0⟩ s r') (ha:r'.at_=(c::t).length):t=s:=by
 obtain⟨_,⟨u,hu⟩,h2⟩:=h
 rw[h2]at ha
 simp only[List.length_cons]at ha
 simp only[List.drop_succ_cons,List.drop_zero]at hu
 have hl:=congrArg List.length hu
 rw[List.length_append]at hl
 have:u= []:=List.eq_nil_of_length_eq_zero (by omega)
 rw[this,List.append_nil]at hu
 exact hu
theorem iV {k:Nat} (hk:k < 256) {m:cm} (h:m.kind=(k:Int)):(gh m).toNat=k:=by
 rw[gh,h]
 exact Nm hk
theorem Bm {l:ao} {m:cm} (h:m.kind=1):dH l m=Ck l m.vote∧eK m=PE m.vote∧gX m= {az with kind:=1,vote:=m.vote}∧(gh m).toNat=1:=by
 refine⟨by simp[dH,h],by simp[eK,h],by simp[gX,h],iV (k:=1) (by omega) h⟩
theorem BX {l:ao} {m:cm} (h:m.kind=2):dH l m=oy l m.qc∧eK m=M5 m.qc∧gX m= {az with kind:=2,qc:=m.qc}∧(gh m).toNat=2:=by
 refine⟨by simp[dH,h],by simp[eK,h],by simp[gX,h],iV (k:=2) (by omega) h⟩
theorem Bk {l:ao} {m:cm} (h:m.kind=3):dH l m=eC l m.head∧eK m=sV m.head∧gX m= {az with kind:=3,head:=m.head}∧(gh m).toNat=3:=by
 refine⟨by simp[dH,h],by simp[eK,h],by simp[gX,h],iV (k:=3) (by omega) h⟩
theorem Cj {l:ao} {m:cm} (h:m.kind=4):dH l m=jq l m.block∧eK m=BZ m.block∧gX m= {az with kind:=4,block:=m.block}∧(gh m).toNat=4:=by
 refine⟨by simp[dH,h],by simp[eK,h],by simp[gX,h],iV (k:=4) (by omega) h⟩
theorem Cs {l:ao} {m:cm} (h:m.kind=5):dH l m=C4 l m.tc∧eK m=PD m.tc∧gX m= {az with kind:=5,tc:=m.tc}∧(gh m).toNat=5:=by
 refine⟨by simp[dH,h],by simp[eK,h],by simp[gX,h],iV (k:=5) (by omega) h⟩
theorem Be {l:ao} {m:cm} (h:m.kind=6):dH l m=jd l m.proof∧eK m=BU m.proof∧gX m= {az with kind:=6,proof:=m.proof}∧(gh m).toNat=6:=by
 refine⟨by simp[dH,h],by simp[eK,h],by simp[gX,h],iV (k:=6) (by omega) h⟩
theorem CM {l:ao} {m:cm} (h:m.kind=7):dH l m=nJ l m.incl∧eK m=GF m.incl∧gX m= {az with kind:=7,incl:=m.incl}∧(gh m).toNat=7:=by
 refine⟨by simp[dH,h],by simp[eK,h],by simp[gX,h],iV (k:=7) (by omega) h⟩
theorem Qf {l:ao} {x:c4} (h:Ck l x=true):eV l {az with kind:=1,vote:=x}=true∧gh {az with kind:=1,vote:=x}=UInt8.ofNat 1∧eK {az with kind:=1,vote:=x}=PE x:=by
 obtain⟨p1,p2,p3,p4⟩:=Bm (l:=l) (m:= {az with kind:=1,vote:=x}) rfl
 exact⟨by simp only[eV,p1,h,Bool.true_and,p3];exact dU.2 rfl,rfl,p2⟩
theorem Qj {l:ao} {x:Qc} (h:oy l x=true):eV l {az with kind:=2,qc:=x}=true∧gh {az with kind:=2,qc:=x}=UInt8.ofNat 2∧eK {az with kind:=2,qc:=x}=M5 x:=by
 obtain⟨p1,p2,p3,p4⟩:=BX (l:=l) (m:= {az with kind:=2,qc:=x}) rfl
 exact⟨by simp only[eV,p1,h,Bool.true_and,p3];exact dU.2 rfl,rfl,p2⟩
theorem Qn {l:ao} {x:Head} (h:eC l x=true):eV l {az with kind:=3,head:=x}=true∧gh {az with kind:=3,head:=x}=UInt8.ofNat 3∧eK {az with kind:=3,head:=x}=sV x:=by
 obtain⟨p1,p2,p3,p4⟩:=Bk (l:=l) (m:= {az with kind:=3,head:=x}) rfl
 exact⟨by simp only[eV,p1,h,Bool.true_and,p3];exact dU.2 rfl,rfl,p2⟩
theorem PH {l:ao} {x:Block} (h:jq l x=true):eV l {az with kind:=4,block:=x}=true∧gh {az with kind:=4,block:=x}=UInt8.ofNat 4∧eK {az with kind:=4,block:=x}=BZ x:=by
 obtain⟨p1,p2,p3,p4⟩:=Cj (l:=l) (m:= {az with kind:=4,block:=x}) rfl
 exact⟨by simp only[eV,p1,h,Bool.true_and,p3];exact dU.2 rfl,rfl,p2⟩
theorem Qm {l:ao} {x:Tc} (h:C4 l x=true):eV l {az with kind:=5,tc:=x}=true∧gh {az with kind:=5,tc:=x}=UInt8.ofNat 5∧eK {az with kind:=5,tc:=x}=PD x:=by
 obtain⟨p1,p2,p3,p4⟩:=Cs (l:=l) (m:= {az with kind:=5,tc:=x}) rfl
 exact⟨by simp only[eV,p1,h,Bool.true_and,p3];exact dU.2 rfl,rfl,p2⟩
theorem Qk {l:ao} {x:Proof} (h:jd l x=true):eV l {az with kind:=6,proof:=x}=true∧gh {az with kind:=6,proof:=x}=UInt8.ofNat 6∧eK {az with kind:=6,proof:=x}=BU x:=by
 obtain⟨p1,p2,p3,p4⟩:=Be (l:=l) (m:= {az with kind:=6,proof:=x}) rfl
 exact⟨by simp only[eV,p1,h,Bool.true_and,p3];exact dU.2 rfl,rfl,p2⟩
theorem PM {l:ao} {x:cq} (h:nJ l x=true):eV l {az with kind:=7,incl:=x}=true∧gh {az with kind:=7,incl:=x}=UInt8.ofNat 7∧eK {az with kind:=7,incl:=x}=GF x:=by
 obtain⟨p1,p2,p3,p4⟩:=CM (l:=l) (m:= {az with kind:=7,incl:=x}) rfl
 exact⟨by simp only[eV,p1,h,Bool.true_and,p3];exact dU.2 rfl,rfl,p2⟩
theorem FL {l:ao} {m:cm} (h:dH l m=true):l.ok=true:=by
 rcases mG h with e|e|e|e|e|e|e
 ·rw[(Bm (l:=l) e).1]at h;exact Kj h
 ·rw[(BX (l:=l) e).1]at h;exact DK h
 ·rw[(Bk (l:=l) e).1]at h;exact Fl h
 ·rw[(Cj (l:=l) e).1]at h;exact(rD h).2.1
 ·rw[(Cs (l:=l) e).1]at h;exact(CF h).1
 ·rw[(Be (l:=l) e).1]at h;exact(rJ h).1
 ·rw[(CM (l:=l) e).1]at h;exact(uP h).1
theorem Ik {l:ao} {c:UInt8} {t:Bytes} (hl:l.ok=true) (h:(gH l (c::t) c.toNat).2=0):∃m,gH l (c::t) c.toNat=(m,0)∧eV l m=true∧gh m::eK m=c::t:=by
 have hc:c.toNat < 256:=c.toNat_lt
 have ec:UInt8.ofNat c.toNat=c:=by simp
 have hk:c.toNat=1∨c.toNat=2∨c.toNat=3∨c.toNat=4∨c.toNat=5∨c.toNat=6∨c.toNat=7:=by
  apply Decidable.byContradiction
  intro hn
  rw[wN (by omega)]at h
  simp at h
 generalize hk0:c.toNat=k at h hk ec⊢
 rcases hk with rfl|rfl|rfl|rfl|rfl|rfl|rfl
 ·simp only[gH]at h⊢
  obtain⟨g1,g2,g3⟩:=iX h
  obtain⟨g4,g5⟩:=G6 hl g1
  obtain⟨p1,p2,p3⟩:=Qf g4
  exact⟨_,g3,p1,by rw[p2,p3,←g5.rest g2,ec]⟩
 ·simp only[gH]at h⊢
  obtain⟨g1,g2,g3⟩:=iX h
  obtain⟨g4,g5⟩:=Ca hl g1
  obtain⟨p1,p2,p3⟩:=Qj g4
  exact⟨_,g3,p1,by rw[p2,p3,←g5.rest g2,ec]⟩
 ·simp only[gH]at h⊢
  obtain⟨g1,g2,g3⟩:=iX h
  obtain⟨g4,g5⟩:=uc hl g1
  obtain⟨p1,p2,p3⟩:=Qn g4
  exact⟨_,g3,p1,by rw[p2,p3,←g5.rest g2,ec]⟩
 ·simp only[gH]at h⊢
  obtain⟨g1,g2,g3⟩:=iX h
  obtain⟨g4,g5⟩:=E9 hl g1
  obtain⟨p1,p2,p3⟩:=PH g4
  exact⟨_,g3,p1,by rw[p2,p3,←g5.rest g2,ec]⟩
 ·simp only[gH]at h⊢
  obtain⟨g1,g2,g3⟩:=iX h
  obtain⟨g4,g5⟩:=LG hl g1
  obtain⟨p1,p2,p3⟩:=Qm g4
  exact⟨_,g3,p1,by rw[p2,p3,←g5.rest g2,ec]⟩
 ·simp only[gH]at h⊢
  obtain⟨g1,g2,g3⟩:=iX h
  obtain⟨g4,g5⟩:=FF hl g1
  obtain⟨p1,p2,p3⟩:=Qk g4
  exact⟨_,g3,p1,by rw[p2,p3,←g5.rest g2,ec]⟩
 ·simp only[gH]at h⊢
  obtain⟨g1,g2,g3⟩:=iX h
  obtain⟨g4,g5⟩:=HK hl g1
  obtain⟨p1,p2,p3⟩:=PM g4
  exact⟨_,g3,p1,by rw[p2,p3,←g5.rest g2,ec]⟩
theorem K8 {l:ao} {b:Bytes} (h:(dec l b).2=0):∃m,dec l b=(m,0)∧eV l m=true∧gh m::eK m=b:=by
 by_cases hl:l.ok=true
 ·cases b with
  |nil=>rw[oS hl (by simp)]at h;simp at h
  |cons c t=>
   have e:=Dk (b:=c::t) hl (by simp)
   rw[e]at h⊢
   exact Ik hl h
 ·rw[wP hl]at h
  simp at h
theorem ID {b:Bytes} {l:ao} {r:Rd} (h:r.wf b):(eG b l r).2.er≤9:=by
 have h5:=(bU (cP (n:=l.n) (c:=5) (bU (aT (aT h).1).1 32).1 (by omega)).1 32).1.2
 exact h5
theorem N7 {b:Bytes} {l:ao} {r:Rd} (h:r.wf b):(kb b l r).2.er≤9:=(iP h).1.2
theorem H0 {b:Bytes} {l:ao} {r:Rd} (h:r.wf b):(bK b l r).2.er≤9:=(fY h).1.2
theorem HG {b:Bytes} {l:ao} {r:Rd} (h:r.wf b):(cz b l r).2.er≤9:=by
 have h2:=(cP (n:=l.txs+1) (c:=3) (fY (l:=l) h).1 (by omega)).1
 simp only[cz]
 exact(aX (yi (f:=fun r=>bZ b r l.tx.toNat) (fun r hr=>(fi hr _).1) _ _ h2) (by omega)).2
theorem Ea {b:Bytes} {l:ao} {view:Int}:∀(k:Nat) (bf:Int) (r:Rd),r.wf b→(eF b l view k bf r).2.wf b
 |0,bf,r,h=>h
 |k+1,bf,r,h=>by
  by_cases h0:r.er=0
  ·rw[kE h0]
   exact Ea k _ _ (bU (cP (aX (cP h (by omega)).1 (by omega)) (by omega)).1 32).1
  ·rw[pf h0]
   exact h
theorem NI {b:Bytes} {l:ao} {r:Rd} (h:r.wf b):(uX b l r).2.er≤9:=by
 simp only[uX]
 exact(Ea _ _ _ (cP (n:=l.n+1) (c:=3) (aT h).1 (by omega)).1).2
theorem HE {b:Bytes} {l:ao} {r:Rd} (h:r.wf b):(b7 b l r).2.er≤9:=by
 have h2:(ax (ax (aO b r).2 (decide ((aO b r).1 < 3)) 5) (decide (l.heads < ((aO b r).1:Int))) 3).wf b:=aX (aX (aT h).1 (by omega)) (by omega)
 simp only[b7]
 exact(aX (iP (yi (f:=bK b l) (fun r hr=>(fY hr).1) _ _ h2)).1 (by omega)).2
theorem Ip {b:Bytes} {l:ao} {r:Rd} (h:r.wf b):(eu b l r).2.er≤9:=by
 have h2:(bu b l r).2.wf b:=by
  simp only[bu]
  exact(fi (cP (aX (aX (aT (aT h).1).1 (by omega)) (by omega)) (by omega)).1 _).1
 simp only[eu]
 split
 ·exact(BF (fun r hr=>(bU hr 32).1) _ _ h2).2
 ·exact h2.2
theorem NH (l:ao) (b:Bytes):(dec l b).2≤9:=by
 by_cases hl:l.ok=true
 ·by_cases hb:0 < b.length
  ·rw[Dk hl hb]
   by_cases hk:b[0].toNat=0∨8≤b[0].toNat
   ·rw[wN hk]
    simp
   ·have hL:=dQ hl
    have w:Rd.wf b ⟨1,0⟩:=⟨by simp only;omega,by simp⟩
    have hk2:b[0].toNat=1∨b[0].toNat=2∨b[0].toNat=3∨b[0].toNat=4∨b[0].toNat=5∨b[0].toNat=6∨b[0].toNat=7:=by omega
    generalize b[0].toNat=k at hk2⊢
    rcases hk2 with rfl|rfl|rfl|rfl|rfl|rfl|rfl
    ·exact kB (ID (l:=l) w)
    ·exact kB (N7 (l:=l) w)
    ·exact kB (H0 (l:=l) w)
    ·exact kB (HG (l:=l) w)
    ·exact kB (NI (l:=l) w)
    ·exact kB (HE (l:=l) w)
    ·exact kB (Ip (l:=l) w)
  ·rw[oS hl hb]
   simp
 ·rw[wP hl]
  simp
end Go.Eng.F
namespace Go.Eng.F
end Go.Eng.F
namespace Go.Eng.F
end Go.Eng.F
namespace Go.Eng.F
theorem Fc (s:Bytes) (a n:Nat):dA s a n=dA (s.drop a) 0 n:=by
 simp only[dA,List.drop_drop,Nat.zero_add]
theorem BA (l:ao) (s:Bytes) (a:Nat):aw l s a=aw l (s.drop a) 0:=by
 have e1:∀i,(s.drop a).getD i 0=s.getD (a+i) 0:=fun i=>by simp only[List.getD_eq_getElem?_getD,List.getElem?_drop]
 have e2:rL (s.drop a) 0=rL s a:=by simp only[rL,List.drop_drop,Nat.zero_add]
 have e3:F2 (s.drop a) 0=F2 s a:=by simp only[F2,List.drop_drop,Nat.zero_add]
 have e4:CS (s.drop a) 0=CS s a:=by simp only[CS,List.drop_drop,Nat.zero_add,e2]
 have c1:(0 < (s.drop a).length)=(a < s.length):=propext (by rw[List.length_drop];omega)
 have c2:(1 < (s.drop a).length)=(a+1 < s.length):=propext (by rw[List.length_drop];omega)
 have c3:(s.drop a).length - 0=s.length - a:=by rw[List.length_drop];omega
 simp only[aw,c1,c2,c3,e1,e2,e3,e4,Nat.add_zero,Nat.zero_add]
def fR (l:ao) (cl:Bool):Nat→Bytes→Nat→List Ev×Nat×Bytes
 |0,u,k=>([],k,u)
 |g+1,u,k=>
  if u= []then([],k,[])
  else if(aw l u 0).1=1∧cl=false then([],k,u)
  else if(aw l u 0).1≠3 then fR l cl g (u.drop 1) (k+1)
  else((db k++ [kN l (dA u 0 (aw l u 0).2.toNat)])++(fR l cl g (u.drop (aw l u 0).2.toNat) 0).1,(fR l cl g (u.drop (aw l u 0).2.toNat) 0).2)
theorem eN (l:ao) (cl:Bool) (g k:Nat):fR l cl g [] k=([],k,[]):=by
 cases g
 ·rfl
 ·rw[fR,if_pos rfl]
theorem Bq {l:ao} {s:Bytes} {cl:Bool}:∀(g a k:Nat) (e:List Ev),a≤s.length→dB l s cl g a k e=(e++(fR l cl g (s.drop a) k).1,(fR l cl g (s.drop a) k).2.1,s.length - (fR l cl g (s.drop a) k).2.2.length)
 |0,a,k,e,h=>by simp[dB,fR];omega
 |g+1,a,k,e,h=>by
  by_cases h0:a < s.length
  ·have hu:s.drop a≠ []:=fun x=>by have:=congrArg List.length x;simp at this;omega
   rw[dB,if_pos h0,fR,if_neg hu,←BA,←Fc]
   by_cases h1:(aw l s a).1=1∧cl=false
   ·rw[if_pos h1,if_pos h1]
    simp;omega
   ·rw[if_neg h1,if_neg h1]
    by_cases h2:(aw l s a).1≠3
    ·rw[if_pos h2,if_pos h2,Bq g (a+1) (k+1) e (by omega),List.drop_drop]
    ·rw[if_neg h2,if_neg h2]
     obtain⟨n,hn,h9,hl,_⟩:=ga (Decidable.not_not.1 h2)
     have e1:(aw l s a).2.toNat=n:=by rw[hn];rfl
     rw[e1,Bq g (a+n) 0 _ (by omega),List.drop_drop]
     simp only[List.append_assoc]
  ·have hu:s.drop a= []:=List.drop_eq_nil_of_le (by omega)
   rw[dB,if_neg h0,hu,eN]
   simp
   omega
theorem yX {l:ao} {u:Bytes} (h:¬(aw l u 0).1≠3):∃n:Nat,aw l u 0=(3,(n:Int))∧(aw l u 0).2.toNat=n∧9≤n∧n≤u.length:=by
 obtain⟨n,hn,h9,hl,_⟩:=ga (Decidable.not_not.1 h)
 exact⟨n,hn,by rw[hn];rfl,h9,by omega⟩
theorem kT (l:ao) (cl:Bool):∀(n g g':Nat) (u:Bytes) (k:Nat),u.length≤n→u.length≤g→u.length≤g'→fR l cl g u k=fR l cl g' u k
 |n,0,g',u,k,_,h,_=>by
  have:u= []:=List.eq_nil_of_length_eq_zero (by omega)
  rw[this,eN,eN]
 |n,g+1,0,u,k,_,_,h=>by
  have:u= []:=List.eq_nil_of_length_eq_zero (by omega)
  rw[this,eN,eN]
 |0,g+1,g'+1,u,k,h,_,_=>by
  have:u= []:=List.eq_nil_of_length_eq_zero (by omega)
  rw[this,eN,eN]
 |n+1,g+1,g'+1,u,k,h,h1,h2=>by
  by_cases hu:u= []
  ·rw[hu,eN,eN]
  have hp:=List.length_pos_iff.2 hu
  rw[fR,fR,if_neg hu,if_neg hu]
  have e1:=kT l cl n g g' (u.drop 1) (k+1) (by rw[List.length_drop];omega) (by rw[List.length_drop];omega) (by rw[List.length_drop];omega)
  rw[e1]
  by_cases h3:(aw l u 0).1≠3
  ·simp only[if_pos h3]
  ·obtain⟨m,_,hm,h9,hl⟩:=yX h3
   have e2:=kT l cl n g g' (u.drop m) 0 (by rw[List.length_drop];omega) (by rw[List.length_drop];omega) (by rw[List.length_drop];omega)
   rw[hm,e2]
def scan (l:ao) (cl:Bool) (u:Bytes) (k:Nat):List Ev×Nat×Bytes:=fR l cl u.length u k
theorem su (l:ao) (cl:Bool) (k:Nat):scan l cl [] k=([],k,[]):=rfl
theorem AM {l:ao} {u:Bytes} {k:Nat} (hu:u≠ []) (h:(aw l u 0).1=1):scan l false u k=([],k,u):=by
 have hp:=List.length_pos_iff.2 hu
 obtain⟨g,hg⟩:∃g,u.length=g+1:=⟨u.length - 1,by omega⟩
 rw[scan,hg,fR,if_neg hu,if_pos ⟨h,rfl⟩]
theorem A3 {l:ao} {cl:Bool} {u:Bytes} {k:Nat} (hu:u≠ []) (h:¬((aw l u 0).1=1∧cl=false)) (h2:(aw l u 0).1≠3):scan l cl u k=scan l cl (u.drop 1) (k+1):=by
 have hp:=List.length_pos_iff.2 hu
 obtain⟨g,hg⟩:∃g,u.length=g+1:=⟨u.length - 1,by omega⟩
 rw[scan,hg,fR,if_neg hu,if_neg h,if_pos h2,scan]
 exact kT l cl g _ _ _ _ (by rw[List.length_drop];omega) (by rw[List.length_drop];omega) (Nat.le_refl _)
theorem Ak {l:ao} {cl:Bool} {u:Bytes} {k n:Nat} (h:aw l u 0=(3,(n:Int))) (hn:9≤n) (hl:n≤u.length):scan l cl u k=((db k++ [kN l (dA u 0 n)])++(scan l cl (u.drop n) 0).1,(scan l cl (u.drop n) 0).2):=by
 have hu:u≠ []:=by rintro rfl;simp at hl;omega
 obtain⟨g,hg⟩:∃g,u.length=g+1:=⟨u.length - 1,by omega⟩
 have e:fR l cl g (u.drop n) 0=scan l cl (u.drop n) 0:=kT l cl g _ _ _ _ (by rw[List.length_drop];omega) (by rw[List.length_drop];omega) (Nat.le_refl _)
 have e1:(aw l u 0).2.toNat=n:=by rw[h];rfl
 rw[scan,hg,fR,if_neg hu,if_neg (by rw[h];simp),if_neg (by rw[h];simp),e1,e]
theorem yd (l:ao) (s:Bytes) (cl:Bool) (k:Nat):dI l s cl k=((scan l cl s k).1++(if cl=true then db (scan l cl s k).2.1 else []),(scan l cl s k).2.1,s.length - (scan l cl s k).2.2.length):=by
 simp only[dI,Bq s.length 0 k [] (Nat.zero_le _),List.drop_zero,List.nil_append]
 rfl
end Go.Eng.F
namespace Go.Eng.F
end Go.Eng.F
namespace Go.Eng.F
end Go.Eng.F
namespace Go.Eng.F
theorem ji (l:List Ev):wid 47 (iz l)=true:=by
 induction l with
 |nil=>rfl
 |cons x l ih=>
  have:iz (x::l)=x.c::iz l:=rfl
  rw[this,wid,ih]
  rfl
end Go.Eng.F
namespace Go.Eng.F
theorem Na.wf {v:c4} (s:Na v):v.wf:=by
 have h1:=s.block
 have h2:=s.tag
 exact⟨fF s.view,fF s.height,by unfold Sz;omega,fF s.who,by unfold Sz;omega⟩
theorem oO {l:ao} {h:Head} (w:eC l h=true):h.wc:=by
 obtain⟨w1,w2,w3,w4,w5,w6,w7,w8,w9⟩:=uq w
 have q:=(wO w8).wc
 exact⟨⟨fF w1,fF w2,fF w3,by unfold Sz;omega,by unfold Sz;omega,q.1⟩,q.2⟩
theorem FR {l:ao} {x:Block} (h:jq l x=true):x.wx:=by
 obtain⟨w1,w2,w3,w4,w5⟩:=rD h
 have hL:=dQ w2
 have h1:=hL.2.1
 have h2:=hL.2.2.1
 exact⟨⟨oO w1,⟨by unfold Sz;omega,fun y hy=>by have:=w4 y hy;unfold Sz;omega⟩⟩,fun t ht=>by have:=w4 t ht;omega⟩
theorem Me {l:ao} {t:Tc} (h:C4 l t=true):t.wf:=by
 obtain⟨w1,w2,w3,w4⟩:=CF h
 have hL:=dQ w1
 have h1:=hL.1
 refine⟨fF w2,by unfold Sz;omega,fun r hr=> ?_⟩
 obtain⟨i,hi,rfl⟩:=List.getElem_of_mem hr
 obtain⟨a1,a2,a3,_⟩:=oY _ _ w4 i _ (List.getElem?_eq_getElem hi)
 have hv:=eU w2
 exact⟨⟨by omega,by omega⟩,⟨by omega,by omega⟩,by unfold Sz;omega⟩
theorem FH {l:ao} {p:Proof} (h:jd l p=true):p.wc:=by
 obtain⟨w1,w2,w3,w4,w5⟩:=rJ h
 have hL:=dQ w1
 have h1:=hL.2.2.2
 have q:=(wO w4).wc
 exact⟨⟨⟨by unfold Sz;omega,fun x hx=>(oO (w3 x hx)).1⟩,q.1⟩,fun x hx=>oO (w3 x hx),q⟩
theorem Au {l:ao} {x:cq} (h:nJ l x=true):x.wc∧x.tx.length≤100000000:=by
 obtain⟨w1,w2,w3,w4,w5,w6,w7⟩:=uP h
 have hL:=dQ w1
 have h1:=hL.2.1
 have h2:=hL.2.2.1
 have h6:=dz x.n.toNat x.idx.toNat
 exact⟨⟨fF w2,⟨by omega,by omega⟩,⟨by omega,by omega⟩,by unfold Sz;omega,⟨by unfold Sz;omega,fun y hy=>by have:=w7 y hy;unfold Sz;omega⟩⟩,by omega⟩
theorem IH {l:ao} {m:cm} (h:eV l m=true):m.wc:=by
 have hp:=yA h
 rw[yV h]
 rcases mG hp with e|e|e|e|e|e|e
 ·obtain⟨p1,_,p3,_⟩:=Bm (l:=l) e
  rw[p1]at hp;rw[p3]
  exact {iA with kind:=⟨by simp only;omega,by simp only;omega⟩,vote:=(GL hp).wf}
 ·obtain⟨p1,_,p3,_⟩:=BX (l:=l) e
  rw[p1]at hp;rw[p3]
  exact {iA with kind:=⟨by simp only;omega,by simp only;omega⟩,qc:=(wO hp).wc}
 ·obtain⟨p1,_,p3,_⟩:=Bk (l:=l) e
  rw[p1]at hp;rw[p3]
  exact {iA with kind:=⟨by simp only;omega,by simp only;omega⟩,head:=oO hp}
 ·obtain⟨p1,_,p3,_⟩:=Cj (l:=l) e
  rw[p1]at hp;rw[p3]
  exact {iA with kind:=⟨by simp only;omega,by simp only;omega⟩,block:=FR hp}
 ·obtain⟨p1,_,p3,_⟩:=Cs (l:=l) e
  rw[p1]at hp;rw[p3]
  exact {iA with kind:=⟨by simp only;omega,by simp only;omega⟩,tc:=Me hp}
 ·obtain⟨p1,_,p3,_⟩:=Be (l:=l) e
  rw[p1]at hp;rw[p3]
  exact {iA with kind:=⟨by simp only;omega,by simp only;omega⟩,proof:=FH hp}
 ·obtain⟨p1,_,p3,_⟩:=CM (l:=l) e
  rw[p1]at hp;rw[p3]
  exact {iA with kind:=⟨by simp only;omega,by simp only;omega⟩,incl:=(Au hp).1,tx:=(Au hp).2}
structure Ev.Np (l:ao) (k:Nat) (e:Ev):Prop where
 kind:e.kind=1∨e.kind=2∨e.kind=3
 n:e.kind=1→0≤e.n∧e.n≤k
 msg:e.kind=3→eV l e.msg=true
 wc:e.msg.wc
theorem Ev.Np.up {l:ao} {k k':Nat} {e:Ev} (h:e.Np l k) (hk:k≤k'):e.Np l k':= {h with n:=fun x=>by have:=h.n x;omega}
theorem Ej (k:Nat):(db k).length≤1:=by unfold db;split <;>simp
end Go.Eng.F
namespace Go.Eng.F
theorem Bv {e:List Bytes} {i:Nat} (h:i < e.length):∃y:Bytes,(df e)[i]? =some [.sl (bytes y)]∧(∀hq:i < (df e).length,(df e)[i]'hq= [.sl (bytes y)])∧y∈e∧e[i]? =some y:=
 ⟨e[i],by simp[df,h],fun hq=>by simp[df],List.getElem_mem h,List.getElem?_eq_getElem h⟩
theorem gF {e:List Bytes} {i:Nat} {y:Bytes} (h:e[i]? =some y):(e.take (i+1)).flatten=(e.take i).flatten++y:=by
 rw[List.take_add_one,h]
 simp
theorem nX {e:List Bytes} (i:Nat):(e.take i).flatten.length≤e.flatten.length:=by
 have h:e.flatten=(e.take i).flatten++(e.drop i).flatten:=by rw[←List.flatten_append,List.take_append_drop]
 rw[h,List.length_append]
 omega
abbrev iH:Nat:=31
def mJ:AF:=⟨3,6,[.cell 6 2 true, .tmp 7],(.seq (.ops [.i (.lbox 3 (.s 0)), .i (.lbox 4 (.s 1)), .i (.lal 6 [.int .i64 0, .nils]), .i (.mov 7 (.c (.val false [.nils])))]) (.seq (.ops [ql 14 4 4 2 true,qk 16 46 14, .i (.bse 16), .i (.lal 8 [.int .i64 0, .nils]),qs 8 8 15 2,qm 9 16]) (.seq (.seq (.ops [qm 17 2,qn 18 17, .i (.mov 19 (qi 0))]) (.block 0 (.loop [34,33,32,31,30,29,28,27,26,25,24,23,22,21,20,13,12,11] (.seq (.ops [qd 20 .lss 19 18]) (.seq (.cond (.s 20) .skip (.exit 0)) (.seq (.block 1 (.seq (.ops [.i (.iad 21 (.s 17) (.s 19) 1), .i (.ldh 22 (.s 21) 1 false),qm 11 22]) (.seq (.ops [ql 24 3 3 5 true,ql 25 8 8 2 true,qm 26 11, .i (.call 28 12 false [(.s 24),(.s 25),(.s 26)]),qm 23 27, .i (.ext 28 (.s 23) 0), .i (.ext 29 (.s 23) 1), .i (.lal 12 [.int .i64 0, .nils]),qs 12 12 28 2,qm 13 29]) (.ops [ql 30 12 12 2 true,qm 31 9,qm 32 13, .i (.app 33 82 47 744 (.s 31) (.s 32)),qs 8 8 30 2,qm 9 33])))) (.ops [.i (.bin 34 .add (.s 19) (qi 1)),qm 19 34]))))))) (.seq (.ops [ql 35 8 8 2 true,qm 36 9,qs 6 6 35 2,qm 7 36]) .ret))))⟩
theorem xG:cd iH=some mJ:=by kernel_rfl
end Go.Eng.F
namespace Go.Eng.F
open Go.Eng.U (mj eM)
def Ev.tv (e:Ev):Tv:= .r [.i e.kind, .i e.n,e.msg.tv]
theorem Ev.enc (e:Ev):enc eM e.tv=e.c:=by simp only[Ev.tv,cm.enc,fc,ck,cY,dY,Ev.c,List.cons_append,List.nil_append,List.append_nil]
theorem Ev.ex {v:Tv} (h:aC eM v):∃e:Ev,v=e.tv:=by
 obtain⟨vs,rfl,h⟩:=h.st
 obtain⟨v0,_,rfl,h0,h⟩:=h.step
 obtain⟨v1,_,rfl,h1,h⟩:=h.step
 obtain⟨v2,_,rfl,h2,h⟩:=h.step
 obtain rfl:=h.fin
 obtain⟨n0,rfl,_⟩:=h0.int
 obtain⟨n1,rfl,_⟩:=h1.int
 obtain⟨n2,rfl⟩:=cm.ex h2
 exact⟨⟨n0,n1,n2⟩,rfl⟩
def xw (l:List Ev):Tv:= .l (l.map Ev.tv)
theorem Ch (l:List Ev):enc (.sl eM) (xw l)= [.sl (iz l)]:=by
 simp only[xw,y8,List.map_map,iz]
 congr 2
 exact List.map_congr_left fun x _=>Ev.enc x
end Go.Eng.F
namespace Go.Eng.F
open Go.Eng.U (mj eM TPush vq za c8 iZ LQ fx vt TLimits)
theorem cm.wc.tok {m:cm} (h:m.wc):aC mj m.tv:=by
 simp only[cm.tv,dg,bc]
 exact⟨dZ h.kind,h.vote.tok,h.qc.tok,h.head.tok,h.block.1.tok,h.tc.tok,h.proof.tok,h.incl.tok,eS.2 trivial⟩
theorem sg {α:Type} {f:α→Tv} {N:Nat}:∀ {l:List α},(∀x∈l,wt (f x)≤N)→dw (l.map f)≤N * l.length
 | [],_=>by simp[dw]
 |x::l,h=>by
  have h1:=h x (by simp)
  have h2:=sg (l:=l) fun y hy=>h y (by simp[hy])
  simp only[List.map_cons,dw,List.length_cons,Nat.mul_succ]
  omega
theorem rN {l:List Bytes} {N:Nat} (h:∀x∈l,x.length≤N):wt (eX l)≤(N+1) * l.length:=by
 unfold eX
 rw[zk,List.length_map,Nat.add_mul,Nat.one_mul]
 have:=sg (f:=vA) (l:=l) fun x hx=>by rw[nm];exact h x hx
 omega
theorem Jx {l:ao} {q:Qc} (h:oy l q=true):wt q.tv≤600:=by
 have s:=wO h
 have h1:=s.block
 have h2:=s.bits
 have h3:=s.tags
 have h4:=rN (l:=q.tags) fun x hx=>Nat.le_of_eq (s.tag x hx)
 have h5:(32+1) * q.tags.length≤(32+1) * 16:=Nat.mul_le_mul_left _ h3
 simp only[Qc.tv,wt,dw,nm]
 omega
theorem Cu {l:ao} {h:Head} (w:eC l h=true):wt h.tv≤700:=by
 obtain⟨w1,w2,w3,w4,w5,w6,w7,w8,w9⟩:=uq w
 have:=Jx w8
 simp only[Head.tv,wt,dw,nm]
 omega
theorem OH:wt bn.tv=0∧wt gA.tv=0∧wt bj.tv=0∧wt aL.tv=0∧wt hG.tv=0∧wt aK.tv=0∧wt bo.tv=0:=by
 simp[bn,gA,bj,aL,hG,aK,bo,c4.tv,Qc.tv,Head.tv,Block.tv,Tc.tv,Proof.tv,cq.tv,wt,dw,vA,eX,yo,pz]
theorem Lq {l:ao} {m:cm} (h:dH l m=true) (ho:m=gX m):wt m.tv≤10000:=by
 have hL:=dQ (FL h)
 have hl1:=hL.1
 have hl2:=hL.2.1
 have hl3:=hL.2.2.1
 have hl4:=hL.2.2.2
 obtain⟨z1,z2,z3,z4,z5,z6,z7⟩:=OH
 rw[ho]
 rcases mG h with e|e|e|e|e|e|e
 ·obtain⟨p1,_,p3,_⟩:=Bm (l:=l) e
  rw[p1]at h;rw[p3]
  have s:=GL h
  have h1:=s.block
  have h2:=s.tag
  simp only[cm.tv,az,wt,dw,z1,z2,z3,z4,z5,z6,z7,c4.tv,nm]
  omega
 ·obtain⟨p1,_,p3,_⟩:=BX (l:=l) e
  rw[p1]at h;rw[p3]
  have h1:=Jx h
  simp only[cm.tv,az,wt,dw,z1,z2,z3,z4,z5,z6,z7]
  omega
 ·obtain⟨p1,_,p3,_⟩:=Bk (l:=l) e
  rw[p1]at h;rw[p3]
  have h1:=Cu h
  simp only[cm.tv,az,wt,dw,z1,z2,z3,z4,z5,z6,z7]
  omega
 ·obtain⟨p1,_,p3,_⟩:=Cj (l:=l) e
  rw[p1]at h;rw[p3]
  obtain⟨w1,w2,w3,w4,w5⟩:=rD h
  have h1:=Cu w1
  have h2:=rN (l:=m.block.txs) (N:=40) fun x hx=>by have:=w4 x hx;omega
  have h3:(40+1) * m.block.txs.length≤(40+1) * 8:=Nat.mul_le_mul_left _ (by omega)
  simp only[cm.tv,az,wt,dw,z1,z2,z3,z4,z5,z6,z7,Block.tv]
  omega
 ·obtain⟨p1,_,p3,_⟩:=Cs (l:=l) e
  rw[p1]at h;rw[p3]
  obtain⟨w1,w2,w3,w4⟩:=CF h
  have h1:dw (m.tc.entries.map Entry.tv)≤32 * m.tc.entries.length:=sg fun x hx=>by
   obtain⟨i,hi,rfl⟩:=List.getElem_of_mem hx
   obtain⟨a1,a2,a3,_⟩:=oY _ _ w4 i _ (List.getElem?_eq_getElem hi)
   simp only[Entry.tv,wt,dw,nm]
   omega
  have h2:32 * m.tc.entries.length≤32 * 10:=Nat.mul_le_mul_left _ (by omega)
  simp only[cm.tv,az,wt,dw,z1,z2,z3,z4,z5,z6,z7,Tc.tv,yo,zk,List.length_map]
  omega
 ·obtain⟨p1,_,p3,_⟩:=Be (l:=l) e
  rw[p1]at h;rw[p3]
  obtain⟨w1,w2,w3,w4,w5⟩:=rJ h
  have h1:dw (m.proof.heads.map Head.tv)≤700 * m.proof.heads.length:=sg fun x hx=>Cu (w3 x hx)
  have h2:700 * m.proof.heads.length≤700 * 5:=Nat.mul_le_mul_left _ (by omega)
  have h3:=Jx w4
  simp only[cm.tv,az,wt,dw,z1,z2,z3,z4,z5,z6,z7,Proof.tv,pz,zk,List.length_map]
  omega
 ·obtain⟨p1,_,p3,_⟩:=CM (l:=l) e
  rw[p1]at h;rw[p3]
  obtain⟨w1,w2,w3,w4,w5,w6,w7⟩:=uP h
  have h1:=rN (l:=m.incl.path) (N:=32) fun x hx=>Nat.le_of_eq (w7 x hx)
  have h6:=dz m.incl.n.toNat m.incl.idx.toNat
  have h2:(32+1) * m.incl.path.length≤(32+1) * 8:=Nat.mul_le_mul_left _ (by omega)
  simp only[cm.tv,az,wt,dw,z1,z2,z3,z4,z5,z6,z7,cq.tv,nm]
  omega
theorem FV:wt az.tv=0:=by
 obtain⟨z1,z2,z3,z4,z5,z6,z7⟩:=OH
 simp only[cm.tv,az,wt,dw,z1,z2,z3,z4,z5,z6,z7]
structure Ev.small (k:Nat) (e:Ev):Prop where
 kind:1≤e.kind∧e.kind≤3
 n:0≤e.n∧e.n≤k+9
 wc:e.msg.wc
 wt:wt e.msg.tv≤10000
theorem Ev.small.up {k k':Nat} {e:Ev} (h:e.small k) (hk:k≤k'):e.small k':= {h with n:=by have:=h.n;omega}
theorem FK {k k':Nat} (hk:k≤k'):∀e∈db k,e.small k':=fun e he=>by
 unfold db at he
 split at he
 ·cases he
 ·rw[List.mem_singleton]at he
  subst he
  exact⟨by simp only;omega,by simp only;omega,iA,by simp only;rw[FV];omega⟩
theorem FJ {l:ao} {d:Bytes} {k:Nat}:(kN l d).small k:=by
 unfold kN
 split
 ·rename_i h
  obtain⟨m,e1,e2,_⟩:=K8 h
  rw[e1]
  exact⟨by simp only;omega,by simp only;omega,IH e2,Lq (yA e2) (yV e2)⟩
 ·have:=NH l d
  exact⟨by simp only;omega,by simp only;omega,iA,by simp only;rw[FV];omega⟩
theorem rC {l:ao} {cl:Bool}:∀(n:Nat) (u:Bytes) (k:Nat),u.length≤n→(∀e∈(scan l cl u k).1,e.small (k+u.length))∧(scan l cl u k).2.1≤k+u.length∧(scan l cl u k).1.length≤u.length
 |0,u,k,h=>by
  have:u= []:=List.eq_nil_of_length_eq_zero (by omega)
  subst this
  simp[su]
 |n+1,u,k,h=>by
  by_cases hu:u= []
  ·subst hu
   simp[su]
  have hp:=List.length_pos_iff.2 hu
  by_cases hw:(aw l u 0).1=1∧cl=false
  ·obtain⟨hw,rfl⟩:=hw
   rw[AM hu hw]
   simp
  by_cases h2:(aw l u 0).1≠3
  ·rw[A3 hu hw h2]
   obtain⟨a1,a2,a3⟩:=rC (l:=l) (cl:=cl) n (u.drop 1) (k+1) (by rw[List.length_drop];omega)
   rw[List.length_drop]at a1 a2 a3
   exact⟨fun e he=>(a1 e he).up (by omega),by omega,by omega⟩
  ·obtain⟨m,hm,_,h9,hl⟩:=yX h2
   rw[Ak hm h9 hl]
   obtain⟨a1,a2,a3⟩:=rC (l:=l) (cl:=cl) n (u.drop m) 0 (by rw[List.length_drop];omega)
   rw[List.length_drop]at a1 a2 a3
   have hs:=Ej k
   refine⟨fun e he=> ?_,by simp only;omega,by simp only[List.length_append,List.length_cons,List.length_nil];omega⟩
   simp only[List.mem_append,List.mem_singleton]at he
   rcases he with(he|rfl)|he
   ·exact FK (by omega) e he
   ·exact FJ
   ·exact(a1 e he).up (by omega)
theorem KS {e:List Ev} {k:Nat} (hl:e.length≤1073741824) (hk:k≤1152921504606846976+1152921504606846976) (h:∀x∈e,x.small k):aC (.sl eM) (xw e):=by
 unfold xw
 refine xo.2 ⟨by rw[List.length_map];exact Nat.le_trans hl (by decide),fun v hv=> ?_⟩
 obtain⟨x,hx,rfl⟩:=List.mem_map.1 hv
 have s:=h x hx
 have s1:=s.kind
 have s2:=s.n
 simp only[Ev.tv,dg,bc]
 exact⟨dZ ⟨by omega,by omega⟩,dZ ⟨by omega,by omega⟩,s.wc.tok,eS.2 trivial⟩
end Go.Eng.F
namespace Go.Eng.F
open Go.Eng.U (mj eM TPush TLimits)
theorem xd (p:bC):wt p.tv=p.buf.length:=by simp only[bC.tv,wt,dw,nm];omega
theorem yE {l:ao} {p:bC} {b:Bytes}:(feed l p b).1.buf.length≤p.buf.length+b.length∧(feed l p b).2.length≤p.buf.length+b.length∧(∀e∈(feed l p b).2,e.small (1152921504606846976+(p.buf.length+b.length)))∧(oN p.skip→p.buf.length+b.length≤1073741824→oN (feed l p b).1.skip):=by
 unfold feed
 split
 ·rename_i h
  have hs:=nj h
  rw[yd]
  obtain⟨a1,a2,a3⟩:=rC (l:=l) (cl:=false) (p.buf++b).length (p.buf++b) p.skip.toNat (Nat.le_refl _)
  rw[List.length_append]at a1 a2 a3
  refine⟨by simp only[List.length_drop,List.length_append];omega,by simpa using a3,fun e he=> ?_,fun _ hb=>⟨by simp only;omega,by simp only;omega⟩⟩
  simp only[Bool.false_eq_true,if_false,List.append_nil]at he
  exact(a1 e he).up (by omega)
 ·exact⟨by simp,by simp,by simp,fun h _=>h⟩
theorem Gu {p:bC} (h:aC TPush p.tv) (hw:wt p.tv≤1048576):p.wf∧p.buf.length≤1048576:=⟨bC.of h hw,by rw[xd]at hw;exact hw⟩
end Go.Eng.F
namespace Go.Eng.F
open Go.Eng.U (mj eM TPush TLimits)
theorem xq {l:ao} {cl:Bool}:∀(n:Nat) (u:Bytes) (k:Nat),u.length≤n→(scan l cl u k).1.length+(scan l cl u k).2.2.length≤u.length
 |0,u,k,h=>by
  have:u= []:=List.eq_nil_of_length_eq_zero (by omega)
  subst this
  simp[su]
 |n+1,u,k,h=>by
  by_cases hu:u= []
  ·subst hu
   simp[su]
  have hp:=List.length_pos_iff.2 hu
  by_cases hw:(aw l u 0).1=1∧cl=false
  ·obtain⟨hw,rfl⟩:=hw
   rw[AM hu hw]
   simp
  by_cases h2:(aw l u 0).1≠3
  ·rw[A3 hu hw h2]
   have:=xq (l:=l) (cl:=cl) n (u.drop 1) (k+1) (by rw[List.length_drop];omega)
   rw[List.length_drop]at this
   omega
  ·obtain⟨m,hm,_,h9,hl⟩:=yX h2
   rw[Ak hm h9 hl]
   have:=xq (l:=l) (cl:=cl) n (u.drop m) 0 (by rw[List.length_drop];omega)
   rw[List.length_drop]at this
   have hs:=Ej k
   simp only[List.length_append,List.length_cons,List.length_nil]
   omega
theorem jS (l:ao) (p:bC) (b:Bytes):(feed l p b).2.length+(feed l p b).1.buf.length≤p.buf.length+b.length:=by
 unfold feed
 split
 ·rw[yd]
  have:=xq (l:=l) (cl:=false) (p.buf++b).length (p.buf++b) p.skip.toNat (Nat.le_refl _)
  rw[List.length_append]at this
  simp only[Bool.false_eq_true,if_false,List.append_nil,List.length_drop,List.length_append]
  omega
 ·simp
def ak (l:ao) (p:bC) (ps:List Bytes):bC×List Ev:=ps.foldl (fun a b=>((feed l a.1 b).1,a.2++(feed l a.1 b).2)) (p,[])
theorem fL (l:ao) (p:bC):ak l p []=(p,[]):=rfl
theorem eP {l:ao} {p:bC} {ps:List Bytes} {i:Nat} {y:Bytes} (h:ps[i]? =some y):ak l p (ps.take (i+1))=((feed l (ak l p (ps.take i)).1 y).1,(ak l p (ps.take i)).2++(feed l (ak l p (ps.take i)).1 y).2):=by
 unfold ak
 rw[List.take_add_one,h,List.foldl_append]
 rfl
theorem ek {l:ao} {p:bC} {ps:List Bytes} (hp:oN p.skip) (hb:p.buf.length+ps.flatten.length≤1073741824):∀i,i≤ps.length→
 (ak l p (ps.take i)).2.length+(ak l p (ps.take i)).1.buf.length≤p.buf.length+(ps.take i).flatten.length∧oN (ak l p (ps.take i)).1.skip∧∀e∈(ak l p (ps.take i)).2,e.small (1152921504606846976+1073741824)
 |0,_=>by
  rw[List.take_zero,fL]
  exact⟨by simp,hp,by simp⟩
 |i+1,hi=>by
  obtain⟨a1,a2,a3⟩:=ek (l:=l) hp hb i (by omega)
  have hy:ps[i]? =some ps[i]:=List.getElem?_eq_getElem (by omega)
  have hf:=gF hy
  have hl:=nX (e:=ps) (i+1)
  rw[hf,List.length_append]at hl
  rw[eP hy,hf,List.length_append]
  generalize ps[i]=y at hl
  have h1:=jS l (ak l p (ps.take i)).1 y
  obtain⟨_,_,s3,s4⟩:=yE (l:=l) (p:=(ak l p (ps.take i)).1) (b:=y)
  refine⟨by simp only[List.length_append];omega,s4 a2 (by omega),fun e he=> ?_⟩
  rcases List.mem_append.1 he with he|he
  ·exact a3 e he
  ·exact(s3 e he).up (by omega)
end Go.Eng.F
