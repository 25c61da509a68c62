import Derived.Test.YtfackchfbefaiaaGreatGb
import Derived.Test.YtfackchfbefaiaaGreatGc
import Derived.Test.YtfackchfbefaiaaGreatGe
import Derived.Test.YtfackchfbefaiaaGreatGf
import Derived.Test.YtfackchfbefaiaaGreatGi
set_option maxRecDepth 100000
set_option linter.unusedSimpArgs false
set_option linter.unusedVariables false
namespace Go.Eng.F
def cR:Nat→Nat
 |0=>139265
 |_+1=>237569
theorem uF (l:ao) (p:bC) (ps:List Bytes) (hp:oN p.skip) (hn:ps.length≤1073741824) (hs:p.buf.length+ps.flatten.length≤1073741824):VC cd iH (bJ [(true,l.c),(true,p.c),(false,[.sl (df ps)])]) (fun rs _=>rs=gZ (ak l p ps)):=by
 have hlx:(df ps).length=ps.length:=cn ps
 refine aa xG rfl ?_
 simp(disch:=omega) [mJ,ao.c,bC.c,VZ]
 refine cp (nR p (by omega)) ?_ (ha:=by first|rfl|(simp[bC.c,VY] <;>repeat' constructor))
 simp(disch:=omega) [hlx,VZ]
 refine ed (σ:=Nat×Nat×Nat×Nat) (f1:=_) (es0:=_) (by simp(disch:=omega) [VZ] <;>rfl) (by simp(disch:=omega) [VZ] <;>rfl) (fun q=> [(19, .val false [.int .i64 (q.1:Int)]),(8, .box [.int .i64 (ak l p (ps.take q.1)).1.skip, .ow (cR q.2.1) q.2.2.1]),(9, .val false [.ow 16 q.2.2.2])]) (fun q=> [(cR q.2.1, .sl q.2.2.1 true true (some (5,1)) (bytes (ak l p (ps.take q.1)).1.buf)),(16, .sl q.2.2.2 true true (some (82,47)) (iz (ak l p (ps.take q.1)).2))])
  (fun q g=>g+q.1=ps.length∧(q.2.1=0→q.1=0∧q.2.2.1=9)) (0,0,_,_) ps.length (by simp(disch:=omega) [cR,fL,VZ] <;>rfl) (by simp(disch:=omega) [cR,fL,iz,VZ]) ⟨by simp,fun _=>⟨rfl,rfl⟩⟩ ?_
 rintro⟨i,fl,v1,v2⟩ nx g ⟨hg,h0⟩ P hP
 simp only at hg h0
 cases fl
 ·have hz:bytes p.buf=bytes (ak l p (ps.take i)).1.buf∧9=v1:=by
   obtain⟨h1,h2⟩:=h0 rfl
   subst h1 h2
   exact⟨rfl,rfl⟩
  simp(disch:=omega) [cR,VZ]
  refine aj (fun h8=> ?_) (fun h8=> ?_)
  ·obtain⟨y,hgt,hgt2,hm,hy⟩:=Bv h8
   have hpre:=eP (l:=l) (p:=p) hy
   have hpl:=nX (e:=ps) (i+1)
   rw[gF hy,List.length_append]at hpl
   obtain⟨s1,s2,s3⟩:=ek (l:=l) hp hs i (by omega)
   have s5:=jS l (ak l p (ps.take i)).1 y
   have hF:=tH l (ak l p (ps.take i)).1 y (by omega)
   obtain⟨F,hFe⟩:∃F,F=feed l (ak l p (ps.take i)).1 y:=⟨_,rfl⟩
   rw[←hFe]at hF hpre s5
   obtain⟨q,more⟩:=F
   simp only[gZ]at hF hpre s5
   have he1:=fq (ak l p (ps.take i)).2
   have he2:=fq more
   have he3:iz (ak l p (ps.take i)).2++iz more=iz ((ak l p (ps.take i)).2++more):=by simp[iz]
   simp(disch:=omega) [hgt,hgt2,VZ]
   refine cp (hF) ?_ (ha:=by first|rfl|(simp[ao.c,bC.c,VY] <;>repeat' constructor))
   by_cases hfl:flat (iz more)=true
   ·simp(disch:=omega) [he1,he2,he3,ji,hfl,VZ]
    exact hP (i+1,1,_,_) (g - 1) _ _ (by omega) ⟨by simp only;omega,fun h=>by simp at h⟩ (by simp(disch:=omega) [cR,hpre,VZ] <;>exact⟨rfl,rfl⟩) (by simp(disch:=omega) [cR,hpre,VZ];exact⟨hz.2,hz.1⟩)
   ·simp(disch:=omega) [he1,he2,he3,ji,hfl,VZ]
    exact hP (i+1,1,_,_) (g - 1) _ _ (by omega) ⟨by simp only;omega,fun h=>by simp at h⟩ (by simp(disch:=omega) [cR,hpre,VZ] <;>exact⟨rfl,rfl⟩) (by simp(disch:=omega) [cR,hpre,VZ];exact⟨hz.2,hz.1⟩)
  ·have hi:i=ps.length:=by omega
   subst hi
   simp(disch:=omega) [gZ,List.take_length,VZ]
 ·simp(disch:=omega) [cR,VZ]
  refine aj (fun h8=> ?_) (fun h8=> ?_)
  ·obtain⟨y,hgt,hgt2,hm,hy⟩:=Bv h8
   have hpre:=eP (l:=l) (p:=p) hy
   have hpl:=nX (e:=ps) (i+1)
   rw[gF hy,List.length_append]at hpl
   obtain⟨s1,s2,s3⟩:=ek (l:=l) hp hs i (by omega)
   have s5:=jS l (ak l p (ps.take i)).1 y
   have hF:=tH l (ak l p (ps.take i)).1 y (by omega)
   obtain⟨F,hFe⟩:∃F,F=feed l (ak l p (ps.take i)).1 y:=⟨_,rfl⟩
   rw[←hFe]at hF hpre s5
   obtain⟨q,more⟩:=F
   simp only[gZ]at hF hpre s5
   have he1:=fq (ak l p (ps.take i)).2
   have he2:=fq more
   have he3:iz (ak l p (ps.take i)).2++iz more=iz ((ak l p (ps.take i)).2++more):=by simp[iz]
   simp(disch:=omega) [hgt,hgt2,VZ]
   refine cp (hF) ?_ (ha:=by first|rfl|(simp[ao.c,bC.c,VY] <;>repeat' constructor))
   by_cases hfl:flat (iz more)=true
   ·simp(disch:=omega) [he1,he2,he3,ji,hfl,VZ]
    exact hP (i+1,1,_,_) (g - 1) _ _ (by omega) ⟨by simp only;omega,fun h=>by simp at h⟩ (by simp(disch:=omega) [cR,hpre,VZ] <;>exact⟨rfl,rfl⟩) (by simp(disch:=omega) [cR,hpre,VZ])
   ·simp(disch:=omega) [he1,he2,he3,ji,hfl,VZ]
    exact hP (i+1,1,_,_) (g - 1) _ _ (by omega) ⟨by simp only;omega,fun h=>by simp at h⟩ (by simp(disch:=omega) [cR,hpre,VZ] <;>exact⟨rfl,rfl⟩) (by simp(disch:=omega) [cR,hpre,VZ])
  ·have hi:i=ps.length:=by omega
   subst hi
   simp(disch:=omega) [gZ,List.take_length,VZ]
def cQ:Nat→Nat
 |0=>163840
 |_+1=>270337
abbrev iG:Nat:=29
def nf:AF:=⟨3,6,[.cell 6 2 true, .tmp 7],(.seq (.ops [.i (.lbox 3 (.s 0)), .i (.lbox 4 (.s 1)), .i (.lal 6 [.int .i64 0, .nils]), .i (.mov 7 (.c (.val false [.nils])))]) (.seq (.ops [qf 14 4 0,ql 15 4 14 1 false,qf 16 4 1,ql 17 4 16 1 false,qk 19 43 17, .i (.bld 19 [.int .i64 0, .nils] [(0,1,(.s 15)),(1,1,(.s 18))]), .i (.lal 8 [.int .i64 0, .nils]),qs 8 8 19 2]) (.seq (.ops [.i (.bse 20),qm 9 20]) (.seq (.seq (.ops [qm 21 2,qn 22 21, .i (.mov 23 (qi 0))]) (.block 0 (.loop [38,37,36,35,34,33,32,31,30,29,28,27,26,25,24,13,12,11] (.seq (.ops [qd 24 .lss 23 22]) (.seq (.cond (.s 24) .skip (.exit 0)) (.seq (.block 1 (.seq (.ops [.i (.iad 25 (.s 21) (.s 23) 1), .i (.ldh 26 (.s 25) 1 false),qm 11 26]) (.seq (.ops [ql 28 3 3 5 true,ql 29 8 8 2 true,qm 30 11, .i (.call 32 8 false [(.s 28),(.s 29),(.s 30)]),qm 27 31, .i (.ext 32 (.s 27) 0), .i (.ext 33 (.s 27) 1), .i (.lal 12 [.int .i64 0, .nils]),qs 12 12 32 2,qm 13 33]) (.seq (.ops [ql 34 12 12 2 true,qs 8 8 34 2]) (.ops [qm 35 9,qm 36 13, .i (.app 37 82 47 744 (.s 35) (.s 36)),qm 9 37]))))) (.ops [.i (.bin 38 .add (.s 23) (qi 1)),qm 23 38]))))))) (.seq (.ops [ql 39 8 8 2 true,qm 40 9,qs 6 6 39 2,qm 7 40]) .ret)))))⟩
theorem yM:cd iG=some nf:=by kernel_rfl
theorem tS (l:ao) (p:bC) (ps:List Bytes) (hp:oN p.skip) (hn:ps.length≤1073741824) (hs:p.buf.length+ps.flatten.length≤1073741824):VC cd iG (bJ [(true,l.c),(true,p.c),(false,[.sl (df ps)])]) (fun rs _=>rs=gZ (ak l p ps)):=by
 have hlx:(df ps).length=ps.length:=cn ps
 refine aa yM rfl ?_
 simp(disch:=omega) [nf,ao.c,bC.c,VZ]
 refine cp (gI p.buf (by omega)) ?_
 simp(disch:=omega) [hlx,VZ]
 refine ed (σ:=Nat×Nat×Nat×Nat) (f1:=_) (es0:=_) (by simp(disch:=omega) [VZ] <;>rfl) (by simp(disch:=omega) [VZ] <;>rfl) (fun q=> [(23, .val false [.int .i64 (q.1:Int)]),(8, .box [.int .i64 (ak l p (ps.take q.1)).1.skip, .ow (cQ q.2.1) q.2.2.1]),(9, .val false [.ow 20 q.2.2.2])]) (fun q=> [(cQ q.2.1, .sl q.2.2.1 true true (some (5,1)) (bytes (ak l p (ps.take q.1)).1.buf)),(20, .sl q.2.2.2 true true (some (82,47)) (iz (ak l p (ps.take q.1)).2))])
  (fun q g=>g+q.1=ps.length∧(q.2.1=0→q.1=0∧q.2.2.1=8)) (0,0,_,_) ps.length (by simp(disch:=omega) [cQ,fL,VZ] <;>rfl) (by simp(disch:=omega) [cQ,fL,iz,VZ]) ⟨by simp,fun _=>⟨rfl,rfl⟩⟩ ?_
 rintro⟨i,fl,v1,v2⟩ nx g ⟨hg,h0⟩ P hP
 simp only at hg h0
 cases fl
 ·have hz:bytes p.buf=bytes (ak l p (ps.take i)).1.buf∧8=v1:=by
   obtain⟨h1,h2⟩:=h0 rfl
   subst h1 h2
   exact⟨rfl,rfl⟩
  simp(disch:=omega) [cQ,VZ]
  refine aj (fun h8=> ?_) (fun h8=> ?_)
  ·obtain⟨y,hgt,hgt2,hm,hy⟩:=Bv h8
   have hpre:=eP (l:=l) (p:=p) hy
   have hpl:=nX (e:=ps) (i+1)
   rw[gF hy,List.length_append]at hpl
   obtain⟨s1,s2,s3⟩:=ek (l:=l) hp hs i (by omega)
   have s5:=jS l (ak l p (ps.take i)).1 y
   have hF:=tw l (ak l p (ps.take i)).1 y (by omega)
   obtain⟨F,hFe⟩:∃F,F=feed l (ak l p (ps.take i)).1 y:=⟨_,rfl⟩
   rw[←hFe]at hF hpre s5
   obtain⟨q,more⟩:=F
   simp only[gZ]at hF hpre s5
   have he1:=fq (ak l p (ps.take i)).2
   have he2:=fq more
   have he3:iz (ak l p (ps.take i)).2++iz more=iz ((ak l p (ps.take i)).2++more):=by simp[iz]
   simp(disch:=omega) [hgt,hgt2,VZ]
   refine cp (hF) ?_ (ha:=by first|rfl|(simp[ao.c,bC.c,VY] <;>repeat' constructor))
   by_cases hfl:flat (iz more)=true
   ·simp(disch:=omega) [he1,he2,he3,ji,hfl,VZ]
    exact hP (i+1,1,_,_) (g - 1) _ _ (by omega) ⟨by simp only;omega,fun h=>by simp at h⟩ (by simp(disch:=omega) [cQ,hpre,VZ] <;>exact⟨rfl,rfl⟩) (by simp(disch:=omega) [cQ,hpre,VZ];exact⟨hz.2,hz.1⟩)
   ·simp(disch:=omega) [he1,he2,he3,ji,hfl,VZ]
    exact hP (i+1,1,_,_) (g - 1) _ _ (by omega) ⟨by simp only;omega,fun h=>by simp at h⟩ (by simp(disch:=omega) [cQ,hpre,VZ] <;>exact⟨rfl,rfl⟩) (by simp(disch:=omega) [cQ,hpre,VZ];exact⟨hz.2,hz.1⟩)
  ·have hi:i=ps.length:=by omega
   subst hi
   simp(disch:=omega) [gZ,List.take_length,VZ]
 ·simp(disch:=omega) [cQ,VZ]
  refine aj (fun h8=> ?_) (fun h8=> ?_)
  ·obtain⟨y,hgt,hgt2,hm,hy⟩:=Bv h8
   have hpre:=eP (l:=l) (p:=p) hy
   have hpl:=nX (e:=ps) (i+1)
   rw[gF hy,List.length_append]at hpl
   obtain⟨s1,s2,s3⟩:=ek (l:=l) hp hs i (by omega)
   have s5:=jS l (ak l p (ps.take i)).1 y
   have hF:=tw l (ak l p (ps.take i)).1 y (by omega)
   obtain⟨F,hFe⟩:∃F,F=feed l (ak l p (ps.take i)).1 y:=⟨_,rfl⟩
   rw[←hFe]at hF hpre s5
   obtain⟨q,more⟩:=F
   simp only[gZ]at hF hpre s5
   have he1:=fq (ak l p (ps.take i)).2
   have he2:=fq more
   have he3:iz (ak l p (ps.take i)).2++iz more=iz ((ak l p (ps.take i)).2++more):=by simp[iz]
   simp(disch:=omega) [hgt,hgt2,VZ]
   refine cp (hF) ?_ (ha:=by first|rfl|(simp[ao.c,bC.c,VY] <;>repeat' constructor))
   by_cases hfl:flat (iz more)=true
   ·simp(disch:=omega) [he1,he2,he3,ji,hfl,VZ]
    exact hP (i+1,1,_,_) (g - 1) _ _ (by omega) ⟨by simp only;omega,fun h=>by simp at h⟩ (by simp(disch:=omega) [cQ,hpre,VZ] <;>exact⟨rfl,rfl⟩) (by simp(disch:=omega) [cQ,hpre,VZ])
   ·simp(disch:=omega) [he1,he2,he3,ji,hfl,VZ]
    exact hP (i+1,1,_,_) (g - 1) _ _ (by omega) ⟨by simp only;omega,fun h=>by simp at h⟩ (by simp(disch:=omega) [cQ,hpre,VZ] <;>exact⟨rfl,rfl⟩) (by simp(disch:=omega) [cQ,hpre,VZ])
  ·have hi:i=ps.length:=by omega
   subst hi
   simp(disch:=omega) [gZ,List.take_length,VZ]
end Go.Eng.F
namespace Go.Eng.F
open Go.Eng.U (mj eM TPush TLimits)
theorem mT {l:ao} {p:bC} {ps:List Bytes}:∀i,i≤ps.length→(ak l p (ps.take i)).2.length+(ak l p (ps.take i)).1.buf.length≤p.buf.length+(ps.take i).flatten.length∧∀e∈(ak l p (ps.take i)).2,wt e.msg.tv≤10000
 |0,_=>by
  rw[List.take_zero,fL]
  simp
 |i+1,hi=>by
  obtain⟨a1,a2⟩:=mT (l:=l) (p:=p) (ps:=ps) i (by omega)
  have hy:ps[i]? =some ps[i]:=List.getElem?_eq_getElem (by omega)
  rw[eP hy,gF hy,List.length_append]
  generalize ps[i]=y
  have h1:=jS l (ak l p (ps.take i)).1 y
  have s3:=(yE (l:=l) (p:=(ak l p (ps.take i)).1) (b:=y)).2.2.1
  refine⟨by simp only[List.length_append];omega,fun e he=> ?_⟩
  rcases List.mem_append.1 he with he|he
  ·exact a2 e he
  ·exact(s3 e he).wt
theorem HY:∀ps:List Bytes,dw (ps.map vA)=ps.flatten.length
 | []=>rfl
 |x::ps=>by simp only[List.map_cons,dw,nm,HY ps,List.flatten_cons,List.length_append]
theorem BD (ps:List Bytes):wt (eX ps)=ps.length+ps.flatten.length:=by
 unfold eX
 rw[zk,List.length_map,HY]
theorem Eb (l:ao) (p:bC) (ps:List Bytes):wt (ak l p ps).1.tv≤wt p.tv+wt (eX ps):=by
 obtain⟨a1,_⟩:=mT (l:=l) (p:=p) (ps:=ps) ps.length (Nat.le_refl _)
 rw[List.take_length]at a1
 rw[xd,xd,BD]
 omega
theorem Es (l:ao) (p:bC) (ps:List Bytes):wt (xw (ak l p ps).2)≤10001 * (wt p.tv+wt (eX ps)):=by
 obtain⟨a1,a2⟩:=mT (l:=l) (p:=p) (ps:=ps) ps.length (Nat.le_refl _)
 rw[List.take_length]at a1 a2
 have h1:=sg (f:=Ev.tv) (N:=10000) (l:=(ak l p ps).2) fun x hx=>by
  have:=a2 x hx
  simp only[Ev.tv,wt,dw]
  omega
 have h2:10001 * (ak l p ps).2.length≤10001 * (p.buf.length+(ps.length+ps.flatten.length)):=Nat.mul_le_mul_left _ (by omega)
 rw[xd,BD]
 unfold xw
 rw[zk,List.length_map]
 omega
theorem yS {l:ao} {p:bC} {ps:List Bytes} (hp:p.wf) (h1:p.buf.length≤1048576) (h2:ps.flatten.length≤1048576):Nl (gZ (ak l p ps)) [(TPush,(ak l p ps).1.tv),(.sl eM,xw (ak l p ps).2)]:=by
 obtain⟨s1,s2,s3⟩:=ek (l:=l) (p:=p) (ps:=ps) hp.1 (by omega) ps.length (Nat.le_refl _)
 rw[List.take_length]at s1 s2 s3
 have hw:(ak l p ps).1.wf:=⟨s2,by unfold Sz;omega⟩
 refine⟨rfl,?_,hw.tok,rfl,?_,KS (by omega) (by omega) s3,trivial⟩
 ·rw[bC.enc]
  simp only[bC.c,Aw,D.leaf,and_self]
 ·rw[Ch]
  simp only[Aw,and_self]
theorem Ah {ps:List Bytes} (hw:wt (eX ps)≤1048576):ps.length≤1073741824∧ps.flatten.length≤1048576:=by
 rw[BD]at hw
 omega
theorem j8 {h0:H} {l:ao} {p:bC} {ps:List Bytes} {ms:List (Bool×List C)} (ha:dW h0 [(TLimits,l.tv),(TPush,p.tv),((.sl (.sl (.int .u8))),eX ps)] ms) (hp1:wt p.tv≤1048576) (hp2:wt (eX ps)≤1048576):
 WC cd iH ms h0 (Qw h0 [(TPush,(ak l p ps).1.tv),(.sl eM,xw (ak l p ps).2)]):=by
 obtain⟨k0,mr0,ha0⟩:=dW.Ox ha
 obtain⟨k1,mr1,ha1⟩:=dW.Ox ha0
 obtain⟨k2,mr2,ha2⟩:=dW.Ox ha1
 obtain⟨w1,w2⟩:=Gu k1 hp1
 obtain⟨w3,w4⟩:=Ah hp2
 have hc:=uF l p ps w1.1 w3 (by omega)
 have e:Ed [(TLimits,l.tv),(TPush,p.tv),((.sl (.sl (.int .u8))),eX ps)]= [(true,l.c),(true,p.c),(false,[.sl (df ps)])]:=by simp only[Ed,List.map,ao.enc,Head.enc,Qc.enc,ei,gK,dY,fj,gM,pq,bC.enc,Ch,Ty.agg]
 rw[←e]at hc
 exact hc.wc ha fun rs q=>by rw[q];exact yS w1 w2 w4
theorem tX {h0:H} {l:ao} {p:bC} {ps:List Bytes} {ms:List (Bool×List C)} (ha:dW h0 [(TLimits,l.tv),(TPush,p.tv),((.sl (.sl (.int .u8))),eX ps)] ms) (hp1:wt p.tv≤1048576) (hp2:wt (eX ps)≤1048576):
 WC cd iG ms h0 (Qw h0 [(TPush,(ak l p ps).1.tv),(.sl eM,xw (ak l p ps).2)]):=by
 obtain⟨k0,mr0,ha0⟩:=dW.Ox ha
 obtain⟨k1,mr1,ha1⟩:=dW.Ox ha0
 obtain⟨k2,mr2,ha2⟩:=dW.Ox ha1
 obtain⟨w1,w2⟩:=Gu k1 hp1
 obtain⟨w3,w4⟩:=Ah hp2
 have hc:=tS l p ps w1.1 w3 (by omega)
 have e:Ed [(TLimits,l.tv),(TPush,p.tv),((.sl (.sl (.int .u8))),eX ps)]= [(true,l.c),(true,p.c),(false,[.sl (df ps)])]:=by simp only[Ed,List.map,ao.enc,Head.enc,Qc.enc,ei,gK,dY,fj,gM,pq,bC.enc,Ch,Ty.agg]
 rw[←e]at hc
 exact hc.wc ha fun rs q=>by rw[q];exact yS w1 w2 w4
end Go.Eng.F
set_option maxHeartbeats 16000000
namespace Go.Eng.U
def c9:AF:=⟨1,5,[.cell 2 5 true],(.seq (.ops [.i (.lbox 1 (.s 0)), .i (.lal 2 [.int .i64 0, .int .i64 0, .int .i64 0, .int .i64 0, .int .i64 0])]) (.seq (.ops [.i (.lal 3 [.int .i64 0, .int .i64 0, .int .i64 0, .int .i64 0, .int .i64 0])]) (.seq (.ops [qf 4 1 0,ql 5 1 4 1 false,qf 6 3 0,qs 3 6 5 1]) (.seq (.ops [qf 7 1 1,ql 8 1 7 1 false,qf 9 3 1,qs 3 9 8 1]) (.seq (.ops [qf 10 1 2,ql 11 1 10 1 false,qf 12 3 2,qs 3 12 11 1]) (.seq (.ops [qf 13 1 3,ql 14 1 13 1 false,qf 15 3 3,qs 3 15 14 1]) (.seq (.ops [qf 16 1 4,ql 17 1 16 1 false,qf 18 3 4,qs 3 18 17 1]) (.seq (.ops [ql 19 3 3 5 true,qs 2 2 19 5]) .ret))))))))⟩
theorem k9:cd 9=some c9:=by kernel_rfl
theorem ux:Fu cd 9 TLimits:=by
 intro h cs v S hv hw
 obtain⟨vs,rfl,q0⟩:=hv.st
 obtain⟨v0,r0,S0,T0,rfl,rfl,h0,q1⟩:=q0.step
 obtain⟨n0,e0,rfl,rfl,lo0,hi0⟩:=h0.int
 obtain⟨v1,r1,S1,T1,rfl,rfl,h1,q2⟩:=q1.step
 obtain⟨n1,e1,rfl,rfl,lo1,hi1⟩:=h1.int
 obtain⟨v2,r2,S2,T2,rfl,rfl,h2,q3⟩:=q2.step
 obtain⟨n2,e2,rfl,rfl,lo2,hi2⟩:=h2.int
 obtain⟨v3,r3,S3,T3,rfl,rfl,h3,q4⟩:=q3.step
 obtain⟨n3,e3,rfl,rfl,lo3,hi3⟩:=h3.int
 obtain⟨v4,r4,S4,T4,rfl,rfl,h4,q5⟩:=q4.step
 obtain⟨n4,e4,rfl,rfl,lo4,hi4⟩:=h4.int
 obtain⟨_,rfl,rfl⟩:=q5
 have hsz:cs.length=5:=hv.size
 simp only[Ty.size,Ty.aU,Nat.reduceAdd,Nat.zero_add,List.drop_zero]at e0 e1 e2 e3 e4 hsz
 simp only[wt,dw]at hw
 refine aZ k9 rfl ?_
 simp(disch:=omega) only[ae,c9,e0,e1,e2,e3,e4,hsz,bh,aN,SX,SU,SL,reduceCtorEq,Nat.reduceAdd,Nat.reduceLeDiff,reduceIte]
 exact⟨[],_,_,by simp,rfl,⟨_,rfl,(Rs.mk (Rp.mkInt lo0 hi0) (Rs.mk (Rp.mkInt lo1 hi1) (Rs.mk (Rp.mkInt lo2 hi2) (Rs.mk (Rp.mkInt lo3 hi3) (Rs.mk (Rp.mkInt lo4 hi4) Rs.nil)))))⟩,by simp[dr],by simp⟩
def Q5:AF:=⟨2,4,[.tmp 4],(.seq (.ops [.i (.mov 4 (qi 0))]) (.seq (.ops [qm 5 1,qm 6 0,qn 7 6,qd 8 .sub 5 7,qm 1 8]) (.seq (.seq (.ops [qm 9 1, .i (.bin 10 .lss (.s 9) (qi 0))]) (.cond (.s 10) (.seq (.ops [.i (.mov 4 (qi (-1)))]) .ret) .skip)) (.seq (.ops [qm 11 1,qm 4 11]) .ret))))⟩
theorem Re:cd 41=some Q5:=by kernel_rfl
theorem DD:xT cd 41 (.sl (.int .u8)):=KF Re
def c7:AF:=⟨2,4,[.tmp 4],(.seq (.ops [.i (.lbox 2 (.s 0)), .i (.mov 4 (qi 0))]) (.seq (.ops [qf 5 2 1,ql 6 2 5 1 false,qm 7 1, .i (.call 9 41 false [(.s 6),(.s 7)]),qm 1 8]) (.seq (.seq (.ops [qm 9 1, .i (.bin 10 .lss (.s 9) (qi 0))]) (.cond (.s 10) (.seq (.ops [.i (.mov 4 (qi (-1)))]) .ret) .skip)) (.seq (.ops [qm 11 1,qm 4 11]) .ret))))⟩
theorem k7:cd 7=some c7:=by kernel_rfl
theorem LB:xT cd 7 TPush:=by
 intro h cs v S k hv hk
 obtain⟨vs,rfl,q0⟩:=hv.st
 obtain⟨v0,r0,S0,T0,rfl,rfl,h0,q1⟩:=q0.step
 obtain⟨n0,e0,rfl,rfl,lo0,hi0⟩:=h0.int
 obtain⟨v1,r1,S1,T1,rfl,rfl,h1,q2⟩:=q1.step
 obtain⟨c1,e1⟩:=h1.one rfl
 rw[e1]at h1
 obtain⟨_,rfl,rfl⟩:=q2
 have hsz:cs.length=2:=hv.size
 simp only[Ty.size,Ty.aU,Nat.reduceAdd,Nat.zero_add,List.drop_zero]at e0 e1 hsz
 have hw:wt (.r [.i n0,v1])=wt v1:=by simp only[wt,dw];omega
 rw[hw]
 refine aZ k7 rfl ?_
 simp(disch:=omega) only[c7,e0,e1,hsz,bh,aN,SX,SU,SL,reduceCtorEq,Nat.reduceAdd,Nat.reduceLeDiff,reduceIte]
 refine xT.go DD h1 (k:=k) (by omega) (fun hf0=> ?_) (fun hf0=> ?_)
 case refine_2=>
  simp(disch:=omega) only[ae,c7,e0,e1,hsz,bh,aN,SX,SU,SL,reduceCtorEq,Nat.reduceAdd,Nat.reduceLeDiff,reduceIte]
  refine aV (fun hn=> ?_) (fun hn=>absurd (show(-1:Int) < 0 by omega) hn)
  simp(disch:=omega) only[c7,e0,e1,hsz,bh,aN,SX,SU,SL,reduceCtorEq,Nat.reduceAdd,Nat.reduceLeDiff,reduceIte]
  rw[if_neg (by omega)]
 simp(disch:=omega) only[ae,c7,e0,e1,hsz,bh,aN,SX,SU,SL,reduceCtorEq,Nat.reduceAdd,Nat.reduceLeDiff,reduceIte]
 refine aV (fun hn=>absurd hn (by omega)) (fun hn=> ?_)
 simp(disch:=omega) only[c7,e0,e1,hsz,bh,aN,SX,SU,SL,reduceCtorEq,Nat.reduceAdd,Nat.reduceLeDiff,reduceIte]
 congr 3
 omega
def Rc:AF:=⟨1,5,[.tmp 2],(.seq (.ops [.i (.mov 2 (.c (.val false [.nils])))]) (.seq (.ops [qm 5 0,qn 6 5, .i (.mks 7 5 1 1 [.int .u8 0] (.s 6)),qm 3 7]) (.seq (.seq (.ops [.i (.mov 4 (qi 0))]) (.block 0 (.loop [20,19,18,17,16,15,14,13,12,11,10,9,8] (.seq (.seq (.ops [qm 8 4,qm 9 0,qn 10 9,qd 11 .lss 8 10]) (.cond (.s 11) .skip (.exit 0))) (.seq (.block 1 (.ops [qm 14 3,qm 15 4,qm 16 0,qm 17 4, .i (.iad 18 (.s 16) (.s 17) 1), .i (.ldh 19 (.s 18) 1 false), .i (.iad 20 (.s 14) (.s 15) 1), .i (.sth (.s 20) (.s 19) 1)])) (.ops [qm 12 4, .i (.bin 13 .add (.s 12) (qi 1)),qm 4 13])))))) (.seq (.ops [qm 21 3,qm 2 21]) .ret))))⟩
theorem QR:cd 11=some Rc:=by kernel_rfl
theorem D3:Fu cd 11 (.sl (.int .u8)):=Lv QR (by omega)
def P9:AF:=⟨1,4,[.cell 2 2 true],(.seq (.ops [.i (.lbox 1 (.s 0)), .i (.lal 2 [.int .i64 0, .nils])]) (.seq (.ops [.i (.lal 3 [.int .i64 0, .nils])]) (.seq (.ops [qf 4 1 0,ql 5 1 4 1 false,qf 6 3 0,qs 3 6 5 1]) (.seq (.ops [qf 7 1 1,ql 8 1 7 1 false,qk 10 11 8,qf 10 3 1,qs 3 10 9 1]) (.seq (.ops [ql 11 3 3 2 true,qs 2 2 11 2]) .ret)))))⟩
theorem QQ:cd 10=some P9:=by kernel_rfl
theorem wQ:Fu cd 10 TPush:=by
 intro h cs v S hv hw
 obtain⟨vs,rfl,q0⟩:=hv.st
 obtain⟨v0,r0,S0,T0,rfl,rfl,h0,q1⟩:=q0.step
 obtain⟨n0,e0,rfl,rfl,lo0,hi0⟩:=h0.int
 obtain⟨v1,r1,S1,T1,rfl,rfl,h1,q2⟩:=q1.step
 obtain⟨c1,e1⟩:=h1.one rfl
 rw[e1]at h1
 obtain⟨_,rfl,rfl⟩:=q2
 have hsz:cs.length=2:=hv.size
 simp only[Ty.size,Ty.aU,Nat.reduceAdd,Nat.zero_add,List.drop_zero]at e0 e1 hsz
 simp only[wt,dw]at hw
 refine aZ QQ rfl ?_
 simp(disch:=omega) only[ae,P9,e0,e1,hsz,bh,aN,SX,SU,SL,reduceCtorEq,Nat.reduceAdd,Nat.reduceLeDiff,reduceIte]
 refine bW (D3 h1 (by omega)) ?_
 rintro r0 g0 ⟨t0,d0,U0,rfl,rfl,z0,o0,l0⟩
 obtain⟨y0_0,rfl⟩:=z0.one rfl
 simp(disch:=omega) only[ae,P9,e0,e1,hsz,bh,aN,SX,SU,SL,reduceCtorEq,Nat.reduceAdd,Nat.reduceLeDiff,reduceIte]
 refine⟨t0,_,_,by simp only[List.append_assoc],rfl,⟨_,rfl,(Rs.mk (Rp.mkInt lo0 hi0) (Rs.mk z0 Rs.nil))⟩,?_⟩
 have fr:=(L6.step (L6.nil h) z0.lt o0 l0)
 simpa only[List.nil_append,List.append_nil,List.append_assoc]using fr.both
def QX:AF:=⟨2,5,[.tmp 4],(.seq (.ops [.i (.mov 4 (qi 0))]) (.seq (.ops [qm 6 1,qm 7 0,qn 8 7,qd 9 .sub 6 8,qm 1 9]) (.seq (.seq (.ops [qm 10 1, .i (.bin 11 .lss (.s 10) (qi 0))]) (.cond (.s 11) (.seq (.ops [.i (.mov 4 (qi (-1)))]) .ret) .skip)) (.seq (.seq (.ops [.i (.mov 5 (qi 0))]) (.block 0 (.loop [25,24,23,22,21,20,19,18,17,16,15,14,13,12] (.seq (.seq (.ops [qm 12 5,qm 13 0,qn 14 13,qd 15 .lss 12 14]) (.cond (.s 15) .skip (.exit 0))) (.seq (.block 1 (.seq (.ops [qm 18 0,qm 19 5, .i (.iad 20 (.s 18) (.s 19) 1), .i (.ldh 21 (.s 20) 1 false),qm 22 1, .i (.call 24 41 false [(.s 21),(.s 22)]),qm 1 23]) (.seq (.ops [qm 24 1, .i (.bin 25 .lss (.s 24) (qi 0))]) (.cond (.s 25) (.seq (.ops [.i (.mov 4 (qi (-1)))]) .ret) .skip)))) (.ops [qm 16 5, .i (.bin 17 .add (.s 16) (qi 1)),qm 5 17])))))) (.seq (.ops [qm 26 1,qm 4 26]) .ret)))))⟩
theorem QL:cd 28=some QX:=by kernel_rfl
theorem Hu:xT cd 28 (.sl (.sl (.int .u8))):=OD QL DD
def QV:AF:=⟨1,5,[.tmp 2],(.seq (.ops [.i (.mov 2 (.c (.val false [.nils])))]) (.seq (.ops [qm 5 0,qn 6 5, .i (.mks 7 24 1 24 [.nils] (.s 6)),qm 3 7]) (.seq (.seq (.ops [.i (.mov 4 (qi 0))]) (.block 0 (.loop [21,20,19,18,17,16,15,14,13,12,11,10,9,8] (.seq (.seq (.ops [qm 8 4,qm 9 0,qn 10 9,qd 11 .lss 8 10]) (.cond (.s 11) .skip (.exit 0))) (.seq (.block 1 (.ops [qm 14 3,qm 15 4,qm 16 0,qm 17 4, .i (.iad 18 (.s 16) (.s 17) 1), .i (.ldh 19 (.s 18) 1 false),qk 21 11 19, .i (.iad 21 (.s 14) (.s 15) 1), .i (.sth (.s 21) (.s 20) 1)])) (.ops [qm 12 4, .i (.bin 13 .add (.s 12) (qi 1)),qm 4 13])))))) (.seq (.ops [qm 22 3,qm 2 22]) .ret))))⟩
theorem QY:cd 30=some QV:=by kernel_rfl
theorem po:Fu cd 30 (.sl (.sl (.int .u8))):=OI QY (by omega) rfl D3
def QS:AF:=⟨2,5,[.tmp 4],(.seq (.ops [.i (.mov 4 (qb false))]) (.seq (.seq (.ops [qm 6 0,qn 7 6,qm 8 1,qn 9 8,qd 10 .neq 7 9]) (.cond (.s 10) (.seq (.ops [.i (.mov 4 (qb false))]) .ret) .skip)) (.seq (.seq (.ops [.i (.mov 5 (qi 0))]) (.block 0 (.loop [25,24,23,22,21,20,19,18,17,16,15,14,13,12,11] (.seq (.seq (.ops [qm 11 5,qm 12 0,qn 13 12,qd 14 .lss 11 13]) (.cond (.s 14) .skip (.exit 0))) (.seq (.block 1 (.seq (.ops [qm 17 0,qm 18 5, .i (.iad 19 (.s 17) (.s 18) 1), .i (.ldh 20 (.s 19) 1 false),qm 21 1,qm 22 5, .i (.iad 23 (.s 21) (.s 22) 1), .i (.ldh 24 (.s 23) 1 false),qd 25 .neq 20 24]) (.cond (.s 25) (.seq (.ops [.i (.mov 4 (qb false))]) .ret) .skip))) (.ops [qm 15 5, .i (.bin 16 .add (.s 15) (qi 1)),qm 5 16])))))) (.seq (.ops [.i (.mov 4 (qb true))]) .ret))))⟩
theorem Q3:cd 15=some QS:=by kernel_rfl
theorem fe:cG cd 15 (.sl (.int .u8)):=Lx Q3
def Ot:AF:=⟨2,5,[.tmp 4],(.seq (.ops [.i (.lbox 2 (.s 0)), .i (.lbox 3 (.s 1)), .i (.mov 4 (qb false))]) (.seq (.seq (.ops [qf 5 2 0,ql 6 2 5 1 false,qf 7 3 0,ql 8 3 7 1 false,qd 9 .neq 6 8]) (.cond (.s 9) (.seq (.ops [.i (.mov 4 (qb false))]) .ret) .skip)) (.seq (.seq (.ops [qf 10 2 1,ql 11 2 10 1 false,qf 12 3 1,ql 13 3 12 1 false, .i (.call 15 15 false [(.s 11),(.s 13)]), .i (.not 15 (.s 14))]) (.cond (.s 15) (.seq (.ops [.i (.mov 4 (qb false))]) .ret) .skip)) (.seq (.ops [.i (.mov 4 (qb true))]) .ret))))⟩
theorem QP:cd 13=some Ot:=by kernel_rfl
theorem wK:cG cd 13 TPush:=by
 intro h ca cb va vb Sa Sb ha hb
 obtain⟨avs,rfl,aq0⟩:=ha.st
 obtain⟨av0,ar0,aS0,aT0,rfl,rfl,ah0,aq1⟩:=aq0.step
 obtain⟨an0,ae0,rfl,rfl,alo0,ahi0⟩:=ah0.int
 obtain⟨av1,ar1,aS1,aT1,rfl,rfl,ah1,aq2⟩:=aq1.step
 obtain⟨ac1,ae1⟩:=ah1.one rfl
 rw[ae1]at ah1
 obtain⟨_,rfl,rfl⟩:=aq2
 have ahsz:ca.length=2:=ha.size
 obtain⟨bvs,rfl,bq0⟩:=hb.st
 obtain⟨bv0,br0,bS0,bT0,rfl,rfl,bh0,bq1⟩:=bq0.step
 obtain⟨bn0,be0,rfl,rfl,blo0,bhi0⟩:=bh0.int
 obtain⟨bv1,br1,bS1,bT1,rfl,rfl,bh1,bq2⟩:=bq1.step
 obtain⟨bc1,be1⟩:=bh1.one rfl
 rw[be1]at bh1
 obtain⟨_,rfl,rfl⟩:=bq2
 have bhsz:cb.length=2:=hb.size
 simp only[Ty.size,Ty.aU,Nat.reduceAdd,Nat.zero_add,List.drop_zero]at ae0 ae1 ahsz be0 be1 bhsz
 refine aZ QP rfl ?_
 simp(disch:=omega) only[ae,Ot,ae0,ae1,ahsz,be0,be1,bhsz,bh,aN,SX,SU,SL,reduceCtorEq,Nat.reduceAdd,Nat.reduceLeDiff,reduceIte]
 refine aV (fun hn=> ?_) (fun hn=> ?_)
 case refine_1=>
  simp(disch:=omega) only[ae,Ot,ae0,ae1,ahsz,be0,be1,bhsz,bh,aN,SX,SU,SL,reduceCtorEq,Nat.reduceAdd,Nat.reduceLeDiff,reduceIte]
  simp[hn]
 have d0:an0=bn0:=by omega
 subst d0
 simp(disch:=omega) only[ae,Ot,ae0,ae1,ahsz,be0,be1,bhsz,bh,aN,SX,SU,SL,reduceCtorEq,Nat.reduceAdd,Nat.reduceLeDiff,reduceIte]
 refine cG.go fe ah1 bh1 (fun d1=> ?_) (fun d1=> ?_)
 case refine_2=>
  simp(disch:=omega) only[ae,Ot,ae0,ae1,ahsz,be0,be1,bhsz,bh,aN,SX,SU,SL,reduceCtorEq,Nat.reduceAdd,Nat.reduceLeDiff,reduceIte]
  simp[d1]
 subst d1
 simp(disch:=omega) only[ae,Ot,ae0,ae1,ahsz,be0,be1,bhsz,bh,aN,SX,SU,SL,reduceCtorEq,Nat.reduceAdd,Nat.reduceLeDiff,reduceIte]
def QJ:AF:=⟨2,5,[.tmp 4],(.seq (.ops [.i (.mov 4 (qb false))]) (.seq (.seq (.ops [qm 6 0,qn 7 6,qm 8 1,qn 9 8,qd 10 .neq 7 9]) (.cond (.s 10) (.seq (.ops [.i (.mov 4 (qb false))]) .ret) .skip)) (.seq (.seq (.ops [.i (.mov 5 (qi 0))]) (.block 0 (.loop [26,25,24,23,22,21,20,19,18,17,16,15,14,13,12,11] (.seq (.seq (.ops [qm 11 5,qm 12 0,qn 13 12,qd 14 .lss 11 13]) (.cond (.s 14) .skip (.exit 0))) (.seq (.block 1 (.seq (.ops [qm 17 0,qm 18 5, .i (.iad 19 (.s 17) (.s 18) 1), .i (.ldh 20 (.s 19) 1 false),qm 21 1,qm 22 5, .i (.iad 23 (.s 21) (.s 22) 1), .i (.ldh 24 (.s 23) 1 false), .i (.call 26 15 false [(.s 20),(.s 24)]), .i (.not 26 (.s 25))]) (.cond (.s 26) (.seq (.ops [.i (.mov 4 (qb false))]) .ret) .skip))) (.ops [qm 15 5, .i (.bin 16 .add (.s 15) (qi 1)),qm 5 16])))))) (.seq (.ops [.i (.mov 4 (qb true))]) .ret))))⟩
theorem Ra:cd 32=some QJ:=by kernel_rfl
theorem pb:cG cd 32 (.sl (.sl (.int .u8))):=F3 Ra fe
def vH:AF:=⟨2,6,[.tmp 4],(.seq (.ops [.i (.lbox 2 (.s 0)), .i (.lbox 3 (.s 1)), .i (.mov 4 (qb false))]) (.seq (.seq (.ops [qf 5 2 0,ql 6 2 5 1 false,qf 7 3 0,ql 8 3 7 1 false,qd 9 .neq 6 8]) (.cond (.s 9) (.seq (.ops [.i (.mov 4 (qb false))]) .ret) .skip)) (.seq (.seq (.ops [qf 10 2 1,ql 11 2 10 1 false,qf 12 3 1,ql 13 3 12 1 false,qd 14 .neq 11 13]) (.cond (.s 14) (.seq (.ops [.i (.mov 4 (qb false))]) .ret) .skip)) (.seq (.seq (.ops [qf 15 2 2,ql 16 2 15 1 false,qf 17 3 2,ql 18 3 17 1 false, .i (.call 20 15 false [(.s 16),(.s 18)]), .i (.not 20 (.s 19))]) (.cond (.s 20) (.seq (.ops [.i (.mov 4 (qb false))]) .ret) .skip)) (.seq (.seq (.ops [qf 21 2 3,ql 22 2 21 1 false,qf 23 3 3,ql 24 3 23 1 false,qd 25 .neq 22 24]) (.cond (.s 25) (.seq (.ops [.i (.mov 4 (qb false))]) .ret) .skip)) (.seq (.seq (.ops [qf 26 2 4,ql 27 2 26 1 false,qf 28 3 4,ql 29 3 28 1 false, .i (.call 31 15 false [(.s 27),(.s 29)]), .i (.not 31 (.s 30))]) (.cond (.s 31) (.seq (.ops [.i (.mov 4 (qb false))]) .ret) .skip)) (.seq (.ops [.i (.mov 4 (qb true))]) .ret)))))))⟩
theorem PO:cd 106=some vH:=by kernel_rfl
theorem LH:cG cd 106 vq:=by
 intro h ca cb va vb Sa Sb ha hb
 obtain⟨avs,rfl,aq0⟩:=ha.st
 obtain⟨av0,ar0,aS0,aT0,rfl,rfl,ah0,aq1⟩:=aq0.step
 obtain⟨an0,ae0,rfl,rfl,alo0,ahi0⟩:=ah0.int
 obtain⟨av1,ar1,aS1,aT1,rfl,rfl,ah1,aq2⟩:=aq1.step
 obtain⟨an1,ae1,rfl,rfl,alo1,ahi1⟩:=ah1.int
 obtain⟨av2,ar2,aS2,aT2,rfl,rfl,ah2,aq3⟩:=aq2.step
 obtain⟨ac2,ae2⟩:=ah2.one rfl
 rw[ae2]at ah2
 obtain⟨av3,ar3,aS3,aT3,rfl,rfl,ah3,aq4⟩:=aq3.step
 obtain⟨an3,ae3,rfl,rfl,alo3,ahi3⟩:=ah3.int
 obtain⟨av4,ar4,aS4,aT4,rfl,rfl,ah4,aq5⟩:=aq4.step
 obtain⟨ac4,ae4⟩:=ah4.one rfl
 rw[ae4]at ah4
 obtain⟨_,rfl,rfl⟩:=aq5
 have ahsz:ca.length=5:=ha.size
 obtain⟨bvs,rfl,bq0⟩:=hb.st
 obtain⟨bv0,br0,bS0,bT0,rfl,rfl,bh0,bq1⟩:=bq0.step
 obtain⟨bn0,be0,rfl,rfl,blo0,bhi0⟩:=bh0.int
 obtain⟨bv1,br1,bS1,bT1,rfl,rfl,bh1,bq2⟩:=bq1.step
 obtain⟨bn1,be1,rfl,rfl,blo1,bhi1⟩:=bh1.int
 obtain⟨bv2,br2,bS2,bT2,rfl,rfl,bh2,bq3⟩:=bq2.step
 obtain⟨bc2,be2⟩:=bh2.one rfl
 rw[be2]at bh2
 obtain⟨bv3,br3,bS3,bT3,rfl,rfl,bh3,bq4⟩:=bq3.step
 obtain⟨bn3,be3,rfl,rfl,blo3,bhi3⟩:=bh3.int
 obtain⟨bv4,br4,bS4,bT4,rfl,rfl,bh4,bq5⟩:=bq4.step
 obtain⟨bc4,be4⟩:=bh4.one rfl
 rw[be4]at bh4
 obtain⟨_,rfl,rfl⟩:=bq5
 have bhsz:cb.length=5:=hb.size
 simp only[Ty.size,Ty.aU,Nat.reduceAdd,Nat.zero_add,List.drop_zero]at ae0 ae1 ae2 ae3 ae4 ahsz be0 be1 be2 be3 be4 bhsz
 refine aZ PO rfl ?_
 simp(disch:=omega) only[ae,vH,ae0,ae1,ae2,ae3,ae4,ahsz,be0,be1,be2,be3,be4,bhsz,bh,aN,SX,SU,SL,reduceCtorEq,Nat.reduceAdd,Nat.reduceLeDiff,reduceIte]
 refine aV (fun hn=> ?_) (fun hn=> ?_)
 case refine_1=>
  simp(disch:=omega) only[ae,vH,ae0,ae1,ae2,ae3,ae4,ahsz,be0,be1,be2,be3,be4,bhsz,bh,aN,SX,SU,SL,reduceCtorEq,Nat.reduceAdd,Nat.reduceLeDiff,reduceIte]
  simp[hn]
 have d0:an0=bn0:=by omega
 subst d0
 simp(disch:=omega) only[ae,vH,ae0,ae1,ae2,ae3,ae4,ahsz,be0,be1,be2,be3,be4,bhsz,bh,aN,SX,SU,SL,reduceCtorEq,Nat.reduceAdd,Nat.reduceLeDiff,reduceIte]
 refine aV (fun hn=> ?_) (fun hn=> ?_)
 case refine_1=>
  simp(disch:=omega) only[ae,vH,ae0,ae1,ae2,ae3,ae4,ahsz,be0,be1,be2,be3,be4,bhsz,bh,aN,SX,SU,SL,reduceCtorEq,Nat.reduceAdd,Nat.reduceLeDiff,reduceIte]
  simp[hn]
 have d1:an1=bn1:=by omega
 subst d1
 simp(disch:=omega) only[ae,vH,ae0,ae1,ae2,ae3,ae4,ahsz,be0,be1,be2,be3,be4,bhsz,bh,aN,SX,SU,SL,reduceCtorEq,Nat.reduceAdd,Nat.reduceLeDiff,reduceIte]
 refine cG.go fe ah2 bh2 (fun d2=> ?_) (fun d2=> ?_)
 case refine_2=>
  simp(disch:=omega) only[ae,vH,ae0,ae1,ae2,ae3,ae4,ahsz,be0,be1,be2,be3,be4,bhsz,bh,aN,SX,SU,SL,reduceCtorEq,Nat.reduceAdd,Nat.reduceLeDiff,reduceIte]
  simp[d2]
 subst d2
 simp(disch:=omega) only[ae,vH,ae0,ae1,ae2,ae3,ae4,ahsz,be0,be1,be2,be3,be4,bhsz,bh,aN,SX,SU,SL,reduceCtorEq,Nat.reduceAdd,Nat.reduceLeDiff,reduceIte]
 refine aV (fun hn=> ?_) (fun hn=> ?_)
 case refine_1=>
  simp(disch:=omega) only[ae,vH,ae0,ae1,ae2,ae3,ae4,ahsz,be0,be1,be2,be3,be4,bhsz,bh,aN,SX,SU,SL,reduceCtorEq,Nat.reduceAdd,Nat.reduceLeDiff,reduceIte]
  simp[hn]
 have d3:an3=bn3:=by omega
 subst d3
 simp(disch:=omega) only[ae,vH,ae0,ae1,ae2,ae3,ae4,ahsz,be0,be1,be2,be3,be4,bhsz,bh,aN,SX,SU,SL,reduceCtorEq,Nat.reduceAdd,Nat.reduceLeDiff,reduceIte]
 refine cG.go fe ah4 bh4 (fun d4=> ?_) (fun d4=> ?_)
 case refine_2=>
  simp(disch:=omega) only[ae,vH,ae0,ae1,ae2,ae3,ae4,ahsz,be0,be1,be2,be3,be4,bhsz,bh,aN,SX,SU,SL,reduceCtorEq,Nat.reduceAdd,Nat.reduceLeDiff,reduceIte]
  simp[d4]
 subst d4
 simp(disch:=omega) only[ae,vH,ae0,ae1,ae2,ae3,ae4,ahsz,be0,be1,be2,be3,be4,bhsz,bh,aN,SX,SU,SL,reduceCtorEq,Nat.reduceAdd,Nat.reduceLeDiff,reduceIte]
def vR:AF:=⟨2,6,[.tmp 4],(.seq (.ops [.i (.lbox 2 (.s 0)), .i (.lbox 3 (.s 1)), .i (.mov 4 (qb false))]) (.seq (.seq (.ops [qf 5 2 0,ql 6 2 5 1 false,qf 7 3 0,ql 8 3 7 1 false,qd 9 .neq 6 8]) (.cond (.s 9) (.seq (.ops [.i (.mov 4 (qb false))]) .ret) .skip)) (.seq (.seq (.ops [qf 10 2 1,ql 11 2 10 1 false,qf 12 3 1,ql 13 3 12 1 false,qd 14 .neq 11 13]) (.cond (.s 14) (.seq (.ops [.i (.mov 4 (qb false))]) .ret) .skip)) (.seq (.seq (.ops [qf 15 2 2,ql 16 2 15 1 false,qf 17 3 2,ql 18 3 17 1 false, .i (.call 20 15 false [(.s 16),(.s 18)]), .i (.not 20 (.s 19))]) (.cond (.s 20) (.seq (.ops [.i (.mov 4 (qb false))]) .ret) .skip)) (.seq (.seq (.ops [qf 21 2 3,ql 22 2 21 1 false,qf 23 3 3,ql 24 3 23 1 false, .i (.call 26 15 false [(.s 22),(.s 24)]), .i (.not 26 (.s 25))]) (.cond (.s 26) (.seq (.ops [.i (.mov 4 (qb false))]) .ret) .skip)) (.seq (.seq (.ops [qf 27 2 4,ql 28 2 27 1 false,qf 29 3 4,ql 30 3 29 1 false, .i (.call 32 32 false [(.s 28),(.s 30)]), .i (.not 32 (.s 31))]) (.cond (.s 32) (.seq (.ops [.i (.mov 4 (qb false))]) .ret) .skip)) (.seq (.ops [.i (.mov 4 (qb true))]) .ret)))))))⟩
theorem Qb:cd 107=some vR:=by kernel_rfl
theorem JE:cG cd 107 za:=by
 intro h ca cb va vb Sa Sb ha hb
 obtain⟨avs,rfl,aq0⟩:=ha.st
 obtain⟨av0,ar0,aS0,aT0,rfl,rfl,ah0,aq1⟩:=aq0.step
 obtain⟨an0,ae0,rfl,rfl,alo0,ahi0⟩:=ah0.int
 obtain⟨av1,ar1,aS1,aT1,rfl,rfl,ah1,aq2⟩:=aq1.step
 obtain⟨an1,ae1,rfl,rfl,alo1,ahi1⟩:=ah1.int
 obtain⟨av2,ar2,aS2,aT2,rfl,rfl,ah2,aq3⟩:=aq2.step
 obtain⟨ac2,ae2⟩:=ah2.one rfl
 rw[ae2]at ah2
 obtain⟨av3,ar3,aS3,aT3,rfl,rfl,ah3,aq4⟩:=aq3.step
 obtain⟨ac3,ae3⟩:=ah3.one rfl
 rw[ae3]at ah3
 obtain⟨av4,ar4,aS4,aT4,rfl,rfl,ah4,aq5⟩:=aq4.step
 obtain⟨ac4,ae4⟩:=ah4.one rfl
 rw[ae4]at ah4
 obtain⟨_,rfl,rfl⟩:=aq5
 have ahsz:ca.length=5:=ha.size
 obtain⟨bvs,rfl,bq0⟩:=hb.st
 obtain⟨bv0,br0,bS0,bT0,rfl,rfl,bh0,bq1⟩:=bq0.step
 obtain⟨bn0,be0,rfl,rfl,blo0,bhi0⟩:=bh0.int
 obtain⟨bv1,br1,bS1,bT1,rfl,rfl,bh1,bq2⟩:=bq1.step
 obtain⟨bn1,be1,rfl,rfl,blo1,bhi1⟩:=bh1.int
 obtain⟨bv2,br2,bS2,bT2,rfl,rfl,bh2,bq3⟩:=bq2.step
 obtain⟨bc2,be2⟩:=bh2.one rfl
 rw[be2]at bh2
 obtain⟨bv3,br3,bS3,bT3,rfl,rfl,bh3,bq4⟩:=bq3.step
 obtain⟨bc3,be3⟩:=bh3.one rfl
 rw[be3]at bh3
 obtain⟨bv4,br4,bS4,bT4,rfl,rfl,bh4,bq5⟩:=bq4.step
 obtain⟨bc4,be4⟩:=bh4.one rfl
 rw[be4]at bh4
 obtain⟨_,rfl,rfl⟩:=bq5
 have bhsz:cb.length=5:=hb.size
 simp only[Ty.size,Ty.aU,Nat.reduceAdd,Nat.zero_add,List.drop_zero]at ae0 ae1 ae2 ae3 ae4 ahsz be0 be1 be2 be3 be4 bhsz
 refine aZ Qb rfl ?_
 simp(disch:=omega) only[ae,vR,ae0,ae1,ae2,ae3,ae4,ahsz,be0,be1,be2,be3,be4,bhsz,bh,aN,SX,SU,SL,reduceCtorEq,Nat.reduceAdd,Nat.reduceLeDiff,reduceIte]
 refine aV (fun hn=> ?_) (fun hn=> ?_)
 case refine_1=>
  simp(disch:=omega) only[ae,vR,ae0,ae1,ae2,ae3,ae4,ahsz,be0,be1,be2,be3,be4,bhsz,bh,aN,SX,SU,SL,reduceCtorEq,Nat.reduceAdd,Nat.reduceLeDiff,reduceIte]
  simp[hn]
 have d0:an0=bn0:=by omega
 subst d0
 simp(disch:=omega) only[ae,vR,ae0,ae1,ae2,ae3,ae4,ahsz,be0,be1,be2,be3,be4,bhsz,bh,aN,SX,SU,SL,reduceCtorEq,Nat.reduceAdd,Nat.reduceLeDiff,reduceIte]
 refine aV (fun hn=> ?_) (fun hn=> ?_)
 case refine_1=>
  simp(disch:=omega) only[ae,vR,ae0,ae1,ae2,ae3,ae4,ahsz,be0,be1,be2,be3,be4,bhsz,bh,aN,SX,SU,SL,reduceCtorEq,Nat.reduceAdd,Nat.reduceLeDiff,reduceIte]
  simp[hn]
 have d1:an1=bn1:=by omega
 subst d1
 simp(disch:=omega) only[ae,vR,ae0,ae1,ae2,ae3,ae4,ahsz,be0,be1,be2,be3,be4,bhsz,bh,aN,SX,SU,SL,reduceCtorEq,Nat.reduceAdd,Nat.reduceLeDiff,reduceIte]
 refine cG.go fe ah2 bh2 (fun d2=> ?_) (fun d2=> ?_)
 case refine_2=>
  simp(disch:=omega) only[ae,vR,ae0,ae1,ae2,ae3,ae4,ahsz,be0,be1,be2,be3,be4,bhsz,bh,aN,SX,SU,SL,reduceCtorEq,Nat.reduceAdd,Nat.reduceLeDiff,reduceIte]
  simp[d2]
 subst d2
 simp(disch:=omega) only[ae,vR,ae0,ae1,ae2,ae3,ae4,ahsz,be0,be1,be2,be3,be4,bhsz,bh,aN,SX,SU,SL,reduceCtorEq,Nat.reduceAdd,Nat.reduceLeDiff,reduceIte]
 refine cG.go fe ah3 bh3 (fun d3=> ?_) (fun d3=> ?_)
 case refine_2=>
  simp(disch:=omega) only[ae,vR,ae0,ae1,ae2,ae3,ae4,ahsz,be0,be1,be2,be3,be4,bhsz,bh,aN,SX,SU,SL,reduceCtorEq,Nat.reduceAdd,Nat.reduceLeDiff,reduceIte]
  simp[d3]
 subst d3
 simp(disch:=omega) only[ae,vR,ae0,ae1,ae2,ae3,ae4,ahsz,be0,be1,be2,be3,be4,bhsz,bh,aN,SX,SU,SL,reduceCtorEq,Nat.reduceAdd,Nat.reduceLeDiff,reduceIte]
 refine cG.go pb ah4 bh4 (fun d4=> ?_) (fun d4=> ?_)
 case refine_2=>
  simp(disch:=omega) only[ae,vR,ae0,ae1,ae2,ae3,ae4,ahsz,be0,be1,be2,be3,be4,bhsz,bh,aN,SX,SU,SL,reduceCtorEq,Nat.reduceAdd,Nat.reduceLeDiff,reduceIte]
  simp[d4]
 subst d4
 simp(disch:=omega) only[ae,vR,ae0,ae1,ae2,ae3,ae4,ahsz,be0,be1,be2,be3,be4,bhsz,bh,aN,SX,SU,SL,reduceCtorEq,Nat.reduceAdd,Nat.reduceLeDiff,reduceIte]
def sy:AF:=⟨2,6,[.tmp 4],(.seq (.ops [.i (.lbox 2 (.s 0)), .i (.lbox 3 (.s 1)), .i (.mov 4 (qb false))]) (.seq (.seq (.ops [qf 5 2 0,ql 6 2 5 1 false,qf 7 3 0,ql 8 3 7 1 false,qd 9 .neq 6 8]) (.cond (.s 9) (.seq (.ops [.i (.mov 4 (qb false))]) .ret) .skip)) (.seq (.seq (.ops [qf 10 2 1,ql 11 2 10 1 false,qf 12 3 1,ql 13 3 12 1 false,qd 14 .neq 11 13]) (.cond (.s 14) (.seq (.ops [.i (.mov 4 (qb false))]) .ret) .skip)) (.seq (.seq (.ops [qf 15 2 2,ql 16 2 15 1 false,qf 17 3 2,ql 18 3 17 1 false,qd 19 .neq 16 18]) (.cond (.s 19) (.seq (.ops [.i (.mov 4 (qb false))]) .ret) .skip)) (.seq (.seq (.ops [qf 20 2 3,ql 21 2 20 1 false,qf 22 3 3,ql 23 3 22 1 false, .i (.call 25 15 false [(.s 21),(.s 23)]), .i (.not 25 (.s 24))]) (.cond (.s 25) (.seq (.ops [.i (.mov 4 (qb false))]) .ret) .skip)) (.seq (.seq (.ops [qf 26 2 4,ql 27 2 26 1 false,qf 28 3 4,ql 29 3 28 1 false, .i (.call 31 15 false [(.s 27),(.s 29)]), .i (.not 31 (.s 30))]) (.cond (.s 31) (.seq (.ops [.i (.mov 4 (qb false))]) .ret) .skip)) (.seq (.seq (.ops [qf 32 2 5,ql 33 2 32 5 true,qf 34 3 5,ql 35 3 34 5 true, .i (.call 37 107 false [(.s 33),(.s 35)]), .i (.not 37 (.s 36))]) (.cond (.s 37) (.seq (.ops [.i (.mov 4 (qb false))]) .ret) .skip)) (.seq (.ops [.i (.mov 4 (qb true))]) .ret))))))))⟩
theorem PS:cd 108=some sy:=by kernel_rfl
theorem Bt:cG cd 108 c8:=by
 intro h ca cb va vb Sa Sb ha hb
 obtain⟨avs,rfl,aq0⟩:=ha.st
 obtain⟨av0,ar0,aS0,aT0,rfl,rfl,ah0,aq1⟩:=aq0.step
 obtain⟨an0,ae0,rfl,rfl,alo0,ahi0⟩:=ah0.int
 obtain⟨av1,ar1,aS1,aT1,rfl,rfl,ah1,aq2⟩:=aq1.step
 obtain⟨an1,ae1,rfl,rfl,alo1,ahi1⟩:=ah1.int
 obtain⟨av2,ar2,aS2,aT2,rfl,rfl,ah2,aq3⟩:=aq2.step
 obtain⟨an2,ae2,rfl,rfl,alo2,ahi2⟩:=ah2.int
 obtain⟨av3,ar3,aS3,aT3,rfl,rfl,ah3,aq4⟩:=aq3.step
 obtain⟨ac3,ae3⟩:=ah3.one rfl
 rw[ae3]at ah3
 obtain⟨av4,ar4,aS4,aT4,rfl,rfl,ah4,aq5⟩:=aq4.step
 obtain⟨ac4,ae4⟩:=ah4.one rfl
 rw[ae4]at ah4
 obtain⟨av5,ar5,aS5,aT5,rfl,rfl,ah5,aq6⟩:=aq5.step
 obtain⟨_,rfl,rfl⟩:=aq6
 have ahsz:ca.length=10:=ha.size
 obtain⟨bvs,rfl,bq0⟩:=hb.st
 obtain⟨bv0,br0,bS0,bT0,rfl,rfl,bh0,bq1⟩:=bq0.step
 obtain⟨bn0,be0,rfl,rfl,blo0,bhi0⟩:=bh0.int
 obtain⟨bv1,br1,bS1,bT1,rfl,rfl,bh1,bq2⟩:=bq1.step
 obtain⟨bn1,be1,rfl,rfl,blo1,bhi1⟩:=bh1.int
 obtain⟨bv2,br2,bS2,bT2,rfl,rfl,bh2,bq3⟩:=bq2.step
 obtain⟨bn2,be2,rfl,rfl,blo2,bhi2⟩:=bh2.int
 obtain⟨bv3,br3,bS3,bT3,rfl,rfl,bh3,bq4⟩:=bq3.step
 obtain⟨bc3,be3⟩:=bh3.one rfl
 rw[be3]at bh3
 obtain⟨bv4,br4,bS4,bT4,rfl,rfl,bh4,bq5⟩:=bq4.step
 obtain⟨bc4,be4⟩:=bh4.one rfl
 rw[be4]at bh4
 obtain⟨bv5,br5,bS5,bT5,rfl,rfl,bh5,bq6⟩:=bq5.step
 obtain⟨_,rfl,rfl⟩:=bq6
 have bhsz:cb.length=10:=hb.size
 simp only[Ty.size,Ty.aU,Nat.reduceAdd,Nat.zero_add,List.drop_zero]at ae0 ae1 ae2 ae3 ae4 ahsz be0 be1 be2 be3 be4 bhsz ah5 bh5
 refine aZ PS rfl ?_
 simp(disch:=omega) only[ae,sy,ae0,ae1,ae2,ae3,ae4,ahsz,be0,be1,be2,be3,be4,bhsz,bh,aN,SX,SU,SL,reduceCtorEq,Nat.reduceAdd,Nat.reduceLeDiff,reduceIte]
 refine aV (fun hn=> ?_) (fun hn=> ?_)
 case refine_1=>
  simp(disch:=omega) only[ae,sy,ae0,ae1,ae2,ae3,ae4,ahsz,be0,be1,be2,be3,be4,bhsz,bh,aN,SX,SU,SL,reduceCtorEq,Nat.reduceAdd,Nat.reduceLeDiff,reduceIte]
  simp[hn]
 have d0:an0=bn0:=by omega
 subst d0
 simp(disch:=omega) only[ae,sy,ae0,ae1,ae2,ae3,ae4,ahsz,be0,be1,be2,be3,be4,bhsz,bh,aN,SX,SU,SL,reduceCtorEq,Nat.reduceAdd,Nat.reduceLeDiff,reduceIte]
 refine aV (fun hn=> ?_) (fun hn=> ?_)
 case refine_1=>
  simp(disch:=omega) only[ae,sy,ae0,ae1,ae2,ae3,ae4,ahsz,be0,be1,be2,be3,be4,bhsz,bh,aN,SX,SU,SL,reduceCtorEq,Nat.reduceAdd,Nat.reduceLeDiff,reduceIte]
  simp[hn]
 have d1:an1=bn1:=by omega
 subst d1
 simp(disch:=omega) only[ae,sy,ae0,ae1,ae2,ae3,ae4,ahsz,be0,be1,be2,be3,be4,bhsz,bh,aN,SX,SU,SL,reduceCtorEq,Nat.reduceAdd,Nat.reduceLeDiff,reduceIte]
 refine aV (fun hn=> ?_) (fun hn=> ?_)
 case refine_1=>
  simp(disch:=omega) only[ae,sy,ae0,ae1,ae2,ae3,ae4,ahsz,be0,be1,be2,be3,be4,bhsz,bh,aN,SX,SU,SL,reduceCtorEq,Nat.reduceAdd,Nat.reduceLeDiff,reduceIte]
  simp[hn]
 have d2:an2=bn2:=by omega
 subst d2
 simp(disch:=omega) only[ae,sy,ae0,ae1,ae2,ae3,ae4,ahsz,be0,be1,be2,be3,be4,bhsz,bh,aN,SX,SU,SL,reduceCtorEq,Nat.reduceAdd,Nat.reduceLeDiff,reduceIte]
 refine cG.go fe ah3 bh3 (fun d3=> ?_) (fun d3=> ?_)
 case refine_2=>
  simp(disch:=omega) only[ae,sy,ae0,ae1,ae2,ae3,ae4,ahsz,be0,be1,be2,be3,be4,bhsz,bh,aN,SX,SU,SL,reduceCtorEq,Nat.reduceAdd,Nat.reduceLeDiff,reduceIte]
  simp[d3]
 subst d3
 simp(disch:=omega) only[ae,sy,ae0,ae1,ae2,ae3,ae4,ahsz,be0,be1,be2,be3,be4,bhsz,bh,aN,SX,SU,SL,reduceCtorEq,Nat.reduceAdd,Nat.reduceLeDiff,reduceIte]
 refine cG.go fe ah4 bh4 (fun d4=> ?_) (fun d4=> ?_)
 case refine_2=>
  simp(disch:=omega) only[ae,sy,ae0,ae1,ae2,ae3,ae4,ahsz,be0,be1,be2,be3,be4,bhsz,bh,aN,SX,SU,SL,reduceCtorEq,Nat.reduceAdd,Nat.reduceLeDiff,reduceIte]
  simp[d4]
 subst d4
 simp(disch:=omega) only[ae,sy,ae0,ae1,ae2,ae3,ae4,ahsz,be0,be1,be2,be3,be4,bhsz,bh,aN,SX,SU,SL,reduceCtorEq,Nat.reduceAdd,Nat.reduceLeDiff,reduceIte]
 refine cG.go JE ah5 bh5 (fun d5=> ?_) (fun d5=> ?_)
 case refine_2=>
  simp(disch:=omega) only[ae,sy,ae0,ae1,ae2,ae3,ae4,ahsz,be0,be1,be2,be3,be4,bhsz,bh,aN,SX,SU,SL,reduceCtorEq,Nat.reduceAdd,Nat.reduceLeDiff,reduceIte]
  simp[d5]
 subst d5
 simp(disch:=omega) only[ae,sy,ae0,ae1,ae2,ae3,ae4,ahsz,be0,be1,be2,be3,be4,bhsz,bh,aN,SX,SU,SL,reduceCtorEq,Nat.reduceAdd,Nat.reduceLeDiff,reduceIte]
def HN:AF:=⟨2,5,[.tmp 4],(.seq (.ops [.i (.lbox 2 (.s 0)), .i (.lbox 3 (.s 1)), .i (.mov 4 (qb false))]) (.seq (.seq (.ops [qf 5 2 0,ql 6 2 5 10 true,qf 7 3 0,ql 8 3 7 10 true, .i (.call 10 108 false [(.s 6),(.s 8)]), .i (.not 10 (.s 9))]) (.cond (.s 10) (.seq (.ops [.i (.mov 4 (qb false))]) .ret) .skip)) (.seq (.seq (.ops [qf 11 2 10,ql 12 2 11 1 false,qf 13 3 10,ql 14 3 13 1 false, .i (.call 16 32 false [(.s 12),(.s 14)]), .i (.not 16 (.s 15))]) (.cond (.s 16) (.seq (.ops [.i (.mov 4 (qb false))]) .ret) .skip)) (.seq (.ops [.i (.mov 4 (qb true))]) .ret))))⟩
theorem Qd:cd 109=some HN:=by kernel_rfl
theorem Ka:cG cd 109 iZ:=by
 intro h ca cb va vb Sa Sb ha hb
 obtain⟨avs,rfl,aq0⟩:=ha.st
 obtain⟨av0,ar0,aS0,aT0,rfl,rfl,ah0,aq1⟩:=aq0.step
 obtain⟨av1,ar1,aS1,aT1,rfl,rfl,ah1,aq2⟩:=aq1.step
 obtain⟨ac1,ae1⟩:=ah1.one rfl
 rw[ae1]at ah1
 obtain⟨_,rfl,rfl⟩:=aq2
 have ahsz:ca.length=11:=ha.size
 obtain⟨bvs,rfl,bq0⟩:=hb.st
 obtain⟨bv0,br0,bS0,bT0,rfl,rfl,bh0,bq1⟩:=bq0.step
 obtain⟨bv1,br1,bS1,bT1,rfl,rfl,bh1,bq2⟩:=bq1.step
 obtain⟨bc1,be1⟩:=bh1.one rfl
 rw[be1]at bh1
 obtain⟨_,rfl,rfl⟩:=bq2
 have bhsz:cb.length=11:=hb.size
 simp only[Ty.size,Ty.aU,Nat.reduceAdd,Nat.zero_add,List.drop_zero]at ae1 ahsz be1 bhsz ah0 bh0
 refine aZ Qd rfl ?_
 simp(disch:=omega) only[ae,HN,ae1,ahsz,be1,bhsz,bh,aN,SX,SU,SL,reduceCtorEq,Nat.reduceAdd,Nat.reduceLeDiff,reduceIte]
 refine cG.go Bt ah0 bh0 (fun d0=> ?_) (fun d0=> ?_)
 case refine_2=>
  simp(disch:=omega) only[ae,HN,ae1,ahsz,be1,bhsz,bh,aN,SX,SU,SL,reduceCtorEq,Nat.reduceAdd,Nat.reduceLeDiff,reduceIte]
  simp[d0]
 subst d0
 simp(disch:=omega) only[ae,HN,ae1,ahsz,be1,bhsz,bh,aN,SX,SU,SL,reduceCtorEq,Nat.reduceAdd,Nat.reduceLeDiff,reduceIte]
 refine cG.go pb ah1 bh1 (fun d1=> ?_) (fun d1=> ?_)
 case refine_2=>
  simp(disch:=omega) only[ae,HN,ae1,ahsz,be1,bhsz,bh,aN,SX,SU,SL,reduceCtorEq,Nat.reduceAdd,Nat.reduceLeDiff,reduceIte]
  simp[d1]
 subst d1
 simp(disch:=omega) only[ae,HN,ae1,ahsz,be1,bhsz,bh,aN,SX,SU,SL,reduceCtorEq,Nat.reduceAdd,Nat.reduceLeDiff,reduceIte]
def C7:AF:=⟨2,5,[.tmp 4],(.seq (.ops [.i (.lbox 2 (.s 0)), .i (.lbox 3 (.s 1)), .i (.mov 4 (qb false))]) (.seq (.seq (.ops [qf 5 2 0,ql 6 2 5 1 false,qf 7 3 0,ql 8 3 7 1 false,qd 9 .neq 6 8]) (.cond (.s 9) (.seq (.ops [.i (.mov 4 (qb false))]) .ret) .skip)) (.seq (.seq (.ops [qf 10 2 1,ql 11 2 10 1 false,qf 12 3 1,ql 13 3 12 1 false,qd 14 .neq 11 13]) (.cond (.s 14) (.seq (.ops [.i (.mov 4 (qb false))]) .ret) .skip)) (.seq (.seq (.ops [qf 15 2 2,ql 16 2 15 1 false,qf 17 3 2,ql 18 3 17 1 false, .i (.call 20 15 false [(.s 16),(.s 18)]), .i (.not 20 (.s 19))]) (.cond (.s 20) (.seq (.ops [.i (.mov 4 (qb false))]) .ret) .skip)) (.seq (.ops [.i (.mov 4 (qb true))]) .ret)))))⟩
theorem P4:cd 249=some C7:=by kernel_rfl
theorem IC:cG cd 249 fv:=by
 intro h ca cb va vb Sa Sb ha hb
 obtain⟨avs,rfl,aq0⟩:=ha.st
 obtain⟨av0,ar0,aS0,aT0,rfl,rfl,ah0,aq1⟩:=aq0.step
 obtain⟨an0,ae0,rfl,rfl,alo0,ahi0⟩:=ah0.int
 obtain⟨av1,ar1,aS1,aT1,rfl,rfl,ah1,aq2⟩:=aq1.step
 obtain⟨an1,ae1,rfl,rfl,alo1,ahi1⟩:=ah1.int
 obtain⟨av2,ar2,aS2,aT2,rfl,rfl,ah2,aq3⟩:=aq2.step
 obtain⟨ac2,ae2⟩:=ah2.one rfl
 rw[ae2]at ah2
 obtain⟨_,rfl,rfl⟩:=aq3
 have ahsz:ca.length=3:=ha.size
 obtain⟨bvs,rfl,bq0⟩:=hb.st
 obtain⟨bv0,br0,bS0,bT0,rfl,rfl,bh0,bq1⟩:=bq0.step
 obtain⟨bn0,be0,rfl,rfl,blo0,bhi0⟩:=bh0.int
 obtain⟨bv1,br1,bS1,bT1,rfl,rfl,bh1,bq2⟩:=bq1.step
 obtain⟨bn1,be1,rfl,rfl,blo1,bhi1⟩:=bh1.int
 obtain⟨bv2,br2,bS2,bT2,rfl,rfl,bh2,bq3⟩:=bq2.step
 obtain⟨bc2,be2⟩:=bh2.one rfl
 rw[be2]at bh2
 obtain⟨_,rfl,rfl⟩:=bq3
 have bhsz:cb.length=3:=hb.size
 simp only[Ty.size,Ty.aU,Nat.reduceAdd,Nat.zero_add,List.drop_zero]at ae0 ae1 ae2 ahsz be0 be1 be2 bhsz
 refine aZ P4 rfl ?_
 simp(disch:=omega) only[ae,C7,ae0,ae1,ae2,ahsz,be0,be1,be2,bhsz,bh,aN,SX,SU,SL,reduceCtorEq,Nat.reduceAdd,Nat.reduceLeDiff,reduceIte]
 refine aV (fun hn=> ?_) (fun hn=> ?_)
 case refine_1=>
  simp(disch:=omega) only[ae,C7,ae0,ae1,ae2,ahsz,be0,be1,be2,bhsz,bh,aN,SX,SU,SL,reduceCtorEq,Nat.reduceAdd,Nat.reduceLeDiff,reduceIte]
  simp[hn]
 have d0:an0=bn0:=by omega
 subst d0
 simp(disch:=omega) only[ae,C7,ae0,ae1,ae2,ahsz,be0,be1,be2,bhsz,bh,aN,SX,SU,SL,reduceCtorEq,Nat.reduceAdd,Nat.reduceLeDiff,reduceIte]
 refine aV (fun hn=> ?_) (fun hn=> ?_)
 case refine_1=>
  simp(disch:=omega) only[ae,C7,ae0,ae1,ae2,ahsz,be0,be1,be2,bhsz,bh,aN,SX,SU,SL,reduceCtorEq,Nat.reduceAdd,Nat.reduceLeDiff,reduceIte]
  simp[hn]
 have d1:an1=bn1:=by omega
 subst d1
 simp(disch:=omega) only[ae,C7,ae0,ae1,ae2,ahsz,be0,be1,be2,bhsz,bh,aN,SX,SU,SL,reduceCtorEq,Nat.reduceAdd,Nat.reduceLeDiff,reduceIte]
 refine cG.go fe ah2 bh2 (fun d2=> ?_) (fun d2=> ?_)
 case refine_2=>
  simp(disch:=omega) only[ae,C7,ae0,ae1,ae2,ahsz,be0,be1,be2,bhsz,bh,aN,SX,SU,SL,reduceCtorEq,Nat.reduceAdd,Nat.reduceLeDiff,reduceIte]
  simp[d2]
 subst d2
 simp(disch:=omega) only[ae,C7,ae0,ae1,ae2,ahsz,be0,be1,be2,bhsz,bh,aN,SX,SU,SL,reduceCtorEq,Nat.reduceAdd,Nat.reduceLeDiff,reduceIte]
def PU:AF:=⟨2,5,[.tmp 4],(.seq (.ops [.i (.mov 4 (qb false))]) (.seq (.seq (.ops [qm 6 0,qn 7 6,qm 8 1,qn 9 8,qd 10 .neq 7 9]) (.cond (.s 10) (.seq (.ops [.i (.mov 4 (qb false))]) .ret) .skip)) (.seq (.seq (.ops [.i (.mov 5 (qi 0))]) (.block 0 (.loop [26,25,24,23,22,21,20,19,18,17,16,15,14,13,12,11] (.seq (.seq (.ops [qm 11 5,qm 12 0,qn 13 12,qd 14 .lss 11 13]) (.cond (.s 14) .skip (.exit 0))) (.seq (.block 1 (.seq (.ops [qm 17 0,qm 18 5, .i (.iad 19 (.s 17) (.s 18) 3), .i (.ldh 20 (.s 19) 3 true),qm 21 1,qm 22 5, .i (.iad 23 (.s 21) (.s 22) 3), .i (.ldh 24 (.s 23) 3 true), .i (.call 26 249 false [(.s 20),(.s 24)]), .i (.not 26 (.s 25))]) (.cond (.s 26) (.seq (.ops [.i (.mov 4 (qb false))]) .ret) .skip))) (.ops [qm 15 5, .i (.bin 16 .add (.s 15) (qi 1)),qm 5 16])))))) (.seq (.ops [.i (.mov 4 (qb true))]) .ret))))⟩
theorem P3:cd 166=some PU:=by kernel_rfl
theorem Hv:cG cd 166 (.sl fv):=F3 P3 IC
def HR:AF:=⟨2,5,[.tmp 4],(.seq (.ops [.i (.lbox 2 (.s 0)), .i (.lbox 3 (.s 1)), .i (.mov 4 (qb false))]) (.seq (.seq (.ops [qf 5 2 0,ql 6 2 5 1 false,qf 7 3 0,ql 8 3 7 1 false,qd 9 .neq 6 8]) (.cond (.s 9) (.seq (.ops [.i (.mov 4 (qb false))]) .ret) .skip)) (.seq (.seq (.ops [qf 10 2 1,ql 11 2 10 1 false,qf 12 3 1,ql 13 3 12 1 false, .i (.call 15 166 false [(.s 11),(.s 13)]), .i (.not 15 (.s 14))]) (.cond (.s 15) (.seq (.ops [.i (.mov 4 (qb false))]) .ret) .skip)) (.seq (.ops [.i (.mov 4 (qb true))]) .ret))))⟩
theorem P8:cd 110=some HR:=by kernel_rfl
theorem Ph:cG cd 110 LQ:=by
 intro h ca cb va vb Sa Sb ha hb
 obtain⟨avs,rfl,aq0⟩:=ha.st
 obtain⟨av0,ar0,aS0,aT0,rfl,rfl,ah0,aq1⟩:=aq0.step
 obtain⟨an0,ae0,rfl,rfl,alo0,ahi0⟩:=ah0.int
 obtain⟨av1,ar1,aS1,aT1,rfl,rfl,ah1,aq2⟩:=aq1.step
 obtain⟨ac1,ae1⟩:=ah1.one rfl
 rw[ae1]at ah1
 obtain⟨_,rfl,rfl⟩:=aq2
 have ahsz:ca.length=2:=ha.size
 obtain⟨bvs,rfl,bq0⟩:=hb.st
 obtain⟨bv0,br0,bS0,bT0,rfl,rfl,bh0,bq1⟩:=bq0.step
 obtain⟨bn0,be0,rfl,rfl,blo0,bhi0⟩:=bh0.int
 obtain⟨bv1,br1,bS1,bT1,rfl,rfl,bh1,bq2⟩:=bq1.step
 obtain⟨bc1,be1⟩:=bh1.one rfl
 rw[be1]at bh1
 obtain⟨_,rfl,rfl⟩:=bq2
 have bhsz:cb.length=2:=hb.size
 simp only[Ty.size,Ty.aU,Nat.reduceAdd,Nat.zero_add,List.drop_zero]at ae0 ae1 ahsz be0 be1 bhsz
 refine aZ P8 rfl ?_
 simp(disch:=omega) only[ae,HR,ae0,ae1,ahsz,be0,be1,bhsz,bh,aN,SX,SU,SL,reduceCtorEq,Nat.reduceAdd,Nat.reduceLeDiff,reduceIte]
 refine aV (fun hn=> ?_) (fun hn=> ?_)
 case refine_1=>
  simp(disch:=omega) only[ae,HR,ae0,ae1,ahsz,be0,be1,bhsz,bh,aN,SX,SU,SL,reduceCtorEq,Nat.reduceAdd,Nat.reduceLeDiff,reduceIte]
  simp[hn]
 have d0:an0=bn0:=by omega
 subst d0
 simp(disch:=omega) only[ae,HR,ae0,ae1,ahsz,be0,be1,bhsz,bh,aN,SX,SU,SL,reduceCtorEq,Nat.reduceAdd,Nat.reduceLeDiff,reduceIte]
 refine cG.go Hv ah1 bh1 (fun d1=> ?_) (fun d1=> ?_)
 case refine_2=>
  simp(disch:=omega) only[ae,HR,ae0,ae1,ahsz,be0,be1,bhsz,bh,aN,SX,SU,SL,reduceCtorEq,Nat.reduceAdd,Nat.reduceLeDiff,reduceIte]
  simp[d1]
 subst d1
 simp(disch:=omega) only[ae,HR,ae0,ae1,ahsz,be0,be1,bhsz,bh,aN,SX,SU,SL,reduceCtorEq,Nat.reduceAdd,Nat.reduceLeDiff,reduceIte]
def PY:AF:=⟨2,5,[.tmp 4],(.seq (.ops [.i (.mov 4 (qb false))]) (.seq (.seq (.ops [qm 6 0,qn 7 6,qm 8 1,qn 9 8,qd 10 .neq 7 9]) (.cond (.s 10) (.seq (.ops [.i (.mov 4 (qb false))]) .ret) .skip)) (.seq (.seq (.ops [.i (.mov 5 (qi 0))]) (.block 0 (.loop [26,25,24,23,22,21,20,19,18,17,16,15,14,13,12,11] (.seq (.seq (.ops [qm 11 5,qm 12 0,qn 13 12,qd 14 .lss 11 13]) (.cond (.s 14) .skip (.exit 0))) (.seq (.block 1 (.seq (.ops [qm 17 0,qm 18 5, .i (.iad 19 (.s 17) (.s 18) 10), .i (.ldh 20 (.s 19) 10 true),qm 21 1,qm 22 5, .i (.iad 23 (.s 21) (.s 22) 10), .i (.ldh 24 (.s 23) 10 true), .i (.call 26 108 false [(.s 20),(.s 24)]), .i (.not 26 (.s 25))]) (.cond (.s 26) (.seq (.ops [.i (.mov 4 (qb false))]) .ret) .skip))) (.ops [qm 15 5, .i (.bin 16 .add (.s 15) (qi 1)),qm 5 16])))))) (.seq (.ops [.i (.mov 4 (qb true))]) .ret))))⟩
theorem PJ:cd 167=some PY:=by kernel_rfl
theorem Jw:cG cd 167 (.sl c8):=F3 PJ Bt
def G7:AF:=⟨2,5,[.tmp 4],(.seq (.ops [.i (.lbox 2 (.s 0)), .i (.lbox 3 (.s 1)), .i (.mov 4 (qb false))]) (.seq (.seq (.ops [qf 5 2 0,ql 6 2 5 1 false,qf 7 3 0,ql 8 3 7 1 false, .i (.call 10 167 false [(.s 6),(.s 8)]), .i (.not 10 (.s 9))]) (.cond (.s 10) (.seq (.ops [.i (.mov 4 (qb false))]) .ret) .skip)) (.seq (.seq (.ops [qf 11 2 1,ql 12 2 11 5 true,qf 13 3 1,ql 14 3 13 5 true, .i (.call 16 107 false [(.s 12),(.s 14)]), .i (.not 16 (.s 15))]) (.cond (.s 16) (.seq (.ops [.i (.mov 4 (qb false))]) .ret) .skip)) (.seq (.ops [.i (.mov 4 (qb true))]) .ret))))⟩
theorem PX:cd 111=some G7:=by kernel_rfl
theorem Ke:cG cd 111 fx:=by
 intro h ca cb va vb Sa Sb ha hb
 obtain⟨avs,rfl,aq0⟩:=ha.st
 obtain⟨av0,ar0,aS0,aT0,rfl,rfl,ah0,aq1⟩:=aq0.step
 obtain⟨ac0,ae0⟩:=ah0.one rfl
 rw[ae0]at ah0
 obtain⟨av1,ar1,aS1,aT1,rfl,rfl,ah1,aq2⟩:=aq1.step
 obtain⟨_,rfl,rfl⟩:=aq2
 have ahsz:ca.length=6:=ha.size
 obtain⟨bvs,rfl,bq0⟩:=hb.st
 obtain⟨bv0,br0,bS0,bT0,rfl,rfl,bh0,bq1⟩:=bq0.step
 obtain⟨bc0,be0⟩:=bh0.one rfl
 rw[be0]at bh0
 obtain⟨bv1,br1,bS1,bT1,rfl,rfl,bh1,bq2⟩:=bq1.step
 obtain⟨_,rfl,rfl⟩:=bq2
 have bhsz:cb.length=6:=hb.size
 simp only[Ty.size,Ty.aU,Nat.reduceAdd,Nat.zero_add,List.drop_zero]at ae0 ahsz be0 bhsz ah1 bh1
 refine aZ PX rfl ?_
 simp(disch:=omega) only[ae,G7,ae0,ahsz,be0,bhsz,bh,aN,SX,SU,SL,reduceCtorEq,Nat.reduceAdd,Nat.reduceLeDiff,reduceIte]
 refine cG.go Jw ah0 bh0 (fun d0=> ?_) (fun d0=> ?_)
 case refine_2=>
  simp(disch:=omega) only[ae,G7,ae0,ahsz,be0,bhsz,bh,aN,SX,SU,SL,reduceCtorEq,Nat.reduceAdd,Nat.reduceLeDiff,reduceIte]
  simp[d0]
 subst d0
 simp(disch:=omega) only[ae,G7,ae0,ahsz,be0,bhsz,bh,aN,SX,SU,SL,reduceCtorEq,Nat.reduceAdd,Nat.reduceLeDiff,reduceIte]
 refine cG.go JE ah1 bh1 (fun d1=> ?_) (fun d1=> ?_)
 case refine_2=>
  simp(disch:=omega) only[ae,G7,ae0,ahsz,be0,bhsz,bh,aN,SX,SU,SL,reduceCtorEq,Nat.reduceAdd,Nat.reduceLeDiff,reduceIte]
  simp[d1]
 subst d1
 simp(disch:=omega) only[ae,G7,ae0,ahsz,be0,bhsz,bh,aN,SX,SU,SL,reduceCtorEq,Nat.reduceAdd,Nat.reduceLeDiff,reduceIte]
def v9:AF:=⟨2,6,[.tmp 4],(.seq (.ops [.i (.lbox 2 (.s 0)), .i (.lbox 3 (.s 1)), .i (.mov 4 (qb false))]) (.seq (.seq (.ops [qf 5 2 0,ql 6 2 5 1 false,qf 7 3 0,ql 8 3 7 1 false,qd 9 .neq 6 8]) (.cond (.s 9) (.seq (.ops [.i (.mov 4 (qb false))]) .ret) .skip)) (.seq (.seq (.ops [qf 10 2 1,ql 11 2 10 1 false,qf 12 3 1,ql 13 3 12 1 false,qd 14 .neq 11 13]) (.cond (.s 14) (.seq (.ops [.i (.mov 4 (qb false))]) .ret) .skip)) (.seq (.seq (.ops [qf 15 2 2,ql 16 2 15 1 false,qf 17 3 2,ql 18 3 17 1 false,qd 19 .neq 16 18]) (.cond (.s 19) (.seq (.ops [.i (.mov 4 (qb false))]) .ret) .skip)) (.seq (.seq (.ops [qf 20 2 3,ql 21 2 20 1 false,qf 22 3 3,ql 23 3 22 1 false, .i (.call 25 15 false [(.s 21),(.s 23)]), .i (.not 25 (.s 24))]) (.cond (.s 25) (.seq (.ops [.i (.mov 4 (qb false))]) .ret) .skip)) (.seq (.seq (.ops [qf 26 2 4,ql 27 2 26 1 false,qf 28 3 4,ql 29 3 28 1 false, .i (.call 31 32 false [(.s 27),(.s 29)]), .i (.not 31 (.s 30))]) (.cond (.s 31) (.seq (.ops [.i (.mov 4 (qb false))]) .ret) .skip)) (.seq (.ops [.i (.mov 4 (qb true))]) .ret)))))))⟩
theorem Ql:cd 112=some v9:=by kernel_rfl
theorem Md:cG cd 112 vt:=by
 intro h ca cb va vb Sa Sb ha hb
 obtain⟨avs,rfl,aq0⟩:=ha.st
 obtain⟨av0,ar0,aS0,aT0,rfl,rfl,ah0,aq1⟩:=aq0.step
 obtain⟨an0,ae0,rfl,rfl,alo0,ahi0⟩:=ah0.int
 obtain⟨av1,ar1,aS1,aT1,rfl,rfl,ah1,aq2⟩:=aq1.step
 obtain⟨an1,ae1,rfl,rfl,alo1,ahi1⟩:=ah1.int
 obtain⟨av2,ar2,aS2,aT2,rfl,rfl,ah2,aq3⟩:=aq2.step
 obtain⟨an2,ae2,rfl,rfl,alo2,ahi2⟩:=ah2.int
 obtain⟨av3,ar3,aS3,aT3,rfl,rfl,ah3,aq4⟩:=aq3.step
 obtain⟨ac3,ae3⟩:=ah3.one rfl
 rw[ae3]at ah3
 obtain⟨av4,ar4,aS4,aT4,rfl,rfl,ah4,aq5⟩:=aq4.step
 obtain⟨ac4,ae4⟩:=ah4.one rfl
 rw[ae4]at ah4
 obtain⟨_,rfl,rfl⟩:=aq5
 have ahsz:ca.length=5:=ha.size
 obtain⟨bvs,rfl,bq0⟩:=hb.st
 obtain⟨bv0,br0,bS0,bT0,rfl,rfl,bh0,bq1⟩:=bq0.step
 obtain⟨bn0,be0,rfl,rfl,blo0,bhi0⟩:=bh0.int
 obtain⟨bv1,br1,bS1,bT1,rfl,rfl,bh1,bq2⟩:=bq1.step
 obtain⟨bn1,be1,rfl,rfl,blo1,bhi1⟩:=bh1.int
 obtain⟨bv2,br2,bS2,bT2,rfl,rfl,bh2,bq3⟩:=bq2.step
 obtain⟨bn2,be2,rfl,rfl,blo2,bhi2⟩:=bh2.int
 obtain⟨bv3,br3,bS3,bT3,rfl,rfl,bh3,bq4⟩:=bq3.step
 obtain⟨bc3,be3⟩:=bh3.one rfl
 rw[be3]at bh3
 obtain⟨bv4,br4,bS4,bT4,rfl,rfl,bh4,bq5⟩:=bq4.step
 obtain⟨bc4,be4⟩:=bh4.one rfl
 rw[be4]at bh4
 obtain⟨_,rfl,rfl⟩:=bq5
 have bhsz:cb.length=5:=hb.size
 simp only[Ty.size,Ty.aU,Nat.reduceAdd,Nat.zero_add,List.drop_zero]at ae0 ae1 ae2 ae3 ae4 ahsz be0 be1 be2 be3 be4 bhsz
 refine aZ Ql rfl ?_
 simp(disch:=omega) only[ae,v9,ae0,ae1,ae2,ae3,ae4,ahsz,be0,be1,be2,be3,be4,bhsz,bh,aN,SX,SU,SL,reduceCtorEq,Nat.reduceAdd,Nat.reduceLeDiff,reduceIte]
 refine aV (fun hn=> ?_) (fun hn=> ?_)
 case refine_1=>
  simp(disch:=omega) only[ae,v9,ae0,ae1,ae2,ae3,ae4,ahsz,be0,be1,be2,be3,be4,bhsz,bh,aN,SX,SU,SL,reduceCtorEq,Nat.reduceAdd,Nat.reduceLeDiff,reduceIte]
  simp[hn]
 have d0:an0=bn0:=by omega
 subst d0
 simp(disch:=omega) only[ae,v9,ae0,ae1,ae2,ae3,ae4,ahsz,be0,be1,be2,be3,be4,bhsz,bh,aN,SX,SU,SL,reduceCtorEq,Nat.reduceAdd,Nat.reduceLeDiff,reduceIte]
 refine aV (fun hn=> ?_) (fun hn=> ?_)
 case refine_1=>
  simp(disch:=omega) only[ae,v9,ae0,ae1,ae2,ae3,ae4,ahsz,be0,be1,be2,be3,be4,bhsz,bh,aN,SX,SU,SL,reduceCtorEq,Nat.reduceAdd,Nat.reduceLeDiff,reduceIte]
  simp[hn]
 have d1:an1=bn1:=by omega
 subst d1
 simp(disch:=omega) only[ae,v9,ae0,ae1,ae2,ae3,ae4,ahsz,be0,be1,be2,be3,be4,bhsz,bh,aN,SX,SU,SL,reduceCtorEq,Nat.reduceAdd,Nat.reduceLeDiff,reduceIte]
 refine aV (fun hn=> ?_) (fun hn=> ?_)
 case refine_1=>
  simp(disch:=omega) only[ae,v9,ae0,ae1,ae2,ae3,ae4,ahsz,be0,be1,be2,be3,be4,bhsz,bh,aN,SX,SU,SL,reduceCtorEq,Nat.reduceAdd,Nat.reduceLeDiff,reduceIte]
  simp[hn]
 have d2:an2=bn2:=by omega
 subst d2
 simp(disch:=omega) only[ae,v9,ae0,ae1,ae2,ae3,ae4,ahsz,be0,be1,be2,be3,be4,bhsz,bh,aN,SX,SU,SL,reduceCtorEq,Nat.reduceAdd,Nat.reduceLeDiff,reduceIte]
 refine cG.go fe ah3 bh3 (fun d3=> ?_) (fun d3=> ?_)
 case refine_2=>
  simp(disch:=omega) only[ae,v9,ae0,ae1,ae2,ae3,ae4,ahsz,be0,be1,be2,be3,be4,bhsz,bh,aN,SX,SU,SL,reduceCtorEq,Nat.reduceAdd,Nat.reduceLeDiff,reduceIte]
  simp[d3]
 subst d3
 simp(disch:=omega) only[ae,v9,ae0,ae1,ae2,ae3,ae4,ahsz,be0,be1,be2,be3,be4,bhsz,bh,aN,SX,SU,SL,reduceCtorEq,Nat.reduceAdd,Nat.reduceLeDiff,reduceIte]
 refine cG.go pb ah4 bh4 (fun d4=> ?_) (fun d4=> ?_)
 case refine_2=>
  simp(disch:=omega) only[ae,v9,ae0,ae1,ae2,ae3,ae4,ahsz,be0,be1,be2,be3,be4,bhsz,bh,aN,SX,SU,SL,reduceCtorEq,Nat.reduceAdd,Nat.reduceLeDiff,reduceIte]
  simp[d4]
 subst d4
 simp(disch:=omega) only[ae,v9,ae0,ae1,ae2,ae3,ae4,ahsz,be0,be1,be2,be3,be4,bhsz,bh,aN,SX,SU,SL,reduceCtorEq,Nat.reduceAdd,Nat.reduceLeDiff,reduceIte]
def CU:AF:=⟨2,6,[.tmp 4],(.seq (.ops [.i (.lbox 2 (.s 0)), .i (.lbox 3 (.s 1)), .i (.mov 4 (qb false))]) (.seq (.seq (.ops [qf 5 2 0,ql 6 2 5 1 false,qf 7 3 0,ql 8 3 7 1 false,qd 9 .neq 6 8]) (.cond (.s 9) (.seq (.ops [.i (.mov 4 (qb false))]) .ret) .skip)) (.seq (.seq (.ops [qf 10 2 1,ql 11 2 10 5 true,qf 12 3 1,ql 13 3 12 5 true, .i (.call 15 106 false [(.s 11),(.s 13)]), .i (.not 15 (.s 14))]) (.cond (.s 15) (.seq (.ops [.i (.mov 4 (qb false))]) .ret) .skip)) (.seq (.seq (.ops [qf 16 2 6,ql 17 2 16 5 true,qf 18 3 6,ql 19 3 18 5 true, .i (.call 21 107 false [(.s 17),(.s 19)]), .i (.not 21 (.s 20))]) (.cond (.s 21) (.seq (.ops [.i (.mov 4 (qb false))]) .ret) .skip)) (.seq (.seq (.ops [qf 22 2 11,ql 23 2 22 10 true,qf 24 3 11,ql 25 3 24 10 true, .i (.call 27 108 false [(.s 23),(.s 25)]), .i (.not 27 (.s 26))]) (.cond (.s 27) (.seq (.ops [.i (.mov 4 (qb false))]) .ret) .skip)) (.seq (.seq (.ops [qf 28 2 21,ql 29 2 28 11 true,qf 30 3 21,ql 31 3 30 11 true, .i (.call 33 109 false [(.s 29),(.s 31)]), .i (.not 33 (.s 32))]) (.cond (.s 33) (.seq (.ops [.i (.mov 4 (qb false))]) .ret) .skip)) (.seq (.seq (.ops [qf 34 2 32,ql 35 2 34 2 true,qf 36 3 32,ql 37 3 36 2 true, .i (.call 39 110 false [(.s 35),(.s 37)]), .i (.not 39 (.s 38))]) (.cond (.s 39) (.seq (.ops [.i (.mov 4 (qb false))]) .ret) .skip)) (.seq (.seq (.ops [qf 40 2 34,ql 41 2 40 6 true,qf 42 3 34,ql 43 3 42 6 true, .i (.call 45 111 false [(.s 41),(.s 43)]), .i (.not 45 (.s 44))]) (.cond (.s 45) (.seq (.ops [.i (.mov 4 (qb false))]) .ret) .skip)) (.seq (.seq (.ops [qf 46 2 40,ql 47 2 46 5 true,qf 48 3 40,ql 49 3 48 5 true, .i (.call 51 112 false [(.s 47),(.s 49)]), .i (.not 51 (.s 50))]) (.cond (.s 51) (.seq (.ops [.i (.mov 4 (qb false))]) .ret) .skip)) (.seq (.ops [.i (.mov 4 (qb true))]) .ret))))))))))⟩
theorem QN:cd 61=some CU:=by kernel_rfl
theorem Nr:cG cd 61 mj:=by
 intro h ca cb va vb Sa Sb ha hb
 obtain⟨avs,rfl,aq0⟩:=ha.st
 obtain⟨av0,ar0,aS0,aT0,rfl,rfl,ah0,aq1⟩:=aq0.step
 obtain⟨an0,ae0,rfl,rfl,alo0,ahi0⟩:=ah0.int
 obtain⟨av1,ar1,aS1,aT1,rfl,rfl,ah1,aq2⟩:=aq1.step
 obtain⟨av2,ar2,aS2,aT2,rfl,rfl,ah2,aq3⟩:=aq2.step
 obtain⟨av3,ar3,aS3,aT3,rfl,rfl,ah3,aq4⟩:=aq3.step
 obtain⟨av4,ar4,aS4,aT4,rfl,rfl,ah4,aq5⟩:=aq4.step
 obtain⟨av5,ar5,aS5,aT5,rfl,rfl,ah5,aq6⟩:=aq5.step
 obtain⟨av6,ar6,aS6,aT6,rfl,rfl,ah6,aq7⟩:=aq6.step
 obtain⟨av7,ar7,aS7,aT7,rfl,rfl,ah7,aq8⟩:=aq7.step
 obtain⟨_,rfl,rfl⟩:=aq8
 have ahsz:ca.length=45:=ha.size
 obtain⟨bvs,rfl,bq0⟩:=hb.st
 obtain⟨bv0,br0,bS0,bT0,rfl,rfl,bh0,bq1⟩:=bq0.step
 obtain⟨bn0,be0,rfl,rfl,blo0,bhi0⟩:=bh0.int
 obtain⟨bv1,br1,bS1,bT1,rfl,rfl,bh1,bq2⟩:=bq1.step
 obtain⟨bv2,br2,bS2,bT2,rfl,rfl,bh2,bq3⟩:=bq2.step
 obtain⟨bv3,br3,bS3,bT3,rfl,rfl,bh3,bq4⟩:=bq3.step
 obtain⟨bv4,br4,bS4,bT4,rfl,rfl,bh4,bq5⟩:=bq4.step
 obtain⟨bv5,br5,bS5,bT5,rfl,rfl,bh5,bq6⟩:=bq5.step
 obtain⟨bv6,br6,bS6,bT6,rfl,rfl,bh6,bq7⟩:=bq6.step
 obtain⟨bv7,br7,bS7,bT7,rfl,rfl,bh7,bq8⟩:=bq7.step
 obtain⟨_,rfl,rfl⟩:=bq8
 have bhsz:cb.length=45:=hb.size
 simp only[Ty.size,Ty.aU,Nat.reduceAdd,Nat.zero_add,List.drop_zero]at ae0 ahsz be0 bhsz ah1 ah2 ah3 ah4 ah5 ah6 ah7 bh1 bh2 bh3 bh4 bh5 bh6 bh7
 refine aZ QN rfl ?_
 simp(disch:=omega) only[ae,CU,ae0,ahsz,be0,bhsz,bh,aN,SX,SU,SL,reduceCtorEq,Nat.reduceAdd,Nat.reduceLeDiff,reduceIte]
 refine aV (fun hn=> ?_) (fun hn=> ?_)
 case refine_1=>
  simp(disch:=omega) only[ae,CU,ae0,ahsz,be0,bhsz,bh,aN,SX,SU,SL,reduceCtorEq,Nat.reduceAdd,Nat.reduceLeDiff,reduceIte]
  simp[hn]
 have d0:an0=bn0:=by omega
 subst d0
 simp(disch:=omega) only[ae,CU,ae0,ahsz,be0,bhsz,bh,aN,SX,SU,SL,reduceCtorEq,Nat.reduceAdd,Nat.reduceLeDiff,reduceIte]
 refine cG.go LH ah1 bh1 (fun d1=> ?_) (fun d1=> ?_)
 case refine_2=>
  simp(disch:=omega) only[ae,CU,ae0,ahsz,be0,bhsz,bh,aN,SX,SU,SL,reduceCtorEq,Nat.reduceAdd,Nat.reduceLeDiff,reduceIte]
  simp[d1]
 subst d1
 simp(disch:=omega) only[ae,CU,ae0,ahsz,be0,bhsz,bh,aN,SX,SU,SL,reduceCtorEq,Nat.reduceAdd,Nat.reduceLeDiff,reduceIte]
 refine cG.go JE ah2 bh2 (fun d2=> ?_) (fun d2=> ?_)
 case refine_2=>
  simp(disch:=omega) only[ae,CU,ae0,ahsz,be0,bhsz,bh,aN,SX,SU,SL,reduceCtorEq,Nat.reduceAdd,Nat.reduceLeDiff,reduceIte]
  simp[d2]
 subst d2
 simp(disch:=omega) only[ae,CU,ae0,ahsz,be0,bhsz,bh,aN,SX,SU,SL,reduceCtorEq,Nat.reduceAdd,Nat.reduceLeDiff,reduceIte]
 refine cG.go Bt ah3 bh3 (fun d3=> ?_) (fun d3=> ?_)
 case refine_2=>
  simp(disch:=omega) only[ae,CU,ae0,ahsz,be0,bhsz,bh,aN,SX,SU,SL,reduceCtorEq,Nat.reduceAdd,Nat.reduceLeDiff,reduceIte]
  simp[d3]
 subst d3
 simp(disch:=omega) only[ae,CU,ae0,ahsz,be0,bhsz,bh,aN,SX,SU,SL,reduceCtorEq,Nat.reduceAdd,Nat.reduceLeDiff,reduceIte]
 refine cG.go Ka ah4 bh4 (fun d4=> ?_) (fun d4=> ?_)
 case refine_2=>
  simp(disch:=omega) only[ae,CU,ae0,ahsz,be0,bhsz,bh,aN,SX,SU,SL,reduceCtorEq,Nat.reduceAdd,Nat.reduceLeDiff,reduceIte]
  simp[d4]
 subst d4
 simp(disch:=omega) only[ae,CU,ae0,ahsz,be0,bhsz,bh,aN,SX,SU,SL,reduceCtorEq,Nat.reduceAdd,Nat.reduceLeDiff,reduceIte]
 refine cG.go Ph ah5 bh5 (fun d5=> ?_) (fun d5=> ?_)
 case refine_2=>
  simp(disch:=omega) only[ae,CU,ae0,ahsz,be0,bhsz,bh,aN,SX,SU,SL,reduceCtorEq,Nat.reduceAdd,Nat.reduceLeDiff,reduceIte]
  simp[d5]
 subst d5
 simp(disch:=omega) only[ae,CU,ae0,ahsz,be0,bhsz,bh,aN,SX,SU,SL,reduceCtorEq,Nat.reduceAdd,Nat.reduceLeDiff,reduceIte]
 refine cG.go Ke ah6 bh6 (fun d6=> ?_) (fun d6=> ?_)
 case refine_2=>
  simp(disch:=omega) only[ae,CU,ae0,ahsz,be0,bhsz,bh,aN,SX,SU,SL,reduceCtorEq,Nat.reduceAdd,Nat.reduceLeDiff,reduceIte]
  simp[d6]
 subst d6
 simp(disch:=omega) only[ae,CU,ae0,ahsz,be0,bhsz,bh,aN,SX,SU,SL,reduceCtorEq,Nat.reduceAdd,Nat.reduceLeDiff,reduceIte]
 refine cG.go Md ah7 bh7 (fun d7=> ?_) (fun d7=> ?_)
 case refine_2=>
  simp(disch:=omega) only[ae,CU,ae0,ahsz,be0,bhsz,bh,aN,SX,SU,SL,reduceCtorEq,Nat.reduceAdd,Nat.reduceLeDiff,reduceIte]
  simp[d7]
 subst d7
 simp(disch:=omega) only[ae,CU,ae0,ahsz,be0,bhsz,bh,aN,SX,SU,SL,reduceCtorEq,Nat.reduceAdd,Nat.reduceLeDiff,reduceIte]
def MB:AF:=⟨2,5,[.tmp 4],(.seq (.ops [.i (.lbox 2 (.s 0)), .i (.lbox 3 (.s 1)), .i (.mov 4 (qb false))]) (.seq (.seq (.ops [qf 5 2 0,ql 6 2 5 1 false,qf 7 3 0,ql 8 3 7 1 false,qd 9 .neq 6 8]) (.cond (.s 9) (.seq (.ops [.i (.mov 4 (qb false))]) .ret) .skip)) (.seq (.seq (.ops [qf 10 2 1,ql 11 2 10 1 false,qf 12 3 1,ql 13 3 12 1 false,qd 14 .neq 11 13]) (.cond (.s 14) (.seq (.ops [.i (.mov 4 (qb false))]) .ret) .skip)) (.seq (.seq (.ops [qf 15 2 2,ql 16 2 15 45 true,qf 17 3 2,ql 18 3 17 45 true, .i (.call 20 61 false [(.s 16),(.s 18)]), .i (.not 20 (.s 19))]) (.cond (.s 20) (.seq (.ops [.i (.mov 4 (qb false))]) .ret) .skip)) (.seq (.ops [.i (.mov 4 (qb true))]) .ret)))))⟩
theorem Q4:cd 49=some MB:=by kernel_rfl
theorem H9:cG cd 49 eM:=by
 intro h ca cb va vb Sa Sb ha hb
 obtain⟨avs,rfl,aq0⟩:=ha.st
 obtain⟨av0,ar0,aS0,aT0,rfl,rfl,ah0,aq1⟩:=aq0.step
 obtain⟨an0,ae0,rfl,rfl,alo0,ahi0⟩:=ah0.int
 obtain⟨av1,ar1,aS1,aT1,rfl,rfl,ah1,aq2⟩:=aq1.step
 obtain⟨an1,ae1,rfl,rfl,alo1,ahi1⟩:=ah1.int
 obtain⟨av2,ar2,aS2,aT2,rfl,rfl,ah2,aq3⟩:=aq2.step
 obtain⟨_,rfl,rfl⟩:=aq3
 have ahsz:ca.length=47:=ha.size
 obtain⟨bvs,rfl,bq0⟩:=hb.st
 obtain⟨bv0,br0,bS0,bT0,rfl,rfl,bh0,bq1⟩:=bq0.step
 obtain⟨bn0,be0,rfl,rfl,blo0,bhi0⟩:=bh0.int
 obtain⟨bv1,br1,bS1,bT1,rfl,rfl,bh1,bq2⟩:=bq1.step
 obtain⟨bn1,be1,rfl,rfl,blo1,bhi1⟩:=bh1.int
 obtain⟨bv2,br2,bS2,bT2,rfl,rfl,bh2,bq3⟩:=bq2.step
 obtain⟨_,rfl,rfl⟩:=bq3
 have bhsz:cb.length=47:=hb.size
 simp only[Ty.size,Ty.aU,Nat.reduceAdd,Nat.zero_add,List.drop_zero]at ae0 ae1 ahsz be0 be1 bhsz ah2 bh2
 refine aZ Q4 rfl ?_
 simp(disch:=omega) only[ae,MB,ae0,ae1,ahsz,be0,be1,bhsz,bh,aN,SX,SU,SL,reduceCtorEq,Nat.reduceAdd,Nat.reduceLeDiff,reduceIte]
 refine aV (fun hn=> ?_) (fun hn=> ?_)
 case refine_1=>
  simp(disch:=omega) only[ae,MB,ae0,ae1,ahsz,be0,be1,bhsz,bh,aN,SX,SU,SL,reduceCtorEq,Nat.reduceAdd,Nat.reduceLeDiff,reduceIte]
  simp[hn]
 have d0:an0=bn0:=by omega
 subst d0
 simp(disch:=omega) only[ae,MB,ae0,ae1,ahsz,be0,be1,bhsz,bh,aN,SX,SU,SL,reduceCtorEq,Nat.reduceAdd,Nat.reduceLeDiff,reduceIte]
 refine aV (fun hn=> ?_) (fun hn=> ?_)
 case refine_1=>
  simp(disch:=omega) only[ae,MB,ae0,ae1,ahsz,be0,be1,bhsz,bh,aN,SX,SU,SL,reduceCtorEq,Nat.reduceAdd,Nat.reduceLeDiff,reduceIte]
  simp[hn]
 have d1:an1=bn1:=by omega
 subst d1
 simp(disch:=omega) only[ae,MB,ae0,ae1,ahsz,be0,be1,bhsz,bh,aN,SX,SU,SL,reduceCtorEq,Nat.reduceAdd,Nat.reduceLeDiff,reduceIte]
 refine cG.go Nr ah2 bh2 (fun d2=> ?_) (fun d2=> ?_)
 case refine_2=>
  simp(disch:=omega) only[ae,MB,ae0,ae1,ahsz,be0,be1,bhsz,bh,aN,SX,SU,SL,reduceCtorEq,Nat.reduceAdd,Nat.reduceLeDiff,reduceIte]
  simp[d2]
 subst d2
 simp(disch:=omega) only[ae,MB,ae0,ae1,ahsz,be0,be1,bhsz,bh,aN,SX,SU,SL,reduceCtorEq,Nat.reduceAdd,Nat.reduceLeDiff,reduceIte]
def QW:AF:=⟨2,5,[.tmp 4],(.seq (.ops [.i (.mov 4 (qb false))]) (.seq (.seq (.ops [qm 6 0,qn 7 6,qm 8 1,qn 9 8,qd 10 .neq 7 9]) (.cond (.s 10) (.seq (.ops [.i (.mov 4 (qb false))]) .ret) .skip)) (.seq (.seq (.ops [.i (.mov 5 (qi 0))]) (.block 0 (.loop [26,25,24,23,22,21,20,19,18,17,16,15,14,13,12,11] (.seq (.seq (.ops [qm 11 5,qm 12 0,qn 13 12,qd 14 .lss 11 13]) (.cond (.s 14) .skip (.exit 0))) (.seq (.block 1 (.seq (.ops [qm 17 0,qm 18 5, .i (.iad 19 (.s 17) (.s 18) 47), .i (.ldh 20 (.s 19) 47 true),qm 21 1,qm 22 5, .i (.iad 23 (.s 21) (.s 22) 47), .i (.ldh 24 (.s 23) 47 true), .i (.call 26 49 false [(.s 20),(.s 24)]), .i (.not 26 (.s 25))]) (.cond (.s 26) (.seq (.ops [.i (.mov 4 (qb false))]) .ret) .skip))) (.ops [qm 15 5, .i (.bin 16 .add (.s 15) (qi 1)),qm 5 16])))))) (.seq (.ops [.i (.mov 4 (qb true))]) .ret))))⟩
theorem Q2:cd 14=some QW:=by kernel_rfl
theorem u4:cG cd 14 (.sl eM):=F3 Q2 H9
def Q9:AF:=⟨2,5,[.tmp 4],(.seq (.ops [.i (.mov 4 (qi 0))]) (.seq (.seq (.ops [.i (.mov 5 (qi 0))]) (.block 0 (.loop [18,17,16,15,14,13,12,11,10,9,8,7,6] (.seq (.seq (.ops [qm 6 5,qm 7 0,qn 8 7,qd 9 .lss 6 8]) (.cond (.s 9) .skip (.exit 0))) (.seq (.block 1 (.seq (.ops [qm 12 0,qm 13 5,qm 14 1, .i (.cvi 15 .u8 (.s 14)), .i (.iad 16 (.s 12) (.s 13) 1), .i (.sth (.s 16) (.s 15) 1)]) (.ops [qm 17 1, .i (.bin 18 .add (.s 17) (qi 1)),qm 1 18]))) (.ops [qm 10 5, .i (.bin 11 .add (.s 10) (qi 1)),qm 5 11])))))) (.seq (.ops [qm 19 1,qm 4 19]) .ret)))⟩
theorem QZ:cd 17=some Q9:=by kernel_rfl
theorem bF:kC cd 17 (.sl (.int .u8)):=Mf QZ
def PW:AF:=⟨2,4,[.tmp 4],(.seq (.ops [.i (.lbox 2 (.s 0)), .i (.mov 4 (qi 0))]) (.seq (.ops [qf 5 2 1,ql 6 2 5 1 false,qm 7 1, .i (.call 9 17 false [(.s 6),(.s 7)]),qm 1 8]) (.seq (.ops [qm 9 1,qm 4 9]) .ret)))⟩
theorem Q6:cd 16=some PW:=by kernel_rfl
theorem Gb:kC cd 16 TPush:=by
 intro h cs v S k hv ho hk
 obtain⟨vs,rfl,q0⟩:=hv.st
 obtain⟨v0,r0,S0,T0,rfl,rfl,h0,q1⟩:=q0.step
 obtain⟨n0,e0,rfl,rfl,lo0,hi0⟩:=h0.int
 obtain⟨v1,r1,S1,T1,rfl,rfl,h1,q2⟩:=q1.step
 obtain⟨c1,e1⟩:=h1.one rfl
 rw[e1]at h1
 obtain⟨_,rfl,rfl⟩:=q2
 have hsz:cs.length=2:=hv.size
 simp only[Ty.size,Ty.aU,Nat.reduceAdd,Nat.zero_add,List.drop_zero]at e0 e1 hsz
 have hcn:i1 TPush (.r [.i n0,v1])=(0+(i1 (.sl (.int .u8)) v1+0)):=rfl
 have hmk:yC TPush (.r [.i n0,v1]) k= .r [.i n0,yC (.sl (.int .u8)) v1 (k)]:=rfl
 rw[hmk]
 rw[hcn]at hk⊢
 simp only[List.nil_append,List.append_nil]at ho⊢
 have o1:=ho
 refine aZ Q6 rfl ?_
 simp(disch:=omega) only[ae,PW,e0,e1,hsz,bh,aN,SX,SU,SL,reduceCtorEq,Nat.reduceAdd,Nat.reduceLeDiff,reduceIte]
 refine kC.go bF h1 o1 (k:=k) (by omega) (fun g1 w1 z1=> ?_)
 simp(disch:=omega) only[ae,PW,e0,e1,hsz,bh,aN,SX,SU,SL,reduceCtorEq,Nat.reduceAdd,Nat.reduceLeDiff,reduceIte]
 have fin:Rs g1 [(.int .i64),(.sl (.int .u8))] (cs.drop 0) [.i n0,yC (.sl (.int .u8)) v1 (k)] _:=(Rs.Jm (o:=0) (Rp.NV e0 lo0 hi0) (Rs.Jm (o:=1) (Rp.OW e1 z1) (Rs.fin (Nat.le_of_eq hsz))))
 simp only[List.nil_append,List.append_nil,List.drop_zero]at fin
 have wr:=((ew.refl ho.2).more w1 (fun i hi=>by simp[hi]))
 first
  |exact⟨wr,_,rfl,fin⟩
  |(refine⟨?_,wr,_,rfl,fin⟩
    congr 3
    omega)
def QI:AF:=⟨2,5,[.tmp 4],(.seq (.ops [.i (.mov 4 (qi 0))]) (.seq (.seq (.ops [.i (.mov 5 (qi 0))]) (.block 0 (.loop [17,16,15,14,13,12,11,10,9,8,7,6] (.seq (.seq (.ops [qm 6 5,qm 7 0,qn 8 7,qd 9 .lss 6 8]) (.cond (.s 9) .skip (.exit 0))) (.seq (.block 1 (.ops [qm 12 0,qm 13 5, .i (.iad 14 (.s 12) (.s 13) 1), .i (.ldh 15 (.s 14) 1 false),qm 16 1, .i (.call 18 17 false [(.s 15),(.s 16)]),qm 1 17])) (.ops [qm 10 5, .i (.bin 11 .add (.s 10) (qi 1)),qm 5 11])))))) (.seq (.ops [qm 18 1,qm 4 18]) .ret)))⟩
theorem QE:cd 33=some QI:=by kernel_rfl
theorem fG:kC cd 33 (.sl (.sl (.int .u8))):=Px QE bF
def QD:AF:=⟨2,5,[.tmp 4],(.seq (.ops [.i (.mov 4 (qi 0))]) (.seq (.seq (.ops [.i (.mov 5 (qi 0))]) (.block 0 (.loop [20,19,18,17,16,15,14,13,12,11,10,9,8,7,6] (.seq (.seq (.ops [qm 6 5,qm 7 0,qn 8 7,qd 9 .lss 6 8]) (.cond (.s 9) .skip (.exit 0))) (.seq (.block 1 (.seq (.seq (.ops [qm 12 0,qm 13 5, .i (.iad 14 (.s 12) (.s 13) 1), .i (.ldh 15 (.s 14) 1 false),qm 16 1, .i (.cvi 17 .u8 (.s 16)),qd 18 .neq 15 17]) (.cond (.s 18) (.seq (.ops [.i (.mov 4 (qi (-1)))]) .ret) .skip)) (.ops [qm 19 1, .i (.bin 20 .add (.s 19) (qi 1)),qm 1 20]))) (.ops [qm 10 5, .i (.bin 11 .add (.s 10) (qi 1)),qm 5 11])))))) (.seq (.ops [qm 21 1,qm 4 21]) .ret)))⟩
theorem QH:cd 27=some QD:=by kernel_rfl
theorem bE:jR cd 27 (.sl (.int .u8)):=LM QH
def PC:AF:=⟨2,4,[.tmp 4],(.seq (.ops [.i (.lbox 2 (.s 0)), .i (.mov 4 (qi 0))]) (.seq (.ops [qf 5 2 1,ql 6 2 5 1 false,qm 7 1, .i (.call 9 27 false [(.s 6),(.s 7)]),qm 1 8]) (.seq (.seq (.ops [qm 9 1, .i (.bin 10 .lss (.s 9) (qi 0))]) (.cond (.s 10) (.seq (.ops [.i (.mov 4 (qi (-1)))]) .ret) .skip)) (.seq (.ops [qm 11 1,qm 4 11]) .ret))))⟩
theorem QG:cd 19=some PC:=by kernel_rfl
theorem GS:jR cd 19 TPush:=by
 intro h cs v S k hT hv hk
 obtain⟨h0_,cs0,S0_,hT⟩:=hT
 obtain⟨wvs,rfl,wq0⟩:=hT.st
 obtain⟨wv0,wr0,wS0,wT0,rfl,rfl,wh0,wq1⟩:=wq0.step
 obtain⟨wn0,we0,rfl,rfl,wlo0,whi0⟩:=wh0.int
 obtain⟨wv1,wr1,wS1,wT1,rfl,rfl,wh1,wq2⟩:=wq1.step
 obtain⟨wc1,we1⟩:=wh1.one rfl
 rw[we1]at wh1
 obtain⟨_,rfl,rfl⟩:=wq2
 have whsz:cs0.length=2:=hT.size
 have hcn:i1 TPush (.r [.i wn0,wv1])=(0+(i1 (.sl (.int .u8)) wv1+0)):=rfl
 have hmk:yC TPush (.r [.i wn0,wv1]) k= .r [.i wn0,yC (.sl (.int .u8)) wv1 (k)]:=rfl
 rw[hmk]at hv
 rw[hcn]at hk⊢
 obtain⟨vs,hvs,q0⟩:=hv.st
 simp only[Tv.r.injEq]at hvs
 subst hvs
 obtain⟨v0,r0,S0,T0,hv0,hS0,h0,q1⟩:=q0.step
 obtain⟨rfl,rfl⟩:=List.cons.inj hv0
 obtain⟨n0,e0,_,_,_,_⟩:=h0.int
 obtain⟨v1,r1,S1,T1,hv1,hS1,h1,q2⟩:=q1.step
 obtain⟨rfl,rfl⟩:=List.cons.inj hv1
 obtain⟨c1,e1⟩:=h1.one rfl
 rw[e1]at h1
 have hsz:cs.length=2:=hv.size
 simp only[Ty.size,Ty.aU,Nat.reduceAdd,Nat.zero_add,List.drop_zero]at e0 e1 hsz
 refine aZ QG rfl ?_
 simp(disch:=omega) only[ae,PC,e0,e1,hsz,bh,aN,SX,SU,SL,reduceCtorEq,Nat.reduceAdd,Nat.reduceLeDiff,reduceIte]
 refine jR.go bE ⟨_,_,_,wh1⟩ h1 (k:=k) (by omega) ?_
 simp(disch:=omega) only[ae,PC,e0,e1,hsz,bh,aN,SX,SU,SL,reduceCtorEq,Nat.reduceAdd,Nat.reduceLeDiff,reduceIte]
 refine aV (fun hn=>absurd hn (by omega)) (fun hn=> ?_)
 simp(disch:=omega) only[ae,PC,e0,e1,hsz,bh,aN,SX,SU,SL,reduceCtorEq,Nat.reduceAdd,Nat.reduceLeDiff,reduceIte]
 all_goals congr 3
 all_goals omega
def DR:Ty→Nat
 | .sl (.int _)=>17
 |_=>0
abbrev nF:List Ty:= [(.int .i64),(.int .i64),(.sl (.int .u8))]
theorem QT:cd 50=some (PF 6 (Ty.aU nF) (mh DR nF 0 [])):=by kernel_rfl
theorem Hz:kC cd 50 (.sl fv):=JQ (ts:=nF) QT (And.intro rfl (And.intro rfl (And.intro bF True.intro)))
def FD:Ty→Nat
 | .sl (.int _)=>17
 | .sl (.sl _)=>33
 |_=>0
abbrev rr:List Ty:= [(.int .i64),(.int .i64),(.int .i64),(.sl (.int .u8)),(.sl (.int .u8)),za]
theorem Q1:cd 51=some (PF 7 (Ty.aU rr) (mh FD rr 0 [])):=by kernel_rfl
theorem II:kC cd 51 (.sl c8):=JQ (ts:=rr) Q1 (And.intro rfl (And.intro rfl (And.intro rfl (And.intro bF (And.intro bF (And.intro (And.intro rfl (And.intro rfl (And.intro bF (And.intro bF (And.intro fG True.intro))))) True.intro))))))
def Dm:Ty→Nat
 | .sl (.int _)=>17
 | .sl (.sl _)=>33
 | .sl (.st [_,_,_])=>50
 | .sl (.st [_,_,_,_,_,_])=>51
 |_=>0
abbrev oA:List Ty:= [(.int .i64),(.int .i64),mj]
theorem QU:cd 18=some (PF 9 (Ty.aU oA) (mh Dm oA 0 [])):=by kernel_rfl
theorem HO:kC cd 18 (.sl eM):=JQ (ts:=oA) QU (And.intro rfl (And.intro rfl (And.intro (And.intro rfl (And.intro (And.intro rfl (And.intro rfl (And.intro bF (And.intro rfl (And.intro bF True.intro))))) (And.intro (And.intro rfl (And.intro rfl (And.intro bF (And.intro bF (And.intro fG True.intro))))) (And.intro (And.intro rfl (And.intro rfl (And.intro rfl (And.intro bF (And.intro bF (And.intro (And.intro rfl (And.intro rfl (And.intro bF (And.intro bF (And.intro fG True.intro))))) True.intro)))))) (And.intro (And.intro (And.intro rfl (And.intro rfl (And.intro rfl (And.intro bF (And.intro bF (And.intro (And.intro rfl (And.intro rfl (And.intro bF (And.intro bF (And.intro fG True.intro))))) True.intro)))))) (And.intro fG True.intro)) (And.intro (And.intro rfl (And.intro Hz True.intro)) (And.intro (And.intro II (And.intro (And.intro rfl (And.intro rfl (And.intro bF (And.intro bF (And.intro fG True.intro))))) True.intro)) (And.intro (And.intro rfl (And.intro rfl (And.intro rfl (And.intro bF (And.intro fG True.intro))))) True.intro)))))))) True.intro)))
def QO:AF:=⟨2,5,[.tmp 4],(.seq (.ops [.i (.mov 4 (qi 0))]) (.seq (.seq (.ops [.i (.mov 5 (qi 0))]) (.block 0 (.loop [19,18,17,16,15,14,13,12,11,10,9,8,7,6] (.seq (.seq (.ops [qm 6 5,qm 7 0,qn 8 7,qd 9 .lss 6 8]) (.cond (.s 9) .skip (.exit 0))) (.seq (.block 1 (.seq (.ops [qm 12 0,qm 13 5, .i (.iad 14 (.s 12) (.s 13) 1), .i (.ldh 15 (.s 14) 1 false),qm 16 1, .i (.call 18 27 false [(.s 15),(.s 16)]),qm 1 17]) (.seq (.ops [qm 18 1, .i (.bin 19 .lss (.s 18) (qi 0))]) (.cond (.s 19) (.seq (.ops [.i (.mov 4 (qi (-1)))]) .ret) .skip)))) (.ops [qm 10 5, .i (.bin 11 .add (.s 10) (qi 1)),qm 5 11])))))) (.seq (.ops [qm 20 1,qm 4 20]) .ret)))⟩
theorem Rb:cd 52=some QO:=by kernel_rfl
theorem gJ:jR cd 52 (.sl (.sl (.int .u8))):=OP Rb bE
def C9:Ty→Nat
 | .sl (.int _)=>27
 |_=>0
abbrev nG:List Ty:= [(.int .i64),(.int .i64),(.sl (.int .u8))]
theorem QF:cd 53=some (PB 6 (Ty.aU nG) (mh C9 nG 0 [])):=by kernel_rfl
theorem G5:jR cd 53 (.sl fv):=Jd (ts:=nG) QF (And.intro rfl (And.intro rfl (And.intro bE True.intro)))
def ET:Ty→Nat
 | .sl (.int _)=>27
 | .sl (.sl _)=>52
 |_=>0
abbrev rH:List Ty:= [(.int .i64),(.int .i64),(.int .i64),(.sl (.int .u8)),(.sl (.int .u8)),za]
theorem QM:cd 54=some (PB 7 (Ty.aU rH) (mh ET rH 0 [])):=by kernel_rfl
theorem J6:jR cd 54 (.sl c8):=Jd (ts:=rH) QM (And.intro rfl (And.intro rfl (And.intro rfl (And.intro bE (And.intro bE (And.intro (And.intro rfl (And.intro rfl (And.intro bE (And.intro bE (And.intro gJ True.intro))))) True.intro))))))
def Ds:Ty→Nat
 | .sl (.int _)=>27
 | .sl (.sl _)=>52
 | .sl (.st [_,_,_])=>53
 | .sl (.st [_,_,_,_,_,_])=>54
 |_=>0
abbrev nn:List Ty:= [(.int .i64),(.int .i64),mj]
theorem Q0:cd 20=some (PB 10 (Ty.aU nn) (mh Ds nn 0 [])):=by kernel_rfl
theorem An:jR cd 20 (.sl eM):=Jd (ts:=nn) Q0 (And.intro rfl (And.intro rfl (And.intro (And.intro rfl (And.intro (And.intro rfl (And.intro rfl (And.intro bE (And.intro rfl (And.intro bE True.intro))))) (And.intro (And.intro rfl (And.intro rfl (And.intro bE (And.intro bE (And.intro gJ True.intro))))) (And.intro (And.intro rfl (And.intro rfl (And.intro rfl (And.intro bE (And.intro bE (And.intro (And.intro rfl (And.intro rfl (And.intro bE (And.intro bE (And.intro gJ True.intro))))) True.intro)))))) (And.intro (And.intro (And.intro rfl (And.intro rfl (And.intro rfl (And.intro bE (And.intro bE (And.intro (And.intro rfl (And.intro rfl (And.intro bE (And.intro bE (And.intro gJ True.intro))))) True.intro)))))) (And.intro gJ True.intro)) (And.intro (And.intro rfl (And.intro G5 True.intro)) (And.intro (And.intro J6 (And.intro (And.intro rfl (And.intro rfl (And.intro bE (And.intro bE (And.intro gJ True.intro))))) True.intro)) (And.intro (And.intro rfl (And.intro rfl (And.intro rfl (And.intro bE (And.intro gJ True.intro))))) True.intro)))))))) True.intro)))
end Go.Eng.U
namespace Go.Eng.U
open Go.Eng.F (ao bC ak)
def c5:AF:=⟨3,8,[.tmp 6],(.seq (.ops [.i (.lbox 3 (.s 0)), .i (.lbox 4 (.s 1)), .i (.mov 6 (qb false))]) (.seq (.ops [.i (.mov 7 (qi 1048576))]) (.seq (.ops [ql 19 4 4 2 true,qm 20 7, .i (.call 22 7 false [(.s 19),(.s 20)]),qm 7 21]) (.seq (.seq (.ops [qm 22 7, .i (.bin 23 .lss (.s 22) (qi 0))]) (.cond (.s 23) (.seq (.ops [.i (.mov 6 (qb true))]) .ret) .skip)) (.seq (.ops [qm 24 2,qm 25 7, .i (.call 27 28 false [(.s 24),(.s 25)]),qm 7 26]) (.seq (.seq (.ops [qm 27 7, .i (.bin 28 .lss (.s 27) (qi 0))]) (.cond (.s 28) (.seq (.ops [.i (.mov 6 (qb true))]) .ret) .skip)) (.seq (.ops [ql 30 3 3 5 true,qk 32 9 30,ql 32 4 4 2 true,qk 34 10 32,qm 34 2,qk 36 30 34, .i (.call 37 29 false [(.s 31),(.s 33),(.s 35)]),qm 29 36, .i (.ext 37 (.s 29) 0), .i (.ext 38 (.s 29) 1), .i (.lal 8 [.int .i64 0, .nils]),qs 8 8 37 2,qm 9 38]) (.seq (.ops [ql 39 4 4 2 true,qk 41 10 39, .i (.lal 10 [.int .i64 0, .nils]),qs 10 10 40 2]) (.seq (.ops [qm 41 2,qk 43 30 41,qm 11 42]) (.seq (.ops [ql 44 3 3 5 true,qk 46 9 44,ql 46 10 10 2 true,qm 47 11, .i (.call 49 31 false [(.s 45),(.s 46),(.s 47)]),qm 43 48, .i (.ext 49 (.s 43) 0), .i (.ext 50 (.s 43) 1), .i (.lal 12 [.int .i64 0, .nils]),qs 12 12 49 2,qm 13 50]) (.seq (.seq (.ops [ql 51 12 12 2 true,ql 52 8 8 2 true, .i (.call 54 13 false [(.s 51),(.s 52)]), .i (.not 54 (.s 53)),qm 55 54, .g 55 false 57 (.mov 56 (.s 13)), .g 55 false 58 (.mov 57 (.s 9)), .g 55 false 59 (.call 59 14 false [(.s 56),(.s 57)]), .g 55 false 60 (.not 59 (.s 58)), .i (.pick 60 (.s 55) (qb true) (.s 59))]) (.cond (.s 60) (.seq (.ops [.i (.mov 6 (qb false))]) .ret) .skip)) (.seq (.seq (.ops [ql 61 10 10 2 true,ql 62 4 4 2 true,qk 64 10 62, .i (.call 65 13 false [(.s 61),(.s 63)]), .i (.not 65 (.s 64))]) (.cond (.s 65) (.seq (.ops [.i (.mov 6 (qb false))]) .ret) .skip)) (.seq (.seq (.ops [qm 66 11,qm 67 2,qk 69 30 67, .i (.call 70 32 false [(.s 66),(.s 68)]), .i (.not 70 (.s 69))]) (.cond (.s 70) (.seq (.ops [.i (.mov 6 (qb false))]) .ret) .skip)) (.seq (.ops [.i (.mov 14 (qi 1))]) (.seq (.ops [ql 71 10 10 2 true,qm 72 14, .i (.call 74 16 false [(.s 71),(.s 72)]),qm 14 73]) (.seq (.ops [qm 74 11,qm 75 14, .i (.call 77 33 false [(.s 74),(.s 75)]),qm 14 76]) (.seq (.seq (.ops [qm 77 14, .i (.bin 78 .lss (.s 77) (qi 0)),qm 79 78, .g 79 false 81 (.ldl 80 12 (.s 12) 2 true), .g 79 false 82 (.ldl 81 8 (.s 8) 2 true), .g 79 false 83 (.call 83 13 false [(.s 80),(.s 81)]), .g 79 false 84 (.not 83 (.s 82)), .i (.pick 84 (.s 79) (qb true) (.s 83)),qm 85 84, .g 85 false 87 (.mov 86 (.s 13)), .g 85 false 88 (.mov 87 (.s 9)), .g 85 false 89 (.call 89 14 false [(.s 86),(.s 87)]), .g 85 false 90 (.not 89 (.s 88)), .i (.pick 90 (.s 85) (qb true) (.s 89))]) (.cond (.s 90) (.seq (.ops [.i (.mov 6 (qb false))]) .ret) .skip)) (.seq (.ops [.i (.mov 15 (qi 1))]) (.seq (.ops [ql 91 12 12 2 true,qm 92 15, .i (.call 94 16 false [(.s 91),(.s 92)]),qm 15 93]) (.seq (.ops [qm 94 13,qm 95 15, .i (.call 97 18 false [(.s 94),(.s 95)]),qm 15 96]) (.seq (.ops [.i (.mov 16 (qi 1))]) (.seq (.ops [ql 97 12 12 2 true,qm 98 16, .i (.call 100 19 false [(.s 97),(.s 98)]),qm 16 99]) (.seq (.seq (.ops [qm 100 16, .i (.bin 101 .lss (.s 100) (qi 0))]) (.cond (.s 101) (.seq (.ops [.i (.mov 6 (qb false))]) .ret) .skip)) (.seq (.ops [qm 102 13,qm 103 16, .i (.call 105 20 false [(.s 102),(.s 103)]),qm 16 104]) (.seq (.seq (.ops [qm 105 16, .i (.bin 106 .lss (.s 105) (qi 0))]) (.cond (.s 106) (.seq (.ops [.i (.mov 6 (qb false))]) .ret) .skip)) (.seq (.seq (.ops [qm 107 16,qm 108 15,qd 109 .neq 107 108]) (.cond (.s 109) (.seq (.ops [.i (.mov 6 (qb false))]) .ret) .skip)) (.seq (.ops [ql 111 3 3 5 true,qk 113 9 111,ql 113 4 4 2 true,qk 115 10 113,qm 115 2,qk 117 30 115, .i (.call 118 31 false [(.s 112),(.s 114),(.s 116)]),qm 110 117, .i (.ext 118 (.s 110) 0), .i (.ext 119 (.s 110) 1), .i (.lal 17 [.int .i64 0, .nils]),qs 17 17 118 2,qm 18 119]) (.seq (.seq (.ops [ql 120 17 17 2 true,ql 121 8 8 2 true, .i (.call 123 13 false [(.s 120),(.s 121)]), .i (.not 123 (.s 122)),qm 124 123, .g 124 false 126 (.mov 125 (.s 18)), .g 124 false 127 (.mov 126 (.s 9)), .g 124 false 128 (.call 128 14 false [(.s 125),(.s 126)]), .g 124 false 129 (.not 128 (.s 127)), .i (.pick 129 (.s 124) (qb true) (.s 128))]) (.cond (.s 129) (.seq (.ops [.i (.mov 6 (qb false))]) .ret) .skip)) (.seq (.ops [.i (.mov 16 (qi 1))]) (.seq (.ops [ql 130 12 12 2 true,qm 131 16, .i (.call 133 19 false [(.s 130),(.s 131)]),qm 16 132]) (.seq (.seq (.ops [qm 133 16, .i (.bin 134 .lss (.s 133) (qi 0))]) (.cond (.s 134) (.seq (.ops [.i (.mov 6 (qb false))]) .ret) .skip)) (.seq (.ops [qm 135 13,qm 136 16, .i (.call 138 20 false [(.s 135),(.s 136)]),qm 16 137]) (.seq (.seq (.ops [qm 138 16, .i (.bin 139 .lss (.s 138) (qi 0))]) (.cond (.s 139) (.seq (.ops [.i (.mov 6 (qb false))]) .ret) .skip)) (.seq (.seq (.ops [qm 140 16,qm 141 15,qd 142 .neq 140 141]) (.cond (.s 142) (.seq (.ops [.i (.mov 6 (qb false))]) .ret) .skip)) (.seq (.ops [.i (.mov 6 (qb true))]) .ret)))))))))))))))))))))))))))))))))))⟩
theorem k5:cd 5=some c5:=by kernel_rfl
theorem mq {h:H} {kk:IntKind} {c:C} {v:Tv} {S:List Nat} (hv:Rp h (.sl (.int kk)) [c] v S):yx c=some (wt v):=by
 obtain⟨c2,xs,id,off,bs,S',e,rfl,hm,hl,hat,hce,hbs,hel,hS⟩:=hv.view
 injection e with e
 subst e
 rw[hl]
 simp[wt,(tL hel).1]
theorem law_FeedAll:∀h vs,BL h [TLimits,TPush,(.sl (.sl (.int .u8)))] vs→WC cd 5 vs h (fun r _=>r= .val false [.bool true]):=by
 intro h vs ha
 obtain⟨cs0,v0,S0,r0,rfl,hv0,ha0⟩:=ha
 obtain⟨cs1,v1,S1,r1,rfl,hv1,ha1⟩:=ha0
 obtain⟨cs2,v2,S2,r2,rfl,hv2,ha2⟩:=ha1
 have hr0:r2= []:=ha2
 subst hr0
 have hsz0:cs0.length=5:=hv0.size
 have hall0:cs0.take 5=cs0:=List.take_of_length_le (by omega)
 have hsz1:cs1.length=2:=hv1.size
 have hall1:cs1.take 2=cs1:=List.take_of_length_le (by omega)
 obtain⟨cc2,rfl⟩:=hv2.one rfl
 obtain⟨l,rfl⟩:=ao.ex hv0.ok
 obtain⟨p,rfl⟩:=bC.ex hv1.ok
 obtain⟨ps,rfl⟩:=wF hv2.ok
 have hl0:wt l.tv=0:=by simp[ao.tv,wt,dw]
 have hc1:i1 TPush p.tv≤2 * (1+wt p.tv):=Nat.le_trans (yP _ _) (u7 _ _)
 have hc2:i1 (.sl (.sl (.int .u8))) (eX ps)≤1 * (1+wt (eX ps)):=Nat.le_trans (yP _ _) (u7 _ _)
 have hr0:i1 TPush (ak l p ps).1.tv≤2 * (1+wt (ak l p ps).1.tv):=Nat.le_trans (yP _ _) (u7 _ _)
 have hw0:=F.Eb l p ps
 have hr1:i1 (.sl eM) (F.xw (ak l p ps).2)≤58 * (1+wt (F.xw (ak l p ps).2)):=Nat.le_trans (yP _ _) (u7 _ _)
 have hw1:=F.Es l p ps
 refine aZ k5 rfl ?_
 simp(disch:=omega) only[ae,c5,hsz0,hall0,hsz1,hall1,bh,aN,cW,beq_self_eq_true,bne_self_eq_false,List.getElem?_cons_zero,List.getElem?_cons_succ,Bool.or_false,Bool.false_or,Bool.or_self,SX,SU,SL,reduceCtorEq,Nat.reduceAdd,Nat.reduceLeDiff,reduceIte]
 refine xT.go LB hv1 (k:=1048576) (by omega) (fun hf1=> ?_) (fun hf1=> ?_)
 case refine_2=>
  simp(disch:=omega) only[ae,c5,hsz0,hall0,hsz1,hall1,bh,aN,cW,beq_self_eq_true,bne_self_eq_false,List.getElem?_cons_zero,List.getElem?_cons_succ,Bool.or_false,Bool.false_or,Bool.or_self,SX,SU,SL,reduceCtorEq,Nat.reduceAdd,Nat.reduceLeDiff,reduceIte]
  refine aV (fun hn=> ?_) (fun hn=>absurd (show(-1:Int) < 0 by omega) hn)
  simp(disch:=omega) only[ae,c5,hsz0,hall0,hsz1,hall1,bh,aN,cW,beq_self_eq_true,bne_self_eq_false,List.getElem?_cons_zero,List.getElem?_cons_succ,Bool.or_false,Bool.false_or,Bool.or_self,SX,SU,SL,reduceCtorEq,Nat.reduceAdd,Nat.reduceLeDiff,reduceIte]
 simp(disch:=omega) only[ae,c5,hsz0,hall0,hsz1,hall1,bh,aN,cW,beq_self_eq_true,bne_self_eq_false,List.getElem?_cons_zero,List.getElem?_cons_succ,Bool.or_false,Bool.false_or,Bool.or_self,SX,SU,SL,reduceCtorEq,Nat.reduceAdd,Nat.reduceLeDiff,reduceIte]
 refine aV (fun hn=>absurd hn (by omega)) (fun hn=> ?_)
 simp(disch:=omega) only[ae,c5,hsz0,hall0,hsz1,hall1,bh,aN,cW,beq_self_eq_true,bne_self_eq_false,List.getElem?_cons_zero,List.getElem?_cons_succ,Bool.or_false,Bool.false_or,Bool.or_self,SX,SU,SL,reduceCtorEq,Nat.reduceAdd,Nat.reduceLeDiff,reduceIte]
 refine xT.go Hu hv2 (k:=1048576 - wt p.tv) (by omega) (fun hf2=> ?_) (fun hf2=> ?_)
 case refine_2=>
  simp(disch:=omega) only[ae,c5,hsz0,hall0,hsz1,hall1,bh,aN,cW,beq_self_eq_true,bne_self_eq_false,List.getElem?_cons_zero,List.getElem?_cons_succ,Bool.or_false,Bool.false_or,Bool.or_self,SX,SU,SL,reduceCtorEq,Nat.reduceAdd,Nat.reduceLeDiff,reduceIte]
  refine aV (fun hn=> ?_) (fun hn=>absurd (show(-1:Int) < 0 by omega) hn)
  simp(disch:=omega) only[ae,c5,hsz0,hall0,hsz1,hall1,bh,aN,cW,beq_self_eq_true,bne_self_eq_false,List.getElem?_cons_zero,List.getElem?_cons_succ,Bool.or_false,Bool.false_or,Bool.or_self,SX,SU,SL,reduceCtorEq,Nat.reduceAdd,Nat.reduceLeDiff,reduceIte]
 simp(disch:=omega) only[ae,c5,hsz0,hall0,hsz1,hall1,bh,aN,cW,beq_self_eq_true,bne_self_eq_false,List.getElem?_cons_zero,List.getElem?_cons_succ,Bool.or_false,Bool.false_or,Bool.or_self,SX,SU,SL,reduceCtorEq,Nat.reduceAdd,Nat.reduceLeDiff,reduceIte]
 refine aV (fun hn=>absurd hn (by omega)) (fun hn=> ?_)
 simp(disch:=omega) only[ae,c5,hsz0,hall0,hsz1,hall1,bh,aN,cW,beq_self_eq_true,bne_self_eq_false,List.getElem?_cons_zero,List.getElem?_cons_succ,Bool.or_false,Bool.false_or,Bool.or_self,SX,SU,SL,reduceCtorEq,Nat.reduceAdd,Nat.reduceLeDiff,reduceIte]
 refine bW (ux hv0 (by omega)) ?_
 rintro r0 g0 ⟨t0,d0,U0,hg0,rfl,z0,o0,l0⟩
 have n0:=dv hg0
 have b0:=z0.lt
 have hd0:d0.length=5:=z0.size
 have ht0:d0.take 5=d0:=List.take_of_length_le (by omega)
 simp(disch:=omega) only[ae,c5,hsz0,hall0,hsz1,hall1,hd0,ht0,bh,aN,cW,beq_self_eq_true,bne_self_eq_false,List.getElem?_cons_zero,List.getElem?_cons_succ,Bool.or_false,Bool.false_or,Bool.or_self,SX,SU,SL,reduceCtorEq,Nat.reduceAdd,Nat.reduceLeDiff,reduceIte]
 refine bW (wQ (Rp.aq hg0 hv1) (by omega)) ?_
 rintro r1 g1 ⟨t1,d1,U1,hg1,rfl,z1,o1,l1⟩
 have n1:=dv hg1
 have b1:=z1.lt
 have hd1:d1.length=2:=z1.size
 have ht1:d1.take 2=d1:=List.take_of_length_le (by omega)
 have hs1_0:aR [.int .i64 0, .nils] 0 d1=d1:=iJ (by rw[hd1];rfl)
 simp(disch:=omega) only[ae,c5,hsz0,hall0,hsz1,hall1,hd0,ht0,hd1,ht1,hs1_0,bh,aN,cW,beq_self_eq_true,bne_self_eq_false,List.getElem?_cons_zero,List.getElem?_cons_succ,Bool.or_false,Bool.false_or,Bool.or_self,SX,SU,SL,reduceCtorEq,Nat.reduceAdd,Nat.reduceLeDiff,reduceIte]
 refine bW (po (Rp.aq hg1 (Rp.aq hg0 hv2)) (by omega)) ?_
 rintro r2 g2 ⟨t2,d2,U2,hg2,rfl,z2,o2,l2⟩
 have n2:=dv hg2
 have b2:=z2.lt
 obtain⟨e2,rfl⟩:=z2.one rfl
 simp(disch:=omega) only[ae,c5,hsz0,hall0,hsz1,hall1,hd0,ht0,hd1,ht1,hs1_0,bh,aN,cW,beq_self_eq_true,bne_self_eq_false,List.getElem?_cons_zero,List.getElem?_cons_succ,Bool.or_false,Bool.false_or,Bool.or_self,SX,SU,SL,reduceCtorEq,Nat.reduceAdd,Nat.reduceLeDiff,reduceIte]
 refine bW (F.tX ⟨_,_,rfl,⟨_,(Rp.aq hg2 (Rp.aq hg1 z0))⟩,⟨_,_,rfl,⟨_,(Rp.aq hg2 z1)⟩,⟨_,_,rfl,⟨_,z2⟩,rfl⟩⟩⟩ (by omega) (by omega)) ?_
 rintro r3 g3 ⟨t3,css3,U3,hg3,rfl,zz3,o3,l3⟩
 have n3:=dv hg3
 obtain⟨d3_0,cr3_0,U3_0,V3_0,rfl,rfl,z3_0,zz3_0⟩:=zz3
 obtain⟨d3_1,cr3_1,U3_1,V3_1,rfl,rfl,z3_1,zz3_1⟩:=zz3_0
 obtain⟨rfl,rfl⟩:=zz3_1
 simp only[List.nil_append,List.append_nil]at o3 l3
 obtain⟨o3_0,ox3_0,x3_0,xx3_0⟩:=o3.split
 have b3_0:=z3_0.lt
 have l3_0:∀i∈U3_0,_:=fun i hi=>l3 i (by simp[hi])
 have o3_1:=ox3_0
 have b3_1:=z3_1.lt
 have l3_1:∀i∈U3_1,_:=fun i hi=>l3 i (by simp[hi])
 have hd3_0:d3_0.length=2:=z3_0.size
 have ht3_0:d3_0.take 2=d3_0:=List.take_of_length_le (by omega)
 have hs3_0_0:aR [.int .i64 0, .nils] 0 d3_0=d3_0:=iJ (by rw[hd3_0];rfl)
 obtain⟨e3_1,rfl⟩:=z3_1.one rfl
 simp(disch:=omega) only[ae,c5,hsz0,hall0,hsz1,hall1,hd0,ht0,hd1,ht1,hs1_0,hd3_0,ht3_0,hs3_0_0,bh,aN,cW,beq_self_eq_true,bne_self_eq_false,List.getElem?_cons_zero,List.getElem?_cons_succ,Bool.or_false,Bool.false_or,Bool.or_self,SX,SU,SL,reduceCtorEq,Nat.reduceAdd,Nat.reduceLeDiff,reduceIte]
 refine bW (wQ (Rp.aq hg3 (Rp.aq hg2 (Rp.aq hg1 (Rp.aq hg0 hv1)))) (by omega)) ?_
 rintro r4 g4 ⟨t4,d4,U4,hg4,rfl,z4,o4,l4⟩
 have n4:=dv hg4
 have b4:=z4.lt
 have hd4:d4.length=2:=z4.size
 have ht4:d4.take 2=d4:=List.take_of_length_le (by omega)
 have hs4_0:aR [.int .i64 0, .nils] 0 d4=d4:=iJ (by rw[hd4];rfl)
 simp(disch:=omega) only[ae,c5,hsz0,hall0,hsz1,hall1,hd0,ht0,hd1,ht1,hs1_0,hd3_0,ht3_0,hs3_0_0,hd4,ht4,hs4_0,bh,aN,cW,beq_self_eq_true,bne_self_eq_false,List.getElem?_cons_zero,List.getElem?_cons_succ,Bool.or_false,Bool.false_or,Bool.or_self,SX,SU,SL,reduceCtorEq,Nat.reduceAdd,Nat.reduceLeDiff,reduceIte]
 refine bW (po (Rp.aq hg4 (Rp.aq hg3 (Rp.aq hg2 (Rp.aq hg1 (Rp.aq hg0 hv2))))) (by omega)) ?_
 rintro r5 g5 ⟨t5,d5,U5,hg5,rfl,z5,o5,l5⟩
 have n5:=dv hg5
 have b5:=z5.lt
 obtain⟨e5,rfl⟩:=z5.one rfl
 simp(disch:=omega) only[ae,c5,hsz0,hall0,hsz1,hall1,hd0,ht0,hd1,ht1,hs1_0,hd3_0,ht3_0,hs3_0_0,hd4,ht4,hs4_0,bh,aN,cW,beq_self_eq_true,bne_self_eq_false,List.getElem?_cons_zero,List.getElem?_cons_succ,Bool.or_false,Bool.false_or,Bool.or_self,SX,SU,SL,reduceCtorEq,Nat.reduceAdd,Nat.reduceLeDiff,reduceIte]
 refine bW (ux (Rp.aq hg5 (Rp.aq hg4 (Rp.aq hg3 (Rp.aq hg2 (Rp.aq hg1 (Rp.aq hg0 hv0)))))) (by omega)) ?_
 rintro r6 g6 ⟨t6,d6,U6,hg6,rfl,z6,o6,l6⟩
 have n6:=dv hg6
 have b6:=z6.lt
 have hd6:d6.length=5:=z6.size
 have ht6:d6.take 5=d6:=List.take_of_length_le (by omega)
 simp(disch:=omega) only[ae,c5,hsz0,hall0,hsz1,hall1,hd0,ht0,hd1,ht1,hs1_0,hd3_0,ht3_0,hs3_0_0,hd4,ht4,hs4_0,hd6,ht6,bh,aN,cW,beq_self_eq_true,bne_self_eq_false,List.getElem?_cons_zero,List.getElem?_cons_succ,Bool.or_false,Bool.false_or,Bool.or_self,SX,SU,SL,reduceCtorEq,Nat.reduceAdd,Nat.reduceLeDiff,reduceIte]
 refine bW (F.j8 ⟨_,_,rfl,⟨_,z6⟩,⟨_,_,rfl,⟨_,(Rp.aq hg6 (Rp.aq hg5 z4))⟩,⟨_,_,rfl,⟨_,(Rp.aq hg6 z5)⟩,rfl⟩⟩⟩ (by omega) (by omega)) ?_
 rintro r7 g7 ⟨t7,css7,U7,hg7,rfl,zz7,o7,l7⟩
 have n7:=dv hg7
 obtain⟨d7_0,cr7_0,U7_0,V7_0,rfl,rfl,z7_0,zz7_0⟩:=zz7
 obtain⟨d7_1,cr7_1,U7_1,V7_1,rfl,rfl,z7_1,zz7_1⟩:=zz7_0
 obtain⟨rfl,rfl⟩:=zz7_1
 simp only[List.nil_append,List.append_nil]at o7 l7
 obtain⟨o7_0,ox7_0,x7_0,xx7_0⟩:=o7.split
 have b7_0:=z7_0.lt
 have l7_0:∀i∈U7_0,_:=fun i hi=>l7 i (by simp[hi])
 have o7_1:=ox7_0
 have b7_1:=z7_1.lt
 have l7_1:∀i∈U7_1,_:=fun i hi=>l7 i (by simp[hi])
 have hd7_0:d7_0.length=2:=z7_0.size
 have ht7_0:d7_0.take 2=d7_0:=List.take_of_length_le (by omega)
 have hs7_0_0:aR [.int .i64 0, .nils] 0 d7_0=d7_0:=iJ (by rw[hd7_0];rfl)
 obtain⟨e7_1,rfl⟩:=z7_1.one rfl
 simp(disch:=omega) only[ae,c5,hsz0,hall0,hsz1,hall1,hd0,ht0,hd1,ht1,hs1_0,hd3_0,ht3_0,hs3_0_0,hd4,ht4,hs4_0,hd6,ht6,hd7_0,ht7_0,hs7_0_0,bh,aN,cW,beq_self_eq_true,bne_self_eq_false,List.getElem?_cons_zero,List.getElem?_cons_succ,Bool.or_false,Bool.false_or,Bool.or_self,SX,SU,SL,reduceCtorEq,Nat.reduceAdd,Nat.reduceLeDiff,reduceIte]
 refine cG.go wK z7_0 (Rp.aq hg7 (Rp.aq hg6 (Rp.aq hg5 (Rp.aq hg4 z3_0)))) (fun _=> ?_) (fun hne=>absurd rfl hne)
 simp(disch:=omega) only[ae,c5,hsz0,hall0,hsz1,hall1,hd0,ht0,hd1,ht1,hs1_0,hd3_0,ht3_0,hs3_0_0,hd4,ht4,hs4_0,hd6,ht6,hd7_0,ht7_0,hs7_0_0,bh,aN,cW,beq_self_eq_true,bne_self_eq_false,List.getElem?_cons_zero,List.getElem?_cons_succ,Bool.or_false,Bool.false_or,Bool.or_self,SX,SU,SL,reduceCtorEq,Nat.reduceAdd,Nat.reduceLeDiff,reduceIte]
 refine cG.go u4 z7_1 (Rp.aq hg7 (Rp.aq hg6 (Rp.aq hg5 (Rp.aq hg4 z3_1)))) (fun _=> ?_) (fun hne=>absurd rfl hne)
 simp(disch:=omega) only[ae,c5,hsz0,hall0,hsz1,hall1,hd0,ht0,hd1,ht1,hs1_0,hd3_0,ht3_0,hs3_0_0,hd4,ht4,hs4_0,hd6,ht6,hd7_0,ht7_0,hs7_0_0,bh,aN,cW,beq_self_eq_true,bne_self_eq_false,List.getElem?_cons_zero,List.getElem?_cons_succ,Bool.or_false,Bool.false_or,Bool.or_self,SX,SU,SL,reduceCtorEq,Nat.reduceAdd,Nat.reduceLeDiff,reduceIte]
 refine bW (wQ (Rp.aq hg7 (Rp.aq hg6 (Rp.aq hg5 (Rp.aq hg4 (Rp.aq hg3 (Rp.aq hg2 (Rp.aq hg1 (Rp.aq hg0 hv1)))))))) (by omega)) ?_
 rintro r8 g8 ⟨t8,d8,U8,hg8,rfl,z8,o8,l8⟩
 have n8:=dv hg8
 have b8:=z8.lt
 have hd8:d8.length=2:=z8.size
 have ht8:d8.take 2=d8:=List.take_of_length_le (by omega)
 have hs8_0:aR [.int .i64 0, .nils] 0 d8=d8:=iJ (by rw[hd8];rfl)
 simp(disch:=omega) only[ae,c5,hsz0,hall0,hsz1,hall1,hd0,ht0,hd1,ht1,hs1_0,hd3_0,ht3_0,hs3_0_0,hd4,ht4,hs4_0,hd6,ht6,hd7_0,ht7_0,hs7_0_0,hd8,ht8,hs8_0,bh,aN,cW,beq_self_eq_true,bne_self_eq_false,List.getElem?_cons_zero,List.getElem?_cons_succ,Bool.or_false,Bool.false_or,Bool.or_self,SX,SU,SL,reduceCtorEq,Nat.reduceAdd,Nat.reduceLeDiff,reduceIte]
 refine cG.go wK (Rp.aq hg8 (Rp.aq hg7 (Rp.aq hg6 (Rp.aq hg5 z4)))) z8 (fun _=> ?_) (fun hne=>absurd rfl hne)
 simp(disch:=omega) only[ae,c5,hsz0,hall0,hsz1,hall1,hd0,ht0,hd1,ht1,hs1_0,hd3_0,ht3_0,hs3_0_0,hd4,ht4,hs4_0,hd6,ht6,hd7_0,ht7_0,hs7_0_0,hd8,ht8,hs8_0,bh,aN,cW,beq_self_eq_true,bne_self_eq_false,List.getElem?_cons_zero,List.getElem?_cons_succ,Bool.or_false,Bool.false_or,Bool.or_self,SX,SU,SL,reduceCtorEq,Nat.reduceAdd,Nat.reduceLeDiff,reduceIte]
 refine bW (po (Rp.aq hg8 (Rp.aq hg7 (Rp.aq hg6 (Rp.aq hg5 (Rp.aq hg4 (Rp.aq hg3 (Rp.aq hg2 (Rp.aq hg1 (Rp.aq hg0 hv2))))))))) (by omega)) ?_
 rintro r9 g9 ⟨t9,d9,U9,hg9,rfl,z9,o9,l9⟩
 have n9:=dv hg9
 have b9:=z9.lt
 obtain⟨e9,rfl⟩:=z9.one rfl
 simp(disch:=omega) only[ae,c5,hsz0,hall0,hsz1,hall1,hd0,ht0,hd1,ht1,hs1_0,hd3_0,ht3_0,hs3_0_0,hd4,ht4,hs4_0,hd6,ht6,hd7_0,ht7_0,hs7_0_0,hd8,ht8,hs8_0,bh,aN,cW,beq_self_eq_true,bne_self_eq_false,List.getElem?_cons_zero,List.getElem?_cons_succ,Bool.or_false,Bool.false_or,Bool.or_self,SX,SU,SL,reduceCtorEq,Nat.reduceAdd,Nat.reduceLeDiff,reduceIte]
 refine cG.go pb (Rp.aq hg9 (Rp.aq hg8 (Rp.aq hg7 (Rp.aq hg6 z5)))) z9 (fun _=> ?_) (fun hne=>absurd rfl hne)
 simp(disch:=omega) only[ae,c5,hsz0,hall0,hsz1,hall1,hd0,ht0,hd1,ht1,hs1_0,hd3_0,ht3_0,hs3_0_0,hd4,ht4,hs4_0,hd6,ht6,hd7_0,ht7_0,hs7_0_0,hd8,ht8,hs8_0,bh,aN,cW,beq_self_eq_true,bne_self_eq_false,List.getElem?_cons_zero,List.getElem?_cons_succ,Bool.or_false,Bool.false_or,Bool.or_self,SX,SU,SL,reduceCtorEq,Nat.reduceAdd,Nat.reduceLeDiff,reduceIte]
 refine kC.go Gb (Rp.aq hg9 (Rp.aq hg8 (Rp.aq hg7 (Rp.aq hg6 (Rp.aq hg5 z4))))) (dr.aq hg9 (dr.aq hg8 (dr.aq hg7 (dr.aq hg6 (dr.aq hg5 o4))))) (k:=1) (by omega) (fun gw1 w1 zw1=> ?_)
 have nw1:=w1.1
 simp(disch:=omega) only[ae,c5,hsz0,hall0,hsz1,hall1,hd0,ht0,hd1,ht1,hs1_0,hd3_0,ht3_0,hs3_0_0,hd4,ht4,hs4_0,hd6,ht6,hd7_0,ht7_0,hs7_0_0,hd8,ht8,hs8_0,bh,aN,cW,beq_self_eq_true,bne_self_eq_false,List.getElem?_cons_zero,List.getElem?_cons_succ,Bool.or_false,Bool.false_or,Bool.or_self,SX,SU,SL,reduceCtorEq,Nat.reduceAdd,Nat.reduceLeDiff,reduceIte]
 refine kC.go fG ((Rp.aq hg9 (Rp.aq hg8 (Rp.aq hg7 (Rp.aq hg6 z5)))).wrote w1 (fun i hi hn=>by have:=b5 i hi;have:=l5 i hi;have:=b4 i hn;have:=l4 i hn;omega)) (w1.BH (dr.aq hg9 (dr.aq hg8 (dr.aq hg7 (dr.aq hg6 o5))))) (k:=1+i1 TPush p.tv) (by omega) (fun gw2 w2 zw2=> ?_)
 have nw2:=w2.1
 have hneg:decide (((1+i1 TPush p.tv+i1 (.sl (.sl (.int .u8))) (eX ps):Nat):Int) < 0)=false:=by simp;omega
 simp(disch:=omega) only[ae,c5,hsz0,hall0,hsz1,hall1,hd0,ht0,hd1,ht1,hs1_0,hd3_0,ht3_0,hs3_0_0,hd4,ht4,hs4_0,hd6,ht6,hd7_0,ht7_0,hs7_0_0,hd8,ht8,hs8_0,hneg,bh,aN,cW,beq_self_eq_true,bne_self_eq_false,List.getElem?_cons_zero,List.getElem?_cons_succ,Bool.or_false,Bool.false_or,Bool.or_self,SX,SU,SL,reduceCtorEq,Nat.reduceAdd,Nat.reduceLeDiff,reduceIte]
 refine cG.go wK (((Rp.aq hg9 (Rp.aq hg8 z7_0)).wrote w1 (fun i hi hn=>by have:=b7_0 i hi;have:=l7_0 i hi;have:=b4 i hn;have:=l4 i hn;omega)).wrote w2 (fun i hi hn=>by have:=b7_0 i hi;have:=l7_0 i hi;have:=b5 i hn;have:=l5 i hn;omega)) (((Rp.aq hg9 (Rp.aq hg8 (Rp.aq hg7 (Rp.aq hg6 (Rp.aq hg5 (Rp.aq hg4 z3_0)))))).wrote w1 (fun i hi hn=>by have:=b3_0 i hi;have:=l3_0 i hi;have:=b4 i hn;have:=l4 i hn;omega)).wrote w2 (fun i hi hn=>by have:=b3_0 i hi;have:=l3_0 i hi;have:=b5 i hn;have:=l5 i hn;omega)) (fun _=> ?_) (fun hne=>absurd rfl hne)
 simp(disch:=omega) only[ae,c5,hsz0,hall0,hsz1,hall1,hd0,ht0,hd1,ht1,hs1_0,hd3_0,ht3_0,hs3_0_0,hd4,ht4,hs4_0,hd6,ht6,hd7_0,ht7_0,hs7_0_0,hd8,ht8,hs8_0,hneg,bh,aN,cW,beq_self_eq_true,bne_self_eq_false,List.getElem?_cons_zero,List.getElem?_cons_succ,Bool.or_false,Bool.false_or,Bool.or_self,SX,SU,SL,reduceCtorEq,Nat.reduceAdd,Nat.reduceLeDiff,reduceIte]
 refine cG.go u4 (((Rp.aq hg9 (Rp.aq hg8 z7_1)).wrote w1 (fun i hi hn=>by have:=b7_1 i hi;have:=l7_1 i hi;have:=b4 i hn;have:=l4 i hn;omega)).wrote w2 (fun i hi hn=>by have:=b7_1 i hi;have:=l7_1 i hi;have:=b5 i hn;have:=l5 i hn;omega)) (((Rp.aq hg9 (Rp.aq hg8 (Rp.aq hg7 (Rp.aq hg6 (Rp.aq hg5 (Rp.aq hg4 z3_1)))))).wrote w1 (fun i hi hn=>by have:=b3_1 i hi;have:=l3_1 i hi;have:=b4 i hn;have:=l4 i hn;omega)).wrote w2 (fun i hi hn=>by have:=b3_1 i hi;have:=l3_1 i hi;have:=b5 i hn;have:=l5 i hn;omega)) (fun _=> ?_) (fun hne=>absurd rfl hne)
 simp(disch:=omega) only[ae,c5,hsz0,hall0,hsz1,hall1,hd0,ht0,hd1,ht1,hs1_0,hd3_0,ht3_0,hs3_0_0,hd4,ht4,hs4_0,hd6,ht6,hd7_0,ht7_0,hs7_0_0,hd8,ht8,hs8_0,hneg,bh,aN,cW,beq_self_eq_true,bne_self_eq_false,List.getElem?_cons_zero,List.getElem?_cons_succ,Bool.or_false,Bool.false_or,Bool.or_self,SX,SU,SL,reduceCtorEq,Nat.reduceAdd,Nat.reduceLeDiff,reduceIte]
 refine kC.go Gb (((Rp.aq hg9 (Rp.aq hg8 z7_0)).wrote w1 (fun i hi hn=>by have:=b7_0 i hi;have:=l7_0 i hi;have:=b4 i hn;have:=l4 i hn;omega)).wrote w2 (fun i hi hn=>by have:=b7_0 i hi;have:=l7_0 i hi;have:=b5 i hn;have:=l5 i hn;omega)) (w2.BH (w1.BH (dr.aq hg9 (dr.aq hg8 o7_0)))) (k:=1) (by omega) (fun gm0 wm0 zm0=> ?_)
 have nm0:=wm0.1
 simp(disch:=omega) only[ae,c5,hsz0,hall0,hsz1,hall1,hd0,ht0,hd1,ht1,hs1_0,hd3_0,ht3_0,hs3_0_0,hd4,ht4,hs4_0,hd6,ht6,hd7_0,ht7_0,hs7_0_0,hd8,ht8,hs8_0,hneg,bh,aN,cW,beq_self_eq_true,bne_self_eq_false,List.getElem?_cons_zero,List.getElem?_cons_succ,Bool.or_false,Bool.false_or,Bool.or_self,SX,SU,SL,reduceCtorEq,Nat.reduceAdd,Nat.reduceLeDiff,reduceIte]
 refine kC.go HO ((((Rp.aq hg9 (Rp.aq hg8 z7_1)).wrote w1 (fun i hi hn=>by have:=b7_1 i hi;have:=l7_1 i hi;have:=b4 i hn;have:=l4 i hn;omega)).wrote w2 (fun i hi hn=>by have:=b7_1 i hi;have:=l7_1 i hi;have:=b5 i hn;have:=l5 i hn;omega)).wrote wm0 (fun i hi hn=>xx7_0 i (by first|exact hi|simp[hi]) hn)) (wm0.BH (w2.BH (w1.BH (dr.aq hg9 (dr.aq hg8 o7_1))))) (k:=1+i1 TPush (ak l p ps).1.tv) (by omega) (fun gm1 wm1 zm1=> ?_)
 have nm1:=wm1.1
 simp(disch:=omega) only[ae,c5,hsz0,hall0,hsz1,hall1,hd0,ht0,hd1,ht1,hs1_0,hd3_0,ht3_0,hs3_0_0,hd4,ht4,hs4_0,hd6,ht6,hd7_0,ht7_0,hs7_0_0,hd8,ht8,hs8_0,hneg,bh,aN,cW,beq_self_eq_true,bne_self_eq_false,List.getElem?_cons_zero,List.getElem?_cons_succ,Bool.or_false,Bool.false_or,Bool.or_self,SX,SU,SL,reduceCtorEq,Nat.reduceAdd,Nat.reduceLeDiff,reduceIte]
 refine jR.go GS ⟨_,_,_,z7_0⟩ (zm0.wrote wm1 (fun i hi hn=>x7_0 i hi (by first|exact hn|simp[hn]))) (k:=1) (by omega) ?_
 simp(disch:=omega) only[ae,c5,hsz0,hall0,hsz1,hall1,hd0,ht0,hd1,ht1,hs1_0,hd3_0,ht3_0,hs3_0_0,hd4,ht4,hs4_0,hd6,ht6,hd7_0,ht7_0,hs7_0_0,hd8,ht8,hs8_0,hneg,bh,aN,cW,beq_self_eq_true,bne_self_eq_false,List.getElem?_cons_zero,List.getElem?_cons_succ,Bool.or_false,Bool.false_or,Bool.or_self,SX,SU,SL,reduceCtorEq,Nat.reduceAdd,Nat.reduceLeDiff,reduceIte]
 refine aV (fun hn=>absurd hn (by omega)) (fun hn=> ?_)
 simp(disch:=omega) only[ae,c5,hsz0,hall0,hsz1,hall1,hd0,ht0,hd1,ht1,hs1_0,hd3_0,ht3_0,hs3_0_0,hd4,ht4,hs4_0,hd6,ht6,hd7_0,ht7_0,hs7_0_0,hd8,ht8,hs8_0,hneg,bh,aN,cW,beq_self_eq_true,bne_self_eq_false,List.getElem?_cons_zero,List.getElem?_cons_succ,Bool.or_false,Bool.false_or,Bool.or_self,SX,SU,SL,reduceCtorEq,Nat.reduceAdd,Nat.reduceLeDiff,reduceIte]
 refine jR.go An ⟨_,_,_,z7_1⟩ zm1 (k:=1+i1 TPush (ak l p ps).1.tv) (by omega) ?_
 simp(disch:=omega) only[ae,c5,hsz0,hall0,hsz1,hall1,hd0,ht0,hd1,ht1,hs1_0,hd3_0,ht3_0,hs3_0_0,hd4,ht4,hs4_0,hd6,ht6,hd7_0,ht7_0,hs7_0_0,hd8,ht8,hs8_0,hneg,bh,aN,cW,beq_self_eq_true,bne_self_eq_false,List.getElem?_cons_zero,List.getElem?_cons_succ,Bool.or_false,Bool.false_or,Bool.or_self,SX,SU,SL,reduceCtorEq,Nat.reduceAdd,Nat.reduceLeDiff,reduceIte]
 refine aV (fun hn=>absurd hn (by omega)) (fun hn=> ?_)
 simp(disch:=omega) only[ae,c5,hsz0,hall0,hsz1,hall1,hd0,ht0,hd1,ht1,hs1_0,hd3_0,ht3_0,hs3_0_0,hd4,ht4,hs4_0,hd6,ht6,hd7_0,ht7_0,hs7_0_0,hd8,ht8,hs8_0,hneg,bh,aN,cW,beq_self_eq_true,bne_self_eq_false,List.getElem?_cons_zero,List.getElem?_cons_succ,Bool.or_false,Bool.false_or,Bool.or_self,SX,SU,SL,reduceCtorEq,Nat.reduceAdd,Nat.reduceLeDiff,reduceIte]
 refine bW (ux (((((Rp.aq hg9 (Rp.aq hg8 (Rp.aq hg7 (Rp.aq hg6 (Rp.aq hg5 (Rp.aq hg4 (Rp.aq hg3 (Rp.aq hg2 (Rp.aq hg1 (Rp.aq hg0 hv0)))))))))).wrote w1 (fun i hi hn=>by have:=hv0.lt i hi;have:=b4 i hn;have:=l4 i hn;omega)).wrote w2 (fun i hi hn=>by have:=hv0.lt i hi;have:=b5 i hn;have:=l5 i hn;omega)).wrote wm0 (fun i hi hn=>by have:=hv0.lt i hi;have:=b7_0 i hn;have:=l7_0 i hn;omega)).wrote wm1 (fun i hi hn=>by have:=hv0.lt i hi;have:=b7_1 i hn;have:=l7_1 i hn;omega)) (by omega)) ?_
 rintro r10 g10 ⟨t10,d10,U10,hg10,rfl,z10,o10,l10⟩
 have n10:=dv hg10
 have b10:=z10.lt
 have hd10:d10.length=5:=z10.size
 have ht10:d10.take 5=d10:=List.take_of_length_le (by omega)
 simp(disch:=omega) only[ae,c5,hsz0,hall0,hsz1,hall1,hd0,ht0,hd1,ht1,hs1_0,hd3_0,ht3_0,hs3_0_0,hd4,ht4,hs4_0,hd6,ht6,hd7_0,ht7_0,hs7_0_0,hd8,ht8,hs8_0,hneg,hd10,ht10,bh,aN,cW,beq_self_eq_true,bne_self_eq_false,List.getElem?_cons_zero,List.getElem?_cons_succ,Bool.or_false,Bool.false_or,Bool.or_self,SX,SU,SL,reduceCtorEq,Nat.reduceAdd,Nat.reduceLeDiff,reduceIte]
 refine bW (wQ (Rp.aq hg10 (((((Rp.aq hg9 (Rp.aq hg8 (Rp.aq hg7 (Rp.aq hg6 (Rp.aq hg5 (Rp.aq hg4 (Rp.aq hg3 (Rp.aq hg2 (Rp.aq hg1 (Rp.aq hg0 hv1)))))))))).wrote w1 (fun i hi hn=>by have:=hv1.lt i hi;have:=b4 i hn;have:=l4 i hn;omega)).wrote w2 (fun i hi hn=>by have:=hv1.lt i hi;have:=b5 i hn;have:=l5 i hn;omega)).wrote wm0 (fun i hi hn=>by have:=hv1.lt i hi;have:=b7_0 i hn;have:=l7_0 i hn;omega)).wrote wm1 (fun i hi hn=>by have:=hv1.lt i hi;have:=b7_1 i hn;have:=l7_1 i hn;omega))) (by omega)) ?_
 rintro r11 g11 ⟨t11,d11,U11,hg11,rfl,z11,o11,l11⟩
 have n11:=dv hg11
 have b11:=z11.lt
 have hd11:d11.length=2:=z11.size
 have ht11:d11.take 2=d11:=List.take_of_length_le (by omega)
 have hs11_0:aR [.int .i64 0, .nils] 0 d11=d11:=iJ (by rw[hd11];rfl)
 simp(disch:=omega) only[ae,c5,hsz0,hall0,hsz1,hall1,hd0,ht0,hd1,ht1,hs1_0,hd3_0,ht3_0,hs3_0_0,hd4,ht4,hs4_0,hd6,ht6,hd7_0,ht7_0,hs7_0_0,hd8,ht8,hs8_0,hneg,hd10,ht10,hd11,ht11,hs11_0,bh,aN,cW,beq_self_eq_true,bne_self_eq_false,List.getElem?_cons_zero,List.getElem?_cons_succ,Bool.or_false,Bool.false_or,Bool.or_self,SX,SU,SL,reduceCtorEq,Nat.reduceAdd,Nat.reduceLeDiff,reduceIte]
 refine bW (po (Rp.aq hg11 (Rp.aq hg10 (((((Rp.aq hg9 (Rp.aq hg8 (Rp.aq hg7 (Rp.aq hg6 (Rp.aq hg5 (Rp.aq hg4 (Rp.aq hg3 (Rp.aq hg2 (Rp.aq hg1 (Rp.aq hg0 hv2)))))))))).wrote w1 (fun i hi hn=>by have:=hv2.lt i hi;have:=b4 i hn;have:=l4 i hn;omega)).wrote w2 (fun i hi hn=>by have:=hv2.lt i hi;have:=b5 i hn;have:=l5 i hn;omega)).wrote wm0 (fun i hi hn=>by have:=hv2.lt i hi;have:=b7_0 i hn;have:=l7_0 i hn;omega)).wrote wm1 (fun i hi hn=>by have:=hv2.lt i hi;have:=b7_1 i hn;have:=l7_1 i hn;omega)))) (by omega)) ?_
 rintro r12 g12 ⟨t12,d12,U12,hg12,rfl,z12,o12,l12⟩
 have n12:=dv hg12
 have b12:=z12.lt
 obtain⟨e12,rfl⟩:=z12.one rfl
 simp(disch:=omega) only[ae,c5,hsz0,hall0,hsz1,hall1,hd0,ht0,hd1,ht1,hs1_0,hd3_0,ht3_0,hs3_0_0,hd4,ht4,hs4_0,hd6,ht6,hd7_0,ht7_0,hs7_0_0,hd8,ht8,hs8_0,hneg,hd10,ht10,hd11,ht11,hs11_0,bh,aN,cW,beq_self_eq_true,bne_self_eq_false,List.getElem?_cons_zero,List.getElem?_cons_succ,Bool.or_false,Bool.false_or,Bool.or_self,SX,SU,SL,reduceCtorEq,Nat.reduceAdd,Nat.reduceLeDiff,reduceIte]
 refine bW (F.j8 ⟨_,_,rfl,⟨_,(Rp.aq hg12 (Rp.aq hg11 z10))⟩,⟨_,_,rfl,⟨_,(Rp.aq hg12 z11)⟩,⟨_,_,rfl,⟨_,z12⟩,rfl⟩⟩⟩ (by omega) (by omega)) ?_
 rintro r13 g13 ⟨t13,css13,U13,hg13,rfl,zz13,o13,l13⟩
 have n13:=dv hg13
 obtain⟨d13_0,cr13_0,U13_0,V13_0,rfl,rfl,z13_0,zz13_0⟩:=zz13
 obtain⟨d13_1,cr13_1,U13_1,V13_1,rfl,rfl,z13_1,zz13_1⟩:=zz13_0
 obtain⟨rfl,rfl⟩:=zz13_1
 simp only[List.nil_append,List.append_nil]at o13 l13
 obtain⟨o13_0,ox13_0,x13_0,xx13_0⟩:=o13.split
 have b13_0:=z13_0.lt
 have l13_0:∀i∈U13_0,_:=fun i hi=>l13 i (by simp[hi])
 have o13_1:=ox13_0
 have b13_1:=z13_1.lt
 have l13_1:∀i∈U13_1,_:=fun i hi=>l13 i (by simp[hi])
 have hd13_0:d13_0.length=2:=z13_0.size
 have ht13_0:d13_0.take 2=d13_0:=List.take_of_length_le (by omega)
 have hs13_0_0:aR [.int .i64 0, .nils] 0 d13_0=d13_0:=iJ (by rw[hd13_0];rfl)
 obtain⟨e13_1,rfl⟩:=z13_1.one rfl
 simp(disch:=omega) only[ae,c5,hsz0,hall0,hsz1,hall1,hd0,ht0,hd1,ht1,hs1_0,hd3_0,ht3_0,hs3_0_0,hd4,ht4,hs4_0,hd6,ht6,hd7_0,ht7_0,hs7_0_0,hd8,ht8,hs8_0,hneg,hd10,ht10,hd11,ht11,hs11_0,hd13_0,ht13_0,hs13_0_0,bh,aN,cW,beq_self_eq_true,bne_self_eq_false,List.getElem?_cons_zero,List.getElem?_cons_succ,Bool.or_false,Bool.false_or,Bool.or_self,SX,SU,SL,reduceCtorEq,Nat.reduceAdd,Nat.reduceLeDiff,reduceIte]
 refine cG.go wK z13_0 (Rp.aq hg13 (Rp.aq hg12 (Rp.aq hg11 (Rp.aq hg10 (((((Rp.aq hg9 (Rp.aq hg8 (Rp.aq hg7 (Rp.aq hg6 (Rp.aq hg5 (Rp.aq hg4 z3_0)))))).wrote w1 (fun i hi hn=>by have:=b3_0 i hi;have:=l3_0 i hi;have:=b4 i hn;have:=l4 i hn;omega)).wrote w2 (fun i hi hn=>by have:=b3_0 i hi;have:=l3_0 i hi;have:=b5 i hn;have:=l5 i hn;omega)).wrote wm0 (fun i hi hn=>by have:=b3_0 i hi;have:=l3_0 i hi;have:=b7_0 i hn;have:=l7_0 i hn;omega)).wrote wm1 (fun i hi hn=>by have:=b3_0 i hi;have:=l3_0 i hi;have:=b7_1 i hn;have:=l7_1 i hn;omega)))))) (fun _=> ?_) (fun hne=>absurd rfl hne)
 simp(disch:=omega) only[ae,c5,hsz0,hall0,hsz1,hall1,hd0,ht0,hd1,ht1,hs1_0,hd3_0,ht3_0,hs3_0_0,hd4,ht4,hs4_0,hd6,ht6,hd7_0,ht7_0,hs7_0_0,hd8,ht8,hs8_0,hneg,hd10,ht10,hd11,ht11,hs11_0,hd13_0,ht13_0,hs13_0_0,bh,aN,cW,beq_self_eq_true,bne_self_eq_false,List.getElem?_cons_zero,List.getElem?_cons_succ,Bool.or_false,Bool.false_or,Bool.or_self,SX,SU,SL,reduceCtorEq,Nat.reduceAdd,Nat.reduceLeDiff,reduceIte]
 refine cG.go u4 z13_1 (Rp.aq hg13 (Rp.aq hg12 (Rp.aq hg11 (Rp.aq hg10 (((((Rp.aq hg9 (Rp.aq hg8 (Rp.aq hg7 (Rp.aq hg6 (Rp.aq hg5 (Rp.aq hg4 z3_1)))))).wrote w1 (fun i hi hn=>by have:=b3_1 i hi;have:=l3_1 i hi;have:=b4 i hn;have:=l4 i hn;omega)).wrote w2 (fun i hi hn=>by have:=b3_1 i hi;have:=l3_1 i hi;have:=b5 i hn;have:=l5 i hn;omega)).wrote wm0 (fun i hi hn=>by have:=b3_1 i hi;have:=l3_1 i hi;have:=b7_0 i hn;have:=l7_0 i hn;omega)).wrote wm1 (fun i hi hn=>by have:=b3_1 i hi;have:=l3_1 i hi;have:=b7_1 i hn;have:=l7_1 i hn;omega)))))) (fun _=> ?_) (fun hne=>absurd rfl hne)
 simp(disch:=omega) only[ae,c5,hsz0,hall0,hsz1,hall1,hd0,ht0,hd1,ht1,hs1_0,hd3_0,ht3_0,hs3_0_0,hd4,ht4,hs4_0,hd6,ht6,hd7_0,ht7_0,hs7_0_0,hd8,ht8,hs8_0,hneg,hd10,ht10,hd11,ht11,hs11_0,hd13_0,ht13_0,hs13_0_0,bh,aN,cW,beq_self_eq_true,bne_self_eq_false,List.getElem?_cons_zero,List.getElem?_cons_succ,Bool.or_false,Bool.false_or,Bool.or_self,SX,SU,SL,reduceCtorEq,Nat.reduceAdd,Nat.reduceLeDiff,reduceIte]
 refine jR.go GS ⟨_,_,_,z7_0⟩ (Rp.aq hg13 (Rp.aq hg12 (Rp.aq hg11 (Rp.aq hg10 (zm0.wrote wm1 (fun i hi hn=>x7_0 i hi (by first|exact hn|simp[hn]))))))) (k:=1) (by omega) ?_
 simp(disch:=omega) only[ae,c5,hsz0,hall0,hsz1,hall1,hd0,ht0,hd1,ht1,hs1_0,hd3_0,ht3_0,hs3_0_0,hd4,ht4,hs4_0,hd6,ht6,hd7_0,ht7_0,hs7_0_0,hd8,ht8,hs8_0,hneg,hd10,ht10,hd11,ht11,hs11_0,hd13_0,ht13_0,hs13_0_0,bh,aN,cW,beq_self_eq_true,bne_self_eq_false,List.getElem?_cons_zero,List.getElem?_cons_succ,Bool.or_false,Bool.false_or,Bool.or_self,SX,SU,SL,reduceCtorEq,Nat.reduceAdd,Nat.reduceLeDiff,reduceIte]
 refine aV (fun hn=>absurd hn (by omega)) (fun hn=> ?_)
 simp(disch:=omega) only[ae,c5,hsz0,hall0,hsz1,hall1,hd0,ht0,hd1,ht1,hs1_0,hd3_0,ht3_0,hs3_0_0,hd4,ht4,hs4_0,hd6,ht6,hd7_0,ht7_0,hs7_0_0,hd8,ht8,hs8_0,hneg,hd10,ht10,hd11,ht11,hs11_0,hd13_0,ht13_0,hs13_0_0,bh,aN,cW,beq_self_eq_true,bne_self_eq_false,List.getElem?_cons_zero,List.getElem?_cons_succ,Bool.or_false,Bool.false_or,Bool.or_self,SX,SU,SL,reduceCtorEq,Nat.reduceAdd,Nat.reduceLeDiff,reduceIte]
 refine jR.go An ⟨_,_,_,z7_1⟩ (Rp.aq hg13 (Rp.aq hg12 (Rp.aq hg11 (Rp.aq hg10 zm1)))) (k:=1+i1 TPush (ak l p ps).1.tv) (by omega) ?_
 simp(disch:=omega) only[ae,c5,hsz0,hall0,hsz1,hall1,hd0,ht0,hd1,ht1,hs1_0,hd3_0,ht3_0,hs3_0_0,hd4,ht4,hs4_0,hd6,ht6,hd7_0,ht7_0,hs7_0_0,hd8,ht8,hs8_0,hneg,hd10,ht10,hd11,ht11,hs11_0,hd13_0,ht13_0,hs13_0_0,bh,aN,cW,beq_self_eq_true,bne_self_eq_false,List.getElem?_cons_zero,List.getElem?_cons_succ,Bool.or_false,Bool.false_or,Bool.or_self,SX,SU,SL,reduceCtorEq,Nat.reduceAdd,Nat.reduceLeDiff,reduceIte]
 refine aV (fun hn=>absurd hn (by omega)) (fun hn=> ?_)
 simp(disch:=omega) only[ae,c5,hsz0,hall0,hsz1,hall1,hd0,ht0,hd1,ht1,hs1_0,hd3_0,ht3_0,hs3_0_0,hd4,ht4,hs4_0,hd6,ht6,hd7_0,ht7_0,hs7_0_0,hd8,ht8,hs8_0,hneg,hd10,ht10,hd11,ht11,hs11_0,hd13_0,ht13_0,hs13_0_0,bh,aN,cW,beq_self_eq_true,bne_self_eq_false,List.getElem?_cons_zero,List.getElem?_cons_succ,Bool.or_false,Bool.false_or,Bool.or_self,SX,SU,SL,reduceCtorEq,Nat.reduceAdd,Nat.reduceLeDiff,reduceIte]
end Go.Eng.U
