import Derived.Test.YtfackchfbefaiaaGreatGb
import Derived.Test.YtfackchfbefaiaaGreatGc
import Derived.Test.YtfackchfbefaiaaGreatGe
import Derived.Test.YtfackchfbefaiaaGreatGf
import Derived.Test.YtfackchfbefaiaaGreatGh
import Derived.Test.YtfackchfbefaiaaGreatGi
set_option maxRecDepth 100000
set_option linter.unusedSimpArgs false
set_option linter.unusedVariables false
namespace Go.Eng.F
theorem rV (b:Bytes):(ga b).length=8+b.length:=by
 simp only[ga,List.length_append,List.length_cons,List.length_nil,cY]
def dw (l:ax) (m:List aW):Bytes:=(m.map fun x=>ga (fc l x)).flatten
end Go.Eng.F
namespace Go.Eng.F
theorem Hv {l:List aW} {i:Nat} (h:i < l.length):(Lm l)[i]? =some (l[i].c):=by simp[Lm,h]
def cp (l:ax) (m:List aW):Bool:=m.all fun x=>aY l x && bD l (fc l x)
def iy (l:ax) (m:List aW):List (Bool×List E):= [(false,[.o true (some (5,1)) (bytes (if cp l m=true then dw l m else []))]),(false,[.p (.bool (cp l m))])]
theorem wv {l:ax} {m:List aW} {i:Nat} (h:i < m.length) (h0:∀x∈m.take i,(aY l x && bD l (fc l x))=true) (h1:(aY l m[i] && bD l (fc l m[i]))=true):∀x∈m.take (i+1),(aY l x && bD l (fc l x))=true:=by
 rw[List.take_succ_eq_append_getElem h]
 intro x hx
 rcases List.mem_append.1 hx with hx|hx
 ·exact h0 x hx
 ·simp only[List.mem_singleton]at hx;subst hx;exact h1
theorem tK {l:ax} {m:List aW} {i:Nat} (h:i < m.length) (h1:(aY l m[i] && bD l (fc l m[i]))=false):cp l m=false:=by
 cases hb:cp l m with
 |false=>rfl
 |true=>
  simp only[cp,List.all_eq_true]at hb
  rw[hb _ (List.getElem_mem h)]at h1
  cases h1
theorem vG {l:ax} {m:List aW} {i:Nat} (h:i < m.length):dw l (m.take (i+1))=dw l (m.take i)++ga (fc l m[i]):=by
 rw[List.take_succ_eq_append_getElem h]
 simp only[dw,List.map_append,List.map_cons,List.map_nil,List.flatten_append,List.flatten_cons,List.flatten_nil,List.append_nil]
theorem ot {l:ax} {m:List aW} {i:Nat}:(dw l (m.take i)).length≤20009 * i:=by
 induction i with
 |zero=>simp[dw]
 |succ i ih=>
  by_cases h:i < m.length
  ·rw[vG h,List.length_append,rV]
   have:=zZ l m[i]
   omega
  ·rw[List.take_of_length_le (by omega)]at ih⊢
   omega
theorem Mj (l:ax) (m:aW) (hw:m.wc):VC cd iF (aJ [(true,l.c),(true,m.c)]) (fun rs _=>rs= [(false,[.o true (some (5,1)) (bytes (fc l m))]),(false,[.p (.bool (aY l m))])]):=
 (zH l m hw).own fun rs ps q=>by
   rw[q,fc]
   by_cases h0:aY l m=true
   ·rw[bE h0,if_pos h0,h0]
    exact⟨_,by simp[eX,gW,kl],rfl⟩
   ·have h1:aY l m=false:=by simpa using h0
    rw[cG h1,if_neg h0,h1]
    exact⟨_,by simp[eX,gW,kl,av],rfl⟩
abbrev iO:Nat:=24
def pV:AF:=⟨2,6,[.tmp 4, .tmp 5],(.seq (.ops [.i (.lbox 2 (.s 0)), .i (.mov 4 (.c (.val false [.nils]))), .i (.mov 5 (qb false))]) (.seq (.ops [.i (.bse 13),qm 6 13]) (.seq (.seq (.ops [qm 14 1,qn 15 14, .i (.mov 16 (qi 0))]) (.block 0 (.loop [41,40,39,38,37,36,35,34,33,32,31,30,29,28,27,26,25,24,23,22,21,20,19,18,17,12,11,10,9,8] (.seq (.ops [qd 17 .lss 16 15]) (.seq (.cond (.s 17) .skip (.exit 0)) (.seq (.block 1 (.seq (.ops [.i (.iad 18 (.s 14) (.s 16) 45), .i (.ldh 19 (.s 18) 45 true), .i (.lal 8 [.int .i64 0, .int .i64 0, .int .i64 0, .nils, .int .i64 0, .nils, .int .i64 0, .int .i64 0, .nils, .nils, .nils, .int .i64 0, .int .i64 0, .int .i64 0, .nils, .nils, .int .i64 0, .int .i64 0, .nils, .nils, .nils, .int .i64 0, .int .i64 0, .int .i64 0, .nils, .nils, .int .i64 0, .int .i64 0, .nils, .nils, .nils, .nils, .int .i64 0, .nils, .nils, .int .i64 0, .int .i64 0, .nils, .nils, .nils, .int .i64 0, .int .i64 0, .int .i64 0, .nils, .nils]),qs 8 8 19 45]) (.seq (.ops [ql 21 2 2 5 true,ql 22 8 8 45 true, .i (.call 24 59 false [(.s 21),(.s 22)]),qm 20 23, .i (.ext 24 (.s 20) 0), .i (.ext 25 (.s 20) 1),qm 9 24,qm 10 25]) (.seq (.ops [ql 27 2 2 5 true,qm 28 9, .i (.call 30 60 false [(.s 27),(.s 28)]),qm 26 29, .i (.ext 30 (.s 26) 0), .i (.ext 31 (.s 26) 1),qm 11 30,qm 12 31]) (.seq (.seq (.ops [qm 32 10, .i (.not 33 (.s 32)),qm 34 33, .g 34 false 36 (.mov 35 (.s 12)), .g 34 false 37 (.not 36 (.s 35)), .i (.pick 37 (.s 34) (qb true) (.s 36))]) (.cond (.s 37) (.seq (.ops [.i (.mov 4 (.c (.val false [.nils]))), .i (.mov 5 (qb false))]) .ret) .skip)) (.ops [qm 38 6,qm 39 11, .i (.app 40 5 1 1 (.s 38) (.s 39)),qm 6 40])))))) (.ops [.i (.bin 41 .add (.s 16) (qi 1)),qm 16 41]))))))) (.seq (.ops [qm 42 6,qm 4 42, .i (.mov 5 (qb true))]) .ret))))⟩
theorem AX:cd iO=some pV:=by kernel_rfl
theorem zO (l:ax) (m:List aW) (hm:m.length≤1048576) (hw:∀x∈m,x.wc):VC cd iO (aJ [(true,l.c),(false,[.sl (Lm m)])]) (fun rs _=>rs=iy l m):=by
 refine VC.Jn ?_
 refine aa AX rfl ?_
 simp(disch:=omega) [pV,ax.c,Ho,VZ]
 refine bM (σ:=Nat×Nat×Bytes) (f1:=_) (es0:=_) (by simp(disch:=omega) [VZ];rfl) (by simp(disch:=omega) [VZ];rfl) (fun p=> [(16, .val false [.int .i64 (p.1:Int)]),(6, .val false [.ow 13 p.2.1])]) (fun p=> [(13, .sl p.2.1 true true (some (5,1)) (bytes p.2.2))])
  (fun p g=>g+p.1=m.length∧p.2.2=dw l (m.take p.1)∧∀x∈m.take p.1,(aY l x && bD l (fc l x))=true) (0,_,[]) m.length (by simp(disch:=omega) [VZ];rfl) (by simp(disch:=omega) [bytes,VZ]) ⟨by simp,by simp[dw],by simp⟩ ?_
 rintro⟨i,v,x⟩ nx g ⟨hg,h5,h6⟩ P hP
 simp only at hg h5 h6
 have hlen:=ot (l:=l) (m:=m) (i:=i)
 rw[←h5]at hlen
 simp(disch:=omega) [VZ]
 refine ab (fun h8=> ?_) (fun h8=> ?_)
 ·have hml:=hw _ (List.getElem_mem h8)
  have hel:=zZ l m[i]
  have hfl:=rV (fc l m[i])
  have hft:=wv (l:=l) h8 h6
  have hfn:=tK (l:=l) h8
  have hb:=vG (l:=l) h8
  have hgt:=Hv h8
  generalize m[i]=y at hml hel hfl hft hfn hb hgt
  simp(disch:=omega) [hgt,aW.c,VZ]
  refine az (Mj l y hml) ?_ (ha:=by first|rfl|(simp[ax.c,aW.c,VY] <;>repeat' constructor))
  simp(disch:=omega) [VZ]
  have hfr:=Aw l (fc l y) (by omega)
  simp only[fY]at hfr
  refine az (hfr) ?_ (ha:=by first|rfl|(simp[ax.c,VY] <;>repeat' constructor))
  by_cases k1:aY l y=true
  ·by_cases k2:bD l (fc l y)=true
   ·have e1:bytes x++bytes (ga (fc l y))=bytes (dw l (m.take (i+1))):=by rw[hb,←h5];simp[bytes]
    simp(disch:=omega) [k1,k2,e1,an,hfl,VZ]
    exact hP (i+1,_,dw l (m.take (i+1))) (g - 1) _ _ (by omega) ⟨by simp only;omega,rfl,hft (by rw[k1,k2];rfl)⟩ (by simp(disch:=omega) [VZ] <;>rfl) (by simp(disch:=omega) [VZ])
   ·have k3:bD l (fc l y)=false:=by simpa using k2
    simp(disch:=omega) [k1,k2,k3,iy,hfn (by rw[k1,k3];rfl),av,eX,gW,kl,VZ]
  ·have k3:aY l y=false:=by simpa using k1
   simp(disch:=omega) [k1,k3,iy,hfn (by rw[k3];rfl),av,eX,gW,kl,VZ]
 ·have hi:i=m.length:=by omega
  subst hi
  rw[List.take_length]at h5 h6
  have hf:cp l m=true:=by simp only[cp,List.all_eq_true];exact h6
  subst h5
  simp(disch:=omega) [iy,hf,eX,gW,kl,VZ]
end Go.Eng.F
namespace Go.Eng.F
end Go.Eng.F
namespace Go.Eng.F
end Go.Eng.F
namespace Go.Eng.F
theorem Lv.wf {v:bF} (s:Lv v):v.wf:=by
 have h1:=s.block
 have h2:=s.tag
 exact⟨vt s.view,vt s.height,by unfold Sz;omega,vt s.who,by unfold Sz;omega⟩
structure Ev.OJ (l:ax) (k:Nat) (e:Ev):Prop where
 kind:e.kind=1∨e.kind=2∨e.kind=3
 n:e.kind=1→0≤e.n∧e.n≤k
 msg:e.kind=3→aY l e.msg=true
 wc:e.msg.wc
theorem Ev.OJ.up {l:ax} {k k':Nat} {e:Ev} (h:e.OJ l k) (hk:k≤k'):e.OJ l k':= {h with n:=fun x=>by have:=h.n x;omega}
end Go.Eng.F
namespace Go.Eng.F
theorem wX (l:ax) (m:aW) (hw:m.wc):VC cd iL (aJ [(true,l.c),(true,m.c)]) (fun rs _=>rs= [(false,[.o true (some (5,1)) (bytes (fc l m))]),(false,[.p (.bool (aY l m))])]):=by
 refine VC.Jn ((yg l m hw).mono fun rs ps h=> ?_)
 subst h
 refine⟨_,?_,rfl⟩
 by_cases h:aY l m=true
 ·rw[bE h];simp[fc,h,eX,gW,kl]
 ·have h':aY l m=false:=by simpa using h
  rw[cG h'];simp[fc,h',eX,gW,kl,av]
def fr (l:ax) (b:Bytes):Bytes:=if bD l b=true then ga b else []
end Go.Eng.F
namespace Go.Eng.F
open Go.Eng.U (TMsg DH)
def Ev.tv (e:Ev):Tv:= .r [.i e.kind, .i e.n,e.msg.tv]
theorem Ev.enc (e:Ev):enc DH e.tv=e.c:=by simp only[Ev.tv,aW.enc,eg,bK,cC,du,Ev.c,List.cons_append,List.nil_append,List.append_nil]
theorem Ev.ex {v:Tv} (h:aG DH v):∃e:Ev,v=e.tv:=by
 obtain⟨vs,rfl,h⟩:=h.st
 obtain⟨v0,_,rfl,h0,h⟩:=h.step
 obtain⟨v1,_,rfl,h1,h⟩:=h.step
 obtain⟨v2,_,rfl,h2,h⟩:=h.step
 obtain rfl:=h.fin
 obtain⟨n0,rfl,_⟩:=h0.int
 obtain⟨n1,rfl,_⟩:=h1.int
 obtain⟨n2,rfl⟩:=aW.ex h2
 exact⟨⟨n0,n1,n2⟩,rfl⟩
def j4 (l:List aW):Tv:= .l (l.map aW.tv)
theorem G5 (l:List aW):enc (.sl TMsg) (j4 l)= [.sl (Lm l)]:=by
 simp only[j4,zz,List.map_map,Lm]
 congr 2
 exact List.map_congr_left fun x _=>aW.enc x
end Go.Eng.F
namespace Go.Eng.F
open Go.Eng.U (TMsg DH tt q9 yQ cu fw Jq dQ p0 TLimits)
structure Ev.small (k:Nat) (e:Ev):Prop where
 kind:1≤e.kind∧e.kind≤3
 n:0≤e.n∧e.n≤k+9
 wc:e.msg.wc
 wt:wt e.msg.tv≤10000
theorem Ev.small.up {k k':Nat} {e:Ev} (h:e.small k) (hk:k≤k'):e.small k':= {h with n:=by have:=h.n;omega}
end Go.Eng.F
namespace Go.Eng.F
open Go.Eng.U (TMsg TLimits)
theorem Eo {l:ax} {m:aW} (h:bD l (fc l m)=true):aY l m=true:=by
 cases hm:aY l m with
 |true=>rfl
 |false=>
  simp only[bD,Bool.and_eq_true]at h
  have:=fg h.2
  simp[fc,hm]at this
abbrev iK:Nat:=22
def qT:AF:=⟨2,6,[.tmp 4, .tmp 5],(.seq (.ops [.i (.lbox 2 (.s 0)), .i (.mov 4 (.c (.val false [.nils]))), .i (.mov 5 (qb false))]) (.seq (.ops [.i (.bse 13),qm 6 13]) (.seq (.seq (.ops [qm 14 1,qn 15 14, .i (.mov 16 (qi 0))]) (.block 0 (.loop [37,36,35,34,33,32,31,30,29,28,27,26,25,24,23,22,21,20,19,18,17,12,11,10,9,8] (.seq (.ops [qd 17 .lss 16 15]) (.seq (.cond (.s 17) .skip (.exit 0)) (.seq (.block 1 (.seq (.ops [.i (.iad 18 (.s 14) (.s 16) 45), .i (.ldh 19 (.s 18) 45 true), .i (.lal 8 [.int .i64 0, .int .i64 0, .int .i64 0, .nils, .int .i64 0, .nils, .int .i64 0, .int .i64 0, .nils, .nils, .nils, .int .i64 0, .int .i64 0, .int .i64 0, .nils, .nils, .int .i64 0, .int .i64 0, .nils, .nils, .nils, .int .i64 0, .int .i64 0, .int .i64 0, .nils, .nils, .int .i64 0, .int .i64 0, .nils, .nils, .nils, .nils, .int .i64 0, .nils, .nils, .int .i64 0, .int .i64 0, .nils, .nils, .nils, .int .i64 0, .int .i64 0, .int .i64 0, .nils, .nils]),qs 8 8 19 45]) (.seq (.ops [ql 21 2 2 5 true,ql 22 8 8 45 true, .i (.call 24 56 false [(.s 21),(.s 22)]),qm 20 23, .i (.ext 24 (.s 20) 0), .i (.ext 25 (.s 20) 1),qm 9 24,qm 10 25]) (.seq (.ops [ql 27 2 2 5 true,qm 28 9, .i (.call 30 57 false [(.s 27),(.s 28)]),qm 26 29, .i (.ext 30 (.s 26) 0), .i (.ext 31 (.s 26) 1),qm 11 30,qm 12 31]) (.seq (.seq (.ops [qm 32 12, .i (.not 33 (.s 32))]) (.cond (.s 33) (.seq (.ops [.i (.mov 4 (.c (.val false [.nils]))), .i (.mov 5 (qb false))]) .ret) .skip)) (.ops [qm 34 6,qm 35 11, .i (.app 36 5 1 1 (.s 34) (.s 35)),qm 6 36])))))) (.ops [.i (.bin 37 .add (.s 16) (qi 1)),qm 16 37]))))))) (.seq (.ops [qm 38 6,qm 4 38, .i (.mov 5 (qb true))]) .ret))))⟩
theorem Bj:cd iK=some qT:=by kernel_rfl
theorem zR (l:ax) (m:List aW) (hm:m.length≤1048576) (hw:∀x∈m,x.wc):VC cd iK (aJ [(true,l.c),(false,[.sl (Lm m)])]) (fun rs _=>rs=iy l m):=by
 refine VC.Jn ?_
 refine aa Bj rfl ?_
 simp(disch:=omega) [qT,ax.c,Ho,VZ]
 refine bM (σ:=Nat×Nat×Bytes) (f1:=_) (es0:=_) (by simp(disch:=omega) [VZ];rfl) (by simp(disch:=omega) [VZ];rfl) (fun p=> [(16, .val false [.int .i64 (p.1:Int)]),(6, .val false [.ow 13 p.2.1])]) (fun p=> [(13, .sl p.2.1 true true (some (5,1)) (bytes p.2.2))])
  (fun p g=>g+p.1=m.length∧p.2.2=dw l (m.take p.1)∧∀x∈m.take p.1,(aY l x && bD l (fc l x))=true) (0,_,[]) m.length (by simp(disch:=omega) [VZ];rfl) (by simp(disch:=omega) [bytes,VZ]) ⟨by simp,by simp[dw],by simp⟩ ?_
 rintro⟨i,v,x⟩ nx g ⟨hg,h5,h6⟩ P hP
 simp only at hg h5 h6
 have hlen:=ot (l:=l) (m:=m) (i:=i)
 rw[←h5]at hlen
 simp(disch:=omega) [VZ]
 refine ab (fun h8=> ?_) (fun h8=> ?_)
 ·have hml:=hw _ (List.getElem_mem h8)
  have hel:=zZ l m[i]
  have hfl:=rV (fc l m[i])
  have hft:=wv (l:=l) h8 h6
  have hfn:=tK (l:=l) h8
  have hb:=vG (l:=l) h8
  have hgt:=Hv h8
  generalize m[i]=y at hml hel hfl hft hfn hb hgt
  simp(disch:=omega) [hgt,aW.c,VZ]
  refine az (wX l y hml) ?_ (ha:=by first|rfl|(simp[ax.c,aW.c,VY] <;>repeat' constructor))
  simp(disch:=omega) [VZ]
  have hfr:=Ba l (fc l y) (by omega)
  simp only[fY]at hfr
  refine az (hfr) ?_ (ha:=by first|rfl|(simp[ax.c,VY] <;>repeat' constructor))
  by_cases k2:bD l (fc l y)=true
  ·have k1:=Eo k2
   have e1:bytes x++bytes (ga (fc l y))=bytes (dw l (m.take (i+1))):=by rw[hb,←h5];simp[bytes]
   simp(disch:=omega) [k1,k2,e1,an,hfl,VZ]
   exact hP (i+1,_,dw l (m.take (i+1))) (g - 1) _ _ (by omega) ⟨by simp only;omega,rfl,hft (by rw[k1,k2];rfl)⟩ (by simp(disch:=omega) [VZ] <;>rfl) (by simp(disch:=omega) [VZ])
  ·have k3:bD l (fc l y)=false:=by simpa using k2
   simp(disch:=omega) [k2,k3,iy,hfn (by rw[k3,Bool.and_false]),av,eX,gW,kl,VZ]
 ·have hi:i=m.length:=by omega
  subst hi
  rw[List.take_length]at h5 h6
  have hf:cp l m=true:=by simp only[cp,List.all_eq_true];exact h6
  subst h5
  simp(disch:=omega) [iy,hf,eX,gW,kl,VZ]
def fF (l:ax) (m:List aW):Bytes:=if cp l m=true then dw l m else []
theorem we (l:ax) (m:List aW):(fF l m).length≤20009 * m.length:=by
 unfold fF
 split
 ·have:=ot (l:=l) (m:=m) (i:=m.length)
  rw[List.take_length]at this
  exact this
 ·simp
theorem Ii (l:ax) (m:List aW):wt (ur (fF l m))≤20009 * wt (j4 m):=by
 have h1:=we l m
 have h2:m.length≤wt (j4 m):=by unfold j4;rw[GC,List.length_map];omega
 have h3:20009 * m.length≤20009 * wt (j4 m):=Nat.mul_le_mul_left _ h2
 rw[HT]
 omega
theorem BX (l:ax) {m:List aW} (h:m.length≤1048576):OW (iy l m) [(.sl (.int .u8),ur (fF l m)),(.bool, .b (cp l m))]:=by
 have h1:=we l m
 have h2:20009 * m.length≤20009 * 1048576:=Nat.mul_le_mul_left _ h
 refine⟨rfl,?_,PG (by rw[H0];omega),rfl,?_,trivial,trivial⟩
 ·rw[eT]
  simp only[fF,Bm,and_self]
 ·rw[dJ]
  simp only[Bm,D.leaf,and_self]
theorem L6 {v:Tv} (h:aG (.sl TMsg) v):∃l,v=j4 l:=by
 obtain⟨xs,rfl,_,h2⟩:=h.sl
 obtain⟨ys,rfl⟩:=j5 (f:=aW.tv) (P:=aG TMsg) (fun v hv=>aW.ex hv) h2
 exact⟨ys,rfl⟩
theorem Jh {l:List aW} (h:aG (.sl TMsg) (j4 l)) (hw:wt (j4 l)≤1048576):l.length≤1048576∧∀m∈l,m.wc:=by
 unfold j4 at h hw
 rw[GC]at hw
 have h2:=(GU.1 h).2
 simp only[List.length_map]at hw
 refine⟨by omega,fun m hm=>aW.of (h2 _ (List.mem_map_of_mem hm)) ?_⟩
 have:=pw (f:=aW.tv) hm
 omega
theorem nR {h0:H} {l:ax} {m:List aW} {ms:List (Bool×List C)} (ha:dO h0 [(TLimits,l.tv),((.sl TMsg),j4 m)] ms) (hp1:wt (j4 m)≤1048576):
 WC cd iO ms h0 (RJ h0 [(.sl (.int .u8),ur (fF l m)),(.bool, .b (cp l m))]):=by
 obtain⟨k0,mr0,ha0⟩:=dO.QD ha
 obtain⟨k1,mr1,ha1⟩:=dO.QD ha0
 obtain⟨w1,w2⟩:=Jh k1 hp1
 have hc:=zO l m w1 w2
 have e:Fk [(TLimits,l.tv),((.sl TMsg),j4 m)]= [(true,l.c),(false,[.sl (Lm m)])]:=by simp only[Fk,List.map,ax.enc,Head.enc,Qc.enc,dy,eT,du,dJ,fG,pD,G5,Ty.agg]
 rw[←e]at hc
 exact hc.wc ha fun rs q=>by rw[q];exact BX l w1
theorem zb {h0:H} {l:ax} {m:List aW} {ms:List (Bool×List C)} (ha:dO h0 [(TLimits,l.tv),((.sl TMsg),j4 m)] ms) (hp1:wt (j4 m)≤1048576):
 WC cd iK ms h0 (RJ h0 [(.sl (.int .u8),ur (fF l m)),(.bool, .b (cp l m))]):=by
 obtain⟨k0,mr0,ha0⟩:=dO.QD ha
 obtain⟨k1,mr1,ha1⟩:=dO.QD ha0
 obtain⟨w1,w2⟩:=Jh k1 hp1
 have hc:=zR l m w1 w2
 have e:Fk [(TLimits,l.tv),((.sl TMsg),j4 m)]= [(true,l.c),(false,[.sl (Lm m)])]:=by simp only[Fk,List.map,ax.enc,Head.enc,Qc.enc,dy,eT,du,dJ,fG,pD,G5,Ty.agg]
 rw[←e]at hc
 exact hc.wc ha fun rs q=>by rw[q];exact BX l w1
end Go.Eng.F
set_option maxHeartbeats 16000000
namespace Go.Eng.U
theorem EW {l:List C} (h:l.length=5):∃x0 x1 x2 x3 x4,l= [x0,x1,x2,x3,x4]:=by
 rcases l with _|⟨x0,l⟩
 ·simp at h
 rcases l with _|⟨x1,l⟩
 ·simp at h
 rcases l with _|⟨x2,l⟩
 ·simp at h
 rcases l with _|⟨x3,l⟩
 ·simp at h
 rcases l with _|⟨x4,l⟩
 ·simp at h
 ·simp at h;exact⟨x0,x1,x2,x3,x4,by simp[h]⟩
def c9:AF:=⟨1,5,[.cell 2 5 true],(.seq (.ops [.i (.lbox 1 (.s 0)), .i (.lal 2 [.int .i64 0, .int .i64 0, .int .i64 0, .int .i64 0, .int .i64 0])]) (.seq (.ops [.i (.lal 3 [.int .i64 0, .int .i64 0, .int .i64 0, .int .i64 0, .int .i64 0])]) (.seq (.ops [qf 4 1 0,ql 5 1 4 1 false,qf 6 3 0,qs 3 6 5 1]) (.seq (.ops [qf 7 1 1,ql 8 1 7 1 false,qf 9 3 1,qs 3 9 8 1]) (.seq (.ops [qf 10 1 2,ql 11 1 10 1 false,qf 12 3 2,qs 3 12 11 1]) (.seq (.ops [qf 13 1 3,ql 14 1 13 1 false,qf 15 3 3,qs 3 15 14 1]) (.seq (.ops [qf 16 1 4,ql 17 1 16 1 false,qf 18 3 4,qs 3 18 17 1]) (.seq (.ops [ql 19 3 3 5 true,qs 2 2 19 5]) .ret))))))))⟩
theorem k9:cd 9=some c9:=by kernel_rfl
theorem vg:lZ cd 9 TLimits:=by
 intro h cs v S hv hw
 obtain⟨vs,rfl,q0⟩:=hv.st
 obtain⟨v0,r0,S0,T0,rfl,rfl,h0,q1⟩:=q0.step
 obtain⟨n0,e0,rfl,rfl,lo0,hi0⟩:=h0.int
 obtain⟨v1,r1,S1,T1,rfl,rfl,h1,q2⟩:=q1.step
 obtain⟨n1,e1,rfl,rfl,lo1,hi1⟩:=h1.int
 obtain⟨v2,r2,S2,T2,rfl,rfl,h2,q3⟩:=q2.step
 obtain⟨n2,e2,rfl,rfl,lo2,hi2⟩:=h2.int
 obtain⟨v3,r3,S3,T3,rfl,rfl,h3,q4⟩:=q3.step
 obtain⟨n3,e3,rfl,rfl,lo3,hi3⟩:=h3.int
 obtain⟨v4,r4,S4,T4,rfl,rfl,h4,q5⟩:=q4.step
 obtain⟨n4,e4,rfl,rfl,lo4,hi4⟩:=h4.int
 obtain⟨_,rfl,rfl⟩:=q5
 have hsz:cs.length=5:=hv.size
 simp only[Ty.size,Ty.aK,Nat.reduceAdd,Nat.zero_add,List.drop_zero]at e0 e1 e2 e3 e4 hsz
 simp only[wt,dq]at hw
 refine aD k9 rfl ?_
 simp(disch:=omega) only[ae,c9,e0,e1,e2,e3,e4,hsz,aB,au,SX,SU,SL,reduceCtorEq,Nat.reduceAdd,Nat.reduceLeDiff,reduceIte]
 exact⟨[],_,_,by simp,rfl,⟨_,rfl,(Rs.mk (Rp.mkInt lo0 hi0) (Rs.mk (Rp.mkInt lo1 hi1) (Rs.mk (Rp.mkInt lo2 hi2) (Rs.mk (Rp.mkInt lo3 hi3) (Rs.mk (Rp.mkInt lo4 hi4) Rs.nil)))))⟩,by simp[dK],by simp⟩
def RS:AF:=⟨2,4,[.tmp 4],(.seq (.ops [.i (.mov 4 (qi 0))]) (.seq (.ops [qm 5 1,qm 6 0,qn 7 6,qd 8 .sub 5 7,qm 1 8]) (.seq (.seq (.ops [qm 9 1, .i (.bin 10 .lss (.s 9) (qi 0))]) (.cond (.s 10) (.seq (.ops [.i (.mov 4 (qi (-1)))]) .ret) .skip)) (.seq (.ops [qm 11 1,qm 4 11]) .ret))))⟩
theorem Sn:cd 41=some RS:=by kernel_rfl
theorem eW:da cd 41 (.sl (.int .u8)):=LC Sn
def Ll:AF:=⟨2,5,[.tmp 4],(.seq (.ops [.i (.lbox 2 (.s 0)), .i (.mov 4 (qi 0))]) (.seq (.ops [qf 5 2 2,ql 6 2 5 1 false,qm 7 1, .i (.call 9 41 false [(.s 6),(.s 7)]),qm 1 8]) (.seq (.seq (.ops [qm 9 1, .i (.bin 10 .lss (.s 9) (qi 0))]) (.cond (.s 10) (.seq (.ops [.i (.mov 4 (qi (-1)))]) .ret) .skip)) (.seq (.ops [qf 11 2 4,ql 12 2 11 1 false,qm 13 1, .i (.call 15 41 false [(.s 12),(.s 13)]),qm 1 14]) (.seq (.seq (.ops [qm 15 1, .i (.bin 16 .lss (.s 15) (qi 0))]) (.cond (.s 16) (.seq (.ops [.i (.mov 4 (qi (-1)))]) .ret) .skip)) (.seq (.ops [qm 17 1,qm 4 17]) .ret))))))⟩
theorem Sv:cd 84=some Ll:=by kernel_rfl
theorem LX:da cd 84 q9:=by
 intro h cs v S k hv hk
 obtain⟨vs,rfl,q0⟩:=hv.st
 obtain⟨v0,r0,S0,T0,rfl,rfl,h0,q1⟩:=q0.step
 obtain⟨n0,e0,rfl,rfl,lo0,hi0⟩:=h0.int
 obtain⟨v1,r1,S1,T1,rfl,rfl,h1,q2⟩:=q1.step
 obtain⟨n1,e1,rfl,rfl,lo1,hi1⟩:=h1.int
 obtain⟨v2,r2,S2,T2,rfl,rfl,h2,q3⟩:=q2.step
 obtain⟨c2,e2⟩:=h2.one rfl
 rw[e2]at h2
 obtain⟨v3,r3,S3,T3,rfl,rfl,h3,q4⟩:=q3.step
 obtain⟨n3,e3,rfl,rfl,lo3,hi3⟩:=h3.int
 obtain⟨v4,r4,S4,T4,rfl,rfl,h4,q5⟩:=q4.step
 obtain⟨c4,e4⟩:=h4.one rfl
 rw[e4]at h4
 obtain⟨_,rfl,rfl⟩:=q5
 have hsz:cs.length=5:=hv.size
 simp only[Ty.size,Ty.aK,Nat.reduceAdd,Nat.zero_add,List.drop_zero]at e0 e1 e2 e3 e4 hsz
 have hw:wt (.r [.i n0, .i n1,v2, .i n3,v4])=wt v2+wt v4:=by simp only[wt,dq];omega
 rw[hw]
 refine aD Sv rfl ?_
 simp(disch:=omega) only[Ll,e0,e1,e2,e3,e4,hsz,aB,au,SX,SU,SL,reduceCtorEq,Nat.reduceAdd,Nat.reduceLeDiff,reduceIte]
 refine da.go eW h2 (k:=k) (by omega) (fun hf0=> ?_) (fun hf0=> ?_)
 case refine_2=>
  simp(disch:=omega) only[ae,Ll,e0,e1,e2,e3,e4,hsz,aB,au,SX,SU,SL,reduceCtorEq,Nat.reduceAdd,Nat.reduceLeDiff,reduceIte]
  refine ao (fun hn=> ?_) (fun hn=>absurd (show(-1:Int) < 0 by omega) hn)
  simp(disch:=omega) only[Ll,e0,e1,e2,e3,e4,hsz,aB,au,SX,SU,SL,reduceCtorEq,Nat.reduceAdd,Nat.reduceLeDiff,reduceIte]
  rw[if_neg (by omega)]
 simp(disch:=omega) only[ae,Ll,e0,e1,e2,e3,e4,hsz,aB,au,SX,SU,SL,reduceCtorEq,Nat.reduceAdd,Nat.reduceLeDiff,reduceIte]
 refine ao (fun hn=>absurd hn (by omega)) (fun hn=> ?_)
 simp(disch:=omega) only[Ll,e0,e1,e2,e3,e4,hsz,aB,au,SX,SU,SL,reduceCtorEq,Nat.reduceAdd,Nat.reduceLeDiff,reduceIte]
 refine da.go eW h4 (k:=k - wt v2) (by omega) (fun hf1=> ?_) (fun hf1=> ?_)
 case refine_2=>
  simp(disch:=omega) only[ae,Ll,e0,e1,e2,e3,e4,hsz,aB,au,SX,SU,SL,reduceCtorEq,Nat.reduceAdd,Nat.reduceLeDiff,reduceIte]
  refine ao (fun hn=> ?_) (fun hn=>absurd (show(-1:Int) < 0 by omega) hn)
  simp(disch:=omega) only[Ll,e0,e1,e2,e3,e4,hsz,aB,au,SX,SU,SL,reduceCtorEq,Nat.reduceAdd,Nat.reduceLeDiff,reduceIte]
  rw[if_neg (by omega)]
 simp(disch:=omega) only[ae,Ll,e0,e1,e2,e3,e4,hsz,aB,au,SX,SU,SL,reduceCtorEq,Nat.reduceAdd,Nat.reduceLeDiff,reduceIte]
 refine ao (fun hn=>absurd hn (by omega)) (fun hn=> ?_)
 simp(disch:=omega) only[Ll,e0,e1,e2,e3,e4,hsz,aB,au,SX,SU,SL,reduceCtorEq,Nat.reduceAdd,Nat.reduceLeDiff,reduceIte]
 congr 3
 omega
def SF:AF:=⟨2,5,[.tmp 4],(.seq (.ops [.i (.mov 4 (qi 0))]) (.seq (.ops [qm 6 1,qm 7 0,qn 8 7,qd 9 .sub 6 8,qm 1 9]) (.seq (.seq (.ops [qm 10 1, .i (.bin 11 .lss (.s 10) (qi 0))]) (.cond (.s 11) (.seq (.ops [.i (.mov 4 (qi (-1)))]) .ret) .skip)) (.seq (.seq (.ops [.i (.mov 5 (qi 0))]) (.block 0 (.loop [25,24,23,22,21,20,19,18,17,16,15,14,13,12] (.seq (.seq (.ops [qm 12 5,qm 13 0,qn 14 13,qd 15 .lss 12 14]) (.cond (.s 15) .skip (.exit 0))) (.seq (.block 1 (.seq (.ops [qm 18 0,qm 19 5, .i (.iad 20 (.s 18) (.s 19) 1), .i (.ldh 21 (.s 20) 1 false),qm 22 1, .i (.call 24 41 false [(.s 21),(.s 22)]),qm 1 23]) (.seq (.ops [qm 24 1, .i (.bin 25 .lss (.s 24) (qi 0))]) (.cond (.s 25) (.seq (.ops [.i (.mov 4 (qi (-1)))]) .ret) .skip)))) (.ops [qm 16 5, .i (.bin 17 .add (.s 16) (qi 1)),qm 5 17])))))) (.seq (.ops [qm 26 1,qm 4 26]) .ret)))))⟩
theorem SG:cd 28=some SF:=by kernel_rfl
theorem u7:da cd 28 (.sl (.sl (.int .u8))):=G7 SG eW
def GY:AF:=⟨2,5,[.tmp 4],(.seq (.ops [.i (.lbox 2 (.s 0)), .i (.mov 4 (qi 0))]) (.seq (.ops [qf 5 2 2,ql 6 2 5 1 false,qm 7 1, .i (.call 9 41 false [(.s 6),(.s 7)]),qm 1 8]) (.seq (.seq (.ops [qm 9 1, .i (.bin 10 .lss (.s 9) (qi 0))]) (.cond (.s 10) (.seq (.ops [.i (.mov 4 (qi (-1)))]) .ret) .skip)) (.seq (.ops [qf 11 2 3,ql 12 2 11 1 false,qm 13 1, .i (.call 15 41 false [(.s 12),(.s 13)]),qm 1 14]) (.seq (.seq (.ops [qm 15 1, .i (.bin 16 .lss (.s 15) (qi 0))]) (.cond (.s 16) (.seq (.ops [.i (.mov 4 (qi (-1)))]) .ret) .skip)) (.seq (.ops [qf 17 2 4,ql 18 2 17 1 false,qm 19 1, .i (.call 21 28 false [(.s 18),(.s 19)]),qm 1 20]) (.seq (.seq (.ops [qm 21 1, .i (.bin 22 .lss (.s 21) (qi 0))]) (.cond (.s 22) (.seq (.ops [.i (.mov 4 (qi (-1)))]) .ret) .skip)) (.seq (.ops [qm 23 1,qm 4 23]) .ret))))))))⟩
theorem RL:cd 85=some GY:=by kernel_rfl
theorem Kz:da cd 85 yQ:=by
 intro h cs v S k hv hk
 obtain⟨vs,rfl,q0⟩:=hv.st
 obtain⟨v0,r0,S0,T0,rfl,rfl,h0,q1⟩:=q0.step
 obtain⟨n0,e0,rfl,rfl,lo0,hi0⟩:=h0.int
 obtain⟨v1,r1,S1,T1,rfl,rfl,h1,q2⟩:=q1.step
 obtain⟨n1,e1,rfl,rfl,lo1,hi1⟩:=h1.int
 obtain⟨v2,r2,S2,T2,rfl,rfl,h2,q3⟩:=q2.step
 obtain⟨c2,e2⟩:=h2.one rfl
 rw[e2]at h2
 obtain⟨v3,r3,S3,T3,rfl,rfl,h3,q4⟩:=q3.step
 obtain⟨c3,e3⟩:=h3.one rfl
 rw[e3]at h3
 obtain⟨v4,r4,S4,T4,rfl,rfl,h4,q5⟩:=q4.step
 obtain⟨c4,e4⟩:=h4.one rfl
 rw[e4]at h4
 obtain⟨_,rfl,rfl⟩:=q5
 have hsz:cs.length=5:=hv.size
 simp only[Ty.size,Ty.aK,Nat.reduceAdd,Nat.zero_add,List.drop_zero]at e0 e1 e2 e3 e4 hsz
 have hw:wt (.r [.i n0, .i n1,v2,v3,v4])=wt v2+wt v3+wt v4:=by simp only[wt,dq];omega
 rw[hw]
 refine aD RL rfl ?_
 simp(disch:=omega) only[GY,e0,e1,e2,e3,e4,hsz,aB,au,SX,SU,SL,reduceCtorEq,Nat.reduceAdd,Nat.reduceLeDiff,reduceIte]
 refine da.go eW h2 (k:=k) (by omega) (fun hf0=> ?_) (fun hf0=> ?_)
 case refine_2=>
  simp(disch:=omega) only[ae,GY,e0,e1,e2,e3,e4,hsz,aB,au,SX,SU,SL,reduceCtorEq,Nat.reduceAdd,Nat.reduceLeDiff,reduceIte]
  refine ao (fun hn=> ?_) (fun hn=>absurd (show(-1:Int) < 0 by omega) hn)
  simp(disch:=omega) only[GY,e0,e1,e2,e3,e4,hsz,aB,au,SX,SU,SL,reduceCtorEq,Nat.reduceAdd,Nat.reduceLeDiff,reduceIte]
  rw[if_neg (by omega)]
 simp(disch:=omega) only[ae,GY,e0,e1,e2,e3,e4,hsz,aB,au,SX,SU,SL,reduceCtorEq,Nat.reduceAdd,Nat.reduceLeDiff,reduceIte]
 refine ao (fun hn=>absurd hn (by omega)) (fun hn=> ?_)
 simp(disch:=omega) only[GY,e0,e1,e2,e3,e4,hsz,aB,au,SX,SU,SL,reduceCtorEq,Nat.reduceAdd,Nat.reduceLeDiff,reduceIte]
 refine da.go eW h3 (k:=k - wt v2) (by omega) (fun hf1=> ?_) (fun hf1=> ?_)
 case refine_2=>
  simp(disch:=omega) only[ae,GY,e0,e1,e2,e3,e4,hsz,aB,au,SX,SU,SL,reduceCtorEq,Nat.reduceAdd,Nat.reduceLeDiff,reduceIte]
  refine ao (fun hn=> ?_) (fun hn=>absurd (show(-1:Int) < 0 by omega) hn)
  simp(disch:=omega) only[GY,e0,e1,e2,e3,e4,hsz,aB,au,SX,SU,SL,reduceCtorEq,Nat.reduceAdd,Nat.reduceLeDiff,reduceIte]
  rw[if_neg (by omega)]
 simp(disch:=omega) only[ae,GY,e0,e1,e2,e3,e4,hsz,aB,au,SX,SU,SL,reduceCtorEq,Nat.reduceAdd,Nat.reduceLeDiff,reduceIte]
 refine ao (fun hn=>absurd hn (by omega)) (fun hn=> ?_)
 simp(disch:=omega) only[GY,e0,e1,e2,e3,e4,hsz,aB,au,SX,SU,SL,reduceCtorEq,Nat.reduceAdd,Nat.reduceLeDiff,reduceIte]
 refine da.go u7 h4 (k:=k - wt v2 - wt v3) (by omega) (fun hf2=> ?_) (fun hf2=> ?_)
 case refine_2=>
  simp(disch:=omega) only[ae,GY,e0,e1,e2,e3,e4,hsz,aB,au,SX,SU,SL,reduceCtorEq,Nat.reduceAdd,Nat.reduceLeDiff,reduceIte]
  refine ao (fun hn=> ?_) (fun hn=>absurd (show(-1:Int) < 0 by omega) hn)
  simp(disch:=omega) only[GY,e0,e1,e2,e3,e4,hsz,aB,au,SX,SU,SL,reduceCtorEq,Nat.reduceAdd,Nat.reduceLeDiff,reduceIte]
  rw[if_neg (by omega)]
 simp(disch:=omega) only[ae,GY,e0,e1,e2,e3,e4,hsz,aB,au,SX,SU,SL,reduceCtorEq,Nat.reduceAdd,Nat.reduceLeDiff,reduceIte]
 refine ao (fun hn=>absurd hn (by omega)) (fun hn=> ?_)
 simp(disch:=omega) only[GY,e0,e1,e2,e3,e4,hsz,aB,au,SX,SU,SL,reduceCtorEq,Nat.reduceAdd,Nat.reduceLeDiff,reduceIte]
 congr 3
 omega
theorem Jw {l:List C} (h:l.length=10):∃x0 x1 x2 x3 x4 x5 x6 x7 x8 x9,l= [x0,x1,x2,x3,x4,x5,x6,x7,x8,x9]:=by
 rcases l with _|⟨x0,l⟩
 ·simp at h
 rcases l with _|⟨x1,l⟩
 ·simp at h
 rcases l with _|⟨x2,l⟩
 ·simp at h
 rcases l with _|⟨x3,l⟩
 ·simp at h
 rcases l with _|⟨x4,l⟩
 ·simp at h
 rcases l with _|⟨x5,l⟩
 ·simp at h
 rcases l with _|⟨x6,l⟩
 ·simp at h
 rcases l with _|⟨x7,l⟩
 ·simp at h
 rcases l with _|⟨x8,l⟩
 ·simp at h
 rcases l with _|⟨x9,l⟩
 ·simp at h
 ·simp at h;exact⟨x0,x1,x2,x3,x4,x5,x6,x7,x8,x9,by simp[h]⟩
def HD:AF:=⟨2,5,[.tmp 4],(.seq (.ops [.i (.lbox 2 (.s 0)), .i (.mov 4 (qi 0))]) (.seq (.ops [qf 5 2 3,ql 6 2 5 1 false,qm 7 1, .i (.call 9 41 false [(.s 6),(.s 7)]),qm 1 8]) (.seq (.seq (.ops [qm 9 1, .i (.bin 10 .lss (.s 9) (qi 0))]) (.cond (.s 10) (.seq (.ops [.i (.mov 4 (qi (-1)))]) .ret) .skip)) (.seq (.ops [qf 11 2 4,ql 12 2 11 1 false,qm 13 1, .i (.call 15 41 false [(.s 12),(.s 13)]),qm 1 14]) (.seq (.seq (.ops [qm 15 1, .i (.bin 16 .lss (.s 15) (qi 0))]) (.cond (.s 16) (.seq (.ops [.i (.mov 4 (qi (-1)))]) .ret) .skip)) (.seq (.ops [qf 17 2 5,ql 18 2 17 5 true,qm 19 1, .i (.call 21 85 false [(.s 18),(.s 19)]),qm 1 20]) (.seq (.seq (.ops [qm 21 1, .i (.bin 22 .lss (.s 21) (qi 0))]) (.cond (.s 22) (.seq (.ops [.i (.mov 4 (qi (-1)))]) .ret) .skip)) (.seq (.ops [qm 23 1,qm 4 23]) .ret))))))))⟩
theorem SD:cd 86=some HD:=by kernel_rfl
theorem CN:da cd 86 cu:=by
 intro h cs v S k hv hk
 obtain⟨vs,rfl,q0⟩:=hv.st
 obtain⟨v0,r0,S0,T0,rfl,rfl,h0,q1⟩:=q0.step
 obtain⟨n0,e0,rfl,rfl,lo0,hi0⟩:=h0.int
 obtain⟨v1,r1,S1,T1,rfl,rfl,h1,q2⟩:=q1.step
 obtain⟨n1,e1,rfl,rfl,lo1,hi1⟩:=h1.int
 obtain⟨v2,r2,S2,T2,rfl,rfl,h2,q3⟩:=q2.step
 obtain⟨n2,e2,rfl,rfl,lo2,hi2⟩:=h2.int
 obtain⟨v3,r3,S3,T3,rfl,rfl,h3,q4⟩:=q3.step
 obtain⟨c3,e3⟩:=h3.one rfl
 rw[e3]at h3
 obtain⟨v4,r4,S4,T4,rfl,rfl,h4,q5⟩:=q4.step
 obtain⟨c4,e4⟩:=h4.one rfl
 rw[e4]at h4
 obtain⟨v5,r5,S5,T5,rfl,rfl,h5,q6⟩:=q5.step
 obtain⟨_,rfl,rfl⟩:=q6
 have hsz:cs.length=10:=hv.size
 simp only[Ty.size,Ty.aK,Nat.reduceAdd,Nat.zero_add,List.drop_zero]at e0 e1 e2 e3 e4 hsz h5
 have hw:wt (.r [.i n0, .i n1, .i n2,v3,v4,v5])=wt v3+wt v4+wt v5:=by simp only[wt,dq];omega
 rw[hw]
 refine aD SD rfl ?_
 simp(disch:=omega) only[HD,e0,e1,e2,e3,e4,hsz,aB,au,SX,SU,SL,reduceCtorEq,Nat.reduceAdd,Nat.reduceLeDiff,reduceIte]
 refine da.go eW h3 (k:=k) (by omega) (fun hf0=> ?_) (fun hf0=> ?_)
 case refine_2=>
  simp(disch:=omega) only[ae,HD,e0,e1,e2,e3,e4,hsz,aB,au,SX,SU,SL,reduceCtorEq,Nat.reduceAdd,Nat.reduceLeDiff,reduceIte]
  refine ao (fun hn=> ?_) (fun hn=>absurd (show(-1:Int) < 0 by omega) hn)
  simp(disch:=omega) only[HD,e0,e1,e2,e3,e4,hsz,aB,au,SX,SU,SL,reduceCtorEq,Nat.reduceAdd,Nat.reduceLeDiff,reduceIte]
  rw[if_neg (by omega)]
 simp(disch:=omega) only[ae,HD,e0,e1,e2,e3,e4,hsz,aB,au,SX,SU,SL,reduceCtorEq,Nat.reduceAdd,Nat.reduceLeDiff,reduceIte]
 refine ao (fun hn=>absurd hn (by omega)) (fun hn=> ?_)
 simp(disch:=omega) only[HD,e0,e1,e2,e3,e4,hsz,aB,au,SX,SU,SL,reduceCtorEq,Nat.reduceAdd,Nat.reduceLeDiff,reduceIte]
 refine da.go eW h4 (k:=k - wt v3) (by omega) (fun hf1=> ?_) (fun hf1=> ?_)
 case refine_2=>
  simp(disch:=omega) only[ae,HD,e0,e1,e2,e3,e4,hsz,aB,au,SX,SU,SL,reduceCtorEq,Nat.reduceAdd,Nat.reduceLeDiff,reduceIte]
  refine ao (fun hn=> ?_) (fun hn=>absurd (show(-1:Int) < 0 by omega) hn)
  simp(disch:=omega) only[HD,e0,e1,e2,e3,e4,hsz,aB,au,SX,SU,SL,reduceCtorEq,Nat.reduceAdd,Nat.reduceLeDiff,reduceIte]
  rw[if_neg (by omega)]
 simp(disch:=omega) only[ae,HD,e0,e1,e2,e3,e4,hsz,aB,au,SX,SU,SL,reduceCtorEq,Nat.reduceAdd,Nat.reduceLeDiff,reduceIte]
 refine ao (fun hn=>absurd hn (by omega)) (fun hn=> ?_)
 simp(disch:=omega) only[HD,e0,e1,e2,e3,e4,hsz,aB,au,SX,SU,SL,reduceCtorEq,Nat.reduceAdd,Nat.reduceLeDiff,reduceIte]
 refine da.go Kz h5 (k:=k - wt v3 - wt v4) (by omega) (fun hf2=> ?_) (fun hf2=> ?_)
 case refine_2=>
  simp(disch:=omega) only[ae,HD,e0,e1,e2,e3,e4,hsz,aB,au,SX,SU,SL,reduceCtorEq,Nat.reduceAdd,Nat.reduceLeDiff,reduceIte]
  refine ao (fun hn=> ?_) (fun hn=>absurd (show(-1:Int) < 0 by omega) hn)
  simp(disch:=omega) only[HD,e0,e1,e2,e3,e4,hsz,aB,au,SX,SU,SL,reduceCtorEq,Nat.reduceAdd,Nat.reduceLeDiff,reduceIte]
  rw[if_neg (by omega)]
 simp(disch:=omega) only[ae,HD,e0,e1,e2,e3,e4,hsz,aB,au,SX,SU,SL,reduceCtorEq,Nat.reduceAdd,Nat.reduceLeDiff,reduceIte]
 refine ao (fun hn=>absurd hn (by omega)) (fun hn=> ?_)
 simp(disch:=omega) only[HD,e0,e1,e2,e3,e4,hsz,aB,au,SX,SU,SL,reduceCtorEq,Nat.reduceAdd,Nat.reduceLeDiff,reduceIte]
 congr 3
 omega
theorem Ok {l:List C} (h:l.length=11):∃x0 x1 x2 x3 x4 x5 x6 x7 x8 x9 x10,l= [x0,x1,x2,x3,x4,x5,x6,x7,x8,x9,x10]:=by
 rcases l with _|⟨x0,l⟩
 ·simp at h
 rcases l with _|⟨x1,l⟩
 ·simp at h
 rcases l with _|⟨x2,l⟩
 ·simp at h
 rcases l with _|⟨x3,l⟩
 ·simp at h
 rcases l with _|⟨x4,l⟩
 ·simp at h
 rcases l with _|⟨x5,l⟩
 ·simp at h
 rcases l with _|⟨x6,l⟩
 ·simp at h
 rcases l with _|⟨x7,l⟩
 ·simp at h
 rcases l with _|⟨x8,l⟩
 ·simp at h
 rcases l with _|⟨x9,l⟩
 ·simp at h
 rcases l with _|⟨x10,l⟩
 ·simp at h
 ·simp at h;exact⟨x0,x1,x2,x3,x4,x5,x6,x7,x8,x9,x10,by simp[h]⟩
def Lh:AF:=⟨2,5,[.tmp 4],(.seq (.ops [.i (.lbox 2 (.s 0)), .i (.mov 4 (qi 0))]) (.seq (.ops [qf 5 2 0,ql 6 2 5 10 true,qm 7 1, .i (.call 9 86 false [(.s 6),(.s 7)]),qm 1 8]) (.seq (.seq (.ops [qm 9 1, .i (.bin 10 .lss (.s 9) (qi 0))]) (.cond (.s 10) (.seq (.ops [.i (.mov 4 (qi (-1)))]) .ret) .skip)) (.seq (.ops [qf 11 2 10,ql 12 2 11 1 false,qm 13 1, .i (.call 15 28 false [(.s 12),(.s 13)]),qm 1 14]) (.seq (.seq (.ops [qm 15 1, .i (.bin 16 .lss (.s 15) (qi 0))]) (.cond (.s 16) (.seq (.ops [.i (.mov 4 (qi (-1)))]) .ret) .skip)) (.seq (.ops [qm 17 1,qm 4 17]) .ret))))))⟩
theorem Sc:cd 87=some Lh:=by kernel_rfl
theorem Js:da cd 87 fw:=by
 intro h cs v S k hv hk
 obtain⟨vs,rfl,q0⟩:=hv.st
 obtain⟨v0,r0,S0,T0,rfl,rfl,h0,q1⟩:=q0.step
 obtain⟨v1,r1,S1,T1,rfl,rfl,h1,q2⟩:=q1.step
 obtain⟨c1,e1⟩:=h1.one rfl
 rw[e1]at h1
 obtain⟨_,rfl,rfl⟩:=q2
 have hsz:cs.length=11:=hv.size
 simp only[Ty.size,Ty.aK,Nat.reduceAdd,Nat.zero_add,List.drop_zero]at e1 hsz h0
 have hw:wt (.r [v0,v1])=wt v0+wt v1:=by simp only[wt,dq];omega
 rw[hw]
 refine aD Sc rfl ?_
 simp(disch:=omega) only[Lh,e1,hsz,aB,au,SX,SU,SL,reduceCtorEq,Nat.reduceAdd,Nat.reduceLeDiff,reduceIte]
 refine da.go CN h0 (k:=k) (by omega) (fun hf0=> ?_) (fun hf0=> ?_)
 case refine_2=>
  simp(disch:=omega) only[ae,Lh,e1,hsz,aB,au,SX,SU,SL,reduceCtorEq,Nat.reduceAdd,Nat.reduceLeDiff,reduceIte]
  refine ao (fun hn=> ?_) (fun hn=>absurd (show(-1:Int) < 0 by omega) hn)
  simp(disch:=omega) only[Lh,e1,hsz,aB,au,SX,SU,SL,reduceCtorEq,Nat.reduceAdd,Nat.reduceLeDiff,reduceIte]
  rw[if_neg (by omega)]
 simp(disch:=omega) only[ae,Lh,e1,hsz,aB,au,SX,SU,SL,reduceCtorEq,Nat.reduceAdd,Nat.reduceLeDiff,reduceIte]
 refine ao (fun hn=>absurd hn (by omega)) (fun hn=> ?_)
 simp(disch:=omega) only[Lh,e1,hsz,aB,au,SX,SU,SL,reduceCtorEq,Nat.reduceAdd,Nat.reduceLeDiff,reduceIte]
 refine da.go u7 h1 (k:=k - wt v0) (by omega) (fun hf1=> ?_) (fun hf1=> ?_)
 case refine_2=>
  simp(disch:=omega) only[ae,Lh,e1,hsz,aB,au,SX,SU,SL,reduceCtorEq,Nat.reduceAdd,Nat.reduceLeDiff,reduceIte]
  refine ao (fun hn=> ?_) (fun hn=>absurd (show(-1:Int) < 0 by omega) hn)
  simp(disch:=omega) only[Lh,e1,hsz,aB,au,SX,SU,SL,reduceCtorEq,Nat.reduceAdd,Nat.reduceLeDiff,reduceIte]
  rw[if_neg (by omega)]
 simp(disch:=omega) only[ae,Lh,e1,hsz,aB,au,SX,SU,SL,reduceCtorEq,Nat.reduceAdd,Nat.reduceLeDiff,reduceIte]
 refine ao (fun hn=>absurd hn (by omega)) (fun hn=> ?_)
 simp(disch:=omega) only[Lh,e1,hsz,aB,au,SX,SU,SL,reduceCtorEq,Nat.reduceAdd,Nat.reduceLeDiff,reduceIte]
 congr 3
 omega
def IC:AF:=⟨2,4,[.tmp 4],(.seq (.ops [.i (.lbox 2 (.s 0)), .i (.mov 4 (qi 0))]) (.seq (.ops [qf 5 2 2,ql 6 2 5 1 false,qm 7 1, .i (.call 9 41 false [(.s 6),(.s 7)]),qm 1 8]) (.seq (.seq (.ops [qm 9 1, .i (.bin 10 .lss (.s 9) (qi 0))]) (.cond (.s 10) (.seq (.ops [.i (.mov 4 (qi (-1)))]) .ret) .skip)) (.seq (.ops [qm 11 1,qm 4 11]) .ret))))⟩
theorem Ra:cd 210=some IC:=by kernel_rfl
theorem JD:da cd 210 ec:=by
 intro h cs v S k hv hk
 obtain⟨vs,rfl,q0⟩:=hv.st
 obtain⟨v0,r0,S0,T0,rfl,rfl,h0,q1⟩:=q0.step
 obtain⟨n0,e0,rfl,rfl,lo0,hi0⟩:=h0.int
 obtain⟨v1,r1,S1,T1,rfl,rfl,h1,q2⟩:=q1.step
 obtain⟨n1,e1,rfl,rfl,lo1,hi1⟩:=h1.int
 obtain⟨v2,r2,S2,T2,rfl,rfl,h2,q3⟩:=q2.step
 obtain⟨c2,e2⟩:=h2.one rfl
 rw[e2]at h2
 obtain⟨_,rfl,rfl⟩:=q3
 have hsz:cs.length=3:=hv.size
 simp only[Ty.size,Ty.aK,Nat.reduceAdd,Nat.zero_add,List.drop_zero]at e0 e1 e2 hsz
 have hw:wt (.r [.i n0, .i n1,v2])=wt v2:=by simp only[wt,dq];omega
 rw[hw]
 refine aD Ra rfl ?_
 simp(disch:=omega) only[IC,e0,e1,e2,hsz,aB,au,SX,SU,SL,reduceCtorEq,Nat.reduceAdd,Nat.reduceLeDiff,reduceIte]
 refine da.go eW h2 (k:=k) (by omega) (fun hf0=> ?_) (fun hf0=> ?_)
 case refine_2=>
  simp(disch:=omega) only[ae,IC,e0,e1,e2,hsz,aB,au,SX,SU,SL,reduceCtorEq,Nat.reduceAdd,Nat.reduceLeDiff,reduceIte]
  refine ao (fun hn=> ?_) (fun hn=>absurd (show(-1:Int) < 0 by omega) hn)
  simp(disch:=omega) only[IC,e0,e1,e2,hsz,aB,au,SX,SU,SL,reduceCtorEq,Nat.reduceAdd,Nat.reduceLeDiff,reduceIte]
  rw[if_neg (by omega)]
 simp(disch:=omega) only[ae,IC,e0,e1,e2,hsz,aB,au,SX,SU,SL,reduceCtorEq,Nat.reduceAdd,Nat.reduceLeDiff,reduceIte]
 refine ao (fun hn=>absurd hn (by omega)) (fun hn=> ?_)
 simp(disch:=omega) only[IC,e0,e1,e2,hsz,aB,au,SX,SU,SL,reduceCtorEq,Nat.reduceAdd,Nat.reduceLeDiff,reduceIte]
 congr 3
 omega
def Q0:AF:=⟨2,5,[.tmp 4],(.seq (.ops [.i (.mov 4 (qi 0))]) (.seq (.ops [qm 6 1,qm 7 0,qn 8 7,qd 9 .sub 6 8,qm 1 9]) (.seq (.seq (.ops [qm 10 1, .i (.bin 11 .lss (.s 10) (qi 0))]) (.cond (.s 11) (.seq (.ops [.i (.mov 4 (qi (-1)))]) .ret) .skip)) (.seq (.seq (.ops [.i (.mov 5 (qi 0))]) (.block 0 (.loop [25,24,23,22,21,20,19,18,17,16,15,14,13,12] (.seq (.seq (.ops [qm 12 5,qm 13 0,qn 14 13,qd 15 .lss 12 14]) (.cond (.s 15) .skip (.exit 0))) (.seq (.block 1 (.seq (.ops [qm 18 0,qm 19 5, .i (.iad 20 (.s 18) (.s 19) 3), .i (.ldh 21 (.s 20) 3 true),qm 22 1, .i (.call 24 210 false [(.s 21),(.s 22)]),qm 1 23]) (.seq (.ops [qm 24 1, .i (.bin 25 .lss (.s 24) (qi 0))]) (.cond (.s 25) (.seq (.ops [.i (.mov 4 (qi (-1)))]) .ret) .skip)))) (.ops [qm 16 5, .i (.bin 17 .add (.s 16) (qi 1)),qm 5 17])))))) (.seq (.ops [qm 26 1,qm 4 26]) .ret)))))⟩
theorem Q9:cd 142=some Q0:=by kernel_rfl
theorem Ix:da cd 142 (.sl ec):=G7 Q9 JD
theorem PQ {l:List C} (h:l.length=2):∃x0 x1,l= [x0,x1]:=by
 rcases l with _|⟨x0,l⟩
 ·simp at h
 rcases l with _|⟨x1,l⟩
 ·simp at h
 ·simp at h;exact⟨x0,x1,by simp[h]⟩
def Pw:AF:=⟨2,4,[.tmp 4],(.seq (.ops [.i (.lbox 2 (.s 0)), .i (.mov 4 (qi 0))]) (.seq (.ops [qf 5 2 1,ql 6 2 5 1 false,qm 7 1, .i (.call 9 142 false [(.s 6),(.s 7)]),qm 1 8]) (.seq (.seq (.ops [qm 9 1, .i (.bin 10 .lss (.s 9) (qi 0))]) (.cond (.s 10) (.seq (.ops [.i (.mov 4 (qi (-1)))]) .ret) .skip)) (.seq (.ops [qm 11 1,qm 4 11]) .ret))))⟩
theorem SB:cd 88=some Pw:=by kernel_rfl
theorem P5:da cd 88 Jq:=by
 intro h cs v S k hv hk
 obtain⟨vs,rfl,q0⟩:=hv.st
 obtain⟨v0,r0,S0,T0,rfl,rfl,h0,q1⟩:=q0.step
 obtain⟨n0,e0,rfl,rfl,lo0,hi0⟩:=h0.int
 obtain⟨v1,r1,S1,T1,rfl,rfl,h1,q2⟩:=q1.step
 obtain⟨c1,e1⟩:=h1.one rfl
 rw[e1]at h1
 obtain⟨_,rfl,rfl⟩:=q2
 have hsz:cs.length=2:=hv.size
 simp only[Ty.size,Ty.aK,Nat.reduceAdd,Nat.zero_add,List.drop_zero]at e0 e1 hsz
 have hw:wt (.r [.i n0,v1])=wt v1:=by simp only[wt,dq];omega
 rw[hw]
 refine aD SB rfl ?_
 simp(disch:=omega) only[Pw,e0,e1,hsz,aB,au,SX,SU,SL,reduceCtorEq,Nat.reduceAdd,Nat.reduceLeDiff,reduceIte]
 refine da.go Ix h1 (k:=k) (by omega) (fun hf0=> ?_) (fun hf0=> ?_)
 case refine_2=>
  simp(disch:=omega) only[ae,Pw,e0,e1,hsz,aB,au,SX,SU,SL,reduceCtorEq,Nat.reduceAdd,Nat.reduceLeDiff,reduceIte]
  refine ao (fun hn=> ?_) (fun hn=>absurd (show(-1:Int) < 0 by omega) hn)
  simp(disch:=omega) only[Pw,e0,e1,hsz,aB,au,SX,SU,SL,reduceCtorEq,Nat.reduceAdd,Nat.reduceLeDiff,reduceIte]
  rw[if_neg (by omega)]
 simp(disch:=omega) only[ae,Pw,e0,e1,hsz,aB,au,SX,SU,SL,reduceCtorEq,Nat.reduceAdd,Nat.reduceLeDiff,reduceIte]
 refine ao (fun hn=>absurd hn (by omega)) (fun hn=> ?_)
 simp(disch:=omega) only[Pw,e0,e1,hsz,aB,au,SX,SU,SL,reduceCtorEq,Nat.reduceAdd,Nat.reduceLeDiff,reduceIte]
 congr 3
 omega
def QR:AF:=⟨2,5,[.tmp 4],(.seq (.ops [.i (.mov 4 (qi 0))]) (.seq (.ops [qm 6 1,qm 7 0,qn 8 7,qd 9 .sub 6 8,qm 1 9]) (.seq (.seq (.ops [qm 10 1, .i (.bin 11 .lss (.s 10) (qi 0))]) (.cond (.s 11) (.seq (.ops [.i (.mov 4 (qi (-1)))]) .ret) .skip)) (.seq (.seq (.ops [.i (.mov 5 (qi 0))]) (.block 0 (.loop [25,24,23,22,21,20,19,18,17,16,15,14,13,12] (.seq (.seq (.ops [qm 12 5,qm 13 0,qn 14 13,qd 15 .lss 12 14]) (.cond (.s 15) .skip (.exit 0))) (.seq (.block 1 (.seq (.ops [qm 18 0,qm 19 5, .i (.iad 20 (.s 18) (.s 19) 10), .i (.ldh 21 (.s 20) 10 true),qm 22 1, .i (.call 24 86 false [(.s 21),(.s 22)]),qm 1 23]) (.seq (.ops [qm 24 1, .i (.bin 25 .lss (.s 24) (qi 0))]) (.cond (.s 25) (.seq (.ops [.i (.mov 4 (qi (-1)))]) .ret) .skip)))) (.ops [qm 16 5, .i (.bin 17 .add (.s 16) (qi 1)),qm 5 17])))))) (.seq (.ops [qm 26 1,qm 4 26]) .ret)))))⟩
theorem Q4:cd 143=some QR:=by kernel_rfl
theorem JG:da cd 143 (.sl cu):=G7 Q4 CN
theorem P1 {l:List C} (h:l.length=6):∃x0 x1 x2 x3 x4 x5,l= [x0,x1,x2,x3,x4,x5]:=by
 rcases l with _|⟨x0,l⟩
 ·simp at h
 rcases l with _|⟨x1,l⟩
 ·simp at h
 rcases l with _|⟨x2,l⟩
 ·simp at h
 rcases l with _|⟨x3,l⟩
 ·simp at h
 rcases l with _|⟨x4,l⟩
 ·simp at h
 rcases l with _|⟨x5,l⟩
 ·simp at h
 ·simp at h;exact⟨x0,x1,x2,x3,x4,x5,by simp[h]⟩
def Lp:AF:=⟨2,5,[.tmp 4],(.seq (.ops [.i (.lbox 2 (.s 0)), .i (.mov 4 (qi 0))]) (.seq (.ops [qf 5 2 0,ql 6 2 5 1 false,qm 7 1, .i (.call 9 143 false [(.s 6),(.s 7)]),qm 1 8]) (.seq (.seq (.ops [qm 9 1, .i (.bin 10 .lss (.s 9) (qi 0))]) (.cond (.s 10) (.seq (.ops [.i (.mov 4 (qi (-1)))]) .ret) .skip)) (.seq (.ops [qf 11 2 1,ql 12 2 11 5 true,qm 13 1, .i (.call 15 85 false [(.s 12),(.s 13)]),qm 1 14]) (.seq (.seq (.ops [qm 15 1, .i (.bin 16 .lss (.s 15) (qi 0))]) (.cond (.s 16) (.seq (.ops [.i (.mov 4 (qi (-1)))]) .ret) .skip)) (.seq (.ops [qm 17 1,qm 4 17]) .ret))))))⟩
theorem R3:cd 89=some Lp:=by kernel_rfl
theorem Jb:da cd 89 dQ:=by
 intro h cs v S k hv hk
 obtain⟨vs,rfl,q0⟩:=hv.st
 obtain⟨v0,r0,S0,T0,rfl,rfl,h0,q1⟩:=q0.step
 obtain⟨c0,e0⟩:=h0.one rfl
 rw[e0]at h0
 obtain⟨v1,r1,S1,T1,rfl,rfl,h1,q2⟩:=q1.step
 obtain⟨_,rfl,rfl⟩:=q2
 have hsz:cs.length=6:=hv.size
 simp only[Ty.size,Ty.aK,Nat.reduceAdd,Nat.zero_add,List.drop_zero]at e0 hsz h1
 have hw:wt (.r [v0,v1])=wt v0+wt v1:=by simp only[wt,dq];omega
 rw[hw]
 refine aD R3 rfl ?_
 simp(disch:=omega) only[Lp,e0,hsz,aB,au,SX,SU,SL,reduceCtorEq,Nat.reduceAdd,Nat.reduceLeDiff,reduceIte]
 refine da.go JG h0 (k:=k) (by omega) (fun hf0=> ?_) (fun hf0=> ?_)
 case refine_2=>
  simp(disch:=omega) only[ae,Lp,e0,hsz,aB,au,SX,SU,SL,reduceCtorEq,Nat.reduceAdd,Nat.reduceLeDiff,reduceIte]
  refine ao (fun hn=> ?_) (fun hn=>absurd (show(-1:Int) < 0 by omega) hn)
  simp(disch:=omega) only[Lp,e0,hsz,aB,au,SX,SU,SL,reduceCtorEq,Nat.reduceAdd,Nat.reduceLeDiff,reduceIte]
  rw[if_neg (by omega)]
 simp(disch:=omega) only[ae,Lp,e0,hsz,aB,au,SX,SU,SL,reduceCtorEq,Nat.reduceAdd,Nat.reduceLeDiff,reduceIte]
 refine ao (fun hn=>absurd hn (by omega)) (fun hn=> ?_)
 simp(disch:=omega) only[Lp,e0,hsz,aB,au,SX,SU,SL,reduceCtorEq,Nat.reduceAdd,Nat.reduceLeDiff,reduceIte]
 refine da.go Kz h1 (k:=k - wt v0) (by omega) (fun hf1=> ?_) (fun hf1=> ?_)
 case refine_2=>
  simp(disch:=omega) only[ae,Lp,e0,hsz,aB,au,SX,SU,SL,reduceCtorEq,Nat.reduceAdd,Nat.reduceLeDiff,reduceIte]
  refine ao (fun hn=> ?_) (fun hn=>absurd (show(-1:Int) < 0 by omega) hn)
  simp(disch:=omega) only[Lp,e0,hsz,aB,au,SX,SU,SL,reduceCtorEq,Nat.reduceAdd,Nat.reduceLeDiff,reduceIte]
  rw[if_neg (by omega)]
 simp(disch:=omega) only[ae,Lp,e0,hsz,aB,au,SX,SU,SL,reduceCtorEq,Nat.reduceAdd,Nat.reduceLeDiff,reduceIte]
 refine ao (fun hn=>absurd hn (by omega)) (fun hn=> ?_)
 simp(disch:=omega) only[Lp,e0,hsz,aB,au,SX,SU,SL,reduceCtorEq,Nat.reduceAdd,Nat.reduceLeDiff,reduceIte]
 congr 3
 omega
def Lq:AF:=⟨2,5,[.tmp 4],(.seq (.ops [.i (.lbox 2 (.s 0)), .i (.mov 4 (qi 0))]) (.seq (.ops [qf 5 2 3,ql 6 2 5 1 false,qm 7 1, .i (.call 9 41 false [(.s 6),(.s 7)]),qm 1 8]) (.seq (.seq (.ops [qm 9 1, .i (.bin 10 .lss (.s 9) (qi 0))]) (.cond (.s 10) (.seq (.ops [.i (.mov 4 (qi (-1)))]) .ret) .skip)) (.seq (.ops [qf 11 2 4,ql 12 2 11 1 false,qm 13 1, .i (.call 15 28 false [(.s 12),(.s 13)]),qm 1 14]) (.seq (.seq (.ops [qm 15 1, .i (.bin 16 .lss (.s 15) (qi 0))]) (.cond (.s 16) (.seq (.ops [.i (.mov 4 (qi (-1)))]) .ret) .skip)) (.seq (.ops [qm 17 1,qm 4 17]) .ret))))))⟩
theorem RY:cd 90=some Lq:=by kernel_rfl
theorem Mf:da cd 90 p0:=by
 intro h cs v S k hv hk
 obtain⟨vs,rfl,q0⟩:=hv.st
 obtain⟨v0,r0,S0,T0,rfl,rfl,h0,q1⟩:=q0.step
 obtain⟨n0,e0,rfl,rfl,lo0,hi0⟩:=h0.int
 obtain⟨v1,r1,S1,T1,rfl,rfl,h1,q2⟩:=q1.step
 obtain⟨n1,e1,rfl,rfl,lo1,hi1⟩:=h1.int
 obtain⟨v2,r2,S2,T2,rfl,rfl,h2,q3⟩:=q2.step
 obtain⟨n2,e2,rfl,rfl,lo2,hi2⟩:=h2.int
 obtain⟨v3,r3,S3,T3,rfl,rfl,h3,q4⟩:=q3.step
 obtain⟨c3,e3⟩:=h3.one rfl
 rw[e3]at h3
 obtain⟨v4,r4,S4,T4,rfl,rfl,h4,q5⟩:=q4.step
 obtain⟨c4,e4⟩:=h4.one rfl
 rw[e4]at h4
 obtain⟨_,rfl,rfl⟩:=q5
 have hsz:cs.length=5:=hv.size
 simp only[Ty.size,Ty.aK,Nat.reduceAdd,Nat.zero_add,List.drop_zero]at e0 e1 e2 e3 e4 hsz
 have hw:wt (.r [.i n0, .i n1, .i n2,v3,v4])=wt v3+wt v4:=by simp only[wt,dq];omega
 rw[hw]
 refine aD RY rfl ?_
 simp(disch:=omega) only[Lq,e0,e1,e2,e3,e4,hsz,aB,au,SX,SU,SL,reduceCtorEq,Nat.reduceAdd,Nat.reduceLeDiff,reduceIte]
 refine da.go eW h3 (k:=k) (by omega) (fun hf0=> ?_) (fun hf0=> ?_)
 case refine_2=>
  simp(disch:=omega) only[ae,Lq,e0,e1,e2,e3,e4,hsz,aB,au,SX,SU,SL,reduceCtorEq,Nat.reduceAdd,Nat.reduceLeDiff,reduceIte]
  refine ao (fun hn=> ?_) (fun hn=>absurd (show(-1:Int) < 0 by omega) hn)
  simp(disch:=omega) only[Lq,e0,e1,e2,e3,e4,hsz,aB,au,SX,SU,SL,reduceCtorEq,Nat.reduceAdd,Nat.reduceLeDiff,reduceIte]
  rw[if_neg (by omega)]
 simp(disch:=omega) only[ae,Lq,e0,e1,e2,e3,e4,hsz,aB,au,SX,SU,SL,reduceCtorEq,Nat.reduceAdd,Nat.reduceLeDiff,reduceIte]
 refine ao (fun hn=>absurd hn (by omega)) (fun hn=> ?_)
 simp(disch:=omega) only[Lq,e0,e1,e2,e3,e4,hsz,aB,au,SX,SU,SL,reduceCtorEq,Nat.reduceAdd,Nat.reduceLeDiff,reduceIte]
 refine da.go u7 h4 (k:=k - wt v3) (by omega) (fun hf1=> ?_) (fun hf1=> ?_)
 case refine_2=>
  simp(disch:=omega) only[ae,Lq,e0,e1,e2,e3,e4,hsz,aB,au,SX,SU,SL,reduceCtorEq,Nat.reduceAdd,Nat.reduceLeDiff,reduceIte]
  refine ao (fun hn=> ?_) (fun hn=>absurd (show(-1:Int) < 0 by omega) hn)
  simp(disch:=omega) only[Lq,e0,e1,e2,e3,e4,hsz,aB,au,SX,SU,SL,reduceCtorEq,Nat.reduceAdd,Nat.reduceLeDiff,reduceIte]
  rw[if_neg (by omega)]
 simp(disch:=omega) only[ae,Lq,e0,e1,e2,e3,e4,hsz,aB,au,SX,SU,SL,reduceCtorEq,Nat.reduceAdd,Nat.reduceLeDiff,reduceIte]
 refine ao (fun hn=>absurd hn (by omega)) (fun hn=> ?_)
 simp(disch:=omega) only[Lq,e0,e1,e2,e3,e4,hsz,aB,au,SX,SU,SL,reduceCtorEq,Nat.reduceAdd,Nat.reduceLeDiff,reduceIte]
 congr 3
 omega
def sy:AF:=⟨2,6,[.tmp 4],(.seq (.ops [.i (.lbox 2 (.s 0)), .i (.mov 4 (qi 0))]) (.seq (.ops [qf 5 2 1,ql 6 2 5 5 true,qm 7 1, .i (.call 9 84 false [(.s 6),(.s 7)]),qm 1 8]) (.seq (.seq (.ops [qm 9 1, .i (.bin 10 .lss (.s 9) (qi 0))]) (.cond (.s 10) (.seq (.ops [.i (.mov 4 (qi (-1)))]) .ret) .skip)) (.seq (.ops [qf 11 2 6,ql 12 2 11 5 true,qm 13 1, .i (.call 15 85 false [(.s 12),(.s 13)]),qm 1 14]) (.seq (.seq (.ops [qm 15 1, .i (.bin 16 .lss (.s 15) (qi 0))]) (.cond (.s 16) (.seq (.ops [.i (.mov 4 (qi (-1)))]) .ret) .skip)) (.seq (.ops [qf 17 2 11,ql 18 2 17 10 true,qm 19 1, .i (.call 21 86 false [(.s 18),(.s 19)]),qm 1 20]) (.seq (.seq (.ops [qm 21 1, .i (.bin 22 .lss (.s 21) (qi 0))]) (.cond (.s 22) (.seq (.ops [.i (.mov 4 (qi (-1)))]) .ret) .skip)) (.seq (.ops [qf 23 2 21,ql 24 2 23 11 true,qm 25 1, .i (.call 27 87 false [(.s 24),(.s 25)]),qm 1 26]) (.seq (.seq (.ops [qm 27 1, .i (.bin 28 .lss (.s 27) (qi 0))]) (.cond (.s 28) (.seq (.ops [.i (.mov 4 (qi (-1)))]) .ret) .skip)) (.seq (.ops [qf 29 2 32,ql 30 2 29 2 true,qm 31 1, .i (.call 33 88 false [(.s 30),(.s 31)]),qm 1 32]) (.seq (.seq (.ops [qm 33 1, .i (.bin 34 .lss (.s 33) (qi 0))]) (.cond (.s 34) (.seq (.ops [.i (.mov 4 (qi (-1)))]) .ret) .skip)) (.seq (.ops [qf 35 2 34,ql 36 2 35 6 true,qm 37 1, .i (.call 39 89 false [(.s 36),(.s 37)]),qm 1 38]) (.seq (.seq (.ops [qm 39 1, .i (.bin 40 .lss (.s 39) (qi 0))]) (.cond (.s 40) (.seq (.ops [.i (.mov 4 (qi (-1)))]) .ret) .skip)) (.seq (.ops [qf 41 2 40,ql 42 2 41 5 true,qm 43 1, .i (.call 45 90 false [(.s 42),(.s 43)]),qm 1 44]) (.seq (.seq (.ops [qm 45 1, .i (.bin 46 .lss (.s 45) (qi 0))]) (.cond (.s 46) (.seq (.ops [.i (.mov 4 (qi (-1)))]) .ret) .skip)) (.seq (.ops [qm 47 1,qm 4 47]) .ret))))))))))))))))⟩
theorem RZ:cd 55=some sy:=by kernel_rfl
theorem Ou:da cd 55 TMsg:=by
 intro h cs v S k hv hk
 obtain⟨vs,rfl,q0⟩:=hv.st
 obtain⟨v0,r0,S0,T0,rfl,rfl,h0,q1⟩:=q0.step
 obtain⟨n0,e0,rfl,rfl,lo0,hi0⟩:=h0.int
 obtain⟨v1,r1,S1,T1,rfl,rfl,h1,q2⟩:=q1.step
 obtain⟨v2,r2,S2,T2,rfl,rfl,h2,q3⟩:=q2.step
 obtain⟨v3,r3,S3,T3,rfl,rfl,h3,q4⟩:=q3.step
 obtain⟨v4,r4,S4,T4,rfl,rfl,h4,q5⟩:=q4.step
 obtain⟨v5,r5,S5,T5,rfl,rfl,h5,q6⟩:=q5.step
 obtain⟨v6,r6,S6,T6,rfl,rfl,h6,q7⟩:=q6.step
 obtain⟨v7,r7,S7,T7,rfl,rfl,h7,q8⟩:=q7.step
 obtain⟨_,rfl,rfl⟩:=q8
 have hsz:cs.length=45:=hv.size
 simp only[Ty.size,Ty.aK,Nat.reduceAdd,Nat.zero_add,List.drop_zero]at e0 hsz h1 h2 h3 h4 h5 h6 h7
 have hw:wt (.r [.i n0,v1,v2,v3,v4,v5,v6,v7])=wt v1+wt v2+wt v3+wt v4+wt v5+wt v6+wt v7:=by simp only[wt,dq];omega
 rw[hw]
 refine aD RZ rfl ?_
 simp(disch:=omega) only[sy,e0,hsz,aB,au,SX,SU,SL,reduceCtorEq,Nat.reduceAdd,Nat.reduceLeDiff,reduceIte]
 refine da.go LX h1 (k:=k) (by omega) (fun hf0=> ?_) (fun hf0=> ?_)
 case refine_2=>
  simp(disch:=omega) only[ae,sy,e0,hsz,aB,au,SX,SU,SL,reduceCtorEq,Nat.reduceAdd,Nat.reduceLeDiff,reduceIte]
  refine ao (fun hn=> ?_) (fun hn=>absurd (show(-1:Int) < 0 by omega) hn)
  simp(disch:=omega) only[sy,e0,hsz,aB,au,SX,SU,SL,reduceCtorEq,Nat.reduceAdd,Nat.reduceLeDiff,reduceIte]
  rw[if_neg (by omega)]
 simp(disch:=omega) only[ae,sy,e0,hsz,aB,au,SX,SU,SL,reduceCtorEq,Nat.reduceAdd,Nat.reduceLeDiff,reduceIte]
 refine ao (fun hn=>absurd hn (by omega)) (fun hn=> ?_)
 simp(disch:=omega) only[sy,e0,hsz,aB,au,SX,SU,SL,reduceCtorEq,Nat.reduceAdd,Nat.reduceLeDiff,reduceIte]
 refine da.go Kz h2 (k:=k - wt v1) (by omega) (fun hf1=> ?_) (fun hf1=> ?_)
 case refine_2=>
  simp(disch:=omega) only[ae,sy,e0,hsz,aB,au,SX,SU,SL,reduceCtorEq,Nat.reduceAdd,Nat.reduceLeDiff,reduceIte]
  refine ao (fun hn=> ?_) (fun hn=>absurd (show(-1:Int) < 0 by omega) hn)
  simp(disch:=omega) only[sy,e0,hsz,aB,au,SX,SU,SL,reduceCtorEq,Nat.reduceAdd,Nat.reduceLeDiff,reduceIte]
  rw[if_neg (by omega)]
 simp(disch:=omega) only[ae,sy,e0,hsz,aB,au,SX,SU,SL,reduceCtorEq,Nat.reduceAdd,Nat.reduceLeDiff,reduceIte]
 refine ao (fun hn=>absurd hn (by omega)) (fun hn=> ?_)
 simp(disch:=omega) only[sy,e0,hsz,aB,au,SX,SU,SL,reduceCtorEq,Nat.reduceAdd,Nat.reduceLeDiff,reduceIte]
 refine da.go CN h3 (k:=k - wt v1 - wt v2) (by omega) (fun hf2=> ?_) (fun hf2=> ?_)
 case refine_2=>
  simp(disch:=omega) only[ae,sy,e0,hsz,aB,au,SX,SU,SL,reduceCtorEq,Nat.reduceAdd,Nat.reduceLeDiff,reduceIte]
  refine ao (fun hn=> ?_) (fun hn=>absurd (show(-1:Int) < 0 by omega) hn)
  simp(disch:=omega) only[sy,e0,hsz,aB,au,SX,SU,SL,reduceCtorEq,Nat.reduceAdd,Nat.reduceLeDiff,reduceIte]
  rw[if_neg (by omega)]
 simp(disch:=omega) only[ae,sy,e0,hsz,aB,au,SX,SU,SL,reduceCtorEq,Nat.reduceAdd,Nat.reduceLeDiff,reduceIte]
 refine ao (fun hn=>absurd hn (by omega)) (fun hn=> ?_)
 simp(disch:=omega) only[sy,e0,hsz,aB,au,SX,SU,SL,reduceCtorEq,Nat.reduceAdd,Nat.reduceLeDiff,reduceIte]
 refine da.go Js h4 (k:=k - wt v1 - wt v2 - wt v3) (by omega) (fun hf3=> ?_) (fun hf3=> ?_)
 case refine_2=>
  simp(disch:=omega) only[ae,sy,e0,hsz,aB,au,SX,SU,SL,reduceCtorEq,Nat.reduceAdd,Nat.reduceLeDiff,reduceIte]
  refine ao (fun hn=> ?_) (fun hn=>absurd (show(-1:Int) < 0 by omega) hn)
  simp(disch:=omega) only[sy,e0,hsz,aB,au,SX,SU,SL,reduceCtorEq,Nat.reduceAdd,Nat.reduceLeDiff,reduceIte]
  rw[if_neg (by omega)]
 simp(disch:=omega) only[ae,sy,e0,hsz,aB,au,SX,SU,SL,reduceCtorEq,Nat.reduceAdd,Nat.reduceLeDiff,reduceIte]
 refine ao (fun hn=>absurd hn (by omega)) (fun hn=> ?_)
 simp(disch:=omega) only[sy,e0,hsz,aB,au,SX,SU,SL,reduceCtorEq,Nat.reduceAdd,Nat.reduceLeDiff,reduceIte]
 refine da.go P5 h5 (k:=k - wt v1 - wt v2 - wt v3 - wt v4) (by omega) (fun hf4=> ?_) (fun hf4=> ?_)
 case refine_2=>
  simp(disch:=omega) only[ae,sy,e0,hsz,aB,au,SX,SU,SL,reduceCtorEq,Nat.reduceAdd,Nat.reduceLeDiff,reduceIte]
  refine ao (fun hn=> ?_) (fun hn=>absurd (show(-1:Int) < 0 by omega) hn)
  simp(disch:=omega) only[sy,e0,hsz,aB,au,SX,SU,SL,reduceCtorEq,Nat.reduceAdd,Nat.reduceLeDiff,reduceIte]
  rw[if_neg (by omega)]
 simp(disch:=omega) only[ae,sy,e0,hsz,aB,au,SX,SU,SL,reduceCtorEq,Nat.reduceAdd,Nat.reduceLeDiff,reduceIte]
 refine ao (fun hn=>absurd hn (by omega)) (fun hn=> ?_)
 simp(disch:=omega) only[sy,e0,hsz,aB,au,SX,SU,SL,reduceCtorEq,Nat.reduceAdd,Nat.reduceLeDiff,reduceIte]
 refine da.go Jb h6 (k:=k - wt v1 - wt v2 - wt v3 - wt v4 - wt v5) (by omega) (fun hf5=> ?_) (fun hf5=> ?_)
 case refine_2=>
  simp(disch:=omega) only[ae,sy,e0,hsz,aB,au,SX,SU,SL,reduceCtorEq,Nat.reduceAdd,Nat.reduceLeDiff,reduceIte]
  refine ao (fun hn=> ?_) (fun hn=>absurd (show(-1:Int) < 0 by omega) hn)
  simp(disch:=omega) only[sy,e0,hsz,aB,au,SX,SU,SL,reduceCtorEq,Nat.reduceAdd,Nat.reduceLeDiff,reduceIte]
  rw[if_neg (by omega)]
 simp(disch:=omega) only[ae,sy,e0,hsz,aB,au,SX,SU,SL,reduceCtorEq,Nat.reduceAdd,Nat.reduceLeDiff,reduceIte]
 refine ao (fun hn=>absurd hn (by omega)) (fun hn=> ?_)
 simp(disch:=omega) only[sy,e0,hsz,aB,au,SX,SU,SL,reduceCtorEq,Nat.reduceAdd,Nat.reduceLeDiff,reduceIte]
 refine da.go Mf h7 (k:=k - wt v1 - wt v2 - wt v3 - wt v4 - wt v5 - wt v6) (by omega) (fun hf6=> ?_) (fun hf6=> ?_)
 case refine_2=>
  simp(disch:=omega) only[ae,sy,e0,hsz,aB,au,SX,SU,SL,reduceCtorEq,Nat.reduceAdd,Nat.reduceLeDiff,reduceIte]
  refine ao (fun hn=> ?_) (fun hn=>absurd (show(-1:Int) < 0 by omega) hn)
  simp(disch:=omega) only[sy,e0,hsz,aB,au,SX,SU,SL,reduceCtorEq,Nat.reduceAdd,Nat.reduceLeDiff,reduceIte]
  rw[if_neg (by omega)]
 simp(disch:=omega) only[ae,sy,e0,hsz,aB,au,SX,SU,SL,reduceCtorEq,Nat.reduceAdd,Nat.reduceLeDiff,reduceIte]
 refine ao (fun hn=>absurd hn (by omega)) (fun hn=> ?_)
 simp(disch:=omega) only[sy,e0,hsz,aB,au,SX,SU,SL,reduceCtorEq,Nat.reduceAdd,Nat.reduceLeDiff,reduceIte]
 congr 3
 omega
def RM:AF:=⟨2,5,[.tmp 4],(.seq (.ops [.i (.mov 4 (qi 0))]) (.seq (.ops [qm 6 1,qm 7 0,qn 8 7,qd 9 .sub 6 8,qm 1 9]) (.seq (.seq (.ops [qm 10 1, .i (.bin 11 .lss (.s 10) (qi 0))]) (.cond (.s 11) (.seq (.ops [.i (.mov 4 (qi (-1)))]) .ret) .skip)) (.seq (.seq (.ops [.i (.mov 5 (qi 0))]) (.block 0 (.loop [25,24,23,22,21,20,19,18,17,16,15,14,13,12] (.seq (.seq (.ops [qm 12 5,qm 13 0,qn 14 13,qd 15 .lss 12 14]) (.cond (.s 15) .skip (.exit 0))) (.seq (.block 1 (.seq (.ops [qm 18 0,qm 19 5, .i (.iad 20 (.s 18) (.s 19) 45), .i (.ldh 21 (.s 20) 45 true),qm 22 1, .i (.call 24 55 false [(.s 21),(.s 22)]),qm 1 23]) (.seq (.ops [qm 24 1, .i (.bin 25 .lss (.s 24) (qi 0))]) (.cond (.s 25) (.seq (.ops [.i (.mov 4 (qi (-1)))]) .ret) .skip)))) (.ops [qm 16 5, .i (.bin 17 .add (.s 16) (qi 1)),qm 5 17])))))) (.seq (.ops [qm 26 1,qm 4 26]) .ret)))))⟩
theorem SE:cd 21=some RM:=by kernel_rfl
theorem M8:da cd 21 (.sl TMsg):=G7 SE Ou
def RT:AF:=⟨1,5,[.tmp 2],(.seq (.ops [.i (.mov 2 (.c (.val false [.nils])))]) (.seq (.ops [qm 5 0,qn 6 5, .i (.mks 7 5 1 1 [.int .u8 0] (.s 6)),qm 3 7]) (.seq (.seq (.ops [.i (.mov 4 (qi 0))]) (.block 0 (.loop [20,19,18,17,16,15,14,13,12,11,10,9,8] (.seq (.seq (.ops [qm 8 4,qm 9 0,qn 10 9,qd 11 .lss 8 10]) (.cond (.s 11) .skip (.exit 0))) (.seq (.block 1 (.ops [qm 14 3,qm 15 4,qm 16 0,qm 17 4, .i (.iad 18 (.s 16) (.s 17) 1), .i (.ldh 19 (.s 18) 1 false), .i (.iad 20 (.s 14) (.s 15) 1), .i (.sth (.s 20) (.s 19) 1)])) (.ops [qm 12 4, .i (.bin 13 .add (.s 12) (qi 1)),qm 4 13])))))) (.seq (.ops [qm 21 3,qm 2 21]) .ret))))⟩
theorem R2:cd 11=some RT:=by kernel_rfl
theorem eR:lZ cd 11 (.sl (.int .u8)):=LL R2 (by omega)
def QH:AF:=⟨1,5,[.cell 2 5 true],(.seq (.ops [.i (.lbox 1 (.s 0)), .i (.lal 2 [.int .i64 0, .int .i64 0, .nils, .int .i64 0, .nils])]) (.seq (.ops [.i (.lal 3 [.int .i64 0, .int .i64 0, .nils, .int .i64 0, .nils])]) (.seq (.ops [qf 4 1 0,ql 5 1 4 1 false,qf 6 3 0,qs 3 6 5 1]) (.seq (.ops [qf 7 1 1,ql 8 1 7 1 false,qf 9 3 1,qs 3 9 8 1]) (.seq (.ops [qf 10 1 2,ql 11 1 10 1 false,qk 13 11 11,qf 13 3 2,qs 3 13 12 1]) (.seq (.ops [qf 14 1 3,ql 15 1 14 1 false,qf 16 3 3,qs 3 16 15 1]) (.seq (.ops [qf 17 1 4,ql 18 1 17 1 false,qk 20 11 18,qf 20 3 4,qs 3 20 19 1]) (.seq (.ops [ql 21 3 3 5 true,qs 2 2 21 5]) .ret))))))))⟩
theorem So:cd 94=some QH:=by kernel_rfl
theorem Mx:lZ cd 94 q9:=by
 intro h cs v S hv hw
 obtain⟨vs,rfl,q0⟩:=hv.st
 obtain⟨v0,r0,S0,T0,rfl,rfl,h0,q1⟩:=q0.step
 obtain⟨n0,e0,rfl,rfl,lo0,hi0⟩:=h0.int
 obtain⟨v1,r1,S1,T1,rfl,rfl,h1,q2⟩:=q1.step
 obtain⟨n1,e1,rfl,rfl,lo1,hi1⟩:=h1.int
 obtain⟨v2,r2,S2,T2,rfl,rfl,h2,q3⟩:=q2.step
 obtain⟨c2,e2⟩:=h2.one rfl
 rw[e2]at h2
 obtain⟨v3,r3,S3,T3,rfl,rfl,h3,q4⟩:=q3.step
 obtain⟨n3,e3,rfl,rfl,lo3,hi3⟩:=h3.int
 obtain⟨v4,r4,S4,T4,rfl,rfl,h4,q5⟩:=q4.step
 obtain⟨c4,e4⟩:=h4.one rfl
 rw[e4]at h4
 obtain⟨_,rfl,rfl⟩:=q5
 have hsz:cs.length=5:=hv.size
 simp only[Ty.size,Ty.aK,Nat.reduceAdd,Nat.zero_add,List.drop_zero]at e0 e1 e2 e3 e4 hsz
 simp only[wt,dq]at hw
 refine aD So rfl ?_
 simp(disch:=omega) only[ae,QH,e0,e1,e2,e3,e4,hsz,aB,au,SX,SU,SL,reduceCtorEq,Nat.reduceAdd,Nat.reduceLeDiff,reduceIte]
 refine aI (eR h2 (by omega)) ?_
 rintro r0 g0 ⟨t0,d0,U0,rfl,rfl,z0,o0,l0⟩
 obtain⟨y0_0,rfl⟩:=z0.one rfl
 simp(disch:=omega) only[ae,QH,e0,e1,e2,e3,e4,hsz,aB,au,SX,SU,SL,reduceCtorEq,Nat.reduceAdd,Nat.reduceLeDiff,reduceIte]
 refine aI (eR (h4.app) (by omega)) ?_
 rintro r1 g1 ⟨t1,d1,U1,rfl,rfl,z1,o1,l1⟩
 obtain⟨y1_0,rfl⟩:=z1.one rfl
 simp(disch:=omega) only[ae,QH,e0,e1,e2,e3,e4,hsz,aB,au,SX,SU,SL,reduceCtorEq,Nat.reduceAdd,Nat.reduceLeDiff,reduceIte]
 refine⟨(t0++t1),_,_,by simp only[List.append_assoc],rfl,⟨_,rfl,(Rs.mk (Rp.mkInt lo0 hi0) (Rs.mk (Rp.mkInt lo1 hi1) (Rs.mk (z0.app) (Rs.mk (Rp.mkInt lo3 hi3) (Rs.mk z1 Rs.nil)))))⟩,?_⟩
 have fr:=(kg.step (kg.step (kg.nil h) z0.lt o0 l0) z1.lt o1 l1)
 simpa only[List.nil_append,List.append_nil,List.append_assoc]using fr.both
def Ss:AF:=⟨1,5,[.tmp 2],(.seq (.ops [.i (.mov 2 (.c (.val false [.nils])))]) (.seq (.ops [qm 5 0,qn 6 5, .i (.mks 7 24 1 24 [.nils] (.s 6)),qm 3 7]) (.seq (.seq (.ops [.i (.mov 4 (qi 0))]) (.block 0 (.loop [21,20,19,18,17,16,15,14,13,12,11,10,9,8] (.seq (.seq (.ops [qm 8 4,qm 9 0,qn 10 9,qd 11 .lss 8 10]) (.cond (.s 11) .skip (.exit 0))) (.seq (.block 1 (.ops [qm 14 3,qm 15 4,qm 16 0,qm 17 4, .i (.iad 18 (.s 16) (.s 17) 1), .i (.ldh 19 (.s 18) 1 false),qk 21 11 19, .i (.iad 21 (.s 14) (.s 15) 1), .i (.sth (.s 21) (.s 20) 1)])) (.ops [qm 12 4, .i (.bin 13 .add (.s 12) (qi 1)),qm 4 13])))))) (.seq (.ops [qm 22 3,qm 2 22]) .ret))))⟩
theorem RN:cd 30=some Ss:=by kernel_rfl
theorem vl:lZ cd 30 (.sl (.sl (.int .u8))):=Hc RN (by omega) rfl eR
def Qm:AF:=⟨1,5,[.cell 2 5 true],(.seq (.ops [.i (.lbox 1 (.s 0)), .i (.lal 2 [.int .i64 0, .int .i64 0, .nils, .nils, .nils])]) (.seq (.ops [.i (.lal 3 [.int .i64 0, .int .i64 0, .nils, .nils, .nils])]) (.seq (.ops [qf 4 1 0,ql 5 1 4 1 false,qf 6 3 0,qs 3 6 5 1]) (.seq (.ops [qf 7 1 1,ql 8 1 7 1 false,qf 9 3 1,qs 3 9 8 1]) (.seq (.ops [qf 10 1 2,ql 11 1 10 1 false,qk 13 11 11,qf 13 3 2,qs 3 13 12 1]) (.seq (.ops [qf 14 1 3,ql 15 1 14 1 false,qk 17 11 15,qf 17 3 3,qs 3 17 16 1]) (.seq (.ops [qf 18 1 4,ql 19 1 18 1 false,qk 21 30 19,qf 21 3 4,qs 3 21 20 1]) (.seq (.ops [ql 22 3 3 5 true,qs 2 2 22 5]) .ret))))))))⟩
theorem R7:cd 95=some Qm:=by kernel_rfl
theorem KM:lZ cd 95 yQ:=by
 intro h cs v S hv hw
 obtain⟨vs,rfl,q0⟩:=hv.st
 obtain⟨v0,r0,S0,T0,rfl,rfl,h0,q1⟩:=q0.step
 obtain⟨n0,e0,rfl,rfl,lo0,hi0⟩:=h0.int
 obtain⟨v1,r1,S1,T1,rfl,rfl,h1,q2⟩:=q1.step
 obtain⟨n1,e1,rfl,rfl,lo1,hi1⟩:=h1.int
 obtain⟨v2,r2,S2,T2,rfl,rfl,h2,q3⟩:=q2.step
 obtain⟨c2,e2⟩:=h2.one rfl
 rw[e2]at h2
 obtain⟨v3,r3,S3,T3,rfl,rfl,h3,q4⟩:=q3.step
 obtain⟨c3,e3⟩:=h3.one rfl
 rw[e3]at h3
 obtain⟨v4,r4,S4,T4,rfl,rfl,h4,q5⟩:=q4.step
 obtain⟨c4,e4⟩:=h4.one rfl
 rw[e4]at h4
 obtain⟨_,rfl,rfl⟩:=q5
 have hsz:cs.length=5:=hv.size
 simp only[Ty.size,Ty.aK,Nat.reduceAdd,Nat.zero_add,List.drop_zero]at e0 e1 e2 e3 e4 hsz
 simp only[wt,dq]at hw
 refine aD R7 rfl ?_
 simp(disch:=omega) only[ae,Qm,e0,e1,e2,e3,e4,hsz,aB,au,SX,SU,SL,reduceCtorEq,Nat.reduceAdd,Nat.reduceLeDiff,reduceIte]
 refine aI (eR h2 (by omega)) ?_
 rintro r0 g0 ⟨t0,d0,U0,rfl,rfl,z0,o0,l0⟩
 obtain⟨y0_0,rfl⟩:=z0.one rfl
 simp(disch:=omega) only[ae,Qm,e0,e1,e2,e3,e4,hsz,aB,au,SX,SU,SL,reduceCtorEq,Nat.reduceAdd,Nat.reduceLeDiff,reduceIte]
 refine aI (eR (h3.app) (by omega)) ?_
 rintro r1 g1 ⟨t1,d1,U1,rfl,rfl,z1,o1,l1⟩
 obtain⟨y1_0,rfl⟩:=z1.one rfl
 simp(disch:=omega) only[ae,Qm,e0,e1,e2,e3,e4,hsz,aB,au,SX,SU,SL,reduceCtorEq,Nat.reduceAdd,Nat.reduceLeDiff,reduceIte]
 refine aI (vl ((h4.app).app) (by omega)) ?_
 rintro r2 g2 ⟨t2,d2,U2,rfl,rfl,z2,o2,l2⟩
 obtain⟨y2_0,rfl⟩:=z2.one rfl
 simp(disch:=omega) only[ae,Qm,e0,e1,e2,e3,e4,hsz,aB,au,SX,SU,SL,reduceCtorEq,Nat.reduceAdd,Nat.reduceLeDiff,reduceIte]
 refine⟨(t0++(t1++t2)),_,_,by simp only[List.append_assoc],rfl,⟨_,rfl,(Rs.mk (Rp.mkInt lo0 hi0) (Rs.mk (Rp.mkInt lo1 hi1) (Rs.mk ((z0.app).app) (Rs.mk (z1.app) (Rs.mk z2 Rs.nil)))))⟩,?_⟩
 have fr:=(kg.step (kg.step (kg.step (kg.nil h) z0.lt o0 l0) z1.lt o1 l1) z2.lt o2 l2)
 simpa only[List.nil_append,List.append_nil,List.append_assoc]using fr.both
def P3:AF:=⟨1,5,[.cell 2 10 true],(.seq (.ops [.i (.lbox 1 (.s 0)), .i (.lal 2 qz)]) (.seq (.ops [.i (.lal 3 qz)]) (.seq (.ops [qf 4 1 0,ql 5 1 4 1 false,qf 6 3 0,qs 3 6 5 1]) (.seq (.ops [qf 7 1 1,ql 8 1 7 1 false,qf 9 3 1,qs 3 9 8 1]) (.seq (.ops [qf 10 1 2,ql 11 1 10 1 false,qf 12 3 2,qs 3 12 11 1]) (.seq (.ops [qf 13 1 3,ql 14 1 13 1 false,qk 16 11 14,qf 16 3 3,qs 3 16 15 1]) (.seq (.ops [qf 17 1 4,ql 18 1 17 1 false,qk 20 11 18,qf 20 3 4,qs 3 20 19 1]) (.seq (.ops [qf 21 1 5,ql 22 1 21 5 true,qk 24 95 22,qf 24 3 5,qs 3 24 23 5]) (.seq (.ops [ql 25 3 3 10 true,qs 2 2 25 10]) .ret)))))))))⟩
theorem Sm:cd 96=some P3:=by kernel_rfl
theorem Ch:lZ cd 96 cu:=by
 intro h cs v S hv hw
 obtain⟨vs,rfl,q0⟩:=hv.st
 obtain⟨v0,r0,S0,T0,rfl,rfl,h0,q1⟩:=q0.step
 obtain⟨n0,e0,rfl,rfl,lo0,hi0⟩:=h0.int
 obtain⟨v1,r1,S1,T1,rfl,rfl,h1,q2⟩:=q1.step
 obtain⟨n1,e1,rfl,rfl,lo1,hi1⟩:=h1.int
 obtain⟨v2,r2,S2,T2,rfl,rfl,h2,q3⟩:=q2.step
 obtain⟨n2,e2,rfl,rfl,lo2,hi2⟩:=h2.int
 obtain⟨v3,r3,S3,T3,rfl,rfl,h3,q4⟩:=q3.step
 obtain⟨c3,e3⟩:=h3.one rfl
 rw[e3]at h3
 obtain⟨v4,r4,S4,T4,rfl,rfl,h4,q5⟩:=q4.step
 obtain⟨c4,e4⟩:=h4.one rfl
 rw[e4]at h4
 obtain⟨v5,r5,S5,T5,rfl,rfl,h5,q6⟩:=q5.step
 obtain⟨_,rfl,rfl⟩:=q6
 have hsz:cs.length=10:=hv.size
 simp only[Ty.size,Ty.aK,Nat.reduceAdd,Nat.zero_add,List.drop_zero]at e0 e1 e2 e3 e4 hsz h5
 simp only[wt,dq]at hw
 refine aD Sm rfl ?_
 simp(disch:=omega) only[ae,P3,e0,e1,e2,e3,e4,hsz,aB,au,SX,SU,SL,reduceCtorEq,Nat.reduceAdd,Nat.reduceLeDiff,reduceIte]
 refine aI (eR h3 (by omega)) ?_
 rintro r0 g0 ⟨t0,d0,U0,rfl,rfl,z0,o0,l0⟩
 obtain⟨y0_0,rfl⟩:=z0.one rfl
 simp(disch:=omega) only[ae,P3,e0,e1,e2,e3,e4,hsz,aB,au,SX,SU,SL,reduceCtorEq,Nat.reduceAdd,Nat.reduceLeDiff,reduceIte]
 refine aI (eR (h4.app) (by omega)) ?_
 rintro r1 g1 ⟨t1,d1,U1,rfl,rfl,z1,o1,l1⟩
 obtain⟨y1_0,rfl⟩:=z1.one rfl
 simp(disch:=omega) only[ae,P3,e0,e1,e2,e3,e4,hsz,aB,au,SX,SU,SL,reduceCtorEq,Nat.reduceAdd,Nat.reduceLeDiff,reduceIte]
 refine aI (KM ((h5.app).app) (by omega)) ?_
 rintro r2 g2 ⟨t2,d2,U2,rfl,rfl,z2,o2,l2⟩
 obtain⟨y2_0,y2_1,y2_2,y2_3,y2_4,rfl⟩:=EW z2.size
 simp(disch:=omega) only[ae,P3,e0,e1,e2,e3,e4,hsz,aB,au,SX,SU,SL,reduceCtorEq,Nat.reduceAdd,Nat.reduceLeDiff,reduceIte]
 refine⟨(t0++(t1++t2)),_,_,by simp only[List.append_assoc],rfl,⟨_,rfl,(Rs.mk (Rp.mkInt lo0 hi0) (Rs.mk (Rp.mkInt lo1 hi1) (Rs.mk (Rp.mkInt lo2 hi2) (Rs.mk ((z0.app).app) (Rs.mk (z1.app) (Rs.mk z2 Rs.nil))))))⟩,?_⟩
 have fr:=(kg.step (kg.step (kg.step (kg.nil h) z0.lt o0 l0) z1.lt o1 l1) z2.lt o2 l2)
 simpa only[List.nil_append,List.append_nil,List.append_assoc]using fr.both
def QJ:AF:=⟨1,4,[.cell 2 11 true],(.seq (.ops [.i (.lbox 1 (.s 0)), .i (.lal 2 [.int .i64 0, .int .i64 0, .int .i64 0, .nils, .nils, .int .i64 0, .int .i64 0, .nils, .nils, .nils, .nils])]) (.seq (.ops [.i (.lal 3 [.int .i64 0, .int .i64 0, .int .i64 0, .nils, .nils, .int .i64 0, .int .i64 0, .nils, .nils, .nils, .nils])]) (.seq (.ops [qf 4 1 0,ql 5 1 4 10 true,qk 7 96 5,qf 7 3 0,qs 3 7 6 10]) (.seq (.ops [qf 8 1 10,ql 9 1 8 1 false,qk 11 30 9,qf 11 3 10,qs 3 11 10 1]) (.seq (.ops [ql 12 3 3 11 true,qs 2 2 12 11]) .ret)))))⟩
theorem Se:cd 97=some QJ:=by kernel_rfl
theorem K8:lZ cd 97 fw:=by
 intro h cs v S hv hw
 obtain⟨vs,rfl,q0⟩:=hv.st
 obtain⟨v0,r0,S0,T0,rfl,rfl,h0,q1⟩:=q0.step
 obtain⟨v1,r1,S1,T1,rfl,rfl,h1,q2⟩:=q1.step
 obtain⟨c1,e1⟩:=h1.one rfl
 rw[e1]at h1
 obtain⟨_,rfl,rfl⟩:=q2
 have hsz:cs.length=11:=hv.size
 simp only[Ty.size,Ty.aK,Nat.reduceAdd,Nat.zero_add,List.drop_zero]at e1 hsz h0
 simp only[wt,dq]at hw
 refine aD Se rfl ?_
 simp(disch:=omega) only[ae,QJ,e1,hsz,aB,au,SX,SU,SL,reduceCtorEq,Nat.reduceAdd,Nat.reduceLeDiff,reduceIte]
 refine aI (Ch h0 (by omega)) ?_
 rintro r0 g0 ⟨t0,d0,U0,rfl,rfl,z0,o0,l0⟩
 obtain⟨y0_0,y0_1,y0_2,y0_3,y0_4,y0_5,y0_6,y0_7,y0_8,y0_9,rfl⟩:=Jw z0.size
 simp(disch:=omega) only[ae,QJ,e1,hsz,aB,au,SX,SU,SL,reduceCtorEq,Nat.reduceAdd,Nat.reduceLeDiff,reduceIte]
 refine aI (vl (h1.app) (by omega)) ?_
 rintro r1 g1 ⟨t1,d1,U1,rfl,rfl,z1,o1,l1⟩
 obtain⟨y1_0,rfl⟩:=z1.one rfl
 simp(disch:=omega) only[ae,QJ,e1,hsz,aB,au,SX,SU,SL,reduceCtorEq,Nat.reduceAdd,Nat.reduceLeDiff,reduceIte]
 refine⟨(t0++t1),_,_,by simp only[List.append_assoc],rfl,⟨_,rfl,(Rs.mk (z0.app) (Rs.mk z1 Rs.nil))⟩,?_⟩
 have fr:=(kg.step (kg.step (kg.nil h) z0.lt o0 l0) z1.lt o1 l1)
 simpa only[List.nil_append,List.append_nil,List.append_assoc]using fr.both
def Og:AF:=⟨1,4,[.cell 2 3 true],(.seq (.ops [.i (.lbox 1 (.s 0)), .i (.lal 2 [.int .i64 0, .int .i64 0, .nils])]) (.seq (.ops [.i (.lal 3 [.int .i64 0, .int .i64 0, .nils])]) (.seq (.ops [qf 4 1 0,ql 5 1 4 1 false,qf 6 3 0,qs 3 6 5 1]) (.seq (.ops [qf 7 1 1,ql 8 1 7 1 false,qf 9 3 1,qs 3 9 8 1]) (.seq (.ops [qf 10 1 2,ql 11 1 10 1 false,qk 13 11 11,qf 13 3 2,qs 3 13 12 1]) (.seq (.ops [ql 14 3 3 3 true,qs 2 2 14 3]) .ret))))))⟩
theorem QQ:cd 227=some Og:=by kernel_rfl
theorem Kg:lZ cd 227 ec:=by
 intro h cs v S hv hw
 obtain⟨vs,rfl,q0⟩:=hv.st
 obtain⟨v0,r0,S0,T0,rfl,rfl,h0,q1⟩:=q0.step
 obtain⟨n0,e0,rfl,rfl,lo0,hi0⟩:=h0.int
 obtain⟨v1,r1,S1,T1,rfl,rfl,h1,q2⟩:=q1.step
 obtain⟨n1,e1,rfl,rfl,lo1,hi1⟩:=h1.int
 obtain⟨v2,r2,S2,T2,rfl,rfl,h2,q3⟩:=q2.step
 obtain⟨c2,e2⟩:=h2.one rfl
 rw[e2]at h2
 obtain⟨_,rfl,rfl⟩:=q3
 have hsz:cs.length=3:=hv.size
 simp only[Ty.size,Ty.aK,Nat.reduceAdd,Nat.zero_add,List.drop_zero]at e0 e1 e2 hsz
 simp only[wt,dq]at hw
 refine aD QQ rfl ?_
 simp(disch:=omega) only[ae,Og,e0,e1,e2,hsz,aB,au,SX,SU,SL,reduceCtorEq,Nat.reduceAdd,Nat.reduceLeDiff,reduceIte]
 refine aI (eR h2 (by omega)) ?_
 rintro r0 g0 ⟨t0,d0,U0,rfl,rfl,z0,o0,l0⟩
 obtain⟨y0_0,rfl⟩:=z0.one rfl
 simp(disch:=omega) only[ae,Og,e0,e1,e2,hsz,aB,au,SX,SU,SL,reduceCtorEq,Nat.reduceAdd,Nat.reduceLeDiff,reduceIte]
 refine⟨t0,_,_,by simp only[List.append_assoc],rfl,⟨_,rfl,(Rs.mk (Rp.mkInt lo0 hi0) (Rs.mk (Rp.mkInt lo1 hi1) (Rs.mk z0 Rs.nil)))⟩,?_⟩
 have fr:=(kg.step (kg.nil h) z0.lt o0 l0)
 simpa only[List.nil_append,List.append_nil,List.append_assoc]using fr.both
def QM:AF:=⟨1,5,[.tmp 2],(.seq (.ops [.i (.mov 2 (.c (.val false [.nils])))]) (.seq (.ops [qm 5 0,qn 6 5, .i (.mks 7 135 3 40 [.int .i64 0, .int .i64 0, .nils] (.s 6)),qm 3 7]) (.seq (.seq (.ops [.i (.mov 4 (qi 0))]) (.block 0 (.loop [21,20,19,18,17,16,15,14,13,12,11,10,9,8] (.seq (.seq (.ops [qm 8 4,qm 9 0,qn 10 9,qd 11 .lss 8 10]) (.cond (.s 11) .skip (.exit 0))) (.seq (.block 1 (.ops [qm 14 3,qm 15 4,qm 16 0,qm 17 4, .i (.iad 18 (.s 16) (.s 17) 3), .i (.ldh 19 (.s 18) 3 true),qk 21 227 19, .i (.iad 21 (.s 14) (.s 15) 3), .i (.sth (.s 21) (.s 20) 3)])) (.ops [qm 12 4, .i (.bin 13 .add (.s 12) (qi 1)),qm 4 13])))))) (.seq (.ops [qm 22 3,qm 2 22]) .ret))))⟩
theorem QS:cd 155=some QM:=by kernel_rfl
theorem Il:lZ cd 155 (.sl ec):=Hc QS (by omega) rfl Kg
def QW:AF:=⟨1,4,[.cell 2 2 true],(.seq (.ops [.i (.lbox 1 (.s 0)), .i (.lal 2 [.int .i64 0, .nils])]) (.seq (.ops [.i (.lal 3 [.int .i64 0, .nils])]) (.seq (.ops [qf 4 1 0,ql 5 1 4 1 false,qf 6 3 0,qs 3 6 5 1]) (.seq (.ops [qf 7 1 1,ql 8 1 7 1 false,qk 10 155 8,qf 10 3 1,qs 3 10 9 1]) (.seq (.ops [ql 11 3 3 2 true,qs 2 2 11 2]) .ret)))))⟩
theorem RX:cd 98=some QW:=by kernel_rfl
theorem PC:lZ cd 98 Jq:=by
 intro h cs v S hv hw
 obtain⟨vs,rfl,q0⟩:=hv.st
 obtain⟨v0,r0,S0,T0,rfl,rfl,h0,q1⟩:=q0.step
 obtain⟨n0,e0,rfl,rfl,lo0,hi0⟩:=h0.int
 obtain⟨v1,r1,S1,T1,rfl,rfl,h1,q2⟩:=q1.step
 obtain⟨c1,e1⟩:=h1.one rfl
 rw[e1]at h1
 obtain⟨_,rfl,rfl⟩:=q2
 have hsz:cs.length=2:=hv.size
 simp only[Ty.size,Ty.aK,Nat.reduceAdd,Nat.zero_add,List.drop_zero]at e0 e1 hsz
 simp only[wt,dq]at hw
 refine aD RX rfl ?_
 simp(disch:=omega) only[ae,QW,e0,e1,hsz,aB,au,SX,SU,SL,reduceCtorEq,Nat.reduceAdd,Nat.reduceLeDiff,reduceIte]
 refine aI (Il h1 (by omega)) ?_
 rintro r0 g0 ⟨t0,d0,U0,rfl,rfl,z0,o0,l0⟩
 obtain⟨y0_0,rfl⟩:=z0.one rfl
 simp(disch:=omega) only[ae,QW,e0,e1,hsz,aB,au,SX,SU,SL,reduceCtorEq,Nat.reduceAdd,Nat.reduceLeDiff,reduceIte]
 refine⟨t0,_,_,by simp only[List.append_assoc],rfl,⟨_,rfl,(Rs.mk (Rp.mkInt lo0 hi0) (Rs.mk z0 Rs.nil))⟩,?_⟩
 have fr:=(kg.step (kg.nil h) z0.lt o0 l0)
 simpa only[List.nil_append,List.append_nil,List.append_assoc]using fr.both
def Rl:AF:=⟨1,5,[.tmp 2],(.seq (.ops [.i (.mov 2 (.c (.val false [.nils])))]) (.seq (.ops [qm 5 0,qn 6 5, .i (.mks 7 64 10 160 qz (.s 6)),qm 3 7]) (.seq (.seq (.ops [.i (.mov 4 (qi 0))]) (.block 0 (.loop [21,20,19,18,17,16,15,14,13,12,11,10,9,8] (.seq (.seq (.ops [qm 8 4,qm 9 0,qn 10 9,qd 11 .lss 8 10]) (.cond (.s 11) .skip (.exit 0))) (.seq (.block 1 (.ops [qm 14 3,qm 15 4,qm 16 0,qm 17 4, .i (.iad 18 (.s 16) (.s 17) 10), .i (.ldh 19 (.s 18) 10 true),qk 21 96 19, .i (.iad 21 (.s 14) (.s 15) 10), .i (.sth (.s 21) (.s 20) 10)])) (.ops [qm 12 4, .i (.bin 13 .add (.s 12) (qi 1)),qm 4 13])))))) (.seq (.ops [qm 22 3,qm 2 22]) .ret))))⟩
theorem Q8:cd 156=some Rl:=by kernel_rfl
theorem Ji:lZ cd 156 (.sl cu):=Hc Q8 (by omega) rfl Ch
def QE:AF:=⟨1,4,[.cell 2 6 true],(.seq (.ops [.i (.lbox 1 (.s 0)), .i (.lal 2 [.nils, .int .i64 0, .int .i64 0, .nils, .nils, .nils])]) (.seq (.ops [.i (.lal 3 [.nils, .int .i64 0, .int .i64 0, .nils, .nils, .nils])]) (.seq (.ops [qf 4 1 0,ql 5 1 4 1 false,qk 7 156 5,qf 7 3 0,qs 3 7 6 1]) (.seq (.ops [qf 8 1 1,ql 9 1 8 5 true,qk 11 95 9,qf 11 3 1,qs 3 11 10 5]) (.seq (.ops [ql 12 3 3 6 true,qs 2 2 12 6]) .ret)))))⟩
theorem Sf:cd 99=some QE:=by kernel_rfl
theorem Ko:lZ cd 99 dQ:=by
 intro h cs v S hv hw
 obtain⟨vs,rfl,q0⟩:=hv.st
 obtain⟨v0,r0,S0,T0,rfl,rfl,h0,q1⟩:=q0.step
 obtain⟨c0,e0⟩:=h0.one rfl
 rw[e0]at h0
 obtain⟨v1,r1,S1,T1,rfl,rfl,h1,q2⟩:=q1.step
 obtain⟨_,rfl,rfl⟩:=q2
 have hsz:cs.length=6:=hv.size
 simp only[Ty.size,Ty.aK,Nat.reduceAdd,Nat.zero_add,List.drop_zero]at e0 hsz h1
 simp only[wt,dq]at hw
 refine aD Sf rfl ?_
 simp(disch:=omega) only[ae,QE,e0,hsz,aB,au,SX,SU,SL,reduceCtorEq,Nat.reduceAdd,Nat.reduceLeDiff,reduceIte]
 refine aI (Ji h0 (by omega)) ?_
 rintro r0 g0 ⟨t0,d0,U0,rfl,rfl,z0,o0,l0⟩
 obtain⟨y0_0,rfl⟩:=z0.one rfl
 simp(disch:=omega) only[ae,QE,e0,hsz,aB,au,SX,SU,SL,reduceCtorEq,Nat.reduceAdd,Nat.reduceLeDiff,reduceIte]
 refine aI (KM (h1.app) (by omega)) ?_
 rintro r1 g1 ⟨t1,d1,U1,rfl,rfl,z1,o1,l1⟩
 obtain⟨y1_0,y1_1,y1_2,y1_3,y1_4,rfl⟩:=EW z1.size
 simp(disch:=omega) only[ae,QE,e0,hsz,aB,au,SX,SU,SL,reduceCtorEq,Nat.reduceAdd,Nat.reduceLeDiff,reduceIte]
 refine⟨(t0++t1),_,_,by simp only[List.append_assoc],rfl,⟨_,rfl,(Rs.mk (z0.app) (Rs.mk z1 Rs.nil))⟩,?_⟩
 have fr:=(kg.step (kg.step (kg.nil h) z0.lt o0 l0) z1.lt o1 l1)
 simpa only[List.nil_append,List.append_nil,List.append_assoc]using fr.both
def LU:AF:=⟨1,5,[.cell 2 5 true],(.seq (.ops [.i (.lbox 1 (.s 0)), .i (.lal 2 [.int .i64 0, .int .i64 0, .int .i64 0, .nils, .nils])]) (.seq (.ops [.i (.lal 3 [.int .i64 0, .int .i64 0, .int .i64 0, .nils, .nils])]) (.seq (.ops [qf 4 1 0,ql 5 1 4 1 false,qf 6 3 0,qs 3 6 5 1]) (.seq (.ops [qf 7 1 1,ql 8 1 7 1 false,qf 9 3 1,qs 3 9 8 1]) (.seq (.ops [qf 10 1 2,ql 11 1 10 1 false,qf 12 3 2,qs 3 12 11 1]) (.seq (.ops [qf 13 1 3,ql 14 1 13 1 false,qk 16 11 14,qf 16 3 3,qs 3 16 15 1]) (.seq (.ops [qf 17 1 4,ql 18 1 17 1 false,qk 20 30 18,qf 20 3 4,qs 3 20 19 1]) (.seq (.ops [ql 21 3 3 5 true,qs 2 2 21 5]) .ret))))))))⟩
theorem Re:cd 100=some LU:=by kernel_rfl
theorem MW:lZ cd 100 p0:=by
 intro h cs v S hv hw
 obtain⟨vs,rfl,q0⟩:=hv.st
 obtain⟨v0,r0,S0,T0,rfl,rfl,h0,q1⟩:=q0.step
 obtain⟨n0,e0,rfl,rfl,lo0,hi0⟩:=h0.int
 obtain⟨v1,r1,S1,T1,rfl,rfl,h1,q2⟩:=q1.step
 obtain⟨n1,e1,rfl,rfl,lo1,hi1⟩:=h1.int
 obtain⟨v2,r2,S2,T2,rfl,rfl,h2,q3⟩:=q2.step
 obtain⟨n2,e2,rfl,rfl,lo2,hi2⟩:=h2.int
 obtain⟨v3,r3,S3,T3,rfl,rfl,h3,q4⟩:=q3.step
 obtain⟨c3,e3⟩:=h3.one rfl
 rw[e3]at h3
 obtain⟨v4,r4,S4,T4,rfl,rfl,h4,q5⟩:=q4.step
 obtain⟨c4,e4⟩:=h4.one rfl
 rw[e4]at h4
 obtain⟨_,rfl,rfl⟩:=q5
 have hsz:cs.length=5:=hv.size
 simp only[Ty.size,Ty.aK,Nat.reduceAdd,Nat.zero_add,List.drop_zero]at e0 e1 e2 e3 e4 hsz
 simp only[wt,dq]at hw
 refine aD Re rfl ?_
 simp(disch:=omega) only[ae,LU,e0,e1,e2,e3,e4,hsz,aB,au,SX,SU,SL,reduceCtorEq,Nat.reduceAdd,Nat.reduceLeDiff,reduceIte]
 refine aI (eR h3 (by omega)) ?_
 rintro r0 g0 ⟨t0,d0,U0,rfl,rfl,z0,o0,l0⟩
 obtain⟨y0_0,rfl⟩:=z0.one rfl
 simp(disch:=omega) only[ae,LU,e0,e1,e2,e3,e4,hsz,aB,au,SX,SU,SL,reduceCtorEq,Nat.reduceAdd,Nat.reduceLeDiff,reduceIte]
 refine aI (vl (h4.app) (by omega)) ?_
 rintro r1 g1 ⟨t1,d1,U1,rfl,rfl,z1,o1,l1⟩
 obtain⟨y1_0,rfl⟩:=z1.one rfl
 simp(disch:=omega) only[ae,LU,e0,e1,e2,e3,e4,hsz,aB,au,SX,SU,SL,reduceCtorEq,Nat.reduceAdd,Nat.reduceLeDiff,reduceIte]
 refine⟨(t0++t1),_,_,by simp only[List.append_assoc],rfl,⟨_,rfl,(Rs.mk (Rp.mkInt lo0 hi0) (Rs.mk (Rp.mkInt lo1 hi1) (Rs.mk (Rp.mkInt lo2 hi2) (Rs.mk (z0.app) (Rs.mk z1 Rs.nil)))))⟩,?_⟩
 have fr:=(kg.step (kg.step (kg.nil h) z0.lt o0 l0) z1.lt o1 l1)
 simpa only[List.nil_append,List.append_nil,List.append_assoc]using fr.both
def ML:AF:=⟨1,6,[.cell 2 45 true],(.seq (.ops [.i (.lbox 1 (.s 0)), .i (.lal 2 [.int .i64 0, .int .i64 0, .int .i64 0, .nils, .int .i64 0, .nils, .int .i64 0, .int .i64 0, .nils, .nils, .nils, .int .i64 0, .int .i64 0, .int .i64 0, .nils, .nils, .int .i64 0, .int .i64 0, .nils, .nils, .nils, .int .i64 0, .int .i64 0, .int .i64 0, .nils, .nils, .int .i64 0, .int .i64 0, .nils, .nils, .nils, .nils, .int .i64 0, .nils, .nils, .int .i64 0, .int .i64 0, .nils, .nils, .nils, .int .i64 0, .int .i64 0, .int .i64 0, .nils, .nils])]) (.seq (.ops [.i (.lal 3 [.int .i64 0, .int .i64 0, .int .i64 0, .nils, .int .i64 0, .nils, .int .i64 0, .int .i64 0, .nils, .nils, .nils, .int .i64 0, .int .i64 0, .int .i64 0, .nils, .nils, .int .i64 0, .int .i64 0, .nils, .nils, .nils, .int .i64 0, .int .i64 0, .int .i64 0, .nils, .nils, .int .i64 0, .int .i64 0, .nils, .nils, .nils, .nils, .int .i64 0, .nils, .nils, .int .i64 0, .int .i64 0, .nils, .nils, .nils, .int .i64 0, .int .i64 0, .int .i64 0, .nils, .nils])]) (.seq (.ops [qf 4 1 0,ql 5 1 4 1 false,qf 6 3 0,qs 3 6 5 1]) (.seq (.ops [qf 7 1 1,ql 8 1 7 5 true,qk 10 94 8,qf 10 3 1,qs 3 10 9 5]) (.seq (.ops [qf 11 1 6,ql 12 1 11 5 true,qk 14 95 12,qf 14 3 6,qs 3 14 13 5]) (.seq (.ops [qf 15 1 11,ql 16 1 15 10 true,qk 18 96 16,qf 18 3 11,qs 3 18 17 10]) (.seq (.ops [qf 19 1 21,ql 20 1 19 11 true,qk 22 97 20,qf 22 3 21,qs 3 22 21 11]) (.seq (.ops [qf 23 1 32,ql 24 1 23 2 true,qk 26 98 24,qf 26 3 32,qs 3 26 25 2]) (.seq (.ops [qf 27 1 34,ql 28 1 27 6 true,qk 30 99 28,qf 30 3 34,qs 3 30 29 6]) (.seq (.ops [qf 31 1 40,ql 32 1 31 5 true,qk 34 100 32,qf 34 3 40,qs 3 34 33 5]) (.seq (.ops [ql 35 3 3 45 true,qs 2 2 35 45]) .ret)))))))))))⟩
theorem R6:cd 58=some ML:=by kernel_rfl
theorem OQ:lZ cd 58 TMsg:=by
 intro h cs v S hv hw
 obtain⟨vs,rfl,q0⟩:=hv.st
 obtain⟨v0,r0,S0,T0,rfl,rfl,h0,q1⟩:=q0.step
 obtain⟨n0,e0,rfl,rfl,lo0,hi0⟩:=h0.int
 obtain⟨v1,r1,S1,T1,rfl,rfl,h1,q2⟩:=q1.step
 obtain⟨v2,r2,S2,T2,rfl,rfl,h2,q3⟩:=q2.step
 obtain⟨v3,r3,S3,T3,rfl,rfl,h3,q4⟩:=q3.step
 obtain⟨v4,r4,S4,T4,rfl,rfl,h4,q5⟩:=q4.step
 obtain⟨v5,r5,S5,T5,rfl,rfl,h5,q6⟩:=q5.step
 obtain⟨v6,r6,S6,T6,rfl,rfl,h6,q7⟩:=q6.step
 obtain⟨v7,r7,S7,T7,rfl,rfl,h7,q8⟩:=q7.step
 obtain⟨_,rfl,rfl⟩:=q8
 have hsz:cs.length=45:=hv.size
 simp only[Ty.size,Ty.aK,Nat.reduceAdd,Nat.zero_add,List.drop_zero]at e0 hsz h1 h2 h3 h4 h5 h6 h7
 simp only[wt,dq]at hw
 refine aD R6 rfl ?_
 simp(disch:=omega) only[ae,ML,e0,hsz,aB,au,SX,SU,SL,reduceCtorEq,Nat.reduceAdd,Nat.reduceLeDiff,reduceIte]
 refine aI (Mx h1 (by omega)) ?_
 rintro r0 g0 ⟨t0,d0,U0,rfl,rfl,z0,o0,l0⟩
 obtain⟨y0_0,y0_1,y0_2,y0_3,y0_4,rfl⟩:=EW z0.size
 simp(disch:=omega) only[ae,ML,e0,hsz,aB,au,SX,SU,SL,reduceCtorEq,Nat.reduceAdd,Nat.reduceLeDiff,reduceIte]
 refine aI (KM (h2.app) (by omega)) ?_
 rintro r1 g1 ⟨t1,d1,U1,rfl,rfl,z1,o1,l1⟩
 obtain⟨y1_0,y1_1,y1_2,y1_3,y1_4,rfl⟩:=EW z1.size
 simp(disch:=omega) only[ae,ML,e0,hsz,aB,au,SX,SU,SL,reduceCtorEq,Nat.reduceAdd,Nat.reduceLeDiff,reduceIte]
 refine aI (Ch ((h3.app).app) (by omega)) ?_
 rintro r2 g2 ⟨t2,d2,U2,rfl,rfl,z2,o2,l2⟩
 obtain⟨y2_0,y2_1,y2_2,y2_3,y2_4,y2_5,y2_6,y2_7,y2_8,y2_9,rfl⟩:=Jw z2.size
 simp(disch:=omega) only[ae,ML,e0,hsz,aB,au,SX,SU,SL,reduceCtorEq,Nat.reduceAdd,Nat.reduceLeDiff,reduceIte]
 refine aI (K8 (((h4.app).app).app) (by omega)) ?_
 rintro r3 g3 ⟨t3,d3,U3,rfl,rfl,z3,o3,l3⟩
 obtain⟨y3_0,y3_1,y3_2,y3_3,y3_4,y3_5,y3_6,y3_7,y3_8,y3_9,y3_10,rfl⟩:=Ok z3.size
 simp(disch:=omega) only[ae,ML,e0,hsz,aB,au,SX,SU,SL,reduceCtorEq,Nat.reduceAdd,Nat.reduceLeDiff,reduceIte]
 refine aI (PC ((((h5.app).app).app).app) (by omega)) ?_
 rintro r4 g4 ⟨t4,d4,U4,rfl,rfl,z4,o4,l4⟩
 obtain⟨y4_0,y4_1,rfl⟩:=PQ z4.size
 simp(disch:=omega) only[ae,ML,e0,hsz,aB,au,SX,SU,SL,reduceCtorEq,Nat.reduceAdd,Nat.reduceLeDiff,reduceIte]
 refine aI (Ko (((((h6.app).app).app).app).app) (by omega)) ?_
 rintro r5 g5 ⟨t5,d5,U5,rfl,rfl,z5,o5,l5⟩
 obtain⟨y5_0,y5_1,y5_2,y5_3,y5_4,y5_5,rfl⟩:=P1 z5.size
 simp(disch:=omega) only[ae,ML,e0,hsz,aB,au,SX,SU,SL,reduceCtorEq,Nat.reduceAdd,Nat.reduceLeDiff,reduceIte]
 refine aI (MW ((((((h7.app).app).app).app).app).app) (by omega)) ?_
 rintro r6 g6 ⟨t6,d6,U6,rfl,rfl,z6,o6,l6⟩
 obtain⟨y6_0,y6_1,y6_2,y6_3,y6_4,rfl⟩:=EW z6.size
 simp(disch:=omega) only[ae,ML,e0,hsz,aB,au,SX,SU,SL,reduceCtorEq,Nat.reduceAdd,Nat.reduceLeDiff,reduceIte]
 refine⟨(t0++(t1++(t2++(t3++(t4++(t5++t6)))))),_,_,by simp only[List.append_assoc],rfl,⟨_,rfl,(Rs.mk (Rp.mkInt lo0 hi0) (Rs.mk ((((((z0.app).app).app).app).app).app) (Rs.mk (((((z1.app).app).app).app).app) (Rs.mk ((((z2.app).app).app).app) (Rs.mk (((z3.app).app).app) (Rs.mk ((z4.app).app) (Rs.mk (z5.app) (Rs.mk z6 Rs.nil))))))))⟩,?_⟩
 have fr:=(kg.step (kg.step (kg.step (kg.step (kg.step (kg.step (kg.step (kg.nil h) z0.lt o0 l0) z1.lt o1 l1) z2.lt o2 l2) z3.lt o3 l3) z4.lt o4 l4) z5.lt o5 l5) z6.lt o6 l6)
 simpa only[List.nil_append,List.append_nil,List.append_assoc]using fr.both
def R9:AF:=⟨1,5,[.tmp 2],(.seq (.ops [.i (.mov 2 (.c (.val false [.nils])))]) (.seq (.ops [qm 5 0,qn 6 5, .i (.mks 7 76 45 728 [.int .i64 0, .int .i64 0, .int .i64 0, .nils, .int .i64 0, .nils, .int .i64 0, .int .i64 0, .nils, .nils, .nils, .int .i64 0, .int .i64 0, .int .i64 0, .nils, .nils, .int .i64 0, .int .i64 0, .nils, .nils, .nils, .int .i64 0, .int .i64 0, .int .i64 0, .nils, .nils, .int .i64 0, .int .i64 0, .nils, .nils, .nils, .nils, .int .i64 0, .nils, .nils, .int .i64 0, .int .i64 0, .nils, .nils, .nils, .int .i64 0, .int .i64 0, .int .i64 0, .nils, .nils] (.s 6)),qm 3 7]) (.seq (.seq (.ops [.i (.mov 4 (qi 0))]) (.block 0 (.loop [21,20,19,18,17,16,15,14,13,12,11,10,9,8] (.seq (.seq (.ops [qm 8 4,qm 9 0,qn 10 9,qd 11 .lss 8 10]) (.cond (.s 11) .skip (.exit 0))) (.seq (.block 1 (.ops [qm 14 3,qm 15 4,qm 16 0,qm 17 4, .i (.iad 18 (.s 16) (.s 17) 45), .i (.ldh 19 (.s 18) 45 true),qk 21 58 19, .i (.iad 21 (.s 14) (.s 15) 45), .i (.sth (.s 21) (.s 20) 45)])) (.ops [qm 12 4, .i (.bin 13 .add (.s 12) (qi 1)),qm 4 13])))))) (.seq (.ops [qm 22 3,qm 2 22]) .ret))))⟩
theorem Sp:cd 23=some R9:=by kernel_rfl
theorem xO:lZ cd 23 (.sl TMsg):=Hc Sp (by omega) rfl OQ
def Sl:AF:=⟨2,5,[.tmp 4],(.seq (.ops [.i (.mov 4 (qb false))]) (.seq (.seq (.ops [qm 6 0,qn 7 6,qm 8 1,qn 9 8,qd 10 .neq 7 9]) (.cond (.s 10) (.seq (.ops [.i (.mov 4 (qb false))]) .ret) .skip)) (.seq (.seq (.ops [.i (.mov 5 (qi 0))]) (.block 0 (.loop [25,24,23,22,21,20,19,18,17,16,15,14,13,12,11] (.seq (.seq (.ops [qm 11 5,qm 12 0,qn 13 12,qd 14 .lss 11 13]) (.cond (.s 14) .skip (.exit 0))) (.seq (.block 1 (.seq (.ops [qm 17 0,qm 18 5, .i (.iad 19 (.s 17) (.s 18) 1), .i (.ldh 20 (.s 19) 1 false),qm 21 1,qm 22 5, .i (.iad 23 (.s 21) (.s 22) 1), .i (.ldh 24 (.s 23) 1 false),qd 25 .neq 20 24]) (.cond (.s 25) (.seq (.ops [.i (.mov 4 (qb false))]) .ret) .skip))) (.ops [qm 15 5, .i (.bin 16 .add (.s 15) (qi 1)),qm 5 16])))))) (.seq (.ops [.i (.mov 4 (qb true))]) .ret))))⟩
theorem R5:cd 15=some Sl:=by kernel_rfl
theorem dA:cV cd 15 (.sl (.int .u8)):=MV R5
def wY:AF:=⟨2,6,[.tmp 4],(.seq (.ops [.i (.lbox 2 (.s 0)), .i (.lbox 3 (.s 1)), .i (.mov 4 (qb false))]) (.seq (.seq (.ops [qf 5 2 0,ql 6 2 5 1 false,qf 7 3 0,ql 8 3 7 1 false,qd 9 .neq 6 8]) (.cond (.s 9) (.seq (.ops [.i (.mov 4 (qb false))]) .ret) .skip)) (.seq (.seq (.ops [qf 10 2 1,ql 11 2 10 1 false,qf 12 3 1,ql 13 3 12 1 false,qd 14 .neq 11 13]) (.cond (.s 14) (.seq (.ops [.i (.mov 4 (qb false))]) .ret) .skip)) (.seq (.seq (.ops [qf 15 2 2,ql 16 2 15 1 false,qf 17 3 2,ql 18 3 17 1 false, .i (.call 20 15 false [(.s 16),(.s 18)]), .i (.not 20 (.s 19))]) (.cond (.s 20) (.seq (.ops [.i (.mov 4 (qb false))]) .ret) .skip)) (.seq (.seq (.ops [qf 21 2 3,ql 22 2 21 1 false,qf 23 3 3,ql 24 3 23 1 false,qd 25 .neq 22 24]) (.cond (.s 25) (.seq (.ops [.i (.mov 4 (qb false))]) .ret) .skip)) (.seq (.seq (.ops [qf 26 2 4,ql 27 2 26 1 false,qf 28 3 4,ql 29 3 28 1 false, .i (.call 31 15 false [(.s 27),(.s 29)]), .i (.not 31 (.s 30))]) (.cond (.s 31) (.seq (.ops [.i (.mov 4 (qb false))]) .ret) .skip)) (.seq (.ops [.i (.mov 4 (qb true))]) .ret)))))))⟩
theorem Rc:cd 106=some wY:=by kernel_rfl
theorem LO:cV cd 106 q9:=by
 intro h ca cb va vb Sa Sb ha hb
 obtain⟨avs,rfl,aq0⟩:=ha.st
 obtain⟨av0,ar0,aS0,aT0,rfl,rfl,ah0,aq1⟩:=aq0.step
 obtain⟨an0,ae0,rfl,rfl,alo0,ahi0⟩:=ah0.int
 obtain⟨av1,ar1,aS1,aT1,rfl,rfl,ah1,aq2⟩:=aq1.step
 obtain⟨an1,ae1,rfl,rfl,alo1,ahi1⟩:=ah1.int
 obtain⟨av2,ar2,aS2,aT2,rfl,rfl,ah2,aq3⟩:=aq2.step
 obtain⟨ac2,ae2⟩:=ah2.one rfl
 rw[ae2]at ah2
 obtain⟨av3,ar3,aS3,aT3,rfl,rfl,ah3,aq4⟩:=aq3.step
 obtain⟨an3,ae3,rfl,rfl,alo3,ahi3⟩:=ah3.int
 obtain⟨av4,ar4,aS4,aT4,rfl,rfl,ah4,aq5⟩:=aq4.step
 obtain⟨ac4,ae4⟩:=ah4.one rfl
 rw[ae4]at ah4
 obtain⟨_,rfl,rfl⟩:=aq5
 have ahsz:ca.length=5:=ha.size
 obtain⟨bvs,rfl,bq0⟩:=hb.st
 obtain⟨bv0,br0,bS0,bT0,rfl,rfl,bh0,bq1⟩:=bq0.step
 obtain⟨bn0,be0,rfl,rfl,blo0,bhi0⟩:=bh0.int
 obtain⟨bv1,br1,bS1,bT1,rfl,rfl,bh1,bq2⟩:=bq1.step
 obtain⟨bn1,be1,rfl,rfl,blo1,bhi1⟩:=bh1.int
 obtain⟨bv2,br2,bS2,bT2,rfl,rfl,bh2,bq3⟩:=bq2.step
 obtain⟨bc2,be2⟩:=bh2.one rfl
 rw[be2]at bh2
 obtain⟨bv3,br3,bS3,bT3,rfl,rfl,bh3,bq4⟩:=bq3.step
 obtain⟨bn3,be3,rfl,rfl,blo3,bhi3⟩:=bh3.int
 obtain⟨bv4,br4,bS4,bT4,rfl,rfl,bh4,bq5⟩:=bq4.step
 obtain⟨bc4,be4⟩:=bh4.one rfl
 rw[be4]at bh4
 obtain⟨_,rfl,rfl⟩:=bq5
 have bhsz:cb.length=5:=hb.size
 simp only[Ty.size,Ty.aK,Nat.reduceAdd,Nat.zero_add,List.drop_zero]at ae0 ae1 ae2 ae3 ae4 ahsz be0 be1 be2 be3 be4 bhsz
 refine aD Rc rfl ?_
 simp(disch:=omega) only[ae,wY,ae0,ae1,ae2,ae3,ae4,ahsz,be0,be1,be2,be3,be4,bhsz,aB,au,SX,SU,SL,reduceCtorEq,Nat.reduceAdd,Nat.reduceLeDiff,reduceIte]
 refine ao (fun hn=> ?_) (fun hn=> ?_)
 case refine_1=>
  simp(disch:=omega) only[ae,wY,ae0,ae1,ae2,ae3,ae4,ahsz,be0,be1,be2,be3,be4,bhsz,aB,au,SX,SU,SL,reduceCtorEq,Nat.reduceAdd,Nat.reduceLeDiff,reduceIte]
  simp[hn]
 have d0:an0=bn0:=by omega
 subst d0
 simp(disch:=omega) only[ae,wY,ae0,ae1,ae2,ae3,ae4,ahsz,be0,be1,be2,be3,be4,bhsz,aB,au,SX,SU,SL,reduceCtorEq,Nat.reduceAdd,Nat.reduceLeDiff,reduceIte]
 refine ao (fun hn=> ?_) (fun hn=> ?_)
 case refine_1=>
  simp(disch:=omega) only[ae,wY,ae0,ae1,ae2,ae3,ae4,ahsz,be0,be1,be2,be3,be4,bhsz,aB,au,SX,SU,SL,reduceCtorEq,Nat.reduceAdd,Nat.reduceLeDiff,reduceIte]
  simp[hn]
 have d1:an1=bn1:=by omega
 subst d1
 simp(disch:=omega) only[ae,wY,ae0,ae1,ae2,ae3,ae4,ahsz,be0,be1,be2,be3,be4,bhsz,aB,au,SX,SU,SL,reduceCtorEq,Nat.reduceAdd,Nat.reduceLeDiff,reduceIte]
 refine cV.go dA ah2 bh2 (fun d2=> ?_) (fun d2=> ?_)
 case refine_2=>
  simp(disch:=omega) only[ae,wY,ae0,ae1,ae2,ae3,ae4,ahsz,be0,be1,be2,be3,be4,bhsz,aB,au,SX,SU,SL,reduceCtorEq,Nat.reduceAdd,Nat.reduceLeDiff,reduceIte]
  simp[d2]
 subst d2
 simp(disch:=omega) only[ae,wY,ae0,ae1,ae2,ae3,ae4,ahsz,be0,be1,be2,be3,be4,bhsz,aB,au,SX,SU,SL,reduceCtorEq,Nat.reduceAdd,Nat.reduceLeDiff,reduceIte]
 refine ao (fun hn=> ?_) (fun hn=> ?_)
 case refine_1=>
  simp(disch:=omega) only[ae,wY,ae0,ae1,ae2,ae3,ae4,ahsz,be0,be1,be2,be3,be4,bhsz,aB,au,SX,SU,SL,reduceCtorEq,Nat.reduceAdd,Nat.reduceLeDiff,reduceIte]
  simp[hn]
 have d3:an3=bn3:=by omega
 subst d3
 simp(disch:=omega) only[ae,wY,ae0,ae1,ae2,ae3,ae4,ahsz,be0,be1,be2,be3,be4,bhsz,aB,au,SX,SU,SL,reduceCtorEq,Nat.reduceAdd,Nat.reduceLeDiff,reduceIte]
 refine cV.go dA ah4 bh4 (fun d4=> ?_) (fun d4=> ?_)
 case refine_2=>
  simp(disch:=omega) only[ae,wY,ae0,ae1,ae2,ae3,ae4,ahsz,be0,be1,be2,be3,be4,bhsz,aB,au,SX,SU,SL,reduceCtorEq,Nat.reduceAdd,Nat.reduceLeDiff,reduceIte]
  simp[d4]
 subst d4
 simp(disch:=omega) only[ae,wY,ae0,ae1,ae2,ae3,ae4,ahsz,be0,be1,be2,be3,be4,bhsz,aB,au,SX,SU,SL,reduceCtorEq,Nat.reduceAdd,Nat.reduceLeDiff,reduceIte]
def SH:AF:=⟨2,5,[.tmp 4],(.seq (.ops [.i (.mov 4 (qb false))]) (.seq (.seq (.ops [qm 6 0,qn 7 6,qm 8 1,qn 9 8,qd 10 .neq 7 9]) (.cond (.s 10) (.seq (.ops [.i (.mov 4 (qb false))]) .ret) .skip)) (.seq (.seq (.ops [.i (.mov 5 (qi 0))]) (.block 0 (.loop [26,25,24,23,22,21,20,19,18,17,16,15,14,13,12,11] (.seq (.seq (.ops [qm 11 5,qm 12 0,qn 13 12,qd 14 .lss 11 13]) (.cond (.s 14) .skip (.exit 0))) (.seq (.block 1 (.seq (.ops [qm 17 0,qm 18 5, .i (.iad 19 (.s 17) (.s 18) 1), .i (.ldh 20 (.s 19) 1 false),qm 21 1,qm 22 5, .i (.iad 23 (.s 21) (.s 22) 1), .i (.ldh 24 (.s 23) 1 false), .i (.call 26 15 false [(.s 20),(.s 24)]), .i (.not 26 (.s 25))]) (.cond (.s 26) (.seq (.ops [.i (.mov 4 (qb false))]) .ret) .skip))) (.ops [qm 15 5, .i (.bin 16 .add (.s 15) (qi 1)),qm 5 16])))))) (.seq (.ops [.i (.mov 4 (qb true))]) .ret))))⟩
theorem Sq:cd 32=some SH:=by kernel_rfl
theorem vF:cV cd 32 (.sl (.sl (.int .u8))):=Hr Sq dA
def xh:AF:=⟨2,6,[.tmp 4],(.seq (.ops [.i (.lbox 2 (.s 0)), .i (.lbox 3 (.s 1)), .i (.mov 4 (qb false))]) (.seq (.seq (.ops [qf 5 2 0,ql 6 2 5 1 false,qf 7 3 0,ql 8 3 7 1 false,qd 9 .neq 6 8]) (.cond (.s 9) (.seq (.ops [.i (.mov 4 (qb false))]) .ret) .skip)) (.seq (.seq (.ops [qf 10 2 1,ql 11 2 10 1 false,qf 12 3 1,ql 13 3 12 1 false,qd 14 .neq 11 13]) (.cond (.s 14) (.seq (.ops [.i (.mov 4 (qb false))]) .ret) .skip)) (.seq (.seq (.ops [qf 15 2 2,ql 16 2 15 1 false,qf 17 3 2,ql 18 3 17 1 false, .i (.call 20 15 false [(.s 16),(.s 18)]), .i (.not 20 (.s 19))]) (.cond (.s 20) (.seq (.ops [.i (.mov 4 (qb false))]) .ret) .skip)) (.seq (.seq (.ops [qf 21 2 3,ql 22 2 21 1 false,qf 23 3 3,ql 24 3 23 1 false, .i (.call 26 15 false [(.s 22),(.s 24)]), .i (.not 26 (.s 25))]) (.cond (.s 26) (.seq (.ops [.i (.mov 4 (qb false))]) .ret) .skip)) (.seq (.seq (.ops [qf 27 2 4,ql 28 2 27 1 false,qf 29 3 4,ql 30 3 29 1 false, .i (.call 32 32 false [(.s 28),(.s 30)]), .i (.not 32 (.s 31))]) (.cond (.s 32) (.seq (.ops [.i (.mov 4 (qb false))]) .ret) .skip)) (.seq (.ops [.i (.mov 4 (qb true))]) .ret)))))))⟩
theorem QT:cd 107=some xh:=by kernel_rfl
theorem IY:cV cd 107 yQ:=by
 intro h ca cb va vb Sa Sb ha hb
 obtain⟨avs,rfl,aq0⟩:=ha.st
 obtain⟨av0,ar0,aS0,aT0,rfl,rfl,ah0,aq1⟩:=aq0.step
 obtain⟨an0,ae0,rfl,rfl,alo0,ahi0⟩:=ah0.int
 obtain⟨av1,ar1,aS1,aT1,rfl,rfl,ah1,aq2⟩:=aq1.step
 obtain⟨an1,ae1,rfl,rfl,alo1,ahi1⟩:=ah1.int
 obtain⟨av2,ar2,aS2,aT2,rfl,rfl,ah2,aq3⟩:=aq2.step
 obtain⟨ac2,ae2⟩:=ah2.one rfl
 rw[ae2]at ah2
 obtain⟨av3,ar3,aS3,aT3,rfl,rfl,ah3,aq4⟩:=aq3.step
 obtain⟨ac3,ae3⟩:=ah3.one rfl
 rw[ae3]at ah3
 obtain⟨av4,ar4,aS4,aT4,rfl,rfl,ah4,aq5⟩:=aq4.step
 obtain⟨ac4,ae4⟩:=ah4.one rfl
 rw[ae4]at ah4
 obtain⟨_,rfl,rfl⟩:=aq5
 have ahsz:ca.length=5:=ha.size
 obtain⟨bvs,rfl,bq0⟩:=hb.st
 obtain⟨bv0,br0,bS0,bT0,rfl,rfl,bh0,bq1⟩:=bq0.step
 obtain⟨bn0,be0,rfl,rfl,blo0,bhi0⟩:=bh0.int
 obtain⟨bv1,br1,bS1,bT1,rfl,rfl,bh1,bq2⟩:=bq1.step
 obtain⟨bn1,be1,rfl,rfl,blo1,bhi1⟩:=bh1.int
 obtain⟨bv2,br2,bS2,bT2,rfl,rfl,bh2,bq3⟩:=bq2.step
 obtain⟨bc2,be2⟩:=bh2.one rfl
 rw[be2]at bh2
 obtain⟨bv3,br3,bS3,bT3,rfl,rfl,bh3,bq4⟩:=bq3.step
 obtain⟨bc3,be3⟩:=bh3.one rfl
 rw[be3]at bh3
 obtain⟨bv4,br4,bS4,bT4,rfl,rfl,bh4,bq5⟩:=bq4.step
 obtain⟨bc4,be4⟩:=bh4.one rfl
 rw[be4]at bh4
 obtain⟨_,rfl,rfl⟩:=bq5
 have bhsz:cb.length=5:=hb.size
 simp only[Ty.size,Ty.aK,Nat.reduceAdd,Nat.zero_add,List.drop_zero]at ae0 ae1 ae2 ae3 ae4 ahsz be0 be1 be2 be3 be4 bhsz
 refine aD QT rfl ?_
 simp(disch:=omega) only[ae,xh,ae0,ae1,ae2,ae3,ae4,ahsz,be0,be1,be2,be3,be4,bhsz,aB,au,SX,SU,SL,reduceCtorEq,Nat.reduceAdd,Nat.reduceLeDiff,reduceIte]
 refine ao (fun hn=> ?_) (fun hn=> ?_)
 case refine_1=>
  simp(disch:=omega) only[ae,xh,ae0,ae1,ae2,ae3,ae4,ahsz,be0,be1,be2,be3,be4,bhsz,aB,au,SX,SU,SL,reduceCtorEq,Nat.reduceAdd,Nat.reduceLeDiff,reduceIte]
  simp[hn]
 have d0:an0=bn0:=by omega
 subst d0
 simp(disch:=omega) only[ae,xh,ae0,ae1,ae2,ae3,ae4,ahsz,be0,be1,be2,be3,be4,bhsz,aB,au,SX,SU,SL,reduceCtorEq,Nat.reduceAdd,Nat.reduceLeDiff,reduceIte]
 refine ao (fun hn=> ?_) (fun hn=> ?_)
 case refine_1=>
  simp(disch:=omega) only[ae,xh,ae0,ae1,ae2,ae3,ae4,ahsz,be0,be1,be2,be3,be4,bhsz,aB,au,SX,SU,SL,reduceCtorEq,Nat.reduceAdd,Nat.reduceLeDiff,reduceIte]
  simp[hn]
 have d1:an1=bn1:=by omega
 subst d1
 simp(disch:=omega) only[ae,xh,ae0,ae1,ae2,ae3,ae4,ahsz,be0,be1,be2,be3,be4,bhsz,aB,au,SX,SU,SL,reduceCtorEq,Nat.reduceAdd,Nat.reduceLeDiff,reduceIte]
 refine cV.go dA ah2 bh2 (fun d2=> ?_) (fun d2=> ?_)
 case refine_2=>
  simp(disch:=omega) only[ae,xh,ae0,ae1,ae2,ae3,ae4,ahsz,be0,be1,be2,be3,be4,bhsz,aB,au,SX,SU,SL,reduceCtorEq,Nat.reduceAdd,Nat.reduceLeDiff,reduceIte]
  simp[d2]
 subst d2
 simp(disch:=omega) only[ae,xh,ae0,ae1,ae2,ae3,ae4,ahsz,be0,be1,be2,be3,be4,bhsz,aB,au,SX,SU,SL,reduceCtorEq,Nat.reduceAdd,Nat.reduceLeDiff,reduceIte]
 refine cV.go dA ah3 bh3 (fun d3=> ?_) (fun d3=> ?_)
 case refine_2=>
  simp(disch:=omega) only[ae,xh,ae0,ae1,ae2,ae3,ae4,ahsz,be0,be1,be2,be3,be4,bhsz,aB,au,SX,SU,SL,reduceCtorEq,Nat.reduceAdd,Nat.reduceLeDiff,reduceIte]
  simp[d3]
 subst d3
 simp(disch:=omega) only[ae,xh,ae0,ae1,ae2,ae3,ae4,ahsz,be0,be1,be2,be3,be4,bhsz,aB,au,SX,SU,SL,reduceCtorEq,Nat.reduceAdd,Nat.reduceLeDiff,reduceIte]
 refine cV.go vF ah4 bh4 (fun d4=> ?_) (fun d4=> ?_)
 case refine_2=>
  simp(disch:=omega) only[ae,xh,ae0,ae1,ae2,ae3,ae4,ahsz,be0,be1,be2,be3,be4,bhsz,aB,au,SX,SU,SL,reduceCtorEq,Nat.reduceAdd,Nat.reduceLeDiff,reduceIte]
  simp[d4]
 subst d4
 simp(disch:=omega) only[ae,xh,ae0,ae1,ae2,ae3,ae4,ahsz,be0,be1,be2,be3,be4,bhsz,aB,au,SX,SU,SL,reduceCtorEq,Nat.reduceAdd,Nat.reduceLeDiff,reduceIte]
def sR:AF:=⟨2,6,[.tmp 4],(.seq (.ops [.i (.lbox 2 (.s 0)), .i (.lbox 3 (.s 1)), .i (.mov 4 (qb false))]) (.seq (.seq (.ops [qf 5 2 0,ql 6 2 5 1 false,qf 7 3 0,ql 8 3 7 1 false,qd 9 .neq 6 8]) (.cond (.s 9) (.seq (.ops [.i (.mov 4 (qb false))]) .ret) .skip)) (.seq (.seq (.ops [qf 10 2 1,ql 11 2 10 1 false,qf 12 3 1,ql 13 3 12 1 false,qd 14 .neq 11 13]) (.cond (.s 14) (.seq (.ops [.i (.mov 4 (qb false))]) .ret) .skip)) (.seq (.seq (.ops [qf 15 2 2,ql 16 2 15 1 false,qf 17 3 2,ql 18 3 17 1 false,qd 19 .neq 16 18]) (.cond (.s 19) (.seq (.ops [.i (.mov 4 (qb false))]) .ret) .skip)) (.seq (.seq (.ops [qf 20 2 3,ql 21 2 20 1 false,qf 22 3 3,ql 23 3 22 1 false, .i (.call 25 15 false [(.s 21),(.s 23)]), .i (.not 25 (.s 24))]) (.cond (.s 25) (.seq (.ops [.i (.mov 4 (qb false))]) .ret) .skip)) (.seq (.seq (.ops [qf 26 2 4,ql 27 2 26 1 false,qf 28 3 4,ql 29 3 28 1 false, .i (.call 31 15 false [(.s 27),(.s 29)]), .i (.not 31 (.s 30))]) (.cond (.s 31) (.seq (.ops [.i (.mov 4 (qb false))]) .ret) .skip)) (.seq (.seq (.ops [qf 32 2 5,ql 33 2 32 5 true,qf 34 3 5,ql 35 3 34 5 true, .i (.call 37 107 false [(.s 33),(.s 35)]), .i (.not 37 (.s 36))]) (.cond (.s 37) (.seq (.ops [.i (.mov 4 (qb false))]) .ret) .skip)) (.seq (.ops [.i (.mov 4 (qb true))]) .ret))))))))⟩
theorem Rf:cd 108=some sR:=by kernel_rfl
theorem DS:cV cd 108 cu:=by
 intro h ca cb va vb Sa Sb ha hb
 obtain⟨avs,rfl,aq0⟩:=ha.st
 obtain⟨av0,ar0,aS0,aT0,rfl,rfl,ah0,aq1⟩:=aq0.step
 obtain⟨an0,ae0,rfl,rfl,alo0,ahi0⟩:=ah0.int
 obtain⟨av1,ar1,aS1,aT1,rfl,rfl,ah1,aq2⟩:=aq1.step
 obtain⟨an1,ae1,rfl,rfl,alo1,ahi1⟩:=ah1.int
 obtain⟨av2,ar2,aS2,aT2,rfl,rfl,ah2,aq3⟩:=aq2.step
 obtain⟨an2,ae2,rfl,rfl,alo2,ahi2⟩:=ah2.int
 obtain⟨av3,ar3,aS3,aT3,rfl,rfl,ah3,aq4⟩:=aq3.step
 obtain⟨ac3,ae3⟩:=ah3.one rfl
 rw[ae3]at ah3
 obtain⟨av4,ar4,aS4,aT4,rfl,rfl,ah4,aq5⟩:=aq4.step
 obtain⟨ac4,ae4⟩:=ah4.one rfl
 rw[ae4]at ah4
 obtain⟨av5,ar5,aS5,aT5,rfl,rfl,ah5,aq6⟩:=aq5.step
 obtain⟨_,rfl,rfl⟩:=aq6
 have ahsz:ca.length=10:=ha.size
 obtain⟨bvs,rfl,bq0⟩:=hb.st
 obtain⟨bv0,br0,bS0,bT0,rfl,rfl,bh0,bq1⟩:=bq0.step
 obtain⟨bn0,be0,rfl,rfl,blo0,bhi0⟩:=bh0.int
 obtain⟨bv1,br1,bS1,bT1,rfl,rfl,bh1,bq2⟩:=bq1.step
 obtain⟨bn1,be1,rfl,rfl,blo1,bhi1⟩:=bh1.int
 obtain⟨bv2,br2,bS2,bT2,rfl,rfl,bh2,bq3⟩:=bq2.step
 obtain⟨bn2,be2,rfl,rfl,blo2,bhi2⟩:=bh2.int
 obtain⟨bv3,br3,bS3,bT3,rfl,rfl,bh3,bq4⟩:=bq3.step
 obtain⟨bc3,be3⟩:=bh3.one rfl
 rw[be3]at bh3
 obtain⟨bv4,br4,bS4,bT4,rfl,rfl,bh4,bq5⟩:=bq4.step
 obtain⟨bc4,be4⟩:=bh4.one rfl
 rw[be4]at bh4
 obtain⟨bv5,br5,bS5,bT5,rfl,rfl,bh5,bq6⟩:=bq5.step
 obtain⟨_,rfl,rfl⟩:=bq6
 have bhsz:cb.length=10:=hb.size
 simp only[Ty.size,Ty.aK,Nat.reduceAdd,Nat.zero_add,List.drop_zero]at ae0 ae1 ae2 ae3 ae4 ahsz be0 be1 be2 be3 be4 bhsz ah5 bh5
 refine aD Rf rfl ?_
 simp(disch:=omega) only[ae,sR,ae0,ae1,ae2,ae3,ae4,ahsz,be0,be1,be2,be3,be4,bhsz,aB,au,SX,SU,SL,reduceCtorEq,Nat.reduceAdd,Nat.reduceLeDiff,reduceIte]
 refine ao (fun hn=> ?_) (fun hn=> ?_)
 case refine_1=>
  simp(disch:=omega) only[ae,sR,ae0,ae1,ae2,ae3,ae4,ahsz,be0,be1,be2,be3,be4,bhsz,aB,au,SX,SU,SL,reduceCtorEq,Nat.reduceAdd,Nat.reduceLeDiff,reduceIte]
  simp[hn]
 have d0:an0=bn0:=by omega
 subst d0
 simp(disch:=omega) only[ae,sR,ae0,ae1,ae2,ae3,ae4,ahsz,be0,be1,be2,be3,be4,bhsz,aB,au,SX,SU,SL,reduceCtorEq,Nat.reduceAdd,Nat.reduceLeDiff,reduceIte]
 refine ao (fun hn=> ?_) (fun hn=> ?_)
 case refine_1=>
  simp(disch:=omega) only[ae,sR,ae0,ae1,ae2,ae3,ae4,ahsz,be0,be1,be2,be3,be4,bhsz,aB,au,SX,SU,SL,reduceCtorEq,Nat.reduceAdd,Nat.reduceLeDiff,reduceIte]
  simp[hn]
 have d1:an1=bn1:=by omega
 subst d1
 simp(disch:=omega) only[ae,sR,ae0,ae1,ae2,ae3,ae4,ahsz,be0,be1,be2,be3,be4,bhsz,aB,au,SX,SU,SL,reduceCtorEq,Nat.reduceAdd,Nat.reduceLeDiff,reduceIte]
 refine ao (fun hn=> ?_) (fun hn=> ?_)
 case refine_1=>
  simp(disch:=omega) only[ae,sR,ae0,ae1,ae2,ae3,ae4,ahsz,be0,be1,be2,be3,be4,bhsz,aB,au,SX,SU,SL,reduceCtorEq,Nat.reduceAdd,Nat.reduceLeDiff,reduceIte]
  simp[hn]
 have d2:an2=bn2:=by omega
 subst d2
 simp(disch:=omega) only[ae,sR,ae0,ae1,ae2,ae3,ae4,ahsz,be0,be1,be2,be3,be4,bhsz,aB,au,SX,SU,SL,reduceCtorEq,Nat.reduceAdd,Nat.reduceLeDiff,reduceIte]
 refine cV.go dA ah3 bh3 (fun d3=> ?_) (fun d3=> ?_)
 case refine_2=>
  simp(disch:=omega) only[ae,sR,ae0,ae1,ae2,ae3,ae4,ahsz,be0,be1,be2,be3,be4,bhsz,aB,au,SX,SU,SL,reduceCtorEq,Nat.reduceAdd,Nat.reduceLeDiff,reduceIte]
  simp[d3]
 subst d3
 simp(disch:=omega) only[ae,sR,ae0,ae1,ae2,ae3,ae4,ahsz,be0,be1,be2,be3,be4,bhsz,aB,au,SX,SU,SL,reduceCtorEq,Nat.reduceAdd,Nat.reduceLeDiff,reduceIte]
 refine cV.go dA ah4 bh4 (fun d4=> ?_) (fun d4=> ?_)
 case refine_2=>
  simp(disch:=omega) only[ae,sR,ae0,ae1,ae2,ae3,ae4,ahsz,be0,be1,be2,be3,be4,bhsz,aB,au,SX,SU,SL,reduceCtorEq,Nat.reduceAdd,Nat.reduceLeDiff,reduceIte]
  simp[d4]
 subst d4
 simp(disch:=omega) only[ae,sR,ae0,ae1,ae2,ae3,ae4,ahsz,be0,be1,be2,be3,be4,bhsz,aB,au,SX,SU,SL,reduceCtorEq,Nat.reduceAdd,Nat.reduceLeDiff,reduceIte]
 refine cV.go IY ah5 bh5 (fun d5=> ?_) (fun d5=> ?_)
 case refine_2=>
  simp(disch:=omega) only[ae,sR,ae0,ae1,ae2,ae3,ae4,ahsz,be0,be1,be2,be3,be4,bhsz,aB,au,SX,SU,SL,reduceCtorEq,Nat.reduceAdd,Nat.reduceLeDiff,reduceIte]
  simp[d5]
 subst d5
 simp(disch:=omega) only[ae,sR,ae0,ae1,ae2,ae3,ae4,ahsz,be0,be1,be2,be3,be4,bhsz,aB,au,SX,SU,SL,reduceCtorEq,Nat.reduceAdd,Nat.reduceLeDiff,reduceIte]
def IH:AF:=⟨2,5,[.tmp 4],(.seq (.ops [.i (.lbox 2 (.s 0)), .i (.lbox 3 (.s 1)), .i (.mov 4 (qb false))]) (.seq (.seq (.ops [qf 5 2 0,ql 6 2 5 10 true,qf 7 3 0,ql 8 3 7 10 true, .i (.call 10 108 false [(.s 6),(.s 8)]), .i (.not 10 (.s 9))]) (.cond (.s 10) (.seq (.ops [.i (.mov 4 (qb false))]) .ret) .skip)) (.seq (.seq (.ops [qf 11 2 10,ql 12 2 11 1 false,qf 13 3 10,ql 14 3 13 1 false, .i (.call 16 32 false [(.s 12),(.s 14)]), .i (.not 16 (.s 15))]) (.cond (.s 16) (.seq (.ops [.i (.mov 4 (qb false))]) .ret) .skip)) (.seq (.ops [.i (.mov 4 (qb true))]) .ret))))⟩
theorem Rt:cd 109=some IH:=by kernel_rfl
theorem Kr:cV cd 109 fw:=by
 intro h ca cb va vb Sa Sb ha hb
 obtain⟨avs,rfl,aq0⟩:=ha.st
 obtain⟨av0,ar0,aS0,aT0,rfl,rfl,ah0,aq1⟩:=aq0.step
 obtain⟨av1,ar1,aS1,aT1,rfl,rfl,ah1,aq2⟩:=aq1.step
 obtain⟨ac1,ae1⟩:=ah1.one rfl
 rw[ae1]at ah1
 obtain⟨_,rfl,rfl⟩:=aq2
 have ahsz:ca.length=11:=ha.size
 obtain⟨bvs,rfl,bq0⟩:=hb.st
 obtain⟨bv0,br0,bS0,bT0,rfl,rfl,bh0,bq1⟩:=bq0.step
 obtain⟨bv1,br1,bS1,bT1,rfl,rfl,bh1,bq2⟩:=bq1.step
 obtain⟨bc1,be1⟩:=bh1.one rfl
 rw[be1]at bh1
 obtain⟨_,rfl,rfl⟩:=bq2
 have bhsz:cb.length=11:=hb.size
 simp only[Ty.size,Ty.aK,Nat.reduceAdd,Nat.zero_add,List.drop_zero]at ae1 ahsz be1 bhsz ah0 bh0
 refine aD Rt rfl ?_
 simp(disch:=omega) only[ae,IH,ae1,ahsz,be1,bhsz,aB,au,SX,SU,SL,reduceCtorEq,Nat.reduceAdd,Nat.reduceLeDiff,reduceIte]
 refine cV.go DS ah0 bh0 (fun d0=> ?_) (fun d0=> ?_)
 case refine_2=>
  simp(disch:=omega) only[ae,IH,ae1,ahsz,be1,bhsz,aB,au,SX,SU,SL,reduceCtorEq,Nat.reduceAdd,Nat.reduceLeDiff,reduceIte]
  simp[d0]
 subst d0
 simp(disch:=omega) only[ae,IH,ae1,ahsz,be1,bhsz,aB,au,SX,SU,SL,reduceCtorEq,Nat.reduceAdd,Nat.reduceLeDiff,reduceIte]
 refine cV.go vF ah1 bh1 (fun d1=> ?_) (fun d1=> ?_)
 case refine_2=>
  simp(disch:=omega) only[ae,IH,ae1,ahsz,be1,bhsz,aB,au,SX,SU,SL,reduceCtorEq,Nat.reduceAdd,Nat.reduceLeDiff,reduceIte]
  simp[d1]
 subst d1
 simp(disch:=omega) only[ae,IH,ae1,ahsz,be1,bhsz,aB,au,SX,SU,SL,reduceCtorEq,Nat.reduceAdd,Nat.reduceLeDiff,reduceIte]
def E3:AF:=⟨2,5,[.tmp 4],(.seq (.ops [.i (.lbox 2 (.s 0)), .i (.lbox 3 (.s 1)), .i (.mov 4 (qb false))]) (.seq (.seq (.ops [qf 5 2 0,ql 6 2 5 1 false,qf 7 3 0,ql 8 3 7 1 false,qd 9 .neq 6 8]) (.cond (.s 9) (.seq (.ops [.i (.mov 4 (qb false))]) .ret) .skip)) (.seq (.seq (.ops [qf 10 2 1,ql 11 2 10 1 false,qf 12 3 1,ql 13 3 12 1 false,qd 14 .neq 11 13]) (.cond (.s 14) (.seq (.ops [.i (.mov 4 (qb false))]) .ret) .skip)) (.seq (.seq (.ops [qf 15 2 2,ql 16 2 15 1 false,qf 17 3 2,ql 18 3 17 1 false, .i (.call 20 15 false [(.s 16),(.s 18)]), .i (.not 20 (.s 19))]) (.cond (.s 20) (.seq (.ops [.i (.mov 4 (qb false))]) .ret) .skip)) (.seq (.ops [.i (.mov 4 (qb true))]) .ret)))))⟩
theorem QX:cd 249=some E3:=by kernel_rfl
theorem J8:cV cd 249 ec:=by
 intro h ca cb va vb Sa Sb ha hb
 obtain⟨avs,rfl,aq0⟩:=ha.st
 obtain⟨av0,ar0,aS0,aT0,rfl,rfl,ah0,aq1⟩:=aq0.step
 obtain⟨an0,ae0,rfl,rfl,alo0,ahi0⟩:=ah0.int
 obtain⟨av1,ar1,aS1,aT1,rfl,rfl,ah1,aq2⟩:=aq1.step
 obtain⟨an1,ae1,rfl,rfl,alo1,ahi1⟩:=ah1.int
 obtain⟨av2,ar2,aS2,aT2,rfl,rfl,ah2,aq3⟩:=aq2.step
 obtain⟨ac2,ae2⟩:=ah2.one rfl
 rw[ae2]at ah2
 obtain⟨_,rfl,rfl⟩:=aq3
 have ahsz:ca.length=3:=ha.size
 obtain⟨bvs,rfl,bq0⟩:=hb.st
 obtain⟨bv0,br0,bS0,bT0,rfl,rfl,bh0,bq1⟩:=bq0.step
 obtain⟨bn0,be0,rfl,rfl,blo0,bhi0⟩:=bh0.int
 obtain⟨bv1,br1,bS1,bT1,rfl,rfl,bh1,bq2⟩:=bq1.step
 obtain⟨bn1,be1,rfl,rfl,blo1,bhi1⟩:=bh1.int
 obtain⟨bv2,br2,bS2,bT2,rfl,rfl,bh2,bq3⟩:=bq2.step
 obtain⟨bc2,be2⟩:=bh2.one rfl
 rw[be2]at bh2
 obtain⟨_,rfl,rfl⟩:=bq3
 have bhsz:cb.length=3:=hb.size
 simp only[Ty.size,Ty.aK,Nat.reduceAdd,Nat.zero_add,List.drop_zero]at ae0 ae1 ae2 ahsz be0 be1 be2 bhsz
 refine aD QX rfl ?_
 simp(disch:=omega) only[ae,E3,ae0,ae1,ae2,ahsz,be0,be1,be2,bhsz,aB,au,SX,SU,SL,reduceCtorEq,Nat.reduceAdd,Nat.reduceLeDiff,reduceIte]
 refine ao (fun hn=> ?_) (fun hn=> ?_)
 case refine_1=>
  simp(disch:=omega) only[ae,E3,ae0,ae1,ae2,ahsz,be0,be1,be2,bhsz,aB,au,SX,SU,SL,reduceCtorEq,Nat.reduceAdd,Nat.reduceLeDiff,reduceIte]
  simp[hn]
 have d0:an0=bn0:=by omega
 subst d0
 simp(disch:=omega) only[ae,E3,ae0,ae1,ae2,ahsz,be0,be1,be2,bhsz,aB,au,SX,SU,SL,reduceCtorEq,Nat.reduceAdd,Nat.reduceLeDiff,reduceIte]
 refine ao (fun hn=> ?_) (fun hn=> ?_)
 case refine_1=>
  simp(disch:=omega) only[ae,E3,ae0,ae1,ae2,ahsz,be0,be1,be2,bhsz,aB,au,SX,SU,SL,reduceCtorEq,Nat.reduceAdd,Nat.reduceLeDiff,reduceIte]
  simp[hn]
 have d1:an1=bn1:=by omega
 subst d1
 simp(disch:=omega) only[ae,E3,ae0,ae1,ae2,ahsz,be0,be1,be2,bhsz,aB,au,SX,SU,SL,reduceCtorEq,Nat.reduceAdd,Nat.reduceLeDiff,reduceIte]
 refine cV.go dA ah2 bh2 (fun d2=> ?_) (fun d2=> ?_)
 case refine_2=>
  simp(disch:=omega) only[ae,E3,ae0,ae1,ae2,ahsz,be0,be1,be2,bhsz,aB,au,SX,SU,SL,reduceCtorEq,Nat.reduceAdd,Nat.reduceLeDiff,reduceIte]
  simp[d2]
 subst d2
 simp(disch:=omega) only[ae,E3,ae0,ae1,ae2,ahsz,be0,be1,be2,bhsz,aB,au,SX,SU,SL,reduceCtorEq,Nat.reduceAdd,Nat.reduceLeDiff,reduceIte]
def Ri:AF:=⟨2,5,[.tmp 4],(.seq (.ops [.i (.mov 4 (qb false))]) (.seq (.seq (.ops [qm 6 0,qn 7 6,qm 8 1,qn 9 8,qd 10 .neq 7 9]) (.cond (.s 10) (.seq (.ops [.i (.mov 4 (qb false))]) .ret) .skip)) (.seq (.seq (.ops [.i (.mov 5 (qi 0))]) (.block 0 (.loop [26,25,24,23,22,21,20,19,18,17,16,15,14,13,12,11] (.seq (.seq (.ops [qm 11 5,qm 12 0,qn 13 12,qd 14 .lss 11 13]) (.cond (.s 14) .skip (.exit 0))) (.seq (.block 1 (.seq (.ops [qm 17 0,qm 18 5, .i (.iad 19 (.s 17) (.s 18) 3), .i (.ldh 20 (.s 19) 3 true),qm 21 1,qm 22 5, .i (.iad 23 (.s 21) (.s 22) 3), .i (.ldh 24 (.s 23) 3 true), .i (.call 26 249 false [(.s 20),(.s 24)]), .i (.not 26 (.s 25))]) (.cond (.s 26) (.seq (.ops [.i (.mov 4 (qb false))]) .ret) .skip))) (.ops [qm 15 5, .i (.bin 16 .add (.s 15) (qi 1)),qm 5 16])))))) (.seq (.ops [.i (.mov 4 (qb true))]) .ret))))⟩
theorem Q7:cd 166=some Ri:=by kernel_rfl
theorem It:cV cd 166 (.sl ec):=Hr Q7 J8
def ID:AF:=⟨2,5,[.tmp 4],(.seq (.ops [.i (.lbox 2 (.s 0)), .i (.lbox 3 (.s 1)), .i (.mov 4 (qb false))]) (.seq (.seq (.ops [qf 5 2 0,ql 6 2 5 1 false,qf 7 3 0,ql 8 3 7 1 false,qd 9 .neq 6 8]) (.cond (.s 9) (.seq (.ops [.i (.mov 4 (qb false))]) .ret) .skip)) (.seq (.seq (.ops [qf 10 2 1,ql 11 2 10 1 false,qf 12 3 1,ql 13 3 12 1 false, .i (.call 15 166 false [(.s 11),(.s 13)]), .i (.not 15 (.s 14))]) (.cond (.s 15) (.seq (.ops [.i (.mov 4 (qb false))]) .ret) .skip)) (.seq (.ops [.i (.mov 4 (qb true))]) .ret))))⟩
theorem QO:cd 110=some ID:=by kernel_rfl
theorem Qk:cV cd 110 Jq:=by
 intro h ca cb va vb Sa Sb ha hb
 obtain⟨avs,rfl,aq0⟩:=ha.st
 obtain⟨av0,ar0,aS0,aT0,rfl,rfl,ah0,aq1⟩:=aq0.step
 obtain⟨an0,ae0,rfl,rfl,alo0,ahi0⟩:=ah0.int
 obtain⟨av1,ar1,aS1,aT1,rfl,rfl,ah1,aq2⟩:=aq1.step
 obtain⟨ac1,ae1⟩:=ah1.one rfl
 rw[ae1]at ah1
 obtain⟨_,rfl,rfl⟩:=aq2
 have ahsz:ca.length=2:=ha.size
 obtain⟨bvs,rfl,bq0⟩:=hb.st
 obtain⟨bv0,br0,bS0,bT0,rfl,rfl,bh0,bq1⟩:=bq0.step
 obtain⟨bn0,be0,rfl,rfl,blo0,bhi0⟩:=bh0.int
 obtain⟨bv1,br1,bS1,bT1,rfl,rfl,bh1,bq2⟩:=bq1.step
 obtain⟨bc1,be1⟩:=bh1.one rfl
 rw[be1]at bh1
 obtain⟨_,rfl,rfl⟩:=bq2
 have bhsz:cb.length=2:=hb.size
 simp only[Ty.size,Ty.aK,Nat.reduceAdd,Nat.zero_add,List.drop_zero]at ae0 ae1 ahsz be0 be1 bhsz
 refine aD QO rfl ?_
 simp(disch:=omega) only[ae,ID,ae0,ae1,ahsz,be0,be1,bhsz,aB,au,SX,SU,SL,reduceCtorEq,Nat.reduceAdd,Nat.reduceLeDiff,reduceIte]
 refine ao (fun hn=> ?_) (fun hn=> ?_)
 case refine_1=>
  simp(disch:=omega) only[ae,ID,ae0,ae1,ahsz,be0,be1,bhsz,aB,au,SX,SU,SL,reduceCtorEq,Nat.reduceAdd,Nat.reduceLeDiff,reduceIte]
  simp[hn]
 have d0:an0=bn0:=by omega
 subst d0
 simp(disch:=omega) only[ae,ID,ae0,ae1,ahsz,be0,be1,bhsz,aB,au,SX,SU,SL,reduceCtorEq,Nat.reduceAdd,Nat.reduceLeDiff,reduceIte]
 refine cV.go It ah1 bh1 (fun d1=> ?_) (fun d1=> ?_)
 case refine_2=>
  simp(disch:=omega) only[ae,ID,ae0,ae1,ahsz,be0,be1,bhsz,aB,au,SX,SU,SL,reduceCtorEq,Nat.reduceAdd,Nat.reduceLeDiff,reduceIte]
  simp[d1]
 subst d1
 simp(disch:=omega) only[ae,ID,ae0,ae1,ahsz,be0,be1,bhsz,aB,au,SX,SU,SL,reduceCtorEq,Nat.reduceAdd,Nat.reduceLeDiff,reduceIte]
def Rh:AF:=⟨2,5,[.tmp 4],(.seq (.ops [.i (.mov 4 (qb false))]) (.seq (.seq (.ops [qm 6 0,qn 7 6,qm 8 1,qn 9 8,qd 10 .neq 7 9]) (.cond (.s 10) (.seq (.ops [.i (.mov 4 (qb false))]) .ret) .skip)) (.seq (.seq (.ops [.i (.mov 5 (qi 0))]) (.block 0 (.loop [26,25,24,23,22,21,20,19,18,17,16,15,14,13,12,11] (.seq (.seq (.ops [qm 11 5,qm 12 0,qn 13 12,qd 14 .lss 11 13]) (.cond (.s 14) .skip (.exit 0))) (.seq (.block 1 (.seq (.ops [qm 17 0,qm 18 5, .i (.iad 19 (.s 17) (.s 18) 10), .i (.ldh 20 (.s 19) 10 true),qm 21 1,qm 22 5, .i (.iad 23 (.s 21) (.s 22) 10), .i (.ldh 24 (.s 23) 10 true), .i (.call 26 108 false [(.s 20),(.s 24)]), .i (.not 26 (.s 25))]) (.cond (.s 26) (.seq (.ops [.i (.mov 4 (qb false))]) .ret) .skip))) (.ops [qm 15 5, .i (.bin 16 .add (.s 15) (qi 1)),qm 5 16])))))) (.seq (.ops [.i (.mov 4 (qb true))]) .ret))))⟩
theorem Rn:cd 167=some Rh:=by kernel_rfl
theorem Kt:cV cd 167 (.sl cu):=Hr Rn DS
def Ir:AF:=⟨2,5,[.tmp 4],(.seq (.ops [.i (.lbox 2 (.s 0)), .i (.lbox 3 (.s 1)), .i (.mov 4 (qb false))]) (.seq (.seq (.ops [qf 5 2 0,ql 6 2 5 1 false,qf 7 3 0,ql 8 3 7 1 false, .i (.call 10 167 false [(.s 6),(.s 8)]), .i (.not 10 (.s 9))]) (.cond (.s 10) (.seq (.ops [.i (.mov 4 (qb false))]) .ret) .skip)) (.seq (.seq (.ops [qf 11 2 1,ql 12 2 11 5 true,qf 13 3 1,ql 14 3 13 5 true, .i (.call 16 107 false [(.s 12),(.s 14)]), .i (.not 16 (.s 15))]) (.cond (.s 16) (.seq (.ops [.i (.mov 4 (qb false))]) .ret) .skip)) (.seq (.ops [.i (.mov 4 (qb true))]) .ret))))⟩
theorem Rg:cd 111=some Ir:=by kernel_rfl
theorem Jx:cV cd 111 dQ:=by
 intro h ca cb va vb Sa Sb ha hb
 obtain⟨avs,rfl,aq0⟩:=ha.st
 obtain⟨av0,ar0,aS0,aT0,rfl,rfl,ah0,aq1⟩:=aq0.step
 obtain⟨ac0,ae0⟩:=ah0.one rfl
 rw[ae0]at ah0
 obtain⟨av1,ar1,aS1,aT1,rfl,rfl,ah1,aq2⟩:=aq1.step
 obtain⟨_,rfl,rfl⟩:=aq2
 have ahsz:ca.length=6:=ha.size
 obtain⟨bvs,rfl,bq0⟩:=hb.st
 obtain⟨bv0,br0,bS0,bT0,rfl,rfl,bh0,bq1⟩:=bq0.step
 obtain⟨bc0,be0⟩:=bh0.one rfl
 rw[be0]at bh0
 obtain⟨bv1,br1,bS1,bT1,rfl,rfl,bh1,bq2⟩:=bq1.step
 obtain⟨_,rfl,rfl⟩:=bq2
 have bhsz:cb.length=6:=hb.size
 simp only[Ty.size,Ty.aK,Nat.reduceAdd,Nat.zero_add,List.drop_zero]at ae0 ahsz be0 bhsz ah1 bh1
 refine aD Rg rfl ?_
 simp(disch:=omega) only[ae,Ir,ae0,ahsz,be0,bhsz,aB,au,SX,SU,SL,reduceCtorEq,Nat.reduceAdd,Nat.reduceLeDiff,reduceIte]
 refine cV.go Kt ah0 bh0 (fun d0=> ?_) (fun d0=> ?_)
 case refine_2=>
  simp(disch:=omega) only[ae,Ir,ae0,ahsz,be0,bhsz,aB,au,SX,SU,SL,reduceCtorEq,Nat.reduceAdd,Nat.reduceLeDiff,reduceIte]
  simp[d0]
 subst d0
 simp(disch:=omega) only[ae,Ir,ae0,ahsz,be0,bhsz,aB,au,SX,SU,SL,reduceCtorEq,Nat.reduceAdd,Nat.reduceLeDiff,reduceIte]
 refine cV.go IY ah1 bh1 (fun d1=> ?_) (fun d1=> ?_)
 case refine_2=>
  simp(disch:=omega) only[ae,Ir,ae0,ahsz,be0,bhsz,aB,au,SX,SU,SL,reduceCtorEq,Nat.reduceAdd,Nat.reduceLeDiff,reduceIte]
  simp[d1]
 subst d1
 simp(disch:=omega) only[ae,Ir,ae0,ahsz,be0,bhsz,aB,au,SX,SU,SL,reduceCtorEq,Nat.reduceAdd,Nat.reduceLeDiff,reduceIte]
end Go.Eng.U
namespace Go.Eng.U
def xw:AF:=⟨2,6,[.tmp 4],(.seq (.ops [.i (.lbox 2 (.s 0)), .i (.lbox 3 (.s 1)), .i (.mov 4 (qb false))]) (.seq (.seq (.ops [qf 5 2 0,ql 6 2 5 1 false,qf 7 3 0,ql 8 3 7 1 false,qd 9 .neq 6 8]) (.cond (.s 9) (.seq (.ops [.i (.mov 4 (qb false))]) .ret) .skip)) (.seq (.seq (.ops [qf 10 2 1,ql 11 2 10 1 false,qf 12 3 1,ql 13 3 12 1 false,qd 14 .neq 11 13]) (.cond (.s 14) (.seq (.ops [.i (.mov 4 (qb false))]) .ret) .skip)) (.seq (.seq (.ops [qf 15 2 2,ql 16 2 15 1 false,qf 17 3 2,ql 18 3 17 1 false,qd 19 .neq 16 18]) (.cond (.s 19) (.seq (.ops [.i (.mov 4 (qb false))]) .ret) .skip)) (.seq (.seq (.ops [qf 20 2 3,ql 21 2 20 1 false,qf 22 3 3,ql 23 3 22 1 false, .i (.call 25 15 false [(.s 21),(.s 23)]), .i (.not 25 (.s 24))]) (.cond (.s 25) (.seq (.ops [.i (.mov 4 (qb false))]) .ret) .skip)) (.seq (.seq (.ops [qf 26 2 4,ql 27 2 26 1 false,qf 28 3 4,ql 29 3 28 1 false, .i (.call 31 32 false [(.s 27),(.s 29)]), .i (.not 31 (.s 30))]) (.cond (.s 31) (.seq (.ops [.i (.mov 4 (qb false))]) .ret) .skip)) (.seq (.ops [.i (.mov 4 (qb true))]) .ret)))))))⟩
theorem Rm:cd 112=some xw:=by kernel_rfl
theorem LW:cV cd 112 p0:=by
 intro h ca cb va vb Sa Sb ha hb
 obtain⟨avs,rfl,aq0⟩:=ha.st
 obtain⟨av0,ar0,aS0,aT0,rfl,rfl,ah0,aq1⟩:=aq0.step
 obtain⟨an0,ae0,rfl,rfl,alo0,ahi0⟩:=ah0.int
 obtain⟨av1,ar1,aS1,aT1,rfl,rfl,ah1,aq2⟩:=aq1.step
 obtain⟨an1,ae1,rfl,rfl,alo1,ahi1⟩:=ah1.int
 obtain⟨av2,ar2,aS2,aT2,rfl,rfl,ah2,aq3⟩:=aq2.step
 obtain⟨an2,ae2,rfl,rfl,alo2,ahi2⟩:=ah2.int
 obtain⟨av3,ar3,aS3,aT3,rfl,rfl,ah3,aq4⟩:=aq3.step
 obtain⟨ac3,ae3⟩:=ah3.one rfl
 rw[ae3]at ah3
 obtain⟨av4,ar4,aS4,aT4,rfl,rfl,ah4,aq5⟩:=aq4.step
 obtain⟨ac4,ae4⟩:=ah4.one rfl
 rw[ae4]at ah4
 obtain⟨_,rfl,rfl⟩:=aq5
 have ahsz:ca.length=5:=ha.size
 obtain⟨bvs,rfl,bq0⟩:=hb.st
 obtain⟨bv0,br0,bS0,bT0,rfl,rfl,bh0,bq1⟩:=bq0.step
 obtain⟨bn0,be0,rfl,rfl,blo0,bhi0⟩:=bh0.int
 obtain⟨bv1,br1,bS1,bT1,rfl,rfl,bh1,bq2⟩:=bq1.step
 obtain⟨bn1,be1,rfl,rfl,blo1,bhi1⟩:=bh1.int
 obtain⟨bv2,br2,bS2,bT2,rfl,rfl,bh2,bq3⟩:=bq2.step
 obtain⟨bn2,be2,rfl,rfl,blo2,bhi2⟩:=bh2.int
 obtain⟨bv3,br3,bS3,bT3,rfl,rfl,bh3,bq4⟩:=bq3.step
 obtain⟨bc3,be3⟩:=bh3.one rfl
 rw[be3]at bh3
 obtain⟨bv4,br4,bS4,bT4,rfl,rfl,bh4,bq5⟩:=bq4.step
 obtain⟨bc4,be4⟩:=bh4.one rfl
 rw[be4]at bh4
 obtain⟨_,rfl,rfl⟩:=bq5
 have bhsz:cb.length=5:=hb.size
 simp only[Ty.size,Ty.aK,Nat.reduceAdd,Nat.zero_add,List.drop_zero]at ae0 ae1 ae2 ae3 ae4 ahsz be0 be1 be2 be3 be4 bhsz
 refine aD Rm rfl ?_
 simp(disch:=omega) only[ae,xw,ae0,ae1,ae2,ae3,ae4,ahsz,be0,be1,be2,be3,be4,bhsz,aB,au,SX,SU,SL,reduceCtorEq,Nat.reduceAdd,Nat.reduceLeDiff,reduceIte]
 refine ao (fun hn=> ?_) (fun hn=> ?_)
 case refine_1=>
  simp(disch:=omega) only[ae,xw,ae0,ae1,ae2,ae3,ae4,ahsz,be0,be1,be2,be3,be4,bhsz,aB,au,SX,SU,SL,reduceCtorEq,Nat.reduceAdd,Nat.reduceLeDiff,reduceIte]
  simp[hn]
 have d0:an0=bn0:=by omega
 subst d0
 simp(disch:=omega) only[ae,xw,ae0,ae1,ae2,ae3,ae4,ahsz,be0,be1,be2,be3,be4,bhsz,aB,au,SX,SU,SL,reduceCtorEq,Nat.reduceAdd,Nat.reduceLeDiff,reduceIte]
 refine ao (fun hn=> ?_) (fun hn=> ?_)
 case refine_1=>
  simp(disch:=omega) only[ae,xw,ae0,ae1,ae2,ae3,ae4,ahsz,be0,be1,be2,be3,be4,bhsz,aB,au,SX,SU,SL,reduceCtorEq,Nat.reduceAdd,Nat.reduceLeDiff,reduceIte]
  simp[hn]
 have d1:an1=bn1:=by omega
 subst d1
 simp(disch:=omega) only[ae,xw,ae0,ae1,ae2,ae3,ae4,ahsz,be0,be1,be2,be3,be4,bhsz,aB,au,SX,SU,SL,reduceCtorEq,Nat.reduceAdd,Nat.reduceLeDiff,reduceIte]
 refine ao (fun hn=> ?_) (fun hn=> ?_)
 case refine_1=>
  simp(disch:=omega) only[ae,xw,ae0,ae1,ae2,ae3,ae4,ahsz,be0,be1,be2,be3,be4,bhsz,aB,au,SX,SU,SL,reduceCtorEq,Nat.reduceAdd,Nat.reduceLeDiff,reduceIte]
  simp[hn]
 have d2:an2=bn2:=by omega
 subst d2
 simp(disch:=omega) only[ae,xw,ae0,ae1,ae2,ae3,ae4,ahsz,be0,be1,be2,be3,be4,bhsz,aB,au,SX,SU,SL,reduceCtorEq,Nat.reduceAdd,Nat.reduceLeDiff,reduceIte]
 refine cV.go dA ah3 bh3 (fun d3=> ?_) (fun d3=> ?_)
 case refine_2=>
  simp(disch:=omega) only[ae,xw,ae0,ae1,ae2,ae3,ae4,ahsz,be0,be1,be2,be3,be4,bhsz,aB,au,SX,SU,SL,reduceCtorEq,Nat.reduceAdd,Nat.reduceLeDiff,reduceIte]
  simp[d3]
 subst d3
 simp(disch:=omega) only[ae,xw,ae0,ae1,ae2,ae3,ae4,ahsz,be0,be1,be2,be3,be4,bhsz,aB,au,SX,SU,SL,reduceCtorEq,Nat.reduceAdd,Nat.reduceLeDiff,reduceIte]
 refine cV.go vF ah4 bh4 (fun d4=> ?_) (fun d4=> ?_)
 case refine_2=>
  simp(disch:=omega) only[ae,xw,ae0,ae1,ae2,ae3,ae4,ahsz,be0,be1,be2,be3,be4,bhsz,aB,au,SX,SU,SL,reduceCtorEq,Nat.reduceAdd,Nat.reduceLeDiff,reduceIte]
  simp[d4]
 subst d4
 simp(disch:=omega) only[ae,xw,ae0,ae1,ae2,ae3,ae4,ahsz,be0,be1,be2,be3,be4,bhsz,aB,au,SX,SU,SL,reduceCtorEq,Nat.reduceAdd,Nat.reduceLeDiff,reduceIte]
def DU:AF:=⟨2,6,[.tmp 4],(.seq (.ops [.i (.lbox 2 (.s 0)), .i (.lbox 3 (.s 1)), .i (.mov 4 (qb false))]) (.seq (.seq (.ops [qf 5 2 0,ql 6 2 5 1 false,qf 7 3 0,ql 8 3 7 1 false,qd 9 .neq 6 8]) (.cond (.s 9) (.seq (.ops [.i (.mov 4 (qb false))]) .ret) .skip)) (.seq (.seq (.ops [qf 10 2 1,ql 11 2 10 5 true,qf 12 3 1,ql 13 3 12 5 true, .i (.call 15 106 false [(.s 11),(.s 13)]), .i (.not 15 (.s 14))]) (.cond (.s 15) (.seq (.ops [.i (.mov 4 (qb false))]) .ret) .skip)) (.seq (.seq (.ops [qf 16 2 6,ql 17 2 16 5 true,qf 18 3 6,ql 19 3 18 5 true, .i (.call 21 107 false [(.s 17),(.s 19)]), .i (.not 21 (.s 20))]) (.cond (.s 21) (.seq (.ops [.i (.mov 4 (qb false))]) .ret) .skip)) (.seq (.seq (.ops [qf 22 2 11,ql 23 2 22 10 true,qf 24 3 11,ql 25 3 24 10 true, .i (.call 27 108 false [(.s 23),(.s 25)]), .i (.not 27 (.s 26))]) (.cond (.s 27) (.seq (.ops [.i (.mov 4 (qb false))]) .ret) .skip)) (.seq (.seq (.ops [qf 28 2 21,ql 29 2 28 11 true,qf 30 3 21,ql 31 3 30 11 true, .i (.call 33 109 false [(.s 29),(.s 31)]), .i (.not 33 (.s 32))]) (.cond (.s 33) (.seq (.ops [.i (.mov 4 (qb false))]) .ret) .skip)) (.seq (.seq (.ops [qf 34 2 32,ql 35 2 34 2 true,qf 36 3 32,ql 37 3 36 2 true, .i (.call 39 110 false [(.s 35),(.s 37)]), .i (.not 39 (.s 38))]) (.cond (.s 39) (.seq (.ops [.i (.mov 4 (qb false))]) .ret) .skip)) (.seq (.seq (.ops [qf 40 2 34,ql 41 2 40 6 true,qf 42 3 34,ql 43 3 42 6 true, .i (.call 45 111 false [(.s 41),(.s 43)]), .i (.not 45 (.s 44))]) (.cond (.s 45) (.seq (.ops [.i (.mov 4 (qb false))]) .ret) .skip)) (.seq (.seq (.ops [qf 46 2 40,ql 47 2 46 5 true,qf 48 3 40,ql 49 3 48 5 true, .i (.call 51 112 false [(.s 47),(.s 49)]), .i (.not 51 (.s 50))]) (.cond (.s 51) (.seq (.ops [.i (.mov 4 (qb false))]) .ret) .skip)) (.seq (.ops [.i (.mov 4 (qb true))]) .ret))))))))))⟩
theorem RU:cd 61=some DU:=by kernel_rfl
theorem Od:cV cd 61 TMsg:=by
 intro h ca cb va vb Sa Sb ha hb
 obtain⟨avs,rfl,aq0⟩:=ha.st
 obtain⟨av0,ar0,aS0,aT0,rfl,rfl,ah0,aq1⟩:=aq0.step
 obtain⟨an0,ae0,rfl,rfl,alo0,ahi0⟩:=ah0.int
 obtain⟨av1,ar1,aS1,aT1,rfl,rfl,ah1,aq2⟩:=aq1.step
 obtain⟨av2,ar2,aS2,aT2,rfl,rfl,ah2,aq3⟩:=aq2.step
 obtain⟨av3,ar3,aS3,aT3,rfl,rfl,ah3,aq4⟩:=aq3.step
 obtain⟨av4,ar4,aS4,aT4,rfl,rfl,ah4,aq5⟩:=aq4.step
 obtain⟨av5,ar5,aS5,aT5,rfl,rfl,ah5,aq6⟩:=aq5.step
 obtain⟨av6,ar6,aS6,aT6,rfl,rfl,ah6,aq7⟩:=aq6.step
 obtain⟨av7,ar7,aS7,aT7,rfl,rfl,ah7,aq8⟩:=aq7.step
 obtain⟨_,rfl,rfl⟩:=aq8
 have ahsz:ca.length=45:=ha.size
 obtain⟨bvs,rfl,bq0⟩:=hb.st
 obtain⟨bv0,br0,bS0,bT0,rfl,rfl,bh0,bq1⟩:=bq0.step
 obtain⟨bn0,be0,rfl,rfl,blo0,bhi0⟩:=bh0.int
 obtain⟨bv1,br1,bS1,bT1,rfl,rfl,bh1,bq2⟩:=bq1.step
 obtain⟨bv2,br2,bS2,bT2,rfl,rfl,bh2,bq3⟩:=bq2.step
 obtain⟨bv3,br3,bS3,bT3,rfl,rfl,bh3,bq4⟩:=bq3.step
 obtain⟨bv4,br4,bS4,bT4,rfl,rfl,bh4,bq5⟩:=bq4.step
 obtain⟨bv5,br5,bS5,bT5,rfl,rfl,bh5,bq6⟩:=bq5.step
 obtain⟨bv6,br6,bS6,bT6,rfl,rfl,bh6,bq7⟩:=bq6.step
 obtain⟨bv7,br7,bS7,bT7,rfl,rfl,bh7,bq8⟩:=bq7.step
 obtain⟨_,rfl,rfl⟩:=bq8
 have bhsz:cb.length=45:=hb.size
 simp only[Ty.size,Ty.aK,Nat.reduceAdd,Nat.zero_add,List.drop_zero]at ae0 ahsz be0 bhsz ah1 ah2 ah3 ah4 ah5 ah6 ah7 bh1 bh2 bh3 bh4 bh5 bh6 bh7
 refine aD RU rfl ?_
 simp(disch:=omega) only[ae,DU,ae0,ahsz,be0,bhsz,aB,au,SX,SU,SL,reduceCtorEq,Nat.reduceAdd,Nat.reduceLeDiff,reduceIte]
 refine ao (fun hn=> ?_) (fun hn=> ?_)
 case refine_1=>
  simp(disch:=omega) only[ae,DU,ae0,ahsz,be0,bhsz,aB,au,SX,SU,SL,reduceCtorEq,Nat.reduceAdd,Nat.reduceLeDiff,reduceIte]
  simp[hn]
 have d0:an0=bn0:=by omega
 subst d0
 simp(disch:=omega) only[ae,DU,ae0,ahsz,be0,bhsz,aB,au,SX,SU,SL,reduceCtorEq,Nat.reduceAdd,Nat.reduceLeDiff,reduceIte]
 refine cV.go LO ah1 bh1 (fun d1=> ?_) (fun d1=> ?_)
 case refine_2=>
  simp(disch:=omega) only[ae,DU,ae0,ahsz,be0,bhsz,aB,au,SX,SU,SL,reduceCtorEq,Nat.reduceAdd,Nat.reduceLeDiff,reduceIte]
  simp[d1]
 subst d1
 simp(disch:=omega) only[ae,DU,ae0,ahsz,be0,bhsz,aB,au,SX,SU,SL,reduceCtorEq,Nat.reduceAdd,Nat.reduceLeDiff,reduceIte]
 refine cV.go IY ah2 bh2 (fun d2=> ?_) (fun d2=> ?_)
 case refine_2=>
  simp(disch:=omega) only[ae,DU,ae0,ahsz,be0,bhsz,aB,au,SX,SU,SL,reduceCtorEq,Nat.reduceAdd,Nat.reduceLeDiff,reduceIte]
  simp[d2]
 subst d2
 simp(disch:=omega) only[ae,DU,ae0,ahsz,be0,bhsz,aB,au,SX,SU,SL,reduceCtorEq,Nat.reduceAdd,Nat.reduceLeDiff,reduceIte]
 refine cV.go DS ah3 bh3 (fun d3=> ?_) (fun d3=> ?_)
 case refine_2=>
  simp(disch:=omega) only[ae,DU,ae0,ahsz,be0,bhsz,aB,au,SX,SU,SL,reduceCtorEq,Nat.reduceAdd,Nat.reduceLeDiff,reduceIte]
  simp[d3]
 subst d3
 simp(disch:=omega) only[ae,DU,ae0,ahsz,be0,bhsz,aB,au,SX,SU,SL,reduceCtorEq,Nat.reduceAdd,Nat.reduceLeDiff,reduceIte]
 refine cV.go Kr ah4 bh4 (fun d4=> ?_) (fun d4=> ?_)
 case refine_2=>
  simp(disch:=omega) only[ae,DU,ae0,ahsz,be0,bhsz,aB,au,SX,SU,SL,reduceCtorEq,Nat.reduceAdd,Nat.reduceLeDiff,reduceIte]
  simp[d4]
 subst d4
 simp(disch:=omega) only[ae,DU,ae0,ahsz,be0,bhsz,aB,au,SX,SU,SL,reduceCtorEq,Nat.reduceAdd,Nat.reduceLeDiff,reduceIte]
 refine cV.go Qk ah5 bh5 (fun d5=> ?_) (fun d5=> ?_)
 case refine_2=>
  simp(disch:=omega) only[ae,DU,ae0,ahsz,be0,bhsz,aB,au,SX,SU,SL,reduceCtorEq,Nat.reduceAdd,Nat.reduceLeDiff,reduceIte]
  simp[d5]
 subst d5
 simp(disch:=omega) only[ae,DU,ae0,ahsz,be0,bhsz,aB,au,SX,SU,SL,reduceCtorEq,Nat.reduceAdd,Nat.reduceLeDiff,reduceIte]
 refine cV.go Jx ah6 bh6 (fun d6=> ?_) (fun d6=> ?_)
 case refine_2=>
  simp(disch:=omega) only[ae,DU,ae0,ahsz,be0,bhsz,aB,au,SX,SU,SL,reduceCtorEq,Nat.reduceAdd,Nat.reduceLeDiff,reduceIte]
  simp[d6]
 subst d6
 simp(disch:=omega) only[ae,DU,ae0,ahsz,be0,bhsz,aB,au,SX,SU,SL,reduceCtorEq,Nat.reduceAdd,Nat.reduceLeDiff,reduceIte]
 refine cV.go LW ah7 bh7 (fun d7=> ?_) (fun d7=> ?_)
 case refine_2=>
  simp(disch:=omega) only[ae,DU,ae0,ahsz,be0,bhsz,aB,au,SX,SU,SL,reduceCtorEq,Nat.reduceAdd,Nat.reduceLeDiff,reduceIte]
  simp[d7]
 subst d7
 simp(disch:=omega) only[ae,DU,ae0,ahsz,be0,bhsz,aB,au,SX,SU,SL,reduceCtorEq,Nat.reduceAdd,Nat.reduceLeDiff,reduceIte]
def Sk:AF:=⟨2,5,[.tmp 4],(.seq (.ops [.i (.mov 4 (qb false))]) (.seq (.seq (.ops [qm 6 0,qn 7 6,qm 8 1,qn 9 8,qd 10 .neq 7 9]) (.cond (.s 10) (.seq (.ops [.i (.mov 4 (qb false))]) .ret) .skip)) (.seq (.seq (.ops [.i (.mov 5 (qi 0))]) (.block 0 (.loop [26,25,24,23,22,21,20,19,18,17,16,15,14,13,12,11] (.seq (.seq (.ops [qm 11 5,qm 12 0,qn 13 12,qd 14 .lss 11 13]) (.cond (.s 14) .skip (.exit 0))) (.seq (.block 1 (.seq (.ops [qm 17 0,qm 18 5, .i (.iad 19 (.s 17) (.s 18) 45), .i (.ldh 20 (.s 19) 45 true),qm 21 1,qm 22 5, .i (.iad 23 (.s 21) (.s 22) 45), .i (.ldh 24 (.s 23) 45 true), .i (.call 26 61 false [(.s 20),(.s 24)]), .i (.not 26 (.s 25))]) (.cond (.s 26) (.seq (.ops [.i (.mov 4 (qb false))]) .ret) .skip))) (.ops [qm 15 5, .i (.bin 16 .add (.s 15) (qi 1)),qm 5 16])))))) (.seq (.ops [.i (.mov 4 (qb true))]) .ret))))⟩
theorem Sx:cd 25=some Sk:=by kernel_rfl
theorem Mg:cV cd 25 (.sl TMsg):=Hr Sx Od
def SC:AF:=⟨2,5,[.tmp 4],(.seq (.ops [.i (.mov 4 (qi 0))]) (.seq (.seq (.ops [.i (.mov 5 (qi 0))]) (.block 0 (.loop [18,17,16,15,14,13,12,11,10,9,8,7,6] (.seq (.seq (.ops [qm 6 5,qm 7 0,qn 8 7,qd 9 .lss 6 8]) (.cond (.s 9) .skip (.exit 0))) (.seq (.block 1 (.seq (.ops [qm 12 0,qm 13 5,qm 14 1, .i (.cvi 15 .u8 (.s 14)), .i (.iad 16 (.s 12) (.s 13) 1), .i (.sth (.s 16) (.s 15) 1)]) (.ops [qm 17 1, .i (.bin 18 .add (.s 17) (qi 1)),qm 1 18]))) (.ops [qm 10 5, .i (.bin 11 .add (.s 10) (qi 1)),qm 5 11])))))) (.seq (.ops [qm 19 1,qm 4 19]) .ret)))⟩
theorem R0:cd 17=some SC:=by kernel_rfl
theorem bm:rQ cd 17 (.sl (.int .u8)):=LK R0
def RQ:AF:=⟨2,5,[.tmp 4],(.seq (.ops [.i (.mov 4 (qi 0))]) (.seq (.seq (.ops [.i (.mov 5 (qi 0))]) (.block 0 (.loop [17,16,15,14,13,12,11,10,9,8,7,6] (.seq (.seq (.ops [qm 6 5,qm 7 0,qn 8 7,qd 9 .lss 6 8]) (.cond (.s 9) .skip (.exit 0))) (.seq (.block 1 (.ops [qm 12 0,qm 13 5, .i (.iad 14 (.s 12) (.s 13) 1), .i (.ldh 15 (.s 14) 1 false),qm 16 1, .i (.call 18 17 false [(.s 15),(.s 16)]),qm 1 17])) (.ops [qm 10 5, .i (.bin 11 .add (.s 10) (qi 1)),qm 5 11])))))) (.seq (.ops [qm 18 1,qm 4 18]) .ret)))⟩
theorem R4:cd 33=some RQ:=by kernel_rfl
theorem fC:rQ cd 33 (.sl (.sl (.int .u8))):=P9 R4 bm
def Fo:Ty→Nat
 | .sl (.int _)=>17
 |_=>0
abbrev mW:List Ty:= [(.int .i64),(.int .i64),(.sl (.int .u8))]
theorem Sw:cd 50=some (QI 6 (Ty.aK mW) (uR Fo mW 0 [])):=by kernel_rfl
theorem Iz:rQ cd 50 (.sl ec):=K5 (ts:=mW) Sw (And.intro rfl (And.intro rfl (And.intro bm True.intro)))
def F8:Ty→Nat
 | .sl (.int _)=>17
 | .sl (.sl _)=>33
 |_=>0
abbrev rS:List Ty:= [(.int .i64),(.int .i64),(.int .i64),(.sl (.int .u8)),(.sl (.int .u8)),yQ]
theorem R1:cd 51=some (QI 7 (Ty.aK rS) (uR F8 rS 0 [])):=by kernel_rfl
theorem Kf:rQ cd 51 (.sl cu):=K5 (ts:=rS) R1 (And.intro rfl (And.intro rfl (And.intro rfl (And.intro bm (And.intro bm (And.intro (And.intro rfl (And.intro rfl (And.intro bm (And.intro bm (And.intro fC True.intro))))) True.intro))))))
def H5:Ty→Nat
 | .sl (.int _)=>17
 | .sl (.sl _)=>33
 | .sl (.st [_,_,_])=>50
 | .sl (.st [_,_,_,_,_,_])=>51
 |_=>0
abbrev uT:List Ty:= [(.int .i64),q9,yQ,cu,fw,Jq,dQ,p0]
theorem SA:cd 26=some (QI 9 (Ty.aK uT) (uR H5 uT 0 [])):=by kernel_rfl
theorem MR:rQ cd 26 (.sl TMsg):=K5 (ts:=uT) SA (And.intro rfl (And.intro (And.intro rfl (And.intro rfl (And.intro bm (And.intro rfl (And.intro bm True.intro))))) (And.intro (And.intro rfl (And.intro rfl (And.intro bm (And.intro bm (And.intro fC True.intro))))) (And.intro (And.intro rfl (And.intro rfl (And.intro rfl (And.intro bm (And.intro bm (And.intro (And.intro rfl (And.intro rfl (And.intro bm (And.intro bm (And.intro fC True.intro))))) True.intro)))))) (And.intro (And.intro (And.intro rfl (And.intro rfl (And.intro rfl (And.intro bm (And.intro bm (And.intro (And.intro rfl (And.intro rfl (And.intro bm (And.intro bm (And.intro fC True.intro))))) True.intro)))))) (And.intro fC True.intro)) (And.intro (And.intro rfl (And.intro Iz True.intro)) (And.intro (And.intro Kf (And.intro (And.intro rfl (And.intro rfl (And.intro bm (And.intro bm (And.intro fC True.intro))))) True.intro)) (And.intro (And.intro rfl (And.intro rfl (And.intro rfl (And.intro bm (And.intro fC True.intro))))) True.intro))))))))
def Sr:AF:=⟨2,5,[.tmp 4],(.seq (.ops [.i (.mov 4 (qi 0))]) (.seq (.seq (.ops [.i (.mov 5 (qi 0))]) (.block 0 (.loop [20,19,18,17,16,15,14,13,12,11,10,9,8,7,6] (.seq (.seq (.ops [qm 6 5,qm 7 0,qn 8 7,qd 9 .lss 6 8]) (.cond (.s 9) .skip (.exit 0))) (.seq (.block 1 (.seq (.seq (.ops [qm 12 0,qm 13 5, .i (.iad 14 (.s 12) (.s 13) 1), .i (.ldh 15 (.s 14) 1 false),qm 16 1, .i (.cvi 17 .u8 (.s 16)),qd 18 .neq 15 17]) (.cond (.s 18) (.seq (.ops [.i (.mov 4 (qi (-1)))]) .ret) .skip)) (.ops [qm 19 1, .i (.bin 20 .add (.s 19) (qi 1)),qm 1 20]))) (.ops [qm 10 5, .i (.bin 11 .add (.s 10) (qi 1)),qm 5 11])))))) (.seq (.ops [qm 21 1,qm 4 21]) .ret)))⟩
theorem R8:cd 27=some Sr:=by kernel_rfl
theorem EP:Ea cd 27 (.sl (.int .u8)):=Mv R8
end Go.Eng.U
namespace Go.Eng.U
open Go.Eng.F (ax aW fF cp)
def c4:AF:=⟨2,7,[.tmp 4],(.seq (.ops [.i (.lbox 2 (.s 0)), .i (.mov 4 (qb false))]) (.seq (.ops [.i (.mov 5 (qi 1048576))]) (.seq (.ops [qm 16 1,qm 17 5, .i (.call 19 21 false [(.s 16),(.s 17)]),qm 5 18]) (.seq (.seq (.ops [qm 19 5, .i (.bin 20 .lss (.s 19) (qi 0))]) (.cond (.s 20) (.seq (.ops [.i (.mov 4 (qb true))]) .ret) .skip)) (.seq (.ops [ql 22 2 2 5 true,qk 24 9 22,qm 24 1,qk 26 23 24, .i (.call 27 22 false [(.s 23),(.s 25)]),qm 21 26, .i (.ext 27 (.s 21) 0), .i (.ext 28 (.s 21) 1),qm 6 27,qm 7 28]) (.seq (.ops [qm 29 1,qk 31 23 29,qm 8 30]) (.seq (.ops [ql 32 2 2 5 true,qk 34 9 32,qm 34 8, .i (.call 36 24 false [(.s 33),(.s 34)]),qm 31 35, .i (.ext 36 (.s 31) 0), .i (.ext 37 (.s 31) 1),qm 9 36,qm 10 37]) (.seq (.seq (.ops [qm 38 9,qm 39 6, .i (.call 41 15 false [(.s 38),(.s 39)]), .i (.not 41 (.s 40)),qm 42 41, .g 42 false 44 (.mov 43 (.s 10)), .g 42 false 45 (.mov 44 (.s 7)), .g 42 false 46 (.beq 45 true (.s 43) (.s 44)), .i (.pick 46 (.s 42) (qb true) (.s 45))]) (.cond (.s 46) (.seq (.ops [.i (.mov 4 (qb false))]) .ret) .skip)) (.seq (.seq (.ops [qm 47 8,qm 48 1,qk 50 23 48, .i (.call 51 25 false [(.s 47),(.s 49)]), .i (.not 51 (.s 50))]) (.cond (.s 51) (.seq (.ops [.i (.mov 4 (qb false))]) .ret) .skip)) (.seq (.ops [.i (.mov 11 (qi 1))]) (.seq (.ops [qm 52 8,qm 53 11, .i (.call 55 26 false [(.s 52),(.s 53)]),qm 11 54]) (.seq (.seq (.ops [qm 55 11, .i (.bin 56 .lss (.s 55) (qi 0)),qm 57 56, .g 57 false 59 (.mov 58 (.s 9)), .g 57 false 60 (.mov 59 (.s 6)), .g 57 false 61 (.call 61 15 false [(.s 58),(.s 59)]), .g 57 false 62 (.not 61 (.s 60)), .i (.pick 62 (.s 57) (qb true) (.s 61)),qm 63 62, .g 63 false 65 (.mov 64 (.s 10)), .g 63 false 66 (.mov 65 (.s 7)), .g 63 false 67 (.beq 66 true (.s 64) (.s 65)), .i (.pick 67 (.s 63) (qb true) (.s 66))]) (.cond (.s 67) (.seq (.ops [.i (.mov 4 (qb false))]) .ret) .skip)) (.seq (.ops [.i (.mov 12 (qi 1))]) (.seq (.ops [qm 68 9,qm 69 12, .i (.call 71 17 false [(.s 68),(.s 69)]),qm 12 70]) (.seq (.ops [.i (.mov 13 (qi 1))]) (.seq (.ops [qm 71 9,qm 72 13, .i (.call 74 27 false [(.s 71),(.s 72)]),qm 13 73]) (.seq (.seq (.ops [qm 74 13, .i (.bin 75 .lss (.s 74) (qi 0))]) (.cond (.s 75) (.seq (.ops [.i (.mov 4 (qb false))]) .ret) .skip)) (.seq (.seq (.ops [qm 76 13,qm 77 12,qd 78 .neq 76 77]) (.cond (.s 78) (.seq (.ops [.i (.mov 4 (qb false))]) .ret) .skip)) (.seq (.ops [ql 80 2 2 5 true,qk 82 9 80,qm 82 1,qk 84 23 82, .i (.call 85 24 false [(.s 81),(.s 83)]),qm 79 84, .i (.ext 85 (.s 79) 0), .i (.ext 86 (.s 79) 1),qm 14 85,qm 15 86]) (.seq (.seq (.ops [qm 87 14,qm 88 6, .i (.call 90 15 false [(.s 87),(.s 88)]), .i (.not 90 (.s 89)),qm 91 90, .g 91 false 93 (.mov 92 (.s 15)), .g 91 false 94 (.mov 93 (.s 7)), .g 91 false 95 (.beq 94 true (.s 92) (.s 93)), .i (.pick 95 (.s 91) (qb true) (.s 94))]) (.cond (.s 95) (.seq (.ops [.i (.mov 4 (qb false))]) .ret) .skip)) (.seq (.ops [.i (.mov 13 (qi 1))]) (.seq (.ops [qm 96 9,qm 97 13, .i (.call 99 27 false [(.s 96),(.s 97)]),qm 13 98]) (.seq (.seq (.ops [qm 99 13, .i (.bin 100 .lss (.s 99) (qi 0))]) (.cond (.s 100) (.seq (.ops [.i (.mov 4 (qb false))]) .ret) .skip)) (.seq (.seq (.ops [qm 101 13,qm 102 12,qd 103 .neq 101 102]) (.cond (.s 103) (.seq (.ops [.i (.mov 4 (qb false))]) .ret) .skip)) (.seq (.ops [.i (.mov 4 (qb true))]) .ret)))))))))))))))))))))))))⟩
theorem k4:cd 4=some c4:=by kernel_rfl
theorem mb {h:H} {kk:IntKind} {c:C} {v:Tv} {S:List Nat} (hv:Rp h (.sl (.int kk)) [c] v S):yc c=some (wt v):=by
 obtain⟨c2,xs,id,off,bs,S',e,rfl,hm,hl,hat,hce,hbs,hel,hS⟩:=hv.view
 injection e with e
 subst e
 rw[hl]
 simp[wt,(sN hel).1]
theorem law_Frames:∀h vs,Cs h [TLimits,(.sl TMsg)] vs→WC cd 4 vs h (fun r _=>r= .val false [.bool true]):=by
 intro h vs ha
 obtain⟨cs0,v0,S0,r0,rfl,hv0,ha0⟩:=ha
 obtain⟨cs1,v1,S1,r1,rfl,hv1,ha1⟩:=ha0
 have hr0:r1= []:=ha1
 subst hr0
 have hsz0:cs0.length=5:=hv0.size
 have hall0:cs0.take 5=cs0:=List.take_of_length_le (by omega)
 obtain⟨cc1,rfl⟩:=hv1.one rfl
 obtain⟨l,rfl⟩:=ax.ex hv0.ok
 obtain⟨m,rfl⟩:=F.L6 hv1.ok
 have hl0:wt l.tv=0:=by simp[ax.tv,wt,dq]
 have hc1:uN (.sl TMsg) (F.j4 m)≤56 * (1+wt (F.j4 m)):=Nat.le_trans (GH _ _) (Dv _ _)
 have hr0:uN (.sl (.int .u8)) (ur (fF l m))≤1 * (1+wt (ur (fF l m))):=Nat.le_trans (GH _ _) (Dv _ _)
 have hw0:=F.Ii l m
 refine aD k4 rfl ?_
 simp(disch:=omega) only[ae,c4,hsz0,hall0,aB,au,dY,beq_self_eq_true,bne_self_eq_false,List.getElem?_cons_zero,List.getElem?_cons_succ,Bool.or_false,Bool.false_or,Bool.or_self,SX,SU,SL,reduceCtorEq,Nat.reduceAdd,Nat.reduceLeDiff,reduceIte]
 refine da.go M8 hv1 (k:=1048576) (by omega) (fun hf1=> ?_) (fun hf1=> ?_)
 case refine_2=>
  simp(disch:=omega) only[ae,c4,hsz0,hall0,aB,au,dY,beq_self_eq_true,bne_self_eq_false,List.getElem?_cons_zero,List.getElem?_cons_succ,Bool.or_false,Bool.false_or,Bool.or_self,SX,SU,SL,reduceCtorEq,Nat.reduceAdd,Nat.reduceLeDiff,reduceIte]
  refine ao (fun hn=> ?_) (fun hn=>absurd (show(-1:Int) < 0 by omega) hn)
  simp(disch:=omega) only[ae,c4,hsz0,hall0,aB,au,dY,beq_self_eq_true,bne_self_eq_false,List.getElem?_cons_zero,List.getElem?_cons_succ,Bool.or_false,Bool.false_or,Bool.or_self,SX,SU,SL,reduceCtorEq,Nat.reduceAdd,Nat.reduceLeDiff,reduceIte]
 simp(disch:=omega) only[ae,c4,hsz0,hall0,aB,au,dY,beq_self_eq_true,bne_self_eq_false,List.getElem?_cons_zero,List.getElem?_cons_succ,Bool.or_false,Bool.false_or,Bool.or_self,SX,SU,SL,reduceCtorEq,Nat.reduceAdd,Nat.reduceLeDiff,reduceIte]
 refine ao (fun hn=>absurd hn (by omega)) (fun hn=> ?_)
 simp(disch:=omega) only[ae,c4,hsz0,hall0,aB,au,dY,beq_self_eq_true,bne_self_eq_false,List.getElem?_cons_zero,List.getElem?_cons_succ,Bool.or_false,Bool.false_or,Bool.or_self,SX,SU,SL,reduceCtorEq,Nat.reduceAdd,Nat.reduceLeDiff,reduceIte]
 refine aI (vg hv0 (by omega)) ?_
 rintro r0 g0 ⟨t0,d0,U0,hg0,rfl,z0,o0,l0⟩
 have n0:=el hg0
 have b0:=z0.lt
 have hd0:d0.length=5:=z0.size
 have ht0:d0.take 5=d0:=List.take_of_length_le (by omega)
 simp(disch:=omega) only[ae,c4,hsz0,hall0,hd0,ht0,aB,au,dY,beq_self_eq_true,bne_self_eq_false,List.getElem?_cons_zero,List.getElem?_cons_succ,Bool.or_false,Bool.false_or,Bool.or_self,SX,SU,SL,reduceCtorEq,Nat.reduceAdd,Nat.reduceLeDiff,reduceIte]
 refine aI (xO (Rp.bB hg0 hv1) (by omega)) ?_
 rintro r1 g1 ⟨t1,d1,U1,hg1,rfl,z1,o1,l1⟩
 have n1:=el hg1
 have b1:=z1.lt
 obtain⟨e1,rfl⟩:=z1.one rfl
 simp(disch:=omega) only[ae,c4,hsz0,hall0,hd0,ht0,aB,au,dY,beq_self_eq_true,bne_self_eq_false,List.getElem?_cons_zero,List.getElem?_cons_succ,Bool.or_false,Bool.false_or,Bool.or_self,SX,SU,SL,reduceCtorEq,Nat.reduceAdd,Nat.reduceLeDiff,reduceIte]
 refine aI (F.zb ⟨_,_,rfl,⟨_,(Rp.bB hg1 z0)⟩,⟨_,_,rfl,⟨_,z1⟩,rfl⟩⟩ (by omega)) ?_
 rintro r2 g2 ⟨t2,css2,U2,hg2,rfl,zz2,o2,l2⟩
 have n2:=el hg2
 obtain⟨d2_0,cr2_0,U2_0,V2_0,rfl,rfl,z2_0,zz2_0⟩:=zz2
 obtain⟨d2_1,cr2_1,U2_1,V2_1,rfl,rfl,z2_1,zz2_1⟩:=zz2_0
 obtain⟨q2_1,rfl,hq2_1,rfl⟩:=z2_1.bool
 injection hq2_1 with hq2_1;subst hq2_1
 obtain⟨rfl,rfl⟩:=zz2_1
 simp only[List.nil_append,List.append_nil]at o2 l2
 have o2_0:=o2
 have b2_0:=z2_0.lt
 have l2_0:=l2
 obtain⟨e2_0,rfl⟩:=z2_0.one rfl
 simp(disch:=omega) only[ae,c4,hsz0,hall0,hd0,ht0,aB,au,dY,beq_self_eq_true,bne_self_eq_false,List.getElem?_cons_zero,List.getElem?_cons_succ,Bool.or_false,Bool.false_or,Bool.or_self,SX,SU,SL,reduceCtorEq,Nat.reduceAdd,Nat.reduceLeDiff,reduceIte]
 refine aI (xO (Rp.bB hg2 (Rp.bB hg1 (Rp.bB hg0 hv1))) (by omega)) ?_
 rintro r3 g3 ⟨t3,d3,U3,hg3,rfl,z3,o3,l3⟩
 have n3:=el hg3
 have b3:=z3.lt
 obtain⟨e3,rfl⟩:=z3.one rfl
 simp(disch:=omega) only[ae,c4,hsz0,hall0,hd0,ht0,aB,au,dY,beq_self_eq_true,bne_self_eq_false,List.getElem?_cons_zero,List.getElem?_cons_succ,Bool.or_false,Bool.false_or,Bool.or_self,SX,SU,SL,reduceCtorEq,Nat.reduceAdd,Nat.reduceLeDiff,reduceIte]
 refine aI (vg (Rp.bB hg3 (Rp.bB hg2 (Rp.bB hg1 (Rp.bB hg0 hv0)))) (by omega)) ?_
 rintro r4 g4 ⟨t4,d4,U4,hg4,rfl,z4,o4,l4⟩
 have n4:=el hg4
 have b4:=z4.lt
 have hd4:d4.length=5:=z4.size
 have ht4:d4.take 5=d4:=List.take_of_length_le (by omega)
 simp(disch:=omega) only[ae,c4,hsz0,hall0,hd0,ht0,hd4,ht4,aB,au,dY,beq_self_eq_true,bne_self_eq_false,List.getElem?_cons_zero,List.getElem?_cons_succ,Bool.or_false,Bool.false_or,Bool.or_self,SX,SU,SL,reduceCtorEq,Nat.reduceAdd,Nat.reduceLeDiff,reduceIte]
 refine aI (F.nR ⟨_,_,rfl,⟨_,z4⟩,⟨_,_,rfl,⟨_,(Rp.bB hg4 z3)⟩,rfl⟩⟩ (by omega)) ?_
 rintro r5 g5 ⟨t5,css5,U5,hg5,rfl,zz5,o5,l5⟩
 have n5:=el hg5
 obtain⟨d5_0,cr5_0,U5_0,V5_0,rfl,rfl,z5_0,zz5_0⟩:=zz5
 obtain⟨d5_1,cr5_1,U5_1,V5_1,rfl,rfl,z5_1,zz5_1⟩:=zz5_0
 obtain⟨q5_1,rfl,hq5_1,rfl⟩:=z5_1.bool
 injection hq5_1 with hq5_1;subst hq5_1
 obtain⟨rfl,rfl⟩:=zz5_1
 simp only[List.nil_append,List.append_nil]at o5 l5
 have o5_0:=o5
 have b5_0:=z5_0.lt
 have l5_0:=l5
 obtain⟨e5_0,rfl⟩:=z5_0.one rfl
 simp(disch:=omega) only[ae,c4,hsz0,hall0,hd0,ht0,hd4,ht4,aB,au,dY,beq_self_eq_true,bne_self_eq_false,List.getElem?_cons_zero,List.getElem?_cons_succ,Bool.or_false,Bool.false_or,Bool.or_self,SX,SU,SL,reduceCtorEq,Nat.reduceAdd,Nat.reduceLeDiff,reduceIte]
 refine cV.go dA z5_0 (Rp.bB hg5 (Rp.bB hg4 (Rp.bB hg3 z2_0))) (fun _=> ?_) (fun hne=>absurd rfl hne)
 simp(disch:=omega) only[ae,c4,hsz0,hall0,hd0,ht0,hd4,ht4,aB,au,dY,beq_self_eq_true,bne_self_eq_false,List.getElem?_cons_zero,List.getElem?_cons_succ,Bool.or_false,Bool.false_or,Bool.or_self,SX,SU,SL,reduceCtorEq,Nat.reduceAdd,Nat.reduceLeDiff,reduceIte]
 refine aI (xO (Rp.bB hg5 (Rp.bB hg4 (Rp.bB hg3 (Rp.bB hg2 (Rp.bB hg1 (Rp.bB hg0 hv1)))))) (by omega)) ?_
 rintro r6 g6 ⟨t6,d6,U6,hg6,rfl,z6,o6,l6⟩
 have n6:=el hg6
 have b6:=z6.lt
 obtain⟨e6,rfl⟩:=z6.one rfl
 simp(disch:=omega) only[ae,c4,hsz0,hall0,hd0,ht0,hd4,ht4,aB,au,dY,beq_self_eq_true,bne_self_eq_false,List.getElem?_cons_zero,List.getElem?_cons_succ,Bool.or_false,Bool.false_or,Bool.or_self,SX,SU,SL,reduceCtorEq,Nat.reduceAdd,Nat.reduceLeDiff,reduceIte]
 refine cV.go Mg (Rp.bB hg6 (Rp.bB hg5 (Rp.bB hg4 z3))) z6 (fun _=> ?_) (fun hne=>absurd rfl hne)
 simp(disch:=omega) only[ae,c4,hsz0,hall0,hd0,ht0,hd4,ht4,aB,au,dY,beq_self_eq_true,bne_self_eq_false,List.getElem?_cons_zero,List.getElem?_cons_succ,Bool.or_false,Bool.false_or,Bool.or_self,SX,SU,SL,reduceCtorEq,Nat.reduceAdd,Nat.reduceLeDiff,reduceIte]
 refine rQ.go MR (Rp.bB hg6 (Rp.bB hg5 (Rp.bB hg4 z3))) (dK.bB hg6 (dK.bB hg5 (dK.bB hg4 o3))) (k:=1) (by omega) (fun gw1 w1 zw1=> ?_)
 have nw1:=w1.1
 have hneg:decide (((1+uN (.sl TMsg) (F.j4 m):Nat):Int) < 0)=false:=by simp;omega
 simp(disch:=omega) only[ae,c4,hsz0,hall0,hd0,ht0,hd4,ht4,hneg,aB,au,dY,beq_self_eq_true,bne_self_eq_false,List.getElem?_cons_zero,List.getElem?_cons_succ,Bool.or_false,Bool.false_or,Bool.or_self,SX,SU,SL,reduceCtorEq,Nat.reduceAdd,Nat.reduceLeDiff,reduceIte]
 refine cV.go dA ((Rp.bB hg6 z5_0).wrote w1 (fun i hi hn=>by have:=b5_0 i hi;have:=l5_0 i hi;have:=b3 i hn;have:=l3 i hn;omega)) ((Rp.bB hg6 (Rp.bB hg5 (Rp.bB hg4 (Rp.bB hg3 z2_0)))).wrote w1 (fun i hi hn=>by have:=b2_0 i hi;have:=l2_0 i hi;have:=b3 i hn;have:=l3 i hn;omega)) (fun _=> ?_) (fun hne=>absurd rfl hne)
 simp(disch:=omega) only[ae,c4,hsz0,hall0,hd0,ht0,hd4,ht4,hneg,aB,au,dY,beq_self_eq_true,bne_self_eq_false,List.getElem?_cons_zero,List.getElem?_cons_succ,Bool.or_false,Bool.false_or,Bool.or_self,SX,SU,SL,reduceCtorEq,Nat.reduceAdd,Nat.reduceLeDiff,reduceIte]
 refine rQ.go bm ((Rp.bB hg6 z5_0).wrote w1 (fun i hi hn=>by have:=b5_0 i hi;have:=l5_0 i hi;have:=b3 i hn;have:=l3 i hn;omega)) (w1.Mw (dK.bB hg6 o5_0)) (k:=1) (by omega) (fun gm0 wm0 zm0=> ?_)
 have nm0:=wm0.1
 simp(disch:=omega) only[ae,c4,hsz0,hall0,hd0,ht0,hd4,ht4,hneg,aB,au,dY,beq_self_eq_true,bne_self_eq_false,List.getElem?_cons_zero,List.getElem?_cons_succ,Bool.or_false,Bool.false_or,Bool.or_self,SX,SU,SL,reduceCtorEq,Nat.reduceAdd,Nat.reduceLeDiff,reduceIte]
 refine Ea.go EP ⟨_,_,_,z5_0⟩ zm0 (k:=1) (by omega) ?_
 simp(disch:=omega) only[ae,c4,hsz0,hall0,hd0,ht0,hd4,ht4,hneg,aB,au,dY,beq_self_eq_true,bne_self_eq_false,List.getElem?_cons_zero,List.getElem?_cons_succ,Bool.or_false,Bool.false_or,Bool.or_self,SX,SU,SL,reduceCtorEq,Nat.reduceAdd,Nat.reduceLeDiff,reduceIte]
 refine ao (fun hn=>absurd hn (by omega)) (fun hn=> ?_)
 simp(disch:=omega) only[ae,c4,hsz0,hall0,hd0,ht0,hd4,ht4,hneg,aB,au,dY,beq_self_eq_true,bne_self_eq_false,List.getElem?_cons_zero,List.getElem?_cons_succ,Bool.or_false,Bool.false_or,Bool.or_self,SX,SU,SL,reduceCtorEq,Nat.reduceAdd,Nat.reduceLeDiff,reduceIte]
 refine aI (vg (((Rp.bB hg6 (Rp.bB hg5 (Rp.bB hg4 (Rp.bB hg3 (Rp.bB hg2 (Rp.bB hg1 (Rp.bB hg0 hv0))))))).wrote w1 (fun i hi hn=>by have:=hv0.lt i hi;have:=b3 i hn;have:=l3 i hn;omega)).wrote wm0 (fun i hi hn=>by have:=hv0.lt i hi;have:=b5_0 i hn;have:=l5_0 i hn;omega)) (by omega)) ?_
 rintro r7 g7 ⟨t7,d7,U7,hg7,rfl,z7,o7,l7⟩
 have n7:=el hg7
 have b7:=z7.lt
 have hd7:d7.length=5:=z7.size
 have ht7:d7.take 5=d7:=List.take_of_length_le (by omega)
 simp(disch:=omega) only[ae,c4,hsz0,hall0,hd0,ht0,hd4,ht4,hneg,hd7,ht7,aB,au,dY,beq_self_eq_true,bne_self_eq_false,List.getElem?_cons_zero,List.getElem?_cons_succ,Bool.or_false,Bool.false_or,Bool.or_self,SX,SU,SL,reduceCtorEq,Nat.reduceAdd,Nat.reduceLeDiff,reduceIte]
 refine aI (xO (Rp.bB hg7 (((Rp.bB hg6 (Rp.bB hg5 (Rp.bB hg4 (Rp.bB hg3 (Rp.bB hg2 (Rp.bB hg1 (Rp.bB hg0 hv1))))))).wrote w1 (fun i hi hn=>by have:=hv1.lt i hi;have:=b3 i hn;have:=l3 i hn;omega)).wrote wm0 (fun i hi hn=>by have:=hv1.lt i hi;have:=b5_0 i hn;have:=l5_0 i hn;omega))) (by omega)) ?_
 rintro r8 g8 ⟨t8,d8,U8,hg8,rfl,z8,o8,l8⟩
 have n8:=el hg8
 have b8:=z8.lt
 obtain⟨e8,rfl⟩:=z8.one rfl
 simp(disch:=omega) only[ae,c4,hsz0,hall0,hd0,ht0,hd4,ht4,hneg,hd7,ht7,aB,au,dY,beq_self_eq_true,bne_self_eq_false,List.getElem?_cons_zero,List.getElem?_cons_succ,Bool.or_false,Bool.false_or,Bool.or_self,SX,SU,SL,reduceCtorEq,Nat.reduceAdd,Nat.reduceLeDiff,reduceIte]
 refine aI (F.nR ⟨_,_,rfl,⟨_,(Rp.bB hg8 z7)⟩,⟨_,_,rfl,⟨_,z8⟩,rfl⟩⟩ (by omega)) ?_
 rintro r9 g9 ⟨t9,css9,U9,hg9,rfl,zz9,o9,l9⟩
 have n9:=el hg9
 obtain⟨d9_0,cr9_0,U9_0,V9_0,rfl,rfl,z9_0,zz9_0⟩:=zz9
 obtain⟨d9_1,cr9_1,U9_1,V9_1,rfl,rfl,z9_1,zz9_1⟩:=zz9_0
 obtain⟨q9_1,rfl,hq9_1,rfl⟩:=z9_1.bool
 injection hq9_1 with hq9_1;subst hq9_1
 obtain⟨rfl,rfl⟩:=zz9_1
 simp only[List.nil_append,List.append_nil]at o9 l9
 have o9_0:=o9
 have b9_0:=z9_0.lt
 have l9_0:=l9
 obtain⟨e9_0,rfl⟩:=z9_0.one rfl
 simp(disch:=omega) only[ae,c4,hsz0,hall0,hd0,ht0,hd4,ht4,hneg,hd7,ht7,aB,au,dY,beq_self_eq_true,bne_self_eq_false,List.getElem?_cons_zero,List.getElem?_cons_succ,Bool.or_false,Bool.false_or,Bool.or_self,SX,SU,SL,reduceCtorEq,Nat.reduceAdd,Nat.reduceLeDiff,reduceIte]
 refine cV.go dA z9_0 (Rp.bB hg9 (Rp.bB hg8 (Rp.bB hg7 (((Rp.bB hg6 (Rp.bB hg5 (Rp.bB hg4 (Rp.bB hg3 z2_0)))).wrote w1 (fun i hi hn=>by have:=b2_0 i hi;have:=l2_0 i hi;have:=b3 i hn;have:=l3 i hn;omega)).wrote wm0 (fun i hi hn=>by have:=b2_0 i hi;have:=l2_0 i hi;have:=b5_0 i hn;have:=l5_0 i hn;omega))))) (fun _=> ?_) (fun hne=>absurd rfl hne)
 simp(disch:=omega) only[ae,c4,hsz0,hall0,hd0,ht0,hd4,ht4,hneg,hd7,ht7,aB,au,dY,beq_self_eq_true,bne_self_eq_false,List.getElem?_cons_zero,List.getElem?_cons_succ,Bool.or_false,Bool.false_or,Bool.or_self,SX,SU,SL,reduceCtorEq,Nat.reduceAdd,Nat.reduceLeDiff,reduceIte]
 refine Ea.go EP ⟨_,_,_,z5_0⟩ (Rp.bB hg9 (Rp.bB hg8 (Rp.bB hg7 zm0))) (k:=1) (by omega) ?_
 simp(disch:=omega) only[ae,c4,hsz0,hall0,hd0,ht0,hd4,ht4,hneg,hd7,ht7,aB,au,dY,beq_self_eq_true,bne_self_eq_false,List.getElem?_cons_zero,List.getElem?_cons_succ,Bool.or_false,Bool.false_or,Bool.or_self,SX,SU,SL,reduceCtorEq,Nat.reduceAdd,Nat.reduceLeDiff,reduceIte]
 refine ao (fun hn=>absurd hn (by omega)) (fun hn=> ?_)
 simp(disch:=omega) only[ae,c4,hsz0,hall0,hd0,ht0,hd4,ht4,hneg,hd7,ht7,aB,au,dY,beq_self_eq_true,bne_self_eq_false,List.getElem?_cons_zero,List.getElem?_cons_succ,Bool.or_false,Bool.false_or,Bool.or_self,SX,SU,SL,reduceCtorEq,Nat.reduceAdd,Nat.reduceLeDiff,reduceIte]
end Go.Eng.U
