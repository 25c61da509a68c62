import Derived.Test.YtanfobggenpcaaaGreatGb
import Derived.Test.YtanfobggenpcaaaGreatGg
import Derived.Test.YtanfobggenpcaaaGreatGi
set_option maxRecDepth 100000
set_option linter.unusedSimpArgs false
set_option linter.unusedVariables false
namespace Go.Eng.F
theorem FB {a b:bb}:ir a b=true↔a=b:=by
 obtain⟨_,_,_,_,_⟩:=a
 obtain⟨_,_,_,_,_⟩:=b
 simp[ir,and_assoc]
theorem vg {a b:Qc}:lK a b=true↔a=b:=by
 obtain⟨_,_,_,_,_⟩:=a
 obtain⟨_,_,_,_,_⟩:=b
 simp[lK,and_assoc]
theorem lS {a b:Head}:d6 a b=true↔a=b:=by
 obtain⟨_,_,_,_,_,_⟩:=a
 obtain⟨_,_,_,_,_,_⟩:=b
 simp[d6,and_assoc,vg]
theorem Dx {a b:Block}:ga a b=true↔a=b:=by
 obtain⟨_,_⟩:=a
 obtain⟨_,_⟩:=b
 simp[ga,lS]
theorem E7 {a b:aW}:iz a b=true↔a=b:=by
 obtain⟨_,_,_,_,_⟩:=a
 obtain⟨_,_,_,_,_⟩:=b
 simp[iz,and_assoc]
theorem HN {a b:Entry}:cT a b=true↔a=b:=by
 obtain⟨_,_,_⟩:=a
 obtain⟨_,_,_⟩:=b
 simp[cT,and_assoc]
theorem yZ {α:Type} {f:α→α→Bool} (hf:∀x y,f x y=true↔x=y) {a b:List α}:dc f a b=true↔a=b:=by
 simp only[dc,Bool.and_eq_true,decide_eq_true_eq,List.all_eq_true,List.mem_range]
 constructor
 ·rintro⟨h1,h2⟩
  refine List.ext_getElem h1 fun i hi hj=> ?_
  have:=h2 i hj
  rw[List.getElem?_eq_getElem hi,List.getElem?_eq_getElem hj]at this
  exact(hf _ _).1 this
 ·rintro rfl
  refine⟨rfl,fun i hi=> ?_⟩
  rw[List.getElem?_eq_getElem hi]
  exact(hf _ _).2 rfl
theorem D2 {a b:Proof}:eo a b=true↔a=b:=by
 obtain⟨_,_⟩:=a
 obtain⟨_,_⟩:=b
 simp[eo,eu,vg,yZ (fun x y=> @lS x y)]
theorem Ix {a b:Tc}:eV a b=true↔a=b:=by
 obtain⟨_,_⟩:=a
 obtain⟨_,_⟩:=b
 simp[eV,yZ (fun x y=> @HN x y)]
theorem pV {a b:aG}:jq a b=true↔a=b:=by
 obtain⟨_,_,_,_,_,_,_,_⟩:=a
 obtain⟨_,_,_,_,_,_,_,_⟩:=b
 simp[jq,and_assoc,FB,vg,lS,Dx,Ix,D2,E7]
theorem IE {l:ah} {m:aG} (h:bB l m=true):m=bD m:=by
 simp only[bB,Bool.and_eq_true]at h
 exact pV.1 h.2
theorem Jq {l:ah} {x:Head} (h:bx l x=true):l.ok=true:=iE (xX h).2.2.2.2.2.2.2.1
theorem LD {l:ah} {v:bb} (h:ic l v=true):l.ok=true:=by
 simp only[ic,Bool.and_eq_true]at h
 exact h.1.1.1.1.1
theorem NA {b:Bytes} {m:aG} {r:Rd} (h:r=⟨b.length,0⟩):eb b m r=(m,0):=by simp[eb,h]
theorem lG {b:Bytes} {m:aG} {r:Rd} {c:Nat} (h:r.er=c) (hc:c≠0):(eb b m r).2=c:=by simp[eb,h,hc]
theorem KL {b:Bytes} {m:aG} {r:Rd} {n:Nat} (h:r=⟨n,0⟩) (hn:n≠b.length):(eb b m r).2=9:=by simp[eb,h,hn]
theorem KF.rest {c:UInt8} {t s:Bytes} {r':Rd} (h:KF (c::t) ⟨1,0⟩ s r') (ha:r'.at_=(c::t).length):t=s:=by
 obtain⟨_,⟨u,hu⟩,h2⟩:=h
 rw[h2]at ha
 simp only[List.length_cons]at ha
 simp only[List.drop_succ_cons,List.drop_zero]at hu
 have hl:=congrArg List.length hu
 rw[List.length_append]at hl
 have:u= []:=List.eq_nil_of_length_eq_zero (by omega)
 rw[this,List.append_nil]at hu
 exact hu
theorem iS {k:Nat} (hk:k < 256) {m:aG} (h:m.kind=(k:Int)):(bL m).toNat=k:=by
 rw[bL,h]
 exact FO hk
theorem at_one (c:UInt8) (s t:Bytes):At (c::s++t) 1 s:=⟨t,rfl⟩
theorem Ci {l:ah} {m:aG} (h:m.kind=1):ax l m=ic l m.vote∧aJ m=Ik m.vote∧bD m= {aA with kind:=1,vote:=m.vote}∧(bL m).toNat=1:=by
 refine⟨by simp[ax,h],by simp[aJ,h],by simp[bD,h],iS (k:=1) (by omega) h⟩
theorem E3 {l:ah} {m:aG} (h:m.kind=2):ax l m=eB l m.qc∧aJ m=GF m.qc∧bD m= {aA with kind:=2,qc:=m.qc}∧(bL m).toNat=2:=by
 refine⟨by simp[ax,h],by simp[aJ,h],by simp[bD,h],iS (k:=2) (by omega) h⟩
theorem Fa {l:ah} {m:aG} (h:m.kind=3):ax l m=bx l m.head∧aJ m=c5 m.head∧bD m= {aA with kind:=3,head:=m.head}∧(bL m).toNat=3:=by
 refine⟨by simp[ax,h],by simp[aJ,h],by simp[bD,h],iS (k:=3) (by omega) h⟩
theorem FW {l:ah} {m:aG} (h:m.kind=4):ax l m=bo l m.block∧aJ m=fI m.block∧bD m= {aA with kind:=4,block:=m.block}∧(bL m).toNat=4:=by
 refine⟨by simp[ax,h],by simp[aJ,h],by simp[bD,h],iS (k:=4) (by omega) h⟩
theorem Fp {l:ah} {m:aG} (h:m.kind=5):ax l m=gd l m.tc∧aJ m=J1 m.tc∧bD m= {aA with kind:=5,tc:=m.tc}∧(bL m).toNat=5:=by
 refine⟨by simp[ax,h],by simp[aJ,h],by simp[bD,h],iS (k:=5) (by omega) h⟩
theorem FH {l:ah} {m:aG} (h:m.kind=6):ax l m=cu l m.proof∧aJ m=fw m.proof∧bD m= {aA with kind:=6,proof:=m.proof}∧(bL m).toNat=6:=by
 refine⟨by simp[ax,h],by simp[aJ,h],by simp[bD,h],iS (k:=6) (by omega) h⟩
theorem Gy {l:ah} {m:aG} (h:m.kind=7):ax l m=dV l m.incl∧aJ m=jx m.incl∧bD m= {aA with kind:=7,incl:=m.incl}∧(bL m).toNat=7:=by
 refine⟨by simp[ax,h],by simp[aJ,h],by simp[bD,h],iS (k:=7) (by omega) h⟩
theorem Rm {l:ah} {x:bb} (h:ic l x=true):bB l {aA with kind:=1,vote:=x}=true∧bL {aA with kind:=1,vote:=x}=UInt8.ofNat 1∧aJ {aA with kind:=1,vote:=x}=Ik x:=by
 obtain⟨p1,p2,p3,p4⟩:=Ci (l:=l) (m:= {aA with kind:=1,vote:=x}) rfl
 exact⟨by simp only[bB,p1,h,Bool.true_and,p3];exact pV.2 rfl,rfl,p2⟩
theorem u5 {l:ah} {m:aG} (h:ax l m=true):l.ok=true:=by
 rcases ed h with e|e|e|e|e|e|e
 ·rw[(Ci (l:=l) e).1]at h;exact LD h
 ·rw[(E3 (l:=l) e).1]at h;exact iE h
 ·rw[(Fa (l:=l) e).1]at h;exact Jq h
 ·rw[(FW (l:=l) e).1]at h;exact(ve h).2.1
 ·rw[(Fp (l:=l) e).1]at h;exact(EO h).1
 ·rw[(FH (l:=l) e).1]at h;exact(uY h).1
 ·rw[(Gy (l:=l) e).1]at h;exact(xQ h).1
theorem J9 {l:ah} {m:aG} (h:bB l m=true) (t:Bytes):dec l (bL m::aJ m++t)=eb (bL m::aJ m++t) m ⟨1+(aJ m).length,0⟩:=by
 have hp:=iU h
 have hm:=IE h
 have h1:=at_one (bL m) (aJ m) t
 rw[LJ (u5 hp) (by simp)]
 have e0:(bL m::aJ m++t)[0]'(by simp)=bL m:=rfl
 rw[e0]
 generalize hb:bL m::aJ m++t=b at h1⊢
 rcases ed hp with e|e|e|e|e|e|e
 ·obtain⟨p1,p2,p3,p4⟩:=Ci (l:=l) e
  rw[p1]at hp
  rw[p2]at h1⊢
  rw[p4]
  simp only[oj,LF hp h1,←p3,←hm]
 ·obtain⟨p1,p2,p3,p4⟩:=E3 (l:=l) e
  rw[p1]at hp
  rw[p2]at h1⊢
  rw[p4]
  simp only[oj,IQ hp h1,←p3,←hm]
 ·obtain⟨p1,p2,p3,p4⟩:=Fa (l:=l) e
  rw[p1]at hp
  rw[p2]at h1⊢
  rw[p4]
  simp only[oj,iF hp h1,←p3,←hm]
 ·obtain⟨p1,p2,p3,p4⟩:=FW (l:=l) e
  rw[p1]at hp
  rw[p2]at h1⊢
  rw[p4]
  simp only[oj,KO hp h1,←p3,←hm]
 ·obtain⟨p1,p2,p3,p4⟩:=Fp (l:=l) e
  rw[p1]at hp
  rw[p2]at h1⊢
  rw[p4]
  simp only[oj,ON hp h1,←p3,←hm]
 ·obtain⟨p1,p2,p3,p4⟩:=FH (l:=l) e
  rw[p1]at hp
  rw[p2]at h1⊢
  rw[p4]
  simp only[oj,Ky hp h1,←p3,←hm]
 ·obtain⟨p1,p2,p3,p4⟩:=Gy (l:=l) e
  rw[p1]at hp
  rw[p2]at h1⊢
  rw[p4]
  simp only[oj,Mq hp h1,←p3,←hm]
theorem Na {l:ah} {m:aG} (h:bB l m=true):dec l (bL m::aJ m)=(m,0):=by
 have:=J9 h []
 rw[List.append_nil]at this
 rw[this]
 exact NA (by rw[List.length_cons,Nat.add_comm])
theorem L4 {l:ah} {m:aG} (h:bB l m=true) {t:Bytes} (ht:t≠ []):(dec l (bL m::aJ m++t)).2=9:=by
 rw[J9 h t]
 have:=List.length_pos_iff.2 ht
 refine KL rfl ?_
 simp only[List.cons_append,List.length_cons,List.length_append]
 omega
theorem NJ {l:ah} {m:aG} (h:bB l m=true) {k:Nat} (hk:k < (bL m::aJ m).length):(dec l ((bL m::aJ m).take k)).2=1:=by
 have hp:=iU h
 cases k with
 |zero=>rw[List.take_zero,EB (u5 hp) (by simp)]
 |succ k=>
  rw[List.length_cons]at hk
  rw[List.take_succ_cons,LJ (u5 hp) (by simp)]
  have e0:(bL m::(aJ m).take k)[0]'(by simp)=bL m:=rfl
  rw[e0]
  have h1:Cut (bL m::(aJ m).take k) 1 (aJ m):=⟨by simp,k,by omega,rfl⟩
  generalize bL m::(aJ m).take k=b at h1⊢
  rcases ed hp with e|e|e|e|e|e|e
  ·obtain⟨p1,p2,p3,p4⟩:=Ci (l:=l) e
   rw[p1]at hp
   rw[p2]at h1
   rw[p4]
   exact lG (Kn hp h1) (by omega)
  ·obtain⟨p1,p2,p3,p4⟩:=E3 (l:=l) e
   rw[p1]at hp
   rw[p2]at h1
   rw[p4]
   exact lG (Gx hp h1) (by omega)
  ·obtain⟨p1,p2,p3,p4⟩:=Fa (l:=l) e
   rw[p1]at hp
   rw[p2]at h1
   rw[p4]
   exact lG (yf hp h1) (by omega)
  ·obtain⟨p1,p2,p3,p4⟩:=FW (l:=l) e
   rw[p1]at hp
   rw[p2]at h1
   rw[p4]
   exact lG (I3 hp h1) (by omega)
  ·obtain⟨p1,p2,p3,p4⟩:=Fp (l:=l) e
   rw[p1]at hp
   rw[p2]at h1
   rw[p4]
   exact lG (M3 hp h1) (by omega)
  ·obtain⟨p1,p2,p3,p4⟩:=FH (l:=l) e
   rw[p1]at hp
   rw[p2]at h1
   rw[p4]
   exact lG (Jg hp h1) (by omega)
  ·obtain⟨p1,p2,p3,p4⟩:=Gy (l:=l) e
   rw[p1]at hp
   rw[p2]at h1
   rw[p4]
   exact lG (KE hp h1) (by omega)
end Go.Eng.F
namespace Go.Eng.F
theorem I9 {l:ah} {v:bb} (h:ic l v=true):bB l {aA with kind:=1,vote:=v}=true:=(Rm h).1
theorem Qd {l:ah} {v:bb} (hl:l.ok=true) (h:isNum v.view=true∧isNum v.height=true∧v.block.length=32∧dK v.who 0 (l.n - 1)=true∧v.tag.length=32):ic l v=true:=by
 simp only[ic,hl,h.1,h.2.1,JX h.2.2.1,h.2.2.2.1,JX h.2.2.2.2,Bool.and_self]
theorem QR {l:ah} {v:bb} (hl:l.rd) (h:isNum v.view=true∧isNum v.height=true∧v.block.length=32∧dK v.who 0 (l.n - 1)=true∧v.tag.length=32):v.wf:=by
 obtain⟨g2,g3,g4,g5,g6⟩:=h
 exact⟨ig g2,ig g3,by unfold Sz;omega,by have:=c7 g5;have:=hl.1;exact⟨by omega,by omega⟩,by unfold Sz;omega⟩
abbrev m0:Nat:=96
def mi:AF:=⟨2,5,[.cell 4 45 true],(.seq (.ops [.i (.lbox 3 (.s 1)), .i (.lal 4 [.int .i64 0, .int .i64 0, .int .i64 0, .nils, .int .i64 0, .nils, .int .i64 0, .int .i64 0, .nils, .nils, .nils, .int .i64 0, .int .i64 0, .int .i64 0, .nils, .nils, .int .i64 0, .int .i64 0, .nils, .nils, .nils, .int .i64 0, .int .i64 0, .int .i64 0, .nils, .nils, .int .i64 0, .int .i64 0, .nils, .nils, .nils, .nils, .int .i64 0, .nils, .nils, .int .i64 0, .int .i64 0, .nils, .nils, .nils, .int .i64 0, .int .i64 0, .int .i64 0, .nils, .nils])]) (.seq (.ops [qm 6 0,ql 7 3 3 5 true, .i (.call 9 134 false [(.s 6),(.s 7)]), .i (.lal 5 [.int .i64 0, .int .i64 0, .int .i64 0, .nils, .int .i64 0, .nils, .int .i64 0, .int .i64 0, .nils, .nils, .nils, .int .i64 0, .int .i64 0, .int .i64 0, .nils, .nils, .int .i64 0, .int .i64 0, .nils, .nils, .nils, .int .i64 0, .int .i64 0, .int .i64 0, .nils, .nils, .int .i64 0, .int .i64 0, .nils, .nils, .nils, .nils, .int .i64 0, .nils, .nils, .int .i64 0, .int .i64 0, .nils, .nils, .nils, .int .i64 0, .int .i64 0, .int .i64 0, .nils, .nils]),qs 5 5 8 45]) (.seq (.seq (.ops [ql 9 3 3 5 true,ql 10 5 5 45 true, .i (.call 12 159 false [(.s 9),(.s 10)]), .i (.not 12 (.s 11))]) (.cond (.s 12) (.seq (.ops [qm 13 0,ql 14 3 3 5 true, .i (.call 16 161 false [(.s 13),(.s 14)]),qk 17 160 15,qs 4 4 16 45]) .ret) .skip)) (.seq (.ops [ql 17 5 5 45 true,qs 4 4 17 45]) .ret))))⟩
theorem zz:cd m0=some mi:=by kernel_rfl
theorem H5 (b:Bytes) (i:Nat) (h:Int) (l:ah) (hl:l.ok=true) (hi:i≤b.length) (hb:b.length≤1073741824):VC cd m0 (ja [] 133 (cur b i h) [(true,l.c)]) (fun r p=>∃x:aG×Nat×Int,((x.1.wc∧bB l x.1=true)∧x.2.1≤b.length)∧r= [(true,x.1.o)]∧p= [.pt 133 (cur b x.2.1 x.2.2)]):=by
 have hL:=fb hl
 refine VC.xh ?_
 refine aw zz rfl ?_
 simp(disch:=omega) [mi,cur,ah.c,VZ]
 refine dN (IA b i h l hL hi hb) ?_ (n1:=by intro _;simp(disch:=omega) [ah.c,aG.o,VZ]) (n3:=by intro _;simp(disch:=omega) [ah.c,aG.o,VZ])
 rintro⟨m,i1,h1⟩ ⟨g1,j1⟩
 simp only at g1 j1
 simp(disch:=omega) [cur,aG.o,VZ]
 refine aq (Dh l m g1) ?_ (ha:=by first|rfl|(simp[ah.c,aG.c,VY] <;>repeat' constructor))
 simp(disch:=omega) [VZ]
 refine an (fun h0=> ?_) (fun h0=> ?_)
 ·simp(disch:=omega) [h0,cur,aY,bh,bk,VZ]
  exact⟨[(true,aG.o m)],by simp[aY,bh,bk,aG.o],m,i1,⟨⟨g1,h0⟩,j1⟩,rfl,rfl⟩
 ·simp(disch:=omega) [h0,VZ]
  refine dN (uX b i1 h1 l hL.1 j1 hb) ?_ (n1:=by intro _;simp(disch:=omega) [ah.c,bb.o,VZ]) (n3:=by intro _;simp(disch:=omega) [ah.c,bb.o,VZ])
  rintro⟨x2,i2,h2⟩ ⟨g2,j2⟩
  simp only at g2 j2
  have hw:=QR hL g2
  have hv:=Qd hl g2
  simp(disch:=omega) [cur,bb.o,VZ]
  refine aq (fD x2 hw) ?_ (ha:=by first|rfl|(simp[bb.c,VY] <;>repeat' constructor))
  simp(disch:=omega) [cur,el,aY,bh,bk,VZ]
  exact⟨[(true,aG.o {aA with kind:=1,vote:=x2})],by simp[aY,bh,bk,aG.o,aA,bA,fq,ba,aF,gP,aK,bq,ag,bg,bd,bj],{aA with kind:=1,vote:=x2},i2,⟨⟨{FA with kind:=⟨by simp only;omega,by simp only;omega⟩,vote:=hw},I9 hv⟩,j2⟩,rfl,rfl⟩
abbrev o8:Nat:=22
def si:AF:=⟨2,4,[.cell 4 45 true],(.seq (.ops [.i (.lbox 3 (.s 1)), .i (.lal 4 [.int .i64 0, .int .i64 0, .int .i64 0, .nils, .int .i64 0, .nils, .int .i64 0, .int .i64 0, .nils, .nils, .nils, .int .i64 0, .int .i64 0, .int .i64 0, .nils, .nils, .int .i64 0, .int .i64 0, .nils, .nils, .nils, .int .i64 0, .int .i64 0, .int .i64 0, .nils, .nils, .int .i64 0, .int .i64 0, .nils, .nils, .nils, .nils, .int .i64 0, .nils, .nils, .int .i64 0, .int .i64 0, .nils, .nils, .nils, .int .i64 0, .int .i64 0, .int .i64 0, .nils, .nils])]) (.seq (.ops [qm 6 0,qk 8 88 6,qm 5 7]) (.seq (.ops [qm 8 5,ql 9 3 3 5 true, .i (.call 11 96 false [(.s 8),(.s 9)]),qs 4 4 10 45]) .ret)))⟩
theorem CZ:cd o8=some si:=by kernel_rfl
theorem Je (b:Bytes) (l:ah) (hl:l.ok=true) (hb:b.length≤1073741824):VC cd o8 (aE [(false,[.sl (bytes b)]),(true,l.c)]) (fun r _=>∃x:aG,(x.wc∧bB l x=true)∧r= [(true,x.o)]):=by
 refine aa CZ rfl ?_
 simp(disch:=omega) [si,ah.c,VY]
 refine Ro (ye b hb) ?_
 intro h _
 simp(disch:=omega) [cur,Gz,VZ]
 refine dN (H5 b 0 h l hl (Nat.zero_le _) hb) ?_ (n1:=by intro _;simp(disch:=omega) [ah.c,aG.o,VZ]) (n3:=by intro _;simp(disch:=omega) [ah.c,aG.o,VZ])
 rintro⟨m,i1,h1⟩ ⟨g1,j1⟩
 simp only at g1 j1
 simp(disch:=omega) [cur,aG.o,VZ]
 exact⟨m,g1,by simp⟩
abbrev r9:Nat:=23
def qD:AF:=⟨2,5,[.tmp 4],(.seq (.ops [.i (.mov 4 (qi 0))]) (.seq (.ops [qm 6 0,qk 8 88 6,qm 5 7]) (.seq (.ops [qm 8 5,qm 9 5, .i (.nch 10 (.s 9)),qf 11 10 2, .i (.ldh 12 (.s 11) 1 false), .i (.bin 13 .add (.s 12) (qi 777)), .i (.nch 14 (.s 8)),qf 15 14 2, .i (.sth (.s 15) (.s 13) 1)]) (.seq (.ops [qm 16 5,qm 17 1, .i (.call 19 97 false [(.s 16),(.s 17)]),qm 4 18]) .ret))))⟩
theorem BQ:cd r9=some qD:=by kernel_rfl
theorem It (b:Bytes) (n:Nat) (hn:n≤4294967296) (hb:b.length≤1073741824):VC cd r9 (aE [(false,[.sl (bytes b)]),(false,[.int .i64 (n:Int)])]) (fun r _=>∃x:Nat,(x < n∨x=0)∧r=it x):=by
 refine aa BQ rfl ?_
 simp(disch:=omega) [qD,VY]
 refine Ro (ye b hb) ?_
 intro h _
 simp(disch:=omega) [cur,Gz,VZ]
 refine dN (aD b 0 _ n hn (Nat.zero_le _) hb) ?_
 rintro⟨k,i1,h1⟩ ⟨g1,j1⟩
 simp only at g1 j1
 simp(disch:=omega) [cur,VZ]
 rcases g1 with g1|g1
 ·exact .inl ⟨k,g1,rfl⟩
 ·exact .inr g1
end Go.Eng.F
namespace Go.Eng.F
end Go.Eng.F
namespace Go.Eng.F
theorem law_code {n:Nat} (hc:∀b:Bytes,VC cd n (aE [(false,[.sl (bytes b)])]) (fun rs _=>rs=bl true)):∀h vs,FC h [.sl (.int .u8)] vs→WC cd n vs h (fun r _=>r= .val false [.bool true]):=by
 intro h vs ha
 obtain⟨cs,v,S,r,rfl,hv,hr⟩:=ha
 obtain⟨x,rfl⟩:=gR hv.ok
 have e:Kv [(.sl (.int .u8),C5 x)]= [(false,[.sl (bytes x)])]:=by simp only[Kv,List.map,gT,Ty.agg]
 have hc:=hc x
 rw[←e]at hc
 have ha:lI h [(.sl (.int .u8),C5 x)] ((Ty.agg (.sl (.int .u8)),cs)::r):=⟨cs,r,rfl,⟨S,hv⟩,hr⟩
 refine(hc.wc ha (ts:= [(.bool, .b true)]) fun rs q=>by rw[q];exact Qa true).mono ?_
 rintro r' h' ⟨t,css,S',rfl,rfl,hres,_⟩
 obtain⟨cs',cr,S1,S2,rfl,rfl,h1,h2⟩:=hres
 obtain⟨rfl,rfl⟩:=h2
 obtain⟨b,rfl,e2,_⟩:=h1.bool
 simp only[Tv.b.injEq]at e2
 subst e2
 rfl
end Go.Eng.F
namespace Go.Eng.F
theorem KR {l:ah} {m:aG} (h:bB l m=true):vF l m=((bL m::aJ m).length:Int):=by
 simp only[vF,h,if_true,List.length_cons]
 omega
end Go.Eng.F
namespace Go.Eng.F
theorem KB {l:ah} {m:aG} (h:ax l m=true):((bL m).toNat:Int)=m.kind∧1≤(bL m).toNat∧(bL m).toNat≤7:=by
 rcases ed h with e|e|e|e|e|e|e
 ·have:=(Ci (l:=l) e).2.2.2;omega
 ·have:=(E3 (l:=l) e).2.2.2;omega
 ·have:=(Fa (l:=l) e).2.2.2;omega
 ·have:=(FW (l:=l) e).2.2.2;omega
 ·have:=(Fp (l:=l) e).2.2.2;omega
 ·have:=(FH (l:=l) e).2.2.2;omega
 ·have:=(Gy (l:=l) e).2.2.2;omega
theorem KP {l:ah} {m:aG} (h:bB l m=true):gz (dec l (bL m::aJ m))= [(true,m.o),(false,[.p (.int .i64 0)])]:=by
 rw[Na h]
 rfl
abbrev og:Nat:=6
def mA:AF:=⟨1,7,[.tmp 2],(.seq (.ops [.i (.mov 2 (qb false))]) (.seq (.seq (.ops [qm 13 0,qn 14 13, .i (.bin 15 .gtr (.s 14) (qi 1048576))]) (.cond (.s 15) (.seq (.ops [.i (.mov 2 (qb true))]) .ret) .skip)) (.seq (.ops [qm 16 0,qk 18 14 16, .i (.lal 3 [.int .i64 0, .int .i64 0, .int .i64 0, .int .i64 0, .int .i64 0]),qs 3 3 17 5]) (.seq (.ops [qm 18 0,ql 19 3 3 5 true, .i (.call 21 22 false [(.s 18),(.s 19)]), .i (.lal 4 [.int .i64 0, .int .i64 0, .int .i64 0, .nils, .int .i64 0, .nils, .int .i64 0, .int .i64 0, .nils, .nils, .nils, .int .i64 0, .int .i64 0, .int .i64 0, .nils, .nils, .int .i64 0, .int .i64 0, .nils, .nils, .nils, .int .i64 0, .int .i64 0, .int .i64 0, .nils, .nils, .int .i64 0, .int .i64 0, .nils, .nils, .nils, .nils, .int .i64 0, .nils, .nils, .int .i64 0, .int .i64 0, .nils, .nils, .nils, .int .i64 0, .int .i64 0, .int .i64 0, .nils, .nils]),qs 4 4 20 45]) (.seq (.ops [ql 22 3 3 5 true,ql 23 4 4 45 true, .i (.call 25 52 false [(.s 22),(.s 23)]),qm 21 24, .i (.ext 25 (.s 21) 0), .i (.ext 26 (.s 21) 1),qm 5 25,qm 6 26]) (.seq (.ops [ql 28 3 3 5 true,qm 29 5, .i (.call 31 53 false [(.s 28),(.s 29)]),qm 27 30, .i (.ext 31 (.s 27) 0), .i (.ext 32 (.s 27) 1), .i (.lal 7 [.int .i64 0, .int .i64 0, .int .i64 0, .nils, .int .i64 0, .nils, .int .i64 0, .int .i64 0, .nils, .nils, .nils, .int .i64 0, .int .i64 0, .int .i64 0, .nils, .nils, .int .i64 0, .int .i64 0, .nils, .nils, .nils, .int .i64 0, .int .i64 0, .int .i64 0, .nils, .nils, .int .i64 0, .int .i64 0, .nils, .nils, .nils, .nils, .int .i64 0, .nils, .nils, .int .i64 0, .int .i64 0, .nils, .nils, .nils, .int .i64 0, .int .i64 0, .int .i64 0, .nils, .nils]),qs 7 7 31 45,qm 8 32]) (.seq (.seq (.ops [qm 33 5,qn 34 33, .i (.bin 35 .eql (.s 34) (qi 0)),qm 36 35, .g 36 false 38 (.mov 37 (.s 6)), .g 36 false 39 (.not 38 (.s 37)), .i (.pick 39 (.s 36) (qb true) (.s 38)),qm 40 39, .g 40 false 42 (.mov 41 (.s 8)), .g 40 false 43 (.bin 42 .neq (.s 41) (qi 0)), .i (.pick 43 (.s 40) (qb true) (.s 42)),qm 44 43, .g 44 false 46 (.ldl 45 7 (.s 7) 45 true), .g 44 false 47 (.ldl 46 4 (.s 4) 45 true), .g 44 false 48 (.call 48 54 false [(.s 45),(.s 46)]), .g 44 false 49 (.not 48 (.s 47)), .i (.pick 49 (.s 44) (qb true) (.s 48)),qm 50 49, .g 50 false 52 (.ldl 51 3 (.s 3) 5 true), .g 50 false 53 (.ldl 52 4 (.s 4) 45 true), .g 50 false 54 (.call 54 46 false [(.s 51),(.s 52)]), .g 50 false 55 (.mov 54 (.s 5)), .g 50 false 56 (.len 55 false (.s 54)), .g 50 false 57 (.bin 56 .neq (.s 53) (.s 55)), .i (.pick 57 (.s 50) (qb true) (.s 56)),qm 58 57, .g 58 false 60 (.mov 59 (.s 5)), .g 58 false 61 (.iad 60 (.s 59) (qi 0) 1), .g 58 false 62 (.ldh 61 (.s 60) 1 false), .g 58 false 63 (.cvi 62 .i64 (.s 61)), .g 58 false 64 (.fad 63 (.s 4) 0), .g 58 false 65 (.ldl 64 4 (.s 63) 1 false), .g 58 false 66 (.bin 65 .neq (.s 62) (.s 64)), .i (.pick 66 (.s 58) (qb true) (.s 65))]) (.cond (.s 66) (.seq (.ops [.i (.mov 2 (qb false))]) .ret) .skip)) (.seq (.ops [ql 68 3 3 5 true,qm 69 5,qm 70 0,qm 71 5,qn 72 71, .i (.call 74 23 false [(.s 70),(.s 72)]), .i (.fV 74 1 (.s 69) none (some (.s 73))), .i (.call 76 53 false [(.s 68),(.s 74)]),qm 67 75, .i (.ext 76 (.s 67) 0), .i (.ext 77 (.s 67) 1), .i (.lal 9 [.int .i64 0, .int .i64 0, .int .i64 0, .nils, .int .i64 0, .nils, .int .i64 0, .int .i64 0, .nils, .nils, .nils, .int .i64 0, .int .i64 0, .int .i64 0, .nils, .nils, .int .i64 0, .int .i64 0, .nils, .nils, .nils, .int .i64 0, .int .i64 0, .int .i64 0, .nils, .nils, .int .i64 0, .int .i64 0, .nils, .nils, .nils, .nils, .int .i64 0, .nils, .nils, .int .i64 0, .int .i64 0, .nils, .nils, .nils, .int .i64 0, .int .i64 0, .int .i64 0, .nils, .nils]),qs 9 9 76 45,qm 10 77]) (.seq (.ops [ql 79 3 3 5 true, .i (.bse 80),qm 81 5, .i (.app 82 5 1 1 (.s 80) (.s 81)), .i (.lsl 83 1 1 [.int .u8 0] [(0,1,(.c (.val false [.int .u8 0])))]), .i (.app 84 5 1 1 (.s 82) (.s 83)), .i (.call 86 53 false [(.s 79),(.s 84)]),qm 78 85, .i (.ext 86 (.s 78) 0), .i (.ext 87 (.s 78) 1), .i (.lal 11 [.int .i64 0, .int .i64 0, .int .i64 0, .nils, .int .i64 0, .nils, .int .i64 0, .int .i64 0, .nils, .nils, .nils, .int .i64 0, .int .i64 0, .int .i64 0, .nils, .nils, .int .i64 0, .int .i64 0, .nils, .nils, .nils, .int .i64 0, .int .i64 0, .int .i64 0, .nils, .nils, .int .i64 0, .int .i64 0, .nils, .nils, .nils, .nils, .int .i64 0, .nils, .nils, .int .i64 0, .int .i64 0, .nils, .nils, .nils, .int .i64 0, .int .i64 0, .int .i64 0, .nils, .nils]),qs 11 11 86 45,qm 12 87]) (.seq (.ops [qm 88 10, .i (.bin 89 .eql (.s 88) (qi 1)),qm 90 89, .g 90 true 92 (.mov 91 (.s 12)), .g 90 true 93 (.bin 92 .eql (.s 91) (qi 9)), .i (.pick 93 (.s 90) (.s 92) (qb false)),qm 94 93, .g 94 true 96 (.fad 95 (.s 4) 0), .g 94 true 97 (.ldl 96 4 (.s 95) 1 false), .g 94 true 98 (.call 98 55 false [(.s 96)]), .g 94 true 99 (.bin 98 .neq (.s 97) (.c (.val false [.str ByteArray.empty]))), .i (.pick 99 (.s 94) (.s 98) (qb false)),qm 2 99]) .ret))))))))))⟩
theorem y7:cd og=some mA:=by kernel_rfl
theorem FnDecode_ok (b:Bytes):VC cd og (aE [(false,[.sl (bytes b)])]) (fun rs _=>rs=bl true):=by
 refine aa y7 rfl ?_
 simp(disch:=omega) [mA,ak,VZ]
 refine ab (fun h0=> ?_) (fun h0=> ?_)
 ·simp(disch:=omega) [VZ]
 have hb:b.length≤1048576:=by omega
 simp(disch:=omega) [VZ]
 refine Rf (C8 b (by omega)) ?_
 rintro l ⟨hl,hf⟩
 simp(disch:=omega) [ah.e,VZ]
 refine Rf (Je b l hl (by omega)) ?_ (ha:=by first|rfl|(simp[ah.c,VY] <;>repeat' constructor))
 rintro m ⟨hw,hm⟩
 have hlen:=Kt (iU hm)
 have hk:=KB (iU hm)
 have hsz:=KR hm
 have hsame:jq m m=true:=pV.2 rfl
 have hd:=(iD (bL m::aJ m) l (by simp only[List.length_cons];omega)).re (KP hm)
 have hcut:=fun(k:Nat) (h:k < (bL m::aJ m).length)=>NJ hm h
 have hmore:=L4 hm (t:= [0]) (by simp)
 have hg0:(bL m::aJ m)[0]'(by simp)=bL m:=rfl
 simp(disch:=omega) [aG.o,VZ]
 refine aq ((iT l m hw).re (bW hm)) ?_ (ha:=by first|rfl|(simp[ah.c,aG.c,VY] <;>repeat' constructor))
 generalize hE:bL m::aJ m=x at hd hcut hmore hsz hlen
 have hx0:0 < x.length:=by rw[←hE];simp
 have hxl:x.length≤20001:=by rw[←hE,List.length_cons];omega
 simp(disch:=omega) [VZ]
 refine aq (hd) ?_ (ha:=by first|rfl|(simp[ah.c,VY] <;>repeat' constructor))
 have hxn:¬x= []:=fun e=>by rw[e]at hx0;simp at hx0
 simp(disch:=omega) [aG.o,ak,hxn,VZ]
 refine aq (b7 m m hw hw) ?_ (ha:=by first|rfl|(simp[aG.c,VY] <;>repeat' constructor))
 simp(disch:=omega) [hsame,VZ]
 refine aq (zy l m hw) ?_ (ha:=by first|rfl|(simp[aG.c,ah.c,VY] <;>repeat' constructor))
 have hq0:((x[0]'hx0).toNat:Int)=m.kind:=by
  have:x[0]'hx0=bL m:=by subst hE;rfl
  rw[this]
  exact hk.1
 have hk7:m.kind=((bL m).toNat:Int):=hk.1.symm
 generalize (bL m).toNat=kk at hk hk7
 have hkn:¬kindName kk=ByteArray.empty:=fun e=>by have:=(iq kk).1 e;omega
 have hw0:IntKind.i64.wrap ((x[0]'hx0).toNat:Int)=m.kind:=by rw[GG (by omega) (by omega)];exact hq0
 simp(disch:=omega) [hsz,ak,di hx0,hw0,hq0,VZ]
 refine Rf (It b x.length (by omega) (by omega)) ?_
 rintro n hn
 have hn1:n < x.length:=by omega
 have hc:=hcut n hn1
 have hd1:=iD (x.take n) l (by rw[List.length_take];omega)
 generalize dec l (x.take n)=d1 at hc hd1
 obtain⟨m1,c1⟩:=d1
 simp only at hc
 subst hc
 have hd2:=iD (x++ [0]) l (by rw[List.length_append,List.length_cons,List.length_nil];omega)
 generalize dec l (x++ [0])=d2 at hmore hd2
 obtain⟨m2,c2⟩:=d2
 simp only at hmore
 subst hmore
 simp only[gz,aG.o]at hd1 hd2
 have et:List.take n (bytes x)=bytes (x.take n):=by simp[bytes]
 have ea:bytes x++ [[D.int .u8 0]]=bytes (x++ [0]):=by simp[bytes]
 simp(disch:=omega) [ak,et,ea,hn1,show n≤x.length by omega,VZ]
 refine aq (hd1) ?_ (ha:=by first|rfl|(simp[ah.c,VY] <;>repeat' constructor))
 simp(disch:=omega) [ak,ea,VZ]
 refine aq (hd2) ?_ (ha:=by first|rfl|(simp[ah.c,VY] <;>repeat' constructor))
 simp(disch:=omega) [hk7,VZ]
 refine aq (yJ kk) ?_
 simp(disch:=omega) [hkn,VZ]
end Go.Eng.F
