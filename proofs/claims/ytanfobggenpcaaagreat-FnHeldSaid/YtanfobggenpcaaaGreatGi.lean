import Derived.Test.YtanfobggenpcaaaGreatGb
import Derived.Test.YtanfobggenpcaaaGreatGg
import Derived.Test.YtanfobggenpcaaaGreatGh
set_option maxRecDepth 100000
set_option linter.unusedSimpArgs false
set_option linter.unusedVariables false
namespace Go.Eng.F
theorem uf {l:aj} {s:Bytes} {cl:Bool}:∀(g a k:Nat) (e:List Ev),a≤s.length→(c8 l s cl g a k e).2.2≤s.length∧(c8 l s cl g a k e).2.1+a≤k+(c8 l s cl g a k e).2.2∧a≤(c8 l s cl g a k e).2.2
 |0,a,k,e,h=>⟨h,by simp only[c8];omega,by simp only[c8];omega⟩
 |g+1,a,k,e,h=>by
  rw[c8]
  split
  ·rename_i h1
   split
   ·exact⟨h,by simp only;omega,by simp only;omega⟩
   ·split
    ·have:=uf (l:=l) (s:=s) (cl:=cl) g (a+1) (k+1) e (by omega)
     omega
    ·rename_i h3
     obtain⟨n,hn,h9,hl,_⟩:=gI (Decidable.not_not.1 h3)
     have e1:(aq l s a).2.toNat=n:=by rw[hn];rfl
     rw[e1]
     have:=uf (l:=l) (s:=s) (cl:=cl) g (a+n) 0 (e++(fI k++ [vc l (dy s a n)])) (by omega)
     omega
  ·exact⟨h,by simp only;omega,by simp only;omega⟩
def tail (l:aj) (s:Bytes):Nat×Nat:=if l.ok=true then((dV l s false 0).2.1,s.length - (dV l s false 0).2.2)else(0,0)
abbrev wV:Nat:=18
def wO:AF:=⟨2,5,[.tmp 4, .tmp 5],(.seq (.ops [.i (.lbox 2 (.s 0)), .i (.mov 4 (qi 0)), .i (.mov 5 (qi 0))]) (.seq (.seq (.ops [ql 9 2 2 5 true,qk 11 95 9, .i (.not 11 (.s 10))]) (.cond (.s 11) (.seq (.ops [.i (.mov 4 (qi 0)), .i (.mov 5 (qi 0))]) .ret) .skip)) (.seq (.ops [ql 13 2 2 5 true,qm 14 1, .i (.call 16 94 false [(.s 13),(.s 14),(qb false),(qi 0)]),qm 12 15, .i (.ext 16 (.s 12) 0), .i (.ext 17 (.s 12) 1), .i (.ext 18 (.s 12) 2),qm 6 16,qm 7 17,qm 8 18]) (.seq (.ops [qm 19 7,qm 20 1,qn 21 20,qm 22 8,qd 23 .sub 21 22,qm 4 19,qm 5 23]) .ret))))⟩
theorem E1:cd wV=some wO:=by kernel_rfl
theorem uZ (l:aj) (s:Bytes) (hs:s.length≤1073741824):VC cd wV (aH [(true,l.c),(false,[.sl (bytes s)])]) (fun rs _=>rs= [(false,[.p (.int .i64 ((tail l s).1:Int))]),(false,[.p (.int .i64 ((tail l s).2:Int))])]):=by
 have h2:=uf (l:=l) (s:=s) (cl:=false) s.length 0 0 [] (by omega)
 refine aa E1 rfl ?_
 simp(disch:=omega) [wO,aj.c,VZ]
 refine av (aL l) ?_ (ha:=by first|rfl|(simp[aj.c,VY] <;>repeat' constructor))
 simp(disch:=omega) [VZ]
 refine aA (fun h1=> ?_) (fun h1=> ?_)
 case refine_2=>simp(disch:=omega) [h1,tail,VZ]
 simp(disch:=omega) [h1,VZ]
 have hd:=tK l s false 0 hs (by omega)
 simp only[zw]at hd
 refine av (hd) ?_ (ha:=by first|rfl|(simp[aj.c,VY] <;>repeat' constructor))
 have e1:((s.length - (dV l s false 0).2.2:Nat):Int)=(s.length:Int) - ((dV l s false 0).2.2:Int):=by simp only[dV];omega
 have h3:(dV l s false 0).2.2≤s.length:=h2.1
 simp(disch:=omega) [h1,tail,e1,VZ]
def feed (l:aj) (p:cR) (b:Bytes):cR×List Ev:=if sB l p=true then(⟨((dV l (p.buf++b) false p.skip.toNat).2.1:Int),(p.buf++b).drop (dV l (p.buf++b) false p.skip.toNat).2.2⟩,(dV l (p.buf++b) false p.skip.toNat).1)else(p,[])
theorem FW {l:aj} {p:cR} (h:sB l p=true):0≤p.skip∧p.skip≤1152921504606846975:=by
 simp only[sB,isNum,cw,Bool.and_eq_true,decide_eq_true_eq]at h
 omega
abbrev gR:Nat:=92
def hD:AF:=⟨1,4,[.cell 2 2 true],(.seq (.ops [.i (.lbox 1 (.s 0)), .i (.lal 2 [.int .i64 0, .nils])]) (.seq (.ops [qf 3 1 0,ql 4 1 3 1 false,qf 5 1 1,ql 6 1 5 1 false,qk 8 93 6, .i (.bld 8 [.int .i64 0, .nils] [(0,1,(.s 4)),(1,1,(.s 7))]),qs 2 2 8 2]) .ret))⟩
theorem sV:cd gR=some hD:=by kernel_rfl
theorem zO (p:cR) (hb:p.buf.length≤1073741824):VC cd gR (aH [(true,p.c)]) (fun rs _=>rs= [(true,[.p (.int .i64 p.skip), .o true (some (5,1)) (bytes p.buf)])]):=by
 refine aa sV rfl ?_
 simp(disch:=omega) [hD,cR.c,VZ]
 refine av (dL p.buf (by omega)) ?_
 simp(disch:=omega) [VZ]
def F1 (x:cR×List Ev):List (Bool×List E):= [(true,[.p (.int .i64 x.1.skip), .o true (some (5,1)) (bytes x.1.buf)]),(false,[.o true (some (107,47)) (GY x.2)])]
abbrev wU:Nat:=17
def wJ:AF:=⟨3,6,[.cell 6 2 true, .tmp 7],(.seq (.ops [.i (.lbox 3 (.s 0)), .i (.lbox 4 (.s 1)), .i (.lal 6 [.int .i64 0, .nils]), .i (.mov 7 (.c (.val false [.nils])))]) (.seq (.seq (.ops [ql 12 3 3 5 true,ql 13 4 4 2 true, .i (.call 15 48 false [(.s 12),(.s 13)]), .i (.not 15 (.s 14))]) (.cond (.s 15) (.seq (.ops [ql 16 4 4 2 true,qk 18 92 16,qs 6 6 17 2, .i (.mov 7 (.c (.val false [.nils])))]) .ret) .skip)) (.seq (.ops [qf 18 4 1,ql 19 4 18 1 false,qk 21 93 19,qm 21 2, .i (.app 22 5 1 1 (.s 20) (.s 21)),qm 8 22]) (.seq (.ops [ql 24 3 3 5 true,qm 25 8,qf 26 4 0,ql 27 4 26 1 false, .i (.call 29 94 false [(.s 24),(.s 25),(qb false),(.s 27)]),qm 23 28, .i (.ext 29 (.s 23) 0), .i (.ext 30 (.s 23) 1), .i (.ext 31 (.s 23) 2),qm 9 29,qm 10 30,qm 11 31]) (.seq (.ops [qm 32 10,qm 33 8,qm 34 11, .i (.dQ 35 1 (.s 33) (some (.s 34)) none),qk 37 93 35, .i (.bld 37 [.int .i64 0, .nils] [(0,1,(.s 32)),(1,1,(.s 36))]),qm 38 9,qs 6 6 37 2,qm 7 38]) .ret)))))⟩
theorem E8:cd wU=some wJ:=by kernel_rfl
theorem tf (l:aj) (p:cR) (b:Bytes) (hb:p.buf.length+b.length≤1073741824):VC cd wU (aH [(true,l.c),(true,p.c),(false,[.sl (bytes b)])]) (fun rs _=>rs=F1 (feed l p b)):=by
 refine VC.oQ ?_
 have hlen:(p.buf++b).length≤1073741824:=by rw[List.length_append];exact hb
 have h2:=uf (l:=l) (s:=p.buf++b) (cl:=false) (p.buf++b).length 0 p.skip.toNat [] (by omega)
 refine aa E8 rfl ?_
 simp(disch:=omega) [wJ,aj.c,cR.c,VZ]
 refine av (zg l p (by omega)) ?_ (ha:=by first|rfl|(simp[aj.c,cR.c,VY] <;>repeat' constructor))
 simp(disch:=omega) [VZ]
 refine aA (fun h1=> ?_) (fun h1=> ?_)
 case refine_2=>
  simp(disch:=omega) [h1,VZ]
  refine av (zO p (by omega)) ?_ (ha:=by first|rfl|(simp[cR.c,VY] <;>repeat' constructor))
  simp(disch:=omega) [feed,F1,h1,Me,aJ,aO,aT,VZ]
 have hk:=FW h1
 have e2:((p.skip.toNat:Nat):Int)=p.skip:=by omega
 simp(disch:=omega) [h1,VZ]
 refine av (dL p.buf (by omega)) ?_
 simp(disch:=omega) [br,VZ]
 have hd:=tK l (p.buf++b) false p.skip.toNat hlen (by omega)
 rw[e2]at hd
 simp only[zw]at hd
 refine av (hd) ?_ (ha:=by first|rfl|(simp[aj.c,VY] <;>repeat' constructor))
 have h3:(dV l (p.buf++b) false p.skip.toNat).2.2≤(p.buf++b).length:=h2.1
 have hf:feed l p b=(⟨((dV l (p.buf++b) false p.skip.toNat).2.1:Int),(p.buf++b).drop (dV l (p.buf++b) false p.skip.toNat).2.2⟩,(dV l (p.buf++b) false p.skip.toNat).1):=by rw[feed,if_pos h1]
 rw[hf]
 generalize dV l (p.buf++b) false p.skip.toNat=r at h3⊢
 rw[List.length_append]at h3
 have f4:(r.2.2:Int)≤(p.buf.length:Int)+(b.length:Int):=by omega
 have e4:List.take (((p.buf.length:Int)+(b.length:Int)).toNat - r.2.2) (List.drop r.2.2 (bytes (p.buf++b)))=bytes ((p.buf++b).drop r.2.2):=by
  rw[show((p.buf.length:Int)+(b.length:Int)).toNat=p.buf.length+b.length by omega,List.take_of_length_le (by simp[bytes])]
  simp[bytes]
 simp(disch:=omega) [f4,e4,VZ]
 refine av (dL ((p.buf++b).drop r.2.2) (by rw[List.length_drop,List.length_append];omega)) ?_
 simp(disch:=omega) [F1,aJ,aO,aT,VZ]
end Go.Eng.F
namespace Go.Eng.F
def sD (n w:Nat):Bytes:=(List.range w).map fun i=>b8 ((n / 256 ^ i:Nat):Int)
theorem tg (n w:Nat):(sD n w).length=w:=by simp[sD]
theorem IF (n w:Nat):sD n (w+1)=sD n w++ [b8 ((n / 256 ^ w:Nat):Int)]:=by simp[sD,List.range_succ]
theorem Oe (b:Bytes):JO b < 4294967296:=by
 have h:kb (0 ^^^ 4294967295) b < 4294967296:=tM b (by decide)
 exact Nat.xor_lt_two_pow (n:=32) h (by decide)
def vk (b:Bytes):Bytes:= [181,70]++sD b.length 2++sD (JO b) 4++b
def gF (l:aj) (b:Bytes):Bool:=l.ok && cw b.length 1 l.frame
def vu (l:aj) (b:Bytes):List (Bool×List E):= [(false,[.o true (some (5,1)) (bytes (if gF l b=true then vk b else []))]),(false,[.p (.bool (gF l b))])]
end Go.Eng.F
namespace Go.Eng.F
abbrev pQ:Nat:=195
def nS:AF:=⟨2,6,[.cell 4 5 true],(.seq (.ops [.i (.lbox 3 (.s 1)), .i (.lal 4 [.int .i64 0, .int .i64 0, .int .i64 0, .nils, .nils])]) (.seq (.ops [qm 8 0, .i (.call 10 97 false [(.s 8),(qi 8)]), .i (.bin 10 .add (qi 1) (.s 9)),qm 5 10]) (.seq (.seq (.ops [qf 11 3 2,ql 12 3 11 1 false, .i (.bin 13 .gtr (.s 12) (qi 0))]) (.cond (.s 13) (.ops [qm 14 0,qf 15 3 2,ql 16 3 15 1 false, .i (.call 18 97 false [(.s 14),(.s 16)]), .i (.bin 18 .add (qi 1) (.s 17)),qm 5 18]) .skip)) (.seq (.ops [qm 19 0, .i (.call 21 97 false [(.s 19),(qi 200)]),qm 21 5,qm 22 0,qm 23 5, .i (.call 25 97 false [(.s 22),(.s 23)]),qm 25 0, .i (.call 27 138 false [(.s 25),(qi 3)]), .i (.bld 27 [.int .i64 0, .int .i64 0, .int .i64 0, .nils, .nils] [(0,1,(.s 20)),(1,1,(.s 21)),(2,1,(.s 24)),(3,1,(.s 26))]), .i (.lal 6 [.int .i64 0, .int .i64 0, .int .i64 0, .nils, .nils]),qs 6 6 27 5]) (.seq (.seq (.ops [qf 28 3 1,ql 29 3 28 1 false, .i (.bin 30 .lss (.s 29) (qi 3))]) (.cond (.s 30) (.ops [qf 31 6 3, .i (.stl 6 (.s 31) (.c (.val false [.nils])) 1)]) .skip)) (.seq (.seq (.ops [qf 32 6 2,ql 33 6 32 1 false,qm 34 5, .i (.call 36 276 false [(.s 33),(.s 34)]),qm 7 35]) (.block 0 (.loop [46,45,44,43,42,41,40,39,38,37,36] (.seq (.seq (.ops [qm 36 7, .i (.bin 37 .gtr (.s 36) (qi 0))]) (.cond (.s 37) .skip (.exit 0))) (.seq (.block 1 (.ops [qf 40 6 4,ql 41 6 40 1 false,qm 42 0,qk 44 242 42, .i (.lsl 44 1 1 [.nils] [(0,1,(.s 43))]), .i (.app 45 22 1 24 (.s 41) (.s 44)),qf 46 6 4,qs 6 46 45 1])) (.ops [qm 38 7, .i (.bin 39 .sub (.s 38) (qi 1)),qm 7 39])))))) (.seq (.ops [ql 47 6 6 5 true,qs 4 4 47 5]) .ret)))))))⟩
theorem AQ:cd pQ=some nS:=by kernel_rfl
theorem G1 (b:Bytes) (i:Nat) (h:Int) (l:aj) (hl:l.rd) (hi:i≤b.length) (hb:b.length≤1073741824):VC cd pQ (ic [] 133 (cur b i h) [(true,l.c)]) (fun r p=>∃x:bm×Nat×Int,((x.1.wc∧x.1.tx.length≤3)∧x.2.1≤b.length)∧r= [(true,x.1.o)]∧p= [.pt 133 (cur b x.2.1 x.2.2)]):=by
 refine VC.oQ ?_
 have hl2:=hl.2.2.1
 obtain⟨m,hm⟩:∃m:Nat,l.txs=(m:Int):=⟨l.txs.toNat,by omega⟩
 refine aw AQ rfl ?_
 simp(disch:=omega) [nS,cur,aj.c,hm,VZ]
 refine cq (an b i h 8 (by omega) hi hb) ?_
 rintro⟨k1,i1,h1⟩ ⟨g1,j1⟩
 simp only at g1 j1
 simp(disch:=omega) [cur,VZ]
 refine ab (fun h0=> ?_) (fun h0=> ?_)
 case refine_1=>
  simp(disch:=omega) [VZ]
  refine cq (an b i1 h1 m (by omega) j1 hb) ?_
  rintro⟨k2,i2,h2⟩ ⟨g2,j2⟩
  simp only at g2 j2
  simp(disch:=omega) [cur,VZ]
  have hk:k2 < 8:=by omega
  refine cq (an b i2 h2 200 (by omega) j2 hb) ?_
  rintro⟨k3,i3,h3⟩ ⟨g3,j3⟩
  simp only at g3 j3
  simp(disch:=omega) [cur,VZ]
  refine cq (an b i3 h3 (1+k2) (by omega) j3 hb) ?_
  rintro⟨k4,i4,h4⟩ ⟨g4,j4⟩
  simp only at g4 j4
  simp(disch:=omega) [cur,VZ]
  refine cq (c7 b i4 h4 3 (by omega) j4 hb) ?_
  rintro⟨x5,i5,h5⟩ ⟨g5,j5⟩
  simp only at g5 j5
  have hpl:=cA (1+k2) k4
  simp(disch:=omega) [cur,VZ]
  refine ab (fun h6=> ?_) (fun h6=> ?_)
  case refine_1=>
   simp(disch:=omega) [VZ]
   refine av (de (1+k2) k4 (by omega) (by omega)) ?_
   simp(disch:=omega) [VZ]
   refine cY (σ:=Nat×Nat×Nat×Int×List Bytes) (f0:=_) (by simp(disch:=omega) [VZ];rfl) (cN.xU (s:=6) (k:=5) (i:=4) rfl rfl) (f1:=_) (es0:=_) (by simp(disch:=omega) [VZ];rfl) (by simp(disch:=omega) [VZ];rfl) (fun p=> [(7, .val false [.int .i64 (p.1:Int)]),(6, .box [.int .i64 (k3:Int), .int .i64 (1+(k2:Int)), .int .i64 (k4:Int), .nils, .ow 5 p.2.1])]) (fun p=> [(4096, .pt 0 133 [.sl (bytes b), .int .i64 (p.2.2.1:Int), .int .i64 p.2.2.2.1]),(5, .sl p.2.1 true true (some (22,1)) (bz p.2.2.2.2))])
    (fun p g=>g=p.1∧p.2.2.1≤b.length∧p.2.2.2.2.length+p.1≤9∧∀t∈p.2.2.2.2,t.length=32) (bk k4 (1+k2),_,i5,h5,[]) (bk k4 (1+k2)) (by simp(disch:=omega) [VZ];rfl) (by simp(disch:=omega) [bz,VZ]) ⟨rfl,j5,by simp;omega,by simp⟩ ?_
   rintro⟨n,v,i7,h7,x⟩ nx g ⟨hg,a5,a6,a7⟩ P hP
   simp only at hg a5 a6 a7
   have hlx:(bz x).length=x.length:=aB x
   simp(disch:=omega) [VZ]
   refine ab (fun h8=> ?_) (fun h8=> ?_)
   case refine_1=>
    simp(disch:=omega) [VZ]
    refine cq (cC b i7 h7 a5 hb) ?_
    rintro⟨y,i8,h9⟩ ⟨g8,j8⟩
    simp only at g8 j8
    have e1:IntKind.i64.wrap ((n:Int) - 1)=((n - 1:Nat):Int):=by rw[sO (by omega) (by omega)];omega
    simp(disch:=omega) [cur,hlx,e1,d5,VZ]
    refine hP (n - 1,_,i8,h9,x++ [y]) (g - 1) _ _ (by omega) ⟨by simp only;omega,j8,by simp;omega,fun z hz=> ?_⟩ (by simp(disch:=omega) [VZ];rfl) (by simp(disch:=omega) [VZ])
    rcases List.mem_append.1 hz with hz|hz
    ·exact a7 z hz
    ·simp only[List.mem_singleton]at hz;subst hz;exact g8
   case refine_2=>
    simp(disch:=omega) [cur,VZ]
    refine⟨[(true,bm.o ⟨k3,1+k2,k4,[],x⟩)],by simp[aJ,aO,aT,bm.o,ag],⟨k3,1+k2,k4,[],x⟩,i7,⟨⟨?_,by simp;try omega⟩,a5⟩,rfl,rfl⟩
    refine⟨⟨by simp only;omega,by simp only;omega⟩,⟨by simp only;omega,by simp only;omega⟩,⟨by simp only;omega,by simp only;omega⟩,by unfold Sz;simp;try omega,⟨by unfold Sz;simp only;omega,fun z hz=>by have:=a7 z hz;unfold Sz;omega⟩⟩
  case refine_2=>
   simp(disch:=omega) [VZ]
   refine av (de (1+k2) k4 (by omega) (by omega)) ?_
   simp(disch:=omega) [VZ]
   refine cY (σ:=Nat×Nat×Nat×Int×List Bytes) (f0:=_) (by simp(disch:=omega) [VZ];rfl) (cN.xU (s:=6) (k:=5) (i:=4) rfl rfl) (f1:=_) (es0:=_) (by simp(disch:=omega) [VZ];rfl) (by simp(disch:=omega) [VZ];rfl) (fun p=> [(7, .val false [.int .i64 (p.1:Int)]),(6, .box [.int .i64 (k3:Int), .int .i64 (1+(k2:Int)), .int .i64 (k4:Int), .ow 229376 29, .ow 5 p.2.1])]) (fun p=> [(4096, .pt 0 133 [.sl (bytes b), .int .i64 (p.2.2.1:Int), .int .i64 p.2.2.2.1]),(5, .sl p.2.1 true true (some (22,1)) (bz p.2.2.2.2))])
    (fun p g=>g=p.1∧p.2.2.1≤b.length∧p.2.2.2.2.length+p.1≤9∧∀t∈p.2.2.2.2,t.length=32) (bk k4 (1+k2),_,i5,h5,[]) (bk k4 (1+k2)) (by simp(disch:=omega) [VZ];rfl) (by simp(disch:=omega) [bz,VZ]) ⟨rfl,j5,by simp;omega,by simp⟩ ?_
   rintro⟨n,v,i7,h7,x⟩ nx g ⟨hg,a5,a6,a7⟩ P hP
   simp only at hg a5 a6 a7
   have hlx:(bz x).length=x.length:=aB x
   simp(disch:=omega) [VZ]
   refine ab (fun h8=> ?_) (fun h8=> ?_)
   case refine_1=>
    simp(disch:=omega) [VZ]
    refine cq (cC b i7 h7 a5 hb) ?_
    rintro⟨y,i8,h9⟩ ⟨g8,j8⟩
    simp only at g8 j8
    have e1:IntKind.i64.wrap ((n:Int) - 1)=((n - 1:Nat):Int):=by rw[sO (by omega) (by omega)];omega
    simp(disch:=omega) [cur,hlx,e1,d5,VZ]
    refine hP (n - 1,_,i8,h9,x++ [y]) (g - 1) _ _ (by omega) ⟨by simp only;omega,j8,by simp;omega,fun z hz=> ?_⟩ (by simp(disch:=omega) [VZ];rfl) (by simp(disch:=omega) [VZ])
    rcases List.mem_append.1 hz with hz|hz
    ·exact a7 z hz
    ·simp only[List.mem_singleton]at hz;subst hz;exact g8
   case refine_2=>
    simp(disch:=omega) [cur,VZ]
    refine⟨[(true,bm.o ⟨k3,1+k2,k4,x5,x⟩)],by simp[aJ,aO,aT,bm.o,ag],⟨k3,1+k2,k4,x5,x⟩,i7,⟨⟨?_,by simp;try omega⟩,a5⟩,rfl,rfl⟩
    refine⟨⟨by simp only;omega,by simp only;omega⟩,⟨by simp only;omega,by simp only;omega⟩,⟨by simp only;omega,by simp only;omega⟩,by unfold Sz;simp;try omega,⟨by unfold Sz;simp only;omega,fun z hz=>by have:=a7 z hz;unfold Sz;omega⟩⟩
 case refine_2=>
  simp(disch:=omega) [VZ]
  have hk:k1 < 8:=by omega
  refine cq (an b i1 h1 200 (by omega) j1 hb) ?_
  rintro⟨k3,i3,h3⟩ ⟨g3,j3⟩
  simp only at g3 j3
  simp(disch:=omega) [cur,VZ]
  refine cq (an b i3 h3 (1+k1) (by omega) j3 hb) ?_
  rintro⟨k4,i4,h4⟩ ⟨g4,j4⟩
  simp only at g4 j4
  simp(disch:=omega) [cur,VZ]
  refine cq (c7 b i4 h4 3 (by omega) j4 hb) ?_
  rintro⟨x5,i5,h5⟩ ⟨g5,j5⟩
  simp only at g5 j5
  have hpl:=cA (1+k1) k4
  simp(disch:=omega) [cur,VZ]
  refine ab (fun h6=> ?_) (fun h6=> ?_)
  case refine_1=>
   simp(disch:=omega) [VZ]
   refine av (de (1+k1) k4 (by omega) (by omega)) ?_
   simp(disch:=omega) [VZ]
   refine cY (σ:=Nat×Nat×Nat×Int×List Bytes) (f0:=_) (by simp(disch:=omega) [VZ];rfl) (cN.xU (s:=6) (k:=5) (i:=4) rfl rfl) (f1:=_) (es0:=_) (by simp(disch:=omega) [VZ];rfl) (by simp(disch:=omega) [VZ];rfl) (fun p=> [(7, .val false [.int .i64 (p.1:Int)]),(6, .box [.int .i64 (k3:Int), .int .i64 (1+(k1:Int)), .int .i64 (k4:Int), .nils, .ow 5 p.2.1])]) (fun p=> [(4096, .pt 0 133 [.sl (bytes b), .int .i64 (p.2.2.1:Int), .int .i64 p.2.2.2.1]),(5, .sl p.2.1 true true (some (22,1)) (bz p.2.2.2.2))])
    (fun p g=>g=p.1∧p.2.2.1≤b.length∧p.2.2.2.2.length+p.1≤9∧∀t∈p.2.2.2.2,t.length=32) (bk k4 (1+k1),_,i5,h5,[]) (bk k4 (1+k1)) (by simp(disch:=omega) [VZ];rfl) (by simp(disch:=omega) [bz,VZ]) ⟨rfl,j5,by simp;omega,by simp⟩ ?_
   rintro⟨n,v,i7,h7,x⟩ nx g ⟨hg,a5,a6,a7⟩ P hP
   simp only at hg a5 a6 a7
   have hlx:(bz x).length=x.length:=aB x
   simp(disch:=omega) [VZ]
   refine ab (fun h8=> ?_) (fun h8=> ?_)
   case refine_1=>
    simp(disch:=omega) [VZ]
    refine cq (cC b i7 h7 a5 hb) ?_
    rintro⟨y,i8,h9⟩ ⟨g8,j8⟩
    simp only at g8 j8
    have e1:IntKind.i64.wrap ((n:Int) - 1)=((n - 1:Nat):Int):=by rw[sO (by omega) (by omega)];omega
    simp(disch:=omega) [cur,hlx,e1,d5,VZ]
    refine hP (n - 1,_,i8,h9,x++ [y]) (g - 1) _ _ (by omega) ⟨by simp only;omega,j8,by simp;omega,fun z hz=> ?_⟩ (by simp(disch:=omega) [VZ];rfl) (by simp(disch:=omega) [VZ])
    rcases List.mem_append.1 hz with hz|hz
    ·exact a7 z hz
    ·simp only[List.mem_singleton]at hz;subst hz;exact g8
   case refine_2=>
    simp(disch:=omega) [cur,VZ]
    refine⟨[(true,bm.o ⟨k3,1+k1,k4,[],x⟩)],by simp[aJ,aO,aT,bm.o,ag],⟨k3,1+k1,k4,[],x⟩,i7,⟨⟨?_,by simp;try omega⟩,a5⟩,rfl,rfl⟩
    refine⟨⟨by simp only;omega,by simp only;omega⟩,⟨by simp only;omega,by simp only;omega⟩,⟨by simp only;omega,by simp only;omega⟩,by unfold Sz;simp;try omega,⟨by unfold Sz;simp only;omega,fun z hz=>by have:=a7 z hz;unfold Sz;omega⟩⟩
  case refine_2=>
   simp(disch:=omega) [VZ]
   refine av (de (1+k1) k4 (by omega) (by omega)) ?_
   simp(disch:=omega) [VZ]
   refine cY (σ:=Nat×Nat×Nat×Int×List Bytes) (f0:=_) (by simp(disch:=omega) [VZ];rfl) (cN.xU (s:=6) (k:=5) (i:=4) rfl rfl) (f1:=_) (es0:=_) (by simp(disch:=omega) [VZ];rfl) (by simp(disch:=omega) [VZ];rfl) (fun p=> [(7, .val false [.int .i64 (p.1:Int)]),(6, .box [.int .i64 (k3:Int), .int .i64 (1+(k1:Int)), .int .i64 (k4:Int), .ow 229376 24, .ow 5 p.2.1])]) (fun p=> [(4096, .pt 0 133 [.sl (bytes b), .int .i64 (p.2.2.1:Int), .int .i64 p.2.2.2.1]),(5, .sl p.2.1 true true (some (22,1)) (bz p.2.2.2.2))])
    (fun p g=>g=p.1∧p.2.2.1≤b.length∧p.2.2.2.2.length+p.1≤9∧∀t∈p.2.2.2.2,t.length=32) (bk k4 (1+k1),_,i5,h5,[]) (bk k4 (1+k1)) (by simp(disch:=omega) [VZ];rfl) (by simp(disch:=omega) [bz,VZ]) ⟨rfl,j5,by simp;omega,by simp⟩ ?_
   rintro⟨n,v,i7,h7,x⟩ nx g ⟨hg,a5,a6,a7⟩ P hP
   simp only at hg a5 a6 a7
   have hlx:(bz x).length=x.length:=aB x
   simp(disch:=omega) [VZ]
   refine ab (fun h8=> ?_) (fun h8=> ?_)
   case refine_1=>
    simp(disch:=omega) [VZ]
    refine cq (cC b i7 h7 a5 hb) ?_
    rintro⟨y,i8,h9⟩ ⟨g8,j8⟩
    simp only at g8 j8
    have e1:IntKind.i64.wrap ((n:Int) - 1)=((n - 1:Nat):Int):=by rw[sO (by omega) (by omega)];omega
    simp(disch:=omega) [cur,hlx,e1,d5,VZ]
    refine hP (n - 1,_,i8,h9,x++ [y]) (g - 1) _ _ (by omega) ⟨by simp only;omega,j8,by simp;omega,fun z hz=> ?_⟩ (by simp(disch:=omega) [VZ];rfl) (by simp(disch:=omega) [VZ])
    rcases List.mem_append.1 hz with hz|hz
    ·exact a7 z hz
    ·simp only[List.mem_singleton]at hz;subst hz;exact g8
   case refine_2=>
    simp(disch:=omega) [cur,VZ]
    refine⟨[(true,bm.o ⟨k3,1+k1,k4,x5,x⟩)],by simp[aJ,aO,aT,bm.o,ag],⟨k3,1+k1,k4,x5,x⟩,i7,⟨⟨?_,by simp;try omega⟩,a5⟩,rfl,rfl⟩
    refine⟨⟨by simp only;omega,by simp only;omega⟩,⟨by simp only;omega,by simp only;omega⟩,⟨by simp only;omega,by simp only;omega⟩,by unfold Sz;simp;try omega,⟨by unfold Sz;simp only;omega,fun z hz=>by have:=a7 z hz;unfold Sz;omega⟩⟩
theorem GO:fD.wc:=⟨⟨⟨by decide,by decide⟩,⟨by decide,by decide⟩,by simp[fD,Sz],by simp[fD,Sz],by simp[fD,Sz]⟩,fun x hx=>by simp[fD]at hx⟩
theorem Ei:aC.wc:=by
 refine⟨⟨by decide,by decide⟩,⟨⟨by decide,by decide⟩,⟨by decide,by decide⟩,by simp[aC,bx,Sz],⟨by decide,by decide⟩,by simp[aC,bx,Sz]⟩,GO,AJ,⟨⟨AJ,by simp[aC,aE,oE,Sz]⟩,by simp[aC,aE]⟩,⟨⟨by decide,by decide⟩,by simp[aC,ia,Sz],by simp[aC,ia]⟩,⟨⟨⟨by simp[aC,aK,Sz],by simp[aC,aK]⟩,GO.1⟩,by simp[aC,aK],GO⟩,⟨⟨by decide,by decide⟩,⟨by decide,by decide⟩,⟨by decide,by decide⟩,by simp[aC,bq,Sz],by simp[aC,bq,oE,Sz]⟩,by simp[aC,bq]⟩
abbrev m7:Nat:=134
def ob:AF:=⟨2,6,[.cell 4 45 true],(.seq (.ops [.i (.lbox 3 (.s 1)), .i (.lal 4 [.int .i64 0, .int .i64 0, .int .i64 0, .nils, .int .i64 0, .nils, .int .i64 0, .int .i64 0, .nils, .nils, .nils, .int .i64 0, .int .i64 0, .int .i64 0, .nils, .nils, .int .i64 0, .int .i64 0, .nils, .nils, .nils, .int .i64 0, .int .i64 0, .int .i64 0, .nils, .nils, .int .i64 0, .int .i64 0, .nils, .nils, .nils, .nils, .int .i64 0, .nils, .nils, .int .i64 0, .int .i64 0, .nils, .nils, .nils, .int .i64 0, .int .i64 0, .int .i64 0, .nils, .nils])]) (.seq (.seq (.ops [qm 5 0, .i (.call 7 97 false [(.s 5),(qi 9)])]) (.block 0 (.seq (.ops [.i (.bin 8 .eql (.s 6) (qi 0)),qm 7 8]) (.cond (.s 7) (.seq (.ops [qm 9 0,ql 10 3 3 5 true, .i (.call 12 185 false [(.s 9),(.s 10)]),qk 13 184 11,qs 4 4 12 45]) .ret) (.seq (.ops [.i (.bin 14 .eql (.s 6) (qi 1)),qm 13 14]) (.cond (.s 13) (.seq (.ops [qm 15 0,ql 16 3 3 5 true, .i (.call 18 187 false [(.s 15),(.s 16)]),qk 19 186 17,qs 4 4 18 45]) .ret) (.seq (.ops [.i (.bin 20 .eql (.s 6) (qi 2)),qm 19 20]) (.cond (.s 19) (.seq (.ops [qm 21 0,ql 22 3 3 5 true, .i (.call 24 189 false [(.s 21),(.s 22)]),qk 25 188 23,qs 4 4 24 45]) .ret) (.seq (.ops [.i (.bin 26 .eql (.s 6) (qi 3)),qm 25 26]) (.cond (.s 25) (.seq (.ops [qm 27 0,ql 28 3 3 5 true, .i (.call 30 191 false [(.s 27),(.s 28)]),qk 31 190 29,qs 4 4 30 45]) .ret) (.seq (.ops [.i (.bin 32 .eql (.s 6) (qi 4)),qm 31 32]) (.cond (.s 31) (.seq (.ops [qm 33 0,ql 34 3 3 5 true, .i (.call 36 193 false [(.s 33),(.s 34)]),qk 37 192 35,qs 4 4 36 45]) .ret) (.seq (.ops [.i (.bin 38 .eql (.s 6) (qi 5)),qm 37 38]) (.cond (.s 37) (.seq (.ops [qf 39 3 2,ql 40 3 39 1 false, .i (.bin 41 .gtr (.s 40) (qi 0))]) (.cond (.s 41) (.seq (.ops [qm 42 0,ql 43 3 3 5 true, .i (.call 45 195 false [(.s 42),(.s 43)]),qk 46 194 44,qs 4 4 45 45]) .ret) .skip)) .skip)))))))))))))) (.seq (.ops [qm 46 0,ql 47 3 3 5 true, .i (.call 49 161 false [(.s 46),(.s 47)]),qk 50 160 48,qs 4 4 49 45]) .ret)))⟩
theorem yA:cd m7=some ob:=by kernel_rfl
theorem GA (b:Bytes) (i:Nat) (h:Int) (l:aj) (hl:l.rd) (hi:i≤b.length) (hb:b.length≤1073741824):VC cd m7 (ic [] 133 (cur b i h) [(true,l.c)]) (fun r p=>∃x:bh×Nat×Int,(x.1.wc∧x.2.1≤b.length)∧r= [(true,x.1.o)]∧p= [.pt 133 (cur b x.2.1 x.2.2)]):=by
 refine VC.oQ ?_
 refine aw yA rfl ?_
 simp(disch:=omega) [ob,cur,aj.c,VZ]
 refine cq (an b i h 9 (by omega) hi hb) ?_
 rintro⟨k1,i1,h1⟩ ⟨g1,j1⟩
 simp only at g1 j1
 have hk:k1=0∨k1=1∨k1=2∨k1=3∨k1=4∨k1=5∨k1=6∨k1=7∨k1=8:=by omega
 rcases hk with rfl|rfl|rfl|rfl|rfl|rfl|hk
 ·simp(disch:=omega) [cur,VZ]
  refine cq (sN b i1 h1 l hl.1 j1 hb) ?_ (n1:=by intro _;simp(disch:=omega) [aj.c,Qc.o,VZ]) (n3:=by intro _;simp(disch:=omega) [aj.c,Qc.o,VZ])
  rintro⟨x2,i2,h2⟩ ⟨g2,j2⟩
  simp only at g2 j2
  simp(disch:=omega) [cur,Qc.o,VZ]
  refine av (tj x2 (g2.wc)) ?_ (ha:=by first|rfl|(simp[Qc.c,Head.c,Qc.c,VY] <;>repeat' constructor))
  simp(disch:=omega) [cur,CJ,aJ,aO,aT,VZ]
  exact⟨[(true,bh.o {aC with kind:=2,qc:=x2})],by simp[aJ,aO,aT,bh.o,aC,bx,fD,bb,aE,ia,aK,bq,ag,aU,aV,aS],{aC with kind:=2,qc:=x2},i2,⟨{Ei with kind:=⟨by simp only;omega,by simp only;omega⟩,qc:=g2.wc},j2⟩,rfl,rfl⟩
 ·simp(disch:=omega) [cur,VZ]
  refine cq (kA b i1 h1 l hl.1 j1 hb) ?_ (n1:=by intro _;simp(disch:=omega) [aj.c,Head.o,VZ]) (n3:=by intro _;simp(disch:=omega) [aj.c,Head.o,VZ])
  rintro⟨x2,i2,h2⟩ ⟨g2,j2⟩
  simp only at g2 j2
  simp(disch:=omega) [cur,Head.o,VZ]
  refine av (pF x2 g2) ?_ (ha:=by first|rfl|(simp[Head.c,Head.c,Qc.c,VY] <;>repeat' constructor))
  simp(disch:=omega) [cur,qw,aJ,aO,aT,VZ]
  exact⟨[(true,bh.o {aC with kind:=3,head:=x2})],by simp[aJ,aO,aT,bh.o,aC,bx,fD,bb,aE,ia,aK,bq,ag,aU,aV,aS],{aC with kind:=3,head:=x2},i2,⟨{Ei with kind:=⟨by simp only;omega,by simp only;omega⟩,head:=g2},j2⟩,rfl,rfl⟩
 ·simp(disch:=omega) [cur,VZ]
  refine cq (G3 b i1 h1 l hl j1 hb) ?_ (n1:=by intro _;simp(disch:=omega) [aj.c,Block.o,VZ]) (n3:=by intro _;simp(disch:=omega) [aj.c,Block.o,VZ])
  rintro⟨x2,i2,h2⟩ ⟨g2,j2⟩
  simp only at g2 j2
  simp(disch:=omega) [cur,Block.o,VZ]
  refine av (ma x2 g2.1) ?_ (ha:=by first|rfl|(simp[Block.c,Head.c,Qc.c,VY] <;>repeat' constructor))
  simp(disch:=omega) [cur,iY,aJ,aO,aT,VZ]
  exact⟨[(true,bh.o {aC with kind:=4,block:=x2})],by simp[aJ,aO,aT,bh.o,aC,bx,fD,bb,aE,ia,aK,bq,ag,aU,aV,aS],{aC with kind:=4,block:=x2},i2,⟨{Ei with kind:=⟨by simp only;omega,by simp only;omega⟩,block:=g2},j2⟩,rfl,rfl⟩
 ·simp(disch:=omega) [cur,VZ]
  refine cq (GX b i1 h1 l hl.1 j1 hb) ?_ (n1:=by intro _;simp(disch:=omega) [aj.c,Tc.o,VZ]) (n3:=by intro _;simp(disch:=omega) [aj.c,Tc.o,VZ])
  rintro⟨x2,i2,h2⟩ ⟨g2,j2⟩
  simp only at g2 j2
  simp(disch:=omega) [cur,Tc.o,VZ]
  refine av (um x2 g2) ?_ (ha:=by first|rfl|(simp[Tc.c,Head.c,Qc.c,VY] <;>repeat' constructor))
  simp(disch:=omega) [cur,Cc,aJ,aO,aT,VZ]
  exact⟨[(true,bh.o {aC with kind:=5,tc:=x2})],by simp[aJ,aO,aT,bh.o,aC,bx,fD,bb,aE,ia,aK,bq,ag,aU,aV,aS],{aC with kind:=5,tc:=x2},i2,⟨{Ei with kind:=⟨by simp only;omega,by simp only;omega⟩,tc:=g2},j2⟩,rfl,rfl⟩
 ·simp(disch:=omega) [cur,VZ]
  refine cq (GZ b i1 h1 l hl j1 hb) ?_ (n1:=by intro _;simp(disch:=omega) [aj.c,Proof.o,VZ]) (n3:=by intro _;simp(disch:=omega) [aj.c,Proof.o,VZ])
  rintro⟨x2,i2,h2⟩ ⟨g2,j2⟩
  simp only at g2 j2
  simp(disch:=omega) [cur,Proof.o,VZ]
  refine av (ly x2 g2) ?_ (ha:=by first|rfl|(simp[Proof.c,Head.c,Qc.c,VY] <;>repeat' constructor))
  simp(disch:=omega) [cur,j0,aJ,aO,aT,VZ]
  exact⟨[(true,bh.o {aC with kind:=6,proof:=x2})],by simp[aJ,aO,aT,bh.o,aC,bx,fD,bb,aE,ia,aK,bq,ag,aU,aV,aS],{aC with kind:=6,proof:=x2},i2,⟨{Ei with kind:=⟨by simp only;omega,by simp only;omega⟩,proof:=g2},j2⟩,rfl,rfl⟩
 ·simp(disch:=omega) [cur,VZ]
  refine ab (fun h5=> ?_) (fun h5=> ?_)
  case refine_2=>
   simp(disch:=omega) [VZ]
   refine cq (sS b i1 h1 l hl.1 j1 hb) ?_ (n1:=by intro _;simp(disch:=omega) [aj.c,bu.o,VZ]) (n3:=by intro _;simp(disch:=omega) [aj.c,bu.o,VZ])
   rintro⟨x2,i2,h2⟩ ⟨⟨g2,g3,g4,g5,g6⟩,j2⟩
   simp only at g2 g3 g4 g5 g6 j2
   have hw:x2.wf:=⟨dJ g2,dJ g3,by unfold Sz;omega,by have:=dv g5;have:=hl.1;exact⟨by omega,by omega⟩,by unfold Sz;omega⟩
   simp(disch:=omega) [cur,bu.o,VZ]
   refine av (eZ x2 hw) ?_ (ha:=by first|rfl|(simp[bu.c,VY] <;>repeat' constructor))
   simp(disch:=omega) [cur,iC,aJ,aO,aT,VZ]
   exact⟨[(true,bh.o {aC with kind:=1,vote:=x2})],by simp[aJ,aO,aT,bh.o,aC,bx,fD,bb,aE,ia,aK,bq,ag,aU,aV,aS],{aC with kind:=1,vote:=x2},i2,⟨{Ei with kind:=⟨by simp only;omega,by simp only;omega⟩,vote:=hw},j2⟩,rfl,rfl⟩
  simp(disch:=omega) [VZ]
  refine cq (G1 b i1 h1 l hl j1 hb) ?_ (n1:=by intro _;simp(disch:=omega) [aj.c,bm.o,VZ]) (n3:=by intro _;simp(disch:=omega) [aj.c,bm.o,VZ])
  rintro⟨x2,i2,h2⟩ ⟨g2,j2⟩
  simp only at g2 j2
  simp(disch:=omega) [cur,bm.o,VZ]
  refine av (pW x2 g2.1) ?_ (ha:=by first|rfl|(simp[bm.c,Head.c,Qc.c,VY] <;>repeat' constructor))
  simp(disch:=omega) [cur,qt,aJ,aO,aT,VZ]
  exact⟨[(true,bh.o {aC with kind:=7,incl:=x2})],by simp[aJ,aO,aT,bh.o,aC,bx,fD,bb,aE,ia,aK,bq,ag,aU,aV,aS],{aC with kind:=7,incl:=x2},i2,⟨{Ei with kind:=⟨by simp only;omega,by simp only;omega⟩,incl:=g2.1,tx:=by have:=g2.2;simp only;omega},j2⟩,rfl,rfl⟩
 ·have n0:¬k1=0∧¬k1=1∧¬k1=2∧¬k1=3∧¬k1=4∧¬k1=5:=by omega
  have n1:¬(k1:Int)=0∧¬(k1:Int)=1∧¬(k1:Int)=2∧¬(k1:Int)=3∧¬(k1:Int)=4∧¬(k1:Int)=5:=by omega
  simp(disch:=omega) [cur,n0.1,n0.2.1,n0.2.2.1,n0.2.2.2.1,n0.2.2.2.2.1,n0.2.2.2.2.2,n1.1,n1.2.1,n1.2.2.1,n1.2.2.2.1,n1.2.2.2.2.1,n1.2.2.2.2.2,VZ]
  refine cq (sS b i1 h1 l hl.1 j1 hb) ?_ (n1:=by intro _;simp(disch:=omega) [aj.c,bu.o,VZ]) (n3:=by intro _;simp(disch:=omega) [aj.c,bu.o,VZ])
  rintro⟨x2,i2,h2⟩ ⟨⟨g2,g3,g4,g5,g6⟩,j2⟩
  simp only at g2 g3 g4 g5 g6 j2
  have hw:x2.wf:=⟨dJ g2,dJ g3,by unfold Sz;omega,by have:=dv g5;have:=hl.1;exact⟨by omega,by omega⟩,by unfold Sz;omega⟩
  simp(disch:=omega) [cur,bu.o,VZ]
  refine av (eZ x2 hw) ?_ (ha:=by first|rfl|(simp[bu.c,VY] <;>repeat' constructor))
  simp(disch:=omega) [cur,iC,aJ,aO,aT,VZ]
  exact⟨[(true,bh.o {aC with kind:=1,vote:=x2})],by simp[aJ,aO,aT,bh.o,aC,bx,fD,bb,aE,ia,aK,bq,ag,aU,aV,aS],{aC with kind:=1,vote:=x2},i2,⟨{Ei with kind:=⟨by simp only;omega,by simp only;omega⟩,vote:=hw},j2⟩,rfl,rfl⟩
end Go.Eng.F
namespace Go.Eng.F
end Go.Eng.F
namespace Go.Eng.F
theorem At.le {b:Bytes} {a:Nat} {s:Bytes} (h:At b a s) (h0:0 < s.length):a+s.length≤b.length:=by
 rcases h.len with h1|h1
 ·exact h1
 ·rw[h1]at h0;simp at h0
def Cut (b:Bytes) (a:Nat) (s:Bytes):Prop:=a≤b.length∧∃k,k < s.length∧b.drop a=s.take k
theorem Cut.app {b:Bytes} {a:Nat} {s t:Bytes} (h:Cut b a (s++t)):Cut b a s∨(At b a s∧Cut b (a+s.length) t):=by
 obtain⟨h0,k,hk,h⟩:=h
 by_cases hs:k < s.length
 ·exact .inl ⟨h0,k,hs,by rw[h,List.take_append_of_le_length (by omega)]⟩
 ·have e:b.drop a=s++t.take (k - s.length):=by rw[h,List.take_append,List.take_of_length_le (by omega)]
  have hl:=congrArg List.length e
  simp only[List.length_drop,List.length_append,List.length_take]at hl hk
  refine .inr ⟨⟨_,e⟩,by omega,k - s.length,by omega,?_⟩
  rw[←List.drop_drop,e,List.drop_left]
theorem Cut.nil {b:Bytes} {a:Nat} (h:Cut b a []):False:=by
 obtain⟨_,k,hk,_⟩:=h
 simp at hk
end Go.Eng.F
namespace Go.Eng.F
theorem At.join {b:Bytes} {a:Nat} {s t:Bytes} (h1:At b a s) (h2:At b (a+s.length) t):At b a (s++t):=by
 obtain⟨u,h1⟩:=h1
 obtain⟨w,h2⟩:=h2
 refine⟨w,?_⟩
 rw[←List.drop_drop,h1,List.drop_left]at h2
 rw[h1,h2,List.append_assoc]
def Ib (b:Bytes) (r:Rd) (s:Bytes) (r':Rd):Prop:=r.er=0∧At b r.at_ s∧r'=⟨r.at_+s.length,0⟩
theorem Ib.nil {b:Bytes} {r:Rd} (h:r.er=0):Ib b r [] r:=⟨h,⟨b.drop r.at_,rfl⟩,by obtain⟨x,y⟩:=r;simp only at h;subst h;rfl⟩
theorem Ib.join {b:Bytes} {r r1 r2:Rd} {s t:Bytes} (h1:Ib b r s r1) (h2:Ib b r1 t r2):Ib b r (s++t) r2:=by
 obtain⟨a1,a2,rfl⟩:=h1
 obtain⟨_,b2,rfl⟩:=h2
 exact⟨a1,a2.join b2,by simp only[List.length_append,Nat.add_assoc]⟩
theorem Ib.er {b:Bytes} {r r1:Rd} {s:Bytes} (h:Ib b r s r1):r1.er=0:=by rw[h.2.2]
theorem Ib.len {b:Bytes} {r r':Rd} {s t:Bytes} {n m:Nat} (h:Ib b r (s++(bo n++t)) r') (e:m=n):Ib b r (s++(bo m++t)) r':=by
 rw[e]
 exact h
end Go.Eng.F
namespace Go.Eng.F
theorem Ib.rest {c:UInt8} {t s:Bytes} {r':Rd} (h:Ib (c::t) ⟨1,0⟩ s r') (ha:r'.at_=(c::t).length):t=s:=by
 obtain⟨_,⟨u,hu⟩,h2⟩:=h
 rw[h2]at ha
 simp only[List.length_cons]at ha
 simp only[List.drop_succ_cons,List.drop_zero]at hu
 have hl:=congrArg List.length hu
 rw[List.length_append]at hl
 have:u= []:=List.eq_nil_of_length_eq_zero (by omega)
 rw[this,List.append_nil]at hu
 exact hu
end Go.Eng.F
namespace Go.Eng.F
theorem O0 {l:aj} {v:bu} (hl:l.rd) (h:isNum v.view=true∧isNum v.height=true∧v.block.length=32∧cw v.who 0 (l.n - 1)=true∧v.tag.length=32):v.wf:=by
 obtain⟨g2,g3,g4,g5,g6⟩:=h
 exact⟨dJ g2,dJ g3,by unfold Sz;omega,by have:=dv g5;have:=hl.1;exact⟨by omega,by omega⟩,by unfold Sz;omega⟩
theorem Ly (i:Nat):Int.tdiv (i:Int) 256=((i / 256:Nat):Int):=by rw[Int.tdiv_eq_ediv_of_nonneg (by omega)];omega
theorem Le (i:Nat):Int.tmod (i:Int) 256=((i % 256:Nat):Int):=by rw[Int.tmod_eq_emod_of_nonneg (by omega)];omega
theorem Oh (n:Nat):b8 ((n % 256:Nat):Int)=b8 (n:Int):=by
 apply UInt8.toNat_inj.1
 have h1:=zN ((n % 256:Nat):Int)
 have h2:=zN (n:Int)
 have e:IntKind.u8.wrap ((n % 256:Nat):Int)=IntKind.u8.wrap (n:Int):=by simp[IntKind.wrap,IntKind.bits,IntKind.signed]
 rw[e,←h2]at h1
 omega
abbrev rP:Nat:=222
def rf:AF:=⟨3,6,[.tmp 6, .tmp 7],(.seq (.ops [.i (.mov 6 (.c (.val false [.nils]))), .i (.mov 7 (qb false))]) (.seq (.seq (.ops [qm 10 2, .i (.call 12 221 false [(.s 10),(qi 1),(qi 7)]), .i (.not 12 (.s 11)),qm 13 12, .g 13 false 15 (.mov 14 (.s 1)), .g 13 false 16 (.bin 15 .lss (.s 14) (qi 0)), .i (.pick 16 (.s 13) (qb true) (.s 15)),qm 17 16, .g 17 false 19 (.mov 18 (.s 1)), .g 17 false 20 (.mov 19 (.s 2)), .g 17 false 21 (.call 21 292 false [(.s 19)]), .g 17 false 22 (.bin 21 .geq (.s 18) (.s 20)), .i (.pick 22 (.s 17) (qb true) (.s 21))]) (.cond (.s 22) (.seq (.ops [.i (.mov 6 (.c (.val false [.nils]))), .i (.mov 7 (qb false))]) .ret) .skip)) (.seq (.ops [qm 23 0,qk 25 143 23,qm 8 24]) (.seq (.seq (.ops [.i (.mov 9 (qi 0))]) (.block 0 (.loop [37,36,35,34,33,32,31,30,29,28,27,26,25] (.seq (.seq (.ops [qm 25 9,qm 26 2,qd 27 .lss 25 26]) (.cond (.s 27) .skip (.exit 0))) (.seq (.block 1 (.seq (.ops [qm 30 8,qm 31 1, .i (.bin 32 .rem (.s 31) (qi 256)), .i (.cvi 33 .u8 (.s 32)), .i (.lsl 34 1 1 [.int .u8 0] [(0,1,(.s 33))]), .i (.app 35 5 1 1 (.s 30) (.s 34)),qm 8 35]) (.ops [qm 36 1, .i (.bin 37 .quo (.s 36) (qi 256)),qm 1 37]))) (.ops [qm 28 9, .i (.bin 29 .add (.s 28) (qi 1)),qm 9 29])))))) (.seq (.ops [qm 38 8,qm 6 38, .i (.mov 7 (qb true))]) .ret)))))⟩
theorem BA:cd rP=some rf:=by kernel_rfl
abbrev sn:Nat:=292
def iT:AF:=⟨1,3,[.tmp 2],(.seq (.ops [.i (.mov 2 (qi 0))]) (.seq (.ops [qm 3 0, .i (.bin 4 .mul (qi 8) (.s 3)), .i (.bin 5 .shl (qi 1) (.s 4)),qm 2 5]) .ret))⟩
theorem rI:cd sn=some iT:=by kernel_rfl
theorem mT (b:Bytes) (n w:Nat) (hb:b.length≤1073741824) (hw:w=2∨w=4) (hn:n < 256 ^ w):VC cd rP (aH [(false,[.sl (bytes b)]),(false,[.int .i64 (n:Int)]),(false,[.int .i64 (w:Int)])]) (fun rs _=>rs= [(false,[.o true (some (5,1)) (bytes (b++sD n w))]),(false,[.p (.bool true)])]):=by
 have w1:cw (w:Int) 1 7=true:=by simp only[cw,decide_eq_true_eq];omega
 have n0:¬(n:Int) < 0:=by omega
 have hw4:w≤4:=by omega
 have hW:256 ^ w≤4294967296:=by rcases hw with rfl|rfl <;>simp
 have ht:VC cd sn (aH [(false,[.int .i64 (w:Int)])]) (fun rs _=>rs=it ((256 ^ w:Nat):Int)):=by
  rcases hw with rfl|rfl
  ·have e0:IntKind.i64.wrap (2 ^ min 16 IntKind.i64.bits)=65536:=by decide
   refine aa rI rfl ?_
   simp(disch:=omega) [iT,e0,VY]
  ·have e0:IntKind.i64.wrap (2 ^ min 32 IntKind.i64.bits)=4294967296:=by decide
   refine aa rI rfl ?_
   simp(disch:=omega) [iT,e0,VY]
 have n1:¬((256 ^ w:Nat):Int)≤(n:Int):=by omega
 have n2:¬256 ^ w≤n:=by omega
 clear hw
 generalize 256 ^ w=W at hn ht n1 n2 hW
 refine aa BA rfl ?_
 simp(disch:=omega) [rf,VY]
 refine av (bK (w:Int) 1 7) ?_
 simp(disch:=omega) [w1,n0,n1,n2,VY]
 refine av (ht) ?_
 simp(disch:=omega) [w1,n0,n1,n2,VY]
 refine av (aY b (by omega)) ?_
 simp(disch:=omega) [VY]
 refine bH (σ:=Nat×Nat×Nat×Bytes) (f1:=_) (es0:=_) (by simp(disch:=omega) [VY];rfl) (by simp(disch:=omega) [VY];rfl) (fun p=> [(9, .val false [.int .i64 (p.1:Int)]),(1, .val false [.int .i64 (p.2.1:Int)]),(8, .val false [.ow 212992 p.2.2.1])]) (fun p=> [(212992, .sl p.2.2.1 true true (some (5,1)) (bytes p.2.2.2))])
  (fun p g=>g+p.1=w∧p.2.1=n / 256 ^ p.1∧p.2.2.2=b++sD n p.1) (0,n,_,b) w (by simp(disch:=omega) [VY];rfl) (by simp(disch:=omega) [VY]) ⟨by simp,by simp,by simp[sD]⟩ ?_
 rintro⟨i,q,v,x⟩ nx g ⟨hg,h4,h5⟩ P hP
 simp only at hg h4 h5
 have hq:q≤n:=by rw[h4];exact Nat.div_le_self _ _
 have hx:x.length≤1073741824+4:=by rw[h5,List.length_append,tg];omega
 simp(disch:=omega) [VY]
 refine ab (fun h6=> ?_) (fun h6=> ?_)
 ·have ef:x++ [b8 (q:Int)]=b++sD n (i+1):=by rw[h5,IF,List.append_assoc,h4]
  have hd:q / 256=n / 256 ^ (i+1):=by rw[h4,Nat.div_div_eq_div_mul,Nat.pow_succ]
  have eq:bytes x++ [[.int .u8 (IntKind.u8.wrap ((q % 256:Nat):Int))]]=bytes (b++sD n (i+1)):=by rw[yk,Oh,ef]
  have eq1:IntKind.u8.wrap ((q:Int).tmod 256)=IntKind.u8.wrap ((q % 256:Nat):Int):=by rw[Le]
  have eq2:IntKind.i64.wrap ((q:Int).tdiv 256)=((q / 256:Nat):Int):=by rw[Ly];exact sO (by omega) (by omega)
  have eq3:IntKind.i64.wrap ((q:Int) / 256)=((q / 256:Nat):Int):=by rw[←Int.tdiv_eq_ediv_of_nonneg (by omega)];exact eq2
  have eq4:bytes x++ [[.int .u8 (IntKind.u8.wrap ((q:Int) % 256))]]=bytes (b++sD n (i+1)):=by rw[←Int.tmod_eq_emod_of_nonneg (by omega),eq1];exact eq
  rw[←eq1]at eq
  generalize hr:q / 256=r at hd eq2 eq3
  simp(disch:=omega) [eq,eq2,eq3,eq4,VY]
  exact hP (i+1,r,_,b++sD n (i+1)) (g - 1) _ _ (by omega) ⟨by simp only;omega,hd,rfl⟩ (by simp(disch:=omega) [VY] <;>rfl) (by simp(disch:=omega) [VY])
 ·obtain rfl:i=w:=by omega
  subst h5
  simp(disch:=omega) [VY]
end Go.Eng.F
namespace Go.Eng.F
abbrev tk:Nat:=152
def uH:AF:=⟨2,6,[.tmp 4, .tmp 5],(.seq (.ops [.i (.lbox 2 (.s 0)), .i (.mov 4 (.c (.val false [.nils]))), .i (.mov 5 (qb false))]) (.seq (.seq (.ops [ql 8 2 2 5 true,qk 10 210 8, .i (.not 10 (.s 9)),qm 11 10, .g 11 false 13 (.mov 12 (.s 1)), .g 11 false 14 (.len 13 false (.s 12)), .g 11 false 15 (.fad 14 (.s 2) 3), .g 11 false 16 (.ldl 15 2 (.s 14) 1 false), .g 11 false 17 (.call 17 221 false [(.s 13),(qi 1),(.s 15)]), .g 11 false 18 (.not 17 (.s 16)), .i (.pick 18 (.s 11) (qb true) (.s 17))]) (.cond (.s 18) (.seq (.ops [.i (.mov 4 (.c (.val false [.nils]))), .i (.mov 5 (qb false))]) .ret) .skip)) (.seq (.ops [.i (.bsl 20 5 1 2 [.int .u8 0] [(0,1,(.c (.val false [.int .u8 181]))),(1,1,(.c (.val false [.int .u8 70])))]),qm 21 1,qn 22 21, .i (.call 24 222 false [(.s 20),(.s 22),(qi 2)]),qm 19 23, .i (.ext 24 (.s 19) 0), .i (.ext 25 (.s 19) 1),qm 6 24,qm 7 25]) (.seq (.ops [qm 27 6,qm 28 1,qk 30 223 28, .i (.call 31 222 false [(.s 27),(.s 29),(qi 4)]),qm 26 30, .i (.ext 31 (.s 26) 0), .i (.ext 32 (.s 26) 1),qm 6 31]) (.seq (.ops [qm 33 6,qm 34 1, .i (.app 35 5 1 1 (.s 33) (.s 34)),qm 4 35, .i (.mov 5 (qb true))]) .ret)))))⟩
theorem C7:cd tk=some uH:=by kernel_rfl
theorem fL (l:aj) (b:Bytes) (hb:b.length≤1073741824):VC cd tk (aH [(true,l.c),(false,[.sl (bytes b)])]) (fun rs _=>rs=vu l b):=by
 refine VC.oQ ?_
 refine aa C7 rfl ?_
 simp(disch:=omega) [uH,aj.c,VZ]
 refine av (bV l) ?_ (ha:=by first|rfl|(simp[aj.c,VY] <;>repeat' constructor))
 simp(disch:=omega) [VZ]
 by_cases h1:l.ok=true
 case neg=>simp(disch:=omega) [h1,vu,gF,ag,aJ,aO,aT,VZ]
 simp(disch:=omega) [h1,VZ]
 refine av (bK (b.length:Int) 1 l.frame) ?_
 by_cases h2:cw (b.length:Int) 1 l.frame=true
 case neg=>simp(disch:=omega) [h1,h2,vu,gF,ag,aJ,aO,aT,VZ]
 have hl:=na h1
 have hf:=h1
 simp only[aj.ok,cw,Bool.and_eq_true,decide_eq_true_eq]at hf
 have h3:=dv h2
 simp(disch:=omega) [h2,VZ]
 refine av (mT [181,70] b.length 2 (by simp) (.inl rfl) (by simp;omega)) ?_
 simp(disch:=omega) [VZ]
 refine av (EK b hb) ?_
 simp(disch:=omega) [VZ]
 refine av (mT (181::70::sD b.length 2) (JO b) 4 (by simp[tg]) (.inr rfl) (Oe b)) ?_
 have hr:vu l b= [(false,[.o true (some (5,1)) (bytes (vk b))]),(false,[.p (.bool true)])]:=by
  have:gF l b=true:=by rw[gF,h1,h2];rfl
  rw[vu,this];rfl
 rw[hr]
 simp(disch:=omega) [vk,br,tg,aJ,aO,aT,VZ]
end Go.Eng.F
namespace Go.Eng.F
def Ln:Nat→Bytes→List (Bool×List E)
 |0,x=> [(false,[.p (.sl (bytes x))])]
 |_+1,x=> [(false,[.o true (some (5,1)) (bytes x)])]
theorem HJ (f:Nat) (x:Bytes):bS (Ln f x)=1:=by cases f <;>rfl
theorem IC (x:Bytes) (j:Nat) (y z:Int):(bytes x).set j [.int .u8 (ay .xor .u8 y z)]=bytes (x.set j (b8 ((BitVec.ofInt IntKind.u8.bits y ^^^ BitVec.ofInt IntKind.u8.bits z).toNat:Int))):=gY x j _
abbrev oc:Nat:=136
def nL:AF:=⟨2,6,[.tmp 4],(.seq (.ops [.i (.mov 4 (.c (.val false [.nils])))]) (.seq (.ops [qm 7 1,qk 9 143 7,qm 5 8]) (.seq (.seq (.ops [qm 9 5,qn 10 9, .i (.bin 11 .eql (.s 10) (qi 0))]) (.cond (.s 11) (.seq (.ops [qm 12 0, .i (.call 14 138 false [(.s 12),(qi 3)]),qm 4 13]) .ret) .skip)) (.seq (.seq (.ops [qm 14 0, .i (.call 16 97 false [(.s 14),(qi 6)])]) (.block 0 (.seq (.ops [.i (.bin 17 .eql (.s 15) (qi 0)),qm 16 17]) (.cond (.s 16) (.seq (.ops [qm 18 5,qm 19 0,qm 20 5,qn 21 20, .i (.call 23 97 false [(.s 19),(.s 21)]), .i (.dQ 23 1 (.s 18) none (some (.s 22))),qm 4 23]) .ret) (.seq (.ops [.i (.bin 25 .eql (.s 15) (qi 1)),qm 24 25]) (.cond (.s 24) (.ops [qm 26 5,qm 27 0,qm 28 5,qn 29 28, .i (.call 31 97 false [(.s 27),(.s 29)]),qm 31 0,qk 33 162 31, .i (.cvi 33 .u8 (.s 32)), .i (.iad 34 (.s 26) (.s 30) 1), .i (.sth (.s 34) (.s 33) 1)]) (.seq (.ops [.i (.bin 36 .eql (.s 15) (qi 2)),qm 35 36]) (.cond (.s 35) (.seq (.ops [qm 37 0,qm 38 5,qn 39 38, .i (.call 41 97 false [(.s 37),(.s 39)]),qm 6 40]) (.ops [qm 41 5,qm 42 6,qm 43 5,qm 44 6, .i (.iad 45 (.s 43) (.s 44) 1), .i (.lde 46 (.s 45) 1 false 5),qm 47 0, .i (.cle 49 97 5 [(.s 47),(qi 8)]), .i (.bin 49 .shl (.c (.val false [.int .u8 1])) (.s 48)),qd 50 .xor 46 49, .i (.iad 51 (.s 41) (.s 42) 1), .i (.sth (.s 51) (.s 50) 1)])) (.seq (.ops [.i (.bin 53 .eql (.s 15) (qi 3)),qm 52 53]) (.cond (.s 52) (.seq (.ops [qm 54 5,qm 55 0,qk 57 162 55, .i (.cvi 57 .u8 (.s 56)), .i (.lsl 58 1 1 [.int .u8 0] [(0,1,(.s 57))]), .i (.app 59 5 1 1 (.s 54) (.s 58)),qm 4 59]) .ret) .skip)))))))))) (.seq (.ops [qm 60 5,qm 4 60]) .ret)))))⟩
theorem Aq:cd oc=some nL:=by kernel_rfl
theorem Gm (b:Bytes) (i:Nat) (h:Int) (s:Bytes) (hs:s.length≤1073741824) (hi:i≤b.length) (hb:b.length≤1073741824):VC cd oc (ic [] 133 (cur b i h) [(false,[.sl (bytes s)])]) (fun r p=>∃x:(Nat×Bytes)×Nat×Int,(x.1.2.length≤s.length+3∧x.2.1≤b.length)∧r=Ln x.1.1 x.1.2∧p= [.pt 133 (cur b x.2.1 x.2.2)]):=by
 refine aw Aq rfl ?_
 simp(disch:=omega) [nL,cur,VZ]
 refine av (aY s (by omega)) ?_
 simp(disch:=omega) [ae,VZ]
 by_cases h0:s= []
 case pos=>
  subst h0
  simp(disch:=omega) [VZ]
  refine cq (c7 b i h 3 (by omega) hi hb) ?_
  rintro⟨x1,i1,h1⟩ ⟨g1,j1⟩
  simp only at g1 j1
  simp(disch:=omega) [cur,VZ]
  exact⟨1,x1,i1,⟨by simpa using g1,j1⟩,rfl,rfl⟩
 have hp:=List.length_pos_iff.2 h0
 simp(disch:=omega) [h0,VZ]
 refine cq (an b i h 6 (by omega) hi hb) ?_
 rintro⟨k1,i1,h1⟩ ⟨g1,j1⟩
 simp only at g1 j1
 have hk:k1=0∨k1=1∨k1=2∨k1=3∨k1=4∨k1=5:=by omega
 rcases hk with rfl|rfl|rfl|rfl|rfl|rfl
 ·simp(disch:=omega) [cur,ae,VZ]
  refine cq (an b i1 h1 s.length (by omega) j1 hb) ?_
  rintro⟨k2,i2,h2⟩ ⟨g2,j2⟩
  simp only at g2 j2
  have hk2:k2 < s.length:=by omega
  have et:List.take k2 (bytes s)=bytes (s.take k2):=by simp[bytes]
  simp(disch:=omega) [cur,ae,show k2≤s.length by omega,et,VZ]
  exact⟨0,s.take k2,i2,⟨by rw[List.length_take];omega,j2⟩,rfl,rfl⟩
 ·simp(disch:=omega) [cur,ae,VZ]
  refine cq (an b i1 h1 s.length (by omega) j1 hb) ?_
  rintro⟨k2,i2,h2⟩ ⟨g2,j2⟩
  simp only at g2 j2
  have hk2:k2 < s.length:=by omega
  simp(disch:=omega) [cur,ae,VZ]
  refine cq (c9 b i2 h2 j2 hb) ?_
  rintro⟨k3,i3,h3⟩ ⟨g3,j3⟩
  simp only at g3 j3
  simp(disch:=omega) [cur,ae,bj hk2,gY,VZ]
  exact⟨1,_,i3,⟨by simp,j3⟩,rfl,rfl⟩
 ·simp(disch:=omega) [cur,ae,VZ]
  refine cq (an b i1 h1 s.length (by omega) j1 hb) ?_
  rintro⟨k2,i2,h2⟩ ⟨g2,j2⟩
  simp only at g2 j2
  have hk2:k2 < s.length:=by omega
  simp(disch:=omega) [cur,ae,bj hk2,VZ]
  simp(disch:=omega) [bj hk2,Ni,K7,Oa,VZ]
  refine Qb (an b i2 h2 8 (by omega) j2 hb) ?_
  rintro⟨k4,i4,h4⟩ ⟨g4,j4⟩
  simp only at g4 j4
  have n4:¬(k4:Int) < 0:=by omega
  simp(disch:=omega) [cur,ae,bj hk2,n4,IC,VZ]
  exact⟨1,_,i4,⟨by simp,j4⟩,rfl,rfl⟩
 ·simp(disch:=omega) [cur,ae,VZ]
  refine cq (c9 b i1 h1 j1 hb) ?_
  rintro⟨k3,i3,h3⟩ ⟨g3,j3⟩
  simp only at g3 j3
  simp(disch:=omega) [cur,ae,yk,VZ]
  exact⟨1,_,i3,⟨by simp,j3⟩,rfl,rfl⟩
 ·simp(disch:=omega) [cur,VZ]
  exact⟨1,s,i1,⟨by simp,j1⟩,rfl,rfl⟩
 ·simp(disch:=omega) [cur,VZ]
  exact⟨1,s,i1,⟨by simp,j1⟩,rfl,rfl⟩
end Go.Eng.F
namespace Go.Eng.F
theorem fO {u t:Bytes} {i j:Nat} (h:i+j≤u.length):((u++t).drop i).take j=(u.drop i).take j:=by
 rw[List.drop_append_of_le_length (by omega),List.take_append_of_le_length (by rw[List.length_drop];omega)]
theorem Ap {u t:Bytes} {i:Nat} (h:i < u.length):(u++t).getD i 0=u.getD i 0:=by
 simp only[List.getD_eq_getElem?_getD,List.getElem?_append_left h]
theorem GQ (s:Bytes) (a n:Nat):dy s a n=dy (s.drop a) 0 n:=by
 simp only[dy,List.drop_drop,Nat.zero_add]
theorem Dd (l:aj) (s:Bytes) (a:Nat):aq l s a=aq l (s.drop a) 0:=by
 have e1:∀i,(s.drop a).getD i 0=s.getD (a+i) 0:=fun i=>by simp only[List.getD_eq_getElem?_getD,List.getElem?_drop]
 have e2:u3 (s.drop a) 0=u3 s a:=by simp only[u3,List.drop_drop,Nat.zero_add]
 have e3:I2 (s.drop a) 0=I2 s a:=by simp only[I2,List.drop_drop,Nat.zero_add]
 have e4:HX (s.drop a) 0=HX s a:=by simp only[HX,List.drop_drop,Nat.zero_add,e2]
 have c1:(0 < (s.drop a).length)=(a < s.length):=propext (by rw[List.length_drop];omega)
 have c2:(1 < (s.drop a).length)=(a+1 < s.length):=propext (by rw[List.length_drop];omega)
 have c3:(s.drop a).length - 0=s.length - a:=by rw[List.length_drop];omega
 simp only[aq,c1,c2,c3,e1,e2,e3,e4,Nat.add_zero,Nat.zero_add]
theorem EP {l:aj} {u t:Bytes} (hu:u≠ []) (h:(aq l u 0).1≠1):aq l (u++t) 0=aq l u 0:=by
 have hp:=List.length_pos_iff.2 hu
 have hl:(u++t).length=u.length+t.length:=List.length_append
 unfold aq at h⊢
 by_cases h0:l.ok=true
 case neg=>rw[if_neg (fun x=>h0 x.1),if_neg (fun x=>h0 x.1)]
 have q1:l.ok=true∧0 < u.length:=⟨h0,hp⟩
 have q2:l.ok=true∧0 < (u++t).length:=⟨h0,by omega⟩
 rw[if_pos q1]at h
 rw[if_pos q2,if_pos q1]
 rw[Ap hp]
 by_cases h1:(u.getD 0 0).toNat=181
 case neg=>rw[if_neg h1,if_neg h1]
 rw[if_pos h1]at h
 rw[if_pos h1,if_pos h1]
 by_cases h2:0+1 < u.length∧¬(u.getD (0+1) 0).toNat=70
 ·have q3:0+1 < (u++t).length∧¬((u++t).getD (0+1) 0).toNat=70:=⟨by omega,by rw[Ap h2.1];exact h2.2⟩
  rw[if_pos h2,if_pos q3]
 rw[if_neg h2]at h
 rw[if_neg h2]
 by_cases h3:u.length - 0 < 4
 ·rw[if_pos h3]at h;exact absurd rfl h
 rw[if_neg h3]at h
 have q3:¬(0+1 < (u++t).length∧¬((u++t).getD (0+1) 0).toNat=70):=by
  rw[Ap (by omega)]
  exact fun x=>h2 ⟨by omega,x.2⟩
 have q4:¬(u++t).length - 0 < 4:=by omega
 rw[if_neg h3,if_neg q3,if_neg q4]
 have e2:u3 (u++t) 0=u3 u 0:=by simp only[u3];rw[fO (by omega)]
 rw[e2]
 by_cases h4:cw (u3 u 0) 1 l.frame=true
 case neg=>rw[if_pos h4,if_pos h4]
 have q6:¬¬cw (u3 u 0) 1 l.frame=true:=fun x=>x h4
 rw[if_neg q6]at h
 rw[if_neg q6,if_neg q6]
 by_cases h5:u.length - 0 < 8+u3 u 0
 ·rw[if_pos h5]at h;exact absurd rfl h
 have q5:¬(u++t).length - 0 < 8+u3 u 0:=by omega
 rw[if_neg h5,if_neg q5]
 have e3:I2 (u++t) 0=I2 u 0:=by simp only[I2];rw[fO (by omega)]
 have e4:HX (u++t) 0=HX u 0:=by simp only[HX,e2];rw[fO (by omega)]
 rw[e3,e4]
theorem IE {u t:Bytes} {n:Nat} (h9:9≤n) (h:0+n≤u.length):dy (u++t) 0 n=dy u 0 n:=by
 simp only[dy]
 rw[fO (by omega)]
theorem Dx {l:aj} {u:Bytes} (h:(aq l u 0).1=1):(u.length:Int)≤l.frame+7∨u.length < 4:=by
 unfold aq at h
 split at h
 ·split at h
  ·split at h
   ·simp at h
   ·split at h
    ·right;omega
    ·split at h
     ·simp at h
     ·rename_i h4
      rw[Decidable.not_not]at h4
      have:=dv h4
      split at h
      ·left;omega
      ·split at h <;>simp at h
  ·simp at h
 ·simp at h
def eM (l:aj) (cl:Bool):Nat→Bytes→Nat→List Ev×Nat×Bytes
 |0,u,k=>([],k,u)
 |g+1,u,k=>
  if u= []then([],k,[])
  else if(aq l u 0).1=1∧cl=false then([],k,u)
  else if(aq l u 0).1≠3 then eM l cl g (u.drop 1) (k+1)
  else((fI k++ [vc l (dy u 0 (aq l u 0).2.toNat)])++(eM l cl g (u.drop (aq l u 0).2.toNat) 0).1,(eM l cl g (u.drop (aq l u 0).2.toNat) 0).2)
theorem dH (l:aj) (cl:Bool) (g k:Nat):eM l cl g [] k=([],k,[]):=by
 cases g
 ·rfl
 ·rw[eM,if_pos rfl]
theorem Ee {l:aj} {s:Bytes} {cl:Bool}:∀(g a k:Nat) (e:List Ev),a≤s.length→c8 l s cl g a k e=(e++(eM l cl g (s.drop a) k).1,(eM l cl g (s.drop a) k).2.1,s.length - (eM l cl g (s.drop a) k).2.2.length)
 |0,a,k,e,h=>by simp[c8,eM];omega
 |g+1,a,k,e,h=>by
  by_cases h0:a < s.length
  ·have hu:s.drop a≠ []:=fun x=>by have:=congrArg List.length x;simp at this;omega
   rw[c8,if_pos h0,eM,if_neg hu,←Dd,←GQ]
   by_cases h1:(aq l s a).1=1∧cl=false
   ·rw[if_pos h1,if_pos h1]
    simp;omega
   ·rw[if_neg h1,if_neg h1]
    by_cases h2:(aq l s a).1≠3
    ·rw[if_pos h2,if_pos h2,Ee g (a+1) (k+1) e (by omega),List.drop_drop]
    ·rw[if_neg h2,if_neg h2]
     obtain⟨n,hn,h9,hl,_⟩:=gI (Decidable.not_not.1 h2)
     have e1:(aq l s a).2.toNat=n:=by rw[hn];rfl
     rw[e1,Ee g (a+n) 0 _ (by omega),List.drop_drop]
     simp only[List.append_assoc]
  ·have hu:s.drop a= []:=List.drop_eq_nil_of_le (by omega)
   rw[c8,if_neg h0,hu,dH]
   simp
   omega
theorem y0 {l:aj} {u:Bytes} (h:¬(aq l u 0).1≠3):∃n:Nat,aq l u 0=(3,(n:Int))∧(aq l u 0).2.toNat=n∧9≤n∧n≤u.length:=by
 obtain⟨n,hn,h9,hl,_⟩:=gI (Decidable.not_not.1 h)
 exact⟨n,hn,by rw[hn];rfl,h9,by omega⟩
theorem kl (l:aj) (cl:Bool):∀(n g g':Nat) (u:Bytes) (k:Nat),u.length≤n→u.length≤g→u.length≤g'→eM l cl g u k=eM l cl g' u k
 |n,0,g',u,k,_,h,_=>by
  have:u= []:=List.eq_nil_of_length_eq_zero (by omega)
  rw[this,dH,dH]
 |n,g+1,0,u,k,_,_,h=>by
  have:u= []:=List.eq_nil_of_length_eq_zero (by omega)
  rw[this,dH,dH]
 |0,g+1,g'+1,u,k,h,_,_=>by
  have:u= []:=List.eq_nil_of_length_eq_zero (by omega)
  rw[this,dH,dH]
 |n+1,g+1,g'+1,u,k,h,h1,h2=>by
  by_cases hu:u= []
  ·rw[hu,dH,dH]
  have hp:=List.length_pos_iff.2 hu
  rw[eM,eM,if_neg hu,if_neg hu]
  have e1:=kl l cl n g g' (u.drop 1) (k+1) (by rw[List.length_drop];omega) (by rw[List.length_drop];omega) (by rw[List.length_drop];omega)
  rw[e1]
  by_cases h3:(aq l u 0).1≠3
  ·simp only[if_pos h3]
  ·obtain⟨m,_,hm,h9,hl⟩:=y0 h3
   have e2:=kl l cl n g g' (u.drop m) 0 (by rw[List.length_drop];omega) (by rw[List.length_drop];omega) (by rw[List.length_drop];omega)
   rw[hm,e2]
def scan (l:aj) (cl:Bool) (u:Bytes) (k:Nat):List Ev×Nat×Bytes:=eM l cl u.length u k
theorem uM (l:aj) (cl:Bool) (k:Nat):scan l cl [] k=([],k,[]):=rfl
theorem CM {l:aj} {u:Bytes} {k:Nat} (hu:u≠ []) (h:(aq l u 0).1=1):scan l false u k=([],k,u):=by
 have hp:=List.length_pos_iff.2 hu
 obtain⟨g,hg⟩:∃g,u.length=g+1:=⟨u.length - 1,by omega⟩
 rw[scan,hg,eM,if_neg hu,if_pos ⟨h,rfl⟩]
theorem u9 {l:aj} {cl:Bool} {u:Bytes} {k:Nat} (hu:u≠ []) (h:¬((aq l u 0).1=1∧cl=false)) (h2:(aq l u 0).1≠3):scan l cl u k=scan l cl (u.drop 1) (k+1):=by
 have hp:=List.length_pos_iff.2 hu
 obtain⟨g,hg⟩:∃g,u.length=g+1:=⟨u.length - 1,by omega⟩
 rw[scan,hg,eM,if_neg hu,if_neg h,if_pos h2,scan]
 exact kl l cl g _ _ _ _ (by rw[List.length_drop];omega) (by rw[List.length_drop];omega) (Nat.le_refl _)
theorem vv {l:aj} {cl:Bool} {u:Bytes} {k n:Nat} (h:aq l u 0=(3,(n:Int))) (hn:9≤n) (hl:n≤u.length):scan l cl u k=((fI k++ [vc l (dy u 0 n)])++(scan l cl (u.drop n) 0).1,(scan l cl (u.drop n) 0).2):=by
 have hu:u≠ []:=by rintro rfl;simp at hl;omega
 obtain⟨g,hg⟩:∃g,u.length=g+1:=⟨u.length - 1,by omega⟩
 have e:eM l cl g (u.drop n) 0=scan l cl (u.drop n) 0:=kl l cl g _ _ _ _ (by rw[List.length_drop];omega) (by rw[List.length_drop];omega) (Nat.le_refl _)
 have e1:(aq l u 0).2.toNat=n:=by rw[h];rfl
 rw[scan,hg,eM,if_neg hu,if_neg (by rw[h];simp),if_neg (by rw[h];simp),e1,e]
theorem Ab (l:aj) (s:Bytes) (cl:Bool) (k:Nat):dV l s cl k=((scan l cl s k).1++(if cl=true then fI (scan l cl s k).2.1 else []),(scan l cl s k).2.1,s.length - (scan l cl s k).2.2.length):=by
 simp only[dV,Ee s.length 0 k [] (Nat.zero_le _),List.drop_zero,List.nil_append]
 rfl
theorem hG {l:aj}:∀(n:Nat) (u:Bytes) (k:Nat),u.length≤n→((scan l false u k).2.2= []∨(aq l (scan l false u k).2.2 0).1=1)∧(∃p,u=p++(scan l false u k).2.2)∧(scan l false u k).2.1+(scan l false u k).2.2.length≤k+u.length
 |0,u,k,h=>by
  have:u= []:=List.eq_nil_of_length_eq_zero (by omega)
  subst this
  exact⟨.inl rfl,⟨[],rfl⟩,by simp[uM]⟩
 |n+1,u,k,h=>by
  by_cases hu:u= []
  ·subst hu
   exact⟨.inl rfl,⟨[],rfl⟩,by simp[uM]⟩
  have hp:=List.length_pos_iff.2 hu
  by_cases h1:(aq l u 0).1=1
  ·rw[CM hu h1]
   exact⟨.inr h1,⟨[],rfl⟩,Nat.le_refl _⟩
  by_cases h2:(aq l u 0).1≠3
  ·rw[u9 hu (fun x=>h1 x.1) h2]
   obtain⟨a1,⟨p,a2⟩,a3⟩:=hG n (u.drop 1) (k+1) (by rw[List.length_drop];omega)
   refine⟨a1,⟨u.take 1++p,?_⟩,?_⟩
   ·rw[List.append_assoc,←a2,List.take_append_drop]
   ·rw[List.length_drop]at a3;omega
  ·obtain⟨m,hm,_,h9,hl⟩:=y0 h2
   rw[vv hm h9 hl]
   obtain⟨a1,⟨p,a2⟩,a3⟩:=hG n (u.drop m) 0 (by rw[List.length_drop];omega)
   refine⟨a1,⟨u.take m++p,?_⟩,?_⟩
   ·simp only
    rw[List.append_assoc,←a2,List.take_append_drop]
   ·rw[List.length_drop]at a3;simp only;omega
theorem AN {l:aj} {cl:Bool} {t:Bytes}:∀(n:Nat) (u:Bytes) (k:Nat),u.length≤n→scan l cl (u++t) k=((scan l false u k).1++(scan l cl ((scan l false u k).2.2++t) (scan l false u k).2.1).1,(scan l cl ((scan l false u k).2.2++t) (scan l false u k).2.1).2)
 |0,u,k,h=>by
  have:u= []:=List.eq_nil_of_length_eq_zero (by omega)
  subst this
  simp only[uM,List.nil_append]
 |n+1,u,k,h=>by
  by_cases hu:u= []
  ·subst hu
   simp only[uM,List.nil_append]
  have hp:=List.length_pos_iff.2 hu
  have hu2:u++t≠ []:=by simp[hu]
  by_cases h1:(aq l u 0).1=1
  ·rw[CM hu h1]
   simp only[List.nil_append]
  have e:=EP (t:=t) hu h1
  by_cases h2:(aq l u 0).1≠3
  ·rw[u9 (u:=u) hu (fun x=>h1 x.1) h2,u9 hu2 (by rw[e];exact fun x=>h1 x.1) (by rw[e];exact h2)]
   rw[List.drop_append_of_le_length (by omega)]
   exact AN n (u.drop 1) (k+1) (by rw[List.length_drop];omega)
  ·obtain⟨m,hm,_,h9,hl⟩:=y0 h2
   rw[vv hm h9 hl,vv (u:=u++t) (by rw[e];exact hm) h9 (by rw[List.length_append];omega)]
   rw[List.drop_append_of_le_length (by omega),IE h9 (by omega)]
   rw[AN n (u.drop m) 0 (by rw[List.length_drop];omega)]
   simp only[List.append_assoc]
def bQ (l:aj) (s:Bytes):cR:=⟨((scan l false s 0).2.1:Int),(scan l false s 0).2.2⟩
theorem J5 {l:aj} {s:Bytes} (hl:l.ok=true) (hs:s.length≤1073741824):sB l (bQ l s)=true:=by
 obtain⟨a1,⟨p,a2⟩,a3⟩:=hG (l:=l) s.length s 0 (Nat.le_refl _)
 have h1:isNum (bQ l s).skip=true:=by
  show isNum ((scan l false s 0).2.1:Int)=true
  simp only[isNum,cw,decide_eq_true_eq]
  omega
 simp only[sB,hl,h1,Bool.true_and,Bool.or_eq_true,decide_eq_true_eq]
 exact a1
theorem jE {l:aj} (s:Bytes):(bQ l s).buf.length≤s.length:=by
 obtain⟨a1,⟨p,a2⟩,a3⟩:=hG (l:=l) s.length s 0 (Nat.le_refl _)
 have:=congrArg List.length a2
 rw[List.length_append]at this
 simp only[bQ]
 omega
theorem yW {l:aj} {s b:Bytes} (hl:l.ok=true) (hs:s.length≤1073741824):feed l (bQ l s) b=(bQ l (s++b),(scan l false ((bQ l s).buf++b) (scan l false s 0).2.1).1)∧(scan l false (s++b) 0).1=(scan l false s 0).1++(scan l false ((bQ l s).buf++b) (scan l false s 0).2.1).1:=by
 have h:=AN (l:=l) (cl:=false) (t:=b) s.length s 0 (Nat.le_refl _)
 have ek:(bQ l s).skip.toNat=(scan l false s 0).2.1:=by simp[bQ]
 refine⟨?_,by rw[h];rfl⟩
 obtain⟨a1,⟨p,a2⟩,a3⟩:=hG (l:=l) ((bQ l s).buf++b).length ((bQ l s).buf++b) (scan l false s 0).2.1 (Nat.le_refl _)
 simp only[feed,if_pos (J5 hl hs),Ab,ek]
 have e3:((bQ l s).buf++b).drop (((bQ l s).buf++b).length - (scan l false ((bQ l s).buf++b) (scan l false s 0).2.1).2.2.length)=(scan l false ((bQ l s).buf++b) (scan l false s 0).2.1).2.2:=by
  generalize scan l false ((bQ l s).buf++b) (scan l false s 0).2.1=q at a2⊢
  rw[a2,List.length_append,Nat.add_sub_cancel,List.drop_left]
 rw[e3]
 simp only[Bool.false_eq_true,if_false,List.append_nil]
 congr 1
 simp only[bQ]
 rw[h]
theorem zq {l:aj} {s:Bytes} (hl:l.ok=true):tail l s=((scan l false s 0).2.1,(bQ l s).buf.length)∧(bQ l s).buf=s.drop (s.length - (bQ l s).buf.length):=by
 obtain⟨a1,⟨p,a2⟩,a3⟩:=hG (l:=l) s.length s 0 (Nat.le_refl _)
 have h2:=jE (l:=l) s
 refine⟨?_,?_⟩
 ·simp only[tail,if_pos hl,Ab]
  congr 1
  simp only[bQ]at h2⊢
  omega
 ·simp only[bQ]
  generalize scan l false s 0=q at a2⊢
  rw[a2,List.length_append,Nat.add_sub_cancel,List.drop_left]
theorem AM {l:aj} {s:Bytes} (hl:l.ok=true):((bQ l s).buf.length:Int)≤l.frame+7:=by
 obtain⟨a1,⟨p,a2⟩,a3⟩:=hG (l:=l) s.length s 0 (Nat.le_refl _)
 have hf:=hl
 simp only[aj.ok,cw,Bool.and_eq_true,decide_eq_true_eq]at hf
 rcases a1 with a1|a1
 ·simp only[bQ,a1,List.length_nil];omega
 ·have:=Dx a1
  simp only[bQ]
  omega
theorem GG (b:Bytes):(vk b).length=8+b.length:=by
 simp only[vk,List.length_append,List.length_cons,List.length_nil,tg]
end Go.Eng.F
namespace Go.Eng.F
end Go.Eng.F
namespace Go.Eng.F
theorem law_code {n:Nat} (hc:∀b:Bytes,VC cd n (aH [(false,[.sl (bytes b)])]) (fun rs _=>rs=bl true)):∀h vs,C4 h [.sl (.int .u8)] vs→WC cd n vs h (fun r _=>r= .val false [.bool true]):=by
 intro h vs ha
 obtain⟨cs,v,S,r,rfl,hv,hr⟩:=ha
 obtain⟨x,rfl⟩:=f8 hv.ok
 have e:IW [(.sl (.int .u8),A9 x)]= [(false,[.sl (bytes x)])]:=by simp only[IW,List.map,f7,Ty.agg]
 have hc:=hc x
 rw[←e]at hc
 have ha:km h [(.sl (.int .u8),A9 x)] ((Ty.agg (.sl (.int .u8)),cs)::r):=⟨cs,r,rfl,⟨S,hv⟩,hr⟩
 refine(hc.wc ha (ts:= [(.bool, .b true)]) fun rs q=>by rw[q];exact Pb true).mono ?_
 rintro r' h' ⟨t,css,S',rfl,rfl,hres,_⟩
 obtain⟨cs',cr,S1,S2,rfl,rfl,h1,h2⟩:=hres
 obtain⟨rfl,rfl⟩:=h2
 obtain⟨b,rfl,e2,_⟩:=h1.bool
 simp only[Tv.b.injEq]at e2
 subst e2
 rfl
end Go.Eng.F
namespace Go.Eng.F
end Go.Eng.F
namespace Go.Eng.F
theorem MB.wf {v:bu} (s:MB v):v.wf:=by
 have h1:=s.block
 have h2:=s.tag
 exact⟨dJ s.view,dJ s.height,by unfold Sz;omega,dJ s.who,by unfold Sz;omega⟩
structure Ev.Ov (l:aj) (k:Nat) (e:Ev):Prop where
 kind:e.kind=1∨e.kind=2∨e.kind=3
 n:e.kind=1→0≤e.n∧e.n≤k
 msg:e.kind=3→cF l e.msg=true
 wc:e.msg.wc
theorem Ev.Ov.up {l:aj} {k k':Nat} {e:Ev} (h:e.Ov l k) (hk:k≤k'):e.Ov l k':= {h with n:=fun x=>by have:=h.n x;omega}
end Go.Eng.F
namespace Go.Eng.F
theorem lz (l:aj) (m:bh) (hw:m.wc):VC cd iJ (aH [(true,l.c),(true,m.c)]) (fun rs _=>rs= [(false,[.o true (some (5,1)) (bytes (G8 l m))]),(false,[.p (.bool (cF l m))])]):=by
 refine VC.oQ ((AY l m hw).mono fun rs ps h=> ?_)
 subst h
 refine⟨_,?_,rfl⟩
 by_cases h:cF l m=true
 ·rw[cQ h];simp[G8,h,aJ,aO,aT]
 ·have h':cF l m=false:=by simpa using h
  rw[dR h'];simp[G8,h',aJ,aO,aT,ag]
def fr (l:aj) (b:Bytes):Bytes:=if gF l b=true then vk b else []
theorem p0 (l:aj) (b:Bytes):vu l b= [(false,[.o true (some (5,1)) (bytes (fr l b))]),(false,[.p (.bool (gF l b))])]:=rfl
theorem El (l:aj) (b:Bytes):(fr l b).length≤4008:=by
 unfold fr
 split
 ·rename_i h
  simp only[gF,aj.ok,cw,Bool.and_eq_true,decide_eq_true_eq]at h
  rw[GG]
  omega
 ·simp
theorem xh (x:bu) (hw:x.wf):VC cd iI (aH [(true,x.c)]) (fun r _=>∃m:bh,m.wc∧r= [(true,m.o)]):=by
 refine VC.oQ ((eZ x hw).mono fun rs ps h=> ?_)
 subst h
 exact⟨[(true,bh.o {aC with kind:=1,vote:=x})],by simp[iC,aJ,aO,aT,bh.o,aC,bx,fD,bb,aE,ia,aK,bq,ag,aU,aV,aS],{aC with kind:=1,vote:=x},{Ei with kind:=⟨by simp only;omega,by simp only;omega⟩,vote:=hw},rfl⟩
abbrev pj:Nat:=156
def ns:AF:=⟨2,6,[.tmp 4],(.seq (.ops [.i (.lbox 3 (.s 1)), .i (.mov 4 (.c (.val false [.nils])))]) (.seq (.ops [ql 10 3 3 5 true,qm 11 0,ql 12 3 3 5 true, .i (.call 14 161 false [(.s 11),(.s 12)]),qk 15 160 13, .i (.call 16 133 false [(.s 10),(.s 14)]),qm 9 15, .i (.ext 16 (.s 9) 0), .i (.ext 17 (.s 9) 1),qm 5 16,qm 6 17]) (.seq (.seq (.ops [qm 18 0, .i (.call 20 135 false [(.s 18),(qi 4)])]) (.cond (.s 19) (.ops [ql 21 3 3 5 true,qm 22 0,ql 23 3 3 5 true, .i (.call 25 134 false [(.s 22),(.s 23)]), .i (.call 26 133 false [(.s 21),(.s 24)]),qm 20 25, .i (.ext 26 (.s 20) 0), .i (.ext 27 (.s 20) 1),qm 5 26]) .skip)) (.seq (.seq (.ops [qm 28 0, .i (.call 30 135 false [(.s 28),(qi 6)])]) (.cond (.s 29) (.ops [qm 30 0, .i (.call 32 138 false [(.s 30),(qi 5)]), .i (.lsl 32 1 1 [.int .u8 0] [(0,1,(.c (.val false [.int .u8 1])))]), .i (.app 33 5 1 1 (.s 31) (.s 32)),qm 5 33]) .skip)) (.seq (.ops [ql 35 3 3 5 true,qm 36 5, .i (.call 38 152 false [(.s 35),(.s 36)]),qm 34 37, .i (.ext 38 (.s 34) 0), .i (.ext 39 (.s 34) 1),qm 7 38,qm 8 39]) (.seq (.ops [qm 40 7,qm 4 40]) .ret))))))⟩
theorem yH:cd pj=some ns:=by kernel_rfl
theorem sE (b:Bytes) (i:Nat) (h:Int) (l:aj) (hl:l.rd) (hi:i≤b.length) (hb:b.length≤1073741824):VC cd pj (ic [] 133 (cur b i h) [(true,l.c)]) (fun r p=>∃x:Bytes×Nat×Int,(x.1.length≤4008∧x.2.1≤b.length)∧r= [(false,[.o true (some (5,1)) (bytes x.1)])]∧p= [.pt 133 (cur b x.2.1 x.2.2)]):=by
 refine aw yH rfl ?_
 simp(disch:=omega) [ns,cur,aj.c,VZ]
 refine cq (sS b i h l hl.1 hi hb) ?_ (n1:=by intro _;simp(disch:=omega) [aj.c,bu.o,VZ]) (n3:=by intro _;simp(disch:=omega) [aj.c,bu.o,VZ])
 rintro⟨x1,i1,h1⟩ ⟨g1,j1⟩
 simp only at g1 j1
 have hw:=O0 hl g1
 simp(disch:=omega) [cur,bu.o,VZ]
 refine PV (xh x1 hw) ?_ (ha:=by first|rfl|(simp[bu.c,VY] <;>repeat' constructor))
 intro m1 g2
 simp(disch:=omega) [bh.o,VZ]
 refine av (lz l m1 g2) ?_ (ha:=by first|rfl|(simp[aj.c,bh.c,VY] <;>repeat' constructor))
 have n1:=Fe l m1
 simp(disch:=omega) [VZ]
 refine cq (fx b i1 h1 4 (by omega) j1 hb) ?_
 rintro⟨o1,i2,h2⟩ j2
 simp only at j2
 cases o1
 ·simp(disch:=omega) [cur,VZ]
  refine cq (fx b i2 h2 6 (by omega) j2 hb) ?_
  rintro⟨o2,i3,h3⟩ j3
  simp only at j3
  cases o2
  ·simp(disch:=omega) [cur,aj.c,VZ]
   refine av (fL l (G8 l m1) (by omega)) ?_ (ha:=by first|rfl|(simp[aj.c,VY] <;>repeat' constructor))
   simp(disch:=omega) [p0,VZ]
   exact⟨_,i3,⟨El _ _,j3⟩,rfl,rfl⟩
  ·simp(disch:=omega) [cur,aj.c,VZ]
   refine cq (c7 b i3 h3 5 (by omega) j3 hb) ?_
   rintro⟨y,i4,h4⟩ ⟨g4,j4⟩
   simp only at g4 j4
   simp(disch:=omega) [cur,ae,VZ]
   refine av (fL l (y++ [1]) (by simp;omega)) ?_ (ha:=by first|rfl|(simp[aj.c,bytes,VY] <;>repeat' constructor))
   simp(disch:=omega) [p0,VZ]
   exact⟨_,i4,⟨El _ _,j4⟩,rfl,rfl⟩
 ·simp(disch:=omega) [cur,aj.c,VZ]
  refine cq (GA b i2 h2 l hl j2 hb) ?_ (n1:=by intro _;simp(disch:=omega) [aj.c,bh.o,VZ]) (n3:=by intro _;simp(disch:=omega) [aj.c,bh.o,VZ])
  rintro⟨m2,i5,h5⟩ ⟨g5,j5⟩
  simp only at g5 j5
  simp(disch:=omega) [cur,bh.o,VZ]
  refine av (lz l m2 g5) ?_ (ha:=by first|rfl|(simp[aj.c,bh.c,VY] <;>repeat' constructor))
  have n2:=Fe l m2
  simp(disch:=omega) [VZ]
  refine cq (fx b i5 h5 6 (by omega) j5 hb) ?_
  rintro⟨o2,i3,h3⟩ j3
  simp only at j3
  cases o2
  ·simp(disch:=omega) [cur,aj.c,VZ]
   refine av (fL l (G8 l m2) (by omega)) ?_ (ha:=by first|rfl|(simp[aj.c,VY] <;>repeat' constructor))
   simp(disch:=omega) [p0,VZ]
   exact⟨_,i3,⟨El _ _,j3⟩,rfl,rfl⟩
  ·simp(disch:=omega) [cur,aj.c,VZ]
   refine cq (c7 b i3 h3 5 (by omega) j3 hb) ?_
   rintro⟨y,i4,h4⟩ ⟨g4,j4⟩
   simp only at g4 j4
   simp(disch:=omega) [cur,ae,VZ]
   refine av (fL l (y++ [1]) (by simp;omega)) ?_ (ha:=by first|rfl|(simp[aj.c,bytes,VY] <;>repeat' constructor))
   simp(disch:=omega) [p0,VZ]
   exact⟨_,i4,⟨El _ _,j4⟩,rfl,rfl⟩
end Go.Eng.F
namespace Go.Eng.F
abbrev jl:Nat:=90
def jK:AF:=⟨2,6,[.tmp 4],(.seq (.ops [.i (.lbox 3 (.s 1)), .i (.mov 4 (.c (.val false [.nils])))]) (.seq (.ops [.i (.bse 7),qm 5 7]) (.seq (.seq (.ops [qm 8 0, .i (.call 10 97 false [(.s 8),(qi 4)]),qm 6 9]) (.block 0 (.loop [48,47,46,45,44,43,42,41,40,39,38,37,36,35,34,33,32,31,30,29,28,27,26,25,24,23,22,21,20,19,18,17,16,15,14,13,12,11,10] (.seq (.seq (.ops [qm 10 6, .i (.bin 11 .gtr (.s 10) (qi 0))]) (.cond (.s 11) .skip (.exit 0))) (.seq (.block 1 (.seq (.ops [qm 14 0, .i (.call 16 97 false [(.s 14),(qi 6)])]) (.block 2 (.seq (.ops [.i (.bin 22 .eql (.s 15) (qi 0)),qm 21 22]) (.cond (.s 21) (.ops [qm 23 5,qm 24 0, .i (.call 26 138 false [(.s 24),(qi 4)]), .i (.app 26 5 1 1 (.s 23) (.s 25)),qm 5 26]) (.seq (.ops [.i (.bin 28 .eql (.s 15) (qi 1)),qm 27 28]) (.cond (.s 27) (.ops [qm 29 5, .i (.lsl 30 1 1 [.int .u8 0] [(0,1,(.c (.val false [.int .u8 181])))]), .i (.app 31 5 1 1 (.s 29) (.s 30)),qm 5 31]) (.seq (.ops [.i (.bin 33 .eql (.s 15) (qi 2)),qm 32 33]) (.cond (.s 32) (.ops [qm 34 5,qm 35 0, .i (.call 37 97 false [(.s 35),(qi 90)]), .i (.cvi 37 .u8 (.s 36)), .i (.lsl 38 1 4 [.int .u8 0] [(0,1,(.c (.val false [.int .u8 181]))),(1,1,(.c (.val false [.int .u8 70]))),(2,1,(.s 37)),(3,1,(.c (.val false [.int .u8 0])))]), .i (.app 39 5 1 1 (.s 34) (.s 38)),qm 5 39]) (.seq (.ops [.i (.bin 41 .eql (.s 15) (qi 3)),qm 40 41]) (.cond (.s 40) (.ops [qm 42 5,qm 43 0,qm 44 0,ql 45 3 3 5 true, .i (.call 47 156 false [(.s 44),(.s 45)]), .i (.call 48 136 false [(.s 43),(.s 46)]), .i (.app 48 5 1 1 (.s 42) (.s 47)),qm 5 48]) (.ops [qm 16 5,qm 17 0,ql 18 3 3 5 true, .i (.call 20 156 false [(.s 17),(.s 18)]), .i (.app 20 5 1 1 (.s 16) (.s 19)),qm 5 20])))))))))))) (.ops [qm 12 6, .i (.bin 13 .sub (.s 12) (qi 1)),qm 6 13])))))) (.seq (.ops [qm 49 5,qm 4 49]) .ret))))⟩
theorem vt:cd jl=some jK:=by kernel_rfl
theorem tV (b:Bytes) (i:Nat) (h:Int) (l:aj) (hl:l.rd) (hi:i≤b.length) (hb:b.length≤1073741824):VC cd jl (ic [] 133 (cur b i h) [(true,l.c)]) (fun r p=>∃x:Bytes×Nat×Int,(x.1.length≤12033∧x.2.1≤b.length)∧r= [(false,[.o true (some (5,1)) (bytes x.1)])]∧p= [.pt 133 (cur b x.2.1 x.2.2)]):=by
 have e181:∀x:Bytes,bytes x++ [[.int .u8 181]]=bytes (x++ [181]):=fun x=>by simp[bytes]
 have e4:∀(x:Bytes) (k:Int),bytes x++ [[.int .u8 181],[.int .u8 70],[.int .u8 (IntKind.u8.wrap k)],[.int .u8 0]]=bytes (x++ [181,70,b8 k,0]):=fun x k=>by
  have e:x++ [181,70,b8 k,0]=((x++ [181,70])++ [b8 k])++ [0]:=by simp
  rw[e,←br,←yk]
  simp[bytes]
 refine aw vt rfl ?_
 simp(disch:=omega) [jK,cur,aj.c,VZ]
 refine cq (an b i h 4 (by omega) hi hb) ?_
 rintro⟨k,i1,h1⟩ ⟨g1,j1⟩
 simp only at g1 j1
 simp(disch:=omega) [cur,VZ]
 refine bH (σ:=Nat×Nat×Nat×Int×Bytes) (f1:=_) (es0:=_) (by simp(disch:=omega) [VZ];rfl) (by simp(disch:=omega) [VZ];rfl) (fun p=> [(6, .val false [.int .i64 (p.1:Int)]),(5, .val false [.ow 7 p.2.1])]) (fun p=> [(4096, .pt 0 133 [.sl (bytes b), .int .i64 (p.2.2.1:Int), .int .i64 p.2.2.2.1]),(7, .sl p.2.1 true true (some (5,1)) (bytes p.2.2.2.2))])
  (fun p g=>g=p.1∧p.2.2.1≤b.length∧p.2.2.2.2.length+4011 * p.1≤12033) (k,_,i1,h1,[]) k (by simp(disch:=omega) [VZ];rfl) (by simp(disch:=omega) [bytes,VZ]) ⟨rfl,j1,by simp;omega⟩ ?_
 rintro⟨n,v,i2,h2,x⟩ nx g ⟨hg,h5,h6⟩ P hP
 simp only at hg h5 h6
 simp(disch:=omega) [VZ]
 refine ab (fun h8=> ?_) (fun h8=> ?_)
 ·have e1:IntKind.i64.wrap ((n:Int) - 1)=((n - 1:Nat):Int):=by rw[sO (by omega) (by omega)];omega
  simp(disch:=omega) [VZ]
  refine cq (an b i2 h2 6 (by omega) h5 hb) ?_
  rintro⟨q,i3,h3⟩ ⟨g3,j3⟩
  simp only at g3 j3
  have hq:q=0∨q=1∨q=2∨q=3∨q=4∨q=5:=by omega
  rcases hq with rfl|rfl|rfl|rfl|rfl|rfl
  ·simp(disch:=omega) [cur,VZ]
   refine cq (c7 b i3 h3 4 (by omega) j3 hb) ?_
   rintro⟨y,i4,h4⟩ ⟨g4,j4⟩
   simp only at g4 j4
   simp(disch:=omega) [cur,e1,br,ae,VZ]
   exact hP (n - 1,_,i4,h4,x++y) (g - 1) _ _ (by omega) ⟨by simp only;omega,j4,by simp;omega⟩ (by simp(disch:=omega) [VZ];rfl) (by simp(disch:=omega) [VZ])
  ·simp(disch:=omega) [cur,e1,e181,ae,VZ]
   exact hP (n - 1,_,i3,h3,x++ [181]) (g - 1) _ _ (by omega) ⟨by simp only;omega,j3,by simp;omega⟩ (by simp(disch:=omega) [VZ];rfl) (by simp(disch:=omega) [VZ])
  ·simp(disch:=omega) [cur,VZ]
   refine cq (an b i3 h3 90 (by omega) j3 hb) ?_
   rintro⟨y,i4,h4⟩ ⟨g4,j4⟩
   simp only at g4 j4
   simp(disch:=omega) [cur,e1,e4,ae,VZ]
   exact hP (n - 1,_,i4,h4,x++ [181,70,b8 y,0]) (g - 1) _ _ (by omega) ⟨by simp only;omega,j4,by simp;omega⟩ (by simp(disch:=omega) [VZ];rfl) (by simp(disch:=omega) [VZ])
  ·simp(disch:=omega) [cur,aj.c,VZ]
   refine cq (sE b i3 h3 l hl j3 hb) ?_ (n1:=by intro _;simp(disch:=omega) [aj.c,VZ]) (n3:=by intro _;simp(disch:=omega) [aj.c,VZ])
   rintro⟨y,i4,h4⟩ ⟨g4,j4⟩
   simp only at g4 j4
   simp(disch:=omega) [cur,VZ]
   refine cq (Gm b i4 h4 y (by omega) j4 hb) ?_ (n1:=by intro _;simp(disch:=omega) [HJ,VZ]) (n3:=by intro _;simp(disch:=omega) [HJ,VZ])
   rintro⟨⟨fl,z⟩,i5,h5'⟩ ⟨g5,j5⟩
   simp only at g5 j5
   cases fl
   ·simp(disch:=omega) [cur,Ln,e1,br,ae,VZ]
    exact hP (n - 1,_,i5,h5',x++z) (g - 1) _ _ (by omega) ⟨by simp only;omega,j5,by simp;omega⟩ (by simp(disch:=omega) [VZ];rfl) (by simp(disch:=omega) [VZ])
   ·simp(disch:=omega) [cur,Ln,e1,br,ae,VZ]
    exact hP (n - 1,_,i5,h5',x++z) (g - 1) _ _ (by omega) ⟨by simp only;omega,j5,by simp;omega⟩ (by simp(disch:=omega) [VZ];rfl) (by simp(disch:=omega) [VZ])
  ·simp(disch:=omega) [cur,aj.c,VZ]
   refine cq (sE b i3 h3 l hl j3 hb) ?_ (n1:=by intro _;simp(disch:=omega) [aj.c,VZ]) (n3:=by intro _;simp(disch:=omega) [aj.c,VZ])
   rintro⟨y,i4,h4⟩ ⟨g4,j4⟩
   simp only at g4 j4
   simp(disch:=omega) [cur,e1,br,ae,VZ]
   exact hP (n - 1,_,i4,h4,x++y) (g - 1) _ _ (by omega) ⟨by simp only;omega,j4,by simp;omega⟩ (by simp(disch:=omega) [VZ];rfl) (by simp(disch:=omega) [VZ])
  ·simp(disch:=omega) [cur,aj.c,VZ]
   refine cq (sE b i3 h3 l hl j3 hb) ?_ (n1:=by intro _;simp(disch:=omega) [aj.c,VZ]) (n3:=by intro _;simp(disch:=omega) [aj.c,VZ])
   rintro⟨y,i4,h4⟩ ⟨g4,j4⟩
   simp only at g4 j4
   simp(disch:=omega) [cur,e1,br,ae,VZ]
   exact hP (n - 1,_,i4,h4,x++y) (g - 1) _ _ (by omega) ⟨by simp only;omega,j4,by simp;omega⟩ (by simp(disch:=omega) [VZ];rfl) (by simp(disch:=omega) [VZ])
 ·simp(disch:=omega) [cur,VZ]
  exact⟨x,i2,⟨by omega,h5⟩,rfl,rfl⟩
end Go.Eng.F
namespace Go.Eng.F
abbrev iD:Nat:=15
def iv:AF:=⟨2,5,[.tmp 4],(.seq (.ops [.i (.lbox 3 (.s 1)), .i (.mov 4 (.c (.val false [.nils])))]) (.seq (.ops [qm 7 0,qk 9 88 7,qm 5 8]) (.seq (.ops [qm 9 5,qm 10 5, .i (.nch 11 (.s 10)),qf 12 11 2, .i (.ldh 13 (.s 12) 1 false), .i (.bin 14 .add (.s 13) (qi 31)), .i (.nch 15 (.s 9)),qf 16 15 2, .i (.sth (.s 16) (.s 14) 1)]) (.seq (.ops [qm 17 5,ql 18 3 3 5 true, .i (.call 20 90 false [(.s 17),(.s 18)]),qm 6 19]) (.seq (.ops [qm 20 6,qm 21 5,ql 22 3 3 5 true, .i (.call 24 90 false [(.s 21),(.s 22)]), .i (.app 24 5 1 1 (.s 20) (.s 23)),qm 4 24]) .ret)))))⟩
theorem uK:cd iD=some iv:=by kernel_rfl
theorem Be (b:Bytes) (l:aj) (hl:l.ok=true) (hb:b.length≤1073741824):VC cd iD (aH [(false,[.sl (bytes b)]),(true,l.c)]) (fun r _=>∃x:Bytes,x.length≤24066∧r= [(false,[.o true (some (5,1)) (bytes x)])]):=by
 have hL:=na hl
 refine aa uK rfl ?_
 simp(disch:=omega) [iv,aj.c,VY]
 refine Px (u6 b hb) ?_
 intro h _
 simp(disch:=omega) [cur,Dc,VZ]
 refine cq (tV b 0 _ l hL (Nat.zero_le _) hb) ?_ (n1:=by intro _;simp(disch:=omega) [aj.c,VZ]) (n3:=by intro _;simp(disch:=omega) [aj.c,VZ])
 rintro⟨x,i1,h1⟩ ⟨g1,j1⟩
 simp only at g1 j1
 simp(disch:=omega) [cur,aj.c,VZ]
 refine cq (tV b i1 h1 l hL j1 hb) ?_ (n1:=by intro _;simp(disch:=omega) [aj.c,VZ]) (n3:=by intro _;simp(disch:=omega) [aj.c,VZ])
 rintro⟨y,i2,h2⟩ ⟨g2,j2⟩
 simp only at g2 j2
 simp(disch:=omega) [cur,br,ae,VZ]
 exact⟨x++y,by simp;omega,rfl⟩
abbrev jH:Nat:=91
def jq:AF:=⟨2,6,[.tmp 4],(.seq (.ops [.i (.mov 4 (.c (.val false [.nils])))]) (.seq (.ops [.i (.bse 7),qm 5 7]) (.seq (.block 0 (.loop [38,37,36,35,34,33,32,31,30,29,28,27,26,25,24,23,22,21,20,19,18,17,16,15,14,13,12,11,10,9,8,6] (.seq (.seq (.ops [qm 8 1,qn 9 8, .i (.bin 10 .gtr (.s 9) (qi 0)),qm 11 10, .g 11 true 13 (.mov 12 (.s 5)), .g 11 true 14 (.len 13 false (.s 12)), .g 11 true 15 (.bin 14 .lss (.s 13) (qi 9)), .i (.pick 15 (.s 11) (.s 14) (qb false))]) (.cond (.s 15) .skip (.exit 0))) (.block 1 (.seq (.ops [qm 16 0,qm 17 1,qn 18 17, .i (.bin 19 .add (.s 18) (qi 1)), .i (.call 21 97 false [(.s 16),(.s 19)]),qm 6 20]) (.seq (.seq (.ops [qm 21 0, .i (.call 23 135 false [(.s 21),(qi 2)]),qm 23 22, .g 23 true 25 (.mov 24 (.s 6)), .g 23 true 26 (.bin 25 .gtr (.s 24) (qi 6)), .i (.pick 26 (.s 23) (.s 25) (qb false))]) (.cond (.s 26) (.ops [qm 27 0, .i (.call 29 97 false [(.s 27),(qi 7)]),qm 6 28]) .skip)) (.seq (.ops [qm 29 5,qm 30 1,qm 31 6, .i (.dQ 32 1 (.s 30) none (some (.s 31))),qk 34 143 32, .i (.lsl 34 1 1 [.nils] [(0,1,(.s 33))]), .i (.app 35 22 1 24 (.s 29) (.s 34)),qm 5 35]) (.ops [qm 36 1,qm 37 6, .i (.dQ 38 1 (.s 36) (some (.s 37)) none),qm 1 38])))))))) (.seq (.ops [qm 39 5,qm 40 1,qk 42 143 40, .i (.lsl 42 1 1 [.nils] [(0,1,(.s 41))]), .i (.app 43 22 1 24 (.s 39) (.s 42)),qm 4 43]) .ret))))⟩
theorem vL:cd jH=some jq:=by kernel_rfl
theorem Dt (b:Bytes) (i:Nat) (h:Int) (s:Bytes) (hs:s.length≤1073741824) (hi:i≤b.length) (hb:b.length≤1073741824):VC cd jH (ic [] 133 (cur b i h) [(false,[.sl (bytes s)])]) (fun r p=>∃x:List Bytes×Nat×Int,((x.1.length≤10∧x.1.flatten=s)∧x.2.1≤b.length)∧r= [(false,[.o true (some (22,1)) (bz x.1)])]∧p= [.pt 133 (cur b x.2.1 x.2.2)]):=by
 refine aw vL rfl ?_
 simp(disch:=omega) [jq,cur,VZ]
 refine bH (σ:=Bytes×Nat×Nat×Int×List Bytes) (f1:=_) (es0:=_) (by simp(disch:=omega) [VZ];rfl) (by simp(disch:=omega) [VZ];rfl) (fun p=> [(1, .val false [.sl (bytes p.1)]),(5, .val false [.ow 7 p.2.1])]) (fun p=> [(4096, .pt 0 133 [.sl (bytes b), .int .i64 (p.2.2.1:Int), .int .i64 p.2.2.2.1]),(7, .sl p.2.1 true true (some (22,1)) (bz p.2.2.2.2))])
  (fun p g=>g+p.2.2.2.2.length=9∧p.2.2.1≤b.length∧p.2.2.2.2.flatten++p.1=s) (s,_,i,h,[]) 9 (by simp(disch:=omega) [VZ];rfl) (by simp(disch:=omega) [bz,VZ]) ⟨by simp,hi,by simp⟩ ?_
 rintro⟨u,v,i2,h2,x⟩ nx g ⟨hg,h5,h6⟩ P hP
 simp only at hg h5 h6
 have hu:u.length≤s.length:=by rw[←h6];simp
 have hlx:(bz x).length=x.length:=aB x
 simp(disch:=omega) [ae,hlx,VZ]
 by_cases h7:0 < u.length
 case neg=>
  simp(disch:=omega) [ae,hlx,h7,VZ]
  refine av (aY u (by omega)) ?_
  simp(disch:=omega) [d5,VZ]
  exact⟨x++ [u],i2,⟨⟨by simp;omega,by simpa using h6⟩,h5⟩,rfl,rfl⟩
 simp(disch:=omega) [ae,hlx,h7,VZ]
 refine ab (fun h8=> ?_) (fun h8=> ?_)
 rotate_left
 ·simp(disch:=omega) [ae,hlx,VZ]
  refine av (aY u (by omega)) ?_
  simp(disch:=omega) [d5,VZ]
  exact⟨x++ [u],i2,⟨⟨by simp;omega,by simpa using h6⟩,h5⟩,rfl,rfl⟩
 simp(disch:=omega) [ae,hlx,VZ]
 refine cq (an b i2 h2 (u.length+1) (by omega) h5 hb) ?_
 rintro⟨n1,i3,h3⟩ ⟨g3,j3⟩
 simp only at g3 j3
 simp(disch:=omega) [cur,VZ]
 refine cq (fx b i3 h3 2 (by omega) j3 hb) ?_
 rintro⟨o,i4,h4⟩ j4
 simp only at j4
 cases o
 ·simp(disch:=omega) [cur,VZ]
  have hnn1:n1≤u.length:=by omega
  have etn1:List.take n1 (bytes u)=bytes (u.take n1):=by simp[bytes]
  have edn1:List.take (u.length - n1) (List.drop n1 (bytes u))=bytes (u.drop n1):=by
   rw[show u.length - n1=(List.drop n1 (bytes u)).length by rw[List.length_drop,ae],List.take_length]
   simp[bytes]
  simp(disch:=omega) [cur,ae,hnn1,etn1,VZ]
  refine av (aY (u.take n1) (by rw[List.length_take];omega)) ?_
  simp(disch:=omega) [ae,hlx,d5,hnn1,edn1,VZ]
  exact hP (u.drop n1,_,i4,h4,x++ [u.take n1]) (g - 1) _ _ (by omega) ⟨by simp;omega,j4,by rw[←h6];simp⟩ (by simp(disch:=omega) [VZ];rfl) (by simp(disch:=omega) [VZ])
 ·simp(disch:=omega) [cur,VZ]
  refine ab (fun h9=> ?_) (fun h9=> ?_)
  ·simp(disch:=omega) [VZ]
   refine cq (an b i4 h4 7 (by omega) j4 hb) ?_
   rintro⟨n2,i5,h5'⟩ ⟨g5,j5⟩
   simp only at g5 j5
   have hnn2:n2≤u.length:=by omega
   have etn2:List.take n2 (bytes u)=bytes (u.take n2):=by simp[bytes]
   have edn2:List.take (u.length - n2) (List.drop n2 (bytes u))=bytes (u.drop n2):=by
    rw[show u.length - n2=(List.drop n2 (bytes u)).length by rw[List.length_drop,ae],List.take_length]
    simp[bytes]
   simp(disch:=omega) [cur,ae,hnn2,etn2,VZ]
   refine av (aY (u.take n2) (by rw[List.length_take];omega)) ?_
   simp(disch:=omega) [ae,hlx,d5,hnn2,edn2,VZ]
   exact hP (u.drop n2,_,i5,h5',x++ [u.take n2]) (g - 1) _ _ (by omega) ⟨by simp;omega,j5,by rw[←h6];simp⟩ (by simp(disch:=omega) [VZ];rfl) (by simp(disch:=omega) [VZ])
  ·have hnn1:n1≤u.length:=by omega
   have etn1:List.take n1 (bytes u)=bytes (u.take n1):=by simp[bytes]
   have edn1:List.take (u.length - n1) (List.drop n1 (bytes u))=bytes (u.drop n1):=by
    rw[show u.length - n1=(List.drop n1 (bytes u)).length by rw[List.length_drop,ae],List.take_length]
    simp[bytes]
   simp(disch:=omega) [cur,ae,hnn1,etn1,VZ]
   refine av (aY (u.take n1) (by rw[List.length_take];omega)) ?_
   simp(disch:=omega) [ae,hlx,d5,hnn1,edn1,VZ]
   exact hP (u.drop n1,_,i4,h4,x++ [u.take n1]) (g - 1) _ _ (by omega) ⟨by simp;omega,j4,by rw[←h6];simp⟩ (by simp(disch:=omega) [VZ];rfl) (by simp(disch:=omega) [VZ])
abbrev il:Nat:=16
def ik:AF:=⟨2,5,[.tmp 4],(.seq (.ops [.i (.mov 4 (.c (.val false [.nils])))]) (.seq (.ops [qm 6 0,qk 8 88 6,qm 5 7]) (.seq (.ops [qm 8 5,qm 9 5, .i (.nch 10 (.s 9)),qf 11 10 2, .i (.ldh 12 (.s 11) 1 false), .i (.bin 13 .add (.s 12) (qi 17)), .i (.nch 14 (.s 8)),qf 15 14 2, .i (.sth (.s 15) (.s 13) 1)]) (.seq (.ops [qm 16 5,qm 17 1, .i (.call 19 91 false [(.s 16),(.s 17)]),qm 4 18]) .ret))))⟩
theorem t9:cd il=some ik:=by kernel_rfl
theorem BC (b s:Bytes) (hs:s.length≤1073741824) (hb:b.length≤1073741824):VC cd il (aH [(false,[.sl (bytes b)]),(false,[.sl (bytes s)])]) (fun r _=>∃x:List Bytes,(x.length≤10∧x.flatten=s)∧r= [(false,[.o true (some (22,1)) (bz x)])]):=by
 refine aa t9 rfl ?_
 simp(disch:=omega) [ik,VY]
 refine Px (u6 b hb) ?_
 intro h _
 simp(disch:=omega) [cur,Dc,VZ]
 refine cq (Dt b 0 _ s hs (Nat.zero_le _) hb) ?_
 rintro⟨x,i1,h1⟩ ⟨g1,j1⟩
 simp only at g1 j1
 simp(disch:=omega) [cur,VZ]
 exact⟨x,g1,rfl⟩
end Go.Eng.F
namespace Go.Eng.F
theorem Kh {e:List Bytes} {i:Nat} (h:i < e.length):∃y:Bytes,(bz e)[i]? =some [.sl (bytes y)]∧(∀hq:i < (bz e).length,(bz e)[i]'hq= [.sl (bytes y)])∧y∈e∧e[i]? =some y:=
 ⟨e[i],by simp[bz,h],fun hq=>by simp[bz],List.getElem_mem h,List.getElem?_eq_getElem h⟩
theorem A5 {e:List Bytes} {i:Nat} {y:Bytes} (h:e[i]? =some y):(e.take (i+1)).flatten=(e.take i).flatten++y:=by
 rw[List.take_add_one,h]
 simp
theorem JF {e:List Bytes} (i:Nat):(e.take i).flatten.length≤e.flatten.length:=by
 have h:e.flatten=(e.take i).flatten++(e.drop i).flatten:=by rw[←List.flatten_append,List.take_append_drop]
 rw[h,List.length_append]
 omega
end Go.Eng.F
namespace Go.Eng.F
abbrev wW:Nat:=19
def wP:AF:=⟨1,3,[.tmp 2],(.seq (.ops [.i (.lbox 1 (.s 0)), .i (.mov 2 (qi 0))]) (.seq (.ops [qf 3 1 1,ql 4 1 3 1 false,qn 5 4,qm 2 5]) .ret))⟩
theorem Fv:cd wW=some wP:=by kernel_rfl
theorem tQ (p:cR):VC cd wW (aH [(true,p.c)]) (fun rs _=>rs=it (p.buf.length:Int)):=by
 refine aa Fv rfl ?_
 simp(disch:=omega) [wP,cR.c,ae,VZ]
abbrev lW:Nat:=20
def kJ:AF:=⟨1,4,[.tmp 2],(.seq (.ops [.i (.lbox 1 (.s 0)), .i (.mov 2 (qi 0))]) (.seq (.seq (.ops [ql 3 1 1 5 true,qk 5 95 3, .i (.not 5 (.s 4))]) (.cond (.s 5) (.seq (.ops [.i (.mov 2 (qi 0))]) .ret) .skip)) (.seq (.ops [qf 6 1 3,ql 7 1 6 1 false, .i (.bin 8 .add (.s 7) (qi 7)),qm 2 8]) .ret)))⟩
theorem xn:cd lW=some kJ:=by kernel_rfl
theorem jv (l:aj) (hl:l.ok=true):VC cd lW (aH [(true,l.c)]) (fun rs _=>rs=it (l.frame+7)):=by
 have hf:=hl
 simp only[aj.ok,cw,Bool.and_eq_true,decide_eq_true_eq]at hf
 have e1:IntKind.i64.wrap (l.frame+7)=l.frame+7:=sO (by omega) (by omega)
 refine aa xn rfl ?_
 simp(disch:=omega) [kJ,aj.c,VZ]
 refine av (aL l) ?_ (ha:=by first|rfl|(simp[aj.c,VY] <;>repeat' constructor))
 simp(disch:=omega) [hl,e1,VZ]
def hB:Nat→Int→Nat→List D
 |0,_,_=> [.int .i64 0, .nils]
 |_+1,k,v=> [.int .i64 k, .ow 286721 v]
def hU:Nat→Nat→Bytes→List (Nat×En)
 |0,_,_=> []
 |_+1,v,x=> [(286721, .sl v true true (some (5,1)) (bytes x))]
def preB (ps:List Bytes) (i:Nat):Bytes:=(ps.take i).flatten
theorem FZ (ps:List Bytes) (i:Nat):(preB ps i).length≤ps.flatten.length:=JF i
theorem Gi (ps:List Bytes):preB ps 0= []:=rfl
theorem FU (ps:List Bytes):preB ps ps.length=ps.flatten:=by rw[preB,List.take_length]
abbrev si:Nat:=3
def rS:AF:=⟨1,7,[.tmp 2],(.seq (.ops [.i (.mov 2 (qb false))]) (.seq (.seq (.ops [qm 11 0,qn 12 11, .i (.bin 13 .gtr (.s 12) (qi 1048576))]) (.cond (.s 13) (.seq (.ops [.i (.mov 2 (qb true))]) .ret) .skip)) (.seq (.ops [qm 14 0,qk 16 14 14, .i (.lal 3 [.int .i64 0, .int .i64 0, .int .i64 0, .int .i64 0, .int .i64 0]),qs 3 3 15 5]) (.seq (.ops [qf 16 3 3, .i (.stl 3 (.s 16) (qi 60) 1)]) (.seq (.ops [qm 17 0,ql 18 3 3 5 true, .i (.call 20 15 false [(.s 17),(.s 18)]),qm 4 19]) (.seq (.ops [.i (.bld 20 [.int .i64 0, .nils] []), .i (.lal 5 [.int .i64 0, .nils]),qs 5 5 20 2]) (.seq (.ops [.i (.mov 6 (qi 0))]) (.seq (.seq (.ops [qm 21 0,qm 22 4, .i (.call 24 16 false [(.s 21),(.s 22)]),qn 24 23, .i (.mov 25 (qi 0))]) (.block 0 (.loop [86,85,84,83,82,81,80,79,78,77,76,75,74,73,72,71,70,69,68,67,66,65,64,63,62,61,60,59,58,57,56,55,54,53,52,51,50,49,48,47,46,45,44,43,42,41,40,39,38,37,36,35,34,33,32,31,30,29,28,27,26,10,9,8] (.seq (.ops [qd 26 .lss 25 24]) (.seq (.cond (.s 26) .skip (.exit 0)) (.seq (.block 1 (.seq (.ops [.i (.iad 27 (.s 23) (.s 25) 1), .i (.ldh 28 (.s 27) 1 false),qm 8 28]) (.seq (.ops [ql 30 3 3 5 true,ql 31 5 5 2 true,qm 32 8, .i (.call 34 17 false [(.s 30),(.s 31),(.s 32)]),qm 29 33, .i (.ext 34 (.s 29) 0), .i (.ext 35 (.s 29) 1),qs 5 5 34 2]) (.seq (.ops [qm 36 6,qm 37 8,qn 38 37,qd 39 .add 36 38,qm 6 39]) (.seq (.ops [ql 41 3 3 5 true,qm 42 4,qm 43 6, .i (.dQ 44 1 (.s 42) none (some (.s 43))), .i (.call 46 18 false [(.s 41),(.s 44)]),qm 40 45, .i (.ext 46 (.s 40) 0), .i (.ext 47 (.s 40) 1),qm 9 46,qm 10 47]) (.seq (.ops [qm 48 10, .i (.bin 49 .lss (.s 48) (qi 0)),qm 50 49, .g 50 false 52 (.mov 51 (.s 10)), .g 50 false 53 (.mov 52 (.s 6)), .g 50 false 54 (.bin 53 .gtr (.s 51) (.s 52)), .i (.pick 54 (.s 50) (qb true) (.s 53)),qm 55 54, .g 55 false 57 (.ldl 56 5 (.s 5) 2 true), .g 55 false 58 (.call 58 19 false [(.s 56)]), .g 55 false 59 (.ldl 58 3 (.s 3) 5 true), .g 55 false 60 (.call 60 20 false [(.s 58)]), .g 55 false 61 (.bin 60 .gtr (.s 57) (.s 59)), .i (.pick 61 (.s 55) (qb true) (.s 60)),qm 62 61, .g 62 false 64 (.ldl 63 5 (.s 5) 2 true), .g 62 false 65 (.call 65 19 false [(.s 63)]), .g 62 false 66 (.mov 65 (.s 10)), .g 62 false 67 (.bin 66 .neq (.s 64) (.s 65)), .i (.pick 67 (.s 62) (qb true) (.s 66)),qm 68 67, .g 68 false 70 (.fad 69 (.s 5) 0), .g 68 false 71 (.ldl 70 5 (.s 69) 1 false), .g 68 false 72 (.mov 71 (.s 9)), .g 68 false 73 (.bin 72 .neq (.s 70) (.s 71)), .i (.pick 73 (.s 68) (qb true) (.s 72)),qm 74 73, .g 74 false 76 (.fad 75 (.s 5) 1), .g 74 false 77 (.ldl 76 5 (.s 75) 1 false), .g 74 false 78 (.mov 77 (.s 4)), .g 74 false 79 (.mov 78 (.s 6)), .g 74 false 80 (.mov 79 (.s 10)), .g 74 false 81 (.bin 80 .sub (.s 78) (.s 79)), .g 74 false 82 (.mov 81 (.s 6)), .g 74 false 83 (.dQ 82 1 (.s 77) (some (.s 80)) (some (.s 81))), .g 74 false 84 (.call 84 21 false [(.s 76),(.s 82)]), .g 74 false 85 (.not 84 (.s 83)), .i (.pick 85 (.s 74) (qb true) (.s 84))]) (.cond (.s 85) (.seq (.ops [.i (.mov 2 (qb false))]) .ret) .skip))))))) (.ops [.i (.bin 86 .add (.s 25) (qi 1)),qm 25 86]))))))) (.seq (.ops [qm 87 6,qm 88 4,qn 89 88,qd 90 .eql 87 89,qm 2 90]) .ret)))))))))⟩
theorem Bn:cd si=some rS:=by kernel_rfl
theorem FnHeld_ok (b:Bytes):VC cd si (aH [(false,[.sl (bytes b)])]) (fun rs _=>rs=bl true):=by
 refine aa Bn rfl ?_
 simp(disch:=omega) [rS,ae,VZ]
 refine ab (fun h0=> ?_) (fun h0=> ?_)
 ·simp(disch:=omega) [VZ]
 have hb:b.length≤1048576:=by omega
 simp(disch:=omega) [VZ]
 refine PV (Bo b (by omega)) ?_
 rintro⟨n0,t0,x0,f0,g0⟩ ⟨hl0,hf⟩
 obtain⟨l,rfl,rfl,rfl,rfl,hfr⟩:∃l:aj,n0=l.n∧t0=l.tx∧x0=l.txs∧g0=l.heads∧l.frame=60:=⟨⟨n0,t0,x0,60,g0⟩,rfl,rfl,rfl,rfl,rfl⟩
 have hl:l.ok=true:=by
  simp only[aj.ok,Bool.and_eq_true]at hl0⊢
  exact⟨⟨hl0.1.1,by rw[hfr];rfl⟩,hl0.2⟩
 clear hl0 hf
 simp(disch:=omega) [aj.e,VZ]
 refine PV (Be b l hl (by omega)) ?_ (ha:=by first|rfl|(simp[aj.c,hfr,VY] <;>repeat' constructor))
 rintro s hs
 simp(disch:=omega) [VZ]
 refine Px (BC b s (by omega) (by omega)) ?_
 rintro ps ⟨hp1,hp2⟩
 have hlx:(bz ps).length=ps.length:=aB ps
 simp(disch:=omega) [hlx,VZ]
 refine bH (σ:=Nat×Nat×Nat) (f1:=_) (es0:=_) (by simp(disch:=omega) [VZ] <;>rfl) (by simp(disch:=omega) [VZ] <;>rfl) (fun p=> [(25, .val false [.int .i64 (p.1:Int)]),(6, .val false [.int .i64 ((preB ps p.1).length:Int)]),(5, .box (hB p.2.1 (bQ l (preB ps p.1)).skip p.2.2))]) (fun p=>hU p.2.1 p.2.2 (bQ l (preB ps p.1)).buf)
  (fun p g=>g+p.1=ps.length∧(p.2.1=0→p.1=0)) (0,0,0) ps.length (by simp(disch:=omega) [hB,Gi,VZ] <;>rfl) (by simp(disch:=omega) [hU,VZ]) ⟨by simp,fun _=>rfl⟩ ?_
 rintro⟨i,fl,v⟩ nx g ⟨hg,hz⟩ P hP
 simp only at hg hz
 cases fl
 ·obtain rfl:=hz rfl
  have hq0:bQ l (preB ps 0)=⟨0,[]⟩:=rfl
  simp(disch:=omega) [hB,hU,VZ]
  refine ab (fun h8=> ?_) (fun h8=> ?_)
  ·obtain⟨y,hgt,hgt2,hm,hy⟩:=Kh h8
   have hpre:preB ps (1)=preB ps 0++y:=A5 hy
   have hpl:=FZ ps (1)
   rw[hp2]at hpl
   have hsp:s=preB ps (1)++(ps.drop (1)).flatten:=by rw[preB,←List.flatten_append,List.take_append_drop,hp2]
   have hhl:=jE (l:=l) (preB ps 0)
   have hul:(preB ps (1)).length=(preB ps 0).length+y.length:=by rw[hpre,List.length_append]
   have hF:=tf l (bQ l (preB ps 0)) y (by omega)
   rw[(yW (l:=l) (s:=(preB ps 0)) (b:=y) hl (by omega)).1,←hpre]at hF
   rw[hq0]at hF
   obtain⟨u,hu⟩:∃u,u=(preB ps (1)):=⟨_,rfl⟩
   rw[←hu]at hF hul hsp hpl
   have hT:=uZ l u (by omega)
   obtain⟨ht1,ht2⟩:=zq (l:=l) (s:=u) hl
   have hmost:=AM (l:=l) (s:=u) hl
   have hhl2:=jE (l:=l) u
   obtain⟨k,hk⟩:∃k:Nat,(bQ l u).skip=(k:Int)∧tail l u=(k,(bQ l u).buf.length):=⟨_,rfl,ht1⟩
   rw[hk.2]at hT
   obtain⟨q,hq⟩:∃q,q=bQ l u:=⟨_,rfl⟩
   rw[←hq]at hF hT ht2 hmost hhl2 hk
   rw[hfr]at hmost
   obtain⟨hk1,_⟩:=hk
   generalize (scan l false _ _).1=more at hF
   simp only[F1]at hF
   have en:IntKind.i64.wrap (((preB ps 0).length:Int)+(y.length:Int))=(u.length:Int):=by rw[sO (by omega) (by omega)];omega
   have et:List.take u.length (bytes s)=bytes u:=by
    have:List.take u.length s=u:=by rw[hsp];simp
    rw[bytes,←List.map_take,this];rfl
   have hH:=tQ q
   have hM:=jv l hl
   rw[hfr]at hM
   have hS:=dt q.buf q.buf
   have n1:¬(q.buf.length:Int) < 0:=by omega
   have n2:¬u.length < q.buf.length:=by omega
   have n3:¬(67:Int) < (q.buf.length:Int):=by omega
   have n4:¬67 < q.buf.length:=by omega
   have e5:IntKind.i64.wrap ((u.length:Int) - (q.buf.length:Int))=((u.length - q.buf.length:Nat):Int):=by rw[sO (by omega) (by omega)];omega
   simp(disch:=omega) [hgt,hgt2,ae,VZ]
   refine av (hF) ?_ (ha:=by first|rfl|(simp[aj.c,cR.c,hfr,ag,VY] <;>repeat' constructor))
   simp(disch:=omega) [ae,en,et,hpl,hpre,VZ]
   refine av (hT) ?_ (ha:=by first|rfl|(simp[aj.c,hfr,VY] <;>repeat' constructor))
   simp(disch:=omega) [n1,n2,ae,VZ]
   refine av (hH) ?_ (ha:=by first|rfl|(simp[cR.c,VY] <;>repeat' constructor))
   simp(disch:=omega) [VZ]
   refine av (hM) ?_ (ha:=by first|rfl|(simp[aj.c,hfr,VY] <;>repeat' constructor))
   simp(disch:=omega) [n3,n4,VZ]
   refine av (hH) ?_ (ha:=by first|rfl|(simp[cR.c,VY] <;>repeat' constructor))
   simp(disch:=omega) [hk1,e5,ae,hpl,VZ]
   have ew:List.take (u.length - (u.length - q.buf.length)) (List.drop (u.length - q.buf.length) (bytes s))=bytes q.buf:=by
    have e:u.length - (u.length - q.buf.length)=q.buf.length:=by omega
    have e2:(s.drop (u.length - q.buf.length)).take q.buf.length=q.buf:=by
     rw[hsp,List.drop_append_of_le_length (by omega),List.take_append_of_le_length (by rw[List.length_drop];omega),←ht2,List.take_length]
    rw[e,bytes,←List.map_drop,←List.map_take,e2]
    rfl
   simp(disch:=omega) [ew,VZ]
   refine av (hS) ?_
   simp(disch:=omega) [VZ]
   exact hP (1,1,_) (g - 1) _ _ (by omega) ⟨by simp only;omega,fun h=>by simp at h⟩ (by simp(disch:=omega) [hB,←hu,←hq,hk1,VZ] <;>rfl) (by simp(disch:=omega) [hU,←hu,←hq,VZ])
  ·have hi:0=ps.length:=by omega
   have hs0:s= []:=by have:=FU ps;rw[←hi,Gi,hp2]at this;exact this.symm
   simp(disch:=omega) [ae,hs0,Gi,VZ]
 ·simp(disch:=omega) [hB,hU,VZ]
  refine ab (fun h8=> ?_) (fun h8=> ?_)
  ·obtain⟨y,hgt,hgt2,hm,hy⟩:=Kh h8
   have hpre:preB ps (i+1)=preB ps i++y:=A5 hy
   have hpl:=FZ ps (i+1)
   rw[hp2]at hpl
   have hsp:s=preB ps (i+1)++(ps.drop (i+1)).flatten:=by rw[preB,←List.flatten_append,List.take_append_drop,hp2]
   have hhl:=jE (l:=l) (preB ps i)
   have hul:(preB ps (i+1)).length=(preB ps i).length+y.length:=by rw[hpre,List.length_append]
   have hF:=tf l (bQ l (preB ps i)) y (by omega)
   rw[(yW (l:=l) (s:=(preB ps i)) (b:=y) hl (by omega)).1,←hpre]at hF
   obtain⟨u,hu⟩:∃u,u=(preB ps (i+1)):=⟨_,rfl⟩
   rw[←hu]at hF hul hsp hpl
   have hT:=uZ l u (by omega)
   obtain⟨ht1,ht2⟩:=zq (l:=l) (s:=u) hl
   have hmost:=AM (l:=l) (s:=u) hl
   have hhl2:=jE (l:=l) u
   obtain⟨k,hk⟩:∃k:Nat,(bQ l u).skip=(k:Int)∧tail l u=(k,(bQ l u).buf.length):=⟨_,rfl,ht1⟩
   rw[hk.2]at hT
   obtain⟨q,hq⟩:∃q,q=bQ l u:=⟨_,rfl⟩
   rw[←hq]at hF hT ht2 hmost hhl2 hk
   rw[hfr]at hmost
   obtain⟨hk1,_⟩:=hk
   generalize (scan l false _ _).1=more at hF
   simp only[F1]at hF
   have en:IntKind.i64.wrap (((preB ps i).length:Int)+(y.length:Int))=(u.length:Int):=by rw[sO (by omega) (by omega)];omega
   have et:List.take u.length (bytes s)=bytes u:=by
    have:List.take u.length s=u:=by rw[hsp];simp
    rw[bytes,←List.map_take,this];rfl
   have hH:=tQ q
   have hM:=jv l hl
   rw[hfr]at hM
   have hS:=dt q.buf q.buf
   have n1:¬(q.buf.length:Int) < 0:=by omega
   have n2:¬u.length < q.buf.length:=by omega
   have n3:¬(67:Int) < (q.buf.length:Int):=by omega
   have n4:¬67 < q.buf.length:=by omega
   have e5:IntKind.i64.wrap ((u.length:Int) - (q.buf.length:Int))=((u.length - q.buf.length:Nat):Int):=by rw[sO (by omega) (by omega)];omega
   simp(disch:=omega) [hgt,hgt2,ae,VZ]
   refine av (hF) ?_ (ha:=by first|rfl|(simp[aj.c,cR.c,hfr,ag,VY] <;>repeat' constructor))
   simp(disch:=omega) [ae,en,et,hpl,hpre,VZ]
   refine av (hT) ?_ (ha:=by first|rfl|(simp[aj.c,hfr,VY] <;>repeat' constructor))
   simp(disch:=omega) [n1,n2,ae,VZ]
   refine av (hH) ?_ (ha:=by first|rfl|(simp[cR.c,VY] <;>repeat' constructor))
   simp(disch:=omega) [VZ]
   refine av (hM) ?_ (ha:=by first|rfl|(simp[aj.c,hfr,VY] <;>repeat' constructor))
   simp(disch:=omega) [n3,n4,VZ]
   refine av (hH) ?_ (ha:=by first|rfl|(simp[cR.c,VY] <;>repeat' constructor))
   simp(disch:=omega) [hk1,e5,ae,hpl,VZ]
   have ew:List.take (u.length - (u.length - q.buf.length)) (List.drop (u.length - q.buf.length) (bytes s))=bytes q.buf:=by
    have e:u.length - (u.length - q.buf.length)=q.buf.length:=by omega
    have e2:(s.drop (u.length - q.buf.length)).take q.buf.length=q.buf:=by
     rw[hsp,List.drop_append_of_le_length (by omega),List.take_append_of_le_length (by rw[List.length_drop];omega),←ht2,List.take_length]
    rw[e,bytes,←List.map_drop,←List.map_take,e2]
    rfl
   simp(disch:=omega) [ew,VZ]
   refine av (hS) ?_
   simp(disch:=omega) [VZ]
   exact hP (i+1,1,_) (g - 1) _ _ (by omega) ⟨by simp only;omega,fun h=>by simp at h⟩ (by simp(disch:=omega) [hB,←hu,←hq,hk1,VZ] <;>rfl) (by simp(disch:=omega) [hU,←hu,←hq,VZ])
  ·have hi:i=ps.length:=by omega
   simp(disch:=omega) [ae,hi,FU,hp2,VZ]
end Go.Eng.F
