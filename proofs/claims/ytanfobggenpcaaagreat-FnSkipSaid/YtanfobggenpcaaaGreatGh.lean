import Derived.Test.YtanfobggenpcaaaGreatGd
import Derived.Test.YtanfobggenpcaaaGreatGg
set_option maxRecDepth 100000
set_option linter.unusedSimpArgs false
set_option linter.unusedVariables false
namespace Go.Eng.F
def iD (x:Bytes):Bytes:=aP x.length++x
abbrev rQ:Nat:=114
def sJ:AF:=⟨2,5,[.tmp 4],(.seq (.ops [.i (.mov 4 (.c (.val false [.nils])))]) (.seq (.ops [qm 8 0,qm 9 1,qn 10 9, .i (.call 12 164 false [(.s 8),(.s 10)]),qm 7 11, .i (.ext 12 (.s 7) 0), .i (.ext 13 (.s 7) 1),qm 5 12,qm 6 13]) (.seq (.ops [qm 14 5,qm 15 1, .i (.app 16 5 1 1 (.s 14) (.s 15)),qm 4 16]) .ret)))⟩
theorem Dw:cd rQ=some sJ:=by kernel_rfl
theorem oq (b x:Bytes) (hb:b.length≤900000000) (hx:x.length≤100000000):VC cd rQ (aD [(false,[.sl (bytes b)]),(false,[.sl (bytes x)])]) (fun rs _=>rs= [(false,[.o true (some (5,1)) (bytes (b++iD x))])]):=by
 have h1:=cE (n:=x.length) (by omega)
 refine aa Dw rfl ?_
 simp(disch:=omega) [sJ,aj,VY]
 refine ao (vR b x.length (by omega) (by omega)) ?_
 simp(disch:=omega) [aj,bG,VY]
 simp(disch:=omega) [iD,VY]
abbrev qL:Nat:=312
def rV:AF:=⟨2,5,[.tmp 4],(.seq (.ops [.i (.mov 4 (.c (.val false [.nils])))]) (.seq (.ops [qm 8 0,qm 9 1,qn 10 9, .i (.call 12 338 false [(.s 8),(.s 10)]),qm 7 11, .i (.ext 12 (.s 7) 0), .i (.ext 13 (.s 7) 1),qm 5 12,qm 6 13]) (.seq (.ops [qm 14 5,qm 15 1, .i (.app 16 5 1 1 (.s 14) (.s 15)),qm 4 16]) .ret)))⟩
theorem DY:cd qL=some rV:=by kernel_rfl
theorem ns (b x:Bytes) (hb:b.length≤900000000) (hx:x.length≤100000000):VC cd qL (aD [(false,[.sl (bytes b)]),(false,[.sl (bytes x)])]) (fun rs _=>rs= [(false,[.o true (some (5,1)) (bytes (b++iD x))])]):=by
 have h1:=cE (n:=x.length) (by omega)
 refine aa DY rfl ?_
 simp(disch:=omega) [rV,aj,VY]
 refine ao (u3 b x.length (by omega) (by omega)) ?_
 simp(disch:=omega) [aj,bG,VY]
 simp(disch:=omega) [iD,VY]
def sR (l:ah) (v:bp):Bool:=l.ok && isNum v.view && isNum v.height && hash v.block && hash v.tag && cO v.who 0 (l.n - 1)
def NG (v:bp):Bytes:=aP v.view.toNat++(aP v.height.toNat++(v.block++(aP v.who.toNat++v.tag)))
structure P8 (v:bp):Prop where
 view:isNum v.view=true
 height:isNum v.height=true
 block:v.block.length=32
 who:isNum v.who=true
 tag:v.tag.length=32
theorem B6 {l:ah} {v:bp} (h:sR l v=true):P8 v:=by
 simp only[sR,Bool.and_eq_true]at h
 have h1:=kb h.1.1.1.1.1
 have h2:=c8 h.2
 exact⟨h.1.1.1.1.2,h.1.1.1.2,hQ h.1.1.2,by simp[isNum,cO];omega,hQ h.1.2⟩
theorem Q3 {v:bp} (h:P8 v):(NG v).length≤100:=by
 have h1:=az h.view
 have h2:=az h.height
 have h3:=az h.who
 have h4:=h.block
 have h5:=h.tag
 simp only[NG,List.length_append]
 omega
abbrev uC:Nat:=98
def u4:AF:=⟨2,6,[.tmp 4],(.seq (.ops [.i (.lbox 2 (.s 0)), .i (.lbox 3 (.s 1)), .i (.mov 4 (qb false))]) (.seq (.ops [ql 5 2 2 5 true,qk 7 95 5,qm 7 6, .g 7 true 9 (.fad 8 (.s 3) 0), .g 7 true 10 (.ldl 9 3 (.s 8) 1 false), .g 7 true 11 (.call 11 129 false [(.s 9)]), .i (.pick 11 (.s 7) (.s 10) (qb false)),qm 12 11, .g 12 true 14 (.fad 13 (.s 3) 1), .g 12 true 15 (.ldl 14 3 (.s 13) 1 false), .g 12 true 16 (.call 16 129 false [(.s 14)]), .i (.pick 16 (.s 12) (.s 15) (qb false)),qm 17 16, .g 17 true 19 (.fad 18 (.s 3) 2), .g 17 true 20 (.ldl 19 3 (.s 18) 1 false), .g 17 true 21 (.fad 20 (.s 3) 4), .g 17 true 22 (.ldl 21 3 (.s 20) 1 false), .g 17 true 23 (.bsl 22 22 1 2 [.nils] [(0,1,(.s 19)),(1,1,(.s 21))]), .g 17 true 24 (.call 24 163 false [(.s 22)]), .i (.pick 24 (.s 17) (.s 23) (qb false)),qm 25 24, .g 25 true 27 (.fad 26 (.s 3) 3), .g 25 true 28 (.ldl 27 3 (.s 26) 1 false), .g 25 true 29 (.fad 28 (.s 2) 0), .g 25 true 30 (.ldl 29 2 (.s 28) 1 false), .g 25 true 31 (.bin 30 .sub (.s 29) (qi 1)), .g 25 true 32 (.call 32 158 false [(.s 27),(qi 0),(.s 30)]), .i (.pick 32 (.s 25) (.s 31) (qb false)),qm 4 32]) .ret))⟩
theorem Fh:cd uC=some u4:=by kernel_rfl
theorem Cq (l:ah) (v:bp):VC cd uC (aD [(true,l.c),(true,v.c)]) (fun rs _=>rs=bl (sR l v)):=by
 refine aa Fh rfl ?_
 simp(disch:=omega) [u4,ah.c,bp.c,VY]
 refine ao (aI l) ?_ (ha:=by first|rfl|(simp[ah.c,VY] <;>repeat' constructor))
 simp(disch:=omega) [VY]
 refine an (fun h1=> ?_) (fun h1=> ?_) <;>simp(disch:=omega) [h1,sR,VY]
 have hn:=kb h1
 refine ao (eo v.view) ?_
 simp(disch:=omega) [h1,VY]
 refine an (fun h2=> ?_) (fun h2=> ?_) <;>simp(disch:=omega) [h1,h2,VY]
 refine ao (eo v.height) ?_
 simp(disch:=omega) [h1,h2,VY]
 refine an (fun h3=> ?_) (fun h3=> ?_) <;>simp(disch:=omega) [h1,h2,h3,VY]
 refine ao (c9 [v.block,v.tag] (by simp)) ?_ (ha:=by first|rfl|(simp[bJ,VY] <;>repeat' constructor))
 simp(disch:=omega) [h1,h2,h3,wz,VY]
 refine an (fun h4=> ?_) (fun h4=> ?_)
 ·have h5:hash v.block=true∧hash v.tag=true:=by simpa using h4
  simp(disch:=omega) [h1,h2,h3,h5.1,h5.2,VY]
  refine ao (aG v.who 0 (l.n - 1)) ?_
  simp(disch:=omega) [h1,h2,h3,h5.1,h5.2,VY]
 ·simp(disch:=omega) [h1,h2,h3,h4,VY]
abbrev vJ:Nat:=307
def vV:AF:=⟨2,6,[.tmp 4],(.seq (.ops [.i (.lbox 2 (.s 0)), .i (.lbox 3 (.s 1)), .i (.mov 4 (qb false))]) (.seq (.ops [ql 5 2 2 5 true,qk 7 210 5,qm 7 6, .g 7 true 9 (.fad 8 (.s 3) 0), .g 7 true 10 (.ldl 9 3 (.s 8) 1 false), .g 7 true 11 (.call 11 211 false [(.s 9)]), .i (.pick 11 (.s 7) (.s 10) (qb false)),qm 12 11, .g 12 true 14 (.fad 13 (.s 3) 1), .g 12 true 15 (.ldl 14 3 (.s 13) 1 false), .g 12 true 16 (.call 16 211 false [(.s 14)]), .i (.pick 16 (.s 12) (.s 15) (qb false)),qm 17 16, .g 17 true 19 (.fad 18 (.s 3) 2), .g 17 true 20 (.ldl 19 3 (.s 18) 1 false), .g 17 true 21 (.call 21 337 false [(.s 19)]), .i (.pick 21 (.s 17) (.s 20) (qb false)),qm 22 21, .g 22 true 24 (.fad 23 (.s 3) 4), .g 22 true 25 (.ldl 24 3 (.s 23) 1 false), .g 22 true 26 (.call 26 337 false [(.s 24)]), .i (.pick 26 (.s 22) (.s 25) (qb false)),qm 27 26, .g 27 true 29 (.fad 28 (.s 3) 3), .g 27 true 30 (.ldl 29 3 (.s 28) 1 false), .g 27 true 31 (.fad 30 (.s 2) 0), .g 27 true 32 (.ldl 31 2 (.s 30) 1 false), .g 27 true 33 (.bin 32 .sub (.s 31) (qi 1)), .g 27 true 34 (.call 34 221 false [(.s 29),(qi 0),(.s 32)]), .i (.pick 34 (.s 27) (.s 33) (qb false)),qm 4 34]) .ret))⟩
theorem FD:cd vJ=some vV:=by kernel_rfl
theorem CJ (l:ah) (v:bp):VC cd vJ (aD [(true,l.c),(true,v.c)]) (fun rs _=>rs=bl (sR l v)):=by
 refine aa FD rfl ?_
 simp(disch:=omega) [vV,ah.c,bp.c,VY]
 refine ao (cC l) ?_ (ha:=by first|rfl|(simp[ah.c,VY] <;>repeat' constructor))
 simp(disch:=omega) [VY]
 refine an (fun h1=> ?_) (fun h1=> ?_) <;>simp(disch:=omega) [h1,sR,VY]
 have hn:=kb h1
 refine ao (fC v.view) ?_
 simp(disch:=omega) [h1,VY]
 refine an (fun h2=> ?_) (fun h2=> ?_) <;>simp(disch:=omega) [h1,h2,VY]
 refine ao (fC v.height) ?_
 simp(disch:=omega) [h1,h2,VY]
 refine an (fun h3=> ?_) (fun h3=> ?_) <;>simp(disch:=omega) [h1,h2,h3,VY]
 refine ao (fw v.block) ?_
 simp(disch:=omega) [h1,h2,h3,VY]
 refine an (fun h4=> ?_) (fun h4=> ?_) <;>simp(disch:=omega) [h1,h2,h3,h4,VY]
 refine ao (fw v.tag) ?_
 simp(disch:=omega) [h1,h2,h3,h4,VY]
 refine an (fun h5=> ?_) (fun h5=> ?_) <;>simp(disch:=omega) [h1,h2,h3,h4,h5,VY]
 refine ao (b7 v.who 0 (l.n - 1)) ?_
 simp(disch:=omega) [h1,h2,h3,h4,h5,VY]
abbrev sY:Nat:=24
def sO:AF:=⟨3,6,[.tmp 6, .tmp 7],(.seq (.ops [.i (.lbox 3 (.s 0)), .i (.lbox 5 (.s 2)), .i (.mov 6 (.c (.val false [.nils]))), .i (.mov 7 (qb false))]) (.seq (.seq (.ops [ql 9 3 3 5 true,ql 10 5 5 5 true, .i (.call 12 98 false [(.s 9),(.s 10)]), .i (.not 12 (.s 11))]) (.cond (.s 12) (.seq (.ops [.i (.mov 6 (.c (.val false [.nils]))), .i (.mov 7 (qb false))]) .ret) .skip)) (.seq (.ops [qm 13 1,qk 15 93 13, .i (.bld 15 [.nils] [(0,1,(.s 14))]), .i (.hbox 16 146 (.s 15)),qm 8 16]) (.seq (.ops [qm 17 8,qf 18 5 0,ql 19 5 18 1 false, .i (.call 21 99 false [(.s 17),(.s 19)])]) (.seq (.ops [qm 21 8,qf 22 5 1,ql 23 5 22 1 false, .i (.call 25 99 false [(.s 21),(.s 23)])]) (.seq (.ops [qm 25 8,qf 26 5 2,ql 27 5 26 1 false, .i (.call 29 100 false [(.s 25),(.s 27)])]) (.seq (.ops [qm 29 8,qf 30 5 3,ql 31 5 30 1 false, .i (.call 33 99 false [(.s 29),(.s 31)])]) (.seq (.ops [qm 33 8,qf 34 5 4,ql 35 5 34 1 false, .i (.call 37 100 false [(.s 33),(.s 35)])]) (.seq (.ops [qm 37 8, .i (.nch 38 (.s 37)),qf 39 38 0, .i (.ldh 40 (.s 39) 1 false),qm 6 40, .i (.mov 7 (qb true))]) .ret)))))))))⟩
theorem DP:cd sY=some sO:=by kernel_rfl
theorem nD (l:ah) (b:Bytes) (v:bp) (hb:b.length≤900000000):VC cd sY (aD [(true,l.c),(false,[.sl (bytes b)]),(true,v.c)]) (fun rs _=>rs=bz (sR l v) (b++NG v)):=by
 refine aa DP rfl ?_
 simp(disch:=omega) [sO,bp.c,ah.c,VY]
 refine ao (Cq l v) ?_ (ha:=by first|rfl|(simp[bp.c,ah.c,VY] <;>repeat' constructor))
 simp(disch:=omega) [VY]
 refine an (fun h0=> ?_) (fun h0=> ?_)
 case refine_2=>simp(disch:=omega) [h0,bz,VY]
 have hs:=B6 h0
 have h1:=az hs.view
 have h2:=az hs.height
 have h3:=az hs.who
 have h4:=hs.block
 have h5:=hs.tag
 simp(disch:=omega) [h0,VY]
 refine ae (aN b (by omega)) rfl rfl ?_
 simp(disch:=omega) [VZ]
 refine dA (aO _ v.view hs.view ?_) ?_
 ·(try simp only[List.length_append]);omega
 simp(disch:=omega) [VZ]
 refine dA (aO _ v.height hs.height ?_) ?_
 ·(try simp only[List.length_append]);omega
 simp(disch:=omega) [VZ]
 refine dA (cL _ v.block (by omega) ?_) ?_
 ·(try simp only[List.length_append]);omega
 simp(disch:=omega) [VZ]
 refine dA (aO _ v.who hs.who ?_) ?_
 ·(try simp only[List.length_append]);omega
 simp(disch:=omega) [VZ]
 refine dA (cL _ v.tag (by omega) ?_) ?_
 ·(try simp only[List.length_append]);omega
 simp(disch:=omega) [bz,h0,NG,VZ]
abbrev rA:Nat:=257
def rv:AF:=⟨3,5,[.tmp 6, .tmp 7],(.seq (.ops [.i (.lbox 3 (.s 0)), .i (.lbox 5 (.s 2)), .i (.mov 6 (.c (.val false [.nils]))), .i (.mov 7 (qb false))]) (.seq (.seq (.ops [ql 9 3 3 5 true,ql 10 5 5 5 true, .i (.call 12 307 false [(.s 9),(.s 10)]), .i (.not 12 (.s 11))]) (.cond (.s 12) (.seq (.ops [.i (.mov 6 (.c (.val false [.nils]))), .i (.mov 7 (qb false))]) .ret) .skip)) (.seq (.ops [qm 13 1,qf 14 5 0,ql 15 5 14 1 false, .i (.call 17 308 false [(.s 13),(.s 15)]),qf 17 5 1,ql 18 5 17 1 false, .i (.call 20 308 false [(.s 16),(.s 18)]),qf 20 5 2,ql 21 5 20 1 false, .i (.app 22 5 1 1 (.s 19) (.s 21)),qm 8 22]) (.seq (.ops [qm 23 8,qf 24 5 3,ql 25 5 24 1 false, .i (.call 27 308 false [(.s 23),(.s 25)]),qf 27 5 4,ql 28 5 27 1 false, .i (.app 29 5 1 1 (.s 26) (.s 28)),qm 6 29, .i (.mov 7 (qb true))]) .ret))))⟩
theorem Du:cd rA=some rv:=by kernel_rfl
theorem oR (l:ah) (b:Bytes) (v:bp) (hb:b.length≤900000000):VC cd rA (aD [(true,l.c),(false,[.sl (bytes b)]),(true,v.c)]) (fun rs _=>rs=bz (sR l v) (b++NG v)):=by
 refine aa Du rfl ?_
 simp(disch:=omega) [rv,bp.c,ah.c,VY]
 refine ao (CJ l v) ?_ (ha:=by first|rfl|(simp[bp.c,ah.c,VY] <;>repeat' constructor))
 simp(disch:=omega) [VY]
 refine an (fun h0=> ?_) (fun h0=> ?_)
 case refine_2=>simp(disch:=omega) [h0,bz,VY]
 have hs:=B6 h0
 have h1:=az hs.view
 have h2:=az hs.height
 have h3:=az hs.who
 have h4:=hs.block
 have h5:=hs.tag
 simp(disch:=omega) [h0,VY]
 refine ao (bW b v.view hs.view (by omega)) ?_
 simp(disch:=omega) [VY]
 refine ao (bW (b++aP v.view.toNat) v.height hs.height (by simp only[List.length_append];omega)) ?_
 simp(disch:=omega) [bG,aj,VY]
 refine ao (bW (b++(aP v.view.toNat++(aP v.height.toNat++v.block))) v.who hs.who (by simp only[List.length_append];omega)) ?_
 simp(disch:=omega) [bG,aj,bz,h0,NG,VY]
def bh (i n:Nat):Nat:=if h:n < 2 then 0 else
 have:=fj (n:=n) (by omega)
 if i < splitAt n then 1+bh i (splitAt n)else 1+bh (i - splitAt n) (n - splitAt n)
termination_by n
theorem wJ {i n:Nat} (h:n < 2):bh i n=0:=by rw[bh,dif_pos h]
theorem zl {i n:Nat} (h:2≤n) (hi:i < splitAt n):bh i n=1+bh i (splitAt n):=by rw[bh,dif_neg (by omega),if_pos hi]
theorem zd {i n:Nat} (h:2≤n) (hi:¬i < splitAt n):bh i n=1+bh (i - splitAt n) (n - splitAt n):=by rw[bh,dif_neg (by omega),if_neg hi]
theorem cz:∀(n i:Nat),bh i n≤n:=by
 intro n
 induction n using Nat.strongRecOn with
 |ind n ih=>
 intro i
 rcases Nat.lt_or_ge n 2 with h|h
 ·rw[wJ h];omega
 ·have h1:=fj h
  by_cases hi:i < splitAt n
  ·rw[zl h hi];have:=ih (splitAt n) h1.2 i;omega
  ·rw[zd h hi];have:=ih (n - splitAt n) (by omega) (i - splitAt n);omega
abbrev pV:Nat:=180
def r7:AF:=⟨2,6,[.tmp 4],(.seq (.ops [.i (.mov 4 (qi 0))]) (.seq (.seq (.ops [qm 6 1, .i (.bin 7 .lss (.s 6) (qi 2)),qm 8 7, .g 8 false 10 (.mov 9 (.s 1)), .g 8 false 11 (.bin 10 .gtr (.s 9) (qi 1048576)), .i (.pick 11 (.s 8) (qb true) (.s 10)),qm 12 11, .g 12 false 14 (.mov 13 (.s 0)), .g 12 false 15 (.mov 14 (.s 1)), .g 12 false 16 (.bin 15 .sub (.s 14) (qi 1)), .g 12 false 17 (.call 17 158 false [(.s 13),(qi 0),(.s 15)]), .g 12 false 18 (.not 17 (.s 16)), .i (.pick 18 (.s 12) (qb true) (.s 17))]) (.cond (.s 18) (.seq (.ops [.i (.mov 4 (qi 0))]) .ret) .skip)) (.seq (.ops [qm 19 1,qk 21 253 19,qm 5 20]) (.seq (.seq (.ops [qm 21 0,qm 22 5,qd 23 .lss 21 22]) (.cond (.s 23) (.seq (.ops [qm 24 0,qm 25 5, .i (.call 27 180 false [(.s 24),(.s 25)]), .i (.bin 27 .add (qi 1) (.s 26)),qm 4 27]) .ret) .skip)) (.seq (.ops [qm 28 0,qm 29 5,qd 30 .sub 28 29,qm 31 1,qm 32 5,qd 33 .sub 31 32, .i (.call 35 180 false [(.s 30),(.s 33)]), .i (.bin 35 .add (qi 1) (.s 34)),qm 4 35]) .ret)))))⟩
theorem Eh:cd pV=some r7:=by kernel_rfl
theorem oL:∀(n i:Nat),i < n→n≤1048576→VC cd pV (aD [(false,[.int .i64 (i:Int)]),(false,[.int .i64 (n:Int)])]) (fun rs _=>rs=it (bh i n)):=by
 intro n
 induction n using Nat.strongRecOn with
 |ind n ih=>
 intro i hi hn
 have hp:=cz n i
 have he:cO (i:Int) 0 ((n:Int) - 1)=true:=by simp only[cO,decide_eq_true_eq];omega
 refine aa Eh rfl ?_
 simp(disch:=omega) [r7,VY]
 refine ab (fun h1=> ?_) (fun h1=> ?_)
 ·simp(disch:=omega) [h1,wJ (i:=i) (n:=n) (by omega),VY]
 have h2:2≤n:=by omega
 obtain⟨k1,k2⟩:=fj h2
 simp(disch:=omega) [h1,VY]
 refine ab (fun h3=> ?_) (fun h3=> ?_)
 ·omega
 simp(disch:=omega) [h1,h3,VY]
 refine ao (aG (i:Int) 0 ((n:Int) - 1)) ?_
 simp(disch:=omega) [h1,h3,he,VY]
 refine ao (oF n (by omega)) ?_
 simp(disch:=omega) [VY]
 refine ab (fun h4=> ?_) (fun h4=> ?_)
 ·have h5:i < splitAt n:=by omega
  have h6:=zl h2 h5
  simp(disch:=omega) [h4,VY]
  refine ao (ih (splitAt n) k2 i h5 (by omega)) ?_
  have h7:=cz (splitAt n) i
  simp(disch:=omega) [h6,VY]
 ·have h5:¬i < splitAt n:=by omega
  have h6:=zd h2 h5
  have t1:(i:Int) - (splitAt n:Int)=((i - splitAt n:Nat):Int):=by omega
  have t2:(n:Int) - (splitAt n:Int)=((n - splitAt n:Nat):Int):=by omega
  simp(disch:=omega) [h4,t1,t2,VY]
  refine ao (ih (n - splitAt n) (by omega) (i - splitAt n) (by omega) (by omega)) ?_
  have h7:=cz (n - splitAt n) (i - splitAt n)
  simp(disch:=omega) [h6,VY]
abbrev xS:Nat:=322
def yp:AF:=⟨2,4,[.tmp 4],(.seq (.ops [.i (.mov 4 (qb false))]) (.seq (.ops [qm 5 1, .i (.call 7 221 false [(.s 5),(qi 1),(qi 1048576)]),qm 7 6, .g 7 true 9 (.mov 8 (.s 0)), .g 7 true 10 (.mov 9 (.s 1)), .g 7 true 11 (.bin 10 .sub (.s 9) (qi 1)), .g 7 true 12 (.call 12 221 false [(.s 8),(qi 0),(.s 10)]), .i (.pick 12 (.s 7) (.s 11) (qb false)),qm 4 12]) .ret))⟩
theorem HK:cd xS=some yp:=by kernel_rfl
theorem OB (i n:Nat) (hn:n≤1048576):VC cd xS (aD [(false,[.int .i64 (i:Int)]),(false,[.int .i64 (n:Int)])]) (fun rs _=>rs=bl (cO (n:Int) 1 1048576 && cO (i:Int) 0 ((n:Int) - 1))):=by
 refine aa HK rfl ?_
 simp(disch:=omega) [yp,VY]
 refine ao (b7 (n:Int) 1 1048576) ?_
 simp(disch:=omega) [VY]
 refine an (fun h1=> ?_) (fun h1=> ?_) <;>simp(disch:=omega) [h1,VY]
 refine ao (b7 (i:Int) 0 ((n:Int) - 1)) ?_
 simp(disch:=omega) [h1,VY]
abbrev rl:Nat:=276
def su:AF:=⟨2,5,[.tmp 4],(.seq (.ops [.i (.mov 4 (qi 0))]) (.seq (.seq (.ops [qm 6 0,qm 7 1, .i (.call 9 322 false [(.s 6),(.s 7)]), .i (.not 9 (.s 8)),qm 10 9, .g 10 false 12 (.mov 11 (.s 1)), .g 10 false 13 (.bin 12 .eql (.s 11) (qi 1)), .i (.pick 13 (.s 10) (qb true) (.s 12))]) (.cond (.s 13) (.seq (.ops [.i (.mov 4 (qi 0))]) .ret) .skip)) (.seq (.ops [qm 14 1,qk 16 323 14,qm 5 15]) (.seq (.seq (.ops [qm 16 0,qm 17 5,qd 18 .lss 16 17]) (.cond (.s 18) (.seq (.ops [qm 19 0,qm 20 5, .i (.call 22 276 false [(.s 19),(.s 20)]), .i (.bin 22 .add (qi 1) (.s 21)),qm 4 22]) .ret) .skip)) (.seq (.ops [qm 23 0,qm 24 5,qd 25 .sub 23 24,qm 26 1,qm 27 5,qd 28 .sub 26 27, .i (.call 30 276 false [(.s 25),(.s 28)]), .i (.bin 30 .add (qi 1) (.s 29)),qm 4 30]) .ret)))))⟩
theorem Ea:cd rl=some su:=by kernel_rfl
theorem d6:∀(n i:Nat),i < n→n≤1048576→VC cd rl (aD [(false,[.int .i64 (i:Int)]),(false,[.int .i64 (n:Int)])]) (fun rs _=>rs=it (bh i n)):=by
 intro n
 induction n using Nat.strongRecOn with
 |ind n ih=>
 intro i hi hn
 have hp:=cz n i
 have he:cO (i:Int) 0 ((n:Int) - 1)=true:=by simp only[cO,decide_eq_true_eq];omega
 have he2:cO (n:Int) 1 1048576=true:=by simp only[cO,decide_eq_true_eq];omega
 refine aa Ea rfl ?_
 simp(disch:=omega) [su,VY]
 refine ao (OB i n hn) ?_
 simp(disch:=omega) [he,he2,VY]
 refine ab (fun h1=> ?_) (fun h1=> ?_)
 ·simp(disch:=omega) [h1,wJ (i:=i) (n:=n) (by omega),VY]
 have h2:2≤n:=by omega
 obtain⟨k1,k2⟩:=fj h2
 simp(disch:=omega) [h1,VY]
 refine ao (oh n (by omega)) ?_
 simp(disch:=omega) [VY]
 refine ab (fun h4=> ?_) (fun h4=> ?_)
 ·have h5:i < splitAt n:=by omega
  have h6:=zl h2 h5
  simp(disch:=omega) [h4,VY]
  refine ao (ih (splitAt n) k2 i h5 (by omega)) ?_
  have h7:=cz (splitAt n) i
  simp(disch:=omega) [h6,VY]
 ·have h5:¬i < splitAt n:=by omega
  have h6:=zd h2 h5
  have t1:(i:Int) - (splitAt n:Int)=((i - splitAt n:Nat):Int):=by omega
  have t2:(n:Int) - (splitAt n:Int)=((n - splitAt n:Nat):Int):=by omega
  simp(disch:=omega) [h4,t1,t2,VY]
  refine ao (ih (n - splitAt n) (by omega) (i - splitAt n) (by omega) (by omega)) ?_
  have h7:=cz (n - splitAt n) (i - splitAt n)
  simp(disch:=omega) [h6,VY]
theorem Ht {l:ah} (h:l.ok=true):0≤l.tx∧l.tx≤40∧l.txs≤8:=by
 simp only[ah.ok,Bool.and_eq_true]at h
 have h1:=ek h.1.1.1.2
 have h2:=ek h.1.1.2
 omega
def dS (l:ah) (x:aY):Bool:=l.ok && isNum x.height && cO x.n 1 l.txs && cO x.idx 0 (x.n - 1) && decide ((x.tx.length:Int)≤l.tx) && decide (x.path.length=bh x.idx.toNat x.n.toNat) && hashes x.path
def pH (x:aY):Bytes:=aP x.height.toNat++(aP x.n.toNat++(aP x.idx.toNat++(iD x.tx++x.path.flatten)))
def cn (l:ah) (t:Tc) (i:Nat):Bool:=match t.entries[i]? with
 |some e=>cO e.who 0 (l.n - 1) && cO e.high 0 (t.view - 1) && hash e.tag && (decide (i=0)||match t.entries[i - 1]? with|some d=>decide (d.who < e.who)|none=>false)
 |none=>false
def fP (l:ah) (t:Tc):Bool:=l.ok && isNum t.view && decide ((t.entries.length:Int)≤l.n) && (List.range t.entries.length).all (cn l t)
def LH (e:Entry):Bytes:=aP e.who.toNat++(aP e.high.toNat++e.tag)
def OW (t:Tc):Bytes:=aP t.view.toNat++(aP t.entries.length++(t.entries.map LH).flatten)
def jm (x:Block):Bytes:=dM x.head++(aP x.txs.length++(x.txs.map iD).flatten)
def iU (p:Proof):Bytes:=aP p.heads.length++((p.heads.map dM).flatten++Kz p.qc)
abbrev vM:Nat:=125
def vw:AF:=⟨2,6,[.tmp 4],(.seq (.ops [.i (.lbox 2 (.s 0)), .i (.lbox 3 (.s 1)), .i (.mov 4 (qb false))]) (.seq (.ops [ql 5 2 2 5 true,qk 7 95 5,qm 7 6, .g 7 true 9 (.fad 8 (.s 3) 0), .g 7 true 10 (.ldl 9 3 (.s 8) 1 false), .g 7 true 11 (.call 11 129 false [(.s 9)]), .i (.pick 11 (.s 7) (.s 10) (qb false)),qm 12 11, .g 12 true 14 (.fad 13 (.s 3) 1), .g 12 true 15 (.ldl 14 3 (.s 13) 1 false), .g 12 true 16 (.fad 15 (.s 2) 2), .g 12 true 17 (.ldl 16 2 (.s 15) 1 false), .g 12 true 18 (.call 18 158 false [(.s 14),(qi 1),(.s 16)]), .i (.pick 18 (.s 12) (.s 17) (qb false)),qm 19 18, .g 19 true 21 (.fad 20 (.s 3) 2), .g 19 true 22 (.ldl 21 3 (.s 20) 1 false), .g 19 true 23 (.fad 22 (.s 3) 1), .g 19 true 24 (.ldl 23 3 (.s 22) 1 false), .g 19 true 25 (.bin 24 .sub (.s 23) (qi 1)), .g 19 true 26 (.call 26 158 false [(.s 21),(qi 0),(.s 24)]), .i (.pick 26 (.s 19) (.s 25) (qb false)),qm 27 26, .g 27 true 29 (.fad 28 (.s 3) 3), .g 27 true 30 (.ldl 29 3 (.s 28) 1 false), .g 27 true 31 (.len 30 false (.s 29)), .g 27 true 32 (.fad 31 (.s 2) 1), .g 27 true 33 (.ldl 32 2 (.s 31) 1 false), .g 27 true 34 (.bin 33 .leq (.s 30) (.s 32)), .i (.pick 34 (.s 27) (.s 33) (qb false)),qm 35 34, .g 35 true 37 (.fad 36 (.s 3) 4), .g 35 true 38 (.ldl 37 3 (.s 36) 1 false), .g 35 true 39 (.len 38 false (.s 37)), .g 35 true 40 (.fad 39 (.s 3) 2), .g 35 true 41 (.ldl 40 3 (.s 39) 1 false), .g 35 true 42 (.fad 41 (.s 3) 1), .g 35 true 43 (.ldl 42 3 (.s 41) 1 false), .g 35 true 44 (.call 44 180 false [(.s 40),(.s 42)]), .g 35 true 45 (.bin 44 .eql (.s 38) (.s 43)), .i (.pick 45 (.s 35) (.s 44) (qb false)),qm 46 45, .g 46 true 48 (.fad 47 (.s 3) 4), .g 46 true 49 (.ldl 48 3 (.s 47) 1 false), .g 46 true 50 (.call 50 163 false [(.s 48)]), .i (.pick 50 (.s 46) (.s 49) (qb false)),qm 4 50]) .ret))⟩
theorem E8:cd vM=some vw:=by kernel_rfl
theorem EA (l:ah) (x:aY) (hw:x.wc):VC cd vM (aD [(true,l.c),(true,x.c)]) (fun rs _=>rs=bl (dS l x)):=by
 obtain⟨w1,w2,w3,w4,w5,w6⟩:=hw
 simp only[Sz]at w4 w5
 refine aa E8 rfl ?_
 simp(disch:=omega) [vw,ah.c,aY.c,VY]
 refine ao (aI l) ?_ (ha:=by first|rfl|(simp[ah.c,VY] <;>repeat' constructor))
 simp(disch:=omega) [VY]
 refine an (fun h1=> ?_) (fun h1=> ?_) <;>simp(disch:=omega) [h1,dS,VY]
 have hn:=kb h1
 have ht:=Ht h1
 refine ao (eo x.height) ?_
 simp(disch:=omega) [h1,VY]
 refine an (fun h2=> ?_) (fun h2=> ?_) <;>simp(disch:=omega) [h1,h2,VY]
 refine ao (aG x.n 1 l.txs) ?_
 simp(disch:=omega) [h1,h2,VY]
 refine an (fun h3=> ?_) (fun h3=> ?_)
 case refine_2=>simp(disch:=omega) [h1,h2,h3,VY]
 have h3':=ek h3
 simp(disch:=omega) [h1,h2,h3,VY]
 refine ao (aG x.idx 0 (x.n - 1)) ?_
 simp(disch:=omega) [h1,h2,h3,VY]
 refine an (fun h4=> ?_) (fun h4=> ?_) <;>simp(disch:=omega) [h1,h2,h3,h4,aj,VY]
 have h4':=ek h4
 refine ab (fun h5=> ?_) (fun h5=> ?_) <;>simp(disch:=omega) [h1,h2,h3,h4,h5,aq,VY]
 obtain⟨N,hN⟩:∃N:Nat,x.n=(N:Int):=⟨x.n.toNat,by omega⟩
 obtain⟨I,hI⟩:∃I:Nat,x.idx=(I:Int):=⟨x.idx.toNat,by omega⟩
 have hp:=cz N I
 refine ao (oL N I (by omega) (by omega)) ?_ (ha:=by first|rfl|(simp[hN,hI,VY] <;>repeat' constructor))
 simp(disch:=omega) [h1,h2,h3,h4,h5,aq,hN,hI,VY]
 refine ab (fun h6=> ?_) (fun h6=> ?_)
 ·have h7:x.path.length=bh I N:=by omega
  simp(disch:=omega) [h1,h2,h3,h4,h5,h6,h7,aq,hN,hI,VY]
  refine ao (c9 x.path (by omega)) ?_
  simp(disch:=omega) [h1,h2,h3,h4,h5,h6,h7,hN,hI,VY]
 ·have h7:¬x.path.length=bh I N:=by omega
  simp(disch:=omega) [h1,h2,h3,h4,h5,h6,h7,aq,hN,hI,VY]
abbrev vU:Nat:=315
def uy:AF:=⟨2,6,[.tmp 4],(.seq (.ops [.i (.lbox 2 (.s 0)), .i (.lbox 3 (.s 1)), .i (.mov 4 (qb false))]) (.seq (.ops [ql 5 2 2 5 true,qk 7 210 5,qm 7 6, .g 7 true 9 (.fad 8 (.s 3) 0), .g 7 true 10 (.ldl 9 3 (.s 8) 1 false), .g 7 true 11 (.call 11 211 false [(.s 9)]), .i (.pick 11 (.s 7) (.s 10) (qb false)),qm 12 11, .g 12 true 14 (.fad 13 (.s 3) 1), .g 12 true 15 (.ldl 14 3 (.s 13) 1 false), .g 12 true 16 (.fad 15 (.s 2) 2), .g 12 true 17 (.ldl 16 2 (.s 15) 1 false), .g 12 true 18 (.call 18 221 false [(.s 14),(qi 1),(.s 16)]), .i (.pick 18 (.s 12) (.s 17) (qb false)),qm 19 18, .g 19 true 21 (.fad 20 (.s 3) 2), .g 19 true 22 (.ldl 21 3 (.s 20) 1 false), .g 19 true 23 (.fad 22 (.s 3) 1), .g 19 true 24 (.ldl 23 3 (.s 22) 1 false), .g 19 true 25 (.bin 24 .sub (.s 23) (qi 1)), .g 19 true 26 (.call 26 221 false [(.s 21),(qi 0),(.s 24)]), .i (.pick 26 (.s 19) (.s 25) (qb false)),qm 27 26, .g 27 true 29 (.fad 28 (.s 3) 3), .g 27 true 30 (.ldl 29 3 (.s 28) 1 false), .g 27 true 31 (.len 30 false (.s 29)), .g 27 true 32 (.fad 31 (.s 2) 1), .g 27 true 33 (.ldl 32 2 (.s 31) 1 false), .g 27 true 34 (.bin 33 .leq (.s 30) (.s 32)), .i (.pick 34 (.s 27) (.s 33) (qb false)),qm 35 34, .g 35 true 37 (.fad 36 (.s 3) 4), .g 35 true 38 (.ldl 37 3 (.s 36) 1 false), .g 35 true 39 (.len 38 false (.s 37)), .g 35 true 40 (.fad 39 (.s 3) 2), .g 35 true 41 (.ldl 40 3 (.s 39) 1 false), .g 35 true 42 (.fad 41 (.s 3) 1), .g 35 true 43 (.ldl 42 3 (.s 41) 1 false), .g 35 true 44 (.call 44 276 false [(.s 40),(.s 42)]), .g 35 true 45 (.bin 44 .eql (.s 38) (.s 43)), .i (.pick 45 (.s 35) (.s 44) (qb false)),qm 46 45, .g 46 true 48 (.fad 47 (.s 3) 4), .g 46 true 49 (.ldl 48 3 (.s 47) 1 false), .g 46 true 50 (.call 50 340 false [(.s 48)]), .i (.pick 50 (.s 46) (.s 49) (qb false)),qm 4 50]) .ret))⟩
theorem FT:cd vU=some uy:=by kernel_rfl
theorem C6 (l:ah) (x:aY) (hw:x.wc):VC cd vU (aD [(true,l.c),(true,x.c)]) (fun rs _=>rs=bl (dS l x)):=by
 obtain⟨w1,w2,w3,w4,w5,w6⟩:=hw
 simp only[Sz]at w4 w5
 refine aa FT rfl ?_
 simp(disch:=omega) [uy,ah.c,aY.c,VY]
 refine ao (cC l) ?_ (ha:=by first|rfl|(simp[ah.c,VY] <;>repeat' constructor))
 simp(disch:=omega) [VY]
 refine an (fun h1=> ?_) (fun h1=> ?_) <;>simp(disch:=omega) [h1,dS,VY]
 have hn:=kb h1
 have ht:=Ht h1
 refine ao (fC x.height) ?_
 simp(disch:=omega) [h1,VY]
 refine an (fun h2=> ?_) (fun h2=> ?_) <;>simp(disch:=omega) [h1,h2,VY]
 refine ao (b7 x.n 1 l.txs) ?_
 simp(disch:=omega) [h1,h2,VY]
 refine an (fun h3=> ?_) (fun h3=> ?_)
 case refine_2=>simp(disch:=omega) [h1,h2,h3,VY]
 have h3':=ek h3
 simp(disch:=omega) [h1,h2,h3,VY]
 refine ao (b7 x.idx 0 (x.n - 1)) ?_
 simp(disch:=omega) [h1,h2,h3,VY]
 refine an (fun h4=> ?_) (fun h4=> ?_) <;>simp(disch:=omega) [h1,h2,h3,h4,aj,VY]
 have h4':=ek h4
 refine ab (fun h5=> ?_) (fun h5=> ?_) <;>simp(disch:=omega) [h1,h2,h3,h4,h5,aq,VY]
 obtain⟨N,hN⟩:∃N:Nat,x.n=(N:Int):=⟨x.n.toNat,by omega⟩
 obtain⟨I,hI⟩:∃I:Nat,x.idx=(I:Int):=⟨x.idx.toNat,by omega⟩
 have hp:=cz N I
 refine ao (d6 N I (by omega) (by omega)) ?_ (ha:=by first|rfl|(simp[hN,hI,VY] <;>repeat' constructor))
 simp(disch:=omega) [h1,h2,h3,h4,h5,aq,hN,hI,VY]
 refine ab (fun h6=> ?_) (fun h6=> ?_)
 ·have h7:x.path.length=bh I N:=by omega
  simp(disch:=omega) [h1,h2,h3,h4,h5,h6,h7,aq,hN,hI,VY]
  refine ao (yy x.path (by omega)) ?_
  simp(disch:=omega) [h1,h2,h3,h4,h5,h6,h7,hN,hI,VY]
 ·have h7:¬x.path.length=bh I N:=by omega
  simp(disch:=omega) [h1,h2,h3,h4,h5,h6,h7,aq,hN,hI,VY]
def ep (l:List Bytes):Bytes:=(l.map iD).flatten
theorem Ap {l:List Bytes} {i:Nat} (h:i < l.length):ep (l.take (i+1))=ep (l.take i)++iD l[i]:=by
 rw[List.take_succ_eq_append_getElem h]
 simp only[ep,List.map_append,List.map_cons,List.map_nil,List.flatten_append,List.flatten_cons,List.flatten_nil,List.append_nil]
theorem tL {x:Bytes} (h:x.length≤1000):(iD x).length≤1009:=by
 have:=cE (n:=x.length) (by omega)
 simp only[iD,List.length_append]
 omega
theorem mz:∀ {l:List Bytes},(∀x∈l,x.length≤1000)→(ep l).length≤1009 * l.length
 | [],_=>by simp[ep]
 |a::l,h=>by
  have h1:=mz (l:=l) fun x hx=>h x (by simp[hx])
  have h2:=tL (h a (by simp))
  simp only[ep,List.map_cons,List.flatten_cons,List.length_append,List.length_cons]at h1⊢
  omega
theorem iH {l:ah} {x:Block} (h:bj l x=true):bx l x.head=true:=by
 simp only[bj,Bool.and_eq_true]at h
 exact h.1.1.1
theorem rG {l:ah} {x:Block} (h:bj l x=true):∀t∈x.txs,t.length≤1000:=fun t ht=>by
 have h0:=sd (y7 (iH h))
 simp only[ah.ok,Bool.and_eq_true]at h0
 have h1:=c8 h0.1.1.1.2
 simp only[bj,Bool.and_eq_true,yr,List.all_eq_true,decide_eq_true_eq]at h
 have:=h.1.2 t ht
 omega
theorem fL {l:ah} {t:Tc} {i:Nat} (hi:i < t.entries.length) (h:cn l t i=false):fP l t=false:=by
 unfold fP
 rw[Bool.and_eq_false_iff]
 right
 rw[List.all_eq_false]
 exact⟨i,by simp[hi],by simp[h]⟩
theorem Kd {l:ah} {t:Tc} (h:∀i,i < t.entries.length→cn l t i=true):fP l t=(l.ok && isNum t.view && decide ((t.entries.length:Int)≤l.n)):=by
 unfold fP
 have:(List.range t.entries.length).all (cn l t)=true:=by
  rw[List.all_eq_true]
  intro i hi
  exact h i (by simpa using hi)
 rw[this,Bool.and_true]
theorem yG {l:ah} {t:Tc} {i:Nat} (hd:∀j,j < i→cn l t j=true) (h:cn l t i=true):∀j,j < i+1→cn l t j=true:=fun j hj=>by
 rcases Nat.lt_or_ge j i with hl|hl
 ·exact hd j hl
 ·obtain rfl:j=i:=by omega
  exact h
abbrev jP:Nat:=117
def po:AF:=⟨2,7,[.tmp 4],(.seq (.ops [.i (.lbox 2 (.s 0)), .i (.lbox 3 (.s 1)), .i (.mov 4 (qb false))]) (.seq (.seq (.ops [qf 7 3 1,ql 8 3 7 1 false,qn 9 8, .i (.mov 10 (qi 0))]) (.block 0 (.loop [54,53,52,51,50,49,48,47,46,45,44,43,42,41,40,39,38,37,36,35,34,33,32,31,30,29,28,27,26,25,24,23,22,21,20,19,18,17,16,15,14,13,12,11,6,5] (.seq (.ops [qd 11 .lss 10 9]) (.seq (.cond (.s 11) .skip (.exit 0)) (.seq (.block 1 (.seq (.ops [qm 12 10, .i (.iad 13 (.s 8) (.s 10) 3), .i (.ldh 14 (.s 13) 3 true), .i (.lal 6 [.int .i64 0, .int .i64 0, .nils]),qm 5 12,qs 6 6 14 3]) (.seq (.ops [qf 15 6 0,ql 16 6 15 1 false,qf 17 2 0,ql 18 2 17 1 false, .i (.bin 19 .sub (.s 18) (qi 1)), .i (.call 21 158 false [(.s 16),(qi 0),(.s 19)]), .i (.not 21 (.s 20)),qm 22 21, .g 22 false 24 (.mov 23 (.s 5)), .g 22 false 25 (.bin 24 .gtr (.s 23) (qi 0)), .g 22 false 26 (.mov 25 (.s 24)), .g 25 true 27 (.fad 26 (.s 6) 0), .g 25 true 28 (.ldl 27 6 (.s 26) 1 false), .g 25 true 29 (.fad 28 (.s 3) 1), .g 25 true 30 (.ldl 29 3 (.s 28) 1 false), .g 25 true 31 (.mov 30 (.s 5)), .g 25 true 32 (.bin 31 .sub (.s 30) (qi 1)), .g 25 true 33 (.iad 32 (.s 29) (.s 31) 3), .g 25 true 34 (.fad 33 (.s 32) 0), .g 25 true 35 (.ldh 34 (.s 33) 1 false), .g 25 true 36 (.bin 35 .leq (.s 27) (.s 34)), .g 22 false 37 (.pick 36 (.s 25) (.s 35) (qb false)), .i (.pick 37 (.s 22) (qb true) (.s 36)),qm 38 37, .g 38 false 40 (.fad 39 (.s 6) 1), .g 38 false 41 (.ldl 40 6 (.s 39) 1 false), .g 38 false 42 (.fad 41 (.s 3) 0), .g 38 false 43 (.ldl 42 3 (.s 41) 1 false), .g 38 false 44 (.bin 43 .sub (.s 42) (qi 1)), .g 38 false 45 (.call 45 158 false [(.s 40),(qi 0),(.s 43)]), .g 38 false 46 (.not 45 (.s 44)), .i (.pick 46 (.s 38) (qb true) (.s 45)),qm 47 46, .g 47 false 49 (.fad 48 (.s 6) 2), .g 47 false 50 (.ldl 49 6 (.s 48) 1 false), .g 47 false 51 (.bsl 50 22 1 1 [.nils] [(0,1,(.s 49))]), .g 47 false 52 (.call 52 163 false [(.s 50)]), .g 47 false 53 (.not 52 (.s 51)), .i (.pick 53 (.s 47) (qb true) (.s 52))]) (.cond (.s 53) (.seq (.ops [.i (.mov 4 (qb false))]) .ret) .skip)))) (.ops [.i (.bin 54 .add (.s 10) (qi 1)),qm 10 54]))))))) (.seq (.ops [ql 55 2 2 5 true,qk 57 95 55,qm 57 56, .g 57 true 59 (.fad 58 (.s 3) 0), .g 57 true 60 (.ldl 59 3 (.s 58) 1 false), .g 57 true 61 (.call 61 129 false [(.s 59)]), .i (.pick 61 (.s 57) (.s 60) (qb false)),qm 62 61, .g 62 true 64 (.fad 63 (.s 3) 1), .g 62 true 65 (.ldl 64 3 (.s 63) 1 false), .g 62 true 66 (.len 65 false (.s 64)), .g 62 true 67 (.fad 66 (.s 2) 0), .g 62 true 68 (.ldl 67 2 (.s 66) 1 false), .g 62 true 69 (.bin 68 .leq (.s 65) (.s 67)), .i (.pick 69 (.s 62) (.s 68) (qb false)),qm 4 69]) .ret)))⟩
theorem z4:cd jP=some po:=by kernel_rfl
theorem Kn (l:ah) (t:Tc) (hw:t.wf) (h0:(l.ok && isNum t.view)=true):VC cd jP (aD [(true,l.c),(true,t.c)]) (fun rs _=>rs=bl (fP l t)):=by
 have w1:=hw.2.1
 simp only[Sz]at w1
 have hA:l.ok=true∧isNum t.view=true:=by simpa using h0
 have hn:=kb hA.1
 have hv:=ek hA.2
 refine aa z4 rfl ?_
 simp(disch:=omega) [po,ah.c,Tc.c,cc,VY]
 refine bF (σ:=Nat) (f1:=_) (es0:=_) (by simp(disch:=omega) [VY];rfl) (by simp(disch:=omega) [VY];rfl) (fun i=> [(10, .val false [.int .i64 (i:Int)])]) (fun _=> []) (fun i g=>g+i=t.entries.length∧∀j,j < i→cn l t j=true) 0 t.entries.length (by simp(disch:=omega) [VY]) (by simp(disch:=omega) [VY]) ⟨by omega,fun j hj=>by omega⟩ ?_
 rintro i n g ⟨hg,hd⟩ P hP
 simp(disch:=omega) [VY]
 refine ab (fun h1=> ?_) (fun h1=> ?_)
 case refine_2=>
  have hY:=Kd (l:=l) (t:=t) (fun i hi=>hd i (by omega))
  simp(disch:=omega) [VY]
  refine ao (aI l) ?_ (ha:=by first|rfl|(simp[ah.c,VY] <;>repeat' constructor))
  simp(disch:=omega) [hA.1,VY]
  refine ao (eo t.view) ?_
  simp(disch:=omega) [hA.1,hA.2,cc,hY,VY]
 have hi:i < t.entries.length:=by omega
 simp(disch:=omega) [ed hi,VY]
 refine ao (aG t.entries[i].who 0 (l.n - 1)) ?_
 simp(disch:=omega) [VY]
 refine an (fun h2=> ?_) (fun h2=> ?_)
 case refine_2=>simp(disch:=omega) [h2,fL hi (show cn l t i=false by simp[cn,hi,h2]),VY]
 simp(disch:=omega) [h2,VY]
 refine ab (fun h3=> ?_) (fun h3=> ?_)
 ·have hj:i - 1 < t.entries.length:=by omega
  have e1:((i:Int) - 1).toNat=i - 1:=by omega
  have e2:(1:Int)≤(i:Int):=by omega
  have e3:¬i=0:=by omega
  simp(disch:=omega) [h2,h3,cc,e1,e2,ed hj,VY]
  refine ab (fun h4=> ?_) (fun h4=> ?_)
  ·simp(disch:=omega) [h2,h3,h4,fL hi (show cn l t i=false by simp[cn,hi,hj,e3,show ¬t.entries[i - 1].who < t.entries[i].who by omega]),VY]
  have e4:t.entries[i - 1].who < t.entries[i].who:=by omega
  simp(disch:=omega) [h2,h3,h4,VY]
  refine ao (aG t.entries[i].high 0 (t.view - 1)) ?_
  simp(disch:=omega) [h2,h3,h4,VY]
  refine an (fun h6=> ?_) (fun h6=> ?_)
  case refine_2=>simp(disch:=omega) [h2,h3,h4,h6,fL hi (show cn l t i=false by simp[cn,hi,h6]),VY]
  simp(disch:=omega) [h2,h3,h4,h6,VY]
  refine ao (c9 [t.entries[i].tag] (by simp)) ?_ (ha:=by first|rfl|(simp[bJ,VY] <;>repeat' constructor))
  simp(disch:=omega) [h2,h3,h4,h6,jq,VY]
  refine an (fun h7=> ?_) (fun h7=> ?_)
  case refine_2=>simp(disch:=omega) [h2,h3,h4,h6,h7,fL hi (show cn l t i=false by simp[cn,hi,h7]),VY]
  simp(disch:=omega) [h2,h3,h4,h6,h7,VY]
  exact hP (i+1) (g - 1) _ _ (by omega) ⟨by omega,yG hd (by simp[cn,hi,h2,h6,h7,hj,e4])⟩ (by simp(disch:=omega) [VY]) (by simp(disch:=omega) [VY])
 ·simp(disch:=omega) [h2,h3,VY]
  have e4:i=0:=by omega
  refine ao (aG t.entries[i].high 0 (t.view - 1)) ?_
  simp(disch:=omega) [h2,h3,VY]
  refine an (fun h6=> ?_) (fun h6=> ?_)
  case refine_2=>simp(disch:=omega) [h2,h3,h6,fL hi (show cn l t i=false by simp[cn,hi,h6]),VY]
  simp(disch:=omega) [h2,h3,h6,VY]
  refine ao (c9 [t.entries[i].tag] (by simp)) ?_ (ha:=by first|rfl|(simp[bJ,VY] <;>repeat' constructor))
  simp(disch:=omega) [h2,h3,h6,jq,VY]
  refine an (fun h7=> ?_) (fun h7=> ?_)
  case refine_2=>simp(disch:=omega) [h2,h3,h6,h7,fL hi (show cn l t i=false by simp[cn,hi,h7]),VY]
  simp(disch:=omega) [h2,h3,h6,h7,VY]
  exact hP (i+1) (g - 1) _ _ (by omega) ⟨by omega,yG hd (by subst e4;simp[cn,hi,h2,h6,h7])⟩ (by simp(disch:=omega) [VY]) (by simp(disch:=omega) [VY])
theorem Kg (l:ah) (t:Tc) (hw:t.wf) (h0:(l.ok && isNum t.view)=false):VC cd jP (aD [(true,l.c),(true,t.c)]) (fun rs _=>rs=bl (fP l t)):=by
 have w1:=hw.2.1
 simp only[Sz]at w1
 have hF:fP l t=false:=by unfold fP;rw[h0];rfl
 refine aa z4 rfl ?_
 simp(disch:=omega) [po,ah.c,Tc.c,cc,VY]
 refine bF (σ:=Nat) (f1:=_) (es0:=_) (by simp(disch:=omega) [VY];rfl) (by simp(disch:=omega) [VY];rfl) (fun i=> [(10, .val false [.int .i64 (i:Int)])]) (fun _=> []) (fun i g=>g+i=t.entries.length) 0 t.entries.length (by simp(disch:=omega) [VY]) (by simp(disch:=omega) [VY]) (by omega) ?_
 rintro i n g hg P hP
 simp(disch:=omega) [VY]
 refine ab (fun h1=> ?_) (fun h1=> ?_)
 case refine_2=>
  simp(disch:=omega) [VY]
  refine ao (aI l) ?_ (ha:=by first|rfl|(simp[ah.c,VY] <;>repeat' constructor))
  simp(disch:=omega) [VY]
  refine an (fun h2=> ?_) (fun h2=> ?_) <;>simp(disch:=omega) [h2,hF,VY]
  refine ao (eo t.view) ?_
  have h3:isNum t.view=false:=by simpa[h2]using h0
  simp(disch:=omega) [h2,h3,hF,VY]
 have hi:i < t.entries.length:=by omega
 simp(disch:=omega) [ed hi,VY]
 refine ao (aG t.entries[i].who 0 (IntKind.i64.wrap (l.n - 1))) ?_
 simp(disch:=omega) [VY]
 refine an (fun h2=> ?_) (fun h2=> ?_)
 case refine_2=>simp(disch:=omega) [h2,hF,VY]
 simp(disch:=omega) [h2,VY]
 refine ab (fun h3=> ?_) (fun h3=> ?_)
 ·have hj:i - 1 < t.entries.length:=by omega
  have e1:((i:Int) - 1).toNat=i - 1:=by omega
  have e2:(1:Int)≤(i:Int):=by omega
  have e3:¬i=0:=by omega
  simp(disch:=omega) [h2,h3,cc,e1,e2,ed hj,VY]
  refine ab (fun h4=> ?_) (fun h4=> ?_)
  ·simp(disch:=omega) [h2,h3,h4,hF,VY]
  simp(disch:=omega) [h2,h3,h4,VY]
  refine ao (aG t.entries[i].high 0 (IntKind.i64.wrap (t.view - 1))) ?_
  simp(disch:=omega) [h2,h3,h4,VY]
  refine an (fun h6=> ?_) (fun h6=> ?_) <;>simp(disch:=omega) [h2,h3,h4,h6,hF,VY]
  refine ao (c9 [t.entries[i].tag] (by simp)) ?_ (ha:=by first|rfl|(simp[bJ,VY] <;>repeat' constructor))
  simp(disch:=omega) [h2,h3,h4,h6,jq,VY]
  refine an (fun h7=> ?_) (fun h7=> ?_)
  case refine_2=>simp(disch:=omega) [h2,h3,h4,h6,h7,hF,VY]
  simp(disch:=omega) [h2,h3,h4,h6,h7,VY]
  exact hP (i+1) (g - 1) _ _ (by omega) (by omega) (by simp(disch:=omega) [VY]) (by simp(disch:=omega) [VY])
 ·simp(disch:=omega) [h2,h3,VY]
  refine ao (aG t.entries[i].high 0 (IntKind.i64.wrap (t.view - 1))) ?_
  simp(disch:=omega) [h2,h3,VY]
  refine an (fun h6=> ?_) (fun h6=> ?_) <;>simp(disch:=omega) [h2,h3,h6,hF,VY]
  refine ao (c9 [t.entries[i].tag] (by simp)) ?_ (ha:=by first|rfl|(simp[bJ,VY] <;>repeat' constructor))
  simp(disch:=omega) [h2,h3,h6,jq,VY]
  refine an (fun h7=> ?_) (fun h7=> ?_)
  case refine_2=>simp(disch:=omega) [h2,h3,h6,h7,hF,VY]
  simp(disch:=omega) [h2,h3,h6,h7,VY]
  exact hP (i+1) (g - 1) _ _ (by omega) (by omega) (by simp(disch:=omega) [VY]) (by simp(disch:=omega) [VY])
theorem HI (l:ah) (t:Tc) (hw:t.wf):VC cd jP (aD [(true,l.c),(true,t.c)]) (fun rs _=>rs=bl (fP l t)):=by
 cases h0:l.ok && isNum t.view with
 |true=>exact Kn l t hw h0
 |false=>exact Kg l t hw h0
abbrev z6:Nat:=313
def z5:AF:=⟨2,7,[.tmp 4],(.seq (.ops [.i (.lbox 2 (.s 0)), .i (.lbox 3 (.s 1)), .i (.mov 4 (qb false))]) (.seq (.seq (.ops [ql 7 2 2 5 true,qk 9 210 7, .i (.not 9 (.s 8)),qm 10 9, .g 10 false 12 (.fad 11 (.s 3) 0), .g 10 false 13 (.ldl 12 3 (.s 11) 1 false), .g 10 false 14 (.call 14 211 false [(.s 12)]), .g 10 false 15 (.not 14 (.s 13)), .i (.pick 15 (.s 10) (qb true) (.s 14)),qm 16 15, .g 16 false 18 (.fad 17 (.s 3) 1), .g 16 false 19 (.ldl 18 3 (.s 17) 1 false), .g 16 false 20 (.len 19 false (.s 18)), .g 16 false 21 (.fad 20 (.s 2) 0), .g 16 false 22 (.ldl 21 2 (.s 20) 1 false), .g 16 false 23 (.bin 22 .gtr (.s 19) (.s 21)), .i (.pick 23 (.s 16) (qb true) (.s 22))]) (.cond (.s 23) (.seq (.ops [.i (.mov 4 (qb false))]) .ret) .skip)) (.seq (.seq (.ops [qf 24 3 1,ql 25 3 24 1 false,qn 26 25, .i (.mov 27 (qi 0))]) (.block 0 (.loop [73,72,71,70,69,68,67,66,65,64,63,62,61,60,59,58,57,56,55,54,53,52,51,50,49,48,47,46,45,44,43,42,41,40,39,38,37,36,35,34,33,32,31,30,29,28,6,5] (.seq (.ops [qd 28 .lss 27 26]) (.seq (.cond (.s 28) .skip (.exit 0)) (.seq (.block 1 (.seq (.ops [qm 29 27, .i (.iad 30 (.s 25) (.s 27) 3), .i (.ldh 31 (.s 30) 3 true), .i (.lal 6 [.int .i64 0, .int .i64 0, .nils]),qm 5 29,qs 6 6 31 3]) (.seq (.ops [qf 32 6 0,ql 33 6 32 1 false,qf 34 2 0,ql 35 2 34 1 false, .i (.bin 36 .sub (.s 35) (qi 1)), .i (.call 38 221 false [(.s 33),(qi 0),(.s 36)]), .i (.not 38 (.s 37)),qm 39 38, .g 39 false 41 (.fad 40 (.s 6) 1), .g 39 false 42 (.ldl 41 6 (.s 40) 1 false), .g 39 false 43 (.bin 42 .lss (.s 41) (qi 0)), .i (.pick 43 (.s 39) (qb true) (.s 42)),qm 44 43, .g 44 false 46 (.fad 45 (.s 6) 1), .g 44 false 47 (.ldl 46 6 (.s 45) 1 false), .g 44 false 48 (.fad 47 (.s 3) 0), .g 44 false 49 (.ldl 48 3 (.s 47) 1 false), .g 44 false 50 (.bin 49 .geq (.s 46) (.s 48)), .i (.pick 50 (.s 44) (qb true) (.s 49)),qm 51 50, .g 51 false 53 (.fad 52 (.s 6) 2), .g 51 false 54 (.ldl 53 6 (.s 52) 1 false), .g 51 false 55 (.call 55 337 false [(.s 53)]), .g 51 false 56 (.not 55 (.s 54)), .i (.pick 56 (.s 51) (qb true) (.s 55)),qm 57 56, .g 57 false 59 (.mov 58 (.s 5)), .g 57 false 60 (.bin 59 .gtr (.s 58) (qi 0)), .g 57 false 61 (.mov 60 (.s 59)), .g 60 true 62 (.fad 61 (.s 3) 1), .g 60 true 63 (.ldl 62 3 (.s 61) 1 false), .g 60 true 64 (.mov 63 (.s 5)), .g 60 true 65 (.bin 64 .sub (.s 63) (qi 1)), .g 60 true 66 (.iad 65 (.s 62) (.s 64) 3), .g 60 true 67 (.fad 66 (.s 65) 0), .g 60 true 68 (.ldh 67 (.s 66) 1 false), .g 60 true 69 (.fad 68 (.s 6) 0), .g 60 true 70 (.ldl 69 6 (.s 68) 1 false), .g 60 true 71 (.bin 70 .geq (.s 67) (.s 69)), .g 57 false 72 (.pick 71 (.s 60) (.s 70) (qb false)), .i (.pick 72 (.s 57) (qb true) (.s 71))]) (.cond (.s 72) (.seq (.ops [.i (.mov 4 (qb false))]) .ret) .skip)))) (.ops [.i (.bin 73 .add (.s 27) (qi 1)),qm 27 73]))))))) (.seq (.ops [.i (.mov 4 (qb true))]) .ret))))⟩
theorem Jz:cd z6=some z5:=by kernel_rfl
theorem Hh (l:ah) (t:Tc) (hw:t.wf):VC cd z6 (aD [(true,l.c),(true,t.c)]) (fun rs _=>rs=bl (fP l t)):=by
 have w1:=hw.2.1
 simp only[Sz]at w1
 refine aa Jz rfl ?_
 simp(disch:=omega) [z5,ah.c,Tc.c,VY]
 refine ao (cC l) ?_ (ha:=by first|rfl|(simp[ah.c,VY] <;>repeat' constructor))
 simp(disch:=omega) [VY]
 refine an (fun h1=> ?_) (fun h1=> ?_)
 case refine_2=>simp(disch:=omega) [h1,fP,VY]
 simp(disch:=omega) [h1,VY]
 refine ao (fC t.view) ?_
 simp(disch:=omega) [h1,VY]
 refine an (fun h2=> ?_) (fun h2=> ?_)
 case refine_2=>simp(disch:=omega) [h1,h2,fP,VY]
 have hn:=kb h1
 have hv:=ek h2
 simp(disch:=omega) [h1,h2,cc,VY]
 refine ab (fun h3=> ?_) (fun h3=> ?_)
 ·simp(disch:=omega) [h1,h2,h3,fP,show ¬(t.entries.length:Int)≤l.n by omega,VY]
 simp(disch:=omega) [h1,h2,h3,cc,VY]
 refine bF (σ:=Nat) (f1:=_) (es0:=_) (by simp(disch:=omega) [VY];rfl) (by simp(disch:=omega) [VY];rfl) (fun i=> [(27, .val false [.int .i64 (i:Int)])]) (fun _=> []) (fun i g=>g+i=t.entries.length∧∀j,j < i→cn l t j=true) 0 t.entries.length (by simp(disch:=omega) [VY]) (by simp(disch:=omega) [VY]) ⟨by omega,fun j hj=>by omega⟩ ?_
 rintro i n g ⟨hg,hd⟩ P hP
 simp(disch:=omega) [VY]
 refine ab (fun g1=> ?_) (fun g1=> ?_)
 case refine_2=>
  have hY:=Kd (l:=l) (t:=t) (fun i hi=>hd i (by omega))
  simp(disch:=omega) [h1,h2,hY,show(t.entries.length:Int)≤l.n by omega,VY]
 have hi:i < t.entries.length:=by omega
 simp(disch:=omega) [ed hi,VY]
 refine ao (b7 t.entries[i].who 0 (l.n - 1)) ?_
 simp(disch:=omega) [VY]
 refine an (fun g2=> ?_) (fun g2=> ?_)
 case refine_2=>simp(disch:=omega) [g2,fL hi (show cn l t i=false by simp[cn,hi,g2]),VY]
 simp(disch:=omega) [g2,VY]
 refine ab (fun g3=> ?_) (fun g3=> ?_)
 ·have e5:cO t.entries[i].high 0 (t.view - 1)=false:=by simp only[cO,decide_eq_false_iff_not];omega
  simp(disch:=omega) [g2,g3,fL hi (show cn l t i=false by simp[cn,hi,e5]),VY]
 simp(disch:=omega) [g2,g3,VY]
 refine ab (fun g4=> ?_) (fun g4=> ?_)
 ·have e5:cO t.entries[i].high 0 (t.view - 1)=false:=by simp only[cO,decide_eq_false_iff_not];omega
  simp(disch:=omega) [g2,g3,g4,fL hi (show cn l t i=false by simp[cn,hi,e5]),VY]
 have e5:cO t.entries[i].high 0 (t.view - 1)=true:=by simp only[cO,decide_eq_true_eq];omega
 simp(disch:=omega) [g2,g3,g4,VY]
 refine ao (fw t.entries[i].tag) ?_
 simp(disch:=omega) [g2,g3,g4,VY]
 refine an (fun g5=> ?_) (fun g5=> ?_)
 case refine_2=>simp(disch:=omega) [g2,g3,g4,g5,fL hi (show cn l t i=false by simp[cn,hi,g5]),VY]
 simp(disch:=omega) [g2,g3,g4,g5,VY]
 refine ab (fun g6=> ?_) (fun g6=> ?_)
 ·have hj:i - 1 < t.entries.length:=by omega
  have e1:((i:Int) - 1).toNat=i - 1:=by omega
  have e2:(1:Int)≤(i:Int):=by omega
  have e3:¬i=0:=by omega
  simp(disch:=omega) [g2,g3,g4,g5,g6,cc,e1,e2,ed hj,VY]
  refine ab (fun g7=> ?_) (fun g7=> ?_)
  ·simp(disch:=omega) [g2,g3,g4,g5,g6,g7,fL hi (show cn l t i=false by simp[cn,hi,hj,e3,show ¬t.entries[i - 1].who < t.entries[i].who by omega]),VY]
  have e4:t.entries[i - 1].who < t.entries[i].who:=by omega
  simp(disch:=omega) [g2,g3,g4,g5,g6,g7,VY]
  exact hP (i+1) (g - 1) _ _ (by omega) ⟨by omega,yG hd (by simp[cn,hi,g2,e5,g5,hj,e4])⟩ (by simp(disch:=omega) [VY]) (by simp(disch:=omega) [VY])
 ·have e4:i=0:=by omega
  simp(disch:=omega) [g2,g3,g4,g5,g6,VY]
  exact hP (i+1) (g - 1) _ _ (by omega) ⟨by omega,yG hd (by subst e4;simp[cn,hi,g2,e5,g5])⟩ (by simp(disch:=omega) [VY]) (by simp(disch:=omega) [VY])
abbrev yB:Nat:=27
def xQ:AF:=⟨3,5,[.tmp 6, .tmp 7],(.seq (.ops [.i (.lbox 3 (.s 0)), .i (.lbox 5 (.s 2)), .i (.mov 6 (.c (.val false [.nils]))), .i (.mov 7 (qb false))]) (.seq (.seq (.ops [ql 9 3 3 5 true,ql 10 5 5 5 true, .i (.call 12 103 false [(.s 9),(.s 10)]), .i (.not 12 (.s 11))]) (.cond (.s 12) (.seq (.ops [.i (.mov 6 (.c (.val false [.nils]))), .i (.mov 7 (qb false))]) .ret) .skip)) (.seq (.ops [qm 13 1,qk 15 93 13, .i (.bld 15 [.nils] [(0,1,(.s 14))]), .i (.hbox 16 146 (.s 15)),qm 8 16]) (.seq (.ops [qm 17 8,ql 18 5 5 5 true, .i (.call 20 104 false [(.s 17),(.s 18)])]) (.seq (.ops [qm 20 8, .i (.nch 21 (.s 20)),qf 22 21 0, .i (.ldh 23 (.s 22) 1 false),qm 6 23, .i (.mov 7 (qb true))]) .ret)))))⟩
theorem Il:cd yB=some xQ:=by kernel_rfl
theorem vS (l:ah) (b:Bytes) (q:Qc) (hw:q.wf) (hb:b.length≤900000000):VC cd yB (aD [(true,l.c),(false,[.sl (bytes b)]),(true,q.c)]) (fun rs _=>rs=bz (eS l q) (b++Kz q)):=by
 refine aa Il rfl ?_
 simp(disch:=omega) [xQ,Qc.c,ah.c,VY]
 refine ae (mR l q hw) rfl rfl ?_
 simp(disch:=omega) [VY]
 refine an (fun h0=> ?_) (fun h0=> ?_)
 case refine_2=>simp(disch:=omega) [h0,bz,VY]
 have hs:=iJ h0
 simp(disch:=omega) [h0,VY]
 refine ae (aN b (by omega)) rfl rfl ?_
 simp(disch:=omega) [VZ]
 refine dA (mO _ q hs ?_) ?_
 ·(try simp only[List.length_append]);omega
 simp(disch:=omega) [bz,h0,VZ]
abbrev oD:Nat:=260
def oE:AF:=⟨3,6,[.tmp 6, .tmp 7],(.seq (.ops [.i (.lbox 3 (.s 0)), .i (.lbox 5 (.s 2)), .i (.mov 6 (.c (.val false [.nils]))), .i (.mov 7 (qb false))]) (.seq (.seq (.ops [ql 12 3 3 5 true,ql 13 5 5 11 true, .i (.call 15 311 false [(.s 12),(.s 13)]), .i (.not 15 (.s 14))]) (.cond (.s 15) (.seq (.ops [.i (.mov 6 (.c (.val false [.nils]))), .i (.mov 7 (qb false))]) .ret) .skip)) (.seq (.ops [ql 17 3 3 5 true,qm 18 1,qf 19 5 0,ql 20 5 19 10 true, .i (.call 22 259 false [(.s 17),(.s 18),(.s 20)]),qm 16 21, .i (.ext 22 (.s 16) 0), .i (.ext 23 (.s 16) 1),qm 8 22,qm 9 23]) (.seq (.ops [qm 24 8,qf 25 5 10,ql 26 5 25 1 false,qn 27 26, .i (.call 29 308 false [(.s 24),(.s 27)]),qm 8 28]) (.seq (.seq (.ops [qf 29 5 10,ql 30 5 29 1 false,qn 31 30, .i (.mov 32 (qi 0))]) (.block 0 (.loop [39,38,37,36,35,34,33,11] (.seq (.ops [qd 33 .lss 32 31]) (.seq (.cond (.s 33) .skip (.exit 0)) (.seq (.block 1 (.seq (.ops [.i (.iad 34 (.s 30) (.s 32) 1), .i (.ldh 35 (.s 34) 1 false),qm 11 35]) (.ops [qm 36 8,qm 37 11, .i (.call 39 312 false [(.s 36),(.s 37)]),qm 8 38]))) (.ops [.i (.bin 39 .add (.s 32) (qi 1)),qm 32 39]))))))) (.seq (.ops [qm 40 8,qm 6 40, .i (.mov 7 (qb true))]) .ret))))))⟩
theorem Bo:cd oD=some oE:=by kernel_rfl
theorem lJ (l:ah) (b:Bytes) (x:Block) (hw:x.wc∧∀t∈x.txs,t.length≤100000000) (hb:b.length≤800000000):VC cd oD (aD [(true,l.c),(false,[.sl (bytes b)]),(true,x.c)]) (fun rs _=>rs=bz (bj l x) (b++jm x)):=by
 refine aa Bo rfl ?_
 simp(disch:=omega) [oE,Block.c,Head.c,ah.c,VY]
 refine ao (oB l x hw.1 (fun t ht=>by have:=hw.2 t ht;omega)) ?_ (ha:=by first|rfl|(simp[ah.c,Block.c,Head.c,VY] <;>repeat' constructor))
 simp(disch:=omega) [VY]
 refine an (fun h0=> ?_) (fun h0=> ?_)
 case refine_2=>simp(disch:=omega) [h0,bz,VY]
 have hh:=iH h0
 have hf:=qj h0
 have ht:=rG h0
 have hs:=gG (dU hh)
 simp(disch:=omega) [h0,VY]
 refine ao ((dz l b x.head hw.1.1.1 (by omega)).re (bU hh)) ?_ (ha:=by first|rfl|(simp[ah.c,Head.c,VY] <;>repeat' constructor))
 simp(disch:=omega) [h0,aq,VY]
 refine ao (bW (b++dM x.head) x.txs.length (hD (by omega)) (by simp only[List.length_append];omega)) ?_
 have h1:=cE (n:=x.txs.length) (by omega)
 simp(disch:=omega) [h0,aq,VY]
 refine fT (σ:=Nat×Nat×Nat) (f1:=_) (by simp(disch:=omega) [VY];rfl) (fun p=> [(32, .val false [.int .i64 (p.1:Int)]),(8, .val false [.ow p.2.1 p.2.2])]) (fun p=> [(p.2.1, .sl p.2.2 true true (some (5,1)) (bytes (b++(dM x.head++(aP x.txs.length++ep (x.txs.take p.1))))))]) (fun p g=>g+p.1=x.txs.length∧(p.2.1=245760∨p.2.1=327680)) (0,245760,20) x.txs.length (by simp(disch:=omega) [VY]) (by simp(disch:=omega) [show ep []= []from rfl,VY]) ⟨by omega, .inl rfl⟩ ?_
 rintro⟨i,key,v⟩ n g ⟨hg,hk⟩ P hP
 simp only at hg hk
 have hlt:∀t∈x.txs.take i,t.length≤1000:=fun t h=>ht t (List.mem_of_mem_take h)
 have hl:=mz hlt
 have hl2:(x.txs.take i).length≤8:=by rw[List.length_take];omega
 have hl3:(ep (x.txs.take i)).length≤8072:=by omega
 rcases hk with rfl|rfl
 all_goals
  simp(disch:=omega) [VY]
  refine ab (fun h2=> ?_) (fun h2=> ?_)
  ·have hi:i < x.txs.length:=by omega
   have hx:=ht _ (List.getElem_mem hi)
   simp(disch:=omega) [du hi,VY]
   refine ao (ns (b++(dM x.head++(aP x.txs.length++ep (x.txs.take i)))) x.txs[i] (by simp only[List.length_append];omega) (by omega)) ?_
   simp(disch:=omega) [VY]
   exact hP (i+1,327680,_) (g - 1) _ _ (by omega) ⟨by simp only;omega, .inr rfl⟩ (by simp(disch:=omega) [VY];rfl) (by simp(disch:=omega) [Ap hi,VY])
  ·have hi:i=x.txs.length:=by omega
   subst hi
   simp(disch:=omega) [bz,jm,ep,List.take_length,VY]
abbrev oH:Nat:=34
def oM:AF:=⟨3,6,[.tmp 6, .tmp 7],(.seq (.ops [.i (.lbox 3 (.s 0)), .i (.lbox 5 (.s 2)), .i (.mov 6 (.c (.val false [.nils]))), .i (.mov 7 (qb false))]) (.seq (.seq (.ops [ql 11 3 3 5 true,ql 12 5 5 11 true, .i (.call 14 113 false [(.s 11),(.s 12)]), .i (.not 14 (.s 13))]) (.cond (.s 14) (.seq (.ops [.i (.mov 6 (.c (.val false [.nils]))), .i (.mov 7 (qb false))]) .ret) .skip)) (.seq (.ops [qm 15 1,qk 17 93 15, .i (.bld 17 [.nils] [(0,1,(.s 16))]), .i (.hbox 18 146 (.s 17)),qm 8 18]) (.seq (.ops [qm 19 8,qf 20 5 0,ql 21 5 20 10 true, .i (.call 23 109 false [(.s 19),(.s 21)])]) (.seq (.ops [qm 23 8,qf 24 5 10,ql 25 5 24 1 false,qn 26 25, .i (.call 28 99 false [(.s 23),(.s 26)])]) (.seq (.seq (.ops [qf 28 5 10,ql 29 5 28 1 false,qn 30 29, .i (.mov 31 (qi 0))]) (.block 0 (.loop [44,43,42,41,40,39,38,37,36,35,34,33,32,10] (.seq (.ops [qd 32 .lss 31 30]) (.seq (.cond (.s 32) .skip (.exit 0)) (.seq (.block 1 (.seq (.ops [.i (.iad 33 (.s 29) (.s 31) 1), .i (.ldh 34 (.s 33) 1 false),qm 10 34]) (.ops [qm 35 8,qm 36 8, .i (.nch 37 (.s 36)),qf 38 37 0, .i (.ldh 39 (.s 38) 1 false),qm 40 10, .i (.call 42 114 false [(.s 39),(.s 40)]), .i (.nch 42 (.s 35)),qf 43 42 0, .i (.sth (.s 43) (.s 41) 1)]))) (.ops [.i (.bin 44 .add (.s 31) (qi 1)),qm 31 44]))))))) (.seq (.ops [qm 45 8, .i (.nch 46 (.s 45)),qf 47 46 0, .i (.ldh 48 (.s 47) 1 false),qm 6 48, .i (.mov 7 (qb true))]) .ret)))))))⟩
theorem AA:cd oH=some oM:=by kernel_rfl
theorem kG (l:ah) (b:Bytes) (x:Block) (hw:x.wc∧∀t∈x.txs,t.length≤100000000) (hb:b.length≤800000000):VC cd oH (aD [(true,l.c),(false,[.sl (bytes b)]),(true,x.c)]) (fun rs _=>rs=bz (bj l x) (b++jm x)):=by
 refine aa AA rfl ?_
 simp(disch:=omega) [oM,Block.c,Head.c,ah.c,VY]
 refine ao (AM l x hw.1 (fun t ht=>by have:=hw.2 t ht;omega)) ?_ (ha:=by first|rfl|(simp[ah.c,Block.c,Head.c,VY] <;>repeat' constructor))
 simp(disch:=omega) [VY]
 refine an (fun h0=> ?_) (fun h0=> ?_)
 case refine_2=>simp(disch:=omega) [h0,bz,VY]
 have hh:=iH h0
 have hf:=qj h0
 have ht:=rG h0
 have hz:=dU hh
 have hs:=gG hz
 simp(disch:=omega) [h0,VY]
 refine ae (aN b (by omega)) rfl rfl ?_
 simp(disch:=omega) [VZ]
 refine dA (iY _ x.head hz ?_) ?_
 ·(try simp only[List.length_append]);omega
 simp(disch:=omega) [aq,VZ]
 refine dA (aO _ x.txs.length (hD (by omega)) ?_) ?_
 ·(try simp only[List.length_append]);omega
 have h1:=cE (n:=x.txs.length) (by omega)
 simp(disch:=omega) [aq,VZ]
 refine fT (σ:=Nat×Nat×Nat) (f1:=_) (by simp(disch:=omega) [VZ];rfl) (fun p=> [(31, .val false [.int .i64 (p.1:Int)])]) (fun p=> [(18, .pt 19 146 [.ow p.2.1 p.2.2]),(p.2.1, .sl p.2.2 true true (some (5,1)) (bytes (b++(dM x.head++(aP x.txs.length++ep (x.txs.take p.1))))))]) (fun p g=>g+p.1=x.txs.length∧(p.2.1=1099511701504∨p.2.1=352256)) (0,1099511701504,23) x.txs.length (by simp(disch:=omega) [VZ]) (by simp(disch:=omega) [show ep []= []from rfl,VZ]) ⟨by omega, .inl rfl⟩ ?_
 rintro⟨i,key,v⟩ n g ⟨hg,hk⟩ P hP
 simp only at hg hk
 have hlt:∀t∈x.txs.take i,t.length≤1000:=fun t h=>ht t (List.mem_of_mem_take h)
 have hl:=mz hlt
 have hl2:(x.txs.take i).length≤8:=by rw[List.length_take];omega
 have hl3:(ep (x.txs.take i)).length≤8072:=by omega
 rcases hk with rfl|rfl
 all_goals
  simp(disch:=omega) [VZ]
  refine ab (fun h2=> ?_) (fun h2=> ?_)
  ·have hi:i < x.txs.length:=by omega
   have hx:=ht _ (List.getElem_mem hi)
   simp(disch:=omega) [du hi,VZ]
   refine ao (oq (b++(dM x.head++(aP x.txs.length++ep (x.txs.take i)))) x.txs[i] (by simp only[List.length_append];omega) (by omega)) ?_
   simp(disch:=omega) [VZ]
   exact hP (i+1,352256,_) (g - 1) _ _ (by omega) ⟨by simp only;omega, .inr rfl⟩ (by simp(disch:=omega) [VZ]) (by simp(disch:=omega) [Ap hi,VZ];rfl)
  ·have hi:i=x.txs.length:=by omega
   subst hi
   simp(disch:=omega) [bz,jm,ep,List.take_length,VZ]
theorem CN {l:ah} {t:Tc} (h:fP l t=true):t.entries.length≤10∧isNum t.view=true∧∀e∈t.entries,isNum e.who=true∧isNum e.high=true∧e.tag.length=32:=by
 simp only[fP,Bool.and_eq_true,decide_eq_true_eq,List.all_eq_true,List.mem_range]at h
 obtain⟨⟨⟨h1,h2⟩,h3⟩,h4⟩:=h
 have hn:=kb h1
 have hv:=ek h2
 refine⟨by omega,h2,fun e he=> ?_⟩
 obtain⟨i,hi,rfl⟩:=List.mem_iff_getElem.1 he
 have h5:=h4 i hi
 simp only[cn,List.getElem?_eq_getElem hi,Bool.and_eq_true]at h5
 obtain⟨⟨⟨g1,g2⟩,g3⟩,_⟩:=h5
 have g1':=ek g1
 have g2':=ek g2
 exact⟨by simp only[isNum,cO,decide_eq_true_eq];omega,by simp only[isNum,cO,decide_eq_true_eq];omega,hQ g3⟩
def gY (l:List Entry):Bytes:=(l.map LH).flatten
theorem EB {l:List Entry} {i:Nat} (h:i < l.length):gY (l.take (i+1))=gY (l.take i)++LH l[i]:=by
 rw[List.take_succ_eq_append_getElem h]
 simp only[gY,List.map_append,List.map_cons,List.map_nil,List.flatten_append,List.flatten_cons,List.flatten_nil,List.append_nil]
theorem tO:∀ {l:List Entry},(∀e∈l,isNum e.who=true∧isNum e.high=true∧e.tag.length=32)→(gY l).length≤50 * l.length
 | [],_=>by simp[gY]
 |a::l,h=>by
  have h1:=tO (l:=l) fun x hx=>h x (by simp[hx])
  obtain⟨g1,g2,g3⟩:=h a (by simp)
  have h2:=az g1
  have h3:=az g2
  simp only[gY,LH,List.map_cons,List.flatten_cons,List.length_append,List.length_cons]at h1⊢
  omega
abbrev yf:Nat:=37
def xi:AF:=⟨3,6,[.tmp 6, .tmp 7],(.seq (.ops [.i (.lbox 3 (.s 0)), .i (.lbox 5 (.s 2)), .i (.mov 6 (.c (.val false [.nils]))), .i (.mov 7 (qb false))]) (.seq (.seq (.ops [ql 11 3 3 5 true,ql 12 5 5 2 true, .i (.call 14 117 false [(.s 11),(.s 12)]), .i (.not 14 (.s 13))]) (.cond (.s 14) (.seq (.ops [.i (.mov 6 (.c (.val false [.nils]))), .i (.mov 7 (qb false))]) .ret) .skip)) (.seq (.ops [qm 15 1,qk 17 93 15, .i (.bld 17 [.nils] [(0,1,(.s 16))]), .i (.hbox 18 146 (.s 17)),qm 8 18]) (.seq (.ops [qm 19 8,qf 20 5 0,ql 21 5 20 1 false, .i (.call 23 99 false [(.s 19),(.s 21)])]) (.seq (.ops [qm 23 8,qf 24 5 1,ql 25 5 24 1 false,qn 26 25, .i (.call 28 99 false [(.s 23),(.s 26)])]) (.seq (.seq (.ops [qf 28 5 1,ql 29 5 28 1 false,qn 30 29, .i (.mov 31 (qi 0))]) (.block 0 (.loop [47,46,45,44,43,42,41,40,39,38,37,36,35,34,33,32,10] (.seq (.ops [qd 32 .lss 31 30]) (.seq (.cond (.s 32) .skip (.exit 0)) (.seq (.block 1 (.seq (.ops [.i (.iad 33 (.s 29) (.s 31) 3), .i (.ldh 34 (.s 33) 3 true), .i (.lal 10 [.int .i64 0, .int .i64 0, .nils]),qs 10 10 34 3]) (.seq (.ops [qm 35 8,qf 36 10 0,ql 37 10 36 1 false, .i (.call 39 99 false [(.s 35),(.s 37)])]) (.seq (.ops [qm 39 8,qf 40 10 1,ql 41 10 40 1 false, .i (.call 43 99 false [(.s 39),(.s 41)])]) (.ops [qm 43 8,qf 44 10 2,ql 45 10 44 1 false, .i (.call 47 100 false [(.s 43),(.s 45)])]))))) (.ops [.i (.bin 47 .add (.s 31) (qi 1)),qm 31 47]))))))) (.seq (.ops [qm 48 8, .i (.nch 49 (.s 48)),qf 50 49 0, .i (.ldh 51 (.s 50) 1 false),qm 6 51, .i (.mov 7 (qb true))]) .ret)))))))⟩
theorem IH:cd yf=some xi:=by kernel_rfl
theorem vW (l:ah) (b:Bytes) (t:Tc) (hw:t.wf) (hb:b.length≤800000000):VC cd yf (aD [(true,l.c),(false,[.sl (bytes b)]),(true,t.c)]) (fun rs _=>rs=bz (fP l t) (b++OW t)):=by
 refine aa IH rfl ?_
 simp(disch:=omega) [xi,Tc.c,ah.c,VY]
 refine ao (HI l t hw) ?_ (ha:=by first|rfl|(simp[ah.c,Tc.c,VY] <;>repeat' constructor))
 simp(disch:=omega) [VY]
 refine an (fun h0=> ?_) (fun h0=> ?_)
 case refine_2=>simp(disch:=omega) [h0,bz,VY]
 obtain⟨hf,hv,he⟩:=CN h0
 have h3:=az hv
 have h1:=cE (n:=t.entries.length) (by omega)
 simp(disch:=omega) [h0,VY]
 refine ae (aN b (by omega)) rfl rfl ?_
 simp(disch:=omega) [VZ]
 refine dA (aO _ t.view hv ?_) ?_
 ·(try simp only[List.length_append]);omega
 simp(disch:=omega) [cc,VZ]
 refine dA (aO _ t.entries.length (hD (by omega)) ?_) ?_
 ·(try simp only[List.length_append]);omega
 simp(disch:=omega) [cc,VZ]
 refine fT (σ:=Nat×Nat) (f1:=_) (by simp(disch:=omega) [VZ];rfl) (fun p=> [(31, .val false [.int .i64 (p.1:Int)])]) (fun p=> [(18, .pt 10 146 [.ow 1099511701504 p.2]),(1099511701504, .sl p.2 true true (some (5,1)) (bytes (b++(aP t.view.toNat++(aP t.entries.length++gY (t.entries.take p.1))))))]) (fun p g=>g+p.1=t.entries.length) (0,14) t.entries.length (by simp(disch:=omega) [VZ]) (by simp(disch:=omega) [show gY []= []from rfl,VZ]) (by omega) ?_
 rintro⟨i,v⟩ n g hg P hP
 simp only at hg
 have hlt:∀e∈t.entries.take i,isNum e.who=true∧isNum e.high=true∧e.tag.length=32:=fun e h=>he e (List.mem_of_mem_take h)
 have hl:=tO hlt
 have hl2:(t.entries.take i).length≤10:=by rw[List.length_take];omega
 have hl3:(gY (t.entries.take i)).length≤500:=by omega
 simp(disch:=omega) [VZ]
 refine ab (fun h2=> ?_) (fun h2=> ?_)
 ·have hi:i < t.entries.length:=by omega
  obtain⟨g1,g2,g3⟩:=he _ (List.getElem_mem hi)
  have g4:=az g1
  have g5:=az g2
  simp(disch:=omega) [ed hi,VZ]
  refine dA (aO _ t.entries[i].who g1 ?_) ?_
  ·(try simp only[List.length_append]);omega
  simp(disch:=omega) [VZ]
  refine dA (aO _ t.entries[i].high g2 ?_) ?_
  ·(try simp only[List.length_append]);omega
  simp(disch:=omega) [VZ]
  refine dA (cL _ t.entries[i].tag (by omega) ?_) ?_
  ·(try simp only[List.length_append]);omega
  simp(disch:=omega) [VZ]
  exact hP (i+1,_) (g - 1) _ _ (by omega) (by simp only;omega) (by simp(disch:=omega) [VZ]) (by simp(disch:=omega) [EB hi,LH,VZ];rfl)
 ·have hi:i=t.entries.length:=by omega
  subst hi
  simp(disch:=omega) [bz,OW,gY,List.take_length,VZ]
abbrev xO:Nat:=261
def x7:AF:=⟨3,6,[.tmp 6, .tmp 7],(.seq (.ops [.i (.lbox 3 (.s 0)), .i (.lbox 5 (.s 2)), .i (.mov 6 (.c (.val false [.nils]))), .i (.mov 7 (qb false))]) (.seq (.seq (.ops [ql 11 3 3 5 true,ql 12 5 5 2 true, .i (.call 14 313 false [(.s 11),(.s 12)]), .i (.not 14 (.s 13))]) (.cond (.s 14) (.seq (.ops [.i (.mov 6 (.c (.val false [.nils]))), .i (.mov 7 (qb false))]) .ret) .skip)) (.seq (.ops [qm 15 1,qf 16 5 0,ql 17 5 16 1 false, .i (.call 19 308 false [(.s 15),(.s 17)]),qf 19 5 1,ql 20 5 19 1 false,qn 21 20, .i (.call 23 308 false [(.s 18),(.s 21)]),qm 8 22]) (.seq (.seq (.ops [qf 23 5 1,ql 24 5 23 1 false,qn 25 24, .i (.mov 26 (qi 0))]) (.block 0 (.loop [40,39,38,37,36,35,34,33,32,31,30,29,28,27,10] (.seq (.ops [qd 27 .lss 26 25]) (.seq (.cond (.s 27) .skip (.exit 0)) (.seq (.block 1 (.seq (.ops [.i (.iad 28 (.s 24) (.s 26) 3), .i (.ldh 29 (.s 28) 3 true), .i (.lal 10 [.int .i64 0, .int .i64 0, .nils]),qs 10 10 29 3]) (.ops [qm 30 8,qf 31 10 0,ql 32 10 31 1 false, .i (.call 34 308 false [(.s 30),(.s 32)]),qf 34 10 1,ql 35 10 34 1 false, .i (.call 37 308 false [(.s 33),(.s 35)]),qf 37 10 2,ql 38 10 37 1 false, .i (.app 39 5 1 1 (.s 36) (.s 38)),qm 8 39]))) (.ops [.i (.bin 40 .add (.s 26) (qi 1)),qm 26 40]))))))) (.seq (.ops [qm 41 8,qm 6 41, .i (.mov 7 (qb true))]) .ret)))))⟩
theorem IA:cd xO=some x7:=by kernel_rfl
theorem vT (l:ah) (b:Bytes) (t:Tc) (hw:t.wf) (hb:b.length≤800000000):VC cd xO (aD [(true,l.c),(false,[.sl (bytes b)]),(true,t.c)]) (fun rs _=>rs=bz (fP l t) (b++OW t)):=by
 refine aa IA rfl ?_
 simp(disch:=omega) [x7,Tc.c,ah.c,VY]
 refine ao (Hh l t hw) ?_ (ha:=by first|rfl|(simp[ah.c,Tc.c,VY] <;>repeat' constructor))
 simp(disch:=omega) [VY]
 refine an (fun h0=> ?_) (fun h0=> ?_)
 case refine_2=>simp(disch:=omega) [h0,bz,VY]
 obtain⟨hf,hv,he⟩:=CN h0
 have h3:=az hv
 have h1:=cE (n:=t.entries.length) (by omega)
 simp(disch:=omega) [h0,VY]
 refine ao (bW b t.view hv (by omega)) ?_
 simp(disch:=omega) [h0,cc,VY]
 refine ao (bW (b++aP t.view.toNat) t.entries.length (hD (by omega)) (by simp only[List.length_append];omega)) ?_
 simp(disch:=omega) [h0,cc,VY]
 refine fT (σ:=Nat×Nat×Nat) (f1:=_) (by simp(disch:=omega) [VY];rfl) (fun p=> [(26, .val false [.int .i64 (p.1:Int)]),(8, .val false [.ow p.2.1 p.2.2])]) (fun p=> [(p.2.1, .sl p.2.2 true true (some (5,1)) (bytes (b++(aP t.view.toNat++(aP t.entries.length++gY (t.entries.take p.1))))))]) (fun p g=>g+p.1=t.entries.length∧(p.2.1=196608∨p.2.1=311296)) (0,196608,_) t.entries.length (by simp(disch:=omega) [VY];rfl) (by simp(disch:=omega) [show gY []= []from rfl,VY]) ⟨by omega, .inl rfl⟩ ?_
 rintro⟨i,key,v⟩ n g ⟨hg,hk⟩ P hP
 simp only at hg hk
 have hlt:∀e∈t.entries.take i,isNum e.who=true∧isNum e.high=true∧e.tag.length=32:=fun e h=>he e (List.mem_of_mem_take h)
 have hl:=tO hlt
 have hl2:(t.entries.take i).length≤10:=by rw[List.length_take];omega
 have hl3:(gY (t.entries.take i)).length≤500:=by omega
 rcases hk with rfl|rfl
 all_goals
  simp(disch:=omega) [VY]
  refine ab (fun h2=> ?_) (fun h2=> ?_)
  ·have hi:i < t.entries.length:=by omega
   obtain⟨g1,g2,g3⟩:=he _ (List.getElem_mem hi)
   have g4:=az g1
   have g5:=az g2
   simp(disch:=omega) [ed hi,VY]
   refine ao (bW (b++(aP t.view.toNat++(aP t.entries.length++gY (t.entries.take i)))) t.entries[i].who g1 (by simp only[List.length_append];omega)) ?_
   simp(disch:=omega) [VY]
   refine ao (bW (b++(aP t.view.toNat++(aP t.entries.length++(gY (t.entries.take i)++aP t.entries[i].who.toNat)))) t.entries[i].high g2 (by simp only[List.length_append];omega)) ?_
   simp(disch:=omega) [bG,aj,VY]
   exact hP (i+1,311296,_) (g - 1) _ _ (by omega) ⟨by simp only;omega, .inr rfl⟩ (by simp(disch:=omega) [VY];rfl) (by simp(disch:=omega) [EB hi,LH,VY])
  ·have hi:i=t.entries.length:=by omega
   subst hi
   simp(disch:=omega) [bz,OW,gY,List.take_length,VY]
def eD (l:List Head):Bytes:=(l.map dM).flatten
theorem Ad {l:List Head} {i:Nat} (h:i < l.length):eD (l.take (i+1))=eD (l.take i)++dM l[i]:=by
 rw[List.take_succ_eq_append_getElem h]
 simp only[eD,List.map_append,List.map_cons,List.map_nil,List.flatten_append,List.flatten_cons,List.flatten_nil,List.append_nil]
theorem mj:∀ {l:List Head},(∀h∈l,IU h)→(eD l).length≤1000 * l.length
 | [],_=>by simp[eD]
 |a::l,h=>by
  have h1:=mj (l:=l) fun x hx=>h x (by simp[hx])
  have h2:=gG (h a (by simp))
  simp only[eD,List.map_cons,List.flatten_cons,List.length_append,List.length_cons]at h1⊢
  omega
theorem qp {l:ah} {p:Proof} (h:cj l p=true):p.heads.length≤5∧eS l p.qc=true∧∀x∈p.heads,bx l x=true:=by
 simp only[cj,Bool.and_eq_true]at h
 obtain⟨⟨⟨h1,h2⟩,h3⟩,h4⟩:=h
 have h5:=sd h3
 simp only[ah.ok,Bool.and_eq_true]at h5
 have h6:=ek h5.2
 have h7:=ek h1
 refine⟨by omega,h3,fun x hx=> ?_⟩
 simp only[iI,List.all_eq_true]at h2
 exact h2 x hx
abbrev oJ:Nat:=40
def nM:AF:=⟨3,6,[.tmp 6, .tmp 7],(.seq (.ops [.i (.lbox 3 (.s 0)), .i (.lbox 5 (.s 2)), .i (.mov 6 (.c (.val false [.nils]))), .i (.mov 7 (qb false))]) (.seq (.seq (.ops [ql 11 3 3 5 true,ql 12 5 5 6 true, .i (.call 14 121 false [(.s 11),(.s 12)]), .i (.not 14 (.s 13))]) (.cond (.s 14) (.seq (.ops [.i (.mov 6 (.c (.val false [.nils]))), .i (.mov 7 (qb false))]) .ret) .skip)) (.seq (.ops [qm 15 1,qk 17 93 15, .i (.bld 17 [.nils] [(0,1,(.s 16))]), .i (.hbox 18 146 (.s 17)),qm 8 18]) (.seq (.ops [qm 19 8,qf 20 5 0,ql 21 5 20 1 false,qn 22 21, .i (.call 24 99 false [(.s 19),(.s 22)])]) (.seq (.seq (.ops [qf 24 5 0,ql 25 5 24 1 false,qn 26 25, .i (.mov 27 (qi 0))]) (.block 0 (.loop [34,33,32,31,30,29,28,10] (.seq (.ops [qd 28 .lss 27 26]) (.seq (.cond (.s 28) .skip (.exit 0)) (.seq (.block 1 (.seq (.ops [.i (.iad 29 (.s 25) (.s 27) 10), .i (.ldh 30 (.s 29) 10 true), .i (.lal 10 qz),qs 10 10 30 10]) (.ops [qm 31 8,ql 32 10 10 10 true, .i (.call 34 109 false [(.s 31),(.s 32)])]))) (.ops [.i (.bin 34 .add (.s 27) (qi 1)),qm 27 34]))))))) (.seq (.ops [qm 35 8,qf 36 5 1,ql 37 5 36 5 true, .i (.call 39 104 false [(.s 35),(.s 37)])]) (.seq (.ops [qm 39 8, .i (.nch 40 (.s 39)),qf 41 40 0, .i (.ldh 42 (.s 41) 1 false),qm 6 42, .i (.mov 7 (qb true))]) .ret)))))))⟩
theorem A4:cd oJ=some nM:=by kernel_rfl
theorem lr (l:ah) (b:Bytes) (p:Proof) (hw:p.wc) (hb:b.length≤800000000):VC cd oJ (aD [(true,l.c),(false,[.sl (bytes b)]),(true,p.c)]) (fun rs _=>rs=bz (cj l p) (b++iU p)):=by
 refine aa A4 rfl ?_
 simp(disch:=omega) [nM,Proof.c,ah.c,VY]
 refine ao (AQ l p hw.1) ?_ (ha:=by first|rfl|(simp[ah.c,Proof.c,VY] <;>repeat' constructor))
 simp(disch:=omega) [VY]
 refine an (fun h0=> ?_) (fun h0=> ?_)
 case refine_2=>simp(disch:=omega) [h0,bz,VY]
 obtain⟨hf,hq,hh⟩:=qp h0
 have h1:=cE (n:=p.heads.length) (by omega)
 simp(disch:=omega) [h0,VY]
 refine ae (aN b (by omega)) rfl rfl ?_
 simp(disch:=omega) [cq,VZ]
 refine dA (aO _ p.heads.length (hD (by omega)) ?_) ?_
 ·(try simp only[List.length_append]);omega
 simp(disch:=omega) [cq,VZ]
 refine fT (σ:=Nat×Nat) (f1:=_) (by simp(disch:=omega) [VZ];rfl) (fun q=> [(27, .val false [.int .i64 (q.1:Int)])]) (fun q=> [(18, .pt 14 146 [.ow 1099511701504 q.2]),(1099511701504, .sl q.2 true true (some (5,1)) (bytes (b++(aP p.heads.length++eD (p.heads.take q.1)))))]) (fun q g=>g+q.1=p.heads.length) (0,16) p.heads.length (by simp(disch:=omega) [VZ]) (by simp(disch:=omega) [show eD []= []from rfl,VZ]) (by omega) ?_
 rintro⟨i,v⟩ n g hg P hP
 simp only at hg
 have hl:=mj (l:=p.heads.take i) (fun e h=>dU (hh e (List.mem_of_mem_take h)))
 have hl2:(p.heads.take i).length≤5:=by rw[List.length_take];omega
 have hl3:(eD (p.heads.take i)).length≤5000:=by omega
 simp(disch:=omega) [VZ]
 refine ab (fun h2=> ?_) (fun h2=> ?_)
 ·have hi:i < p.heads.length:=by omega
  have hz:=dU (hh _ (List.getElem_mem hi))
  have hy:=gG hz
  simp(disch:=omega) [fg hi,Head.c,VZ]
  refine dA (iY _ p.heads[i] hz ?_) ?_
  ·(try simp only[List.length_append]);omega
  simp(disch:=omega) [VZ]
  exact hP (i+1,_) (g - 1) _ _ (by omega) (by simp only;omega) (by simp(disch:=omega) [VZ]) (by simp(disch:=omega) [Ad hi,VZ];rfl)
 ·have hi:i=p.heads.length:=by omega
  subst hi
  rw[List.take_length]at hl3
  simp(disch:=omega) [List.take_length,VZ]
  refine dA (mO _ p.qc (iJ hq) ?_) ?_
  ·(try simp only[List.length_append]);omega
  simp(disch:=omega) [bz,iU,eD,VZ]
abbrev nj:Nat:=262
def m7:AF:=⟨3,6,[.tmp 6, .tmp 7],(.seq (.ops [.i (.lbox 3 (.s 0)), .i (.lbox 5 (.s 2)), .i (.mov 6 (.c (.val false [.nils]))), .i (.mov 7 (qb false))]) (.seq (.seq (.ops [ql 11 3 3 5 true,ql 12 5 5 6 true, .i (.call 14 314 false [(.s 11),(.s 12)]), .i (.not 14 (.s 13))]) (.cond (.s 14) (.seq (.ops [.i (.mov 6 (.c (.val false [.nils]))), .i (.mov 7 (qb false))]) .ret) .skip)) (.seq (.ops [qm 15 1,qf 16 5 0,ql 17 5 16 1 false,qn 18 17, .i (.call 20 308 false [(.s 15),(.s 18)]),qm 8 19]) (.seq (.seq (.ops [qf 20 5 0,ql 21 5 20 1 false,qn 22 21, .i (.mov 23 (qi 0))]) (.block 0 (.loop [34,33,32,31,30,29,28,27,26,25,24,10] (.seq (.ops [qd 24 .lss 23 22]) (.seq (.cond (.s 24) .skip (.exit 0)) (.seq (.block 1 (.seq (.ops [.i (.iad 25 (.s 21) (.s 23) 10), .i (.ldh 26 (.s 25) 10 true), .i (.lal 10 qz),qs 10 10 26 10]) (.ops [ql 28 3 3 5 true,qm 29 8,ql 30 10 10 10 true, .i (.call 32 259 false [(.s 28),(.s 29),(.s 30)]),qm 27 31, .i (.ext 32 (.s 27) 0), .i (.ext 33 (.s 27) 1),qm 8 32]))) (.ops [.i (.bin 34 .add (.s 23) (qi 1)),qm 23 34]))))))) (.seq (.ops [ql 35 3 3 5 true,qm 36 8,qf 37 5 1,ql 38 5 37 5 true, .i (.call 40 258 false [(.s 35),(.s 36),(.s 38)]), .i (.ext 40 (.s 39) 0), .i (.ext 41 (.s 39) 1),qm 6 40,qm 7 41]) .ret)))))⟩
theorem AK:cd nj=some m7:=by kernel_rfl
theorem lA (l:ah) (b:Bytes) (p:Proof) (hw:p.wc) (hb:b.length≤800000000):VC cd nj (aD [(true,l.c),(false,[.sl (bytes b)]),(true,p.c)]) (fun rs _=>rs=bz (cj l p) (b++iU p)):=by
 refine aa AK rfl ?_
 simp(disch:=omega) [m7,Proof.c,ah.c,VY]
 refine ao (BA l p hw.1) ?_ (ha:=by first|rfl|(simp[ah.c,Proof.c,VY] <;>repeat' constructor))
 simp(disch:=omega) [VY]
 refine an (fun h0=> ?_) (fun h0=> ?_)
 case refine_2=>simp(disch:=omega) [h0,bz,VY]
 obtain⟨hf,hq,hh⟩:=qp h0
 have h1:=cE (n:=p.heads.length) (by omega)
 simp(disch:=omega) [h0,cq,VY]
 refine ao (bW b p.heads.length (hD (by omega)) (by omega)) ?_
 simp(disch:=omega) [h0,cq,VY]
 refine fT (σ:=Nat×Nat×Nat) (f1:=_) (by simp(disch:=omega) [VY];rfl) (fun q=> [(23, .val false [.int .i64 (q.1:Int)]),(8, .val false [.ow q.2.1 q.2.2])]) (fun q=> [(q.2.1, .sl q.2.2 true true (some (5,1)) (bytes (b++(aP p.heads.length++eD (p.heads.take q.1)))))]) (fun q g=>g+q.1=p.heads.length∧(q.2.1=172032∨q.2.1=270336)) (0,172032,13) p.heads.length (by simp(disch:=omega) [VY]) (by simp(disch:=omega) [show eD []= []from rfl,VY]) ⟨by omega, .inl rfl⟩ ?_
 rintro⟨i,key,v⟩ n g ⟨hg,hk⟩ P hP
 simp only at hg hk
 have hl:=mj (l:=p.heads.take i) (fun e h=>dU (hh e (List.mem_of_mem_take h)))
 have hl2:(p.heads.take i).length≤5:=by rw[List.length_take];omega
 have hl3:(eD (p.heads.take i)).length≤5000:=by omega
 rcases hk with rfl|rfl
 all_goals
  simp(disch:=omega) [VY]
  refine ab (fun h2=> ?_) (fun h2=> ?_)
  ·have hi:i < p.heads.length:=by omega
   have hx:=hh _ (List.getElem_mem hi)
   simp(disch:=omega) [fg hi,Head.c,VY]
   refine ao ((dz l (b++(aP p.heads.length++eD (p.heads.take i))) p.heads[i] (hw.2.1 _ (List.getElem_mem hi)).1 (by simp only[List.length_append];omega)).re (bU hx)) ?_ (ha:=by first|rfl|(simp[ah.c,Head.c,VY] <;>repeat' constructor))
   simp(disch:=omega) [VY]
   exact hP (i+1,270336,_) (g - 1) _ _ (by omega) ⟨by simp only;omega, .inr rfl⟩ (by simp(disch:=omega) [VY];rfl) (by simp(disch:=omega) [Ad hi,VY])
  ·have hi:i=p.heads.length:=by omega
   subst hi
   rw[List.take_length]at hl3
   simp(disch:=omega) [List.take_length,VY]
   refine ao ((gR l (b++(aP p.heads.length++eD p.heads)) p.qc hw.2.2.1 (by simp only[List.length_append];omega)).re (bU hq)) ?_ (ha:=by first|rfl|(simp[ah.c,Qc.c,VY] <;>repeat' constructor))
   simp(disch:=omega) [bz,iU,eD,VY]
theorem wB {l:ah} {x:aY} (h:dS l x=true):isNum x.height=true∧isNum x.n=true∧isNum x.idx=true∧x.tx.length≤40∧x.path.length≤8∧∀y∈x.path,y.length=32:=by
 simp only[dS,Bool.and_eq_true,decide_eq_true_eq]at h
 obtain⟨⟨⟨⟨⟨⟨h1,h2⟩,h3⟩,h4⟩,h5⟩,h6⟩,h7⟩:=h
 have g1:=Ht h1
 have g3:=ek h3
 have g4:=ek h4
 have g5:=cz x.n.toNat x.idx.toNat
 refine⟨h2,by simp only[isNum,cO,decide_eq_true_eq];omega,by simp only[isNum,cO,decide_eq_true_eq];omega,by omega,by omega,fun y hy=> ?_⟩
 simp only[hashes,List.all_eq_true]at h7
 exact hQ (h7 y hy)
abbrev r8:Nat:=43
def pF:AF:=⟨3,6,[.tmp 6, .tmp 7],(.seq (.ops [.i (.lbox 3 (.s 0)), .i (.lbox 5 (.s 2)), .i (.mov 6 (.c (.val false [.nils]))), .i (.mov 7 (qb false))]) (.seq (.seq (.ops [ql 11 3 3 5 true,ql 12 5 5 5 true, .i (.call 14 125 false [(.s 11),(.s 12)]), .i (.not 14 (.s 13))]) (.cond (.s 14) (.seq (.ops [.i (.mov 6 (.c (.val false [.nils]))), .i (.mov 7 (qb false))]) .ret) .skip)) (.seq (.ops [qm 15 1,qk 17 93 15, .i (.bld 17 [.nils] [(0,1,(.s 16))]), .i (.hbox 18 146 (.s 17)),qm 8 18]) (.seq (.ops [qm 19 8,qf 20 5 0,ql 21 5 20 1 false, .i (.call 23 99 false [(.s 19),(.s 21)])]) (.seq (.ops [qm 23 8,qf 24 5 1,ql 25 5 24 1 false, .i (.call 27 99 false [(.s 23),(.s 25)])]) (.seq (.ops [qm 27 8,qf 28 5 2,ql 29 5 28 1 false, .i (.call 31 99 false [(.s 27),(.s 29)])]) (.seq (.ops [qm 31 8,qm 32 8, .i (.nch 33 (.s 32)),qf 34 33 0, .i (.ldh 35 (.s 34) 1 false),qf 36 5 3,ql 37 5 36 1 false, .i (.call 39 114 false [(.s 35),(.s 37)]), .i (.nch 39 (.s 31)),qf 40 39 0, .i (.sth (.s 40) (.s 38) 1)]) (.seq (.seq (.ops [qf 41 5 4,ql 42 5 41 1 false,qn 43 42, .i (.mov 44 (qi 0))]) (.block 0 (.loop [51,50,49,48,47,46,45,10] (.seq (.ops [qd 45 .lss 44 43]) (.seq (.cond (.s 45) .skip (.exit 0)) (.seq (.block 1 (.seq (.ops [.i (.iad 46 (.s 42) (.s 44) 1), .i (.ldh 47 (.s 46) 1 false),qm 10 47]) (.ops [qm 48 8,qm 49 10, .i (.call 51 100 false [(.s 48),(.s 49)])]))) (.ops [.i (.bin 51 .add (.s 44) (qi 1)),qm 44 51]))))))) (.seq (.ops [qm 52 8, .i (.nch 53 (.s 52)),qf 54 53 0, .i (.ldh 55 (.s 54) 1 false),qm 6 55, .i (.mov 7 (qb true))]) .ret)))))))))⟩
theorem CE:cd r8=some pF:=by kernel_rfl
theorem nE (l:ah) (b:Bytes) (x:aY) (hw:x.wc) (htx:x.tx.length≤100000000) (hb:b.length≤800000000):VC cd r8 (aD [(true,l.c),(false,[.sl (bytes b)]),(true,x.c)]) (fun rs _=>rs=bz (dS l x) (b++pH x)):=by
 refine aa CE rfl ?_
 simp(disch:=omega) [pF,aY.c,ah.c,VY]
 refine ao (EA l x hw) ?_ (ha:=by first|rfl|(simp[ah.c,aY.c,VY] <;>repeat' constructor))
 simp(disch:=omega) [VY]
 refine an (fun h0=> ?_) (fun h0=> ?_)
 case refine_2=>simp(disch:=omega) [h0,bz,VY]
 obtain⟨n1,n2,n3,ht,hf,hp⟩:=wB h0
 have v1:=az n1
 have v2:=az n2
 have v3:=az n3
 have v4:=tL (x:=x.tx) (by omega)
 simp(disch:=omega) [h0,VY]
 refine ae (aN b (by omega)) rfl rfl ?_
 simp(disch:=omega) [VZ]
 refine dA (aO _ x.height n1 ?_) ?_
 ·(try simp only[List.length_append]);omega
 simp(disch:=omega) [VZ]
 refine dA (aO _ x.n n2 ?_) ?_
 ·(try simp only[List.length_append]);omega
 simp(disch:=omega) [VZ]
 refine dA (aO _ x.idx n3 ?_) ?_
 ·(try simp only[List.length_append]);omega
 simp(disch:=omega) [VZ]
 refine ao (oq (b++(aP x.height.toNat++(aP x.n.toNat++aP x.idx.toNat))) x.tx (by simp only[List.length_append];omega) (by omega)) ?_
 simp(disch:=omega) [aq,VZ]
 refine fT (σ:=Nat×Nat×Nat) (f1:=_) (by simp(disch:=omega) [VZ];rfl) (fun q=> [(44, .val false [.int .i64 (q.1:Int)])]) (fun q=> [(18, .pt 13 146 [.ow q.2.1 q.2.2]),(q.2.1, .sl q.2.2 true true (some (5,1)) (bytes (b++(aP x.height.toNat++(aP x.n.toNat++(aP x.idx.toNat++(iD x.tx++(x.path.take q.1).flatten)))))))]) (fun q g=>g+q.1=x.path.length∧(q.2.1=327680∨q.2.1=1099511701504)) (0,327680,20) x.path.length (by simp(disch:=omega) [VZ]) (by simp(disch:=omega) [VZ]) ⟨by omega, .inl rfl⟩ ?_
 rintro⟨i,key,v⟩ n g ⟨hg,hk⟩ P hP
 simp only at hg hk
 rcases hk with rfl|rfl
 all_goals
  simp(disch:=omega) [VZ]
  refine ab (fun h2=> ?_) (fun h2=> ?_)
  ·have hi:i < x.path.length:=by omega
   have hy:=hp _ (List.getElem_mem hi)
   have hz:=iN hp (i:=i) (by omega)
   simp(disch:=omega) [du hi,VZ]
   refine dA (cL _ x.path[i] (by omega) ?_) ?_
   ·(try simp only[List.length_append]);omega
   simp(disch:=omega) [VZ]
   exact hP (i+1,1099511701504,_) (g - 1) _ _ (by omega) ⟨by simp only;omega, .inr rfl⟩ (by simp(disch:=omega) [VZ]) (by simp(disch:=omega) [tK hi,VZ];rfl)
  ·have hi:i=x.path.length:=by omega
   subst hi
   simp(disch:=omega) [bz,pH,List.take_length,VZ]
abbrev qD:Nat:=263
def tz:AF:=⟨3,6,[.tmp 6, .tmp 7],(.seq (.ops [.i (.lbox 3 (.s 0)), .i (.lbox 5 (.s 2)), .i (.mov 6 (.c (.val false [.nils]))), .i (.mov 7 (qb false))]) (.seq (.seq (.ops [ql 11 3 3 5 true,ql 12 5 5 5 true, .i (.call 14 315 false [(.s 11),(.s 12)]), .i (.not 14 (.s 13))]) (.cond (.s 14) (.seq (.ops [.i (.mov 6 (.c (.val false [.nils]))), .i (.mov 7 (qb false))]) .ret) .skip)) (.seq (.ops [qm 15 1,qf 16 5 0,ql 17 5 16 1 false, .i (.call 19 308 false [(.s 15),(.s 17)]),qf 19 5 1,ql 20 5 19 1 false, .i (.call 22 308 false [(.s 18),(.s 20)]),qf 22 5 2,ql 23 5 22 1 false, .i (.call 25 308 false [(.s 21),(.s 23)]),qf 25 5 3,ql 26 5 25 1 false, .i (.call 28 312 false [(.s 24),(.s 26)]),qm 8 27]) (.seq (.seq (.ops [qf 28 5 4,ql 29 5 28 1 false,qn 30 29, .i (.mov 31 (qi 0))]) (.block 0 (.loop [38,37,36,35,34,33,32,10] (.seq (.ops [qd 32 .lss 31 30]) (.seq (.cond (.s 32) .skip (.exit 0)) (.seq (.block 1 (.seq (.ops [.i (.iad 33 (.s 29) (.s 31) 1), .i (.ldh 34 (.s 33) 1 false),qm 10 34]) (.ops [qm 35 8,qm 36 10, .i (.app 37 5 1 1 (.s 35) (.s 36)),qm 8 37]))) (.ops [.i (.bin 38 .add (.s 31) (qi 1)),qm 31 38]))))))) (.seq (.ops [qm 39 8,qm 6 39, .i (.mov 7 (qb true))]) .ret)))))⟩
theorem CM:cd qD=some tz:=by kernel_rfl
theorem nq (l:ah) (b:Bytes) (x:aY) (hw:x.wc) (htx:x.tx.length≤100000000) (hb:b.length≤800000000):VC cd qD (aD [(true,l.c),(false,[.sl (bytes b)]),(true,x.c)]) (fun rs _=>rs=bz (dS l x) (b++pH x)):=by
 refine aa CM rfl ?_
 simp(disch:=omega) [tz,aY.c,ah.c,VY]
 refine ao (C6 l x hw) ?_ (ha:=by first|rfl|(simp[ah.c,aY.c,VY] <;>repeat' constructor))
 simp(disch:=omega) [VY]
 refine an (fun h0=> ?_) (fun h0=> ?_)
 case refine_2=>simp(disch:=omega) [h0,bz,VY]
 obtain⟨n1,n2,n3,ht,hf,hp⟩:=wB h0
 have v1:=az n1
 have v2:=az n2
 have v3:=az n3
 have v4:=tL (x:=x.tx) (by omega)
 simp(disch:=omega) [h0,VY]
 refine ao (bW b x.height n1 (by omega)) ?_
 simp(disch:=omega) [h0,VY]
 refine ao (bW (b++aP x.height.toNat) x.n n2 (by simp only[List.length_append];omega)) ?_
 simp(disch:=omega) [h0,VY]
 refine ao (bW (b++(aP x.height.toNat++aP x.n.toNat)) x.idx n3 (by simp only[List.length_append];omega)) ?_
 simp(disch:=omega) [h0,VY]
 refine ao (ns (b++(aP x.height.toNat++(aP x.n.toNat++aP x.idx.toNat))) x.tx (by simp only[List.length_append];omega) (by omega)) ?_
 simp(disch:=omega) [h0,aq,VY]
 refine fT (σ:=Nat×Nat) (f1:=_) (by simp(disch:=omega) [VY];rfl) (fun q=> [(31, .val false [.int .i64 (q.1:Int)]),(8, .val false [.ow 237568 q.2])]) (fun q=> [(237568, .sl q.2 true true (some (5,1)) (bytes (b++(aP x.height.toNat++(aP x.n.toNat++(aP x.idx.toNat++(iD x.tx++(x.path.take q.1).flatten)))))))]) (fun q g=>g+q.1=x.path.length) (0,15) x.path.length (by simp(disch:=omega) [VY]) (by simp(disch:=omega) [VY]) (by omega) ?_
 rintro⟨i,v⟩ n g hg P hP
 simp only at hg
 simp(disch:=omega) [VY]
 refine ab (fun h2=> ?_) (fun h2=> ?_)
 ·have hi:i < x.path.length:=by omega
  have hy:=hp _ (List.getElem_mem hi)
  have hz:=iN hp (i:=i) (by omega)
  simp(disch:=omega) [du hi,bG,aj,hz,VY]
  exact hP (i+1,_) (g - 1) _ _ (by omega) (by simp only;omega) (by simp(disch:=omega) [VY];rfl) (by simp(disch:=omega) [tK hi,VY])
 ·have hi:i=x.path.length:=by omega
  subst hi
  simp(disch:=omega) [bz,pH,List.take_length,VY]
end Go.Eng.F
namespace Go.Eng.F
structure aJ where
 kind:Int
 vote:bp
 qc:Qc
 head:Head
 block:Block
 tc:Tc
 proof:Proof
 incl:aY
def aJ.c (m:aJ):List D:= [.int .i64 m.kind, .int .i64 m.vote.view, .int .i64 m.vote.height, .sl (bytes m.vote.block), .int .i64 m.vote.who, .sl (bytes m.vote.tag), .int .i64 m.qc.view, .int .i64 m.qc.height, .sl (bytes m.qc.block), .sl (bytes m.qc.bits), .sl (bJ m.qc.tags), .int .i64 m.head.view, .int .i64 m.head.height, .int .i64 m.head.proposer, .sl (bytes m.head.parent), .sl (bytes m.head.root), .int .i64 m.head.qc.view, .int .i64 m.head.qc.height, .sl (bytes m.head.qc.block), .sl (bytes m.head.qc.bits), .sl (bJ m.head.qc.tags), .int .i64 m.block.head.view, .int .i64 m.block.head.height, .int .i64 m.block.head.proposer, .sl (bytes m.block.head.parent), .sl (bytes m.block.head.root), .int .i64 m.block.head.qc.view, .int .i64 m.block.head.qc.height, .sl (bytes m.block.head.qc.block), .sl (bytes m.block.head.qc.bits), .sl (bJ m.block.head.qc.tags), .sl (bJ m.block.txs), .int .i64 m.tc.view, .sl (iw m.tc.entries), .sl (eK m.proof.heads), .int .i64 m.proof.qc.view, .int .i64 m.proof.qc.height, .sl (bytes m.proof.qc.block), .sl (bytes m.proof.qc.bits), .sl (bJ m.proof.qc.tags), .int .i64 m.incl.height, .int .i64 m.incl.n, .int .i64 m.incl.idx, .sl (bytes m.incl.tx), .sl (bJ m.incl.path)]
def Block.wx (x:Block):Prop:=x.wc∧∀t∈x.txs,t.length≤100000000
structure aJ.wc (m:aJ):Prop where
 kind:ma m.kind
 vote:m.vote.wf
 qc:m.qc.wc
 head:m.head.wc
 block:m.block.wx
 tc:m.tc.wf
 proof:m.proof.wc
 incl:m.incl.wc
 tx:m.incl.tx.length≤100000000
def bD:bp:=⟨0,0,[],0,[]⟩
def fy:Qc:=⟨0,0,[],[],[]⟩
def aZ:Head:=⟨0,0,0,[],[],fy⟩
def aH:Block:=⟨aZ,[]⟩
def hU:Tc:=⟨0,[]⟩
def aK:Proof:=⟨[],fy⟩
def bA:aY:=⟨0,0,0,[],[]⟩
def av:aJ:=⟨0,bD,fy,aZ,aH,hU,aK,bA⟩
theorem dE:av.wc:=by
 constructor <;>simp[av,bD,fy,aZ,aH,hU,aK,bA,ma,Sz,bp.wf,Qc.wc,Qc.wf,Head.wc,Head.wf,Block.wx,Block.wc,nB,Tc.wf,Proof.wc,Proof.wf,tM,aY.wc]
def mq (a b:aJ):Bool:=decide (a.kind=b.kind) && jA a.vote b.vote && mg a.qc b.qc && eu a.head b.head && gA a.block b.block && fu a.tc b.tc && eJ a.proof b.proof && js a.incl b.incl
abbrev qN:Nat:=54
def rI:AF:=⟨2,6,[.tmp 4],(.seq (.ops [.i (.lbox 2 (.s 0)), .i (.lbox 3 (.s 1)), .i (.mov 4 (qb false))]) (.seq (.ops [qf 5 2 0,ql 6 2 5 1 false,qf 7 3 0,ql 8 3 7 1 false,qd 9 .eql 6 8,qm 10 9, .g 10 true 12 (.fad 11 (.s 2) 1), .g 10 true 13 (.ldl 12 2 (.s 11) 5 true), .g 10 true 14 (.fad 13 (.s 3) 1), .g 10 true 15 (.ldl 14 3 (.s 13) 5 true), .g 10 true 16 (.call 16 26 false [(.s 12),(.s 14)]), .i (.pick 16 (.s 10) (.s 15) (qb false)),qm 17 16, .g 17 true 19 (.fad 18 (.s 2) 6), .g 17 true 20 (.ldl 19 2 (.s 18) 5 true), .g 17 true 21 (.fad 20 (.s 3) 6), .g 17 true 22 (.ldl 21 3 (.s 20) 5 true), .g 17 true 23 (.call 23 29 false [(.s 19),(.s 21)]), .i (.pick 23 (.s 17) (.s 22) (qb false)),qm 24 23, .g 24 true 26 (.fad 25 (.s 2) 11), .g 24 true 27 (.ldl 26 2 (.s 25) 10 true), .g 24 true 28 (.fad 27 (.s 3) 11), .g 24 true 29 (.ldl 28 3 (.s 27) 10 true), .g 24 true 30 (.call 30 32 false [(.s 26),(.s 28)]), .i (.pick 30 (.s 24) (.s 29) (qb false)),qm 31 30, .g 31 true 33 (.fad 32 (.s 2) 21), .g 31 true 34 (.ldl 33 2 (.s 32) 11 true), .g 31 true 35 (.fad 34 (.s 3) 21), .g 31 true 36 (.ldl 35 3 (.s 34) 11 true), .g 31 true 37 (.call 37 36 false [(.s 33),(.s 35)]), .i (.pick 37 (.s 31) (.s 36) (qb false)),qm 38 37, .g 38 true 40 (.fad 39 (.s 2) 32), .g 38 true 41 (.ldl 40 2 (.s 39) 2 true), .g 38 true 42 (.fad 41 (.s 3) 32), .g 38 true 43 (.ldl 42 3 (.s 41) 2 true), .g 38 true 44 (.call 44 39 false [(.s 40),(.s 42)]), .i (.pick 44 (.s 38) (.s 43) (qb false)),qm 45 44, .g 45 true 47 (.fad 46 (.s 2) 34), .g 45 true 48 (.ldl 47 2 (.s 46) 6 true), .g 45 true 49 (.fad 48 (.s 3) 34), .g 45 true 50 (.ldl 49 3 (.s 48) 6 true), .g 45 true 51 (.call 51 42 false [(.s 47),(.s 49)]), .i (.pick 51 (.s 45) (.s 50) (qb false)),qm 52 51, .g 52 true 54 (.fad 53 (.s 2) 40), .g 52 true 55 (.ldl 54 2 (.s 53) 5 true), .g 52 true 56 (.fad 55 (.s 3) 40), .g 52 true 57 (.ldl 56 3 (.s 55) 5 true), .g 52 true 58 (.call 58 45 false [(.s 54),(.s 56)]), .i (.pick 58 (.s 52) (.s 57) (qb false)),qm 4 58]) .ret))⟩
theorem DV:cd qN=some rI:=by kernel_rfl
theorem cY (a b:aJ) (ha:a.wc) (hb:b.wc):VC cd qN (aD [(true,a.c),(true,b.c)]) (fun rs _=>rs=bl (mq a b)):=by
 refine aa DV rfl ?_
 simp(disch:=omega) [rI,aJ.c,VY]
 refine ab (fun h1=> ?_) (fun h1=> ?_) <;>simp(disch:=omega) [h1,mq,VY]
 refine ao (zw a.vote b.vote) ?_ (ha:=by first|rfl|(simp[bp.c,VY] <;>repeat' constructor))
 simp(disch:=omega) [h1,VY]
 refine an (fun h2=> ?_) (fun h2=> ?_) <;>simp(disch:=omega) [h1,h2,VY]
 refine ao (iQ a.qc b.qc ha.qc.1 hb.qc.1) ?_ (ha:=by first|rfl|(simp[Qc.c,VY] <;>repeat' constructor))
 simp(disch:=omega) [h1,h2,VY]
 refine an (fun h3=> ?_) (fun h3=> ?_) <;>simp(disch:=omega) [h1,h2,h3,VY]
 refine ao (gK a.head b.head ha.head.1 hb.head.1) ?_ (ha:=by first|rfl|(simp[Head.c,VY] <;>repeat' constructor))
 simp(disch:=omega) [h1,h2,h3,VY]
 refine an (fun h4=> ?_) (fun h4=> ?_) <;>simp(disch:=omega) [h1,h2,h3,h4,VY]
 refine ao (xx a.block b.block ha.block.1 hb.block.1) ?_ (ha:=by first|rfl|(simp[Block.c,Head.c,VY] <;>repeat' constructor))
 simp(disch:=omega) [h1,h2,h3,h4,VY]
 refine an (fun h5=> ?_) (fun h5=> ?_) <;>simp(disch:=omega) [h1,h2,h3,h4,h5,VY]
 refine ao (DS a.tc b.tc ha.tc hb.tc) ?_ (ha:=by first|rfl|(simp[Tc.c,VY] <;>repeat' constructor))
 simp(disch:=omega) [h1,h2,h3,h4,h5,VY]
 refine an (fun h6=> ?_) (fun h6=> ?_) <;>simp(disch:=omega) [h1,h2,h3,h4,h5,h6,VY]
 refine ao (yA a.proof b.proof ha.proof.1 hb.proof.1) ?_ (ha:=by first|rfl|(simp[Proof.c,VY] <;>repeat' constructor))
 simp(disch:=omega) [h1,h2,h3,h4,h5,h6,VY]
 refine an (fun h7=> ?_) (fun h7=> ?_) <;>simp(disch:=omega) [h1,h2,h3,h4,h5,h6,h7,VY]
 refine ao (yY a.incl b.incl ha.incl hb.incl) ?_ (ha:=by first|rfl|(simp[aY.c,VY] <;>repeat' constructor))
 simp(disch:=omega) [h1,h2,h3,h4,h5,h6,h7,VY]
abbrev tk:Nat:=239
def rX:AF:=⟨2,6,[.tmp 4],(.seq (.ops [.i (.lbox 2 (.s 0)), .i (.lbox 3 (.s 1)), .i (.mov 4 (qb false))]) (.seq (.ops [qf 5 2 0,ql 6 2 5 1 false,qf 7 3 0,ql 8 3 7 1 false,qd 9 .eql 6 8,qm 10 9, .g 10 true 12 (.fad 11 (.s 2) 1), .g 10 true 13 (.ldl 12 2 (.s 11) 5 true), .g 10 true 14 (.fad 13 (.s 3) 1), .g 10 true 15 (.ldl 14 3 (.s 13) 5 true), .g 10 true 16 (.call 16 298 false [(.s 12),(.s 14)]), .i (.pick 16 (.s 10) (.s 15) (qb false)),qm 17 16, .g 17 true 19 (.fad 18 (.s 2) 6), .g 17 true 20 (.ldl 19 2 (.s 18) 5 true), .g 17 true 21 (.fad 20 (.s 3) 6), .g 17 true 22 (.ldl 21 3 (.s 20) 5 true), .g 17 true 23 (.call 23 299 false [(.s 19),(.s 21)]), .i (.pick 23 (.s 17) (.s 22) (qb false)),qm 24 23, .g 24 true 26 (.fad 25 (.s 2) 11), .g 24 true 27 (.ldl 26 2 (.s 25) 10 true), .g 24 true 28 (.fad 27 (.s 3) 11), .g 24 true 29 (.ldl 28 3 (.s 27) 10 true), .g 24 true 30 (.call 30 300 false [(.s 26),(.s 28)]), .i (.pick 30 (.s 24) (.s 29) (qb false)),qm 31 30, .g 31 true 33 (.fad 32 (.s 2) 21), .g 31 true 34 (.ldl 33 2 (.s 32) 11 true), .g 31 true 35 (.fad 34 (.s 3) 21), .g 31 true 36 (.ldl 35 3 (.s 34) 11 true), .g 31 true 37 (.call 37 301 false [(.s 33),(.s 35)]), .i (.pick 37 (.s 31) (.s 36) (qb false)),qm 38 37, .g 38 true 40 (.fad 39 (.s 2) 32), .g 38 true 41 (.ldl 40 2 (.s 39) 2 true), .g 38 true 42 (.fad 41 (.s 3) 32), .g 38 true 43 (.ldl 42 3 (.s 41) 2 true), .g 38 true 44 (.call 44 302 false [(.s 40),(.s 42)]), .i (.pick 44 (.s 38) (.s 43) (qb false)),qm 45 44, .g 45 true 47 (.fad 46 (.s 2) 34), .g 45 true 48 (.ldl 47 2 (.s 46) 6 true), .g 45 true 49 (.fad 48 (.s 3) 34), .g 45 true 50 (.ldl 49 3 (.s 48) 6 true), .g 45 true 51 (.call 51 303 false [(.s 47),(.s 49)]), .i (.pick 51 (.s 45) (.s 50) (qb false)),qm 52 51, .g 52 true 54 (.fad 53 (.s 2) 40), .g 52 true 55 (.ldl 54 2 (.s 53) 5 true), .g 52 true 56 (.fad 55 (.s 3) 40), .g 52 true 57 (.ldl 56 3 (.s 55) 5 true), .g 52 true 58 (.call 58 304 false [(.s 54),(.s 56)]), .i (.pick 58 (.s 52) (.s 57) (qb false)),qm 4 58]) .ret))⟩
theorem Cn:cd tk=some rX:=by kernel_rfl
theorem cZ (a b:aJ) (ha:a.wc) (hb:b.wc):VC cd tk (aD [(true,a.c),(true,b.c)]) (fun rs _=>rs=bl (mq a b)):=by
 refine aa Cn rfl ?_
 simp(disch:=omega) [rX,aJ.c,VY]
 refine ab (fun h1=> ?_) (fun h1=> ?_) <;>simp(disch:=omega) [h1,mq,VY]
 refine ao (zm a.vote b.vote) ?_ (ha:=by first|rfl|(simp[bp.c,VY] <;>repeat' constructor))
 simp(disch:=omega) [h1,VY]
 refine an (fun h2=> ?_) (fun h2=> ?_) <;>simp(disch:=omega) [h1,h2,VY]
 refine ao (ju a.qc b.qc ha.qc.1 hb.qc.1) ?_ (ha:=by first|rfl|(simp[Qc.c,VY] <;>repeat' constructor))
 simp(disch:=omega) [h1,h2,VY]
 refine an (fun h3=> ?_) (fun h3=> ?_) <;>simp(disch:=omega) [h1,h2,h3,VY]
 refine ao (gD a.head b.head ha.head.1 hb.head.1) ?_ (ha:=by first|rfl|(simp[Head.c,VY] <;>repeat' constructor))
 simp(disch:=omega) [h1,h2,h3,VY]
 refine an (fun h4=> ?_) (fun h4=> ?_) <;>simp(disch:=omega) [h1,h2,h3,h4,VY]
 refine ao (xI a.block b.block ha.block.1 hb.block.1) ?_ (ha:=by first|rfl|(simp[Block.c,Head.c,VY] <;>repeat' constructor))
 simp(disch:=omega) [h1,h2,h3,h4,VY]
 refine an (fun h5=> ?_) (fun h5=> ?_) <;>simp(disch:=omega) [h1,h2,h3,h4,h5,VY]
 refine ao (Ez a.tc b.tc ha.tc hb.tc) ?_ (ha:=by first|rfl|(simp[Tc.c,VY] <;>repeat' constructor))
 simp(disch:=omega) [h1,h2,h3,h4,h5,VY]
 refine an (fun h6=> ?_) (fun h6=> ?_) <;>simp(disch:=omega) [h1,h2,h3,h4,h5,h6,VY]
 refine ao (yj a.proof b.proof ha.proof.1 hb.proof.1) ?_ (ha:=by first|rfl|(simp[Proof.c,VY] <;>repeat' constructor))
 simp(disch:=omega) [h1,h2,h3,h4,h5,h6,VY]
 refine an (fun h7=> ?_) (fun h7=> ?_) <;>simp(disch:=omega) [h1,h2,h3,h4,h5,h6,h7,VY]
 refine ao (y5 a.incl b.incl ha.incl hb.incl) ?_ (ha:=by first|rfl|(simp[aY.c,VY] <;>repeat' constructor))
 simp(disch:=omega) [h1,h2,h3,h4,h5,h6,h7,VY]
def eH (x:bp):List (Bool×List E):= [(true,[.p (.int .i64 1), .p (.int .i64 x.view), .p (.int .i64 x.height), .o true (some (5,1)) (bytes x.block), .p (.int .i64 x.who), .o true (some (5,1)) (bytes x.tag), .p (.int .i64 0), .p (.int .i64 0), .p .nils, .p .nils, .p .nils, .p (.int .i64 0), .p (.int .i64 0), .p (.int .i64 0), .p .nils, .p .nils, .p (.int .i64 0), .p (.int .i64 0), .p .nils, .p .nils, .p .nils, .p (.int .i64 0), .p (.int .i64 0), .p (.int .i64 0), .p .nils, .p .nils, .p (.int .i64 0), .p (.int .i64 0), .p .nils, .p .nils, .p .nils, .p .nils, .p (.int .i64 0), .p .nils, .p .nils, .p (.int .i64 0), .p (.int .i64 0), .p .nils, .p .nils, .p .nils, .p (.int .i64 0), .p (.int .i64 0), .p (.int .i64 0), .p .nils, .p .nils])]
def rz (x:Qc):List (Bool×List E):= [(true,[.p (.int .i64 2), .p (.int .i64 0), .p (.int .i64 0), .p .nils, .p (.int .i64 0), .p .nils, .p (.int .i64 x.view), .p (.int .i64 x.height), .o true (some (5,1)) (bytes x.block), .o true (some (5,1)) (bytes x.bits), .o true (some (22,1)) (bJ x.tags), .p (.int .i64 0), .p (.int .i64 0), .p (.int .i64 0), .p .nils, .p .nils, .p (.int .i64 0), .p (.int .i64 0), .p .nils, .p .nils, .p .nils, .p (.int .i64 0), .p (.int .i64 0), .p (.int .i64 0), .p .nils, .p .nils, .p (.int .i64 0), .p (.int .i64 0), .p .nils, .p .nils, .p .nils, .p .nils, .p (.int .i64 0), .p .nils, .p .nils, .p (.int .i64 0), .p (.int .i64 0), .p .nils, .p .nils, .p .nils, .p (.int .i64 0), .p (.int .i64 0), .p (.int .i64 0), .p .nils, .p .nils])]
def fK (x:Head):List (Bool×List E):= [(true,[.p (.int .i64 3), .p (.int .i64 0), .p (.int .i64 0), .p .nils, .p (.int .i64 0), .p .nils, .p (.int .i64 0), .p (.int .i64 0), .p .nils, .p .nils, .p .nils, .p (.int .i64 x.view), .p (.int .i64 x.height), .p (.int .i64 x.proposer), .o true (some (5,1)) (bytes x.parent), .o true (some (5,1)) (bytes x.root), .p (.int .i64 x.qc.view), .p (.int .i64 x.qc.height), .o true (some (5,1)) (bytes x.qc.block), .o true (some (5,1)) (bytes x.qc.bits), .o true (some (22,1)) (bJ x.qc.tags), .p (.int .i64 0), .p (.int .i64 0), .p (.int .i64 0), .p .nils, .p .nils, .p (.int .i64 0), .p (.int .i64 0), .p .nils, .p .nils, .p .nils, .p .nils, .p (.int .i64 0), .p .nils, .p .nils, .p (.int .i64 0), .p (.int .i64 0), .p .nils, .p .nils, .p .nils, .p (.int .i64 0), .p (.int .i64 0), .p (.int .i64 0), .p .nils, .p .nils])]
def fO (x:aY):List (Bool×List E):= [(true,[.p (.int .i64 7), .p (.int .i64 0), .p (.int .i64 0), .p .nils, .p (.int .i64 0), .p .nils, .p (.int .i64 0), .p (.int .i64 0), .p .nils, .p .nils, .p .nils, .p (.int .i64 0), .p (.int .i64 0), .p (.int .i64 0), .p .nils, .p .nils, .p (.int .i64 0), .p (.int .i64 0), .p .nils, .p .nils, .p .nils, .p (.int .i64 0), .p (.int .i64 0), .p (.int .i64 0), .p .nils, .p .nils, .p (.int .i64 0), .p (.int .i64 0), .p .nils, .p .nils, .p .nils, .p .nils, .p (.int .i64 0), .p .nils, .p .nils, .p (.int .i64 0), .p (.int .i64 0), .p .nils, .p .nils, .p .nils, .p (.int .i64 x.height), .p (.int .i64 x.n), .p (.int .i64 x.idx), .o true (some (5,1)) (bytes x.tx), .o true (some (22,1)) (bJ x.path)])]
abbrev vZ:Nat:=196
def uK:AF:=⟨1,4,[.cell 2 45 true],(.seq (.ops [.i (.lbox 1 (.s 0)), .i (.lal 2 [.int .i64 0, .int .i64 0, .int .i64 0, .nils, .int .i64 0, .nils, .int .i64 0, .int .i64 0, .nils, .nils, .nils, .int .i64 0, .int .i64 0, .int .i64 0, .nils, .nils, .int .i64 0, .int .i64 0, .nils, .nils, .nils, .int .i64 0, .int .i64 0, .int .i64 0, .nils, .nils, .int .i64 0, .int .i64 0, .nils, .nils, .nils, .nils, .int .i64 0, .nils, .nils, .int .i64 0, .int .i64 0, .nils, .nils, .nils, .int .i64 0, .int .i64 0, .int .i64 0, .nils, .nils])]) (.seq (.ops [qf 3 1 2,ql 4 1 3 1 false,qk 6 93 4,qf 6 1 4,ql 7 1 6 1 false,qk 9 93 7,qf 9 1 2,qs 1 9 5 1,qf 10 1 4,qs 1 10 8 1]) (.seq (.ops [ql 11 1 1 5 true, .i (.bld 12 [.int .i64 0, .int .i64 0, .int .i64 0, .nils, .int .i64 0, .nils, .int .i64 0, .int .i64 0, .nils, .nils, .nils, .int .i64 0, .int .i64 0, .int .i64 0, .nils, .nils, .int .i64 0, .int .i64 0, .nils, .nils, .nils, .int .i64 0, .int .i64 0, .int .i64 0, .nils, .nils, .int .i64 0, .int .i64 0, .nils, .nils, .nils, .nils, .int .i64 0, .nils, .nils, .int .i64 0, .int .i64 0, .nils, .nils, .nils, .int .i64 0, .int .i64 0, .int .i64 0, .nils, .nils] [(0,1,(qi 1)),(1,5,(.s 11))]),qs 2 2 12 45]) .ret)))⟩
theorem F7:cd vZ=some uK:=by kernel_rfl
theorem C4 (x:bp) (hw:x.wf):VC cd vZ (aD [(true,x.c)]) (fun rs _=>rs=eH x):=by
 have w1:=hw.2.2.1
 have w2:=hw.2.2.2.2
 simp only[Sz]at w1 w2
 refine aa F7 rfl ?_
 simp(disch:=omega) [uK,bp.c,VY]
 refine ao (aN x.block (by omega)) ?_
 simp(disch:=omega) [VY]
 refine ao (aN x.tag (by omega)) ?_
 simp(disch:=omega) [eH,VY]
abbrev kh:Nat:=160
def vG:AF:=⟨1,4,[.cell 2 45 true],(.seq (.ops [.i (.lbox 1 (.s 0)), .i (.lal 2 [.int .i64 0, .int .i64 0, .int .i64 0, .nils, .int .i64 0, .nils, .int .i64 0, .int .i64 0, .nils, .nils, .nils, .int .i64 0, .int .i64 0, .int .i64 0, .nils, .nils, .int .i64 0, .int .i64 0, .nils, .nils, .nils, .int .i64 0, .int .i64 0, .int .i64 0, .nils, .nils, .int .i64 0, .int .i64 0, .nils, .nils, .nils, .nils, .int .i64 0, .nils, .nils, .int .i64 0, .int .i64 0, .nils, .nils, .nils, .int .i64 0, .int .i64 0, .int .i64 0, .nils, .nils])]) (.seq (.ops [qf 3 1 2,ql 4 1 3 1 false,qk 6 143 4,qf 6 1 2,qs 1 6 5 1]) (.seq (.ops [qf 7 1 4,ql 8 1 7 1 false,qk 10 143 8,qf 10 1 4,qs 1 10 9 1]) (.seq (.ops [ql 11 1 1 5 true, .i (.bld 12 [.int .i64 0, .int .i64 0, .int .i64 0, .nils, .int .i64 0, .nils, .int .i64 0, .int .i64 0, .nils, .nils, .nils, .int .i64 0, .int .i64 0, .int .i64 0, .nils, .nils, .int .i64 0, .int .i64 0, .nils, .nils, .nils, .int .i64 0, .int .i64 0, .int .i64 0, .nils, .nils, .int .i64 0, .int .i64 0, .nils, .nils, .nils, .nils, .int .i64 0, .nils, .nils, .int .i64 0, .int .i64 0, .nils, .nils, .nils, .int .i64 0, .int .i64 0, .int .i64 0, .nils, .nils] [(0,1,(qi 1)),(1,5,(.s 11))]),qs 2 2 12 45]) .ret))))⟩
theorem E5:cd kh=some vG:=by kernel_rfl
theorem fS (x:bp) (hw:x.wf):VC cd kh (aD [(true,x.c)]) (fun rs _=>rs=eH x):=by
 have w1:=hw.2.2.1
 have w2:=hw.2.2.2.2
 simp only[Sz]at w1 w2
 refine aa E5 rfl ?_
 simp(disch:=omega) [vG,bp.c,VY]
 refine ao (bV x.block (by omega)) ?_
 simp(disch:=omega) [VY]
 refine ao (bV x.tag (by omega)) ?_
 simp(disch:=omega) [eH,VY]
abbrev Ab:Nat:=197
def Al:AF:=⟨1,3,[.cell 2 45 true],(.seq (.ops [.i (.lbox 1 (.s 0)), .i (.lal 2 [.int .i64 0, .int .i64 0, .int .i64 0, .nils, .int .i64 0, .nils, .int .i64 0, .int .i64 0, .nils, .nils, .nils, .int .i64 0, .int .i64 0, .int .i64 0, .nils, .nils, .int .i64 0, .int .i64 0, .nils, .nils, .nils, .int .i64 0, .int .i64 0, .int .i64 0, .nils, .nils, .int .i64 0, .int .i64 0, .nils, .nils, .nils, .nils, .int .i64 0, .nils, .nils, .int .i64 0, .int .i64 0, .nils, .nils, .nils, .int .i64 0, .int .i64 0, .int .i64 0, .nils, .nils])]) (.seq (.ops [ql 3 1 1 5 true,qk 5 204 3, .i (.bld 5 [.int .i64 0, .int .i64 0, .int .i64 0, .nils, .int .i64 0, .nils, .int .i64 0, .int .i64 0, .nils, .nils, .nils, .int .i64 0, .int .i64 0, .int .i64 0, .nils, .nils, .int .i64 0, .int .i64 0, .nils, .nils, .nils, .int .i64 0, .int .i64 0, .int .i64 0, .nils, .nils, .int .i64 0, .int .i64 0, .nils, .nils, .nils, .nils, .int .i64 0, .nils, .nils, .int .i64 0, .int .i64 0, .nils, .nils, .nils, .int .i64 0, .int .i64 0, .int .i64 0, .nils, .nils] [(0,1,(qi 2)),(6,5,(.s 4))]),qs 2 2 5 45]) .ret))⟩
theorem Kb:cd Ab=some Al:=by kernel_rfl
theorem HS (x:Qc) (hw:x.wc):VC cd Ab (aD [(true,x.c)]) (fun rs _=>rs=rz x):=by
 refine aa Kb rfl ?_
 simp(disch:=omega) [Al,Qc.c,VY]
 refine ao (mK x hw) ?_ (ha:=by first|rfl|(simp[Qc.c,VY] <;>repeat' constructor))
 simp(disch:=omega) [rz,Qc.o,VY]
abbrev Ag:Nat:=184
def As:AF:=⟨1,3,[.cell 2 45 true],(.seq (.ops [.i (.lbox 1 (.s 0)), .i (.lal 2 [.int .i64 0, .int .i64 0, .int .i64 0, .nils, .int .i64 0, .nils, .int .i64 0, .int .i64 0, .nils, .nils, .nils, .int .i64 0, .int .i64 0, .int .i64 0, .nils, .nils, .int .i64 0, .int .i64 0, .nils, .nils, .nils, .int .i64 0, .int .i64 0, .int .i64 0, .nils, .nils, .int .i64 0, .int .i64 0, .nils, .nils, .nils, .nils, .int .i64 0, .nils, .nils, .int .i64 0, .int .i64 0, .nils, .nils, .nils, .int .i64 0, .int .i64 0, .int .i64 0, .nils, .nils])]) (.seq (.ops [ql 3 1 1 5 true,qk 5 264 3, .i (.bld 5 [.int .i64 0, .int .i64 0, .int .i64 0, .nils, .int .i64 0, .nils, .int .i64 0, .int .i64 0, .nils, .nils, .nils, .int .i64 0, .int .i64 0, .int .i64 0, .nils, .nils, .int .i64 0, .int .i64 0, .nils, .nils, .nils, .int .i64 0, .int .i64 0, .int .i64 0, .nils, .nils, .int .i64 0, .int .i64 0, .nils, .nils, .nils, .nils, .int .i64 0, .nils, .nils, .int .i64 0, .int .i64 0, .nils, .nils, .nils, .int .i64 0, .int .i64 0, .int .i64 0, .nils, .nils] [(0,1,(qi 2)),(6,5,(.s 4))]),qs 2 2 5 45]) .ret))⟩
theorem J3:cd Ag=some As:=by kernel_rfl
theorem xm (x:Qc) (hw:x.wc):VC cd Ag (aD [(true,x.c)]) (fun rs _=>rs=rz x):=by
 refine aa J3 rfl ?_
 simp(disch:=omega) [As,Qc.c,VY]
 refine ao (wP x hw) ?_ (ha:=by first|rfl|(simp[Qc.c,VY] <;>repeat' constructor))
 simp(disch:=omega) [rz,Qc.o,VY]
abbrev vK:Nat:=198
def vF:AF:=⟨1,3,[.cell 2 45 true],(.seq (.ops [.i (.lbox 1 (.s 0)), .i (.lal 2 [.int .i64 0, .int .i64 0, .int .i64 0, .nils, .int .i64 0, .nils, .int .i64 0, .int .i64 0, .nils, .nils, .nils, .int .i64 0, .int .i64 0, .int .i64 0, .nils, .nils, .int .i64 0, .int .i64 0, .nils, .nils, .nils, .int .i64 0, .int .i64 0, .int .i64 0, .nils, .nils, .int .i64 0, .int .i64 0, .nils, .nils, .nils, .nils, .int .i64 0, .nils, .nils, .int .i64 0, .int .i64 0, .nils, .nils, .nils, .int .i64 0, .int .i64 0, .int .i64 0, .nils, .nils])]) (.seq (.ops [ql 3 1 1 10 true,qk 5 205 3, .i (.bld 5 [.int .i64 0, .int .i64 0, .int .i64 0, .nils, .int .i64 0, .nils, .int .i64 0, .int .i64 0, .nils, .nils, .nils, .int .i64 0, .int .i64 0, .int .i64 0, .nils, .nils, .int .i64 0, .int .i64 0, .nils, .nils, .nils, .int .i64 0, .int .i64 0, .int .i64 0, .nils, .nils, .int .i64 0, .int .i64 0, .nils, .nils, .nils, .nils, .int .i64 0, .nils, .nils, .int .i64 0, .int .i64 0, .nils, .nils, .nils, .int .i64 0, .int .i64 0, .int .i64 0, .nils, .nils] [(0,1,(qi 3)),(11,10,(.s 4))]),qs 2 2 5 45]) .ret))⟩
theorem FV:cd vK=some vF:=by kernel_rfl
theorem Dc (x:Head) (hw:x.wc):VC cd vK (aD [(true,x.c)]) (fun rs _=>rs=fK x):=by
 refine aa FV rfl ?_
 simp(disch:=omega) [vF,Head.c,VY]
 refine ao (jx x hw) ?_ (ha:=by first|rfl|(simp[Head.c,VY] <;>repeat' constructor))
 simp(disch:=omega) [fK,Head.o,VY]
abbrev vj:Nat:=186
def vH:AF:=⟨1,3,[.cell 2 45 true],(.seq (.ops [.i (.lbox 1 (.s 0)), .i (.lal 2 [.int .i64 0, .int .i64 0, .int .i64 0, .nils, .int .i64 0, .nils, .int .i64 0, .int .i64 0, .nils, .nils, .nils, .int .i64 0, .int .i64 0, .int .i64 0, .nils, .nils, .int .i64 0, .int .i64 0, .nils, .nils, .nils, .int .i64 0, .int .i64 0, .int .i64 0, .nils, .nils, .int .i64 0, .int .i64 0, .nils, .nils, .nils, .nils, .int .i64 0, .nils, .nils, .int .i64 0, .int .i64 0, .nils, .nils, .nils, .int .i64 0, .int .i64 0, .int .i64 0, .nils, .nils])]) (.seq (.ops [ql 3 1 1 10 true,qk 5 267 3, .i (.bld 5 [.int .i64 0, .int .i64 0, .int .i64 0, .nils, .int .i64 0, .nils, .int .i64 0, .int .i64 0, .nils, .nils, .nils, .int .i64 0, .int .i64 0, .int .i64 0, .nils, .nils, .int .i64 0, .int .i64 0, .nils, .nils, .nils, .int .i64 0, .int .i64 0, .int .i64 0, .nils, .nils, .int .i64 0, .int .i64 0, .nils, .nils, .nils, .nils, .int .i64 0, .nils, .nils, .int .i64 0, .int .i64 0, .nils, .nils, .nils, .int .i64 0, .int .i64 0, .int .i64 0, .nils, .nils] [(0,1,(qi 3)),(11,10,(.s 4))]),qs 2 2 5 45]) .ret))⟩
theorem FX:cd vj=some vH:=by kernel_rfl
theorem pv (x:Head) (hw:x.wc):VC cd vj (aD [(true,x.c)]) (fun rs _=>rs=fK x):=by
 refine aa FX rfl ?_
 simp(disch:=omega) [vH,Head.c,VY]
 refine ao (mQ x hw) ?_ (ha:=by first|rfl|(simp[Head.c,VY] <;>repeat' constructor))
 simp(disch:=omega) [fK,Head.o,VY]
abbrev uz:Nat:=202
def vB:AF:=⟨1,3,[.cell 2 45 true],(.seq (.ops [.i (.lbox 1 (.s 0)), .i (.lal 2 [.int .i64 0, .int .i64 0, .int .i64 0, .nils, .int .i64 0, .nils, .int .i64 0, .int .i64 0, .nils, .nils, .nils, .int .i64 0, .int .i64 0, .int .i64 0, .nils, .nils, .int .i64 0, .int .i64 0, .nils, .nils, .nils, .int .i64 0, .int .i64 0, .int .i64 0, .nils, .nils, .int .i64 0, .int .i64 0, .nils, .nils, .nils, .nils, .int .i64 0, .nils, .nils, .int .i64 0, .int .i64 0, .nils, .nils, .nils, .int .i64 0, .int .i64 0, .int .i64 0, .nils, .nils])]) (.seq (.ops [ql 3 1 1 5 true,qk 5 209 3, .i (.bld 5 [.int .i64 0, .int .i64 0, .int .i64 0, .nils, .int .i64 0, .nils, .int .i64 0, .int .i64 0, .nils, .nils, .nils, .int .i64 0, .int .i64 0, .int .i64 0, .nils, .nils, .int .i64 0, .int .i64 0, .nils, .nils, .nils, .int .i64 0, .int .i64 0, .int .i64 0, .nils, .nils, .int .i64 0, .int .i64 0, .nils, .nils, .nils, .nils, .int .i64 0, .nils, .nils, .int .i64 0, .int .i64 0, .nils, .nils, .nils, .int .i64 0, .int .i64 0, .int .i64 0, .nils, .nils] [(0,1,(qi 7)),(40,5,(.s 4))]),qs 2 2 5 45]) .ret))⟩
theorem F3:cd uz=some vB:=by kernel_rfl
theorem D3 (x:aY) (hw:x.wc):VC cd uz (aD [(true,x.c)]) (fun rs _=>rs=fO x):=by
 refine aa F3 rfl ?_
 simp(disch:=omega) [vB,aY.c,VY]
 refine ao (EK x hw) ?_ (ha:=by first|rfl|(simp[aY.c,VY] <;>repeat' constructor))
 simp(disch:=omega) [fO,aY.o,VY]
abbrev vD:Nat:=194
def ux:AF:=⟨1,3,[.cell 2 45 true],(.seq (.ops [.i (.lbox 1 (.s 0)), .i (.lal 2 [.int .i64 0, .int .i64 0, .int .i64 0, .nils, .int .i64 0, .nils, .int .i64 0, .int .i64 0, .nils, .nils, .nils, .int .i64 0, .int .i64 0, .int .i64 0, .nils, .nils, .int .i64 0, .int .i64 0, .nils, .nils, .nils, .int .i64 0, .int .i64 0, .int .i64 0, .nils, .nils, .int .i64 0, .int .i64 0, .nils, .nils, .nils, .nils, .int .i64 0, .nils, .nils, .int .i64 0, .int .i64 0, .nils, .nils, .nils, .int .i64 0, .int .i64 0, .int .i64 0, .nils, .nils])]) (.seq (.ops [ql 3 1 1 5 true,qk 5 275 3, .i (.bld 5 [.int .i64 0, .int .i64 0, .int .i64 0, .nils, .int .i64 0, .nils, .int .i64 0, .int .i64 0, .nils, .nils, .nils, .int .i64 0, .int .i64 0, .int .i64 0, .nils, .nils, .int .i64 0, .int .i64 0, .nils, .nils, .nils, .int .i64 0, .int .i64 0, .int .i64 0, .nils, .nils, .int .i64 0, .int .i64 0, .nils, .nils, .nils, .nils, .int .i64 0, .nils, .nils, .int .i64 0, .int .i64 0, .nils, .nils, .nils, .int .i64 0, .int .i64 0, .int .i64 0, .nils, .nils] [(0,1,(qi 7)),(40,5,(.s 4))]),qs 2 2 5 45]) .ret))⟩
theorem F4:cd vD=some ux:=by kernel_rfl
theorem qA (x:aY) (hw:x.wc):VC cd vD (aD [(true,x.c)]) (fun rs _=>rs=fO x):=by
 refine aa F4 rfl ?_
 simp(disch:=omega) [ux,aY.c,VY]
 refine ao (LG x hw) ?_ (ha:=by first|rfl|(simp[aY.c,VY] <;>repeat' constructor))
 simp(disch:=omega) [fO,aY.o,VY]
abbrev bZ:Nat:=137
def b6:AF:=⟨1,6,[.cell 2 45 true],(.seq (.ops [.i (.lbox 1 (.s 0)), .i (.lal 2 [.int .i64 0, .int .i64 0, .int .i64 0, .nils, .int .i64 0, .nils, .int .i64 0, .int .i64 0, .nils, .nils, .nils, .int .i64 0, .int .i64 0, .int .i64 0, .nils, .nils, .int .i64 0, .int .i64 0, .nils, .nils, .nils, .int .i64 0, .int .i64 0, .int .i64 0, .nils, .nils, .int .i64 0, .int .i64 0, .nils, .nils, .nils, .nils, .int .i64 0, .nils, .nils, .int .i64 0, .int .i64 0, .nils, .nils, .nils, .int .i64 0, .int .i64 0, .int .i64 0, .nils, .nils])]) (.seq (.seq (.ops [qf 3 1 0,ql 4 1 3 1 false]) (.block 0 (.seq (.ops [.i (.bin 6 .eql (.s 4) (qi 1)),qm 5 6]) (.cond (.s 5) (.seq (.ops [qf 7 1 1,ql 8 1 7 5 true,qk 10 196 8,qs 2 2 9 45]) .ret) (.seq (.ops [.i (.bin 11 .eql (.s 4) (qi 2)),qm 10 11]) (.cond (.s 10) (.seq (.ops [qf 12 1 6,ql 13 1 12 5 true,qk 15 197 13,qs 2 2 14 45]) .ret) (.seq (.ops [.i (.bin 16 .eql (.s 4) (qi 3)),qm 15 16]) (.cond (.s 15) (.seq (.ops [qf 17 1 11,ql 18 1 17 10 true,qk 20 198 18,qs 2 2 19 45]) .ret) (.seq (.ops [.i (.bin 21 .eql (.s 4) (qi 4)),qm 20 21]) (.cond (.s 20) (.seq (.ops [qf 22 1 21,ql 23 1 22 11 true,qk 25 199 23,qs 2 2 24 45]) .ret) (.seq (.ops [.i (.bin 26 .eql (.s 4) (qi 5)),qm 25 26]) (.cond (.s 25) (.seq (.ops [qf 27 1 32,ql 28 1 27 2 true,qk 30 200 28,qs 2 2 29 45]) .ret) (.seq (.ops [.i (.bin 31 .eql (.s 4) (qi 6)),qm 30 31]) (.cond (.s 30) (.seq (.ops [qf 32 1 34,ql 33 1 32 6 true,qk 35 201 33,qs 2 2 34 45]) .ret) (.seq (.ops [.i (.bin 36 .eql (.s 4) (qi 7)),qm 35 36]) (.cond (.s 35) (.seq (.ops [qf 37 1 40,ql 38 1 37 5 true,qk 40 202 38,qs 2 2 39 45]) .ret) .skip)))))))))))))))) (.seq (.ops [.i (.bld 40 [.int .i64 0, .int .i64 0, .int .i64 0, .nils, .int .i64 0, .nils, .int .i64 0, .int .i64 0, .nils, .nils, .nils, .int .i64 0, .int .i64 0, .int .i64 0, .nils, .nils, .int .i64 0, .int .i64 0, .nils, .nils, .nils, .int .i64 0, .int .i64 0, .int .i64 0, .nils, .nils, .int .i64 0, .int .i64 0, .nils, .nils, .nils, .nils, .int .i64 0, .nils, .nils, .int .i64 0, .int .i64 0, .nils, .nils, .nils, .int .i64 0, .int .i64 0, .int .i64 0, .nils, .nils] []),qs 2 2 40 45]) .ret)))⟩
theorem cG:cd bZ=some b6:=by kernel_rfl
theorem HT (m:aJ) (hw:m.wc) (hk:m.kind=1):VC cd bZ (aD [(true,m.c)]) (fun rs _=>rs=eH m.vote):=by
 refine aa cG rfl ?_
 simp(disch:=omega) [b6,aJ.c,hk,VY]
 refine ao (C4 m.vote hw.vote) ?_ (ha:=by first|rfl|(simp[bp.c,VY] <;>repeat' constructor))
 simp(disch:=omega) [eH,VY]
abbrev cS:Nat:=240
def cR:AF:=⟨1,6,[.cell 2 45 true],(.seq (.ops [.i (.lbox 1 (.s 0)), .i (.lal 2 [.int .i64 0, .int .i64 0, .int .i64 0, .nils, .int .i64 0, .nils, .int .i64 0, .int .i64 0, .nils, .nils, .nils, .int .i64 0, .int .i64 0, .int .i64 0, .nils, .nils, .int .i64 0, .int .i64 0, .nils, .nils, .nils, .int .i64 0, .int .i64 0, .int .i64 0, .nils, .nils, .int .i64 0, .int .i64 0, .nils, .nils, .nils, .nils, .int .i64 0, .nils, .nils, .int .i64 0, .int .i64 0, .nils, .nils, .nils, .int .i64 0, .int .i64 0, .int .i64 0, .nils, .nils])]) (.seq (.seq (.ops [qf 3 1 0,ql 4 1 3 1 false]) (.block 0 (.seq (.ops [.i (.bin 6 .eql (.s 4) (qi 1)),qm 5 6]) (.cond (.s 5) (.seq (.ops [qf 7 1 1,ql 8 1 7 5 true,qk 10 160 8,qs 2 2 9 45]) .ret) (.seq (.ops [.i (.bin 11 .eql (.s 4) (qi 2)),qm 10 11]) (.cond (.s 10) (.seq (.ops [qf 12 1 6,ql 13 1 12 5 true,qk 15 184 13,qs 2 2 14 45]) .ret) (.seq (.ops [.i (.bin 16 .eql (.s 4) (qi 3)),qm 15 16]) (.cond (.s 15) (.seq (.ops [qf 17 1 11,ql 18 1 17 10 true,qk 20 186 18,qs 2 2 19 45]) .ret) (.seq (.ops [.i (.bin 21 .eql (.s 4) (qi 4)),qm 20 21]) (.cond (.s 20) (.seq (.ops [qf 22 1 21,ql 23 1 22 11 true,qk 25 188 23,qs 2 2 24 45]) .ret) (.seq (.ops [.i (.bin 26 .eql (.s 4) (qi 5)),qm 25 26]) (.cond (.s 25) (.seq (.ops [qf 27 1 32,ql 28 1 27 2 true,qk 30 190 28,qs 2 2 29 45]) .ret) (.seq (.ops [.i (.bin 31 .eql (.s 4) (qi 6)),qm 30 31]) (.cond (.s 30) (.seq (.ops [qf 32 1 34,ql 33 1 32 6 true,qk 35 192 33,qs 2 2 34 45]) .ret) (.seq (.ops [.i (.bin 36 .eql (.s 4) (qi 7)),qm 35 36]) (.cond (.s 35) (.seq (.ops [qf 37 1 40,ql 38 1 37 5 true,qk 40 194 38,qs 2 2 39 45]) .ret) .skip)))))))))))))))) (.seq (.ops [.i (.bld 40 [.int .i64 0, .int .i64 0, .int .i64 0, .nils, .int .i64 0, .nils, .int .i64 0, .int .i64 0, .nils, .nils, .nils, .int .i64 0, .int .i64 0, .int .i64 0, .nils, .nils, .int .i64 0, .int .i64 0, .nils, .nils, .nils, .int .i64 0, .int .i64 0, .int .i64 0, .nils, .nils, .int .i64 0, .int .i64 0, .nils, .nils, .nils, .nils, .int .i64 0, .nils, .nils, .int .i64 0, .int .i64 0, .nils, .nils, .nils, .int .i64 0, .int .i64 0, .int .i64 0, .nils, .nils] []),qs 2 2 40 45]) .ret)))⟩
theorem dh:cd cS=some cR:=by kernel_rfl
theorem IM (m:aJ) (hw:m.wc) (hk:m.kind=1):VC cd cS (aD [(true,m.c)]) (fun rs _=>rs=eH m.vote):=by
 refine aa dh rfl ?_
 simp(disch:=omega) [cR,aJ.c,hk,VY]
 refine ao (fS m.vote hw.vote) ?_ (ha:=by first|rfl|(simp[bp.c,VY] <;>repeat' constructor))
 simp(disch:=omega) [eH,VY]
theorem H2 (m:aJ) (hw:m.wc) (hk:m.kind=2):VC cd bZ (aD [(true,m.c)]) (fun rs _=>rs=rz m.qc):=by
 refine aa cG rfl ?_
 simp(disch:=omega) [b6,aJ.c,hk,VY]
 refine ao (HS m.qc hw.qc) ?_ (ha:=by first|rfl|(simp[Qc.c,VY] <;>repeat' constructor))
 simp(disch:=omega) [rz,VY]
theorem IF (m:aJ) (hw:m.wc) (hk:m.kind=2):VC cd cS (aD [(true,m.c)]) (fun rs _=>rs=rz m.qc):=by
 refine aa dh rfl ?_
 simp(disch:=omega) [cR,aJ.c,hk,VY]
 refine ao (xm m.qc hw.qc) ?_ (ha:=by first|rfl|(simp[Qc.c,VY] <;>repeat' constructor))
 simp(disch:=omega) [rz,VY]
theorem HD (m:aJ) (hw:m.wc) (hk:m.kind=3):VC cd bZ (aD [(true,m.c)]) (fun rs _=>rs=fK m.head):=by
 refine aa cG rfl ?_
 simp(disch:=omega) [b6,aJ.c,hk,VY]
 refine ao (Dc m.head hw.head) ?_ (ha:=by first|rfl|(simp[Head.c,VY] <;>repeat' constructor))
 simp(disch:=omega) [fK,VY]
theorem HA (m:aJ) (hw:m.wc) (hk:m.kind=3):VC cd cS (aD [(true,m.c)]) (fun rs _=>rs=fK m.head):=by
 refine aa dh rfl ?_
 simp(disch:=omega) [cR,aJ.c,hk,VY]
 refine ao (pv m.head hw.head) ?_ (ha:=by first|rfl|(simp[Head.c,VY] <;>repeat' constructor))
 simp(disch:=omega) [fK,VY]
theorem Hw (m:aJ) (hw:m.wc) (hk:m.kind=4):VC cd bZ (aD [(true,m.c)]) (fun rs _=>rs=eB m.block):=by
 refine aa cG rfl ?_
 simp(disch:=omega) [b6,aJ.c,hk,VY]
 refine ao (Bb m.block hw.block.1) ?_ (ha:=by first|rfl|(simp[Block.c,Head.c,VY] <;>repeat' constructor))
 simp(disch:=omega) [eB,VY]
theorem IQ (m:aJ) (hw:m.wc) (hk:m.kind=4):VC cd cS (aD [(true,m.c)]) (fun rs _=>rs=eB m.block):=by
 refine aa dh rfl ?_
 simp(disch:=omega) [cR,aJ.c,hk,VY]
 refine ao (oA m.block hw.block.1) ?_ (ha:=by first|rfl|(simp[Block.c,Head.c,VY] <;>repeat' constructor))
 simp(disch:=omega) [eB,VY]
theorem Ia (m:aJ) (hw:m.wc) (hk:m.kind=5):VC cd bZ (aD [(true,m.c)]) (fun rs _=>rs=pI m.tc):=by
 refine aa cG rfl ?_
 simp(disch:=omega) [b6,aJ.c,hk,VY]
 refine ao (IK m.tc hw.tc) ?_ (ha:=by first|rfl|(simp[Tc.c,VY] <;>repeat' constructor))
 simp(disch:=omega) [pI,VY]
theorem Ii (m:aJ) (hw:m.wc) (hk:m.kind=5):VC cd cS (aD [(true,m.c)]) (fun rs _=>rs=pI m.tc):=by
 refine aa dh rfl ?_
 simp(disch:=omega) [cR,aJ.c,hk,VY]
 refine ao (xw m.tc hw.tc) ?_ (ha:=by first|rfl|(simp[Tc.c,VY] <;>repeat' constructor))
 simp(disch:=omega) [pI,VY]
theorem IC (m:aJ) (hw:m.wc) (hk:m.kind=6):VC cd bZ (aD [(true,m.c)]) (fun rs _=>rs=ee m.proof):=by
 refine aa cG rfl ?_
 simp(disch:=omega) [b6,aJ.c,hk,VY]
 refine ao (Br m.proof hw.proof) ?_ (ha:=by first|rfl|(simp[Proof.c,VY] <;>repeat' constructor))
 simp(disch:=omega) [ee,VY]
theorem Im (m:aJ) (hw:m.wc) (hk:m.kind=6):VC cd cS (aD [(true,m.c)]) (fun rs _=>rs=ee m.proof):=by
 refine aa dh rfl ?_
 simp(disch:=omega) [cR,aJ.c,hk,VY]
 refine ao (nL m.proof hw.proof) ?_ (ha:=by first|rfl|(simp[Proof.c,VY] <;>repeat' constructor))
 simp(disch:=omega) [ee,VY]
theorem Is (m:aJ) (hw:m.wc) (hk:m.kind=7):VC cd bZ (aD [(true,m.c)]) (fun rs _=>rs=fO m.incl):=by
 refine aa cG rfl ?_
 simp(disch:=omega) [b6,aJ.c,hk,VY]
 refine ao (D3 m.incl hw.incl) ?_ (ha:=by first|rfl|(simp[aY.c,VY] <;>repeat' constructor))
 simp(disch:=omega) [fO,VY]
theorem HM (m:aJ) (hw:m.wc) (hk:m.kind=7):VC cd cS (aD [(true,m.c)]) (fun rs _=>rs=fO m.incl):=by
 refine aa dh rfl ?_
 simp(disch:=omega) [cR,aJ.c,hk,VY]
 refine ao (qA m.incl hw.incl) ?_ (ha:=by first|rfl|(simp[aY.c,VY] <;>repeat' constructor))
 simp(disch:=omega) [fO,VY]
def bM (m:aJ):aJ:=if m.kind=1 then {av with kind:=1,vote:=m.vote}else if m.kind=2 then {av with kind:=2,qc:=m.qc}else if m.kind=3 then {av with kind:=3,head:=m.head}else if m.kind=4 then {av with kind:=4,block:=m.block}else if m.kind=5 then {av with kind:=5,tc:=m.tc}else if m.kind=6 then {av with kind:=6,proof:=m.proof}else if m.kind=7 then {av with kind:=7,incl:=m.incl}else av
def aA (l:ah) (m:aJ):Bool:=if m.kind=1 then sR l m.vote else if m.kind=2 then eS l m.qc else if m.kind=3 then bx l m.head else if m.kind=4 then bj l m.block else if m.kind=5 then fP l m.tc else if m.kind=6 then cj l m.proof else if m.kind=7 then dS l m.incl else false
def aX (m:aJ):Bytes:=if m.kind=1 then NG m.vote else if m.kind=2 then Kz m.qc else if m.kind=3 then dM m.head else if m.kind=4 then jm m.block else if m.kind=5 then OW m.tc else if m.kind=6 then iU m.proof else pH m.incl
theorem g9 {l:ah} {m:aJ} (h:aA l m=true):m.kind=1∨m.kind=2∨m.kind=3∨m.kind=4∨m.kind=5∨m.kind=6∨m.kind=7:=by
 unfold aA at h
 repeat' split at h
 all_goals first|(simp at h;done)|omega
def aV (l:ah) (m:aJ):Bool:=aA l m && mq m (bM m)
abbrev qF:Nat:=131
def qI:AF:=⟨3,7,[.tmp 6, .tmp 7],(.seq (.ops [.i (.lbox 3 (.s 0)), .i (.lbox 4 (.s 1)), .i (.mov 6 (.c (.val false [.nils]))), .i (.mov 7 (qb false))]) (.seq (.seq (.ops [qf 8 3 0,ql 9 3 8 1 false]) (.block 0 (.seq (.ops [.i (.bin 11 .eql (.s 9) (qi 1)),qm 10 11]) (.cond (.s 10) (.seq (.ops [ql 12 4 4 5 true,qm 13 2,qf 14 3 1,ql 15 3 14 5 true, .i (.call 17 24 false [(.s 12),(.s 13),(.s 15)]), .i (.ext 17 (.s 16) 0), .i (.ext 18 (.s 16) 1),qm 6 17,qm 7 18]) .ret) (.seq (.ops [.i (.bin 20 .eql (.s 9) (qi 2)),qm 19 20]) (.cond (.s 19) (.seq (.ops [ql 21 4 4 5 true,qm 22 2,qf 23 3 6,ql 24 3 23 5 true, .i (.call 26 27 false [(.s 21),(.s 22),(.s 24)]), .i (.ext 26 (.s 25) 0), .i (.ext 27 (.s 25) 1),qm 6 26,qm 7 27]) .ret) (.seq (.ops [.i (.bin 29 .eql (.s 9) (qi 3)),qm 28 29]) (.cond (.s 28) (.seq (.ops [ql 30 4 4 5 true,qm 31 2,qf 32 3 11,ql 33 3 32 10 true, .i (.call 35 30 false [(.s 30),(.s 31),(.s 33)]), .i (.ext 35 (.s 34) 0), .i (.ext 36 (.s 34) 1),qm 6 35,qm 7 36]) .ret) (.seq (.ops [.i (.bin 38 .eql (.s 9) (qi 4)),qm 37 38]) (.cond (.s 37) (.seq (.ops [ql 39 4 4 5 true,qm 40 2,qf 41 3 21,ql 42 3 41 11 true, .i (.call 44 34 false [(.s 39),(.s 40),(.s 42)]), .i (.ext 44 (.s 43) 0), .i (.ext 45 (.s 43) 1),qm 6 44,qm 7 45]) .ret) (.seq (.ops [.i (.bin 47 .eql (.s 9) (qi 5)),qm 46 47]) (.cond (.s 46) (.seq (.ops [ql 48 4 4 5 true,qm 49 2,qf 50 3 32,ql 51 3 50 2 true, .i (.call 53 37 false [(.s 48),(.s 49),(.s 51)]), .i (.ext 53 (.s 52) 0), .i (.ext 54 (.s 52) 1),qm 6 53,qm 7 54]) .ret) (.seq (.ops [.i (.bin 56 .eql (.s 9) (qi 6)),qm 55 56]) (.cond (.s 55) (.seq (.ops [ql 57 4 4 5 true,qm 58 2,qf 59 3 34,ql 60 3 59 6 true, .i (.call 62 40 false [(.s 57),(.s 58),(.s 60)]), .i (.ext 62 (.s 61) 0), .i (.ext 63 (.s 61) 1),qm 6 62,qm 7 63]) .ret) (.seq (.ops [.i (.bin 65 .eql (.s 9) (qi 7)),qm 64 65]) (.cond (.s 64) (.seq (.ops [ql 66 4 4 5 true,qm 67 2,qf 68 3 40,ql 69 3 68 5 true, .i (.call 71 43 false [(.s 66),(.s 67),(.s 69)]), .i (.ext 71 (.s 70) 0), .i (.ext 72 (.s 70) 1),qm 6 71,qm 7 72]) .ret) .skip)))))))))))))))) (.seq (.ops [.i (.mov 6 (.c (.val false [.nils]))), .i (.mov 7 (qb false))]) .ret)))⟩
theorem Er:cd qF=some qI:=by kernel_rfl
theorem qS (l:ah) (b:Bytes) (m:aJ) (hw:m.wc) (hb:b.length≤800000000):VC cd qF (aD [(true,m.c),(true,l.c),(false,[.sl (bytes b)])]) (fun rs _=>rs=bz (aA l m) (b++aX m)):=by
 refine aa Er rfl ?_
 simp(disch:=omega) [qI,aJ.c,ah.c,VY]
 refine ab (fun g1=> ?_) (fun g1=> ?_)
 ·have e1:aA l m=sR l m.vote:=by simp[aA,g1]
  have e2:aX m=NG m.vote:=by simp[aX,g1]
  rw[e1,e2]
  simp(disch:=omega) [g1,VY]
  cases hp:sR l m.vote
  ·refine ao ((nD l b m.vote (by omega)).re (c4 hp)) ?_ (ha:=by first|rfl|(simp[ah.c,bp.c,VY] <;>repeat' constructor))
   simp(disch:=omega) [bz,g1,VY]
  ·refine ao ((nD l b m.vote (by omega)).re (bU hp)) ?_ (ha:=by first|rfl|(simp[ah.c,bp.c,VY] <;>repeat' constructor))
   simp(disch:=omega) [bz,g1,VY]
 simp(disch:=omega) [g1,VY]
 refine ab (fun g2=> ?_) (fun g2=> ?_)
 ·have e1:aA l m=eS l m.qc:=by simp[aA,g2]
  have e2:aX m=Kz m.qc:=by simp[aX,g2]
  rw[e1,e2]
  simp(disch:=omega) [g2,VY]
  cases hp:eS l m.qc
  ·refine ao ((vS l b m.qc hw.qc.1 (by omega)).re (c4 hp)) ?_ (ha:=by first|rfl|(simp[ah.c,Qc.c,VY] <;>repeat' constructor))
   simp(disch:=omega) [bz,g2,VY]
  ·refine ao ((vS l b m.qc hw.qc.1 (by omega)).re (bU hp)) ?_ (ha:=by first|rfl|(simp[ah.c,Qc.c,VY] <;>repeat' constructor))
   simp(disch:=omega) [bz,g2,VY]
 simp(disch:=omega) [g2,VY]
 refine ab (fun g3=> ?_) (fun g3=> ?_)
 ·have e1:aA l m=bx l m.head:=by simp[aA,g3]
  have e2:aX m=dM m.head:=by simp[aX,g3]
  rw[e1,e2]
  simp(disch:=omega) [g3,VY]
  cases hp:bx l m.head
  ·refine ao ((oo l b m.head hw.head.1 (by omega)).re (c4 hp)) ?_ (ha:=by first|rfl|(simp[ah.c,Head.c,VY] <;>repeat' constructor))
   simp(disch:=omega) [bz,g3,VY]
  ·refine ao ((oo l b m.head hw.head.1 (by omega)).re (bU hp)) ?_ (ha:=by first|rfl|(simp[ah.c,Head.c,VY] <;>repeat' constructor))
   simp(disch:=omega) [bz,g3,VY]
 simp(disch:=omega) [g3,VY]
 refine ab (fun g4=> ?_) (fun g4=> ?_)
 ·have e1:aA l m=bj l m.block:=by simp[aA,g4]
  have e2:aX m=jm m.block:=by simp[aX,g4]
  rw[e1,e2]
  simp(disch:=omega) [g4,VY]
  cases hp:bj l m.block
  ·refine ao ((kG l b m.block hw.block (by omega)).re (c4 hp)) ?_ (ha:=by first|rfl|(simp[ah.c,Block.c,Head.c,VY] <;>repeat' constructor))
   simp(disch:=omega) [bz,g4,VY]
  ·refine ao ((kG l b m.block hw.block (by omega)).re (bU hp)) ?_ (ha:=by first|rfl|(simp[ah.c,Block.c,Head.c,VY] <;>repeat' constructor))
   simp(disch:=omega) [bz,g4,VY]
 simp(disch:=omega) [g4,VY]
 refine ab (fun g5=> ?_) (fun g5=> ?_)
 ·have e1:aA l m=fP l m.tc:=by simp[aA,g5]
  have e2:aX m=OW m.tc:=by simp[aX,g5]
  rw[e1,e2]
  simp(disch:=omega) [g5,VY]
  cases hp:fP l m.tc
  ·refine ao ((vW l b m.tc hw.tc (by omega)).re (c4 hp)) ?_ (ha:=by first|rfl|(simp[ah.c,Tc.c,VY] <;>repeat' constructor))
   simp(disch:=omega) [bz,g5,VY]
  ·refine ao ((vW l b m.tc hw.tc (by omega)).re (bU hp)) ?_ (ha:=by first|rfl|(simp[ah.c,Tc.c,VY] <;>repeat' constructor))
   simp(disch:=omega) [bz,g5,VY]
 simp(disch:=omega) [g5,VY]
 refine ab (fun g6=> ?_) (fun g6=> ?_)
 ·have e1:aA l m=cj l m.proof:=by simp[aA,g6]
  have e2:aX m=iU m.proof:=by simp[aX,g6]
  rw[e1,e2]
  simp(disch:=omega) [g6,VY]
  cases hp:cj l m.proof
  ·refine ao ((lr l b m.proof hw.proof (by omega)).re (c4 hp)) ?_ (ha:=by first|rfl|(simp[ah.c,Proof.c,VY] <;>repeat' constructor))
   simp(disch:=omega) [bz,g6,VY]
  ·refine ao ((lr l b m.proof hw.proof (by omega)).re (bU hp)) ?_ (ha:=by first|rfl|(simp[ah.c,Proof.c,VY] <;>repeat' constructor))
   simp(disch:=omega) [bz,g6,VY]
 simp(disch:=omega) [g6,VY]
 refine ab (fun g7=> ?_) (fun g7=> ?_)
 ·have e1:aA l m=dS l m.incl:=by simp[aA,g7]
  have e2:aX m=pH m.incl:=by simp[aX,g7]
  rw[e1,e2]
  simp(disch:=omega) [g7,VY]
  cases hp:dS l m.incl
  ·refine ao ((nE l b m.incl hw.incl hw.tx (by omega)).re (c4 hp)) ?_ (ha:=by first|rfl|(simp[ah.c,aY.c,VY] <;>repeat' constructor))
   simp(disch:=omega) [bz,g7,VY]
  ·refine ao ((nE l b m.incl hw.incl hw.tx (by omega)).re (bU hp)) ?_ (ha:=by first|rfl|(simp[ah.c,aY.c,VY] <;>repeat' constructor))
   simp(disch:=omega) [bz,g7,VY]
 have e1:aA l m=false:=by simp[aA,g1,g2,g3,g4,g5,g6,g7]
 rw[e1]
 simp(disch:=omega) [bz,g1,g2,g3,g4,g5,g6,g7,VY]
abbrev uV:Nat:=183
def vE:AF:=⟨3,7,[.tmp 6, .tmp 7],(.seq (.ops [.i (.lbox 3 (.s 0)), .i (.lbox 5 (.s 2)), .i (.mov 6 (.c (.val false [.nils]))), .i (.mov 7 (qb false))]) (.seq (.seq (.ops [qf 8 5 0,ql 9 5 8 1 false]) (.block 0 (.seq (.ops [.i (.bin 11 .eql (.s 9) (qi 1)),qm 10 11]) (.cond (.s 10) (.seq (.ops [ql 12 3 3 5 true,qm 13 1,qf 14 5 1,ql 15 5 14 5 true, .i (.call 17 257 false [(.s 12),(.s 13),(.s 15)]), .i (.ext 17 (.s 16) 0), .i (.ext 18 (.s 16) 1),qm 6 17,qm 7 18]) .ret) (.seq (.ops [.i (.bin 20 .eql (.s 9) (qi 2)),qm 19 20]) (.cond (.s 19) (.seq (.ops [ql 21 3 3 5 true,qm 22 1,qf 23 5 6,ql 24 5 23 5 true, .i (.call 26 258 false [(.s 21),(.s 22),(.s 24)]), .i (.ext 26 (.s 25) 0), .i (.ext 27 (.s 25) 1),qm 6 26,qm 7 27]) .ret) (.seq (.ops [.i (.bin 29 .eql (.s 9) (qi 3)),qm 28 29]) (.cond (.s 28) (.seq (.ops [ql 30 3 3 5 true,qm 31 1,qf 32 5 11,ql 33 5 32 10 true, .i (.call 35 259 false [(.s 30),(.s 31),(.s 33)]), .i (.ext 35 (.s 34) 0), .i (.ext 36 (.s 34) 1),qm 6 35,qm 7 36]) .ret) (.seq (.ops [.i (.bin 38 .eql (.s 9) (qi 4)),qm 37 38]) (.cond (.s 37) (.seq (.ops [ql 39 3 3 5 true,qm 40 1,qf 41 5 21,ql 42 5 41 11 true, .i (.call 44 260 false [(.s 39),(.s 40),(.s 42)]), .i (.ext 44 (.s 43) 0), .i (.ext 45 (.s 43) 1),qm 6 44,qm 7 45]) .ret) (.seq (.ops [.i (.bin 47 .eql (.s 9) (qi 5)),qm 46 47]) (.cond (.s 46) (.seq (.ops [ql 48 3 3 5 true,qm 49 1,qf 50 5 32,ql 51 5 50 2 true, .i (.call 53 261 false [(.s 48),(.s 49),(.s 51)]), .i (.ext 53 (.s 52) 0), .i (.ext 54 (.s 52) 1),qm 6 53,qm 7 54]) .ret) (.seq (.ops [.i (.bin 56 .eql (.s 9) (qi 6)),qm 55 56]) (.cond (.s 55) (.seq (.ops [ql 57 3 3 5 true,qm 58 1,qf 59 5 34,ql 60 5 59 6 true, .i (.call 62 262 false [(.s 57),(.s 58),(.s 60)]), .i (.ext 62 (.s 61) 0), .i (.ext 63 (.s 61) 1),qm 6 62,qm 7 63]) .ret) .skip)))))))))))))) (.seq (.ops [ql 64 3 3 5 true,qm 65 1,qf 66 5 40,ql 67 5 66 5 true, .i (.call 69 263 false [(.s 64),(.s 65),(.s 67)]), .i (.ext 69 (.s 68) 0), .i (.ext 70 (.s 68) 1),qm 6 69,qm 7 70]) .ret)))⟩
theorem Fm:cd uV=some vE:=by kernel_rfl
theorem bK (l:ah) (b:Bytes) (m:aJ) (hw:m.wc) (hk:cO m.kind 1 7=true) (hb:b.length≤800000000):VC cd uV (aD [(true,l.c),(false,[.sl (bytes b)]),(true,m.c)]) (fun rs _=>rs=bz (aA l m) (b++aX m)):=by
 have hk2:=ek hk
 refine aa Fm rfl ?_
 simp(disch:=omega) [vE,aJ.c,ah.c,VY]
 refine ab (fun g1=> ?_) (fun g1=> ?_)
 ·have e1:aA l m=sR l m.vote:=by simp[aA,g1]
  have e2:aX m=NG m.vote:=by simp[aX,g1]
  rw[e1,e2]
  simp(disch:=omega) [g1,VY]
  cases hp:sR l m.vote
  ·refine ao ((oR l b m.vote (by omega)).re (c4 hp)) ?_ (ha:=by first|rfl|(simp[ah.c,bp.c,VY] <;>repeat' constructor))
   simp(disch:=omega) [bz,g1,VY]
  ·refine ao ((oR l b m.vote (by omega)).re (bU hp)) ?_ (ha:=by first|rfl|(simp[ah.c,bp.c,VY] <;>repeat' constructor))
   simp(disch:=omega) [bz,g1,VY]
 simp(disch:=omega) [g1,VY]
 refine ab (fun g2=> ?_) (fun g2=> ?_)
 ·have e1:aA l m=eS l m.qc:=by simp[aA,g2]
  have e2:aX m=Kz m.qc:=by simp[aX,g2]
  rw[e1,e2]
  simp(disch:=omega) [g2,VY]
  cases hp:eS l m.qc
  ·refine ao ((gR l b m.qc hw.qc.1 (by omega)).re (c4 hp)) ?_ (ha:=by first|rfl|(simp[ah.c,Qc.c,VY] <;>repeat' constructor))
   simp(disch:=omega) [bz,g2,VY]
  ·refine ao ((gR l b m.qc hw.qc.1 (by omega)).re (bU hp)) ?_ (ha:=by first|rfl|(simp[ah.c,Qc.c,VY] <;>repeat' constructor))
   simp(disch:=omega) [bz,g2,VY]
 simp(disch:=omega) [g2,VY]
 refine ab (fun g3=> ?_) (fun g3=> ?_)
 ·have e1:aA l m=bx l m.head:=by simp[aA,g3]
  have e2:aX m=dM m.head:=by simp[aX,g3]
  rw[e1,e2]
  simp(disch:=omega) [g3,VY]
  cases hp:bx l m.head
  ·refine ao ((dz l b m.head hw.head.1 (by omega)).re (c4 hp)) ?_ (ha:=by first|rfl|(simp[ah.c,Head.c,VY] <;>repeat' constructor))
   simp(disch:=omega) [bz,g3,VY]
  ·refine ao ((dz l b m.head hw.head.1 (by omega)).re (bU hp)) ?_ (ha:=by first|rfl|(simp[ah.c,Head.c,VY] <;>repeat' constructor))
   simp(disch:=omega) [bz,g3,VY]
 simp(disch:=omega) [g3,VY]
 refine ab (fun g4=> ?_) (fun g4=> ?_)
 ·have e1:aA l m=bj l m.block:=by simp[aA,g4]
  have e2:aX m=jm m.block:=by simp[aX,g4]
  rw[e1,e2]
  simp(disch:=omega) [g4,VY]
  cases hp:bj l m.block
  ·refine ao ((lJ l b m.block hw.block (by omega)).re (c4 hp)) ?_ (ha:=by first|rfl|(simp[ah.c,Block.c,Head.c,VY] <;>repeat' constructor))
   simp(disch:=omega) [bz,g4,VY]
  ·refine ao ((lJ l b m.block hw.block (by omega)).re (bU hp)) ?_ (ha:=by first|rfl|(simp[ah.c,Block.c,Head.c,VY] <;>repeat' constructor))
   simp(disch:=omega) [bz,g4,VY]
 simp(disch:=omega) [g4,VY]
 refine ab (fun g5=> ?_) (fun g5=> ?_)
 ·have e1:aA l m=fP l m.tc:=by simp[aA,g5]
  have e2:aX m=OW m.tc:=by simp[aX,g5]
  rw[e1,e2]
  simp(disch:=omega) [g5,VY]
  cases hp:fP l m.tc
  ·refine ao ((vT l b m.tc hw.tc (by omega)).re (c4 hp)) ?_ (ha:=by first|rfl|(simp[ah.c,Tc.c,VY] <;>repeat' constructor))
   simp(disch:=omega) [bz,g5,VY]
  ·refine ao ((vT l b m.tc hw.tc (by omega)).re (bU hp)) ?_ (ha:=by first|rfl|(simp[ah.c,Tc.c,VY] <;>repeat' constructor))
   simp(disch:=omega) [bz,g5,VY]
 simp(disch:=omega) [g5,VY]
 refine ab (fun g6=> ?_) (fun g6=> ?_)
 ·have e1:aA l m=cj l m.proof:=by simp[aA,g6]
  have e2:aX m=iU m.proof:=by simp[aX,g6]
  rw[e1,e2]
  simp(disch:=omega) [g6,VY]
  cases hp:cj l m.proof
  ·refine ao ((lA l b m.proof hw.proof (by omega)).re (c4 hp)) ?_ (ha:=by first|rfl|(simp[ah.c,Proof.c,VY] <;>repeat' constructor))
   simp(disch:=omega) [bz,g6,VY]
  ·refine ao ((lA l b m.proof hw.proof (by omega)).re (bU hp)) ?_ (ha:=by first|rfl|(simp[ah.c,Proof.c,VY] <;>repeat' constructor))
   simp(disch:=omega) [bz,g6,VY]
 simp(disch:=omega) [g6,VY]
 have g7:m.kind=7:=by omega
 have e1:aA l m=dS l m.incl:=by simp[aA,g7]
 have e2:aX m=pH m.incl:=by simp[aX,g7]
 rw[e1,e2]
 cases hp:dS l m.incl
 ·refine ao ((nq l b m.incl hw.incl hw.tx (by omega)).re (c4 hp)) ?_ (ha:=by first|rfl|(simp[ah.c,aY.c,VY] <;>repeat' constructor))
  simp(disch:=omega) [bz,g7,VY]
 ·refine ao ((nq l b m.incl hw.incl hw.tx (by omega)).re (bU hp)) ?_ (ha:=by first|rfl|(simp[ah.c,aY.c,VY] <;>repeat' constructor))
  simp(disch:=omega) [bz,g7,VY]
theorem L4 {m:aJ} (h:m.kind=1):bM m= {av with kind:=1,vote:=m.vote}:=by simp[bM,h]
theorem Mt {m:aJ} (h:m.kind=2):bM m= {av with kind:=2,qc:=m.qc}:=by simp[bM,h]
theorem Me {m:aJ} (h:m.kind=3):bM m= {av with kind:=3,head:=m.head}:=by simp[bM,h]
theorem MH {m:aJ} (h:m.kind=4):bM m= {av with kind:=4,block:=m.block}:=by simp[bM,h]
theorem Mj {m:aJ} (h:m.kind=5):bM m= {av with kind:=5,tc:=m.tc}:=by simp[bM,h]
theorem Mw {m:aJ} (h:m.kind=6):bM m= {av with kind:=6,proof:=m.proof}:=by simp[bM,h]
theorem My {m:aJ} (h:m.kind=7):bM m= {av with kind:=7,incl:=m.incl}:=by simp[bM,h]
theorem JC {m:aJ} (hw:m.wc):(bM m).wc:=by
 unfold bM
 repeat' split
 ·exact {dE with kind:=by simp only[ma];omega,vote:=hw.vote}
 ·exact {dE with kind:=by simp only[ma];omega,qc:=hw.qc}
 ·exact {dE with kind:=by simp only[ma];omega,head:=hw.head}
 ·exact {dE with kind:=by simp only[ma];omega,block:=hw.block}
 ·exact {dE with kind:=by simp only[ma];omega,tc:=hw.tc}
 ·exact {dE with kind:=by simp only[ma];omega,proof:=hw.proof}
 ·exact {dE with kind:=by simp only[ma];omega,incl:=hw.incl,tx:=hw.tx}
 ·exact dE
abbrev yn:Nat:=58
def yq:AF:=⟨2,5,[.tmp 4],(.seq (.ops [.i (.lbox 2 (.s 0)), .i (.lbox 3 (.s 1)), .i (.mov 4 (qb false))]) (.seq (.ops [ql 8 3 3 45 true,ql 9 2 2 5 true, .i (.call 11 131 false [(.s 8),(.s 9),(.c (.val false [.nils]))]),qm 7 10, .i (.ext 11 (.s 7) 0), .i (.ext 12 (.s 7) 1),qm 5 11,qm 6 12]) (.seq (.ops [qm 13 6,qm 14 13, .g 14 true 16 (.ldl 15 3 (.s 3) 45 true), .g 14 true 17 (.ldl 16 3 (.s 3) 45 true), .g 14 true 18 (.call 18 137 false [(.s 16)]), .g 14 true 19 (.call 19 54 false [(.s 15),(.s 17)]), .i (.pick 19 (.s 14) (.s 18) (qb false)),qm 4 19]) .ret)))⟩
theorem Hb:cd yn=some yq:=by kernel_rfl
theorem F8 (l:ah) (m:aJ) (hw:m.wc):VC cd yn (aD [(true,l.c),(true,m.c)]) (fun rs _=>rs=bl (aV l m)):=by
 have hx:=JC hw
 refine aa Hb rfl ?_
 simp(disch:=omega) [yq,aJ.c,ah.c,VY]
 cases hp:aA l m with
 |false=>
  refine ao ((qS l [] m hw (by simp)).re (c4 hp)) ?_ (ha:=by first|rfl|(simp[aJ.c,ah.c,ag,VY] <;>repeat' constructor))
  simp(disch:=omega) [aV,hp,VY]
 |true=>
  have e0:([]:Bytes)++aX m=aX m:=rfl
  refine ao ((qS l [] m hw (by simp)).re (bU hp)) ?_ (ha:=by first|rfl|(simp[aJ.c,ah.c,ag,VY] <;>repeat' constructor))
  simp(disch:=omega) [VY]
  rcases g9 hp with hk|hk|hk|hk|hk|hk|hk
  ·refine ao (HT m hw hk) ?_ (ha:=by first|rfl|(simp[aJ.c,VY] <;>repeat' constructor))
   simp(disch:=omega) [eH,VY]
   refine ao (cY m (bM m) hw hx) ?_ (ha:=by first|rfl|(simp[aJ.c,L4 hk,av,bD,fy,aZ,aH,hU,aK,bA,ag,show bJ []= []from rfl,show eK []= []from rfl,show iw []= []from rfl,VY] <;>repeat' constructor))
   simp(disch:=omega) [aV,hp,VY]
  ·refine ao (H2 m hw hk) ?_ (ha:=by first|rfl|(simp[aJ.c,VY] <;>repeat' constructor))
   simp(disch:=omega) [rz,VY]
   refine ao (cY m (bM m) hw hx) ?_ (ha:=by first|rfl|(simp[aJ.c,Mt hk,av,bD,fy,aZ,aH,hU,aK,bA,ag,show bJ []= []from rfl,show eK []= []from rfl,show iw []= []from rfl,VY] <;>repeat' constructor))
   simp(disch:=omega) [aV,hp,VY]
  ·refine ao (HD m hw hk) ?_ (ha:=by first|rfl|(simp[aJ.c,VY] <;>repeat' constructor))
   simp(disch:=omega) [fK,VY]
   refine ao (cY m (bM m) hw hx) ?_ (ha:=by first|rfl|(simp[aJ.c,Me hk,av,bD,fy,aZ,aH,hU,aK,bA,ag,show bJ []= []from rfl,show eK []= []from rfl,show iw []= []from rfl,VY] <;>repeat' constructor))
   simp(disch:=omega) [aV,hp,VY]
  ·refine ao (Hw m hw hk) ?_ (ha:=by first|rfl|(simp[aJ.c,VY] <;>repeat' constructor))
   simp(disch:=omega) [eB,VY]
   refine ao (cY m (bM m) hw hx) ?_ (ha:=by first|rfl|(simp[aJ.c,MH hk,av,bD,fy,aZ,aH,hU,aK,bA,ag,show bJ []= []from rfl,show eK []= []from rfl,show iw []= []from rfl,VY] <;>repeat' constructor))
   simp(disch:=omega) [aV,hp,VY]
  ·refine ao (Ia m hw hk) ?_ (ha:=by first|rfl|(simp[aJ.c,VY] <;>repeat' constructor))
   simp(disch:=omega) [pI,VY]
   refine ao (cY m (bM m) hw hx) ?_ (ha:=by first|rfl|(simp[aJ.c,Mj hk,av,bD,fy,aZ,aH,hU,aK,bA,ag,show bJ []= []from rfl,show eK []= []from rfl,show iw []= []from rfl,VY] <;>repeat' constructor))
   simp(disch:=omega) [aV,hp,VY]
  ·refine ao (IC m hw hk) ?_ (ha:=by first|rfl|(simp[aJ.c,VY] <;>repeat' constructor))
   simp(disch:=omega) [ee,VY]
   refine ao (cY m (bM m) hw hx) ?_ (ha:=by first|rfl|(simp[aJ.c,Mw hk,av,bD,fy,aZ,aH,hU,aK,bA,ag,show bJ []= []from rfl,show eK []= []from rfl,show iw []= []from rfl,VY] <;>repeat' constructor))
   simp(disch:=omega) [aV,hp,VY]
  ·refine ao (Is m hw hk) ?_ (ha:=by first|rfl|(simp[aJ.c,VY] <;>repeat' constructor))
   simp(disch:=omega) [fO,VY]
   refine ao (cY m (bM m) hw hx) ?_ (ha:=by first|rfl|(simp[aJ.c,My hk,av,bD,fy,aZ,aH,hU,aK,bA,ag,show bJ []= []from rfl,show eK []= []from rfl,show iw []= []from rfl,VY] <;>repeat' constructor))
   simp(disch:=omega) [aV,hp,VY]
abbrev qu:Nat:=238
def pY:AF:=⟨1,3,[.tmp 2],(.seq (.ops [.i (.mov 2 (qb false))]) (.seq (.ops [qm 3 0, .i (.call 5 221 false [(.s 3),(qi 1),(qi 7)]),qm 2 4]) .ret))⟩
theorem DO:cd qu=some pY:=by kernel_rfl
theorem Lb (k:Int):VC cd qu (aD [(false,[.int .i64 k])]) (fun rs _=>rs=bl (cO k 1 7)):=by
 refine aa DO rfl ?_
 simp(disch:=omega) [pY,VY]
 refine ao (b7 k 1 7) ?_
 simp(disch:=omega) [VY]
abbrev xb:Nat:=159
def xG:AF:=⟨2,5,[.tmp 4],(.seq (.ops [.i (.lbox 2 (.s 0)), .i (.lbox 3 (.s 1)), .i (.mov 4 (qb false))]) (.seq (.seq (.ops [qf 7 3 0,ql 8 3 7 1 false,qk 10 238 8, .i (.not 10 (.s 9)),qm 11 10, .g 11 false 13 (.ldl 12 3 (.s 3) 45 true), .g 11 false 14 (.ldl 13 3 (.s 3) 45 true), .g 11 false 15 (.call 15 240 false [(.s 13)]), .g 11 false 16 (.call 16 239 false [(.s 12),(.s 14)]), .g 11 false 17 (.not 16 (.s 15)), .i (.pick 17 (.s 11) (qb true) (.s 16))]) (.cond (.s 17) (.seq (.ops [.i (.mov 4 (qb false))]) .ret) .skip)) (.seq (.ops [ql 19 2 2 5 true,ql 20 3 3 45 true, .i (.call 22 183 false [(.s 19),(.c (.val false [.nils])),(.s 20)]),qm 18 21, .i (.ext 22 (.s 18) 0), .i (.ext 23 (.s 18) 1),qm 5 22,qm 6 23]) (.seq (.ops [qm 24 6,qm 4 24]) .ret))))⟩
theorem HW:cd xb=some xG:=by kernel_rfl
theorem E6 (l:ah) (m:aJ) (hw:m.wc):VC cd xb (aD [(true,l.c),(true,m.c)]) (fun rs _=>rs=bl (aV l m)):=by
 have hx:=JC hw
 refine aa HW rfl ?_
 simp(disch:=omega) [xG,aJ.c,ah.c,VY]
 refine ao (Lb m.kind) ?_
 simp(disch:=omega) [VY]
 refine an (fun h1=> ?_) (fun h1=> ?_)
 case refine_2=>
  have e1:aA l m=false:=by
   cases hp:aA l m with
   |false=>rfl
   |true=>rcases g9 hp with hk|hk|hk|hk|hk|hk|hk <;>(rw[hk]at h1;cases h1)
  simp(disch:=omega) [h1,aV,e1,VY]
 simp(disch:=omega) [h1,VY]
 have hk2:=ek h1
 have hk3:m.kind=1∨m.kind=2∨m.kind=3∨m.kind=4∨m.kind=5∨m.kind=6∨m.kind=7:=by omega
 rcases hk3 with hk|hk|hk|hk|hk|hk|hk
 ·refine ao (IM m hw hk) ?_ (ha:=by first|rfl|(simp[aJ.c,VY] <;>repeat' constructor))
  simp(disch:=omega) [eH,h1,VY]
  refine ao (cZ m (bM m) hw hx) ?_ (ha:=by first|rfl|(simp[aJ.c,L4 hk,av,bD,fy,aZ,aH,hU,aK,bA,ag,show bJ []= []from rfl,show eK []= []from rfl,show iw []= []from rfl,VY] <;>repeat' constructor))
  simp(disch:=omega) [h1,VY]
  refine an (fun h2=> ?_) (fun h2=> ?_)
  case refine_2=>simp(disch:=omega) [h1,h2,aV,VY]
  simp(disch:=omega) [h1,h2,VY]
  cases hp:aA l m
  ·refine ao ((bK l [] m hw h1 (by simp)).re (c4 hp)) ?_ (ha:=by first|rfl|(simp[aJ.c,ah.c,ag,VY] <;>repeat' constructor))
   simp(disch:=omega) [aV,hp,h2,VY]
  ·refine ao ((bK l [] m hw h1 (by simp)).re (bU hp)) ?_ (ha:=by first|rfl|(simp[aJ.c,ah.c,ag,VY] <;>repeat' constructor))
   simp(disch:=omega) [aV,hp,h2,VY]
 ·refine ao (IF m hw hk) ?_ (ha:=by first|rfl|(simp[aJ.c,VY] <;>repeat' constructor))
  simp(disch:=omega) [rz,h1,VY]
  refine ao (cZ m (bM m) hw hx) ?_ (ha:=by first|rfl|(simp[aJ.c,Mt hk,av,bD,fy,aZ,aH,hU,aK,bA,ag,show bJ []= []from rfl,show eK []= []from rfl,show iw []= []from rfl,VY] <;>repeat' constructor))
  simp(disch:=omega) [h1,VY]
  refine an (fun h2=> ?_) (fun h2=> ?_)
  case refine_2=>simp(disch:=omega) [h1,h2,aV,VY]
  simp(disch:=omega) [h1,h2,VY]
  cases hp:aA l m
  ·refine ao ((bK l [] m hw h1 (by simp)).re (c4 hp)) ?_ (ha:=by first|rfl|(simp[aJ.c,ah.c,ag,VY] <;>repeat' constructor))
   simp(disch:=omega) [aV,hp,h2,VY]
  ·refine ao ((bK l [] m hw h1 (by simp)).re (bU hp)) ?_ (ha:=by first|rfl|(simp[aJ.c,ah.c,ag,VY] <;>repeat' constructor))
   simp(disch:=omega) [aV,hp,h2,VY]
 ·refine ao (HA m hw hk) ?_ (ha:=by first|rfl|(simp[aJ.c,VY] <;>repeat' constructor))
  simp(disch:=omega) [fK,h1,VY]
  refine ao (cZ m (bM m) hw hx) ?_ (ha:=by first|rfl|(simp[aJ.c,Me hk,av,bD,fy,aZ,aH,hU,aK,bA,ag,show bJ []= []from rfl,show eK []= []from rfl,show iw []= []from rfl,VY] <;>repeat' constructor))
  simp(disch:=omega) [h1,VY]
  refine an (fun h2=> ?_) (fun h2=> ?_)
  case refine_2=>simp(disch:=omega) [h1,h2,aV,VY]
  simp(disch:=omega) [h1,h2,VY]
  cases hp:aA l m
  ·refine ao ((bK l [] m hw h1 (by simp)).re (c4 hp)) ?_ (ha:=by first|rfl|(simp[aJ.c,ah.c,ag,VY] <;>repeat' constructor))
   simp(disch:=omega) [aV,hp,h2,VY]
  ·refine ao ((bK l [] m hw h1 (by simp)).re (bU hp)) ?_ (ha:=by first|rfl|(simp[aJ.c,ah.c,ag,VY] <;>repeat' constructor))
   simp(disch:=omega) [aV,hp,h2,VY]
 ·refine ao (IQ m hw hk) ?_ (ha:=by first|rfl|(simp[aJ.c,VY] <;>repeat' constructor))
  simp(disch:=omega) [eB,h1,VY]
  refine ao (cZ m (bM m) hw hx) ?_ (ha:=by first|rfl|(simp[aJ.c,MH hk,av,bD,fy,aZ,aH,hU,aK,bA,ag,show bJ []= []from rfl,show eK []= []from rfl,show iw []= []from rfl,VY] <;>repeat' constructor))
  simp(disch:=omega) [h1,VY]
  refine an (fun h2=> ?_) (fun h2=> ?_)
  case refine_2=>simp(disch:=omega) [h1,h2,aV,VY]
  simp(disch:=omega) [h1,h2,VY]
  cases hp:aA l m
  ·refine ao ((bK l [] m hw h1 (by simp)).re (c4 hp)) ?_ (ha:=by first|rfl|(simp[aJ.c,ah.c,ag,VY] <;>repeat' constructor))
   simp(disch:=omega) [aV,hp,h2,VY]
  ·refine ao ((bK l [] m hw h1 (by simp)).re (bU hp)) ?_ (ha:=by first|rfl|(simp[aJ.c,ah.c,ag,VY] <;>repeat' constructor))
   simp(disch:=omega) [aV,hp,h2,VY]
 ·refine ao (Ii m hw hk) ?_ (ha:=by first|rfl|(simp[aJ.c,VY] <;>repeat' constructor))
  simp(disch:=omega) [pI,h1,VY]
  refine ao (cZ m (bM m) hw hx) ?_ (ha:=by first|rfl|(simp[aJ.c,Mj hk,av,bD,fy,aZ,aH,hU,aK,bA,ag,show bJ []= []from rfl,show eK []= []from rfl,show iw []= []from rfl,VY] <;>repeat' constructor))
  simp(disch:=omega) [h1,VY]
  refine an (fun h2=> ?_) (fun h2=> ?_)
  case refine_2=>simp(disch:=omega) [h1,h2,aV,VY]
  simp(disch:=omega) [h1,h2,VY]
  cases hp:aA l m
  ·refine ao ((bK l [] m hw h1 (by simp)).re (c4 hp)) ?_ (ha:=by first|rfl|(simp[aJ.c,ah.c,ag,VY] <;>repeat' constructor))
   simp(disch:=omega) [aV,hp,h2,VY]
  ·refine ao ((bK l [] m hw h1 (by simp)).re (bU hp)) ?_ (ha:=by first|rfl|(simp[aJ.c,ah.c,ag,VY] <;>repeat' constructor))
   simp(disch:=omega) [aV,hp,h2,VY]
 ·refine ao (Im m hw hk) ?_ (ha:=by first|rfl|(simp[aJ.c,VY] <;>repeat' constructor))
  simp(disch:=omega) [ee,h1,VY]
  refine ao (cZ m (bM m) hw hx) ?_ (ha:=by first|rfl|(simp[aJ.c,Mw hk,av,bD,fy,aZ,aH,hU,aK,bA,ag,show bJ []= []from rfl,show eK []= []from rfl,show iw []= []from rfl,VY] <;>repeat' constructor))
  simp(disch:=omega) [h1,VY]
  refine an (fun h2=> ?_) (fun h2=> ?_)
  case refine_2=>simp(disch:=omega) [h1,h2,aV,VY]
  simp(disch:=omega) [h1,h2,VY]
  cases hp:aA l m
  ·refine ao ((bK l [] m hw h1 (by simp)).re (c4 hp)) ?_ (ha:=by first|rfl|(simp[aJ.c,ah.c,ag,VY] <;>repeat' constructor))
   simp(disch:=omega) [aV,hp,h2,VY]
  ·refine ao ((bK l [] m hw h1 (by simp)).re (bU hp)) ?_ (ha:=by first|rfl|(simp[aJ.c,ah.c,ag,VY] <;>repeat' constructor))
   simp(disch:=omega) [aV,hp,h2,VY]
 ·refine ao (HM m hw hk) ?_ (ha:=by first|rfl|(simp[aJ.c,VY] <;>repeat' constructor))
  simp(disch:=omega) [fO,h1,VY]
  refine ao (cZ m (bM m) hw hx) ?_ (ha:=by first|rfl|(simp[aJ.c,My hk,av,bD,fy,aZ,aH,hU,aK,bA,ag,show bJ []= []from rfl,show eK []= []from rfl,show iw []= []from rfl,VY] <;>repeat' constructor))
  simp(disch:=omega) [h1,VY]
  refine an (fun h2=> ?_) (fun h2=> ?_)
  case refine_2=>simp(disch:=omega) [h1,h2,aV,VY]
  simp(disch:=omega) [h1,h2,VY]
  cases hp:aA l m
  ·refine ao ((bK l [] m hw h1 (by simp)).re (c4 hp)) ?_ (ha:=by first|rfl|(simp[aJ.c,ah.c,ag,VY] <;>repeat' constructor))
   simp(disch:=omega) [aV,hp,h2,VY]
  ·refine ao ((bK l [] m hw h1 (by simp)).re (bU hp)) ?_ (ha:=by first|rfl|(simp[aJ.c,ah.c,ag,VY] <;>repeat' constructor))
   simp(disch:=omega) [aV,hp,h2,VY]
end Go.Eng.F
namespace Go.Eng.F
open Go.Eng.U (Kq d7 dD I3 sH Th il I7 Jg)
def bp.tv (x:bp):Tv:= .r [.i x.view, .i x.height,E1 x.block, .i x.who,E1 x.tag]
theorem bp.enc (x:bp):enc I3 x.tv=x.c:=by simp only[bp.tv,fk,cB,di,fe,fX,jU,ig,eX,hC,bp.c,List.cons_append,List.nil_append,List.append_assoc]
theorem bp.ex {v:Tv} (h:aR I3 v):∃x:bp,v=x.tv:=by
 obtain⟨vs,rfl,h⟩:=h.st
 obtain⟨v0,_,rfl,h0,h⟩:=h.step
 obtain⟨v1,_,rfl,h1,h⟩:=h.step
 obtain⟨v2,_,rfl,h2,h⟩:=h.step
 obtain⟨v3,_,rfl,h3,h⟩:=h.step
 obtain⟨v4,_,rfl,h4,h⟩:=h.step
 obtain rfl:=h.fin
 obtain⟨n0,rfl,_⟩:=h0.int
 obtain⟨n1,rfl,_⟩:=h1.int
 obtain⟨n2,rfl⟩:=ib h2
 obtain⟨n3,rfl,_⟩:=h3.int
 obtain⟨n4,rfl⟩:=ib h4
 exact⟨⟨n0,n1,n2,n3,n4⟩,rfl⟩
theorem bp.of {x:bp} (h:aR I3 x.tv) (hw:wt x.tv≤1048576):x.wf:=by
 simp only[bp.tv,hK,dk]at h
 simp only[bp.tv,wt,Bk]at hw
 obtain⟨h0,h1,h2,h3,h4,_⟩:=h
 exact⟨eg (ok_int.1 h0),eg (ok_int.1 h1),vL (by omega),eg (ok_int.1 h3),vL (by omega)⟩
def aY.tv (x:aY):Tv:= .r [.i x.height, .i x.n, .i x.idx,E1 x.tx,zK x.path]
theorem aY.enc (x:aY):enc I7 x.tv=x.c:=by simp only[aY.tv,fk,cB,di,fe,fX,jU,ig,eX,hC,aY.c,List.cons_append,List.nil_append,List.append_assoc]
theorem aY.ex {v:Tv} (h:aR I7 v):∃x:aY,v=x.tv:=by
 obtain⟨vs,rfl,h⟩:=h.st
 obtain⟨v0,_,rfl,h0,h⟩:=h.step
 obtain⟨v1,_,rfl,h1,h⟩:=h.step
 obtain⟨v2,_,rfl,h2,h⟩:=h.step
 obtain⟨v3,_,rfl,h3,h⟩:=h.step
 obtain⟨v4,_,rfl,h4,h⟩:=h.step
 obtain rfl:=h.fin
 obtain⟨n0,rfl,_⟩:=h0.int
 obtain⟨n1,rfl,_⟩:=h1.int
 obtain⟨n2,rfl,_⟩:=h2.int
 obtain⟨n3,rfl⟩:=ib h3
 obtain⟨n4,rfl⟩:=HV h4
 exact⟨⟨n0,n1,n2,n3,n4⟩,rfl⟩
theorem aY.of {x:aY} (h:aR I7 x.tv) (hw:wt x.tv≤1048576):x.wc:=by
 simp only[aY.tv,hK,dk]at h
 simp only[aY.tv,wt,Bk]at hw
 obtain⟨h0,h1,h2,h3,h4,_⟩:=h
 exact⟨eg (ok_int.1 h0),eg (ok_int.1 h1),eg (ok_int.1 h2),vL (by omega),K3 (by omega)⟩
def aJ.tv (m:aJ):Tv:= .r [.i m.kind,m.vote.tv,m.qc.tv,m.head.tv,m.block.tv,m.tc.tv,m.proof.tv,m.incl.tv]
theorem aJ.enc (m:aJ):enc Jg m.tv=m.c:=by simp only[aJ.tv,fk,cB,di,fe,bp.enc,Qc.enc,Head.enc,Block.enc,Tc.enc,Proof.enc,aY.enc,aJ.c,bp.c,Qc.c,Head.c,Block.c,Tc.c,Proof.c,aY.c,List.cons_append,List.nil_append,List.append_assoc,List.append_nil]
theorem aJ.ex {v:Tv} (h:aR Jg v):∃m:aJ,v=m.tv:=by
 obtain⟨vs,rfl,h⟩:=h.st
 obtain⟨v0,_,rfl,h0,h⟩:=h.step
 obtain⟨v1,_,rfl,h1,h⟩:=h.step
 obtain⟨v2,_,rfl,h2,h⟩:=h.step
 obtain⟨v3,_,rfl,h3,h⟩:=h.step
 obtain⟨v4,_,rfl,h4,h⟩:=h.step
 obtain⟨v5,_,rfl,h5,h⟩:=h.step
 obtain⟨v6,_,rfl,h6,h⟩:=h.step
 obtain⟨v7,_,rfl,h7,h⟩:=h.step
 obtain rfl:=h.fin
 obtain⟨n0,rfl,_⟩:=h0.int
 obtain⟨n1,rfl⟩:=bp.ex h1
 obtain⟨n2,rfl⟩:=Qc.ex h2
 obtain⟨n3,rfl⟩:=Head.ex h3
 obtain⟨n4,rfl⟩:=Block.ex h4
 obtain⟨n5,rfl⟩:=Tc.ex h5
 obtain⟨n6,rfl⟩:=Proof.ex h6
 obtain⟨n7,rfl⟩:=aY.ex h7
 exact⟨⟨n0,n1,n2,n3,n4,n5,n6,n7⟩,rfl⟩
theorem aJ.of {m:aJ} (h:aR Jg m.tv) (hw:wt m.tv≤1048576):m.wc:=by
 simp only[aJ.tv,hK,dk]at h
 simp only[aJ.tv,wt,Bk]at hw
 obtain⟨h0,h1,h2,h3,h4,h5,h6,h7,_⟩:=h
 have hb:wt m.block.tv=wt m.block.head.tv+(wt (zK m.block.txs)+0):=by simp only[Block.tv,wt,Bk]
 have hi:wt m.incl.tv=0+(0+(0+(wt (E1 m.incl.tx)+(wt (zK m.incl.path)+0)))):=by simp only[aY.tv,wt,Bk]
 refine⟨eg (ok_int.1 h0),bp.of h1 (by omega),Qc.of h2 (by omega),Head.of h3 (by omega),⟨Block.of h4 (by omega),fun t ht=> ?_⟩,Tc.of h5 (by omega),Proof.US h6 (by omega),aY.of h7 (by omega),?_⟩
 ·have:=(NQ m.block.txs).2 t ht
  omega
 ·rw[OO]at hi
  omega
end Go.Eng.F
namespace Go.Eng.F
open Go.Eng.U (d7 dD Jg)
def dv (m:aJ):UInt8:=UInt8.ofNat m.kind.toNat
theorem i0 {l:ah} {m:aJ} (h:aV l m=true):aA l m=true:=by
 simp only[aV,Bool.and_eq_true]at h
 exact h.1
theorem DK {l:ah} {m:aJ} (h:aA l m=true):IntKind.u8.wrap m.kind=((dv m).toNat:Int):=by
 have h1:=g9 h
 obtain⟨k,hk⟩:∃k:Nat,m.kind=(k:Int):=⟨m.kind.toNat,by omega⟩
 unfold dv
 rw[hk]
 exact Uj (by omega)
abbrev vC:Nat:=52
def vu:AF:=⟨2,5,[.tmp 4, .tmp 5],(.seq (.ops [.i (.lbox 2 (.s 0)), .i (.lbox 3 (.s 1)), .i (.mov 4 (.c (.val false [.nils]))), .i (.mov 5 (qb false))]) (.seq (.seq (.ops [ql 6 2 2 5 true,ql 7 3 3 45 true, .i (.call 9 58 false [(.s 6),(.s 7)]), .i (.not 9 (.s 8))]) (.cond (.s 9) (.seq (.ops [.i (.mov 4 (.c (.val false [.nils]))), .i (.mov 5 (qb false))]) .ret) .skip)) (.seq (.ops [ql 10 3 3 45 true,ql 11 2 2 5 true,qf 12 3 0,ql 13 3 12 1 false, .i (.cvi 14 .u8 (.s 13)), .i (.bsl 15 5 1 1 [.int .u8 0] [(0,1,(.s 14))]), .i (.call 17 131 false [(.s 10),(.s 11),(.s 15)]), .i (.ext 17 (.s 16) 0), .i (.ext 18 (.s 16) 1),qm 4 17,qm 5 18]) .ret)))⟩
theorem Fi:cd vC=some vu:=by kernel_rfl
theorem qW (l:ah) (m:aJ) (hw:m.wc):VC cd vC (aD [(true,l.c),(true,m.c)]) (fun rs _=>rs=bz (aV l m) (dv m::aX m)):=by
 have e0: [[D.int .u8 ((dv m).toNat:Int)]]=bytes [dv m]:=rfl
 refine aa Fi rfl ?_
 simp(disch:=omega) [vu,ah.c,aJ.c,VY]
 refine ao (F8 l m hw) ?_ (ha:=by first|rfl|(simp[ah.c,aJ.c,VY] <;>repeat' constructor))
 simp(disch:=omega) [VY]
 refine an (fun h1=> ?_) (fun h1=> ?_)
 case refine_2=>simp(disch:=omega) [h1,bz,VY]
 have hp:=i0 h1
 simp(disch:=omega) [h1,DK hp,e0,VY]
 refine ao ((qS l [dv m] m hw (by simp)).re (bU hp)) ?_ (ha:=by first|rfl|(simp[ah.c,aJ.c,VY] <;>repeat' constructor))
 simp(disch:=omega) [h1,bz,VY]
abbrev kl:Nat:=133
def uX:AF:=⟨2,5,[.tmp 4, .tmp 5],(.seq (.ops [.i (.lbox 2 (.s 0)), .i (.lbox 3 (.s 1)), .i (.mov 4 (.c (.val false [.nils]))), .i (.mov 5 (qb false))]) (.seq (.seq (.ops [ql 6 2 2 5 true,ql 7 3 3 45 true, .i (.call 9 159 false [(.s 6),(.s 7)]), .i (.not 9 (.s 8))]) (.cond (.s 9) (.seq (.ops [.i (.mov 4 (.c (.val false [.nils]))), .i (.mov 5 (qb false))]) .ret) .skip)) (.seq (.ops [ql 10 2 2 5 true,qf 11 3 0,ql 12 3 11 1 false, .i (.cvi 13 .u8 (.s 12)), .i (.bsl 14 5 1 1 [.int .u8 0] [(0,1,(.s 13))]),ql 15 3 3 45 true, .i (.call 17 183 false [(.s 10),(.s 14),(.s 15)]), .i (.ext 17 (.s 16) 0), .i (.ext 18 (.s 16) 1),qm 4 17,qm 5 18]) .ret)))⟩
theorem Fv:cd kl=some uX:=by kernel_rfl
theorem CD (l:ah) (m:aJ) (hw:m.wc):VC cd kl (aD [(true,l.c),(true,m.c)]) (fun rs _=>rs=bz (aV l m) (dv m::aX m)):=by
 have e0: [[D.int .u8 ((dv m).toNat:Int)]]=bytes [dv m]:=rfl
 refine aa Fv rfl ?_
 simp(disch:=omega) [uX,ah.c,aJ.c,VY]
 refine ao (E6 l m hw) ?_ (ha:=by first|rfl|(simp[ah.c,aJ.c,VY] <;>repeat' constructor))
 simp(disch:=omega) [VY]
 refine an (fun h1=> ?_) (fun h1=> ?_)
 case refine_2=>simp(disch:=omega) [h1,bz,VY]
 have hp:=i0 h1
 have hk:cO m.kind 1 7=true:=by
  have:=g9 hp
  simp only[cO,decide_eq_true_eq]
  omega
 simp(disch:=omega) [h1,DK hp,e0,VY]
 refine ao ((bK l [dv m] m hw hk (by simp)).re (bU hp)) ?_ (ha:=by first|rfl|(simp[ah.c,aJ.c,VY] <;>repeat' constructor))
 simp(disch:=omega) [h1,bz,VY]
def gd (l:ah) (m:aJ):Int:=if aV l m then((aX m).length:Int)+1 else 0
abbrev se:Nat:=46
def sS:AF:=⟨2,4,[.tmp 4],(.seq (.ops [.i (.lbox 2 (.s 0)), .i (.lbox 3 (.s 1)), .i (.mov 4 (qi 0))]) (.seq (.ops [ql 8 2 2 5 true,ql 9 3 3 45 true, .i (.call 11 52 false [(.s 8),(.s 9)]),qm 7 10, .i (.ext 11 (.s 7) 0), .i (.ext 12 (.s 7) 1),qm 5 11,qm 6 12]) (.seq (.ops [qm 13 5,qn 14 13,qm 4 14]) .ret)))⟩
theorem Dg:cd se=some sS:=by kernel_rfl
theorem AL (l:ah) (m:aJ) (hw:m.wc):VC cd se (aD [(true,l.c),(true,m.c)]) (fun rs _=>rs=it (gd l m)):=by
 refine aa Dg rfl ?_
 simp(disch:=omega) [sS,ah.c,aJ.c,VY]
 cases h1:aV l m with
 |false=>
  refine ao ((qW l m hw).re (c4 h1)) ?_ (ha:=by first|rfl|(simp[ah.c,aJ.c,VY] <;>repeat' constructor))
  simp(disch:=omega) [gd,h1,VY]
 |true=>
  refine ao ((qW l m hw).re (bU h1)) ?_ (ha:=by first|rfl|(simp[ah.c,aJ.c,VY] <;>repeat' constructor))
  simp(disch:=omega) [gd,h1,aj,VY]
theorem Gt {l:ah} {m:aJ} (h:aA l m=true):(aX m).length≤20000:=by
 unfold aA at h
 unfold aX
 split at h
 ·rename_i g;rw[if_pos g];have:=Q3 (B6 h);omega
 split at h
 ·rename_i g1 g;rw[if_neg g1,if_pos g];have:=Hm (iJ h);omega
 split at h
 ·rename_i g1 g2 g;rw[if_neg g1,if_neg g2,if_pos g];have:=gG (dU h);omega
 split at h
 ·rename_i g1 g2 g3 g
  rw[if_neg g1,if_neg g2,if_neg g3,if_pos g]
  have k1:=gG (dU (iH h))
  have k2:=qj h
  have k3:=mz (rG h)
  have k4:=cE (n:=m.block.txs.length) (by omega)
  simp only[ep]at k3
  simp only[jm,List.length_append]
  omega
 split at h
 ·rename_i g1 g2 g3 g4 g
  rw[if_neg g1,if_neg g2,if_neg g3,if_neg g4,if_pos g]
  obtain⟨k1,k2,k3⟩:=CN h
  have k4:=tO k3
  have k5:=az k2
  have k6:=cE (n:=m.tc.entries.length) (by omega)
  simp only[gY]at k4
  simp only[OW,List.length_append]
  omega
 split at h
 ·rename_i g1 g2 g3 g4 g5 g
  rw[if_neg g1,if_neg g2,if_neg g3,if_neg g4,if_neg g5,if_pos g]
  obtain⟨k1,k2,k3⟩:=qp h
  have k4:=mj (fun e he=>dU (k3 e he))
  have k5:=Hm (iJ k2)
  have k6:=cE (n:=m.proof.heads.length) (by omega)
  simp only[eD]at k4
  simp only[iU,List.length_append]
  omega
 split at h
 ·rename_i g1 g2 g3 g4 g5 g6 g
  rw[if_neg g1,if_neg g2,if_neg g3,if_neg g4,if_neg g5,if_neg g6]
  obtain⟨k1,k2,k3,k4,k5,k6⟩:=wB h
  have v1:=az k1
  have v2:=az k2
  have v3:=az k3
  have v4:=tL (x:=m.incl.tx) (by omega)
  have v5:=iN k6 (Nat.le_refl _)
  rw[List.take_length]at v5
  simp only[pH,List.length_append]
  omega
 ·cases h
def KS (l:ah) (m:aJ):Bytes:=if aV l m then dv m::aX m else []
theorem Jh (l:ah) (m:aJ):(KS l m).length≤20001:=by
 unfold KS
 split
 ·rename_i h
  have:=Gt (i0 h)
  simp only[List.length_cons]
  omega
 ·simp
end Go.Eng.F
namespace Go.Eng.F
def gv:Bytes→Nat→Nat→Nat×Nat×Nat
 | [],_,_=>(0,0,1)
 |c::r,k,n=>
  if(0 < k∧c.toNat=0)∨(k=8∧128≤c.toNat)then(0,0,2)
  else if c.toNat < 128 then(if n+c.toNat * 128 ^ k≤1152921504606846975 then(n+c.toNat * 128 ^ k,k+1,0)else(0,0,2))
  else gv r (k+1) (n+(c.toNat - 128) * 128 ^ k)
structure Rd where
 at_:Nat
 er:Nat
def getVar (b:Bytes) (a:Nat):Nat×Rd:=
 let x:=gv (b.drop a) 0 0
 if x.2.2=0 then(x.1,⟨a+x.2.1,0⟩)else(0,⟨0,x.2.2⟩)
def d8 (b:Bytes) (a n:Nat):Bytes×Rd:=if a+n≤b.length then((b.drop a).take n,⟨a+n,0⟩)else([],⟨0,1⟩)
def gT (b:Bytes) (a m:Nat):Bytes×Rd:=
 let x:=getVar b a
 if x.2.er≠0 then([],⟨0,x.2.er⟩)else if m < x.1 then([],⟨0,3⟩)else d8 b x.2.at_ x.1
def cp (b:Bytes) (a:Nat) (n:Int):Bytes×Rd:=
 let x:=d8 b a (ye n).toNat
 if x.2.er≠0 then([],⟨0,x.2.er⟩)else if eA x.1 n then x else([],⟨0,4⟩)
def br (b:Bytes) (r:Rd):Nat×Rd:=if r.er=0 then getVar b r.at_ else(0,r)
def bQ (r:Rd) (bad:Bool) (c:Nat):Rd:=if r.er=0∧bad=true then⟨r.at_,c⟩else r
def bd (b:Bytes) (r:Rd) (n:Int) (c:Nat):Nat×Rd:=((br b r).1,bQ (br b r).2 (decide (n≤((br b r).1:Int))) c)
def bI (b:Bytes) (r:Rd) (n:Nat):Bytes×Rd:=if r.er=0 then d8 b r.at_ n else([],r)
def dL (b:Bytes) (r:Rd) (m:Nat):Bytes×Rd:=if r.er=0 then gT b r.at_ m else([],r)
def Rd.wf (b:Bytes) (r:Rd):Prop:=r.at_≤b.length∧r.er≤9
theorem Rx:∀(s:Bytes) (k n:Nat),k≤8→(gv s k n).2.1≤k+s.length∧(gv s k n).2.2≤2∧(gv s k n).1≤1152921504606846975∧((gv s k n).2.2=0→k < (gv s k n).2.1)
 | [],k,n,h=>by simp[gv]
 |c::r,k,n,h=>by
  rw[gv]
  split
  ·simp
  ·rename_i h1
   split
   ·split
    ·rename_i h3;simp only[List.length_cons];omega
    ·simp
   ·rename_i h2
    have:=Rx r (k+1) (n+(c.toNat - 128) * 128 ^ k) (by omega)
    simp only[List.length_cons]
    omega
theorem zr {b:Bytes} {a:Nat} (h:a≤b.length):(getVar b a).2.wf b∧(getVar b a).1≤1152921504606846975:=by
 have h1:=Rx (b.drop a) 0 0 (by omega)
 simp only[List.length_drop]at h1
 simp only[getVar]
 split
 ·exact⟨⟨by simp only;omega,by simp⟩,h1.2.2.1⟩
 ·exact⟨⟨by simp,by simp only;omega⟩,by simp⟩
theorem tI (b:Bytes) (a n:Nat):(d8 b a n).2.wf b∧(d8 b a n).1.length≤n∧(d8 b a n).1.length≤b.length:=by
 unfold d8
 split
 ·exact⟨⟨by simp only;omega,by simp⟩,by simp;omega,by simp;omega⟩
 ·exact⟨⟨by simp,by simp⟩,by simp,by simp⟩
theorem K2 {b:Bytes} {a m:Nat} (h:a≤b.length):(gT b a m).2.wf b∧(gT b a m).1.length≤m∧(gT b a m).1.length≤b.length:=by
 have h1:=zr h
 simp only[gT]
 split
 ·exact⟨⟨by simp,h1.1.2⟩,by simp,by simp⟩
 ·split
  ·exact⟨⟨by simp,by simp⟩,by simp,by simp⟩
  ·have:=tI b (getVar b a).2.at_ (getVar b a).1
   exact⟨this.1,by omega,this.2.2⟩
theorem Lk (b:Bytes) (a:Nat) (n:Int):(cp b a n).2.wf b∧(cp b a n).1.length≤b.length:=by
 have h1:=tI b a (ye n).toNat
 simp only[cp]
 split
 ·exact⟨⟨by simp,h1.1.2⟩,by simp⟩
 ·split
  ·exact⟨h1.1,h1.2.2⟩
  ·exact⟨⟨by simp,by simp⟩,by simp⟩
theorem dI {b:Bytes} {r:Rd} (h:r.wf b):(br b r).2.wf b∧(br b r).1≤1152921504606846975:=by
 unfold br
 split
 ·exact zr h.1
 ·exact⟨h,by simp⟩
theorem eT {b:Bytes} {r:Rd} (h:r.wf b) {bad:Bool} {c:Nat} (hc:c≤9):(bQ r bad c).wf b:=by
 unfold bQ
 split
 ·exact⟨h.1,hc⟩
 ·exact h
theorem fF {b:Bytes} {r:Rd} (h:r.wf b) {n:Int} {c:Nat} (hc:c≤9):(bd b r n c).2.wf b∧(bd b r n c).1≤1152921504606846975:=⟨eT (dI h).1 hc,(dI h).2⟩
theorem fc {b:Bytes} {r:Rd} (h:r.wf b) (n:Nat):(bI b r n).2.wf b∧(bI b r n).1.length≤n∧(bI b r n).1.length≤b.length:=by
 unfold bI
 split
 ·exact tI b _ n
 ·exact⟨h,by simp,by simp⟩
theorem xJ {b:Bytes} {r:Rd} (h:r.wf b) (m:Nat):(dL b r m).2.wf b∧(dL b r m).1.length≤m∧(dL b r m).1.length≤b.length:=by
 unfold dL
 split
 ·exact K2 h.1
 ·exact⟨h,by simp,by simp⟩
def Q0 (x:Nat×Rd):List (Bool×List E):= [(false,[.p (.int .i64 (x.1:Int))]),(false,[.p (.int .i64 (x.2.at_:Int))]),(false,[.p (.int .i64 (x.2.er:Int))])]
def Mz (x:Bytes×Rd):List (Bool×List E):= [(false,[.o true (some (5,1)) (bytes x.1)]),(false,[.p (.int .i64 (x.2.at_:Int))]),(false,[.p (.int .i64 (x.2.er:Int))])]
theorem Qu {b:Bytes} {a k n:Nat} (h:a+k < b.length):gv (b.drop (a+k)) k n=(if(0 < k∧b[a+k].toNat=0)∨(k=8∧128≤b[a+k].toNat)then(0,0,2)
 else if b[a+k].toNat < 128 then(if n+b[a+k].toNat * 128 ^ k≤1152921504606846975 then(n+b[a+k].toNat * 128 ^ k,k+1,0)else(0,0,2))
 else gv (b.drop (a+k+1)) (k+1) (n+(b[a+k].toNat - 128) * 128 ^ k)):=by
 rw[List.drop_eq_getElem_cons h,gv]
theorem S5 {b:Bytes} {a k n:Nat} (h:b.length≤a+k):gv (b.drop (a+k)) k n=(0,0,1):=by
 rw[List.drop_eq_nil_of_le h,gv]
end Go.Eng.F
namespace Go.Eng.F
def fv {α:Type} (f:Rd→α×Rd):Nat→Rd→List α×Rd
 |0,r=>([],r)
 |k+1,r=>((f r).1::(fv f k (f r).2).1,(fv f k (f r).2).2)
def cI {α:Type} (f:Rd→α×Rd):Nat→Rd→List α×Rd
 |0,r=>([],r)
 |k+1,r=>if r.er=0 then((f r).1::(cI f k (f r).2).1,(cI f k (f r).2).2)else([],r)
theorem Mp {α:Type} {b:Bytes} {f:Rd→α×Rd} (h:∀r,r.wf b→(f r).2.wf b):∀(k:Nat) (r:Rd),r.wf b→(fv f k r).2.wf b
 |0,r,hr=>hr
 |k+1,r,hr=>Mp h k _ (h r hr)
theorem xz {α:Type} {f:Rd→α×Rd}:∀(k:Nat) (r:Rd),(fv f k r).1.length=k
 |0,r=>rfl
 |k+1,r=>by simp only[fv,List.length_cons,xz k]
theorem J5 {α:Type} {b:Bytes} {f:Rd→α×Rd} {p:α→Prop} (h:∀r,r.wf b→(f r).2.wf b∧p (f r).1):∀(k:Nat) (r:Rd),r.wf b→∀x∈(fv f k r).1,p x
 |0,r,hr,x,hx=>by simp[fv]at hx
 |k+1,r,hr,x,hx=>by
  simp only[fv]at hx
  rcases List.mem_cons.1 hx with rfl|hx
  ·exact(h r hr).2
  ·exact J5 h k _ (h r hr).1 x hx
theorem yV {α:Type} {b:Bytes} {f:Rd→α×Rd} {p:α→Prop} (h:∀r,r.wf b→(f r).2.wf b∧p (f r).1):∀(k:Nat) (r:Rd),r.wf b→∀x∈(cI f k r).1,p x
 |0,r,hr,x,hx=>by simp[cI]at hx
 |k+1,r,hr,x,hx=>by
  rw[cI]at hx
  split at hx
  ·rcases List.mem_cons.1 hx with rfl|hx
   ·exact(h r hr).2
   ·exact yV h k _ (h r hr).1 x hx
  ·cases hx
def gW (b:Bytes) (l:ah) (r:Rd):bp×Rd:=
 let v:=br b r
 let h:=br b v.2
 let k:=bI b h.2 32
 let w:=bd b k.2 l.n 5
 let t:=bI b w.2 32
 (⟨v.1,h.1,k.1,w.1,t.1⟩,t.2)
def wG (b:Bytes) (l:ah) (r:Rd):Qc×Rd:=
 let v:=br b r
 let h:=br b v.2
 let k:=bI b h.2 32
 if k.2.er=0 then
  let x:=cp b k.2.at_ l.n
  let t:=fv (fun r=>bI b r 32) (aT x.1).length x.2
  (⟨v.1,h.1,k.1,x.1,t.1⟩,t.2)
 else(⟨v.1,h.1,k.1,[],[]⟩,k.2)
def dr (b:Bytes) (l:ah) (r:Rd):Head×Rd:=
 let v:=br b r
 let h:=br b v.2
 let p:=bd b (bQ h.2 (decide (h.1=0)) 5) l.n 5
 let pa:=bI b p.2 32
 let ro:=bI b pa.2 32
 let q:=wG b l ro.2
 (⟨v.1,h.1,p.1,pa.1,ro.1,q.1⟩,bQ q.2 (!fits ⟨v.1,h.1,p.1,pa.1,ro.1,q.1⟩) 6)
def dZ (b:Bytes) (l:ah) (r:Rd):Block×Rd:=
 let h:=dr b l r
 let n:=bd b h.2 (l.txs+1) 3
 let x:=cI (fun r=>dL b r l.tx.toNat) n.1 n.2
 (⟨h.1,x.1⟩,bQ x.2 (decide (h.1.root≠a9 x.1)) 7)
def gw (b:Bytes) (l:ah) (view:Int):Nat→Int→Rd→List Entry×Rd
 |0,_,r=>([],r)
 |k+1,bf,r=>if r.er=0 then
   let w:=bd b r l.n 5
   let h:=bd b (bQ w.2 (decide ((w.1:Int)≤bf)) 6) view 6
   let t:=bI b h.2 32
   (⟨w.1,h.1,t.1⟩::(gw b l view k w.1 t.2).1,(gw b l view k w.1 t.2).2)
  else([],r)
def Hr (b:Bytes) (l:ah) (r:Rd):Tc×Rd:=
 let v:=br b r
 let n:=bd b v.2 (l.n+1) 3
 let e:=gw b l v.1 n.1 (-1) n.2
 (⟨v.1,e.1⟩,e.2)
def dT (b:Bytes) (l:ah) (r:Rd):Proof×Rd:=
 let n:=br b r
 let h:=cI (dr b l) n.1 (bQ (bQ n.2 (decide (n.1 < 3)) 5) (decide (l.heads < (n.1:Int))) 3)
 let q:=wG b l h.2
 (⟨h.1,q.1⟩,bQ q.2 (!sj ⟨h.1,q.1⟩) 6)
def cm (b:Bytes) (l:ah) (r:Rd):(Nat×Nat×Nat×Bytes)×Rd:=
 let h:=br b r
 let n:=br b h.2
 let a:=bd b (bQ (bQ n.2 (decide (n.1=0)) 5) (decide (l.txs < (n.1:Int))) 3) n.1 5
 let t:=dL b a.2 l.tx.toNat
 ((h.1,n.1,a.1,t.1),t.2)
def At (b:Bytes) (a:Nat) (s:Bytes):Prop:=∃t,b.drop a=s++t
theorem At.app {b:Bytes} {a:Nat} {s t:Bytes} (h:At b a (s++t)):At b a s∧At b (a+s.length) t:=by
 obtain⟨u,h⟩:=h
 refine⟨⟨t++u,by rw[h,List.append_assoc]⟩,u,?_⟩
 rw[←List.drop_drop,h,List.append_assoc,List.drop_left]
theorem At.len {b:Bytes} {a:Nat} {s:Bytes} (h:At b a s):a+s.length≤b.length∨s= []:=by
 obtain⟨u,h⟩:=h
 have h2:=congrArg List.length h
 simp only[List.length_drop,List.length_append]at h2
 by_cases hs:s= []
 ·exact .inr hs
 ·have:=List.length_pos_iff.2 hs
  exact .inl (by omega)
theorem At.take {b:Bytes} {a:Nat} {s:Bytes} (h:At b a s):(b.drop a).take s.length=s:=by
 obtain⟨u,h⟩:=h
 rw[h,List.take_left]
theorem Sw {n:Nat} (h:n < 256):(UInt8.ofNat n).toNat=n:=by simp[UInt8.toNat_ofNat'];omega
end Go.Eng.F
namespace Go.Eng.F
def bL (b:Bytes) (r:Rd):List E0:= [.p (.sl (bytes b)), .p (.int .i64 (r.at_:Int)), .p (.int .i64 (r.er:Int))]
theorem ie (b:Bytes) (a n:Nat) (ha:a≤b.length) (hb:b.length≤1073741824) (hn:n≤2000000000000000000):VC cd kz (aD [(false,[.sl (bytes b)]),(false,[.int .i64 (a:Int)]),(false,[.int .i64 (n:Int)])]) (fun rs _=>rs=Mz (d8 b a n)):=by
 by_cases h:a+n≤b.length
 ·refine(ph b a n h hb).mono fun rs _ q=> ?_
  rw[q,Mz,d8,if_pos h]
  rfl
 ·refine VC.pq ?_
  have e1:cO (a:Int) 0 (b.length:Int)=true:=by simp[cO];omega
  have e2:cO (n:Int) 0 ((b.length:Int) - (a:Int))=false:=by simp[cO];omega
  refine aa u7 rfl ?_
  simp(disch:=omega) [kx,VY]
  refine ae (aG _ _ _) rfl rfl ?_
  simp(disch:=omega) [e1,VY]
  refine ae (aG _ _ _) rfl rfl ?_
  simp(disch:=omega) [e2,aW,bc,bn,ag,Mz,d8,h,VY]
theorem R5 (c:UInt8):aE .and .u8 (c.toNat:Int) 127=((c.toNat % 128:Nat):Int):=by
 have h:=c.toNat_lt
 show IntKind.u8.wrap ((BitVec.ofInt 8 (c.toNat:Int) &&& BitVec.ofInt 8 127).toNat:Int)=_
 rw[BitVec.toNat_and,show BitVec.ofInt 8 (c.toNat:Int)=BitVec.ofNat 8 c.toNat from rfl,BitVec.toNat_ofNat,Nat.mod_eq_of_lt (by omega),show(BitVec.ofInt 8 127).toNat=2 ^ 7 - 1 from rfl,Nat.and_two_pow_sub_one_eq_mod]
 show(((c.toNat % 128:Nat):Int)) % 256=_
 omega
theorem KY (k:Nat):(128:Nat) ^ k=2 ^ (7 * k):=by rw[Nat.pow_mul]
theorem U8 {n c k:Nat} (hn:n < 128 ^ k) (hc:c < 128) (hk:k≤8):aE .or .i64 (n:Int) ((c * 128 ^ k:Nat):Int)=((n+c * 128 ^ k:Nat):Int)∧n+c * 128 ^ k < 128 ^ (k+1)∧c * 128 ^ k < 9223372036854775808∧n+c * 128 ^ k < 9223372036854775808:=by
 have h1:n+c * 128 ^ k < 128 ^ (k+1):=by
  have h2:c * 128 ^ k≤127 * 128 ^ k:=Nat.mul_le_mul_right _ (by omega)
  rw[Nat.pow_succ]
  omega
 have h3:128 ^ (k+1)≤128 ^ 9:=Nat.pow_le_pow_right (by omega) (by omega)
 have h4:(128:Nat) ^ 9=9223372036854775808:=by decide
 refine⟨?_,h1,by omega,by omega⟩
 show IntKind.i64.wrap ((BitVec.ofInt 64 (n:Int)|||BitVec.ofInt 64 ((c * 128 ^ k:Nat):Int)).toNat:Int)=_
 rw[BitVec.toNat_or,show BitVec.ofInt 64 (n:Int)=BitVec.ofNat 64 n from rfl,show BitVec.ofInt 64 ((c * 128 ^ k:Nat):Int)=BitVec.ofNat 64 (c * 128 ^ k)from rfl,BitVec.toNat_ofNat,BitVec.toNat_ofNat,Nat.mod_eq_of_lt (by omega),Nat.mod_eq_of_lt (by omega)]
 rw[KY]at hn h1⊢
 rw[Nat.mul_comm c,Nat.or_comm,←Nat.two_pow_add_eq_or_of_lt hn,Nat.add_comm]
 rw[KY,Nat.mul_comm c]at *
 exact xU (by omega) (by omega)
abbrev wj:Nat:=243
def vo:AF:=⟨2,6,[.tmp 4, .tmp 5, .tmp 6],(.seq (.ops [.i (.mov 4 (qi 0)), .i (.mov 5 (qi 0)), .i (.mov 6 (qi 0))]) (.seq (.seq (.ops [qm 10 1,qm 11 0,qn 12 11, .i (.call 14 158 false [(.s 10),(qi 0),(.s 12)]), .i (.not 14 (.s 13))]) (.cond (.s 14) (.seq (.ops [.i (.mov 4 (qi 0)), .i (.mov 5 (qi 0)), .i (.mov 6 (qi 1))]) .ret) .skip)) (.seq (.ops [.i (.mov 7 (qi 0))]) (.seq (.ops [.i (.mov 8 (qi 0))]) (.block 0 (.loop [60,59,58,57,56,55,54,53,52,51,50,49,48,47,46,45,44,43,42,41,40,39,38,37,36,35,34,33,32,31,30,29,28,27,26,25,24,23,22,21,20,19,18,17,16,15,9] (.seq (.block 1 (.seq (.seq (.ops [qm 17 1,qm 18 8,qd 19 .add 17 18,qm 20 0,qn 21 20,qd 22 .geq 19 21]) (.cond (.s 22) (.seq (.ops [.i (.mov 4 (qi 0)), .i (.mov 5 (qi 0)), .i (.mov 6 (qi 1))]) .ret) .skip)) (.seq (.ops [qm 23 0,qm 24 1,qm 25 8,qd 26 .add 24 25, .i (.iad 27 (.s 23) (.s 26) 1), .i (.ldh 28 (.s 27) 1 false),qm 9 28]) (.seq (.seq (.ops [qm 29 8, .i (.bin 30 .gtr (.s 29) (qi 0)),qm 31 30, .g 31 true 33 (.mov 32 (.s 9)), .g 31 true 34 (.bin 33 .eql (.s 32) (.c (.val false [.int .u8 0]))), .i (.pick 34 (.s 31) (.s 33) (qb false)),qm 35 34, .g 35 false 37 (.mov 36 (.s 8)), .g 35 false 38 (.bin 37 .eql (.s 36) (qi 8)), .g 35 false 39 (.mov 38 (.s 37)), .g 38 true 40 (.mov 39 (.s 9)), .g 38 true 41 (.bin 40 .geq (.s 39) (.c (.val false [.int .u8 128]))), .g 35 false 42 (.pick 41 (.s 38) (.s 40) (qb false)), .i (.pick 42 (.s 35) (qb true) (.s 41))]) (.cond (.s 42) (.seq (.ops [.i (.mov 4 (qi 0)), .i (.mov 5 (qi 0)), .i (.mov 6 (qi 2))]) .ret) .skip)) (.seq (.ops [qm 43 7,qm 44 9, .i (.bin 45 .and (.s 44) (.c (.val false [.int .u8 127]))), .i (.cvi 46 .i64 (.s 45)),qm 47 8, .i (.bin 48 .mul (qi 7) (.s 47)),qd 49 .shl 46 48,qd 50 .or 43 49,qm 7 50]) (.seq (.ops [qm 51 9, .i (.bin 52 .lss (.s 51) (.c (.val false [.int .u8 128])))]) (.cond (.s 52) (.seq (.seq (.ops [qm 53 7,qk 55 129 53, .i (.not 55 (.s 54))]) (.cond (.s 55) (.seq (.ops [.i (.mov 4 (qi 0)), .i (.mov 5 (qi 0)), .i (.mov 6 (qi 2))]) .ret) .skip)) (.seq (.ops [qm 56 7,qm 57 1,qm 58 8,qd 59 .add 57 58, .i (.bin 60 .add (.s 59) (qi 1)),qm 4 56,qm 5 60, .i (.mov 6 (qi 0))]) .ret)) .skip))))))) (.ops [qm 15 8, .i (.bin 16 .add (.s 15) (qi 1)),qm 8 16]))))))))⟩
theorem FA:cd wj=some vo:=by kernel_rfl
theorem s9 (b:Bytes) (a:Nat) (ha:a≤b.length) (hb:b.length≤1073741824):VC cd wj (aD [(false,[.sl (bytes b)]),(false,[.int .i64 (a:Int)])]) (fun rs _=>rs=Q0 (getVar b a)):=by
 have e1:cO (a:Int) 0 (b.length:Int)=true:=by simp[cO];omega
 refine aa FA rfl ?_
 simp(disch:=omega) [vo,VY]
 refine ae (aG _ _ _) rfl rfl ?_
 simp(disch:=omega) [e1,VY]
 refine bF (σ:=Nat×Nat) (f1:=_) (es0:=_) (by simp(disch:=omega) [VY];rfl) (by simp(disch:=omega) [VY];rfl) (fun p=> [(8, .val false [.int .i64 (p.1:Int)]),(7, .val false [.int .i64 (p.2:Int)])]) (fun _=> []) (fun p g=>g+(a+p.1)=b.length∧p.1≤8∧p.2 < 128 ^ p.1∧gv (b.drop (a+p.1)) p.1 p.2=gv (b.drop a) 0 0) (0,0) (b.length - a) (by simp(disch:=omega) [VY]) (by simp(disch:=omega) [VY]) ⟨by omega,by omega,by simp,by simp⟩ ?_
 rintro⟨k,n⟩ nx g ⟨h1,h2,h3,h4⟩ P hP
 simp only at h1 h2 h3 h4
 simp(disch:=omega) [VY]
 refine ab (fun h5=> ?_) (fun h5=> ?_)
 ·have e:getVar b a=(0,⟨0,1⟩):=by simp only[getVar,←h4,S5 (show b.length≤a+k by omega)];simp
  simp(disch:=omega) [Q0,e,VY]
 have hi:a+k < b.length:=by omega
 rw[Qu hi]at h4
 have hu:=b[a+k].toNat_lt
 have e6:(0:Int)≤(a:Int)+(k:Int):=by omega
 have e7:((a:Int)+(k:Int)).toNat=a+k:=by omega
 simp(disch:=omega) [e6,e7,bH hi,VY]
 generalize b[a+k]=c at h4 hu⊢
 by_cases hA:(0 < k∧c.toNat=0)∨(k=8∧128≤c.toNat)
 ·have e:getVar b a=(0,⟨0,2⟩):=by
   rw[if_pos hA]at h4
   simp only[getVar,←h4]
   simp
  rcases hA with⟨g1,g2⟩|⟨g3,g4⟩
  ·simp(disch:=omega) [g1,g2,Q0,e,VY]
  ·have g1:0 < k:=by omega
   have g2:¬c.toNat=0:=by omega
   have g4':(128:Int)≤(c.toNat:Int):=by omega
   have g3':(k:Int)=8:=by omega
   simp(disch:=omega) [g1,g2,g3',g4',Q0,e,VY]
 rw[if_neg hA]at h4
 have hcs:(¬0 < k∧¬(k:Int)=8)∨(0 < k∧¬c.toNat=0∧(k:Int)=8∧¬(128:Int)≤(c.toNat:Int))∨(0 < k∧¬c.toNat=0∧¬(k:Int)=8):=by omega
 have f1:¬(7 * (k:Int) < 0):=by omega
 have f2:(7 * (k:Int)).toNat=7 * k:=by omega
 obtain⟨d,hd⟩:∃d:Nat,d=c.toNat % 128:=⟨_,rfl⟩
 have ha127:=R5 c
 rw[←hd]at ha127
 obtain⟨o1,o2,o3,o4⟩:=U8 h3 (show d < 128 by omega) h2
 have hmn:min (7 * k) IntKind.i64.bits=7 * k:=Nat.min_eq_left (by show 7 * k≤64;omega)
 obtain⟨q,hq⟩:∃q,q=d * 128 ^ k:=⟨_,rfl⟩
 obtain⟨m,hm⟩:∃m,m=n+q:=⟨_,rfl⟩
 rw[←hq]at o1 o2 o3 o4
 rw[←hm]at o1 o2 o4
 have tP:(d:Int) * 2 ^ (7 * k)=(q:Int):=by rw[hq,KY];simp
 have tB:(k:Int)=8→(d:Int) * 2 ^ min 56 IntKind.i64.bits=(q:Int):=fun h=>by
  have h8:k=8:=by omega
  rw[←tP,h8]
  rfl
 have tC:(k:Int)=8→(d:Int) * 72057594037927936=(q:Int):=fun h=>by
  have h8:k=8:=by omega
  rw[←tP,h8]
  rfl
 rcases hcs with⟨g1,g3⟩|⟨g1,g2,g3,g4⟩|⟨g1,g2,g3⟩
 case' inl=>simp(disch:=omega) [g1,g3,ha127,f1,f2,hmn,tP,o1,VY]
 case' inr.inl=>simp(disch:=omega) [g1,g2,g3,g4,ha127,tB g3,tC g3,o1,VY]
 case' inr.inr=>simp(disch:=omega) [g1,g2,g3,ha127,f1,f2,hmn,tP,o1,VY]
 all_goals
  refine ab (fun g6=> ?_) (fun g6=> ?_)
  ·have hdc:d=c.toNat:=by omega
   rw[if_pos (by omega),←hdc,←hq,←hm]at h4
   simp(disch:=omega) [VY]
   refine ae (eo _) rfl rfl ?_
   simp(disch:=omega) [VY]
   refine an (fun g7=> ?_) (fun g7=> ?_)
   ·have g8:m≤1152921504606846975:=by have:=c8 g7;omega
    have e:getVar b a=(m,⟨a+k+1,0⟩):=by
     rw[if_pos g8]at h4
     simp only[getVar,←h4]
     simp[Nat.add_assoc]
    first
     |(simp(disch:=omega) [g7,Q0,e,VY];done)
     |(have e9:k=8:=by omega
       subst e9
       simp(disch:=omega) [g7,Q0,e,VY])
   ·have g8:¬m≤1152921504606846975:=by have:=Rn g7;omega
    have e:getVar b a=(0,⟨0,2⟩):=by
     rw[if_neg g8]at h4
     simp only[getVar,←h4]
     simp
    simp(disch:=omega) [g7,Q0,e,VY]
  ·first
    |(exfalso;omega)
    |(have hdc:d=c.toNat - 128:=by omega
      rw[if_neg (by omega),←hdc,←hq,←hm]at h4
      simp(disch:=omega) [VY]
      exact hP (k+1,m) (g - 1) _ _ (by omega) ⟨by simp only;omega,by simp only;omega,o2,h4⟩ (by simp(disch:=omega) [VY]) (by simp(disch:=omega) [VY]))
abbrev pz:Nat:=255
def rY:AF:=⟨3,5,[.tmp 6, .tmp 7, .tmp 8],(.seq (.ops [.i (.mov 6 (.c (.val false [.nils]))), .i (.mov 7 (qi 0)), .i (.mov 8 (qi 0))]) (.seq (.ops [qm 12 0,qm 13 1, .i (.call 15 243 false [(.s 12),(.s 13)]),qm 11 14, .i (.ext 15 (.s 11) 0), .i (.ext 16 (.s 11) 1), .i (.ext 17 (.s 11) 2),qm 9 15,qm 1 16,qm 10 17]) (.seq (.seq (.ops [qm 18 10, .i (.bin 19 .neq (.s 18) (qi 0))]) (.cond (.s 19) (.seq (.ops [qm 20 10, .i (.mov 6 (.c (.val false [.nils]))), .i (.mov 7 (qi 0)),qm 8 20]) .ret) .skip)) (.seq (.seq (.ops [qm 21 9,qm 22 2,qd 23 .gtr 21 22]) (.cond (.s 23) (.seq (.ops [.i (.mov 6 (.c (.val false [.nils]))), .i (.mov 7 (qi 0)), .i (.mov 8 (qi 3))]) .ret) .skip)) (.seq (.ops [qm 24 0,qm 25 1,qm 26 9, .i (.call 28 248 false [(.s 24),(.s 25),(.s 26)]), .i (.ext 28 (.s 27) 0), .i (.ext 29 (.s 27) 1), .i (.ext 30 (.s 27) 2),qm 6 28,qm 7 29,qm 8 30]) .ret)))))⟩
theorem Ds:cd pz=some rY:=by kernel_rfl
theorem Ba (b:Bytes) (a m:Nat) (ha:a≤b.length) (hb:b.length≤1073741824) (hm:m≤1073741824):VC cd pz (aD [(false,[.sl (bytes b)]),(false,[.int .i64 (a:Int)]),(false,[.int .i64 (m:Int)])]) (fun rs _=>rs=Mz (gT b a m)):=by
 refine VC.pq ?_
 have hv:=zr ha
 refine aa Ds rfl ?_
 simp(disch:=omega) [rY,VY]
 refine ae (s9 b a ha hb) rfl rfl ?_
 generalize hx:getVar b a=x at hv
 obtain⟨⟨h1,h2⟩,h3⟩:=hv
 simp(disch:=omega) [Q0,VY]
 by_cases h4:x.2.er=0
 ·simp(disch:=omega) [h4,VY]
  by_cases h5:m < x.1
  ·simp(disch:=omega) [h5,aW,bc,bn,ag,Mz,gT,hx,h4,VY]
  ·simp(disch:=omega) [h5,VY]
   refine ae (ie b x.2.at_ x.1 h1 hb (by omega)) rfl rfl ?_
   simp(disch:=omega) [aW,bc,bn,ag,Mz,gT,hx,h4,h5,VY]
 ·simp(disch:=omega) [h4,aW,bc,bn,ag,Mz,gT,hx,VY]
abbrev rB:Nat:=170
def ss:AF:=⟨3,6,[.tmp 6, .tmp 7, .tmp 8],(.seq (.ops [.i (.mov 6 (.c (.val false [.nils]))), .i (.mov 7 (qi 0)), .i (.mov 8 (qi 0))]) (.seq (.seq (.ops [qm 12 2, .i (.call 14 158 false [(.s 12),(qi 1),(qi 10)]), .i (.not 14 (.s 13))]) (.cond (.s 14) (.seq (.ops [.i (.mov 6 (.c (.val false [.nils]))), .i (.mov 7 (qi 0)), .i (.mov 8 (qi 5))]) .ret) .skip)) (.seq (.ops [qm 16 0,qm 17 1,qm 18 2,qk 20 245 18, .i (.call 21 248 false [(.s 16),(.s 17),(.s 19)]),qm 15 20, .i (.ext 21 (.s 15) 0), .i (.ext 22 (.s 15) 1), .i (.ext 23 (.s 15) 2),qm 9 21,qm 10 22,qm 11 23]) (.seq (.seq (.ops [qm 24 11, .i (.bin 25 .neq (.s 24) (qi 0))]) (.cond (.s 25) (.seq (.ops [qm 26 11, .i (.mov 6 (.c (.val false [.nils]))), .i (.mov 7 (qi 0)),qm 8 26]) .ret) .skip)) (.seq (.seq (.ops [qm 27 9,qm 28 2, .i (.call 30 168 false [(.s 27),(.s 28)]), .i (.not 30 (.s 29))]) (.cond (.s 30) (.seq (.ops [.i (.mov 6 (.c (.val false [.nils]))), .i (.mov 7 (qi 0)), .i (.mov 8 (qi 4))]) .ret) .skip)) (.seq (.ops [qm 31 9,qm 32 10,qm 6 31,qm 7 32, .i (.mov 8 (qi 0))]) .ret))))))⟩
theorem D2:cd rB=some ss:=by kernel_rfl
theorem AD (b:Bytes) (a:Nat) (n:Int) (hn:1≤n∧n≤10) (ha:a≤b.length) (hb:b.length≤1073741824):VC cd rB (aD [(false,[.sl (bytes b)]),(false,[.int .i64 (a:Int)]),(false,[.int .i64 n])]) (fun rs _=>rs=Mz (cp b a n)):=by
 refine VC.pq ?_
 have e1:cO n 1 10=true:=by simp[cO];omega
 have e2:((ye n).toNat:Int)=ye n:=by have:=xc hn;unfold ye at *;split <;>omega
 have e3:(ye n).toNat≤2:=by have:=xc hn;omega
 have hv:=tI b a (ye n).toNat
 refine aa D2 rfl ?_
 simp(disch:=omega) [ss,VY]
 refine ae (aG _ _ _) rfl rfl ?_
 simp(disch:=omega) [e1,VY]
 refine ae (ln n (by omega) (by omega)) rfl rfl ?_
 simp(disch:=omega) [VY]
 refine ao (ie b a (ye n).toNat ha hb (by omega)) ?_ (ha:=by first|rfl|(simp[e2,VY] <;>repeat' constructor))
 generalize hx:d8 b a (ye n).toNat=x at hv
 obtain⟨⟨h1,h2⟩,h3,h5⟩:=hv
 simp(disch:=omega) [Mz,VY]
 by_cases h4:x.2.er=0
 ·simp(disch:=omega) [h4,VY]
  refine ao (tl x.1 n (by omega) (by omega)) ?_
  simp(disch:=omega) [h4,VY]
  cases h6:eA x.1 n <;>simp(disch:=omega) [aW,bc,bn,ag,Mz,cp,hx,h4,h6,VY]
 ·simp(disch:=omega) [h4,aW,bc,bn,ag,Mz,cp,hx,VY]
abbrev jy:Nat:=172
def iV:AF:=⟨3,5,[],(.seq (.ops [qm 6 0, .i (.nch 7 (.s 6)),qf 8 7 2, .i (.ldh 9 (.s 8) 1 false), .i (.bin 10 .eql (.s 9) (qi 0)),qm 11 10, .g 11 true 13 (.mov 12 (.s 1)), .g 11 true 14 (.not 13 (.s 12)), .i (.pick 14 (.s 11) (.s 13) (qb false))]) (.cond (.s 14) (.ops [qm 15 0,qm 16 2, .i (.nch 17 (.s 15)),qf 18 17 2, .i (.sth (.s 18) (.s 16) 1)]) .skip))⟩
theorem wm:cd jy=some iV:=by kernel_rfl
theorem aU (b:Bytes) (r:Rd) (ok:Bool) (c:Nat):VC cd jy (iO [] 215 (bL b r) [(false,[.bool ok]),(false,[.int .i64 (c:Int)])]) (fun rs p=>rs= []∧p= [.pt 215 (bL b (bQ r (!ok) c))]):=by
 refine ax wm rfl ?_
 simp(disch:=omega) [iV,bL,VZ]
 by_cases h:r.er=0
 ·cases ok <;>simp(disch:=omega) [h,bQ,bL,VZ]
 ·simp(disch:=omega) [h,bQ,bL,VZ]
abbrev kd:Nat:=165
def jY:AF:=⟨1,6,[.tmp 2],(.seq (.ops [.i (.mov 2 (qi 0))]) (.seq (.seq (.ops [qm 6 0, .i (.nch 7 (.s 6)),qf 8 7 2, .i (.ldh 9 (.s 8) 1 false), .i (.bin 10 .neq (.s 9) (qi 0))]) (.cond (.s 10) (.seq (.ops [.i (.mov 2 (qi 0))]) .ret) .skip)) (.seq (.ops [qm 12 0, .i (.nch 13 (.s 12)),qf 14 13 0, .i (.ldh 15 (.s 14) 1 false),qm 16 0, .i (.nch 17 (.s 16)),qf 18 17 1, .i (.ldh 19 (.s 18) 1 false), .i (.call 21 243 false [(.s 15),(.s 19)]),qm 11 20, .i (.ext 21 (.s 11) 0), .i (.ext 22 (.s 11) 1), .i (.ext 23 (.s 11) 2),qm 3 21,qm 4 22,qm 5 23]) (.seq (.ops [qm 24 0,qm 25 0,qm 26 4,qm 27 5, .i (.nch 28 (.s 24)),qf 29 28 1, .i (.sth (.s 29) (.s 26) 1), .i (.nch 30 (.s 25)),qf 31 30 2, .i (.sth (.s 31) (.s 27) 1)]) (.seq (.ops [qm 32 3,qm 2 32]) .ret)))))⟩
theorem xd:cd kd=some jY:=by kernel_rfl
theorem bP (b:Bytes) (r:Rd) (hr:r.wf b) (hb:b.length≤1073741824):VC cd kd (iO [] 215 (bL b r) []) (fun rs p=>rs=it (br b r).1∧p= [.pt 215 (bL b (br b r).2)]):=by
 refine ax xd rfl ?_
 simp(disch:=omega) [jY,bL,VZ]
 by_cases h:r.er=0
 ·simp(disch:=omega) [h,VZ]
  refine ae (s9 b r.at_ hr.1 hb) rfl rfl ?_
  simp(disch:=omega) [Q0,br,h,bL,VZ]
 ·simp(disch:=omega) [h,br,bL,VZ]
abbrev ix:Nat:=167
def iq:AF:=⟨3,5,[.tmp 6],(.seq (.ops [.i (.mov 6 (qi 0))]) (.seq (.ops [qm 8 0,qk 10 165 8,qm 7 9]) (.seq (.ops [qm 10 0,qm 11 7,qm 12 1,qd 13 .lss 11 12,qm 14 2, .i (.call 16 172 false [(.s 10),(.s 13),(.s 14)])]) (.seq (.ops [qm 16 7,qm 6 16]) .ret))))⟩
theorem ud:cd ix=some iq:=by kernel_rfl
theorem c6 (b:Bytes) (r:Rd) (n:Int) (c:Nat) (hr:r.wf b) (hb:b.length≤1073741824):VC cd ix (iO [] 215 (bL b r) [(false,[.int .i64 n]),(false,[.int .i64 (c:Int)])]) (fun rs p=>rs=it (bd b r n c).1∧p= [.pt 215 (bL b (bd b r n c).2)]):=by
 refine ax ud rfl ?_
 simp(disch:=omega) [iq,bL,VZ]
 refine dA (bP b r hr hb) ?_
 generalize hx:br b r=x
 simp(disch:=omega) [bL,VZ]
 refine dA (aU b x.2 (decide ((x.1:Int) < n)) c) ?_
 have e:(!decide ((x.1:Int) < n))=decide (n≤(x.1:Int)):=by
  by_cases h:(x.1:Int) < n
  ·simp[h]
  ·simp[h];omega
 simp(disch:=omega) [bL,bd,hx,e,VZ]
abbrev jN:Nat:=244
def jT:AF:=⟨2,6,[.tmp 4],(.seq (.ops [.i (.mov 4 (.c (.val false [.nils])))]) (.seq (.seq (.ops [qm 8 0, .i (.nch 9 (.s 8)),qf 10 9 2, .i (.ldh 11 (.s 10) 1 false), .i (.bin 12 .neq (.s 11) (qi 0))]) (.cond (.s 12) (.seq (.ops [.i (.mov 4 (.c (.val false [.nils])))]) .ret) .skip)) (.seq (.ops [qm 14 0, .i (.nch 15 (.s 14)),qf 16 15 0, .i (.ldh 17 (.s 16) 1 false),qm 18 0, .i (.nch 19 (.s 18)),qf 20 19 1, .i (.ldh 21 (.s 20) 1 false),qm 22 1, .i (.call 24 248 false [(.s 17),(.s 21),(.s 22)]),qm 13 23, .i (.ext 24 (.s 13) 0), .i (.ext 25 (.s 13) 1), .i (.ext 26 (.s 13) 2),qm 5 24,qm 6 25,qm 7 26]) (.seq (.ops [qm 27 0,qm 28 0,qm 29 6,qm 30 7, .i (.nch 31 (.s 27)),qf 32 31 1, .i (.sth (.s 32) (.s 29) 1), .i (.nch 33 (.s 28)),qf 34 33 2, .i (.sth (.s 34) (.s 30) 1)]) (.seq (.ops [qm 35 5,qm 4 35]) .ret)))))⟩
theorem xE:cd jN=some jT:=by kernel_rfl
theorem Fx (b:Bytes) (r:Rd) (n:Nat) (hn:n≤1073741824) (hr:r.wf b) (hb:b.length≤1073741824):VC cd jN (iO [] 215 (bL b r) [(false,[.int .i64 (n:Int)])]) (fun rs p=>rs= [(false,[.o true (some (5,1)) (bytes (bI b r n).1)])]∧p= [.pt 215 (bL b (bI b r n).2)]):=by
 refine VC.pq ?_
 refine ax xE rfl ?_
 simp(disch:=omega) [jT,bL,VZ]
 by_cases h:r.er=0
 ·simp(disch:=omega) [h,VZ]
  refine ae (ie b r.at_ n hr.1 hb (by omega)) rfl rfl ?_
  simp(disch:=omega) [Mz,bI,h,bL,aW,bc,bn,ag,VZ]
 ·simp(disch:=omega) [h,bI,bL,aW,bc,bn,ag,VZ]
abbrev iZ:Nat:=166
def jv:AF:=⟨1,3,[.tmp 2],(.seq (.ops [.i (.mov 2 (.c (.val false [.nils])))]) (.seq (.ops [qm 3 0, .i (.call 5 244 false [(.s 3),(qi 32)]),qm 2 4]) .ret))⟩
theorem wC:cd iZ=some jv:=by kernel_rfl
theorem cT (b:Bytes) (r:Rd) (hr:r.wf b) (hb:b.length≤1073741824):VC cd iZ (iO [] 215 (bL b r) []) (fun rs p=>rs= [(false,[.o true (some (5,1)) (bytes (bI b r 32).1)])]∧p= [.pt 215 (bL b (bI b r 32).2)]):=by
 refine ax wC rfl ?_
 simp(disch:=omega) [jv,bL,VZ]
 refine dA (Fx b r 32 (by omega) hr hb) ?_
 simp(disch:=omega) [bL,VZ]
abbrev fm:Nat:=177
def i9:AF:=⟨2,6,[.tmp 4],(.seq (.ops [.i (.mov 4 (.c (.val false [.nils])))]) (.seq (.seq (.ops [qm 8 0, .i (.nch 9 (.s 8)),qf 10 9 2, .i (.ldh 11 (.s 10) 1 false), .i (.bin 12 .neq (.s 11) (qi 0))]) (.cond (.s 12) (.seq (.ops [.i (.mov 4 (.c (.val false [.nils])))]) .ret) .skip)) (.seq (.ops [qm 14 0, .i (.nch 15 (.s 14)),qf 16 15 0, .i (.ldh 17 (.s 16) 1 false),qm 18 0, .i (.nch 19 (.s 18)),qf 20 19 1, .i (.ldh 21 (.s 20) 1 false),qm 22 1, .i (.call 24 255 false [(.s 17),(.s 21),(.s 22)]),qm 13 23, .i (.ext 24 (.s 13) 0), .i (.ext 25 (.s 13) 1), .i (.ext 26 (.s 13) 2),qm 5 24,qm 6 25,qm 7 26]) (.seq (.ops [qm 27 0,qm 28 0,qm 29 6,qm 30 7, .i (.nch 31 (.s 27)),qf 32 31 1, .i (.sth (.s 32) (.s 29) 1), .i (.nch 33 (.s 28)),qf 34 33 2, .i (.sth (.s 34) (.s 30) 1)]) (.seq (.ops [qm 35 5,qm 4 35]) .ret)))))⟩
theorem wL:cd fm=some i9:=by kernel_rfl
theorem Ch (b:Bytes) (r:Rd) (m:Nat) (hm:m≤1073741824) (hr:r.wf b) (hb:b.length≤1073741824):VC cd fm (iO [] 215 (bL b r) [(false,[.int .i64 (m:Int)])]) (fun rs p=>rs= [(false,[.o true (some (5,1)) (bytes (dL b r m).1)])]∧p= [.pt 215 (bL b (dL b r m).2)]):=by
 refine VC.pq ?_
 refine ax wL rfl ?_
 simp(disch:=omega) [i9,bL,VZ]
 by_cases h:r.er=0
 ·simp(disch:=omega) [h,VZ]
  refine ae (Ba b r.at_ m hr.1 hb hm) rfl rfl ?_
  simp(disch:=omega) [Mz,dL,h,bL,aW,bc,bn,ag,VZ]
 ·simp(disch:=omega) [h,dL,bL,aW,bc,bn,ag,VZ]
end Go.Eng.F
