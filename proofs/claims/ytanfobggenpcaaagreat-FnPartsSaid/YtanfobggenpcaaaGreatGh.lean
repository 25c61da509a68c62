import Derived.Test.YtanfobggenpcaaaGreatGd
import Derived.Test.YtanfobggenpcaaaGreatGg
set_option maxRecDepth 100000
set_option linter.unusedSimpArgs false
set_option linter.unusedVariables false
namespace Go.Eng.F
def fI (x:Bytes):Bytes:=aH x.length++x
abbrev pD:Nat:=114
def ry:AF:=⟨2,5,[.tmp 4],(.seq (.ops [.i (.mov 4 (.c (.val false [.nils])))]) (.seq (.ops [qm 8 0,qm 9 1,qn 10 9, .i (.call 12 164 false [(.s 8),(.s 10)]),qm 7 11, .i (.ext 12 (.s 7) 0), .i (.ext 13 (.s 7) 1),qm 5 12,qm 6 13]) (.seq (.ops [qm 14 5,qm 15 1, .i (.app 16 5 1 1 (.s 14) (.s 15)),qm 4 16]) .ret)))⟩
theorem Br:cd pD=some ry:=by kernel_rfl
theorem nv (b x:Bytes) (hb:b.length≤900000000) (hx:x.length≤100000000):VC cd pD (aB [(false,[.sl (bytes b)]),(false,[.sl (bytes x)])]) (fun rs _=>rs= [(false,[.o true (some (5,1)) (bytes (b++fI x))])]):=by
 have h1:=bV (n:=x.length) (by omega)
 refine aa Br rfl ?_
 simp(disch:=omega) [ry,ag,VY]
 refine ao (uc b x.length (by omega) (by omega)) ?_
 simp(disch:=omega) [ag,c8,VY]
 simp(disch:=omega) [fI,VY]
abbrev pQ:Nat:=312
def rO:AF:=⟨2,5,[.tmp 4],(.seq (.ops [.i (.mov 4 (.c (.val false [.nils])))]) (.seq (.ops [qm 8 0,qm 9 1,qn 10 9, .i (.call 12 338 false [(.s 8),(.s 10)]),qm 7 11, .i (.ext 12 (.s 7) 0), .i (.ext 13 (.s 7) 1),qm 5 12,qm 6 13]) (.seq (.ops [qm 14 5,qm 15 1, .i (.app 16 5 1 1 (.s 14) (.s 15)),qm 4 16]) .ret)))⟩
theorem Be:cd pQ=some rO:=by kernel_rfl
theorem ny (b x:Bytes) (hb:b.length≤900000000) (hx:x.length≤100000000):VC cd pQ (aB [(false,[.sl (bytes b)]),(false,[.sl (bytes x)])]) (fun rs _=>rs= [(false,[.o true (some (5,1)) (bytes (b++fI x))])]):=by
 have h1:=bV (n:=x.length) (by omega)
 refine aa Be rfl ?_
 simp(disch:=omega) [rO,ag,VY]
 refine ao (uA b x.length (by omega) (by omega)) ?_
 simp(disch:=omega) [ag,c8,VY]
 simp(disch:=omega) [fI,VY]
def jL (l:ah) (v:aW):Bool:=l.ok && isNum v.view && isNum v.height && hash v.block && hash v.tag && dv v.who 0 (l.n - 1)
def xL (v:aW):Bytes:=aH v.view.toNat++(aH v.height.toNat++(v.block++(aH v.who.toNat++v.tag)))
structure Px (v:aW):Prop where
 view:isNum v.view=true
 height:isNum v.height=true
 block:v.block.length=32
 who:isNum v.who=true
 tag:v.tag.length=32
theorem zX {l:ah} {v:aW} (h:jL l v=true):Px v:=by
 simp only[jL,Bool.and_eq_true]at h
 have h1:=jv h.1.1.1.1.1
 have h2:=cY h.2
 exact⟨h.1.1.1.1.2,h.1.1.1.2,gl h.1.1.2,by simp[isNum,dv];omega,gl h.1.2⟩
theorem MK {v:aW} (h:Px v):(xL v).length≤100:=by
 have h1:=ax h.view
 have h2:=ax h.height
 have h3:=ax h.who
 have h4:=h.block
 have h5:=h.tag
 simp only[xL,List.length_append]
 omega
abbrev uG:Nat:=98
def sY:AF:=⟨2,6,[.tmp 4],(.seq (.ops [.i (.lbox 2 (.s 0)), .i (.lbox 3 (.s 1)), .i (.mov 4 (qb false))]) (.seq (.ops [ql 5 2 2 5 true,qk 7 95 5,qm 7 6, .g 7 true 9 (.fad 8 (.s 3) 0), .g 7 true 10 (.ldl 9 3 (.s 8) 1 false), .g 7 true 11 (.call 11 129 false [(.s 9)]), .i (.pick 11 (.s 7) (.s 10) (qb false)),qm 12 11, .g 12 true 14 (.fad 13 (.s 3) 1), .g 12 true 15 (.ldl 14 3 (.s 13) 1 false), .g 12 true 16 (.call 16 129 false [(.s 14)]), .i (.pick 16 (.s 12) (.s 15) (qb false)),qm 17 16, .g 17 true 19 (.fad 18 (.s 3) 2), .g 17 true 20 (.ldl 19 3 (.s 18) 1 false), .g 17 true 21 (.fad 20 (.s 3) 4), .g 17 true 22 (.ldl 21 3 (.s 20) 1 false), .g 17 true 23 (.bsl 22 22 1 2 [.nils] [(0,1,(.s 19)),(1,1,(.s 21))]), .g 17 true 24 (.call 24 163 false [(.s 22)]), .i (.pick 24 (.s 17) (.s 23) (qb false)),qm 25 24, .g 25 true 27 (.fad 26 (.s 3) 3), .g 25 true 28 (.ldl 27 3 (.s 26) 1 false), .g 25 true 29 (.fad 28 (.s 2) 0), .g 25 true 30 (.ldl 29 2 (.s 28) 1 false), .g 25 true 31 (.bin 30 .sub (.s 29) (qi 1)), .g 25 true 32 (.call 32 158 false [(.s 27),(qi 0),(.s 30)]), .i (.pick 32 (.s 25) (.s 31) (qb false)),qm 4 32]) .ret))⟩
theorem CT:cd uG=some sY:=by kernel_rfl
theorem z4 (l:ah) (v:aW):VC cd uG (aB [(true,l.c),(true,v.c)]) (fun rs _=>rs=bl (jL l v)):=by
 refine aa CT rfl ?_
 simp(disch:=omega) [sY,ah.c,aW.c,VY]
 refine ao (aT l) ?_ (ha:=by first|rfl|(simp[ah.c,VY] <;>repeat' constructor))
 simp(disch:=omega) [VY]
 refine an (fun h1=> ?_) (fun h1=> ?_) <;>simp(disch:=omega) [h1,jL,VY]
 have hn:=jv h1
 refine ao (eo v.view) ?_
 simp(disch:=omega) [h1,VY]
 refine an (fun h2=> ?_) (fun h2=> ?_) <;>simp(disch:=omega) [h1,h2,VY]
 refine ao (eo v.height) ?_
 simp(disch:=omega) [h1,h2,VY]
 refine an (fun h3=> ?_) (fun h3=> ?_) <;>simp(disch:=omega) [h1,h2,h3,VY]
 refine ao (cJ [v.block,v.tag] (by simp)) ?_ (ha:=by first|rfl|(simp[bm,VY] <;>repeat' constructor))
 simp(disch:=omega) [h1,h2,h3,va,VY]
 refine an (fun h4=> ?_) (fun h4=> ?_)
 ·have h5:hash v.block=true∧hash v.tag=true:=by simpa using h4
  simp(disch:=omega) [h1,h2,h3,h5.1,h5.2,VY]
  refine ao (aF v.who 0 (l.n - 1)) ?_
  simp(disch:=omega) [h1,h2,h3,h5.1,h5.2,VY]
 ·simp(disch:=omega) [h1,h2,h3,h4,VY]
abbrev ug:Nat:=307
def tM:AF:=⟨2,6,[.tmp 4],(.seq (.ops [.i (.lbox 2 (.s 0)), .i (.lbox 3 (.s 1)), .i (.mov 4 (qb false))]) (.seq (.ops [ql 5 2 2 5 true,qk 7 210 5,qm 7 6, .g 7 true 9 (.fad 8 (.s 3) 0), .g 7 true 10 (.ldl 9 3 (.s 8) 1 false), .g 7 true 11 (.call 11 211 false [(.s 9)]), .i (.pick 11 (.s 7) (.s 10) (qb false)),qm 12 11, .g 12 true 14 (.fad 13 (.s 3) 1), .g 12 true 15 (.ldl 14 3 (.s 13) 1 false), .g 12 true 16 (.call 16 211 false [(.s 14)]), .i (.pick 16 (.s 12) (.s 15) (qb false)),qm 17 16, .g 17 true 19 (.fad 18 (.s 3) 2), .g 17 true 20 (.ldl 19 3 (.s 18) 1 false), .g 17 true 21 (.call 21 337 false [(.s 19)]), .i (.pick 21 (.s 17) (.s 20) (qb false)),qm 22 21, .g 22 true 24 (.fad 23 (.s 3) 4), .g 22 true 25 (.ldl 24 3 (.s 23) 1 false), .g 22 true 26 (.call 26 337 false [(.s 24)]), .i (.pick 26 (.s 22) (.s 25) (qb false)),qm 27 26, .g 27 true 29 (.fad 28 (.s 3) 3), .g 27 true 30 (.ldl 29 3 (.s 28) 1 false), .g 27 true 31 (.fad 30 (.s 2) 0), .g 27 true 32 (.ldl 31 2 (.s 30) 1 false), .g 27 true 33 (.bin 32 .sub (.s 31) (qi 1)), .g 27 true 34 (.call 34 221 false [(.s 29),(qi 0),(.s 32)]), .i (.pick 34 (.s 27) (.s 33) (qb false)),qm 4 34]) .ret))⟩
theorem C6:cd ug=some tM:=by kernel_rfl
theorem Az (l:ah) (v:aW):VC cd ug (aB [(true,l.c),(true,v.c)]) (fun rs _=>rs=bl (jL l v)):=by
 refine aa C6 rfl ?_
 simp(disch:=omega) [tM,ah.c,aW.c,VY]
 refine ao (cN l) ?_ (ha:=by first|rfl|(simp[ah.c,VY] <;>repeat' constructor))
 simp(disch:=omega) [VY]
 refine an (fun h1=> ?_) (fun h1=> ?_) <;>simp(disch:=omega) [h1,jL,VY]
 have hn:=jv h1
 refine ao (eV v.view) ?_
 simp(disch:=omega) [h1,VY]
 refine an (fun h2=> ?_) (fun h2=> ?_) <;>simp(disch:=omega) [h1,h2,VY]
 refine ao (eV v.height) ?_
 simp(disch:=omega) [h1,h2,VY]
 refine an (fun h3=> ?_) (fun h3=> ?_) <;>simp(disch:=omega) [h1,h2,h3,VY]
 refine ao (eH v.block) ?_
 simp(disch:=omega) [h1,h2,h3,VY]
 refine an (fun h4=> ?_) (fun h4=> ?_) <;>simp(disch:=omega) [h1,h2,h3,h4,VY]
 refine ao (eH v.tag) ?_
 simp(disch:=omega) [h1,h2,h3,h4,VY]
 refine an (fun h5=> ?_) (fun h5=> ?_) <;>simp(disch:=omega) [h1,h2,h3,h4,h5,VY]
 refine ao (ck v.who 0 (l.n - 1)) ?_
 simp(disch:=omega) [h1,h2,h3,h4,h5,VY]
abbrev oq:Nat:=24
def pR:AF:=⟨3,6,[.tmp 6, .tmp 7],(.seq (.ops [.i (.lbox 3 (.s 0)), .i (.lbox 5 (.s 2)), .i (.mov 6 (.c (.val false [.nils]))), .i (.mov 7 (qb false))]) (.seq (.seq (.ops [ql 9 3 3 5 true,ql 10 5 5 5 true, .i (.call 12 98 false [(.s 9),(.s 10)]), .i (.not 12 (.s 11))]) (.cond (.s 12) (.seq (.ops [.i (.mov 6 (.c (.val false [.nils]))), .i (.mov 7 (qb false))]) .ret) .skip)) (.seq (.ops [qm 13 1,qk 15 93 13, .i (.bld 15 [.nils] [(0,1,(.s 14))]), .i (.hbox 16 146 (.s 15)),qm 8 16]) (.seq (.ops [qm 17 8,qf 18 5 0,ql 19 5 18 1 false, .i (.call 21 99 false [(.s 17),(.s 19)])]) (.seq (.ops [qm 21 8,qf 22 5 1,ql 23 5 22 1 false, .i (.call 25 99 false [(.s 21),(.s 23)])]) (.seq (.ops [qm 25 8,qf 26 5 2,ql 27 5 26 1 false, .i (.call 29 100 false [(.s 25),(.s 27)])]) (.seq (.ops [qm 29 8,qf 30 5 3,ql 31 5 30 1 false, .i (.call 33 99 false [(.s 29),(.s 31)])]) (.seq (.ops [qm 33 8,qf 34 5 4,ql 35 5 34 1 false, .i (.call 37 100 false [(.s 33),(.s 35)])]) (.seq (.ops [qm 37 8, .i (.nch 38 (.s 37)),qf 39 38 0, .i (.ldh 40 (.s 39) 1 false),qm 6 40, .i (.mov 7 (qb true))]) .ret)))))))))⟩
theorem AS:cd oq=some pR:=by kernel_rfl
theorem gB (l:ah) (b:Bytes) (v:aW) (hb:b.length≤900000000):VC cd oq (aB [(true,l.c),(false,[.sl (bytes b)]),(true,v.c)]) (fun rs _=>rs=bd (jL l v) (b++xL v)):=by
 refine aa AS rfl ?_
 simp(disch:=omega) [pR,aW.c,ah.c,VY]
 refine ao (z4 l v) ?_ (ha:=by first|rfl|(simp[aW.c,ah.c,VY] <;>repeat' constructor))
 simp(disch:=omega) [VY]
 refine an (fun h0=> ?_) (fun h0=> ?_)
 case refine_2=>simp(disch:=omega) [h0,bd,VY]
 have hs:=zX h0
 have h1:=ax hs.view
 have h2:=ax hs.height
 have h3:=ax hs.who
 have h4:=hs.block
 have h5:=hs.tag
 simp(disch:=omega) [h0,VY]
 refine ae (aI b (by omega)) rfl rfl ?_
 simp(disch:=omega) [VZ]
 refine dc (aJ _ v.view hs.view ?_) ?_
 ·(try simp only[List.length_append]);omega
 simp(disch:=omega) [VZ]
 refine dc (aJ _ v.height hs.height ?_) ?_
 ·(try simp only[List.length_append]);omega
 simp(disch:=omega) [VZ]
 refine dc (cc _ v.block (by omega) ?_) ?_
 ·(try simp only[List.length_append]);omega
 simp(disch:=omega) [VZ]
 refine dc (aJ _ v.who hs.who ?_) ?_
 ·(try simp only[List.length_append]);omega
 simp(disch:=omega) [VZ]
 refine dc (cc _ v.tag (by omega) ?_) ?_
 ·(try simp only[List.length_append]);omega
 simp(disch:=omega) [bd,h0,xL,VZ]
abbrev q9:Nat:=257
def qZ:AF:=⟨3,5,[.tmp 6, .tmp 7],(.seq (.ops [.i (.lbox 3 (.s 0)), .i (.lbox 5 (.s 2)), .i (.mov 6 (.c (.val false [.nils]))), .i (.mov 7 (qb false))]) (.seq (.seq (.ops [ql 9 3 3 5 true,ql 10 5 5 5 true, .i (.call 12 307 false [(.s 9),(.s 10)]), .i (.not 12 (.s 11))]) (.cond (.s 12) (.seq (.ops [.i (.mov 6 (.c (.val false [.nils]))), .i (.mov 7 (qb false))]) .ret) .skip)) (.seq (.ops [qm 13 1,qf 14 5 0,ql 15 5 14 1 false, .i (.call 17 308 false [(.s 13),(.s 15)]),qf 17 5 1,ql 18 5 17 1 false, .i (.call 20 308 false [(.s 16),(.s 18)]),qf 20 5 2,ql 21 5 20 1 false, .i (.app 22 5 1 1 (.s 19) (.s 21)),qm 8 22]) (.seq (.ops [qm 23 8,qf 24 5 3,ql 25 5 24 1 false, .i (.call 27 308 false [(.s 23),(.s 25)]),qf 27 5 4,ql 28 5 27 1 false, .i (.app 29 5 1 1 (.s 26) (.s 28)),qm 6 29, .i (.mov 7 (qb true))]) .ret))))⟩
theorem A0:cd q9=some qZ:=by kernel_rfl
theorem nZ (l:ah) (b:Bytes) (v:aW) (hb:b.length≤900000000):VC cd q9 (aB [(true,l.c),(false,[.sl (bytes b)]),(true,v.c)]) (fun rs _=>rs=bd (jL l v) (b++xL v)):=by
 refine aa A0 rfl ?_
 simp(disch:=omega) [qZ,aW.c,ah.c,VY]
 refine ao (Az l v) ?_ (ha:=by first|rfl|(simp[aW.c,ah.c,VY] <;>repeat' constructor))
 simp(disch:=omega) [VY]
 refine an (fun h0=> ?_) (fun h0=> ?_)
 case refine_2=>simp(disch:=omega) [h0,bd,VY]
 have hs:=zX h0
 have h1:=ax hs.view
 have h2:=ax hs.height
 have h3:=ax hs.who
 have h4:=hs.block
 have h5:=hs.tag
 simp(disch:=omega) [h0,VY]
 refine ao (bI b v.view hs.view (by omega)) ?_
 simp(disch:=omega) [VY]
 refine ao (bI (b++aH v.view.toNat) v.height hs.height (by simp only[List.length_append];omega)) ?_
 simp(disch:=omega) [c8,ag,VY]
 refine ao (bI (b++(aH v.view.toNat++(aH v.height.toNat++v.block))) v.who hs.who (by simp only[List.length_append];omega)) ?_
 simp(disch:=omega) [c8,ag,bd,h0,xL,VY]
def aZ (i n:Nat):Nat:=if h:n < 2 then 0 else
 have:=eI (n:=n) (by omega)
 if i < splitAt n then 1+aZ i (splitAt n)else 1+aZ (i - splitAt n) (n - splitAt n)
termination_by n
theorem uX {i n:Nat} (h:n < 2):aZ i n=0:=by rw[aZ,dif_pos h]
theorem xa {i n:Nat} (h:2≤n) (hi:i < splitAt n):aZ i n=1+aZ i (splitAt n):=by rw[aZ,dif_neg (by omega),if_pos hi]
theorem xK {i n:Nat} (h:2≤n) (hi:¬i < splitAt n):aZ i n=1+aZ (i - splitAt n) (n - splitAt n):=by rw[aZ,dif_neg (by omega),if_neg hi]
theorem cv:∀(n i:Nat),aZ i n≤n:=by
 intro n
 induction n using Nat.strongRecOn with
 |ind n ih=>
 intro i
 rcases Nat.lt_or_ge n 2 with h|h
 ·rw[uX h];omega
 ·have h1:=eI h
  by_cases hi:i < splitAt n
  ·rw[xa h hi];have:=ih (splitAt n) h1.2 i;omega
  ·rw[xK h hi];have:=ih (n - splitAt n) (by omega) (i - splitAt n);omega
abbrev oF:Nat:=180
def oS:AF:=⟨2,6,[.tmp 4],(.seq (.ops [.i (.mov 4 (qi 0))]) (.seq (.seq (.ops [qm 6 1, .i (.bin 7 .lss (.s 6) (qi 2)),qm 8 7, .g 8 false 10 (.mov 9 (.s 1)), .g 8 false 11 (.bin 10 .gtr (.s 9) (qi 1048576)), .i (.pick 11 (.s 8) (qb true) (.s 10)),qm 12 11, .g 12 false 14 (.mov 13 (.s 0)), .g 12 false 15 (.mov 14 (.s 1)), .g 12 false 16 (.bin 15 .sub (.s 14) (qi 1)), .g 12 false 17 (.call 17 158 false [(.s 13),(qi 0),(.s 15)]), .g 12 false 18 (.not 17 (.s 16)), .i (.pick 18 (.s 12) (qb true) (.s 17))]) (.cond (.s 18) (.seq (.ops [.i (.mov 4 (qi 0))]) .ret) .skip)) (.seq (.ops [qm 19 1,qk 21 253 19,qm 5 20]) (.seq (.seq (.ops [qm 21 0,qm 22 5,qd 23 .lss 21 22]) (.cond (.s 23) (.seq (.ops [qm 24 0,qm 25 5, .i (.call 27 180 false [(.s 24),(.s 25)]), .i (.bin 27 .add (qi 1) (.s 26)),qm 4 27]) .ret) .skip)) (.seq (.ops [qm 28 0,qm 29 5,qd 30 .sub 28 29,qm 31 1,qm 32 5,qd 33 .sub 31 32, .i (.call 35 180 false [(.s 30),(.s 33)]), .i (.bin 35 .add (qi 1) (.s 34)),qm 4 35]) .ret)))))⟩
theorem AU:cd oF=some oS:=by kernel_rfl
theorem mi:∀(n i:Nat),i < n→n≤1048576→VC cd oF (aB [(false,[.int .i64 (i:Int)]),(false,[.int .i64 (n:Int)])]) (fun rs _=>rs=it (aZ i n)):=by
 intro n
 induction n using Nat.strongRecOn with
 |ind n ih=>
 intro i hi hn
 have hp:=cv n i
 have he:dv (i:Int) 0 ((n:Int) - 1)=true:=by simp only[dv,decide_eq_true_eq];omega
 refine aa AU rfl ?_
 simp(disch:=omega) [oS,VY]
 refine ab (fun h1=> ?_) (fun h1=> ?_)
 ·simp(disch:=omega) [h1,uX (i:=i) (n:=n) (by omega),VY]
 have h2:2≤n:=by omega
 obtain⟨k1,k2⟩:=eI h2
 simp(disch:=omega) [h1,VY]
 refine ab (fun h3=> ?_) (fun h3=> ?_)
 ·omega
 simp(disch:=omega) [h1,h3,VY]
 refine ao (aF (i:Int) 0 ((n:Int) - 1)) ?_
 simp(disch:=omega) [h1,h3,he,VY]
 refine ao (nj n (by omega)) ?_
 simp(disch:=omega) [VY]
 refine ab (fun h4=> ?_) (fun h4=> ?_)
 ·have h5:i < splitAt n:=by omega
  have h6:=xa h2 h5
  simp(disch:=omega) [h4,VY]
  refine ao (ih (splitAt n) k2 i h5 (by omega)) ?_
  have h7:=cv (splitAt n) i
  simp(disch:=omega) [h6,VY]
 ·have h5:¬i < splitAt n:=by omega
  have h6:=xK h2 h5
  have t1:(i:Int) - (splitAt n:Int)=((i - splitAt n:Nat):Int):=by omega
  have t2:(n:Int) - (splitAt n:Int)=((n - splitAt n:Nat):Int):=by omega
  simp(disch:=omega) [h4,t1,t2,VY]
  refine ao (ih (n - splitAt n) (by omega) (i - splitAt n) (by omega) (by omega)) ?_
  have h7:=cv (n - splitAt n) (i - splitAt n)
  simp(disch:=omega) [h6,VY]
abbrev vQ:Nat:=322
def vM:AF:=⟨2,4,[.tmp 4],(.seq (.ops [.i (.mov 4 (qb false))]) (.seq (.ops [qm 5 1, .i (.call 7 221 false [(.s 5),(qi 1),(qi 1048576)]),qm 7 6, .g 7 true 9 (.mov 8 (.s 0)), .g 7 true 10 (.mov 9 (.s 1)), .g 7 true 11 (.bin 10 .sub (.s 9) (qi 1)), .g 7 true 12 (.call 12 221 false [(.s 8),(qi 0),(.s 10)]), .i (.pick 12 (.s 7) (.s 11) (qb false)),qm 4 12]) .ret))⟩
theorem Ed:cd vQ=some vM:=by kernel_rfl
theorem Kj (i n:Nat) (hn:n≤1048576):VC cd vQ (aB [(false,[.int .i64 (i:Int)]),(false,[.int .i64 (n:Int)])]) (fun rs _=>rs=bl (dv (n:Int) 1 1048576 && dv (i:Int) 0 ((n:Int) - 1))):=by
 refine aa Ed rfl ?_
 simp(disch:=omega) [vM,VY]
 refine ao (ck (n:Int) 1 1048576) ?_
 simp(disch:=omega) [VY]
 refine an (fun h1=> ?_) (fun h1=> ?_) <;>simp(disch:=omega) [h1,VY]
 refine ao (ck (i:Int) 0 ((n:Int) - 1)) ?_
 simp(disch:=omega) [h1,VY]
abbrev rY:Nat:=276
def oN:AF:=⟨2,5,[.tmp 4],(.seq (.ops [.i (.mov 4 (qi 0))]) (.seq (.seq (.ops [qm 6 0,qm 7 1, .i (.call 9 322 false [(.s 6),(.s 7)]), .i (.not 9 (.s 8)),qm 10 9, .g 10 false 12 (.mov 11 (.s 1)), .g 10 false 13 (.bin 12 .eql (.s 11) (qi 1)), .i (.pick 13 (.s 10) (qb true) (.s 12))]) (.cond (.s 13) (.seq (.ops [.i (.mov 4 (qi 0))]) .ret) .skip)) (.seq (.ops [qm 14 1,qk 16 323 14,qm 5 15]) (.seq (.seq (.ops [qm 16 0,qm 17 5,qd 18 .lss 16 17]) (.cond (.s 18) (.seq (.ops [qm 19 0,qm 20 5, .i (.call 22 276 false [(.s 19),(.s 20)]), .i (.bin 22 .add (qi 1) (.s 21)),qm 4 22]) .ret) .skip)) (.seq (.ops [qm 23 0,qm 24 5,qd 25 .sub 23 24,qm 26 1,qm 27 5,qd 28 .sub 26 27, .i (.call 30 276 false [(.s 25),(.s 28)]), .i (.bin 30 .add (qi 1) (.s 29)),qm 4 30]) .ret)))))⟩
theorem Aa:cd rY=some oN:=by kernel_rfl
theorem dB:∀(n i:Nat),i < n→n≤1048576→VC cd rY (aB [(false,[.int .i64 (i:Int)]),(false,[.int .i64 (n:Int)])]) (fun rs _=>rs=it (aZ i n)):=by
 intro n
 induction n using Nat.strongRecOn with
 |ind n ih=>
 intro i hi hn
 have hp:=cv n i
 have he:dv (i:Int) 0 ((n:Int) - 1)=true:=by simp only[dv,decide_eq_true_eq];omega
 have he2:dv (n:Int) 1 1048576=true:=by simp only[dv,decide_eq_true_eq];omega
 refine aa Aa rfl ?_
 simp(disch:=omega) [oN,VY]
 refine ao (Kj i n hn) ?_
 simp(disch:=omega) [he,he2,VY]
 refine ab (fun h1=> ?_) (fun h1=> ?_)
 ·simp(disch:=omega) [h1,uX (i:=i) (n:=n) (by omega),VY]
 have h2:2≤n:=by omega
 obtain⟨k1,k2⟩:=eI h2
 simp(disch:=omega) [h1,VY]
 refine ao (mK n (by omega)) ?_
 simp(disch:=omega) [VY]
 refine ab (fun h4=> ?_) (fun h4=> ?_)
 ·have h5:i < splitAt n:=by omega
  have h6:=xa h2 h5
  simp(disch:=omega) [h4,VY]
  refine ao (ih (splitAt n) k2 i h5 (by omega)) ?_
  have h7:=cv (splitAt n) i
  simp(disch:=omega) [h6,VY]
 ·have h5:¬i < splitAt n:=by omega
  have h6:=xK h2 h5
  have t1:(i:Int) - (splitAt n:Int)=((i - splitAt n:Nat):Int):=by omega
  have t2:(n:Int) - (splitAt n:Int)=((n - splitAt n:Nat):Int):=by omega
  simp(disch:=omega) [h4,t1,t2,VY]
  refine ao (ih (n - splitAt n) (by omega) (i - splitAt n) (by omega) (by omega)) ?_
  have h7:=cv (n - splitAt n) (i - splitAt n)
  simp(disch:=omega) [h6,VY]
theorem Fh {l:ah} (h:l.ok=true):0≤l.tx∧l.tx≤40∧l.txs≤8:=by
 simp only[ah.ok,Bool.and_eq_true]at h
 have h1:=dN h.1.1.1.2
 have h2:=dN h.1.1.2
 omega
def dJ (l:ah) (x:aN):Bool:=l.ok && isNum x.height && dv x.n 1 l.txs && dv x.idx 0 (x.n - 1) && decide ((x.tx.length:Int)≤l.tx) && decide (x.path.length=aZ x.idx.toNat x.n.toNat) && hashes x.path
def dH (x:aN):Bytes:=aH x.height.toNat++(aH x.n.toNat++(aH x.idx.toNat++(fI x.tx++x.path.flatten)))
def bQ (l:ah) (t:Tc) (i:Nat):Bool:=match t.entries[i]? with
 |some e=>dv e.who 0 (l.n - 1) && dv e.high 0 (t.view - 1) && hash e.tag && (decide (i=0)||match t.entries[i - 1]? with|some d=>decide (d.who < e.who)|none=>false)
 |none=>false
def f3 (l:ah) (t:Tc):Bool:=l.ok && isNum t.view && decide ((t.entries.length:Int)≤l.n) && (List.range t.entries.length).all (bQ l t)
def Dk (e:Entry):Bytes:=aH e.who.toNat++(aH e.high.toNat++e.tag)
def zt (t:Tc):Bytes:=aH t.view.toNat++(aH t.entries.length++(t.entries.map Dk).flatten)
def cC (x:Block):Bytes:=bE x.head++(aH x.txs.length++(x.txs.map fI).flatten)
def cw (p:Proof):Bytes:=aH p.heads.length++((p.heads.map bE).flatten++vy p.qc)
abbrev tj:Nat:=125
def t8:AF:=⟨2,6,[.tmp 4],(.seq (.ops [.i (.lbox 2 (.s 0)), .i (.lbox 3 (.s 1)), .i (.mov 4 (qb false))]) (.seq (.ops [ql 5 2 2 5 true,qk 7 95 5,qm 7 6, .g 7 true 9 (.fad 8 (.s 3) 0), .g 7 true 10 (.ldl 9 3 (.s 8) 1 false), .g 7 true 11 (.call 11 129 false [(.s 9)]), .i (.pick 11 (.s 7) (.s 10) (qb false)),qm 12 11, .g 12 true 14 (.fad 13 (.s 3) 1), .g 12 true 15 (.ldl 14 3 (.s 13) 1 false), .g 12 true 16 (.fad 15 (.s 2) 2), .g 12 true 17 (.ldl 16 2 (.s 15) 1 false), .g 12 true 18 (.call 18 158 false [(.s 14),(qi 1),(.s 16)]), .i (.pick 18 (.s 12) (.s 17) (qb false)),qm 19 18, .g 19 true 21 (.fad 20 (.s 3) 2), .g 19 true 22 (.ldl 21 3 (.s 20) 1 false), .g 19 true 23 (.fad 22 (.s 3) 1), .g 19 true 24 (.ldl 23 3 (.s 22) 1 false), .g 19 true 25 (.bin 24 .sub (.s 23) (qi 1)), .g 19 true 26 (.call 26 158 false [(.s 21),(qi 0),(.s 24)]), .i (.pick 26 (.s 19) (.s 25) (qb false)),qm 27 26, .g 27 true 29 (.fad 28 (.s 3) 3), .g 27 true 30 (.ldl 29 3 (.s 28) 1 false), .g 27 true 31 (.len 30 false (.s 29)), .g 27 true 32 (.fad 31 (.s 2) 1), .g 27 true 33 (.ldl 32 2 (.s 31) 1 false), .g 27 true 34 (.bin 33 .leq (.s 30) (.s 32)), .i (.pick 34 (.s 27) (.s 33) (qb false)),qm 35 34, .g 35 true 37 (.fad 36 (.s 3) 4), .g 35 true 38 (.ldl 37 3 (.s 36) 1 false), .g 35 true 39 (.len 38 false (.s 37)), .g 35 true 40 (.fad 39 (.s 3) 2), .g 35 true 41 (.ldl 40 3 (.s 39) 1 false), .g 35 true 42 (.fad 41 (.s 3) 1), .g 35 true 43 (.ldl 42 3 (.s 41) 1 false), .g 35 true 44 (.call 44 180 false [(.s 40),(.s 42)]), .g 35 true 45 (.bin 44 .eql (.s 38) (.s 43)), .i (.pick 45 (.s 35) (.s 44) (qb false)),qm 46 45, .g 46 true 48 (.fad 47 (.s 3) 4), .g 46 true 49 (.ldl 48 3 (.s 47) 1 false), .g 46 true 50 (.call 50 163 false [(.s 48)]), .i (.pick 50 (.s 46) (.s 49) (qb false)),qm 4 50]) .ret))⟩
theorem Di:cd tj=some t8:=by kernel_rfl
theorem A8 (l:ah) (x:aN) (hw:x.wc):VC cd tj (aB [(true,l.c),(true,x.c)]) (fun rs _=>rs=bl (dJ l x)):=by
 obtain⟨w1,w2,w3,w4,w5,w6⟩:=hw
 simp only[Sz]at w4 w5
 refine aa Di rfl ?_
 simp(disch:=omega) [t8,ah.c,aN.c,VY]
 refine ao (aT l) ?_ (ha:=by first|rfl|(simp[ah.c,VY] <;>repeat' constructor))
 simp(disch:=omega) [VY]
 refine an (fun h1=> ?_) (fun h1=> ?_) <;>simp(disch:=omega) [h1,dJ,VY]
 have hn:=jv h1
 have ht:=Fh h1
 refine ao (eo x.height) ?_
 simp(disch:=omega) [h1,VY]
 refine an (fun h2=> ?_) (fun h2=> ?_) <;>simp(disch:=omega) [h1,h2,VY]
 refine ao (aF x.n 1 l.txs) ?_
 simp(disch:=omega) [h1,h2,VY]
 refine an (fun h3=> ?_) (fun h3=> ?_)
 case refine_2=>simp(disch:=omega) [h1,h2,h3,VY]
 have h3':=dN h3
 simp(disch:=omega) [h1,h2,h3,VY]
 refine ao (aF x.idx 0 (x.n - 1)) ?_
 simp(disch:=omega) [h1,h2,h3,VY]
 refine an (fun h4=> ?_) (fun h4=> ?_) <;>simp(disch:=omega) [h1,h2,h3,h4,ag,VY]
 have h4':=dN h4
 refine ab (fun h5=> ?_) (fun h5=> ?_) <;>simp(disch:=omega) [h1,h2,h3,h4,h5,aq,VY]
 obtain⟨N,hN⟩:∃N:Nat,x.n=(N:Int):=⟨x.n.toNat,by omega⟩
 obtain⟨I,hI⟩:∃I:Nat,x.idx=(I:Int):=⟨x.idx.toNat,by omega⟩
 have hp:=cv N I
 refine ao (mi N I (by omega) (by omega)) ?_ (ha:=by first|rfl|(simp[hN,hI,VY] <;>repeat' constructor))
 simp(disch:=omega) [h1,h2,h3,h4,h5,aq,hN,hI,VY]
 refine ab (fun h6=> ?_) (fun h6=> ?_)
 ·have h7:x.path.length=aZ I N:=by omega
  simp(disch:=omega) [h1,h2,h3,h4,h5,h6,h7,aq,hN,hI,VY]
  refine ao (cJ x.path (by omega)) ?_
  simp(disch:=omega) [h1,h2,h3,h4,h5,h6,h7,hN,hI,VY]
 ·have h7:¬x.path.length=aZ I N:=by omega
  simp(disch:=omega) [h1,h2,h3,h4,h5,h6,h7,aq,hN,hI,VY]
abbrev tu:Nat:=315
def uE:AF:=⟨2,6,[.tmp 4],(.seq (.ops [.i (.lbox 2 (.s 0)), .i (.lbox 3 (.s 1)), .i (.mov 4 (qb false))]) (.seq (.ops [ql 5 2 2 5 true,qk 7 210 5,qm 7 6, .g 7 true 9 (.fad 8 (.s 3) 0), .g 7 true 10 (.ldl 9 3 (.s 8) 1 false), .g 7 true 11 (.call 11 211 false [(.s 9)]), .i (.pick 11 (.s 7) (.s 10) (qb false)),qm 12 11, .g 12 true 14 (.fad 13 (.s 3) 1), .g 12 true 15 (.ldl 14 3 (.s 13) 1 false), .g 12 true 16 (.fad 15 (.s 2) 2), .g 12 true 17 (.ldl 16 2 (.s 15) 1 false), .g 12 true 18 (.call 18 221 false [(.s 14),(qi 1),(.s 16)]), .i (.pick 18 (.s 12) (.s 17) (qb false)),qm 19 18, .g 19 true 21 (.fad 20 (.s 3) 2), .g 19 true 22 (.ldl 21 3 (.s 20) 1 false), .g 19 true 23 (.fad 22 (.s 3) 1), .g 19 true 24 (.ldl 23 3 (.s 22) 1 false), .g 19 true 25 (.bin 24 .sub (.s 23) (qi 1)), .g 19 true 26 (.call 26 221 false [(.s 21),(qi 0),(.s 24)]), .i (.pick 26 (.s 19) (.s 25) (qb false)),qm 27 26, .g 27 true 29 (.fad 28 (.s 3) 3), .g 27 true 30 (.ldl 29 3 (.s 28) 1 false), .g 27 true 31 (.len 30 false (.s 29)), .g 27 true 32 (.fad 31 (.s 2) 1), .g 27 true 33 (.ldl 32 2 (.s 31) 1 false), .g 27 true 34 (.bin 33 .leq (.s 30) (.s 32)), .i (.pick 34 (.s 27) (.s 33) (qb false)),qm 35 34, .g 35 true 37 (.fad 36 (.s 3) 4), .g 35 true 38 (.ldl 37 3 (.s 36) 1 false), .g 35 true 39 (.len 38 false (.s 37)), .g 35 true 40 (.fad 39 (.s 3) 2), .g 35 true 41 (.ldl 40 3 (.s 39) 1 false), .g 35 true 42 (.fad 41 (.s 3) 1), .g 35 true 43 (.ldl 42 3 (.s 41) 1 false), .g 35 true 44 (.call 44 276 false [(.s 40),(.s 42)]), .g 35 true 45 (.bin 44 .eql (.s 38) (.s 43)), .i (.pick 45 (.s 35) (.s 44) (qb false)),qm 46 45, .g 46 true 48 (.fad 47 (.s 3) 4), .g 46 true 49 (.ldl 48 3 (.s 47) 1 false), .g 46 true 50 (.call 50 340 false [(.s 48)]), .i (.pick 50 (.s 46) (.s 49) (qb false)),qm 4 50]) .ret))⟩
theorem CZ:cd tu=some uE:=by kernel_rfl
theorem Bf (l:ah) (x:aN) (hw:x.wc):VC cd tu (aB [(true,l.c),(true,x.c)]) (fun rs _=>rs=bl (dJ l x)):=by
 obtain⟨w1,w2,w3,w4,w5,w6⟩:=hw
 simp only[Sz]at w4 w5
 refine aa CZ rfl ?_
 simp(disch:=omega) [uE,ah.c,aN.c,VY]
 refine ao (cN l) ?_ (ha:=by first|rfl|(simp[ah.c,VY] <;>repeat' constructor))
 simp(disch:=omega) [VY]
 refine an (fun h1=> ?_) (fun h1=> ?_) <;>simp(disch:=omega) [h1,dJ,VY]
 have hn:=jv h1
 have ht:=Fh h1
 refine ao (eV x.height) ?_
 simp(disch:=omega) [h1,VY]
 refine an (fun h2=> ?_) (fun h2=> ?_) <;>simp(disch:=omega) [h1,h2,VY]
 refine ao (ck x.n 1 l.txs) ?_
 simp(disch:=omega) [h1,h2,VY]
 refine an (fun h3=> ?_) (fun h3=> ?_)
 case refine_2=>simp(disch:=omega) [h1,h2,h3,VY]
 have h3':=dN h3
 simp(disch:=omega) [h1,h2,h3,VY]
 refine ao (ck x.idx 0 (x.n - 1)) ?_
 simp(disch:=omega) [h1,h2,h3,VY]
 refine an (fun h4=> ?_) (fun h4=> ?_) <;>simp(disch:=omega) [h1,h2,h3,h4,ag,VY]
 have h4':=dN h4
 refine ab (fun h5=> ?_) (fun h5=> ?_) <;>simp(disch:=omega) [h1,h2,h3,h4,h5,aq,VY]
 obtain⟨N,hN⟩:∃N:Nat,x.n=(N:Int):=⟨x.n.toNat,by omega⟩
 obtain⟨I,hI⟩:∃I:Nat,x.idx=(I:Int):=⟨x.idx.toNat,by omega⟩
 have hp:=cv N I
 refine ao (dB N I (by omega) (by omega)) ?_ (ha:=by first|rfl|(simp[hN,hI,VY] <;>repeat' constructor))
 simp(disch:=omega) [h1,h2,h3,h4,h5,aq,hN,hI,VY]
 refine ab (fun h6=> ?_) (fun h6=> ?_)
 ·have h7:x.path.length=aZ I N:=by omega
  simp(disch:=omega) [h1,h2,h3,h4,h5,h6,h7,aq,hN,hI,VY]
  refine ao (vL x.path (by omega)) ?_
  simp(disch:=omega) [h1,h2,h3,h4,h5,h6,h7,hN,hI,VY]
 ·have h7:¬x.path.length=aZ I N:=by omega
  simp(disch:=omega) [h1,h2,h3,h4,h5,h6,h7,aq,hN,hI,VY]
def dS (l:List Bytes):Bytes:=(l.map fI).flatten
theorem yy {l:List Bytes} {i:Nat} (h:i < l.length):dS (l.take (i+1))=dS (l.take i)++fI l[i]:=by
 rw[List.take_succ_eq_append_getElem h]
 simp only[dS,List.map_append,List.map_cons,List.map_nil,List.flatten_append,List.flatten_cons,List.flatten_nil,List.append_nil]
theorem sf {x:Bytes} (h:x.length≤1000):(fI x).length≤1009:=by
 have:=bV (n:=x.length) (by omega)
 simp only[fI,List.length_append]
 omega
theorem lO:∀ {l:List Bytes},(∀x∈l,x.length≤1000)→(dS l).length≤1009 * l.length
 | [],_=>by simp[dS]
 |a::l,h=>by
  have h1:=lO (l:=l) fun x hx=>h x (by simp[hx])
  have h2:=sf (h a (by simp))
  simp only[dS,List.map_cons,List.flatten_cons,List.length_append,List.length_cons]at h1⊢
  omega
theorem hM {l:ah} {x:Block} (h:ba l x=true):bg l x.head=true:=by
 simp only[ba,Bool.and_eq_true]at h
 exact h.1.1.1
theorem qD {l:ah} {x:Block} (h:ba l x=true):∀t∈x.txs,t.length≤1000:=fun t ht=>by
 have h0:=r8 (xk (hM h))
 simp only[ah.ok,Bool.and_eq_true]at h0
 have h1:=cY h0.1.1.1.2
 simp only[ba,Bool.and_eq_true,Ch,List.all_eq_true,decide_eq_true_eq]at h
 have:=h.1.2 t ht
 omega
theorem eZ {l:ah} {t:Tc} {i:Nat} (hi:i < t.entries.length) (h:bQ l t i=false):f3 l t=false:=by
 unfold f3
 rw[Bool.and_eq_false_iff]
 right
 rw[List.all_eq_false]
 exact⟨i,by simp[hi],by simp[h]⟩
theorem Gf {l:ah} {t:Tc} (h:∀i,i < t.entries.length→bQ l t i=true):f3 l t=(l.ok && isNum t.view && decide ((t.entries.length:Int)≤l.n)):=by
 unfold f3
 have:(List.range t.entries.length).all (bQ l t)=true:=by
  rw[List.all_eq_true]
  intro i hi
  exact h i (by simpa using hi)
 rw[this,Bool.and_true]
theorem ve {l:ah} {t:Tc} {i:Nat} (hd:∀j,j < i→bQ l t j=true) (h:bQ l t i=true):∀j,j < i+1→bQ l t j=true:=fun j hj=>by
 rcases Nat.lt_or_ge j i with hl|hl
 ·exact hd j hl
 ·obtain rfl:j=i:=by omega
  exact h
abbrev iT:Nat:=117
def qO:AF:=⟨2,7,[.tmp 4],(.seq (.ops [.i (.lbox 2 (.s 0)), .i (.lbox 3 (.s 1)), .i (.mov 4 (qb false))]) (.seq (.seq (.ops [qf 7 3 1,ql 8 3 7 1 false,qn 9 8, .i (.mov 10 (qi 0))]) (.block 0 (.loop [54,53,52,51,50,49,48,47,46,45,44,43,42,41,40,39,38,37,36,35,34,33,32,31,30,29,28,27,26,25,24,23,22,21,20,19,18,17,16,15,14,13,12,11,6,5] (.seq (.ops [qd 11 .lss 10 9]) (.seq (.cond (.s 11) .skip (.exit 0)) (.seq (.block 1 (.seq (.ops [qm 12 10, .i (.iad 13 (.s 8) (.s 10) 3), .i (.ldh 14 (.s 13) 3 true), .i (.lal 6 [.int .i64 0, .int .i64 0, .nils]),qm 5 12,qs 6 6 14 3]) (.seq (.ops [qf 15 6 0,ql 16 6 15 1 false,qf 17 2 0,ql 18 2 17 1 false, .i (.bin 19 .sub (.s 18) (qi 1)), .i (.call 21 158 false [(.s 16),(qi 0),(.s 19)]), .i (.not 21 (.s 20)),qm 22 21, .g 22 false 24 (.mov 23 (.s 5)), .g 22 false 25 (.bin 24 .gtr (.s 23) (qi 0)), .g 22 false 26 (.mov 25 (.s 24)), .g 25 true 27 (.fad 26 (.s 6) 0), .g 25 true 28 (.ldl 27 6 (.s 26) 1 false), .g 25 true 29 (.fad 28 (.s 3) 1), .g 25 true 30 (.ldl 29 3 (.s 28) 1 false), .g 25 true 31 (.mov 30 (.s 5)), .g 25 true 32 (.bin 31 .sub (.s 30) (qi 1)), .g 25 true 33 (.iad 32 (.s 29) (.s 31) 3), .g 25 true 34 (.fad 33 (.s 32) 0), .g 25 true 35 (.ldh 34 (.s 33) 1 false), .g 25 true 36 (.bin 35 .leq (.s 27) (.s 34)), .g 22 false 37 (.pick 36 (.s 25) (.s 35) (qb false)), .i (.pick 37 (.s 22) (qb true) (.s 36)),qm 38 37, .g 38 false 40 (.fad 39 (.s 6) 1), .g 38 false 41 (.ldl 40 6 (.s 39) 1 false), .g 38 false 42 (.fad 41 (.s 3) 0), .g 38 false 43 (.ldl 42 3 (.s 41) 1 false), .g 38 false 44 (.bin 43 .sub (.s 42) (qi 1)), .g 38 false 45 (.call 45 158 false [(.s 40),(qi 0),(.s 43)]), .g 38 false 46 (.not 45 (.s 44)), .i (.pick 46 (.s 38) (qb true) (.s 45)),qm 47 46, .g 47 false 49 (.fad 48 (.s 6) 2), .g 47 false 50 (.ldl 49 6 (.s 48) 1 false), .g 47 false 51 (.bsl 50 22 1 1 [.nils] [(0,1,(.s 49))]), .g 47 false 52 (.call 52 163 false [(.s 50)]), .g 47 false 53 (.not 52 (.s 51)), .i (.pick 53 (.s 47) (qb true) (.s 52))]) (.cond (.s 53) (.seq (.ops [.i (.mov 4 (qb false))]) .ret) .skip)))) (.ops [.i (.bin 54 .add (.s 10) (qi 1)),qm 10 54]))))))) (.seq (.ops [ql 55 2 2 5 true,qk 57 95 55,qm 57 56, .g 57 true 59 (.fad 58 (.s 3) 0), .g 57 true 60 (.ldl 59 3 (.s 58) 1 false), .g 57 true 61 (.call 61 129 false [(.s 59)]), .i (.pick 61 (.s 57) (.s 60) (qb false)),qm 62 61, .g 62 true 64 (.fad 63 (.s 3) 1), .g 62 true 65 (.ldl 64 3 (.s 63) 1 false), .g 62 true 66 (.len 65 false (.s 64)), .g 62 true 67 (.fad 66 (.s 2) 0), .g 62 true 68 (.ldl 67 2 (.s 66) 1 false), .g 62 true 69 (.bin 68 .leq (.s 65) (.s 67)), .i (.pick 69 (.s 62) (.s 68) (qb false)),qm 4 69]) .ret)))⟩
theorem yf:cd iT=some qO:=by kernel_rfl
theorem G4 (l:ah) (t:Tc) (hw:t.wf) (h0:(l.ok && isNum t.view)=true):VC cd iT (aB [(true,l.c),(true,t.c)]) (fun rs _=>rs=bl (f3 l t)):=by
 have w1:=hw.2.1
 simp only[Sz]at w1
 have hA:l.ok=true∧isNum t.view=true:=by simpa using h0
 have hn:=jv hA.1
 have hv:=dN hA.2
 refine aa yf rfl ?_
 simp(disch:=omega) [qO,ah.c,Tc.c,bK,VY]
 refine cQ (σ:=Nat) (f1:=_) (es0:=_) (by simp(disch:=omega) [VY];rfl) (by simp(disch:=omega) [VY];rfl) (fun i=> [(10, .val false [.int .i64 (i:Int)])]) (fun _=> []) (fun i g=>g+i=t.entries.length∧∀j,j < i→bQ l t j=true) 0 t.entries.length (by simp(disch:=omega) [VY]) (by simp(disch:=omega) [VY]) ⟨by omega,fun j hj=>by omega⟩ ?_
 rintro i n g ⟨hg,hd⟩ P hP
 simp(disch:=omega) [VY]
 refine ab (fun h1=> ?_) (fun h1=> ?_)
 case refine_2=>
  have hY:=Gf (l:=l) (t:=t) (fun i hi=>hd i (by omega))
  simp(disch:=omega) [VY]
  refine ao (aT l) ?_ (ha:=by first|rfl|(simp[ah.c,VY] <;>repeat' constructor))
  simp(disch:=omega) [hA.1,VY]
  refine ao (eo t.view) ?_
  simp(disch:=omega) [hA.1,hA.2,bK,hY,VY]
 have hi:i < t.entries.length:=by omega
 simp(disch:=omega) [dL hi,VY]
 refine ao (aF t.entries[i].who 0 (l.n - 1)) ?_
 simp(disch:=omega) [VY]
 refine an (fun h2=> ?_) (fun h2=> ?_)
 case refine_2=>simp(disch:=omega) [h2,eZ hi (show bQ l t i=false by simp[bQ,hi,h2]),VY]
 simp(disch:=omega) [h2,VY]
 refine ab (fun h3=> ?_) (fun h3=> ?_)
 ·have hj:i - 1 < t.entries.length:=by omega
  have e1:((i:Int) - 1).toNat=i - 1:=by omega
  have e2:(1:Int)≤(i:Int):=by omega
  have e3:¬i=0:=by omega
  simp(disch:=omega) [h2,h3,bK,e1,e2,dL hj,VY]
  refine ab (fun h4=> ?_) (fun h4=> ?_)
  ·simp(disch:=omega) [h2,h3,h4,eZ hi (show bQ l t i=false by simp[bQ,hi,hj,e3,show ¬t.entries[i - 1].who < t.entries[i].who by omega]),VY]
  have e4:t.entries[i - 1].who < t.entries[i].who:=by omega
  simp(disch:=omega) [h2,h3,h4,VY]
  refine ao (aF t.entries[i].high 0 (t.view - 1)) ?_
  simp(disch:=omega) [h2,h3,h4,VY]
  refine an (fun h6=> ?_) (fun h6=> ?_)
  case refine_2=>simp(disch:=omega) [h2,h3,h4,h6,eZ hi (show bQ l t i=false by simp[bQ,hi,h6]),VY]
  simp(disch:=omega) [h2,h3,h4,h6,VY]
  refine ao (cJ [t.entries[i].tag] (by simp)) ?_ (ha:=by first|rfl|(simp[bm,VY] <;>repeat' constructor))
  simp(disch:=omega) [h2,h3,h4,h6,iF,VY]
  refine an (fun h7=> ?_) (fun h7=> ?_)
  case refine_2=>simp(disch:=omega) [h2,h3,h4,h6,h7,eZ hi (show bQ l t i=false by simp[bQ,hi,h7]),VY]
  simp(disch:=omega) [h2,h3,h4,h6,h7,VY]
  exact hP (i+1) (g - 1) _ _ (by omega) ⟨by omega,ve hd (by simp[bQ,hi,h2,h6,h7,hj,e4])⟩ (by simp(disch:=omega) [VY]) (by simp(disch:=omega) [VY])
 ·simp(disch:=omega) [h2,h3,VY]
  have e4:i=0:=by omega
  refine ao (aF t.entries[i].high 0 (t.view - 1)) ?_
  simp(disch:=omega) [h2,h3,VY]
  refine an (fun h6=> ?_) (fun h6=> ?_)
  case refine_2=>simp(disch:=omega) [h2,h3,h6,eZ hi (show bQ l t i=false by simp[bQ,hi,h6]),VY]
  simp(disch:=omega) [h2,h3,h6,VY]
  refine ao (cJ [t.entries[i].tag] (by simp)) ?_ (ha:=by first|rfl|(simp[bm,VY] <;>repeat' constructor))
  simp(disch:=omega) [h2,h3,h6,iF,VY]
  refine an (fun h7=> ?_) (fun h7=> ?_)
  case refine_2=>simp(disch:=omega) [h2,h3,h6,h7,eZ hi (show bQ l t i=false by simp[bQ,hi,h7]),VY]
  simp(disch:=omega) [h2,h3,h6,h7,VY]
  exact hP (i+1) (g - 1) _ _ (by omega) ⟨by omega,ve hd (by subst e4;simp[bQ,hi,h2,h6,h7])⟩ (by simp(disch:=omega) [VY]) (by simp(disch:=omega) [VY])
theorem FT (l:ah) (t:Tc) (hw:t.wf) (h0:(l.ok && isNum t.view)=false):VC cd iT (aB [(true,l.c),(true,t.c)]) (fun rs _=>rs=bl (f3 l t)):=by
 have w1:=hw.2.1
 simp only[Sz]at w1
 have hF:f3 l t=false:=by unfold f3;rw[h0];rfl
 refine aa yf rfl ?_
 simp(disch:=omega) [qO,ah.c,Tc.c,bK,VY]
 refine cQ (σ:=Nat) (f1:=_) (es0:=_) (by simp(disch:=omega) [VY];rfl) (by simp(disch:=omega) [VY];rfl) (fun i=> [(10, .val false [.int .i64 (i:Int)])]) (fun _=> []) (fun i g=>g+i=t.entries.length) 0 t.entries.length (by simp(disch:=omega) [VY]) (by simp(disch:=omega) [VY]) (by omega) ?_
 rintro i n g hg P hP
 simp(disch:=omega) [VY]
 refine ab (fun h1=> ?_) (fun h1=> ?_)
 case refine_2=>
  simp(disch:=omega) [VY]
  refine ao (aT l) ?_ (ha:=by first|rfl|(simp[ah.c,VY] <;>repeat' constructor))
  simp(disch:=omega) [VY]
  refine an (fun h2=> ?_) (fun h2=> ?_) <;>simp(disch:=omega) [h2,hF,VY]
  refine ao (eo t.view) ?_
  have h3:isNum t.view=false:=by simpa[h2]using h0
  simp(disch:=omega) [h2,h3,hF,VY]
 have hi:i < t.entries.length:=by omega
 simp(disch:=omega) [dL hi,VY]
 refine ao (aF t.entries[i].who 0 (IntKind.i64.wrap (l.n - 1))) ?_
 simp(disch:=omega) [VY]
 refine an (fun h2=> ?_) (fun h2=> ?_)
 case refine_2=>simp(disch:=omega) [h2,hF,VY]
 simp(disch:=omega) [h2,VY]
 refine ab (fun h3=> ?_) (fun h3=> ?_)
 ·have hj:i - 1 < t.entries.length:=by omega
  have e1:((i:Int) - 1).toNat=i - 1:=by omega
  have e2:(1:Int)≤(i:Int):=by omega
  have e3:¬i=0:=by omega
  simp(disch:=omega) [h2,h3,bK,e1,e2,dL hj,VY]
  refine ab (fun h4=> ?_) (fun h4=> ?_)
  ·simp(disch:=omega) [h2,h3,h4,hF,VY]
  simp(disch:=omega) [h2,h3,h4,VY]
  refine ao (aF t.entries[i].high 0 (IntKind.i64.wrap (t.view - 1))) ?_
  simp(disch:=omega) [h2,h3,h4,VY]
  refine an (fun h6=> ?_) (fun h6=> ?_) <;>simp(disch:=omega) [h2,h3,h4,h6,hF,VY]
  refine ao (cJ [t.entries[i].tag] (by simp)) ?_ (ha:=by first|rfl|(simp[bm,VY] <;>repeat' constructor))
  simp(disch:=omega) [h2,h3,h4,h6,iF,VY]
  refine an (fun h7=> ?_) (fun h7=> ?_)
  case refine_2=>simp(disch:=omega) [h2,h3,h4,h6,h7,hF,VY]
  simp(disch:=omega) [h2,h3,h4,h6,h7,VY]
  exact hP (i+1) (g - 1) _ _ (by omega) (by omega) (by simp(disch:=omega) [VY]) (by simp(disch:=omega) [VY])
 ·simp(disch:=omega) [h2,h3,VY]
  refine ao (aF t.entries[i].high 0 (IntKind.i64.wrap (t.view - 1))) ?_
  simp(disch:=omega) [h2,h3,VY]
  refine an (fun h6=> ?_) (fun h6=> ?_) <;>simp(disch:=omega) [h2,h3,h6,hF,VY]
  refine ao (cJ [t.entries[i].tag] (by simp)) ?_ (ha:=by first|rfl|(simp[bm,VY] <;>repeat' constructor))
  simp(disch:=omega) [h2,h3,h6,iF,VY]
  refine an (fun h7=> ?_) (fun h7=> ?_)
  case refine_2=>simp(disch:=omega) [h2,h3,h6,h7,hF,VY]
  simp(disch:=omega) [h2,h3,h6,h7,VY]
  exact hP (i+1) (g - 1) _ _ (by omega) (by omega) (by simp(disch:=omega) [VY]) (by simp(disch:=omega) [VY])
theorem Fy (l:ah) (t:Tc) (hw:t.wf):VC cd iT (aB [(true,l.c),(true,t.c)]) (fun rs _=>rs=bl (f3 l t)):=by
 cases h0:l.ok && isNum t.view with
 |true=>exact G4 l t hw h0
 |false=>exact FT l t hw h0
abbrev ye:Nat:=313
def yg:AF:=⟨2,7,[.tmp 4],(.seq (.ops [.i (.lbox 2 (.s 0)), .i (.lbox 3 (.s 1)), .i (.mov 4 (qb false))]) (.seq (.seq (.ops [ql 7 2 2 5 true,qk 9 210 7, .i (.not 9 (.s 8)),qm 10 9, .g 10 false 12 (.fad 11 (.s 3) 0), .g 10 false 13 (.ldl 12 3 (.s 11) 1 false), .g 10 false 14 (.call 14 211 false [(.s 12)]), .g 10 false 15 (.not 14 (.s 13)), .i (.pick 15 (.s 10) (qb true) (.s 14)),qm 16 15, .g 16 false 18 (.fad 17 (.s 3) 1), .g 16 false 19 (.ldl 18 3 (.s 17) 1 false), .g 16 false 20 (.len 19 false (.s 18)), .g 16 false 21 (.fad 20 (.s 2) 0), .g 16 false 22 (.ldl 21 2 (.s 20) 1 false), .g 16 false 23 (.bin 22 .gtr (.s 19) (.s 21)), .i (.pick 23 (.s 16) (qb true) (.s 22))]) (.cond (.s 23) (.seq (.ops [.i (.mov 4 (qb false))]) .ret) .skip)) (.seq (.seq (.ops [qf 24 3 1,ql 25 3 24 1 false,qn 26 25, .i (.mov 27 (qi 0))]) (.block 0 (.loop [73,72,71,70,69,68,67,66,65,64,63,62,61,60,59,58,57,56,55,54,53,52,51,50,49,48,47,46,45,44,43,42,41,40,39,38,37,36,35,34,33,32,31,30,29,28,6,5] (.seq (.ops [qd 28 .lss 27 26]) (.seq (.cond (.s 28) .skip (.exit 0)) (.seq (.block 1 (.seq (.ops [qm 29 27, .i (.iad 30 (.s 25) (.s 27) 3), .i (.ldh 31 (.s 30) 3 true), .i (.lal 6 [.int .i64 0, .int .i64 0, .nils]),qm 5 29,qs 6 6 31 3]) (.seq (.ops [qf 32 6 0,ql 33 6 32 1 false,qf 34 2 0,ql 35 2 34 1 false, .i (.bin 36 .sub (.s 35) (qi 1)), .i (.call 38 221 false [(.s 33),(qi 0),(.s 36)]), .i (.not 38 (.s 37)),qm 39 38, .g 39 false 41 (.fad 40 (.s 6) 1), .g 39 false 42 (.ldl 41 6 (.s 40) 1 false), .g 39 false 43 (.bin 42 .lss (.s 41) (qi 0)), .i (.pick 43 (.s 39) (qb true) (.s 42)),qm 44 43, .g 44 false 46 (.fad 45 (.s 6) 1), .g 44 false 47 (.ldl 46 6 (.s 45) 1 false), .g 44 false 48 (.fad 47 (.s 3) 0), .g 44 false 49 (.ldl 48 3 (.s 47) 1 false), .g 44 false 50 (.bin 49 .geq (.s 46) (.s 48)), .i (.pick 50 (.s 44) (qb true) (.s 49)),qm 51 50, .g 51 false 53 (.fad 52 (.s 6) 2), .g 51 false 54 (.ldl 53 6 (.s 52) 1 false), .g 51 false 55 (.call 55 337 false [(.s 53)]), .g 51 false 56 (.not 55 (.s 54)), .i (.pick 56 (.s 51) (qb true) (.s 55)),qm 57 56, .g 57 false 59 (.mov 58 (.s 5)), .g 57 false 60 (.bin 59 .gtr (.s 58) (qi 0)), .g 57 false 61 (.mov 60 (.s 59)), .g 60 true 62 (.fad 61 (.s 3) 1), .g 60 true 63 (.ldl 62 3 (.s 61) 1 false), .g 60 true 64 (.mov 63 (.s 5)), .g 60 true 65 (.bin 64 .sub (.s 63) (qi 1)), .g 60 true 66 (.iad 65 (.s 62) (.s 64) 3), .g 60 true 67 (.fad 66 (.s 65) 0), .g 60 true 68 (.ldh 67 (.s 66) 1 false), .g 60 true 69 (.fad 68 (.s 6) 0), .g 60 true 70 (.ldl 69 6 (.s 68) 1 false), .g 60 true 71 (.bin 70 .geq (.s 67) (.s 69)), .g 57 false 72 (.pick 71 (.s 60) (.s 70) (qb false)), .i (.pick 72 (.s 57) (qb true) (.s 71))]) (.cond (.s 72) (.seq (.ops [.i (.mov 4 (qb false))]) .ret) .skip)))) (.ops [.i (.bin 73 .add (.s 27) (qi 1)),qm 27 73]))))))) (.seq (.ops [.i (.mov 4 (qb true))]) .ret))))⟩
theorem Gv:cd ye=some yg:=by kernel_rfl
theorem Ef (l:ah) (t:Tc) (hw:t.wf):VC cd ye (aB [(true,l.c),(true,t.c)]) (fun rs _=>rs=bl (f3 l t)):=by
 have w1:=hw.2.1
 simp only[Sz]at w1
 refine aa Gv rfl ?_
 simp(disch:=omega) [yg,ah.c,Tc.c,VY]
 refine ao (cN l) ?_ (ha:=by first|rfl|(simp[ah.c,VY] <;>repeat' constructor))
 simp(disch:=omega) [VY]
 refine an (fun h1=> ?_) (fun h1=> ?_)
 case refine_2=>simp(disch:=omega) [h1,f3,VY]
 simp(disch:=omega) [h1,VY]
 refine ao (eV t.view) ?_
 simp(disch:=omega) [h1,VY]
 refine an (fun h2=> ?_) (fun h2=> ?_)
 case refine_2=>simp(disch:=omega) [h1,h2,f3,VY]
 have hn:=jv h1
 have hv:=dN h2
 simp(disch:=omega) [h1,h2,bK,VY]
 refine ab (fun h3=> ?_) (fun h3=> ?_)
 ·simp(disch:=omega) [h1,h2,h3,f3,show ¬(t.entries.length:Int)≤l.n by omega,VY]
 simp(disch:=omega) [h1,h2,h3,bK,VY]
 refine cQ (σ:=Nat) (f1:=_) (es0:=_) (by simp(disch:=omega) [VY];rfl) (by simp(disch:=omega) [VY];rfl) (fun i=> [(27, .val false [.int .i64 (i:Int)])]) (fun _=> []) (fun i g=>g+i=t.entries.length∧∀j,j < i→bQ l t j=true) 0 t.entries.length (by simp(disch:=omega) [VY]) (by simp(disch:=omega) [VY]) ⟨by omega,fun j hj=>by omega⟩ ?_
 rintro i n g ⟨hg,hd⟩ P hP
 simp(disch:=omega) [VY]
 refine ab (fun g1=> ?_) (fun g1=> ?_)
 case refine_2=>
  have hY:=Gf (l:=l) (t:=t) (fun i hi=>hd i (by omega))
  simp(disch:=omega) [h1,h2,hY,show(t.entries.length:Int)≤l.n by omega,VY]
 have hi:i < t.entries.length:=by omega
 simp(disch:=omega) [dL hi,VY]
 refine ao (ck t.entries[i].who 0 (l.n - 1)) ?_
 simp(disch:=omega) [VY]
 refine an (fun g2=> ?_) (fun g2=> ?_)
 case refine_2=>simp(disch:=omega) [g2,eZ hi (show bQ l t i=false by simp[bQ,hi,g2]),VY]
 simp(disch:=omega) [g2,VY]
 refine ab (fun g3=> ?_) (fun g3=> ?_)
 ·have e5:dv t.entries[i].high 0 (t.view - 1)=false:=by simp only[dv,decide_eq_false_iff_not];omega
  simp(disch:=omega) [g2,g3,eZ hi (show bQ l t i=false by simp[bQ,hi,e5]),VY]
 simp(disch:=omega) [g2,g3,VY]
 refine ab (fun g4=> ?_) (fun g4=> ?_)
 ·have e5:dv t.entries[i].high 0 (t.view - 1)=false:=by simp only[dv,decide_eq_false_iff_not];omega
  simp(disch:=omega) [g2,g3,g4,eZ hi (show bQ l t i=false by simp[bQ,hi,e5]),VY]
 have e5:dv t.entries[i].high 0 (t.view - 1)=true:=by simp only[dv,decide_eq_true_eq];omega
 simp(disch:=omega) [g2,g3,g4,VY]
 refine ao (eH t.entries[i].tag) ?_
 simp(disch:=omega) [g2,g3,g4,VY]
 refine an (fun g5=> ?_) (fun g5=> ?_)
 case refine_2=>simp(disch:=omega) [g2,g3,g4,g5,eZ hi (show bQ l t i=false by simp[bQ,hi,g5]),VY]
 simp(disch:=omega) [g2,g3,g4,g5,VY]
 refine ab (fun g6=> ?_) (fun g6=> ?_)
 ·have hj:i - 1 < t.entries.length:=by omega
  have e1:((i:Int) - 1).toNat=i - 1:=by omega
  have e2:(1:Int)≤(i:Int):=by omega
  have e3:¬i=0:=by omega
  simp(disch:=omega) [g2,g3,g4,g5,g6,bK,e1,e2,dL hj,VY]
  refine ab (fun g7=> ?_) (fun g7=> ?_)
  ·simp(disch:=omega) [g2,g3,g4,g5,g6,g7,eZ hi (show bQ l t i=false by simp[bQ,hi,hj,e3,show ¬t.entries[i - 1].who < t.entries[i].who by omega]),VY]
  have e4:t.entries[i - 1].who < t.entries[i].who:=by omega
  simp(disch:=omega) [g2,g3,g4,g5,g6,g7,VY]
  exact hP (i+1) (g - 1) _ _ (by omega) ⟨by omega,ve hd (by simp[bQ,hi,g2,e5,g5,hj,e4])⟩ (by simp(disch:=omega) [VY]) (by simp(disch:=omega) [VY])
 ·have e4:i=0:=by omega
  simp(disch:=omega) [g2,g3,g4,g5,g6,VY]
  exact hP (i+1) (g - 1) _ _ (by omega) ⟨by omega,ve hd (by subst e4;simp[bQ,hi,g2,e5,g5])⟩ (by simp(disch:=omega) [VY]) (by simp(disch:=omega) [VY])
abbrev wH:Nat:=27
def vk:AF:=⟨3,5,[.tmp 6, .tmp 7],(.seq (.ops [.i (.lbox 3 (.s 0)), .i (.lbox 5 (.s 2)), .i (.mov 6 (.c (.val false [.nils]))), .i (.mov 7 (qb false))]) (.seq (.seq (.ops [ql 9 3 3 5 true,ql 10 5 5 5 true, .i (.call 12 103 false [(.s 9),(.s 10)]), .i (.not 12 (.s 11))]) (.cond (.s 12) (.seq (.ops [.i (.mov 6 (.c (.val false [.nils]))), .i (.mov 7 (qb false))]) .ret) .skip)) (.seq (.ops [qm 13 1,qk 15 93 13, .i (.bld 15 [.nils] [(0,1,(.s 14))]), .i (.hbox 16 146 (.s 15)),qm 8 16]) (.seq (.ops [qm 17 8,ql 18 5 5 5 true, .i (.call 20 104 false [(.s 17),(.s 18)])]) (.seq (.ops [qm 20 8, .i (.nch 21 (.s 20)),qf 22 21 0, .i (.ldh 23 (.s 22) 1 false),qm 6 23, .i (.mov 7 (qb true))]) .ret)))))⟩
theorem E6:cd wH=some vk:=by kernel_rfl
theorem jC (l:ah) (b:Bytes) (q:Qc) (hw:q.wf) (hb:b.length≤900000000):VC cd wH (aB [(true,l.c),(false,[.sl (bytes b)]),(true,q.c)]) (fun rs _=>rs=bd (eg l q) (b++vy q)):=by
 refine aa E6 rfl ?_
 simp(disch:=omega) [vk,Qc.c,ah.c,VY]
 refine ae (lJ l q hw) rfl rfl ?_
 simp(disch:=omega) [VY]
 refine an (fun h0=> ?_) (fun h0=> ?_)
 case refine_2=>simp(disch:=omega) [h0,bd,VY]
 have hs:=lE h0
 simp(disch:=omega) [h0,VY]
 refine ae (aI b (by omega)) rfl rfl ?_
 simp(disch:=omega) [VZ]
 refine dc (lK _ q hs ?_) ?_
 ·(try simp only[List.length_append]);omega
 simp(disch:=omega) [bd,h0,VZ]
abbrev mI:Nat:=260
def mN:AF:=⟨3,6,[.tmp 6, .tmp 7],(.seq (.ops [.i (.lbox 3 (.s 0)), .i (.lbox 5 (.s 2)), .i (.mov 6 (.c (.val false [.nils]))), .i (.mov 7 (qb false))]) (.seq (.seq (.ops [ql 12 3 3 5 true,ql 13 5 5 11 true, .i (.call 15 311 false [(.s 12),(.s 13)]), .i (.not 15 (.s 14))]) (.cond (.s 15) (.seq (.ops [.i (.mov 6 (.c (.val false [.nils]))), .i (.mov 7 (qb false))]) .ret) .skip)) (.seq (.ops [ql 17 3 3 5 true,qm 18 1,qf 19 5 0,ql 20 5 19 10 true, .i (.call 22 259 false [(.s 17),(.s 18),(.s 20)]),qm 16 21, .i (.ext 22 (.s 16) 0), .i (.ext 23 (.s 16) 1),qm 8 22,qm 9 23]) (.seq (.ops [qm 24 8,qf 25 5 10,ql 26 5 25 1 false,qn 27 26, .i (.call 29 308 false [(.s 24),(.s 27)]),qm 8 28]) (.seq (.seq (.ops [qf 29 5 10,ql 30 5 29 1 false,qn 31 30, .i (.mov 32 (qi 0))]) (.block 0 (.loop [39,38,37,36,35,34,33,11] (.seq (.ops [qd 33 .lss 32 31]) (.seq (.cond (.s 33) .skip (.exit 0)) (.seq (.block 1 (.seq (.ops [.i (.iad 34 (.s 30) (.s 32) 1), .i (.ldh 35 (.s 34) 1 false),qm 11 35]) (.ops [qm 36 8,qm 37 11, .i (.call 39 312 false [(.s 36),(.s 37)]),qm 8 38]))) (.ops [.i (.bin 39 .add (.s 32) (qi 1)),qm 32 39]))))))) (.seq (.ops [qm 40 8,qm 6 40, .i (.mov 7 (qb true))]) .ret))))))⟩
theorem yZ:cd mI=some mN:=by kernel_rfl
theorem la (l:ah) (b:Bytes) (x:Block) (hw:x.wc∧∀t∈x.txs,t.length≤100000000) (hb:b.length≤800000000):VC cd mI (aB [(true,l.c),(false,[.sl (bytes b)]),(true,x.c)]) (fun rs _=>rs=bd (ba l x) (b++cC x)):=by
 refine aa yZ rfl ?_
 simp(disch:=omega) [mN,Block.c,Head.c,ah.c,VY]
 refine ao (nf l x hw.1 (fun t ht=>by have:=hw.2 t ht;omega)) ?_ (ha:=by first|rfl|(simp[ah.c,Block.c,Head.c,VY] <;>repeat' constructor))
 simp(disch:=omega) [VY]
 refine an (fun h0=> ?_) (fun h0=> ?_)
 case refine_2=>simp(disch:=omega) [h0,bd,VY]
 have hh:=hM h0
 have hf:=rz h0
 have ht:=qD h0
 have hs:=eR (c7 hh)
 simp(disch:=omega) [h0,VY]
 refine ao ((c6 l b x.head hw.1.1.1 (by omega)).re (bj hh)) ?_ (ha:=by first|rfl|(simp[ah.c,Head.c,VY] <;>repeat' constructor))
 simp(disch:=omega) [h0,aq,VY]
 refine ao (bI (b++bE x.head) x.txs.length (gm (by omega)) (by simp only[List.length_append];omega)) ?_
 have h1:=bV (n:=x.txs.length) (by omega)
 simp(disch:=omega) [h0,aq,VY]
 refine fB (σ:=Nat×Nat×Nat) (f1:=_) (by simp(disch:=omega) [VY];rfl) (fun p=> [(32, .val false [.int .i64 (p.1:Int)]),(8, .val false [.ow p.2.1 p.2.2])]) (fun p=> [(p.2.1, .sl p.2.2 true true (some (5,1)) (bytes (b++(bE x.head++(aH x.txs.length++dS (x.txs.take p.1))))))]) (fun p g=>g+p.1=x.txs.length∧(p.2.1=245760∨p.2.1=327680)) (0,245760,20) x.txs.length (by simp(disch:=omega) [VY]) (by simp(disch:=omega) [show dS []= []from rfl,VY]) ⟨by omega, .inl rfl⟩ ?_
 rintro⟨i,key,v⟩ n g ⟨hg,hk⟩ P hP
 simp only at hg hk
 have hlt:∀t∈x.txs.take i,t.length≤1000:=fun t h=>ht t (List.mem_of_mem_take h)
 have hl:=lO hlt
 have hl2:(x.txs.take i).length≤8:=by rw[List.length_take];omega
 have hl3:(dS (x.txs.take i)).length≤8072:=by omega
 rcases hk with rfl|rfl
 all_goals
  simp(disch:=omega) [VY]
  refine ab (fun h2=> ?_) (fun h2=> ?_)
  ·have hi:i < x.txs.length:=by omega
   have hx:=ht _ (List.getElem_mem hi)
   simp(disch:=omega) [cX hi,VY]
   refine ao (ny (b++(bE x.head++(aH x.txs.length++dS (x.txs.take i)))) x.txs[i] (by simp only[List.length_append];omega) (by omega)) ?_
   simp(disch:=omega) [VY]
   exact hP (i+1,327680,_) (g - 1) _ _ (by omega) ⟨by simp only;omega, .inr rfl⟩ (by simp(disch:=omega) [VY];rfl) (by simp(disch:=omega) [yy hi,VY])
  ·have hi:i=x.txs.length:=by omega
   subst hi
   simp(disch:=omega) [bd,cC,dS,List.take_length,VY]
abbrev ns:Nat:=34
def nH:AF:=⟨3,6,[.tmp 6, .tmp 7],(.seq (.ops [.i (.lbox 3 (.s 0)), .i (.lbox 5 (.s 2)), .i (.mov 6 (.c (.val false [.nils]))), .i (.mov 7 (qb false))]) (.seq (.seq (.ops [ql 11 3 3 5 true,ql 12 5 5 11 true, .i (.call 14 113 false [(.s 11),(.s 12)]), .i (.not 14 (.s 13))]) (.cond (.s 14) (.seq (.ops [.i (.mov 6 (.c (.val false [.nils]))), .i (.mov 7 (qb false))]) .ret) .skip)) (.seq (.ops [qm 15 1,qk 17 93 15, .i (.bld 17 [.nils] [(0,1,(.s 16))]), .i (.hbox 18 146 (.s 17)),qm 8 18]) (.seq (.ops [qm 19 8,qf 20 5 0,ql 21 5 20 10 true, .i (.call 23 109 false [(.s 19),(.s 21)])]) (.seq (.ops [qm 23 8,qf 24 5 10,ql 25 5 24 1 false,qn 26 25, .i (.call 28 99 false [(.s 23),(.s 26)])]) (.seq (.seq (.ops [qf 28 5 10,ql 29 5 28 1 false,qn 30 29, .i (.mov 31 (qi 0))]) (.block 0 (.loop [44,43,42,41,40,39,38,37,36,35,34,33,32,10] (.seq (.ops [qd 32 .lss 31 30]) (.seq (.cond (.s 32) .skip (.exit 0)) (.seq (.block 1 (.seq (.ops [.i (.iad 33 (.s 29) (.s 31) 1), .i (.ldh 34 (.s 33) 1 false),qm 10 34]) (.ops [qm 35 8,qm 36 8, .i (.nch 37 (.s 36)),qf 38 37 0, .i (.ldh 39 (.s 38) 1 false),qm 40 10, .i (.call 42 114 false [(.s 39),(.s 40)]), .i (.nch 42 (.s 35)),qf 43 42 0, .i (.sth (.s 43) (.s 41) 1)]))) (.ops [.i (.bin 44 .add (.s 31) (qi 1)),qm 31 44]))))))) (.seq (.ops [qm 45 8, .i (.nch 46 (.s 45)),qf 47 46 0, .i (.ldh 48 (.s 47) 1 false),qm 6 48, .i (.mov 7 (qb true))]) .ret)))))))⟩
theorem zn:cd ns=some nH:=by kernel_rfl
theorem fZ (l:ah) (b:Bytes) (x:Block) (hw:x.wc∧∀t∈x.txs,t.length≤100000000) (hb:b.length≤800000000):VC cd ns (aB [(true,l.c),(false,[.sl (bytes b)]),(true,x.c)]) (fun rs _=>rs=bd (ba l x) (b++cC x)):=by
 refine aa zn rfl ?_
 simp(disch:=omega) [nH,Block.c,Head.c,ah.c,VY]
 refine ao (y7 l x hw.1 (fun t ht=>by have:=hw.2 t ht;omega)) ?_ (ha:=by first|rfl|(simp[ah.c,Block.c,Head.c,VY] <;>repeat' constructor))
 simp(disch:=omega) [VY]
 refine an (fun h0=> ?_) (fun h0=> ?_)
 case refine_2=>simp(disch:=omega) [h0,bd,VY]
 have hh:=hM h0
 have hf:=rz h0
 have ht:=qD h0
 have hz:=c7 hh
 have hs:=eR hz
 simp(disch:=omega) [h0,VY]
 refine ae (aI b (by omega)) rfl rfl ?_
 simp(disch:=omega) [VZ]
 refine dc (iI _ x.head hz ?_) ?_
 ·(try simp only[List.length_append]);omega
 simp(disch:=omega) [aq,VZ]
 refine dc (aJ _ x.txs.length (gm (by omega)) ?_) ?_
 ·(try simp only[List.length_append]);omega
 have h1:=bV (n:=x.txs.length) (by omega)
 simp(disch:=omega) [aq,VZ]
 refine fB (σ:=Nat×Nat×Nat) (f1:=_) (by simp(disch:=omega) [VZ];rfl) (fun p=> [(31, .val false [.int .i64 (p.1:Int)])]) (fun p=> [(18, .pt 19 146 [.ow p.2.1 p.2.2]),(p.2.1, .sl p.2.2 true true (some (5,1)) (bytes (b++(bE x.head++(aH x.txs.length++dS (x.txs.take p.1))))))]) (fun p g=>g+p.1=x.txs.length∧(p.2.1=1099511701504∨p.2.1=352256)) (0,1099511701504,23) x.txs.length (by simp(disch:=omega) [VZ]) (by simp(disch:=omega) [show dS []= []from rfl,VZ]) ⟨by omega, .inl rfl⟩ ?_
 rintro⟨i,key,v⟩ n g ⟨hg,hk⟩ P hP
 simp only at hg hk
 have hlt:∀t∈x.txs.take i,t.length≤1000:=fun t h=>ht t (List.mem_of_mem_take h)
 have hl:=lO hlt
 have hl2:(x.txs.take i).length≤8:=by rw[List.length_take];omega
 have hl3:(dS (x.txs.take i)).length≤8072:=by omega
 rcases hk with rfl|rfl
 all_goals
  simp(disch:=omega) [VZ]
  refine ab (fun h2=> ?_) (fun h2=> ?_)
  ·have hi:i < x.txs.length:=by omega
   have hx:=ht _ (List.getElem_mem hi)
   simp(disch:=omega) [cX hi,VZ]
   refine ao (nv (b++(bE x.head++(aH x.txs.length++dS (x.txs.take i)))) x.txs[i] (by simp only[List.length_append];omega) (by omega)) ?_
   simp(disch:=omega) [VZ]
   exact hP (i+1,352256,_) (g - 1) _ _ (by omega) ⟨by simp only;omega, .inr rfl⟩ (by simp(disch:=omega) [VZ]) (by simp(disch:=omega) [yy hi,VZ];rfl)
  ·have hi:i=x.txs.length:=by omega
   subst hi
   simp(disch:=omega) [bd,cC,dS,List.take_length,VZ]
theorem BS {l:ah} {t:Tc} (h:f3 l t=true):t.entries.length≤10∧isNum t.view=true∧∀e∈t.entries,isNum e.who=true∧isNum e.high=true∧e.tag.length=32:=by
 simp only[f3,Bool.and_eq_true,decide_eq_true_eq,List.all_eq_true,List.mem_range]at h
 obtain⟨⟨⟨h1,h2⟩,h3⟩,h4⟩:=h
 have hn:=jv h1
 have hv:=dN h2
 refine⟨by omega,h2,fun e he=> ?_⟩
 obtain⟨i,hi,rfl⟩:=List.mem_iff_getElem.1 he
 have h5:=h4 i hi
 simp only[bQ,List.getElem?_eq_getElem hi,Bool.and_eq_true]at h5
 obtain⟨⟨⟨g1,g2⟩,g3⟩,_⟩:=h5
 have g1':=dN g1
 have g2':=dN g2
 exact⟨by simp only[isNum,dv,decide_eq_true_eq];omega,by simp only[isNum,dv,decide_eq_true_eq];omega,gl g3⟩
def gg (l:List Entry):Bytes:=(l.map Dk).flatten
theorem Cd {l:List Entry} {i:Nat} (h:i < l.length):gg (l.take (i+1))=gg (l.take i)++Dk l[i]:=by
 rw[List.take_succ_eq_append_getElem h]
 simp only[gg,List.map_append,List.map_cons,List.map_nil,List.flatten_append,List.flatten_cons,List.flatten_nil,List.append_nil]
theorem sr:∀ {l:List Entry},(∀e∈l,isNum e.who=true∧isNum e.high=true∧e.tag.length=32)→(gg l).length≤50 * l.length
 | [],_=>by simp[gg]
 |a::l,h=>by
  have h1:=sr (l:=l) fun x hx=>h x (by simp[hx])
  obtain⟨g1,g2,g3⟩:=h a (by simp)
  have h2:=ax g1
  have h3:=ax g2
  simp only[gg,Dk,List.map_cons,List.flatten_cons,List.length_append,List.length_cons]at h1⊢
  omega
abbrev wz:Nat:=37
def vi:AF:=⟨3,6,[.tmp 6, .tmp 7],(.seq (.ops [.i (.lbox 3 (.s 0)), .i (.lbox 5 (.s 2)), .i (.mov 6 (.c (.val false [.nils]))), .i (.mov 7 (qb false))]) (.seq (.seq (.ops [ql 11 3 3 5 true,ql 12 5 5 2 true, .i (.call 14 117 false [(.s 11),(.s 12)]), .i (.not 14 (.s 13))]) (.cond (.s 14) (.seq (.ops [.i (.mov 6 (.c (.val false [.nils]))), .i (.mov 7 (qb false))]) .ret) .skip)) (.seq (.ops [qm 15 1,qk 17 93 15, .i (.bld 17 [.nils] [(0,1,(.s 16))]), .i (.hbox 18 146 (.s 17)),qm 8 18]) (.seq (.ops [qm 19 8,qf 20 5 0,ql 21 5 20 1 false, .i (.call 23 99 false [(.s 19),(.s 21)])]) (.seq (.ops [qm 23 8,qf 24 5 1,ql 25 5 24 1 false,qn 26 25, .i (.call 28 99 false [(.s 23),(.s 26)])]) (.seq (.seq (.ops [qf 28 5 1,ql 29 5 28 1 false,qn 30 29, .i (.mov 31 (qi 0))]) (.block 0 (.loop [47,46,45,44,43,42,41,40,39,38,37,36,35,34,33,32,10] (.seq (.ops [qd 32 .lss 31 30]) (.seq (.cond (.s 32) .skip (.exit 0)) (.seq (.block 1 (.seq (.ops [.i (.iad 33 (.s 29) (.s 31) 3), .i (.ldh 34 (.s 33) 3 true), .i (.lal 10 [.int .i64 0, .int .i64 0, .nils]),qs 10 10 34 3]) (.seq (.ops [qm 35 8,qf 36 10 0,ql 37 10 36 1 false, .i (.call 39 99 false [(.s 35),(.s 37)])]) (.seq (.ops [qm 39 8,qf 40 10 1,ql 41 10 40 1 false, .i (.call 43 99 false [(.s 39),(.s 41)])]) (.ops [qm 43 8,qf 44 10 2,ql 45 10 44 1 false, .i (.call 47 100 false [(.s 43),(.s 45)])]))))) (.ops [.i (.bin 47 .add (.s 31) (qi 1)),qm 31 47]))))))) (.seq (.ops [qm 48 8, .i (.nch 49 (.s 48)),qf 50 49 0, .i (.ldh 51 (.s 50) 1 false),qm 6 51, .i (.mov 7 (qb true))]) .ret)))))))⟩
theorem EE:cd wz=some vi:=by kernel_rfl
theorem jD (l:ah) (b:Bytes) (t:Tc) (hw:t.wf) (hb:b.length≤800000000):VC cd wz (aB [(true,l.c),(false,[.sl (bytes b)]),(true,t.c)]) (fun rs _=>rs=bd (f3 l t) (b++zt t)):=by
 refine aa EE rfl ?_
 simp(disch:=omega) [vi,Tc.c,ah.c,VY]
 refine ao (Fy l t hw) ?_ (ha:=by first|rfl|(simp[ah.c,Tc.c,VY] <;>repeat' constructor))
 simp(disch:=omega) [VY]
 refine an (fun h0=> ?_) (fun h0=> ?_)
 case refine_2=>simp(disch:=omega) [h0,bd,VY]
 obtain⟨hf,hv,he⟩:=BS h0
 have h3:=ax hv
 have h1:=bV (n:=t.entries.length) (by omega)
 simp(disch:=omega) [h0,VY]
 refine ae (aI b (by omega)) rfl rfl ?_
 simp(disch:=omega) [VZ]
 refine dc (aJ _ t.view hv ?_) ?_
 ·(try simp only[List.length_append]);omega
 simp(disch:=omega) [bK,VZ]
 refine dc (aJ _ t.entries.length (gm (by omega)) ?_) ?_
 ·(try simp only[List.length_append]);omega
 simp(disch:=omega) [bK,VZ]
 refine fB (σ:=Nat×Nat) (f1:=_) (by simp(disch:=omega) [VZ];rfl) (fun p=> [(31, .val false [.int .i64 (p.1:Int)])]) (fun p=> [(18, .pt 10 146 [.ow 1099511701504 p.2]),(1099511701504, .sl p.2 true true (some (5,1)) (bytes (b++(aH t.view.toNat++(aH t.entries.length++gg (t.entries.take p.1))))))]) (fun p g=>g+p.1=t.entries.length) (0,14) t.entries.length (by simp(disch:=omega) [VZ]) (by simp(disch:=omega) [show gg []= []from rfl,VZ]) (by omega) ?_
 rintro⟨i,v⟩ n g hg P hP
 simp only at hg
 have hlt:∀e∈t.entries.take i,isNum e.who=true∧isNum e.high=true∧e.tag.length=32:=fun e h=>he e (List.mem_of_mem_take h)
 have hl:=sr hlt
 have hl2:(t.entries.take i).length≤10:=by rw[List.length_take];omega
 have hl3:(gg (t.entries.take i)).length≤500:=by omega
 simp(disch:=omega) [VZ]
 refine ab (fun h2=> ?_) (fun h2=> ?_)
 ·have hi:i < t.entries.length:=by omega
  obtain⟨g1,g2,g3⟩:=he _ (List.getElem_mem hi)
  have g4:=ax g1
  have g5:=ax g2
  simp(disch:=omega) [dL hi,VZ]
  refine dc (aJ _ t.entries[i].who g1 ?_) ?_
  ·(try simp only[List.length_append]);omega
  simp(disch:=omega) [VZ]
  refine dc (aJ _ t.entries[i].high g2 ?_) ?_
  ·(try simp only[List.length_append]);omega
  simp(disch:=omega) [VZ]
  refine dc (cc _ t.entries[i].tag (by omega) ?_) ?_
  ·(try simp only[List.length_append]);omega
  simp(disch:=omega) [VZ]
  exact hP (i+1,_) (g - 1) _ _ (by omega) (by simp only;omega) (by simp(disch:=omega) [VZ]) (by simp(disch:=omega) [Cd hi,Dk,VZ];rfl)
 ·have hi:i=t.entries.length:=by omega
  subst hi
  simp(disch:=omega) [bd,zt,gg,List.take_length,VZ]
abbrev wN:Nat:=261
def vF:AF:=⟨3,6,[.tmp 6, .tmp 7],(.seq (.ops [.i (.lbox 3 (.s 0)), .i (.lbox 5 (.s 2)), .i (.mov 6 (.c (.val false [.nils]))), .i (.mov 7 (qb false))]) (.seq (.seq (.ops [ql 11 3 3 5 true,ql 12 5 5 2 true, .i (.call 14 313 false [(.s 11),(.s 12)]), .i (.not 14 (.s 13))]) (.cond (.s 14) (.seq (.ops [.i (.mov 6 (.c (.val false [.nils]))), .i (.mov 7 (qb false))]) .ret) .skip)) (.seq (.ops [qm 15 1,qf 16 5 0,ql 17 5 16 1 false, .i (.call 19 308 false [(.s 15),(.s 17)]),qf 19 5 1,ql 20 5 19 1 false,qn 21 20, .i (.call 23 308 false [(.s 18),(.s 21)]),qm 8 22]) (.seq (.seq (.ops [qf 23 5 1,ql 24 5 23 1 false,qn 25 24, .i (.mov 26 (qi 0))]) (.block 0 (.loop [40,39,38,37,36,35,34,33,32,31,30,29,28,27,10] (.seq (.ops [qd 27 .lss 26 25]) (.seq (.cond (.s 27) .skip (.exit 0)) (.seq (.block 1 (.seq (.ops [.i (.iad 28 (.s 24) (.s 26) 3), .i (.ldh 29 (.s 28) 3 true), .i (.lal 10 [.int .i64 0, .int .i64 0, .nils]),qs 10 10 29 3]) (.ops [qm 30 8,qf 31 10 0,ql 32 10 31 1 false, .i (.call 34 308 false [(.s 30),(.s 32)]),qf 34 10 1,ql 35 10 34 1 false, .i (.call 37 308 false [(.s 33),(.s 35)]),qf 37 10 2,ql 38 10 37 1 false, .i (.app 39 5 1 1 (.s 36) (.s 38)),qm 8 39]))) (.ops [.i (.bin 40 .add (.s 26) (qi 1)),qm 26 40]))))))) (.seq (.ops [qm 41 8,qm 6 41, .i (.mov 7 (qb true))]) .ret)))))⟩
theorem Fm:cd wN=some vF:=by kernel_rfl
theorem uq (l:ah) (b:Bytes) (t:Tc) (hw:t.wf) (hb:b.length≤800000000):VC cd wN (aB [(true,l.c),(false,[.sl (bytes b)]),(true,t.c)]) (fun rs _=>rs=bd (f3 l t) (b++zt t)):=by
 refine aa Fm rfl ?_
 simp(disch:=omega) [vF,Tc.c,ah.c,VY]
 refine ao (Ef l t hw) ?_ (ha:=by first|rfl|(simp[ah.c,Tc.c,VY] <;>repeat' constructor))
 simp(disch:=omega) [VY]
 refine an (fun h0=> ?_) (fun h0=> ?_)
 case refine_2=>simp(disch:=omega) [h0,bd,VY]
 obtain⟨hf,hv,he⟩:=BS h0
 have h3:=ax hv
 have h1:=bV (n:=t.entries.length) (by omega)
 simp(disch:=omega) [h0,VY]
 refine ao (bI b t.view hv (by omega)) ?_
 simp(disch:=omega) [h0,bK,VY]
 refine ao (bI (b++aH t.view.toNat) t.entries.length (gm (by omega)) (by simp only[List.length_append];omega)) ?_
 simp(disch:=omega) [h0,bK,VY]
 refine fB (σ:=Nat×Nat×Nat) (f1:=_) (by simp(disch:=omega) [VY];rfl) (fun p=> [(26, .val false [.int .i64 (p.1:Int)]),(8, .val false [.ow p.2.1 p.2.2])]) (fun p=> [(p.2.1, .sl p.2.2 true true (some (5,1)) (bytes (b++(aH t.view.toNat++(aH t.entries.length++gg (t.entries.take p.1))))))]) (fun p g=>g+p.1=t.entries.length∧(p.2.1=196608∨p.2.1=311296)) (0,196608,_) t.entries.length (by simp(disch:=omega) [VY];rfl) (by simp(disch:=omega) [show gg []= []from rfl,VY]) ⟨by omega, .inl rfl⟩ ?_
 rintro⟨i,key,v⟩ n g ⟨hg,hk⟩ P hP
 simp only at hg hk
 have hlt:∀e∈t.entries.take i,isNum e.who=true∧isNum e.high=true∧e.tag.length=32:=fun e h=>he e (List.mem_of_mem_take h)
 have hl:=sr hlt
 have hl2:(t.entries.take i).length≤10:=by rw[List.length_take];omega
 have hl3:(gg (t.entries.take i)).length≤500:=by omega
 rcases hk with rfl|rfl
 all_goals
  simp(disch:=omega) [VY]
  refine ab (fun h2=> ?_) (fun h2=> ?_)
  ·have hi:i < t.entries.length:=by omega
   obtain⟨g1,g2,g3⟩:=he _ (List.getElem_mem hi)
   have g4:=ax g1
   have g5:=ax g2
   simp(disch:=omega) [dL hi,VY]
   refine ao (bI (b++(aH t.view.toNat++(aH t.entries.length++gg (t.entries.take i)))) t.entries[i].who g1 (by simp only[List.length_append];omega)) ?_
   simp(disch:=omega) [VY]
   refine ao (bI (b++(aH t.view.toNat++(aH t.entries.length++(gg (t.entries.take i)++aH t.entries[i].who.toNat)))) t.entries[i].high g2 (by simp only[List.length_append];omega)) ?_
   simp(disch:=omega) [c8,ag,VY]
   exact hP (i+1,311296,_) (g - 1) _ _ (by omega) ⟨by simp only;omega, .inr rfl⟩ (by simp(disch:=omega) [VY];rfl) (by simp(disch:=omega) [Cd hi,Dk,VY])
  ·have hi:i=t.entries.length:=by omega
   subst hi
   simp(disch:=omega) [bd,zt,gg,List.take_length,VY]
def dY (l:List Head):Bytes:=(l.map bE).flatten
theorem yG {l:List Head} {i:Nat} (h:i < l.length):dY (l.take (i+1))=dY (l.take i)++bE l[i]:=by
 rw[List.take_succ_eq_append_getElem h]
 simp only[dY,List.map_append,List.map_cons,List.map_nil,List.flatten_append,List.flatten_cons,List.flatten_nil,List.append_nil]
theorem lV:∀ {l:List Head},(∀h∈l,Ep h)→(dY l).length≤1000 * l.length
 | [],_=>by simp[dY]
 |a::l,h=>by
  have h1:=lV (l:=l) fun x hx=>h x (by simp[hx])
  have h2:=eR (h a (by simp))
  simp only[dY,List.map_cons,List.flatten_cons,List.length_append,List.length_cons]at h1⊢
  omega
theorem pO {l:ah} {p:Proof} (h:b9 l p=true):p.heads.length≤5∧eg l p.qc=true∧∀x∈p.heads,bg l x=true:=by
 simp only[b9,Bool.and_eq_true]at h
 obtain⟨⟨⟨h1,h2⟩,h3⟩,h4⟩:=h
 have h5:=r8 h3
 simp only[ah.ok,Bool.and_eq_true]at h5
 have h6:=dN h5.2
 have h7:=dN h1
 refine⟨by omega,h3,fun x hx=> ?_⟩
 simp only[iR,List.all_eq_true]at h2
 exact h2 x hx
abbrev nR:Nat:=40
def nL:AF:=⟨3,6,[.tmp 6, .tmp 7],(.seq (.ops [.i (.lbox 3 (.s 0)), .i (.lbox 5 (.s 2)), .i (.mov 6 (.c (.val false [.nils]))), .i (.mov 7 (qb false))]) (.seq (.seq (.ops [ql 11 3 3 5 true,ql 12 5 5 6 true, .i (.call 14 121 false [(.s 11),(.s 12)]), .i (.not 14 (.s 13))]) (.cond (.s 14) (.seq (.ops [.i (.mov 6 (.c (.val false [.nils]))), .i (.mov 7 (qb false))]) .ret) .skip)) (.seq (.ops [qm 15 1,qk 17 93 15, .i (.bld 17 [.nils] [(0,1,(.s 16))]), .i (.hbox 18 146 (.s 17)),qm 8 18]) (.seq (.ops [qm 19 8,qf 20 5 0,ql 21 5 20 1 false,qn 22 21, .i (.call 24 99 false [(.s 19),(.s 22)])]) (.seq (.seq (.ops [qf 24 5 0,ql 25 5 24 1 false,qn 26 25, .i (.mov 27 (qi 0))]) (.block 0 (.loop [34,33,32,31,30,29,28,10] (.seq (.ops [qd 28 .lss 27 26]) (.seq (.cond (.s 28) .skip (.exit 0)) (.seq (.block 1 (.seq (.ops [.i (.iad 29 (.s 25) (.s 27) 10), .i (.ldh 30 (.s 29) 10 true), .i (.lal 10 qz),qs 10 10 30 10]) (.ops [qm 31 8,ql 32 10 10 10 true, .i (.call 34 109 false [(.s 31),(.s 32)])]))) (.ops [.i (.bin 34 .add (.s 27) (qi 1)),qm 27 34]))))))) (.seq (.ops [qm 35 8,qf 36 5 1,ql 37 5 36 5 true, .i (.call 39 104 false [(.s 35),(.s 37)])]) (.seq (.ops [qm 39 8, .i (.nch 40 (.s 39)),qf 41 40 0, .i (.ldh 42 (.s 41) 1 false),qm 6 42, .i (.mov 7 (qb true))]) .ret)))))))⟩
theorem yY:cd nR=some nL:=by kernel_rfl
theorem fX (l:ah) (b:Bytes) (p:Proof) (hw:p.wc) (hb:b.length≤800000000):VC cd nR (aB [(true,l.c),(false,[.sl (bytes b)]),(true,p.c)]) (fun rs _=>rs=bd (b9 l p) (b++cw p)):=by
 refine aa yY rfl ?_
 simp(disch:=omega) [nL,Proof.c,ah.c,VY]
 refine ao (yO l p hw.1) ?_ (ha:=by first|rfl|(simp[ah.c,Proof.c,VY] <;>repeat' constructor))
 simp(disch:=omega) [VY]
 refine an (fun h0=> ?_) (fun h0=> ?_)
 case refine_2=>simp(disch:=omega) [h0,bd,VY]
 obtain⟨hf,hq,hh⟩:=pO h0
 have h1:=bV (n:=p.heads.length) (by omega)
 simp(disch:=omega) [h0,VY]
 refine ae (aI b (by omega)) rfl rfl ?_
 simp(disch:=omega) [bS,VZ]
 refine dc (aJ _ p.heads.length (gm (by omega)) ?_) ?_
 ·(try simp only[List.length_append]);omega
 simp(disch:=omega) [bS,VZ]
 refine fB (σ:=Nat×Nat) (f1:=_) (by simp(disch:=omega) [VZ];rfl) (fun q=> [(27, .val false [.int .i64 (q.1:Int)])]) (fun q=> [(18, .pt 14 146 [.ow 1099511701504 q.2]),(1099511701504, .sl q.2 true true (some (5,1)) (bytes (b++(aH p.heads.length++dY (p.heads.take q.1)))))]) (fun q g=>g+q.1=p.heads.length) (0,16) p.heads.length (by simp(disch:=omega) [VZ]) (by simp(disch:=omega) [show dY []= []from rfl,VZ]) (by omega) ?_
 rintro⟨i,v⟩ n g hg P hP
 simp only at hg
 have hl:=lV (l:=p.heads.take i) (fun e h=>c7 (hh e (List.mem_of_mem_take h)))
 have hl2:(p.heads.take i).length≤5:=by rw[List.length_take];omega
 have hl3:(dY (p.heads.take i)).length≤5000:=by omega
 simp(disch:=omega) [VZ]
 refine ab (fun h2=> ?_) (fun h2=> ?_)
 ·have hi:i < p.heads.length:=by omega
  have hz:=c7 (hh _ (List.getElem_mem hi))
  have hy:=eR hz
  simp(disch:=omega) [eB hi,Head.c,VZ]
  refine dc (iI _ p.heads[i] hz ?_) ?_
  ·(try simp only[List.length_append]);omega
  simp(disch:=omega) [VZ]
  exact hP (i+1,_) (g - 1) _ _ (by omega) (by simp only;omega) (by simp(disch:=omega) [VZ]) (by simp(disch:=omega) [yG hi,VZ];rfl)
 ·have hi:i=p.heads.length:=by omega
  subst hi
  rw[List.take_length]at hl3
  simp(disch:=omega) [List.take_length,VZ]
  refine dc (lK _ p.qc (lE hq) ?_) ?_
  ·(try simp only[List.length_append]);omega
  simp(disch:=omega) [bd,cw,dY,VZ]
abbrev nz:Nat:=262
def mg:AF:=⟨3,6,[.tmp 6, .tmp 7],(.seq (.ops [.i (.lbox 3 (.s 0)), .i (.lbox 5 (.s 2)), .i (.mov 6 (.c (.val false [.nils]))), .i (.mov 7 (qb false))]) (.seq (.seq (.ops [ql 11 3 3 5 true,ql 12 5 5 6 true, .i (.call 14 314 false [(.s 11),(.s 12)]), .i (.not 14 (.s 13))]) (.cond (.s 14) (.seq (.ops [.i (.mov 6 (.c (.val false [.nils]))), .i (.mov 7 (qb false))]) .ret) .skip)) (.seq (.ops [qm 15 1,qf 16 5 0,ql 17 5 16 1 false,qn 18 17, .i (.call 20 308 false [(.s 15),(.s 18)]),qm 8 19]) (.seq (.seq (.ops [qf 20 5 0,ql 21 5 20 1 false,qn 22 21, .i (.mov 23 (qi 0))]) (.block 0 (.loop [34,33,32,31,30,29,28,27,26,25,24,10] (.seq (.ops [qd 24 .lss 23 22]) (.seq (.cond (.s 24) .skip (.exit 0)) (.seq (.block 1 (.seq (.ops [.i (.iad 25 (.s 21) (.s 23) 10), .i (.ldh 26 (.s 25) 10 true), .i (.lal 10 qz),qs 10 10 26 10]) (.ops [ql 28 3 3 5 true,qm 29 8,ql 30 10 10 10 true, .i (.call 32 259 false [(.s 28),(.s 29),(.s 30)]),qm 27 31, .i (.ext 32 (.s 27) 0), .i (.ext 33 (.s 27) 1),qm 8 32]))) (.ops [.i (.bin 34 .add (.s 23) (qi 1)),qm 23 34]))))))) (.seq (.ops [ql 35 3 3 5 true,qm 36 8,qf 37 5 1,ql 38 5 37 5 true, .i (.call 40 258 false [(.s 35),(.s 36),(.s 38)]), .i (.ext 40 (.s 39) 0), .i (.ext 41 (.s 39) 1),qm 6 40,qm 7 41]) .ret)))))⟩
theorem yW:cd nz=some mg:=by kernel_rfl
theorem kq (l:ah) (b:Bytes) (p:Proof) (hw:p.wc) (hb:b.length≤800000000):VC cd nz (aB [(true,l.c),(false,[.sl (bytes b)]),(true,p.c)]) (fun rs _=>rs=bd (b9 l p) (b++cw p)):=by
 refine aa yW rfl ?_
 simp(disch:=omega) [mg,Proof.c,ah.c,VY]
 refine ao (zd l p hw.1) ?_ (ha:=by first|rfl|(simp[ah.c,Proof.c,VY] <;>repeat' constructor))
 simp(disch:=omega) [VY]
 refine an (fun h0=> ?_) (fun h0=> ?_)
 case refine_2=>simp(disch:=omega) [h0,bd,VY]
 obtain⟨hf,hq,hh⟩:=pO h0
 have h1:=bV (n:=p.heads.length) (by omega)
 simp(disch:=omega) [h0,bS,VY]
 refine ao (bI b p.heads.length (gm (by omega)) (by omega)) ?_
 simp(disch:=omega) [h0,bS,VY]
 refine fB (σ:=Nat×Nat×Nat) (f1:=_) (by simp(disch:=omega) [VY];rfl) (fun q=> [(23, .val false [.int .i64 (q.1:Int)]),(8, .val false [.ow q.2.1 q.2.2])]) (fun q=> [(q.2.1, .sl q.2.2 true true (some (5,1)) (bytes (b++(aH p.heads.length++dY (p.heads.take q.1)))))]) (fun q g=>g+q.1=p.heads.length∧(q.2.1=172032∨q.2.1=270336)) (0,172032,13) p.heads.length (by simp(disch:=omega) [VY]) (by simp(disch:=omega) [show dY []= []from rfl,VY]) ⟨by omega, .inl rfl⟩ ?_
 rintro⟨i,key,v⟩ n g ⟨hg,hk⟩ P hP
 simp only at hg hk
 have hl:=lV (l:=p.heads.take i) (fun e h=>c7 (hh e (List.mem_of_mem_take h)))
 have hl2:(p.heads.take i).length≤5:=by rw[List.length_take];omega
 have hl3:(dY (p.heads.take i)).length≤5000:=by omega
 rcases hk with rfl|rfl
 all_goals
  simp(disch:=omega) [VY]
  refine ab (fun h2=> ?_) (fun h2=> ?_)
  ·have hi:i < p.heads.length:=by omega
   have hx:=hh _ (List.getElem_mem hi)
   simp(disch:=omega) [eB hi,Head.c,VY]
   refine ao ((c6 l (b++(aH p.heads.length++dY (p.heads.take i))) p.heads[i] (hw.2.1 _ (List.getElem_mem hi)).1 (by simp only[List.length_append];omega)).re (bj hx)) ?_ (ha:=by first|rfl|(simp[ah.c,Head.c,VY] <;>repeat' constructor))
   simp(disch:=omega) [VY]
   exact hP (i+1,270336,_) (g - 1) _ _ (by omega) ⟨by simp only;omega, .inr rfl⟩ (by simp(disch:=omega) [VY];rfl) (by simp(disch:=omega) [yG hi,VY])
  ·have hi:i=p.heads.length:=by omega
   subst hi
   rw[List.take_length]at hl3
   simp(disch:=omega) [List.take_length,VY]
   refine ao ((f8 l (b++(aH p.heads.length++dY p.heads)) p.qc hw.2.2.1 (by simp only[List.length_append];omega)).re (bj hq)) ?_ (ha:=by first|rfl|(simp[ah.c,Qc.c,VY] <;>repeat' constructor))
   simp(disch:=omega) [bd,cw,dY,VY]
theorem uV {l:ah} {x:aN} (h:dJ l x=true):isNum x.height=true∧isNum x.n=true∧isNum x.idx=true∧x.tx.length≤40∧x.path.length≤8∧∀y∈x.path,y.length=32:=by
 simp only[dJ,Bool.and_eq_true,decide_eq_true_eq]at h
 obtain⟨⟨⟨⟨⟨⟨h1,h2⟩,h3⟩,h4⟩,h5⟩,h6⟩,h7⟩:=h
 have g1:=Fh h1
 have g3:=dN h3
 have g4:=dN h4
 have g5:=cv x.n.toNat x.idx.toNat
 refine⟨h2,by simp only[isNum,dv,decide_eq_true_eq];omega,by simp only[isNum,dv,decide_eq_true_eq];omega,by omega,by omega,fun y hy=> ?_⟩
 simp only[hashes,List.all_eq_true]at h7
 exact gl (h7 y hy)
abbrev rK:Nat:=43
def pU:AF:=⟨3,6,[.tmp 6, .tmp 7],(.seq (.ops [.i (.lbox 3 (.s 0)), .i (.lbox 5 (.s 2)), .i (.mov 6 (.c (.val false [.nils]))), .i (.mov 7 (qb false))]) (.seq (.seq (.ops [ql 11 3 3 5 true,ql 12 5 5 5 true, .i (.call 14 125 false [(.s 11),(.s 12)]), .i (.not 14 (.s 13))]) (.cond (.s 14) (.seq (.ops [.i (.mov 6 (.c (.val false [.nils]))), .i (.mov 7 (qb false))]) .ret) .skip)) (.seq (.ops [qm 15 1,qk 17 93 15, .i (.bld 17 [.nils] [(0,1,(.s 16))]), .i (.hbox 18 146 (.s 17)),qm 8 18]) (.seq (.ops [qm 19 8,qf 20 5 0,ql 21 5 20 1 false, .i (.call 23 99 false [(.s 19),(.s 21)])]) (.seq (.ops [qm 23 8,qf 24 5 1,ql 25 5 24 1 false, .i (.call 27 99 false [(.s 23),(.s 25)])]) (.seq (.ops [qm 27 8,qf 28 5 2,ql 29 5 28 1 false, .i (.call 31 99 false [(.s 27),(.s 29)])]) (.seq (.ops [qm 31 8,qm 32 8, .i (.nch 33 (.s 32)),qf 34 33 0, .i (.ldh 35 (.s 34) 1 false),qf 36 5 3,ql 37 5 36 1 false, .i (.call 39 114 false [(.s 35),(.s 37)]), .i (.nch 39 (.s 31)),qf 40 39 0, .i (.sth (.s 40) (.s 38) 1)]) (.seq (.seq (.ops [qf 41 5 4,ql 42 5 41 1 false,qn 43 42, .i (.mov 44 (qi 0))]) (.block 0 (.loop [51,50,49,48,47,46,45,10] (.seq (.ops [qd 45 .lss 44 43]) (.seq (.cond (.s 45) .skip (.exit 0)) (.seq (.block 1 (.seq (.ops [.i (.iad 46 (.s 42) (.s 44) 1), .i (.ldh 47 (.s 46) 1 false),qm 10 47]) (.ops [qm 48 8,qm 49 10, .i (.call 51 100 false [(.s 48),(.s 49)])]))) (.ops [.i (.bin 51 .add (.s 44) (qi 1)),qm 44 51]))))))) (.seq (.ops [qm 52 8, .i (.nch 53 (.s 52)),qf 54 53 0, .i (.ldh 55 (.s 54) 1 false),qm 6 55, .i (.mov 7 (qb true))]) .ret)))))))))⟩
theorem As:cd rK=some pU:=by kernel_rfl
theorem gF (l:ah) (b:Bytes) (x:aN) (hw:x.wc) (htx:x.tx.length≤100000000) (hb:b.length≤800000000):VC cd rK (aB [(true,l.c),(false,[.sl (bytes b)]),(true,x.c)]) (fun rs _=>rs=bd (dJ l x) (b++dH x)):=by
 refine aa As rfl ?_
 simp(disch:=omega) [pU,aN.c,ah.c,VY]
 refine ao (A8 l x hw) ?_ (ha:=by first|rfl|(simp[ah.c,aN.c,VY] <;>repeat' constructor))
 simp(disch:=omega) [VY]
 refine an (fun h0=> ?_) (fun h0=> ?_)
 case refine_2=>simp(disch:=omega) [h0,bd,VY]
 obtain⟨n1,n2,n3,ht,hf,hp⟩:=uV h0
 have v1:=ax n1
 have v2:=ax n2
 have v3:=ax n3
 have v4:=sf (x:=x.tx) (by omega)
 simp(disch:=omega) [h0,VY]
 refine ae (aI b (by omega)) rfl rfl ?_
 simp(disch:=omega) [VZ]
 refine dc (aJ _ x.height n1 ?_) ?_
 ·(try simp only[List.length_append]);omega
 simp(disch:=omega) [VZ]
 refine dc (aJ _ x.n n2 ?_) ?_
 ·(try simp only[List.length_append]);omega
 simp(disch:=omega) [VZ]
 refine dc (aJ _ x.idx n3 ?_) ?_
 ·(try simp only[List.length_append]);omega
 simp(disch:=omega) [VZ]
 refine ao (nv (b++(aH x.height.toNat++(aH x.n.toNat++aH x.idx.toNat))) x.tx (by simp only[List.length_append];omega) (by omega)) ?_
 simp(disch:=omega) [aq,VZ]
 refine fB (σ:=Nat×Nat×Nat) (f1:=_) (by simp(disch:=omega) [VZ];rfl) (fun q=> [(44, .val false [.int .i64 (q.1:Int)])]) (fun q=> [(18, .pt 13 146 [.ow q.2.1 q.2.2]),(q.2.1, .sl q.2.2 true true (some (5,1)) (bytes (b++(aH x.height.toNat++(aH x.n.toNat++(aH x.idx.toNat++(fI x.tx++(x.path.take q.1).flatten)))))))]) (fun q g=>g+q.1=x.path.length∧(q.2.1=327680∨q.2.1=1099511701504)) (0,327680,20) x.path.length (by simp(disch:=omega) [VZ]) (by simp(disch:=omega) [VZ]) ⟨by omega, .inl rfl⟩ ?_
 rintro⟨i,key,v⟩ n g ⟨hg,hk⟩ P hP
 simp only at hg hk
 rcases hk with rfl|rfl
 all_goals
  simp(disch:=omega) [VZ]
  refine ab (fun h2=> ?_) (fun h2=> ?_)
  ·have hi:i < x.path.length:=by omega
   have hy:=hp _ (List.getElem_mem hi)
   have hz:=hU hp (i:=i) (by omega)
   simp(disch:=omega) [cX hi,VZ]
   refine dc (cc _ x.path[i] (by omega) ?_) ?_
   ·(try simp only[List.length_append]);omega
   simp(disch:=omega) [VZ]
   exact hP (i+1,1099511701504,_) (g - 1) _ _ (by omega) ⟨by simp only;omega, .inr rfl⟩ (by simp(disch:=omega) [VZ]) (by simp(disch:=omega) [sg hi,VZ];rfl)
  ·have hi:i=x.path.length:=by omega
   subst hi
   simp(disch:=omega) [bd,dH,List.take_length,VZ]
abbrev pN:Nat:=263
def rI:AF:=⟨3,6,[.tmp 6, .tmp 7],(.seq (.ops [.i (.lbox 3 (.s 0)), .i (.lbox 5 (.s 2)), .i (.mov 6 (.c (.val false [.nils]))), .i (.mov 7 (qb false))]) (.seq (.seq (.ops [ql 11 3 3 5 true,ql 12 5 5 5 true, .i (.call 14 315 false [(.s 11),(.s 12)]), .i (.not 14 (.s 13))]) (.cond (.s 14) (.seq (.ops [.i (.mov 6 (.c (.val false [.nils]))), .i (.mov 7 (qb false))]) .ret) .skip)) (.seq (.ops [qm 15 1,qf 16 5 0,ql 17 5 16 1 false, .i (.call 19 308 false [(.s 15),(.s 17)]),qf 19 5 1,ql 20 5 19 1 false, .i (.call 22 308 false [(.s 18),(.s 20)]),qf 22 5 2,ql 23 5 22 1 false, .i (.call 25 308 false [(.s 21),(.s 23)]),qf 25 5 3,ql 26 5 25 1 false, .i (.call 28 312 false [(.s 24),(.s 26)]),qm 8 27]) (.seq (.seq (.ops [qf 28 5 4,ql 29 5 28 1 false,qn 30 29, .i (.mov 31 (qi 0))]) (.block 0 (.loop [38,37,36,35,34,33,32,10] (.seq (.ops [qd 32 .lss 31 30]) (.seq (.cond (.s 32) .skip (.exit 0)) (.seq (.block 1 (.seq (.ops [.i (.iad 33 (.s 29) (.s 31) 1), .i (.ldh 34 (.s 33) 1 false),qm 10 34]) (.ops [qm 35 8,qm 36 10, .i (.app 37 5 1 1 (.s 35) (.s 36)),qm 8 37]))) (.ops [.i (.bin 38 .add (.s 31) (qi 1)),qm 31 38]))))))) (.seq (.ops [qm 39 8,qm 6 39, .i (.mov 7 (qb true))]) .ret)))))⟩
theorem Bx:cd pN=some rI:=by kernel_rfl
theorem mE (l:ah) (b:Bytes) (x:aN) (hw:x.wc) (htx:x.tx.length≤100000000) (hb:b.length≤800000000):VC cd pN (aB [(true,l.c),(false,[.sl (bytes b)]),(true,x.c)]) (fun rs _=>rs=bd (dJ l x) (b++dH x)):=by
 refine aa Bx rfl ?_
 simp(disch:=omega) [rI,aN.c,ah.c,VY]
 refine ao (Bf l x hw) ?_ (ha:=by first|rfl|(simp[ah.c,aN.c,VY] <;>repeat' constructor))
 simp(disch:=omega) [VY]
 refine an (fun h0=> ?_) (fun h0=> ?_)
 case refine_2=>simp(disch:=omega) [h0,bd,VY]
 obtain⟨n1,n2,n3,ht,hf,hp⟩:=uV h0
 have v1:=ax n1
 have v2:=ax n2
 have v3:=ax n3
 have v4:=sf (x:=x.tx) (by omega)
 simp(disch:=omega) [h0,VY]
 refine ao (bI b x.height n1 (by omega)) ?_
 simp(disch:=omega) [h0,VY]
 refine ao (bI (b++aH x.height.toNat) x.n n2 (by simp only[List.length_append];omega)) ?_
 simp(disch:=omega) [h0,VY]
 refine ao (bI (b++(aH x.height.toNat++aH x.n.toNat)) x.idx n3 (by simp only[List.length_append];omega)) ?_
 simp(disch:=omega) [h0,VY]
 refine ao (ny (b++(aH x.height.toNat++(aH x.n.toNat++aH x.idx.toNat))) x.tx (by simp only[List.length_append];omega) (by omega)) ?_
 simp(disch:=omega) [h0,aq,VY]
 refine fB (σ:=Nat×Nat) (f1:=_) (by simp(disch:=omega) [VY];rfl) (fun q=> [(31, .val false [.int .i64 (q.1:Int)]),(8, .val false [.ow 237568 q.2])]) (fun q=> [(237568, .sl q.2 true true (some (5,1)) (bytes (b++(aH x.height.toNat++(aH x.n.toNat++(aH x.idx.toNat++(fI x.tx++(x.path.take q.1).flatten)))))))]) (fun q g=>g+q.1=x.path.length) (0,15) x.path.length (by simp(disch:=omega) [VY]) (by simp(disch:=omega) [VY]) (by omega) ?_
 rintro⟨i,v⟩ n g hg P hP
 simp only at hg
 simp(disch:=omega) [VY]
 refine ab (fun h2=> ?_) (fun h2=> ?_)
 ·have hi:i < x.path.length:=by omega
  have hy:=hp _ (List.getElem_mem hi)
  have hz:=hU hp (i:=i) (by omega)
  simp(disch:=omega) [cX hi,c8,ag,hz,VY]
  exact hP (i+1,_) (g - 1) _ _ (by omega) (by simp only;omega) (by simp(disch:=omega) [VY];rfl) (by simp(disch:=omega) [sg hi,VY])
 ·have hi:i=x.path.length:=by omega
  subst hi
  simp(disch:=omega) [bd,dH,List.take_length,VY]
end Go.Eng.F
namespace Go.Eng.F
structure aS where
 kind:Int
 vote:aW
 qc:Qc
 head:Head
 block:Block
 tc:Tc
 proof:Proof
 incl:aN
def aS.c (m:aS):List D:= [.int .i64 m.kind, .int .i64 m.vote.view, .int .i64 m.vote.height, .sl (bytes m.vote.block), .int .i64 m.vote.who, .sl (bytes m.vote.tag), .int .i64 m.qc.view, .int .i64 m.qc.height, .sl (bytes m.qc.block), .sl (bytes m.qc.bits), .sl (bm m.qc.tags), .int .i64 m.head.view, .int .i64 m.head.height, .int .i64 m.head.proposer, .sl (bytes m.head.parent), .sl (bytes m.head.root), .int .i64 m.head.qc.view, .int .i64 m.head.qc.height, .sl (bytes m.head.qc.block), .sl (bytes m.head.qc.bits), .sl (bm m.head.qc.tags), .int .i64 m.block.head.view, .int .i64 m.block.head.height, .int .i64 m.block.head.proposer, .sl (bytes m.block.head.parent), .sl (bytes m.block.head.root), .int .i64 m.block.head.qc.view, .int .i64 m.block.head.qc.height, .sl (bytes m.block.head.qc.block), .sl (bytes m.block.head.qc.bits), .sl (bm m.block.head.qc.tags), .sl (bm m.block.txs), .int .i64 m.tc.view, .sl (hX m.tc.entries), .sl (el m.proof.heads), .int .i64 m.proof.qc.view, .int .i64 m.proof.qc.height, .sl (bytes m.proof.qc.block), .sl (bytes m.proof.qc.bits), .sl (bm m.proof.qc.tags), .int .i64 m.incl.height, .int .i64 m.incl.n, .int .i64 m.incl.idx, .sl (bytes m.incl.tx), .sl (bm m.incl.path)]
def Block.wx (x:Block):Prop:=x.wc∧∀t∈x.txs,t.length≤100000000
structure aS.wc (m:aS):Prop where
 kind:lq m.kind
 vote:m.vote.wf
 qc:m.qc.wc
 head:m.head.wc
 block:m.block.wx
 tc:m.tc.wf
 proof:m.proof.wc
 incl:m.incl.wc
 tx:m.incl.tx.length≤100000000
def du:aW:=⟨0,0,[],0,[]⟩
def oc:Qc:=⟨0,0,[],[],[]⟩
def cu:Head:=⟨0,0,0,[],[],oc⟩
def bC:Block:=⟨cu,[]⟩
def xP:Tc:=⟨0,[]⟩
def bR:Proof:=⟨[],oc⟩
def dg:aN:=⟨0,0,0,[],[]⟩
def aK:aS:=⟨0,du,oc,cu,bC,xP,bR,dg⟩
theorem jh:aK.wc:=by
 constructor <;>simp[aK,du,oc,cu,bC,xP,bR,dg,lq,Sz,aW.wf,Qc.wc,Qc.wf,Head.wc,Head.wf,Block.wx,Block.wc,mY,Tc.wf,Proof.wc,Proof.wf,su,aN.wc]
def l4 (a b:aS):Bool:=decide (a.kind=b.kind) && iH a.vote b.vote && l3 a.qc b.qc && dR a.head b.head && fY a.block b.block && eK a.tc b.tc && d7 a.proof b.proof && ix a.incl b.incl
abbrev pz:Nat:=54
def pM:AF:=⟨2,6,[.tmp 4],(.seq (.ops [.i (.lbox 2 (.s 0)), .i (.lbox 3 (.s 1)), .i (.mov 4 (qb false))]) (.seq (.ops [qf 5 2 0,ql 6 2 5 1 false,qf 7 3 0,ql 8 3 7 1 false,qd 9 .eql 6 8,qm 10 9, .g 10 true 12 (.fad 11 (.s 2) 1), .g 10 true 13 (.ldl 12 2 (.s 11) 5 true), .g 10 true 14 (.fad 13 (.s 3) 1), .g 10 true 15 (.ldl 14 3 (.s 13) 5 true), .g 10 true 16 (.call 16 26 false [(.s 12),(.s 14)]), .i (.pick 16 (.s 10) (.s 15) (qb false)),qm 17 16, .g 17 true 19 (.fad 18 (.s 2) 6), .g 17 true 20 (.ldl 19 2 (.s 18) 5 true), .g 17 true 21 (.fad 20 (.s 3) 6), .g 17 true 22 (.ldl 21 3 (.s 20) 5 true), .g 17 true 23 (.call 23 29 false [(.s 19),(.s 21)]), .i (.pick 23 (.s 17) (.s 22) (qb false)),qm 24 23, .g 24 true 26 (.fad 25 (.s 2) 11), .g 24 true 27 (.ldl 26 2 (.s 25) 10 true), .g 24 true 28 (.fad 27 (.s 3) 11), .g 24 true 29 (.ldl 28 3 (.s 27) 10 true), .g 24 true 30 (.call 30 32 false [(.s 26),(.s 28)]), .i (.pick 30 (.s 24) (.s 29) (qb false)),qm 31 30, .g 31 true 33 (.fad 32 (.s 2) 21), .g 31 true 34 (.ldl 33 2 (.s 32) 11 true), .g 31 true 35 (.fad 34 (.s 3) 21), .g 31 true 36 (.ldl 35 3 (.s 34) 11 true), .g 31 true 37 (.call 37 36 false [(.s 33),(.s 35)]), .i (.pick 37 (.s 31) (.s 36) (qb false)),qm 38 37, .g 38 true 40 (.fad 39 (.s 2) 32), .g 38 true 41 (.ldl 40 2 (.s 39) 2 true), .g 38 true 42 (.fad 41 (.s 3) 32), .g 38 true 43 (.ldl 42 3 (.s 41) 2 true), .g 38 true 44 (.call 44 39 false [(.s 40),(.s 42)]), .i (.pick 44 (.s 38) (.s 43) (qb false)),qm 45 44, .g 45 true 47 (.fad 46 (.s 2) 34), .g 45 true 48 (.ldl 47 2 (.s 46) 6 true), .g 45 true 49 (.fad 48 (.s 3) 34), .g 45 true 50 (.ldl 49 3 (.s 48) 6 true), .g 45 true 51 (.call 51 42 false [(.s 47),(.s 49)]), .i (.pick 51 (.s 45) (.s 50) (qb false)),qm 52 51, .g 52 true 54 (.fad 53 (.s 2) 40), .g 52 true 55 (.ldl 54 2 (.s 53) 5 true), .g 52 true 56 (.fad 55 (.s 3) 40), .g 52 true 57 (.ldl 56 3 (.s 55) 5 true), .g 52 true 58 (.call 58 45 false [(.s 54),(.s 56)]), .i (.pick 58 (.s 52) (.s 57) (qb false)),qm 4 58]) .ret))⟩
theorem Bl:cd pz=some pM:=by kernel_rfl
theorem cE (a b:aS) (ha:a.wc) (hb:b.wc):VC cd pz (aB [(true,a.c),(true,b.c)]) (fun rs _=>rs=bl (l4 a b)):=by
 refine aa Bl rfl ?_
 simp(disch:=omega) [pM,aS.c,VY]
 refine ab (fun h1=> ?_) (fun h1=> ?_) <;>simp(disch:=omega) [h1,l4,VY]
 refine ao (k9 a.vote b.vote) ?_ (ha:=by first|rfl|(simp[aW.c,VY] <;>repeat' constructor))
 simp(disch:=omega) [h1,VY]
 refine an (fun h2=> ?_) (fun h2=> ?_) <;>simp(disch:=omega) [h1,h2,VY]
 refine ao (fv a.qc b.qc ha.qc.1 hb.qc.1) ?_ (ha:=by first|rfl|(simp[Qc.c,VY] <;>repeat' constructor))
 simp(disch:=omega) [h1,h2,VY]
 refine an (fun h3=> ?_) (fun h3=> ?_) <;>simp(disch:=omega) [h1,h2,h3,VY]
 refine ao (eb a.head b.head ha.head.1 hb.head.1) ?_ (ha:=by first|rfl|(simp[Head.c,VY] <;>repeat' constructor))
 simp(disch:=omega) [h1,h2,h3,VY]
 refine an (fun h4=> ?_) (fun h4=> ?_) <;>simp(disch:=omega) [h1,h2,h3,h4,VY]
 refine ao (jq a.block b.block ha.block.1 hb.block.1) ?_ (ha:=by first|rfl|(simp[Block.c,Head.c,VY] <;>repeat' constructor))
 simp(disch:=omega) [h1,h2,h3,h4,VY]
 refine an (fun h5=> ?_) (fun h5=> ?_) <;>simp(disch:=omega) [h1,h2,h3,h4,h5,VY]
 refine ao (oj a.tc b.tc ha.tc hb.tc) ?_ (ha:=by first|rfl|(simp[Tc.c,VY] <;>repeat' constructor))
 simp(disch:=omega) [h1,h2,h3,h4,h5,VY]
 refine an (fun h6=> ?_) (fun h6=> ?_) <;>simp(disch:=omega) [h1,h2,h3,h4,h5,h6,VY]
 refine ao (iV a.proof b.proof ha.proof.1 hb.proof.1) ?_ (ha:=by first|rfl|(simp[Proof.c,VY] <;>repeat' constructor))
 simp(disch:=omega) [h1,h2,h3,h4,h5,h6,VY]
 refine an (fun h7=> ?_) (fun h7=> ?_) <;>simp(disch:=omega) [h1,h2,h3,h4,h5,h6,h7,VY]
 refine ao (kn a.incl b.incl ha.incl hb.incl) ?_ (ha:=by first|rfl|(simp[aN.c,VY] <;>repeat' constructor))
 simp(disch:=omega) [h1,h2,h3,h4,h5,h6,h7,VY]
abbrev rB:Nat:=239
def qC:AF:=⟨2,6,[.tmp 4],(.seq (.ops [.i (.lbox 2 (.s 0)), .i (.lbox 3 (.s 1)), .i (.mov 4 (qb false))]) (.seq (.ops [qf 5 2 0,ql 6 2 5 1 false,qf 7 3 0,ql 8 3 7 1 false,qd 9 .eql 6 8,qm 10 9, .g 10 true 12 (.fad 11 (.s 2) 1), .g 10 true 13 (.ldl 12 2 (.s 11) 5 true), .g 10 true 14 (.fad 13 (.s 3) 1), .g 10 true 15 (.ldl 14 3 (.s 13) 5 true), .g 10 true 16 (.call 16 298 false [(.s 12),(.s 14)]), .i (.pick 16 (.s 10) (.s 15) (qb false)),qm 17 16, .g 17 true 19 (.fad 18 (.s 2) 6), .g 17 true 20 (.ldl 19 2 (.s 18) 5 true), .g 17 true 21 (.fad 20 (.s 3) 6), .g 17 true 22 (.ldl 21 3 (.s 20) 5 true), .g 17 true 23 (.call 23 299 false [(.s 19),(.s 21)]), .i (.pick 23 (.s 17) (.s 22) (qb false)),qm 24 23, .g 24 true 26 (.fad 25 (.s 2) 11), .g 24 true 27 (.ldl 26 2 (.s 25) 10 true), .g 24 true 28 (.fad 27 (.s 3) 11), .g 24 true 29 (.ldl 28 3 (.s 27) 10 true), .g 24 true 30 (.call 30 300 false [(.s 26),(.s 28)]), .i (.pick 30 (.s 24) (.s 29) (qb false)),qm 31 30, .g 31 true 33 (.fad 32 (.s 2) 21), .g 31 true 34 (.ldl 33 2 (.s 32) 11 true), .g 31 true 35 (.fad 34 (.s 3) 21), .g 31 true 36 (.ldl 35 3 (.s 34) 11 true), .g 31 true 37 (.call 37 301 false [(.s 33),(.s 35)]), .i (.pick 37 (.s 31) (.s 36) (qb false)),qm 38 37, .g 38 true 40 (.fad 39 (.s 2) 32), .g 38 true 41 (.ldl 40 2 (.s 39) 2 true), .g 38 true 42 (.fad 41 (.s 3) 32), .g 38 true 43 (.ldl 42 3 (.s 41) 2 true), .g 38 true 44 (.call 44 302 false [(.s 40),(.s 42)]), .i (.pick 44 (.s 38) (.s 43) (qb false)),qm 45 44, .g 45 true 47 (.fad 46 (.s 2) 34), .g 45 true 48 (.ldl 47 2 (.s 46) 6 true), .g 45 true 49 (.fad 48 (.s 3) 34), .g 45 true 50 (.ldl 49 3 (.s 48) 6 true), .g 45 true 51 (.call 51 303 false [(.s 47),(.s 49)]), .i (.pick 51 (.s 45) (.s 50) (qb false)),qm 52 51, .g 52 true 54 (.fad 53 (.s 2) 40), .g 52 true 55 (.ldl 54 2 (.s 53) 5 true), .g 52 true 56 (.fad 55 (.s 3) 40), .g 52 true 57 (.ldl 56 3 (.s 55) 5 true), .g 52 true 58 (.call 58 304 false [(.s 54),(.s 56)]), .i (.pick 58 (.s 52) (.s 57) (qb false)),qm 4 58]) .ret))⟩
theorem BQ:cd rB=some qC:=by kernel_rfl
theorem cA (a b:aS) (ha:a.wc) (hb:b.wc):VC cd rB (aB [(true,a.c),(true,b.c)]) (fun rs _=>rs=bl (l4 a b)):=by
 refine aa BQ rfl ?_
 simp(disch:=omega) [qC,aS.c,VY]
 refine ab (fun h1=> ?_) (fun h1=> ?_) <;>simp(disch:=omega) [h1,l4,VY]
 refine ao (xi a.vote b.vote) ?_ (ha:=by first|rfl|(simp[aW.c,VY] <;>repeat' constructor))
 simp(disch:=omega) [h1,VY]
 refine an (fun h2=> ?_) (fun h2=> ?_) <;>simp(disch:=omega) [h1,h2,VY]
 refine ao (hZ a.qc b.qc ha.qc.1 hb.qc.1) ?_ (ha:=by first|rfl|(simp[Qc.c,VY] <;>repeat' constructor))
 simp(disch:=omega) [h1,h2,VY]
 refine an (fun h3=> ?_) (fun h3=> ?_) <;>simp(disch:=omega) [h1,h2,h3,VY]
 refine ao (fU a.head b.head ha.head.1 hb.head.1) ?_ (ha:=by first|rfl|(simp[Head.c,VY] <;>repeat' constructor))
 simp(disch:=omega) [h1,h2,h3,VY]
 refine an (fun h4=> ?_) (fun h4=> ?_) <;>simp(disch:=omega) [h1,h2,h3,h4,VY]
 refine ao (vD a.block b.block ha.block.1 hb.block.1) ?_ (ha:=by first|rfl|(simp[Block.c,Head.c,VY] <;>repeat' constructor))
 simp(disch:=omega) [h1,h2,h3,h4,VY]
 refine an (fun h5=> ?_) (fun h5=> ?_) <;>simp(disch:=omega) [h1,h2,h3,h4,h5,VY]
 refine ao (Bw a.tc b.tc ha.tc hb.tc) ?_ (ha:=by first|rfl|(simp[Tc.c,VY] <;>repeat' constructor))
 simp(disch:=omega) [h1,h2,h3,h4,h5,VY]
 refine an (fun h6=> ?_) (fun h6=> ?_) <;>simp(disch:=omega) [h1,h2,h3,h4,h5,h6,VY]
 refine ao (wC a.proof b.proof ha.proof.1 hb.proof.1) ?_ (ha:=by first|rfl|(simp[Proof.c,VY] <;>repeat' constructor))
 simp(disch:=omega) [h1,h2,h3,h4,h5,h6,VY]
 refine an (fun h7=> ?_) (fun h7=> ?_) <;>simp(disch:=omega) [h1,h2,h3,h4,h5,h6,h7,VY]
 refine ao (x6 a.incl b.incl ha.incl hb.incl) ?_ (ha:=by first|rfl|(simp[aN.c,VY] <;>repeat' constructor))
 simp(disch:=omega) [h1,h2,h3,h4,h5,h6,h7,VY]
def ec (x:aW):List (Bool×List E):= [(true,[.p (.int .i64 1), .p (.int .i64 x.view), .p (.int .i64 x.height), .o true (some (5,1)) (bytes x.block), .p (.int .i64 x.who), .o true (some (5,1)) (bytes x.tag), .p (.int .i64 0), .p (.int .i64 0), .p .nils, .p .nils, .p .nils, .p (.int .i64 0), .p (.int .i64 0), .p (.int .i64 0), .p .nils, .p .nils, .p (.int .i64 0), .p (.int .i64 0), .p .nils, .p .nils, .p .nils, .p (.int .i64 0), .p (.int .i64 0), .p (.int .i64 0), .p .nils, .p .nils, .p (.int .i64 0), .p (.int .i64 0), .p .nils, .p .nils, .p .nils, .p .nils, .p (.int .i64 0), .p .nils, .p .nils, .p (.int .i64 0), .p (.int .i64 0), .p .nils, .p .nils, .p .nils, .p (.int .i64 0), .p (.int .i64 0), .p (.int .i64 0), .p .nils, .p .nils])]
def rQ (x:Qc):List (Bool×List E):= [(true,[.p (.int .i64 2), .p (.int .i64 0), .p (.int .i64 0), .p .nils, .p (.int .i64 0), .p .nils, .p (.int .i64 x.view), .p (.int .i64 x.height), .o true (some (5,1)) (bytes x.block), .o true (some (5,1)) (bytes x.bits), .o true (some (22,1)) (bm x.tags), .p (.int .i64 0), .p (.int .i64 0), .p (.int .i64 0), .p .nils, .p .nils, .p (.int .i64 0), .p (.int .i64 0), .p .nils, .p .nils, .p .nils, .p (.int .i64 0), .p (.int .i64 0), .p (.int .i64 0), .p .nils, .p .nils, .p (.int .i64 0), .p (.int .i64 0), .p .nils, .p .nils, .p .nils, .p .nils, .p (.int .i64 0), .p .nils, .p .nils, .p (.int .i64 0), .p (.int .i64 0), .p .nils, .p .nils, .p .nils, .p (.int .i64 0), .p (.int .i64 0), .p (.int .i64 0), .p .nils, .p .nils])]
def fc (x:Head):List (Bool×List E):= [(true,[.p (.int .i64 3), .p (.int .i64 0), .p (.int .i64 0), .p .nils, .p (.int .i64 0), .p .nils, .p (.int .i64 0), .p (.int .i64 0), .p .nils, .p .nils, .p .nils, .p (.int .i64 x.view), .p (.int .i64 x.height), .p (.int .i64 x.proposer), .o true (some (5,1)) (bytes x.parent), .o true (some (5,1)) (bytes x.root), .p (.int .i64 x.qc.view), .p (.int .i64 x.qc.height), .o true (some (5,1)) (bytes x.qc.block), .o true (some (5,1)) (bytes x.qc.bits), .o true (some (22,1)) (bm x.qc.tags), .p (.int .i64 0), .p (.int .i64 0), .p (.int .i64 0), .p .nils, .p .nils, .p (.int .i64 0), .p (.int .i64 0), .p .nils, .p .nils, .p .nils, .p .nils, .p (.int .i64 0), .p .nils, .p .nils, .p (.int .i64 0), .p (.int .i64 0), .p .nils, .p .nils, .p .nils, .p (.int .i64 0), .p (.int .i64 0), .p (.int .i64 0), .p .nils, .p .nils])]
def eX (x:aN):List (Bool×List E):= [(true,[.p (.int .i64 7), .p (.int .i64 0), .p (.int .i64 0), .p .nils, .p (.int .i64 0), .p .nils, .p (.int .i64 0), .p (.int .i64 0), .p .nils, .p .nils, .p .nils, .p (.int .i64 0), .p (.int .i64 0), .p (.int .i64 0), .p .nils, .p .nils, .p (.int .i64 0), .p (.int .i64 0), .p .nils, .p .nils, .p .nils, .p (.int .i64 0), .p (.int .i64 0), .p (.int .i64 0), .p .nils, .p .nils, .p (.int .i64 0), .p (.int .i64 0), .p .nils, .p .nils, .p .nils, .p .nils, .p (.int .i64 0), .p .nils, .p .nils, .p (.int .i64 0), .p (.int .i64 0), .p .nils, .p .nils, .p .nils, .p (.int .i64 x.height), .p (.int .i64 x.n), .p (.int .i64 x.idx), .o true (some (5,1)) (bytes x.tx), .o true (some (22,1)) (bm x.path)])]
abbrev tk:Nat:=196
def tJ:AF:=⟨1,4,[.cell 2 45 true],(.seq (.ops [.i (.lbox 1 (.s 0)), .i (.lal 2 [.int .i64 0, .int .i64 0, .int .i64 0, .nils, .int .i64 0, .nils, .int .i64 0, .int .i64 0, .nils, .nils, .nils, .int .i64 0, .int .i64 0, .int .i64 0, .nils, .nils, .int .i64 0, .int .i64 0, .nils, .nils, .nils, .int .i64 0, .int .i64 0, .int .i64 0, .nils, .nils, .int .i64 0, .int .i64 0, .nils, .nils, .nils, .nils, .int .i64 0, .nils, .nils, .int .i64 0, .int .i64 0, .nils, .nils, .nils, .int .i64 0, .int .i64 0, .int .i64 0, .nils, .nils])]) (.seq (.ops [qf 3 1 2,ql 4 1 3 1 false,qk 6 93 4,qf 6 1 4,ql 7 1 6 1 false,qk 9 93 7,qf 9 1 2,qs 1 9 5 1,qf 10 1 4,qs 1 10 8 1]) (.seq (.ops [ql 11 1 1 5 true, .i (.bld 12 [.int .i64 0, .int .i64 0, .int .i64 0, .nils, .int .i64 0, .nils, .int .i64 0, .int .i64 0, .nils, .nils, .nils, .int .i64 0, .int .i64 0, .int .i64 0, .nils, .nils, .int .i64 0, .int .i64 0, .nils, .nils, .nils, .int .i64 0, .int .i64 0, .int .i64 0, .nils, .nils, .int .i64 0, .int .i64 0, .nils, .nils, .nils, .nils, .int .i64 0, .nils, .nils, .int .i64 0, .int .i64 0, .nils, .nils, .nils, .int .i64 0, .int .i64 0, .int .i64 0, .nils, .nils] [(0,1,(qi 1)),(1,5,(.s 11))]),qs 2 2 12 45]) .ret)))⟩
theorem CE:cd tk=some tJ:=by kernel_rfl
theorem BC (x:aW) (hw:x.wf):VC cd tk (aB [(true,x.c)]) (fun rs _=>rs=ec x):=by
 have w1:=hw.2.2.1
 have w2:=hw.2.2.2.2
 simp only[Sz]at w1 w2
 refine aa CE rfl ?_
 simp(disch:=omega) [tJ,aW.c,VY]
 refine ao (aI x.block (by omega)) ?_
 simp(disch:=omega) [VY]
 refine ao (aI x.tag (by omega)) ?_
 simp(disch:=omega) [ec,VY]
abbrev sW:Nat:=160
def tS:AF:=⟨1,4,[.cell 2 45 true],(.seq (.ops [.i (.lbox 1 (.s 0)), .i (.lal 2 [.int .i64 0, .int .i64 0, .int .i64 0, .nils, .int .i64 0, .nils, .int .i64 0, .int .i64 0, .nils, .nils, .nils, .int .i64 0, .int .i64 0, .int .i64 0, .nils, .nils, .int .i64 0, .int .i64 0, .nils, .nils, .nils, .int .i64 0, .int .i64 0, .int .i64 0, .nils, .nils, .int .i64 0, .int .i64 0, .nils, .nils, .nils, .nils, .int .i64 0, .nils, .nils, .int .i64 0, .int .i64 0, .nils, .nils, .nils, .int .i64 0, .int .i64 0, .int .i64 0, .nils, .nils])]) (.seq (.ops [qf 3 1 2,ql 4 1 3 1 false,qk 6 143 4,qf 6 1 2,qs 1 6 5 1]) (.seq (.ops [qf 7 1 4,ql 8 1 7 1 false,qk 10 143 8,qf 10 1 4,qs 1 10 9 1]) (.seq (.ops [ql 11 1 1 5 true, .i (.bld 12 [.int .i64 0, .int .i64 0, .int .i64 0, .nils, .int .i64 0, .nils, .int .i64 0, .int .i64 0, .nils, .nils, .nils, .int .i64 0, .int .i64 0, .int .i64 0, .nils, .nils, .int .i64 0, .int .i64 0, .nils, .nils, .nils, .int .i64 0, .int .i64 0, .int .i64 0, .nils, .nils, .int .i64 0, .int .i64 0, .nils, .nils, .nils, .nils, .int .i64 0, .nils, .nils, .int .i64 0, .int .i64 0, .nils, .nils, .nils, .int .i64 0, .int .i64 0, .int .i64 0, .nils, .nils] [(0,1,(qi 1)),(1,5,(.s 11))]),qs 2 2 12 45]) .ret))))⟩
theorem C5:cd sW=some tS:=by kernel_rfl
theorem fb (x:aW) (hw:x.wf):VC cd sW (aB [(true,x.c)]) (fun rs _=>rs=ec x):=by
 have w1:=hw.2.2.1
 have w2:=hw.2.2.2.2
 simp only[Sz]at w1 w2
 refine aa C5 rfl ?_
 simp(disch:=omega) [tS,aW.c,VY]
 refine ao (bY x.block (by omega)) ?_
 simp(disch:=omega) [VY]
 refine ao (bY x.tag (by omega)) ?_
 simp(disch:=omega) [ec,VY]
abbrev yj:Nat:=197
def yl:AF:=⟨1,3,[.cell 2 45 true],(.seq (.ops [.i (.lbox 1 (.s 0)), .i (.lal 2 [.int .i64 0, .int .i64 0, .int .i64 0, .nils, .int .i64 0, .nils, .int .i64 0, .int .i64 0, .nils, .nils, .nils, .int .i64 0, .int .i64 0, .int .i64 0, .nils, .nils, .int .i64 0, .int .i64 0, .nils, .nils, .nils, .int .i64 0, .int .i64 0, .int .i64 0, .nils, .nils, .int .i64 0, .int .i64 0, .nils, .nils, .nils, .nils, .int .i64 0, .nils, .nils, .int .i64 0, .int .i64 0, .nils, .nils, .nils, .int .i64 0, .int .i64 0, .int .i64 0, .nils, .nils])]) (.seq (.ops [ql 3 1 1 5 true,qk 5 204 3, .i (.bld 5 [.int .i64 0, .int .i64 0, .int .i64 0, .nils, .int .i64 0, .nils, .int .i64 0, .int .i64 0, .nils, .nils, .nils, .int .i64 0, .int .i64 0, .int .i64 0, .nils, .nils, .int .i64 0, .int .i64 0, .nils, .nils, .nils, .int .i64 0, .int .i64 0, .int .i64 0, .nils, .nils, .int .i64 0, .int .i64 0, .nils, .nils, .nils, .nils, .int .i64 0, .nils, .nils, .int .i64 0, .int .i64 0, .nils, .nils, .nils, .int .i64 0, .int .i64 0, .int .i64 0, .nils, .nils] [(0,1,(qi 2)),(6,5,(.s 4))]),qs 2 2 5 45]) .ret))⟩
theorem GH:cd yj=some yl:=by kernel_rfl
theorem Fv (x:Qc) (hw:x.wc):VC cd yj (aB [(true,x.c)]) (fun rs _=>rs=rQ x):=by
 refine aa GH rfl ?_
 simp(disch:=omega) [yl,Qc.c,VY]
 refine ao (lM x hw) ?_ (ha:=by first|rfl|(simp[Qc.c,VY] <;>repeat' constructor))
 simp(disch:=omega) [rQ,Qc.o,VY]
abbrev yh:Nat:=184
def yD:AF:=⟨1,3,[.cell 2 45 true],(.seq (.ops [.i (.lbox 1 (.s 0)), .i (.lal 2 [.int .i64 0, .int .i64 0, .int .i64 0, .nils, .int .i64 0, .nils, .int .i64 0, .int .i64 0, .nils, .nils, .nils, .int .i64 0, .int .i64 0, .int .i64 0, .nils, .nils, .int .i64 0, .int .i64 0, .nils, .nils, .nils, .int .i64 0, .int .i64 0, .int .i64 0, .nils, .nils, .int .i64 0, .int .i64 0, .nils, .nils, .nils, .nils, .int .i64 0, .nils, .nils, .int .i64 0, .int .i64 0, .nils, .nils, .nils, .int .i64 0, .int .i64 0, .int .i64 0, .nils, .nils])]) (.seq (.ops [ql 3 1 1 5 true,qk 5 264 3, .i (.bld 5 [.int .i64 0, .int .i64 0, .int .i64 0, .nils, .int .i64 0, .nils, .int .i64 0, .int .i64 0, .nils, .nils, .nils, .int .i64 0, .int .i64 0, .int .i64 0, .nils, .nils, .int .i64 0, .int .i64 0, .nils, .nils, .nils, .int .i64 0, .int .i64 0, .int .i64 0, .nils, .nils, .int .i64 0, .int .i64 0, .nils, .nils, .nils, .nils, .int .i64 0, .nils, .nils, .int .i64 0, .int .i64 0, .nils, .nils, .nils, .int .i64 0, .int .i64 0, .int .i64 0, .nils, .nils] [(0,1,(qi 2)),(6,5,(.s 4))]),qs 2 2 5 45]) .ret))⟩
theorem GU:cd yh=some yD:=by kernel_rfl
theorem vq (x:Qc) (hw:x.wc):VC cd yh (aB [(true,x.c)]) (fun rs _=>rs=rQ x):=by
 refine aa GU rfl ?_
 simp(disch:=omega) [yD,Qc.c,VY]
 refine ao (uK x hw) ?_ (ha:=by first|rfl|(simp[Qc.c,VY] <;>repeat' constructor))
 simp(disch:=omega) [rQ,Qc.o,VY]
abbrev tH:Nat:=198
def tG:AF:=⟨1,3,[.cell 2 45 true],(.seq (.ops [.i (.lbox 1 (.s 0)), .i (.lal 2 [.int .i64 0, .int .i64 0, .int .i64 0, .nils, .int .i64 0, .nils, .int .i64 0, .int .i64 0, .nils, .nils, .nils, .int .i64 0, .int .i64 0, .int .i64 0, .nils, .nils, .int .i64 0, .int .i64 0, .nils, .nils, .nils, .int .i64 0, .int .i64 0, .int .i64 0, .nils, .nils, .int .i64 0, .int .i64 0, .nils, .nils, .nils, .nils, .int .i64 0, .nils, .nils, .int .i64 0, .int .i64 0, .nils, .nils, .nils, .int .i64 0, .int .i64 0, .int .i64 0, .nils, .nils])]) (.seq (.ops [ql 3 1 1 10 true,qk 5 205 3, .i (.bld 5 [.int .i64 0, .int .i64 0, .int .i64 0, .nils, .int .i64 0, .nils, .int .i64 0, .int .i64 0, .nils, .nils, .nils, .int .i64 0, .int .i64 0, .int .i64 0, .nils, .nils, .int .i64 0, .int .i64 0, .nils, .nils, .nils, .int .i64 0, .int .i64 0, .int .i64 0, .nils, .nils, .int .i64 0, .int .i64 0, .nils, .nils, .nils, .nils, .int .i64 0, .nils, .nils, .int .i64 0, .int .i64 0, .nils, .nils, .nils, .int .i64 0, .int .i64 0, .int .i64 0, .nils, .nils] [(0,1,(qi 3)),(11,10,(.s 4))]),qs 2 2 5 45]) .ret))⟩
theorem CU:cd tH=some tG:=by kernel_rfl
theorem Aj (x:Head) (hw:x.wc):VC cd tH (aB [(true,x.c)]) (fun rs _=>rs=fc x):=by
 refine aa CU rfl ?_
 simp(disch:=omega) [tG,Head.c,VY]
 refine ao (iN x hw) ?_ (ha:=by first|rfl|(simp[Head.c,VY] <;>repeat' constructor))
 simp(disch:=omega) [fc,Head.o,VY]
abbrev uw:Nat:=186
def tF:AF:=⟨1,3,[.cell 2 45 true],(.seq (.ops [.i (.lbox 1 (.s 0)), .i (.lal 2 [.int .i64 0, .int .i64 0, .int .i64 0, .nils, .int .i64 0, .nils, .int .i64 0, .int .i64 0, .nils, .nils, .nils, .int .i64 0, .int .i64 0, .int .i64 0, .nils, .nils, .int .i64 0, .int .i64 0, .nils, .nils, .nils, .int .i64 0, .int .i64 0, .int .i64 0, .nils, .nils, .int .i64 0, .int .i64 0, .nils, .nils, .nils, .nils, .int .i64 0, .nils, .nils, .int .i64 0, .int .i64 0, .nils, .nils, .nils, .int .i64 0, .int .i64 0, .int .i64 0, .nils, .nils])]) (.seq (.ops [ql 3 1 1 10 true,qk 5 267 3, .i (.bld 5 [.int .i64 0, .int .i64 0, .int .i64 0, .nils, .int .i64 0, .nils, .int .i64 0, .int .i64 0, .nils, .nils, .nils, .int .i64 0, .int .i64 0, .int .i64 0, .nils, .nils, .int .i64 0, .int .i64 0, .nils, .nils, .nils, .int .i64 0, .int .i64 0, .int .i64 0, .nils, .nils, .int .i64 0, .int .i64 0, .nils, .nils, .nils, .nils, .int .i64 0, .nils, .nils, .int .i64 0, .int .i64 0, .nils, .nils, .nils, .int .i64 0, .int .i64 0, .int .i64 0, .nils, .nils] [(0,1,(qi 3)),(11,10,(.s 4))]),qs 2 2 5 45]) .ret))⟩
theorem CJ:cd uw=some tF:=by kernel_rfl
theorem qL (x:Head) (hw:x.wc):VC cd uw (aB [(true,x.c)]) (fun rs _=>rs=fc x):=by
 refine aa CJ rfl ?_
 simp(disch:=omega) [tF,Head.c,VY]
 refine ao (lS x hw) ?_ (ha:=by first|rfl|(simp[Head.c,VY] <;>repeat' constructor))
 simp(disch:=omega) [fc,Head.o,VY]
abbrev uj:Nat:=202
def uD:AF:=⟨1,3,[.cell 2 45 true],(.seq (.ops [.i (.lbox 1 (.s 0)), .i (.lal 2 [.int .i64 0, .int .i64 0, .int .i64 0, .nils, .int .i64 0, .nils, .int .i64 0, .int .i64 0, .nils, .nils, .nils, .int .i64 0, .int .i64 0, .int .i64 0, .nils, .nils, .int .i64 0, .int .i64 0, .nils, .nils, .nils, .int .i64 0, .int .i64 0, .int .i64 0, .nils, .nils, .int .i64 0, .int .i64 0, .nils, .nils, .nils, .nils, .int .i64 0, .nils, .nils, .int .i64 0, .int .i64 0, .nils, .nils, .nils, .int .i64 0, .int .i64 0, .int .i64 0, .nils, .nils])]) (.seq (.ops [ql 3 1 1 5 true,qk 5 209 3, .i (.bld 5 [.int .i64 0, .int .i64 0, .int .i64 0, .nils, .int .i64 0, .nils, .int .i64 0, .int .i64 0, .nils, .nils, .nils, .int .i64 0, .int .i64 0, .int .i64 0, .nils, .nils, .int .i64 0, .int .i64 0, .nils, .nils, .nils, .int .i64 0, .int .i64 0, .int .i64 0, .nils, .nils, .int .i64 0, .int .i64 0, .nils, .nils, .nils, .nils, .int .i64 0, .nils, .nils, .int .i64 0, .int .i64 0, .nils, .nils, .nils, .int .i64 0, .int .i64 0, .int .i64 0, .nils, .nils] [(0,1,(qi 7)),(40,5,(.s 4))]),qs 2 2 5 45]) .ret))⟩
theorem Db:cd uj=some uD:=by kernel_rfl
theorem A9 (x:aN) (hw:x.wc):VC cd uj (aB [(true,x.c)]) (fun rs _=>rs=eX x):=by
 refine aa Db rfl ?_
 simp(disch:=omega) [uD,aN.c,VY]
 refine ao (Bt x hw) ?_ (ha:=by first|rfl|(simp[aN.c,VY] <;>repeat' constructor))
 simp(disch:=omega) [eX,aN.o,VY]
abbrev uH:Nat:=194
def tE:AF:=⟨1,3,[.cell 2 45 true],(.seq (.ops [.i (.lbox 1 (.s 0)), .i (.lal 2 [.int .i64 0, .int .i64 0, .int .i64 0, .nils, .int .i64 0, .nils, .int .i64 0, .int .i64 0, .nils, .nils, .nils, .int .i64 0, .int .i64 0, .int .i64 0, .nils, .nils, .int .i64 0, .int .i64 0, .nils, .nils, .nils, .int .i64 0, .int .i64 0, .int .i64 0, .nils, .nils, .int .i64 0, .int .i64 0, .nils, .nils, .nils, .nils, .int .i64 0, .nils, .nils, .int .i64 0, .int .i64 0, .nils, .nils, .nils, .int .i64 0, .int .i64 0, .int .i64 0, .nils, .nils])]) (.seq (.ops [ql 3 1 1 5 true,qk 5 275 3, .i (.bld 5 [.int .i64 0, .int .i64 0, .int .i64 0, .nils, .int .i64 0, .nils, .int .i64 0, .int .i64 0, .nils, .nils, .nils, .int .i64 0, .int .i64 0, .int .i64 0, .nils, .nils, .int .i64 0, .int .i64 0, .nils, .nils, .nils, .int .i64 0, .int .i64 0, .int .i64 0, .nils, .nils, .int .i64 0, .int .i64 0, .nils, .nils, .nils, .nils, .int .i64 0, .nils, .nils, .int .i64 0, .int .i64 0, .nils, .nils, .nils, .int .i64 0, .int .i64 0, .int .i64 0, .nils, .nils] [(0,1,(qi 7)),(40,5,(.s 4))]),qs 2 2 5 45]) .ret))⟩
theorem C0:cd uH=some tE:=by kernel_rfl
theorem o7 (x:aN) (hw:x.wc):VC cd uH (aB [(true,x.c)]) (fun rs _=>rs=eX x):=by
 refine aa C0 rfl ?_
 simp(disch:=omega) [tE,aN.c,VY]
 refine ao (HA x hw) ?_ (ha:=by first|rfl|(simp[aN.c,VY] <;>repeat' constructor))
 simp(disch:=omega) [eX,aN.o,VY]
abbrev bF:Nat:=137
def bD:AF:=⟨1,6,[.cell 2 45 true],(.seq (.ops [.i (.lbox 1 (.s 0)), .i (.lal 2 [.int .i64 0, .int .i64 0, .int .i64 0, .nils, .int .i64 0, .nils, .int .i64 0, .int .i64 0, .nils, .nils, .nils, .int .i64 0, .int .i64 0, .int .i64 0, .nils, .nils, .int .i64 0, .int .i64 0, .nils, .nils, .nils, .int .i64 0, .int .i64 0, .int .i64 0, .nils, .nils, .int .i64 0, .int .i64 0, .nils, .nils, .nils, .nils, .int .i64 0, .nils, .nils, .int .i64 0, .int .i64 0, .nils, .nils, .nils, .int .i64 0, .int .i64 0, .int .i64 0, .nils, .nils])]) (.seq (.seq (.ops [qf 3 1 0,ql 4 1 3 1 false]) (.block 0 (.seq (.ops [.i (.bin 6 .eql (.s 4) (qi 1)),qm 5 6]) (.cond (.s 5) (.seq (.ops [qf 7 1 1,ql 8 1 7 5 true,qk 10 196 8,qs 2 2 9 45]) .ret) (.seq (.ops [.i (.bin 11 .eql (.s 4) (qi 2)),qm 10 11]) (.cond (.s 10) (.seq (.ops [qf 12 1 6,ql 13 1 12 5 true,qk 15 197 13,qs 2 2 14 45]) .ret) (.seq (.ops [.i (.bin 16 .eql (.s 4) (qi 3)),qm 15 16]) (.cond (.s 15) (.seq (.ops [qf 17 1 11,ql 18 1 17 10 true,qk 20 198 18,qs 2 2 19 45]) .ret) (.seq (.ops [.i (.bin 21 .eql (.s 4) (qi 4)),qm 20 21]) (.cond (.s 20) (.seq (.ops [qf 22 1 21,ql 23 1 22 11 true,qk 25 199 23,qs 2 2 24 45]) .ret) (.seq (.ops [.i (.bin 26 .eql (.s 4) (qi 5)),qm 25 26]) (.cond (.s 25) (.seq (.ops [qf 27 1 32,ql 28 1 27 2 true,qk 30 200 28,qs 2 2 29 45]) .ret) (.seq (.ops [.i (.bin 31 .eql (.s 4) (qi 6)),qm 30 31]) (.cond (.s 30) (.seq (.ops [qf 32 1 34,ql 33 1 32 6 true,qk 35 201 33,qs 2 2 34 45]) .ret) (.seq (.ops [.i (.bin 36 .eql (.s 4) (qi 7)),qm 35 36]) (.cond (.s 35) (.seq (.ops [qf 37 1 40,ql 38 1 37 5 true,qk 40 202 38,qs 2 2 39 45]) .ret) .skip)))))))))))))))) (.seq (.ops [.i (.bld 40 [.int .i64 0, .int .i64 0, .int .i64 0, .nils, .int .i64 0, .nils, .int .i64 0, .int .i64 0, .nils, .nils, .nils, .int .i64 0, .int .i64 0, .int .i64 0, .nils, .nils, .int .i64 0, .int .i64 0, .nils, .nils, .nils, .int .i64 0, .int .i64 0, .int .i64 0, .nils, .nils, .int .i64 0, .int .i64 0, .nils, .nils, .nils, .nils, .int .i64 0, .nils, .nils, .int .i64 0, .int .i64 0, .nils, .nils, .nils, .int .i64 0, .int .i64 0, .int .i64 0, .nils, .nils] []),qs 2 2 40 45]) .ret)))⟩
theorem bZ:cd bF=some bD:=by kernel_rfl
theorem EJ (m:aS) (hw:m.wc) (hk:m.kind=1):VC cd bF (aB [(true,m.c)]) (fun rs _=>rs=ec m.vote):=by
 refine aa bZ rfl ?_
 simp(disch:=omega) [bD,aS.c,hk,VY]
 refine ao (BC m.vote hw.vote) ?_ (ha:=by first|rfl|(simp[aW.c,VY] <;>repeat' constructor))
 simp(disch:=omega) [ec,VY]
abbrev cn:Nat:=240
def cj:AF:=⟨1,6,[.cell 2 45 true],(.seq (.ops [.i (.lbox 1 (.s 0)), .i (.lal 2 [.int .i64 0, .int .i64 0, .int .i64 0, .nils, .int .i64 0, .nils, .int .i64 0, .int .i64 0, .nils, .nils, .nils, .int .i64 0, .int .i64 0, .int .i64 0, .nils, .nils, .int .i64 0, .int .i64 0, .nils, .nils, .nils, .int .i64 0, .int .i64 0, .int .i64 0, .nils, .nils, .int .i64 0, .int .i64 0, .nils, .nils, .nils, .nils, .int .i64 0, .nils, .nils, .int .i64 0, .int .i64 0, .nils, .nils, .nils, .int .i64 0, .int .i64 0, .int .i64 0, .nils, .nils])]) (.seq (.seq (.ops [qf 3 1 0,ql 4 1 3 1 false]) (.block 0 (.seq (.ops [.i (.bin 6 .eql (.s 4) (qi 1)),qm 5 6]) (.cond (.s 5) (.seq (.ops [qf 7 1 1,ql 8 1 7 5 true,qk 10 160 8,qs 2 2 9 45]) .ret) (.seq (.ops [.i (.bin 11 .eql (.s 4) (qi 2)),qm 10 11]) (.cond (.s 10) (.seq (.ops [qf 12 1 6,ql 13 1 12 5 true,qk 15 184 13,qs 2 2 14 45]) .ret) (.seq (.ops [.i (.bin 16 .eql (.s 4) (qi 3)),qm 15 16]) (.cond (.s 15) (.seq (.ops [qf 17 1 11,ql 18 1 17 10 true,qk 20 186 18,qs 2 2 19 45]) .ret) (.seq (.ops [.i (.bin 21 .eql (.s 4) (qi 4)),qm 20 21]) (.cond (.s 20) (.seq (.ops [qf 22 1 21,ql 23 1 22 11 true,qk 25 188 23,qs 2 2 24 45]) .ret) (.seq (.ops [.i (.bin 26 .eql (.s 4) (qi 5)),qm 25 26]) (.cond (.s 25) (.seq (.ops [qf 27 1 32,ql 28 1 27 2 true,qk 30 190 28,qs 2 2 29 45]) .ret) (.seq (.ops [.i (.bin 31 .eql (.s 4) (qi 6)),qm 30 31]) (.cond (.s 30) (.seq (.ops [qf 32 1 34,ql 33 1 32 6 true,qk 35 192 33,qs 2 2 34 45]) .ret) (.seq (.ops [.i (.bin 36 .eql (.s 4) (qi 7)),qm 35 36]) (.cond (.s 35) (.seq (.ops [qf 37 1 40,ql 38 1 37 5 true,qk 40 194 38,qs 2 2 39 45]) .ret) .skip)))))))))))))))) (.seq (.ops [.i (.bld 40 [.int .i64 0, .int .i64 0, .int .i64 0, .nils, .int .i64 0, .nils, .int .i64 0, .int .i64 0, .nils, .nils, .nils, .int .i64 0, .int .i64 0, .int .i64 0, .nils, .nils, .int .i64 0, .int .i64 0, .nils, .nils, .nils, .int .i64 0, .int .i64 0, .int .i64 0, .nils, .nils, .int .i64 0, .int .i64 0, .nils, .nils, .nils, .nils, .int .i64 0, .nils, .nils, .int .i64 0, .int .i64 0, .nils, .nils, .nils, .int .i64 0, .int .i64 0, .int .i64 0, .nils, .nils] []),qs 2 2 40 45]) .ret)))⟩
theorem cS:cd cn=some cj:=by kernel_rfl
theorem Fa (m:aS) (hw:m.wc) (hk:m.kind=1):VC cd cn (aB [(true,m.c)]) (fun rs _=>rs=ec m.vote):=by
 refine aa cS rfl ?_
 simp(disch:=omega) [cj,aS.c,hk,VY]
 refine ao (fb m.vote hw.vote) ?_ (ha:=by first|rfl|(simp[aW.c,VY] <;>repeat' constructor))
 simp(disch:=omega) [ec,VY]
theorem ET (m:aS) (hw:m.wc) (hk:m.kind=2):VC cd bF (aB [(true,m.c)]) (fun rs _=>rs=rQ m.qc):=by
 refine aa bZ rfl ?_
 simp(disch:=omega) [bD,aS.c,hk,VY]
 refine ao (Fv m.qc hw.qc) ?_ (ha:=by first|rfl|(simp[Qc.c,VY] <;>repeat' constructor))
 simp(disch:=omega) [rQ,VY]
theorem EY (m:aS) (hw:m.wc) (hk:m.kind=2):VC cd cn (aB [(true,m.c)]) (fun rs _=>rs=rQ m.qc):=by
 refine aa cS rfl ?_
 simp(disch:=omega) [cj,aS.c,hk,VY]
 refine ao (vq m.qc hw.qc) ?_ (ha:=by first|rfl|(simp[Qc.c,VY] <;>repeat' constructor))
 simp(disch:=omega) [rQ,VY]
theorem Ff (m:aS) (hw:m.wc) (hk:m.kind=3):VC cd bF (aB [(true,m.c)]) (fun rs _=>rs=fc m.head):=by
 refine aa bZ rfl ?_
 simp(disch:=omega) [bD,aS.c,hk,VY]
 refine ao (Aj m.head hw.head) ?_ (ha:=by first|rfl|(simp[Head.c,VY] <;>repeat' constructor))
 simp(disch:=omega) [fc,VY]
theorem Eg (m:aS) (hw:m.wc) (hk:m.kind=3):VC cd cn (aB [(true,m.c)]) (fun rs _=>rs=fc m.head):=by
 refine aa cS rfl ?_
 simp(disch:=omega) [cj,aS.c,hk,VY]
 refine ao (qL m.head hw.head) ?_ (ha:=by first|rfl|(simp[Head.c,VY] <;>repeat' constructor))
 simp(disch:=omega) [fc,VY]
theorem EP (m:aS) (hw:m.wc) (hk:m.kind=4):VC cd bF (aB [(true,m.c)]) (fun rs _=>rs=dO m.block):=by
 refine aa bZ rfl ?_
 simp(disch:=omega) [bD,aS.c,hk,VY]
 refine ao (zJ m.block hw.block.1) ?_ (ha:=by first|rfl|(simp[Block.c,Head.c,VY] <;>repeat' constructor))
 simp(disch:=omega) [dO,VY]
theorem E5 (m:aS) (hw:m.wc) (hk:m.kind=4):VC cd cn (aB [(true,m.c)]) (fun rs _=>rs=dO m.block):=by
 refine aa cS rfl ?_
 simp(disch:=omega) [cj,aS.c,hk,VY]
 refine ao (nB m.block hw.block.1) ?_ (ha:=by first|rfl|(simp[Block.c,Head.c,VY] <;>repeat' constructor))
 simp(disch:=omega) [dO,VY]
theorem EC (m:aS) (hw:m.wc) (hk:m.kind=5):VC cd bF (aB [(true,m.c)]) (fun rs _=>rs=oP m.tc):=by
 refine aa bZ rfl ?_
 simp(disch:=omega) [bD,aS.c,hk,VY]
 refine ao (El m.tc hw.tc) ?_ (ha:=by first|rfl|(simp[Tc.c,VY] <;>repeat' constructor))
 simp(disch:=omega) [oP,VY]
theorem Ec (m:aS) (hw:m.wc) (hk:m.kind=5):VC cd cn (aB [(true,m.c)]) (fun rs _=>rs=oP m.tc):=by
 refine aa cS rfl ?_
 simp(disch:=omega) [cj,aS.c,hk,VY]
 refine ao (wj m.tc hw.tc) ?_ (ha:=by first|rfl|(simp[Tc.c,VY] <;>repeat' constructor))
 simp(disch:=omega) [oP,VY]
theorem EA (m:aS) (hw:m.wc) (hk:m.kind=6):VC cd bF (aB [(true,m.c)]) (fun rs _=>rs=d4 m.proof):=by
 refine aa bZ rfl ?_
 simp(disch:=omega) [bD,aS.c,hk,VY]
 refine ao (yN m.proof hw.proof) ?_ (ha:=by first|rfl|(simp[Proof.c,VY] <;>repeat' constructor))
 simp(disch:=omega) [d4,VY]
theorem Fi (m:aS) (hw:m.wc) (hk:m.kind=6):VC cd cn (aB [(true,m.c)]) (fun rs _=>rs=d4 m.proof):=by
 refine aa cS rfl ?_
 simp(disch:=omega) [cj,aS.c,hk,VY]
 refine ao (mO m.proof hw.proof) ?_ (ha:=by first|rfl|(simp[Proof.c,VY] <;>repeat' constructor))
 simp(disch:=omega) [d4,VY]
theorem FI (m:aS) (hw:m.wc) (hk:m.kind=7):VC cd bF (aB [(true,m.c)]) (fun rs _=>rs=eX m.incl):=by
 refine aa bZ rfl ?_
 simp(disch:=omega) [bD,aS.c,hk,VY]
 refine ao (A9 m.incl hw.incl) ?_ (ha:=by first|rfl|(simp[aN.c,VY] <;>repeat' constructor))
 simp(disch:=omega) [eX,VY]
theorem FG (m:aS) (hw:m.wc) (hk:m.kind=7):VC cd cn (aB [(true,m.c)]) (fun rs _=>rs=eX m.incl):=by
 refine aa cS rfl ?_
 simp(disch:=omega) [cj,aS.c,hk,VY]
 refine ao (o7 m.incl hw.incl) ?_ (ha:=by first|rfl|(simp[aN.c,VY] <;>repeat' constructor))
 simp(disch:=omega) [eX,VY]
def bn (m:aS):aS:=if m.kind=1 then {aK with kind:=1,vote:=m.vote}else if m.kind=2 then {aK with kind:=2,qc:=m.qc}else if m.kind=3 then {aK with kind:=3,head:=m.head}else if m.kind=4 then {aK with kind:=4,block:=m.block}else if m.kind=5 then {aK with kind:=5,tc:=m.tc}else if m.kind=6 then {aK with kind:=6,proof:=m.proof}else if m.kind=7 then {aK with kind:=7,incl:=m.incl}else aK
def ay (l:ah) (m:aS):Bool:=if m.kind=1 then jL l m.vote else if m.kind=2 then eg l m.qc else if m.kind=3 then bg l m.head else if m.kind=4 then ba l m.block else if m.kind=5 then f3 l m.tc else if m.kind=6 then b9 l m.proof else if m.kind=7 then dJ l m.incl else false
def bb (m:aS):Bytes:=if m.kind=1 then xL m.vote else if m.kind=2 then vy m.qc else if m.kind=3 then bE m.head else if m.kind=4 then cC m.block else if m.kind=5 then zt m.tc else if m.kind=6 then cw m.proof else dH m.incl
theorem ju {l:ah} {m:aS} (h:ay l m=true):m.kind=1∨m.kind=2∨m.kind=3∨m.kind=4∨m.kind=5∨m.kind=6∨m.kind=7:=by
 unfold ay at h
 repeat' split at h
 all_goals first|(simp at h;done)|omega
def bx (l:ah) (m:aS):Bool:=ay l m && l4 m (bn m)
abbrev o9:Nat:=131
def qj:AF:=⟨3,7,[.tmp 6, .tmp 7],(.seq (.ops [.i (.lbox 3 (.s 0)), .i (.lbox 4 (.s 1)), .i (.mov 6 (.c (.val false [.nils]))), .i (.mov 7 (qb false))]) (.seq (.seq (.ops [qf 8 3 0,ql 9 3 8 1 false]) (.block 0 (.seq (.ops [.i (.bin 11 .eql (.s 9) (qi 1)),qm 10 11]) (.cond (.s 10) (.seq (.ops [ql 12 4 4 5 true,qm 13 2,qf 14 3 1,ql 15 3 14 5 true, .i (.call 17 24 false [(.s 12),(.s 13),(.s 15)]), .i (.ext 17 (.s 16) 0), .i (.ext 18 (.s 16) 1),qm 6 17,qm 7 18]) .ret) (.seq (.ops [.i (.bin 20 .eql (.s 9) (qi 2)),qm 19 20]) (.cond (.s 19) (.seq (.ops [ql 21 4 4 5 true,qm 22 2,qf 23 3 6,ql 24 3 23 5 true, .i (.call 26 27 false [(.s 21),(.s 22),(.s 24)]), .i (.ext 26 (.s 25) 0), .i (.ext 27 (.s 25) 1),qm 6 26,qm 7 27]) .ret) (.seq (.ops [.i (.bin 29 .eql (.s 9) (qi 3)),qm 28 29]) (.cond (.s 28) (.seq (.ops [ql 30 4 4 5 true,qm 31 2,qf 32 3 11,ql 33 3 32 10 true, .i (.call 35 30 false [(.s 30),(.s 31),(.s 33)]), .i (.ext 35 (.s 34) 0), .i (.ext 36 (.s 34) 1),qm 6 35,qm 7 36]) .ret) (.seq (.ops [.i (.bin 38 .eql (.s 9) (qi 4)),qm 37 38]) (.cond (.s 37) (.seq (.ops [ql 39 4 4 5 true,qm 40 2,qf 41 3 21,ql 42 3 41 11 true, .i (.call 44 34 false [(.s 39),(.s 40),(.s 42)]), .i (.ext 44 (.s 43) 0), .i (.ext 45 (.s 43) 1),qm 6 44,qm 7 45]) .ret) (.seq (.ops [.i (.bin 47 .eql (.s 9) (qi 5)),qm 46 47]) (.cond (.s 46) (.seq (.ops [ql 48 4 4 5 true,qm 49 2,qf 50 3 32,ql 51 3 50 2 true, .i (.call 53 37 false [(.s 48),(.s 49),(.s 51)]), .i (.ext 53 (.s 52) 0), .i (.ext 54 (.s 52) 1),qm 6 53,qm 7 54]) .ret) (.seq (.ops [.i (.bin 56 .eql (.s 9) (qi 6)),qm 55 56]) (.cond (.s 55) (.seq (.ops [ql 57 4 4 5 true,qm 58 2,qf 59 3 34,ql 60 3 59 6 true, .i (.call 62 40 false [(.s 57),(.s 58),(.s 60)]), .i (.ext 62 (.s 61) 0), .i (.ext 63 (.s 61) 1),qm 6 62,qm 7 63]) .ret) (.seq (.ops [.i (.bin 65 .eql (.s 9) (qi 7)),qm 64 65]) (.cond (.s 64) (.seq (.ops [ql 66 4 4 5 true,qm 67 2,qf 68 3 40,ql 69 3 68 5 true, .i (.call 71 43 false [(.s 66),(.s 67),(.s 69)]), .i (.ext 71 (.s 70) 0), .i (.ext 72 (.s 70) 1),qm 6 71,qm 7 72]) .ret) .skip)))))))))))))))) (.seq (.ops [.i (.mov 6 (.c (.val false [.nils]))), .i (.mov 7 (qb false))]) .ret)))⟩
theorem Bz:cd o9=some qj:=by kernel_rfl
theorem ov (l:ah) (b:Bytes) (m:aS) (hw:m.wc) (hb:b.length≤800000000):VC cd o9 (aB [(true,m.c),(true,l.c),(false,[.sl (bytes b)])]) (fun rs _=>rs=bd (ay l m) (b++bb m)):=by
 refine aa Bz rfl ?_
 simp(disch:=omega) [qj,aS.c,ah.c,VY]
 refine ab (fun g1=> ?_) (fun g1=> ?_)
 ·have e1:ay l m=jL l m.vote:=by simp[ay,g1]
  have e2:bb m=xL m.vote:=by simp[bb,g1]
  rw[e1,e2]
  simp(disch:=omega) [g1,VY]
  cases hp:jL l m.vote
  ·refine ao ((gB l b m.vote (by omega)).re (cF hp)) ?_ (ha:=by first|rfl|(simp[ah.c,aW.c,VY] <;>repeat' constructor))
   simp(disch:=omega) [bd,g1,VY]
  ·refine ao ((gB l b m.vote (by omega)).re (bj hp)) ?_ (ha:=by first|rfl|(simp[ah.c,aW.c,VY] <;>repeat' constructor))
   simp(disch:=omega) [bd,g1,VY]
 simp(disch:=omega) [g1,VY]
 refine ab (fun g2=> ?_) (fun g2=> ?_)
 ·have e1:ay l m=eg l m.qc:=by simp[ay,g2]
  have e2:bb m=vy m.qc:=by simp[bb,g2]
  rw[e1,e2]
  simp(disch:=omega) [g2,VY]
  cases hp:eg l m.qc
  ·refine ao ((jC l b m.qc hw.qc.1 (by omega)).re (cF hp)) ?_ (ha:=by first|rfl|(simp[ah.c,Qc.c,VY] <;>repeat' constructor))
   simp(disch:=omega) [bd,g2,VY]
  ·refine ao ((jC l b m.qc hw.qc.1 (by omega)).re (bj hp)) ?_ (ha:=by first|rfl|(simp[ah.c,Qc.c,VY] <;>repeat' constructor))
   simp(disch:=omega) [bd,g2,VY]
 simp(disch:=omega) [g2,VY]
 refine ab (fun g3=> ?_) (fun g3=> ?_)
 ·have e1:ay l m=bg l m.head:=by simp[ay,g3]
  have e2:bb m=bE m.head:=by simp[bb,g3]
  rw[e1,e2]
  simp(disch:=omega) [g3,VY]
  cases hp:bg l m.head
  ·refine ao ((dF l b m.head hw.head.1 (by omega)).re (cF hp)) ?_ (ha:=by first|rfl|(simp[ah.c,Head.c,VY] <;>repeat' constructor))
   simp(disch:=omega) [bd,g3,VY]
  ·refine ao ((dF l b m.head hw.head.1 (by omega)).re (bj hp)) ?_ (ha:=by first|rfl|(simp[ah.c,Head.c,VY] <;>repeat' constructor))
   simp(disch:=omega) [bd,g3,VY]
 simp(disch:=omega) [g3,VY]
 refine ab (fun g4=> ?_) (fun g4=> ?_)
 ·have e1:ay l m=ba l m.block:=by simp[ay,g4]
  have e2:bb m=cC m.block:=by simp[bb,g4]
  rw[e1,e2]
  simp(disch:=omega) [g4,VY]
  cases hp:ba l m.block
  ·refine ao ((fZ l b m.block hw.block (by omega)).re (cF hp)) ?_ (ha:=by first|rfl|(simp[ah.c,Block.c,Head.c,VY] <;>repeat' constructor))
   simp(disch:=omega) [bd,g4,VY]
  ·refine ao ((fZ l b m.block hw.block (by omega)).re (bj hp)) ?_ (ha:=by first|rfl|(simp[ah.c,Block.c,Head.c,VY] <;>repeat' constructor))
   simp(disch:=omega) [bd,g4,VY]
 simp(disch:=omega) [g4,VY]
 refine ab (fun g5=> ?_) (fun g5=> ?_)
 ·have e1:ay l m=f3 l m.tc:=by simp[ay,g5]
  have e2:bb m=zt m.tc:=by simp[bb,g5]
  rw[e1,e2]
  simp(disch:=omega) [g5,VY]
  cases hp:f3 l m.tc
  ·refine ao ((jD l b m.tc hw.tc (by omega)).re (cF hp)) ?_ (ha:=by first|rfl|(simp[ah.c,Tc.c,VY] <;>repeat' constructor))
   simp(disch:=omega) [bd,g5,VY]
  ·refine ao ((jD l b m.tc hw.tc (by omega)).re (bj hp)) ?_ (ha:=by first|rfl|(simp[ah.c,Tc.c,VY] <;>repeat' constructor))
   simp(disch:=omega) [bd,g5,VY]
 simp(disch:=omega) [g5,VY]
 refine ab (fun g6=> ?_) (fun g6=> ?_)
 ·have e1:ay l m=b9 l m.proof:=by simp[ay,g6]
  have e2:bb m=cw m.proof:=by simp[bb,g6]
  rw[e1,e2]
  simp(disch:=omega) [g6,VY]
  cases hp:b9 l m.proof
  ·refine ao ((fX l b m.proof hw.proof (by omega)).re (cF hp)) ?_ (ha:=by first|rfl|(simp[ah.c,Proof.c,VY] <;>repeat' constructor))
   simp(disch:=omega) [bd,g6,VY]
  ·refine ao ((fX l b m.proof hw.proof (by omega)).re (bj hp)) ?_ (ha:=by first|rfl|(simp[ah.c,Proof.c,VY] <;>repeat' constructor))
   simp(disch:=omega) [bd,g6,VY]
 simp(disch:=omega) [g6,VY]
 refine ab (fun g7=> ?_) (fun g7=> ?_)
 ·have e1:ay l m=dJ l m.incl:=by simp[ay,g7]
  have e2:bb m=dH m.incl:=by simp[bb,g7]
  rw[e1,e2]
  simp(disch:=omega) [g7,VY]
  cases hp:dJ l m.incl
  ·refine ao ((gF l b m.incl hw.incl hw.tx (by omega)).re (cF hp)) ?_ (ha:=by first|rfl|(simp[ah.c,aN.c,VY] <;>repeat' constructor))
   simp(disch:=omega) [bd,g7,VY]
  ·refine ao ((gF l b m.incl hw.incl hw.tx (by omega)).re (bj hp)) ?_ (ha:=by first|rfl|(simp[ah.c,aN.c,VY] <;>repeat' constructor))
   simp(disch:=omega) [bd,g7,VY]
 have e1:ay l m=false:=by simp[ay,g1,g2,g3,g4,g5,g6,g7]
 rw[e1]
 simp(disch:=omega) [bd,g1,g2,g3,g4,g5,g6,g7,VY]
abbrev uB:Nat:=183
def tU:AF:=⟨3,7,[.tmp 6, .tmp 7],(.seq (.ops [.i (.lbox 3 (.s 0)), .i (.lbox 5 (.s 2)), .i (.mov 6 (.c (.val false [.nils]))), .i (.mov 7 (qb false))]) (.seq (.seq (.ops [qf 8 5 0,ql 9 5 8 1 false]) (.block 0 (.seq (.ops [.i (.bin 11 .eql (.s 9) (qi 1)),qm 10 11]) (.cond (.s 10) (.seq (.ops [ql 12 3 3 5 true,qm 13 1,qf 14 5 1,ql 15 5 14 5 true, .i (.call 17 257 false [(.s 12),(.s 13),(.s 15)]), .i (.ext 17 (.s 16) 0), .i (.ext 18 (.s 16) 1),qm 6 17,qm 7 18]) .ret) (.seq (.ops [.i (.bin 20 .eql (.s 9) (qi 2)),qm 19 20]) (.cond (.s 19) (.seq (.ops [ql 21 3 3 5 true,qm 22 1,qf 23 5 6,ql 24 5 23 5 true, .i (.call 26 258 false [(.s 21),(.s 22),(.s 24)]), .i (.ext 26 (.s 25) 0), .i (.ext 27 (.s 25) 1),qm 6 26,qm 7 27]) .ret) (.seq (.ops [.i (.bin 29 .eql (.s 9) (qi 3)),qm 28 29]) (.cond (.s 28) (.seq (.ops [ql 30 3 3 5 true,qm 31 1,qf 32 5 11,ql 33 5 32 10 true, .i (.call 35 259 false [(.s 30),(.s 31),(.s 33)]), .i (.ext 35 (.s 34) 0), .i (.ext 36 (.s 34) 1),qm 6 35,qm 7 36]) .ret) (.seq (.ops [.i (.bin 38 .eql (.s 9) (qi 4)),qm 37 38]) (.cond (.s 37) (.seq (.ops [ql 39 3 3 5 true,qm 40 1,qf 41 5 21,ql 42 5 41 11 true, .i (.call 44 260 false [(.s 39),(.s 40),(.s 42)]), .i (.ext 44 (.s 43) 0), .i (.ext 45 (.s 43) 1),qm 6 44,qm 7 45]) .ret) (.seq (.ops [.i (.bin 47 .eql (.s 9) (qi 5)),qm 46 47]) (.cond (.s 46) (.seq (.ops [ql 48 3 3 5 true,qm 49 1,qf 50 5 32,ql 51 5 50 2 true, .i (.call 53 261 false [(.s 48),(.s 49),(.s 51)]), .i (.ext 53 (.s 52) 0), .i (.ext 54 (.s 52) 1),qm 6 53,qm 7 54]) .ret) (.seq (.ops [.i (.bin 56 .eql (.s 9) (qi 6)),qm 55 56]) (.cond (.s 55) (.seq (.ops [ql 57 3 3 5 true,qm 58 1,qf 59 5 34,ql 60 5 59 6 true, .i (.call 62 262 false [(.s 57),(.s 58),(.s 60)]), .i (.ext 62 (.s 61) 0), .i (.ext 63 (.s 61) 1),qm 6 62,qm 7 63]) .ret) .skip)))))))))))))) (.seq (.ops [ql 64 3 3 5 true,qm 65 1,qf 66 5 40,ql 67 5 66 5 true, .i (.call 69 263 false [(.s 64),(.s 65),(.s 67)]), .i (.ext 69 (.s 68) 0), .i (.ext 70 (.s 68) 1),qm 6 69,qm 7 70]) .ret)))⟩
theorem Dt:cd uB=some tU:=by kernel_rfl
theorem bp (l:ah) (b:Bytes) (m:aS) (hw:m.wc) (hk:dv m.kind 1 7=true) (hb:b.length≤800000000):VC cd uB (aB [(true,l.c),(false,[.sl (bytes b)]),(true,m.c)]) (fun rs _=>rs=bd (ay l m) (b++bb m)):=by
 have hk2:=dN hk
 refine aa Dt rfl ?_
 simp(disch:=omega) [tU,aS.c,ah.c,VY]
 refine ab (fun g1=> ?_) (fun g1=> ?_)
 ·have e1:ay l m=jL l m.vote:=by simp[ay,g1]
  have e2:bb m=xL m.vote:=by simp[bb,g1]
  rw[e1,e2]
  simp(disch:=omega) [g1,VY]
  cases hp:jL l m.vote
  ·refine ao ((nZ l b m.vote (by omega)).re (cF hp)) ?_ (ha:=by first|rfl|(simp[ah.c,aW.c,VY] <;>repeat' constructor))
   simp(disch:=omega) [bd,g1,VY]
  ·refine ao ((nZ l b m.vote (by omega)).re (bj hp)) ?_ (ha:=by first|rfl|(simp[ah.c,aW.c,VY] <;>repeat' constructor))
   simp(disch:=omega) [bd,g1,VY]
 simp(disch:=omega) [g1,VY]
 refine ab (fun g2=> ?_) (fun g2=> ?_)
 ·have e1:ay l m=eg l m.qc:=by simp[ay,g2]
  have e2:bb m=vy m.qc:=by simp[bb,g2]
  rw[e1,e2]
  simp(disch:=omega) [g2,VY]
  cases hp:eg l m.qc
  ·refine ao ((f8 l b m.qc hw.qc.1 (by omega)).re (cF hp)) ?_ (ha:=by first|rfl|(simp[ah.c,Qc.c,VY] <;>repeat' constructor))
   simp(disch:=omega) [bd,g2,VY]
  ·refine ao ((f8 l b m.qc hw.qc.1 (by omega)).re (bj hp)) ?_ (ha:=by first|rfl|(simp[ah.c,Qc.c,VY] <;>repeat' constructor))
   simp(disch:=omega) [bd,g2,VY]
 simp(disch:=omega) [g2,VY]
 refine ab (fun g3=> ?_) (fun g3=> ?_)
 ·have e1:ay l m=bg l m.head:=by simp[ay,g3]
  have e2:bb m=bE m.head:=by simp[bb,g3]
  rw[e1,e2]
  simp(disch:=omega) [g3,VY]
  cases hp:bg l m.head
  ·refine ao ((c6 l b m.head hw.head.1 (by omega)).re (cF hp)) ?_ (ha:=by first|rfl|(simp[ah.c,Head.c,VY] <;>repeat' constructor))
   simp(disch:=omega) [bd,g3,VY]
  ·refine ao ((c6 l b m.head hw.head.1 (by omega)).re (bj hp)) ?_ (ha:=by first|rfl|(simp[ah.c,Head.c,VY] <;>repeat' constructor))
   simp(disch:=omega) [bd,g3,VY]
 simp(disch:=omega) [g3,VY]
 refine ab (fun g4=> ?_) (fun g4=> ?_)
 ·have e1:ay l m=ba l m.block:=by simp[ay,g4]
  have e2:bb m=cC m.block:=by simp[bb,g4]
  rw[e1,e2]
  simp(disch:=omega) [g4,VY]
  cases hp:ba l m.block
  ·refine ao ((la l b m.block hw.block (by omega)).re (cF hp)) ?_ (ha:=by first|rfl|(simp[ah.c,Block.c,Head.c,VY] <;>repeat' constructor))
   simp(disch:=omega) [bd,g4,VY]
  ·refine ao ((la l b m.block hw.block (by omega)).re (bj hp)) ?_ (ha:=by first|rfl|(simp[ah.c,Block.c,Head.c,VY] <;>repeat' constructor))
   simp(disch:=omega) [bd,g4,VY]
 simp(disch:=omega) [g4,VY]
 refine ab (fun g5=> ?_) (fun g5=> ?_)
 ·have e1:ay l m=f3 l m.tc:=by simp[ay,g5]
  have e2:bb m=zt m.tc:=by simp[bb,g5]
  rw[e1,e2]
  simp(disch:=omega) [g5,VY]
  cases hp:f3 l m.tc
  ·refine ao ((uq l b m.tc hw.tc (by omega)).re (cF hp)) ?_ (ha:=by first|rfl|(simp[ah.c,Tc.c,VY] <;>repeat' constructor))
   simp(disch:=omega) [bd,g5,VY]
  ·refine ao ((uq l b m.tc hw.tc (by omega)).re (bj hp)) ?_ (ha:=by first|rfl|(simp[ah.c,Tc.c,VY] <;>repeat' constructor))
   simp(disch:=omega) [bd,g5,VY]
 simp(disch:=omega) [g5,VY]
 refine ab (fun g6=> ?_) (fun g6=> ?_)
 ·have e1:ay l m=b9 l m.proof:=by simp[ay,g6]
  have e2:bb m=cw m.proof:=by simp[bb,g6]
  rw[e1,e2]
  simp(disch:=omega) [g6,VY]
  cases hp:b9 l m.proof
  ·refine ao ((kq l b m.proof hw.proof (by omega)).re (cF hp)) ?_ (ha:=by first|rfl|(simp[ah.c,Proof.c,VY] <;>repeat' constructor))
   simp(disch:=omega) [bd,g6,VY]
  ·refine ao ((kq l b m.proof hw.proof (by omega)).re (bj hp)) ?_ (ha:=by first|rfl|(simp[ah.c,Proof.c,VY] <;>repeat' constructor))
   simp(disch:=omega) [bd,g6,VY]
 simp(disch:=omega) [g6,VY]
 have g7:m.kind=7:=by omega
 have e1:ay l m=dJ l m.incl:=by simp[ay,g7]
 have e2:bb m=dH m.incl:=by simp[bb,g7]
 rw[e1,e2]
 cases hp:dJ l m.incl
 ·refine ao ((mE l b m.incl hw.incl hw.tx (by omega)).re (cF hp)) ?_ (ha:=by first|rfl|(simp[ah.c,aN.c,VY] <;>repeat' constructor))
  simp(disch:=omega) [bd,g7,VY]
 ·refine ao ((mE l b m.incl hw.incl hw.tx (by omega)).re (bj hp)) ?_ (ha:=by first|rfl|(simp[ah.c,aN.c,VY] <;>repeat' constructor))
  simp(disch:=omega) [bd,g7,VY]
theorem IZ {m:aS} (h:m.kind=1):bn m= {aK with kind:=1,vote:=m.vote}:=by simp[bn,h]
theorem I6 {m:aS} (h:m.kind=2):bn m= {aK with kind:=2,qc:=m.qc}:=by simp[bn,h]
theorem IQ {m:aS} (h:m.kind=3):bn m= {aK with kind:=3,head:=m.head}:=by simp[bn,h]
theorem Iy {m:aS} (h:m.kind=4):bn m= {aK with kind:=4,block:=m.block}:=by simp[bn,h]
theorem IJ {m:aS} (h:m.kind=5):bn m= {aK with kind:=5,tc:=m.tc}:=by simp[bn,h]
theorem Jn {m:aS} (h:m.kind=6):bn m= {aK with kind:=6,proof:=m.proof}:=by simp[bn,h]
theorem IW {m:aS} (h:m.kind=7):bn m= {aK with kind:=7,incl:=m.incl}:=by simp[bn,h]
theorem Hh {m:aS} (hw:m.wc):(bn m).wc:=by
 unfold bn
 repeat' split
 ·exact {jh with kind:=by simp only[lq];omega,vote:=hw.vote}
 ·exact {jh with kind:=by simp only[lq];omega,qc:=hw.qc}
 ·exact {jh with kind:=by simp only[lq];omega,head:=hw.head}
 ·exact {jh with kind:=by simp only[lq];omega,block:=hw.block}
 ·exact {jh with kind:=by simp only[lq];omega,tc:=hw.tc}
 ·exact {jh with kind:=by simp only[lq];omega,proof:=hw.proof}
 ·exact {jh with kind:=by simp only[lq];omega,incl:=hw.incl,tx:=hw.tx}
 ·exact jh
abbrev vX:Nat:=58
def vt:AF:=⟨2,5,[.tmp 4],(.seq (.ops [.i (.lbox 2 (.s 0)), .i (.lbox 3 (.s 1)), .i (.mov 4 (qb false))]) (.seq (.ops [ql 8 3 3 45 true,ql 9 2 2 5 true, .i (.call 11 131 false [(.s 8),(.s 9),(.c (.val false [.nils]))]),qm 7 10, .i (.ext 11 (.s 7) 0), .i (.ext 12 (.s 7) 1),qm 5 11,qm 6 12]) (.seq (.ops [qm 13 6,qm 14 13, .g 14 true 16 (.ldl 15 3 (.s 3) 45 true), .g 14 true 17 (.ldl 16 3 (.s 3) 45 true), .g 14 true 18 (.call 18 137 false [(.s 16)]), .g 14 true 19 (.call 19 54 false [(.s 15),(.s 17)]), .i (.pick 19 (.s 14) (.s 18) (qb false)),qm 4 19]) .ret)))⟩
theorem EV:cd vX=some vt:=by kernel_rfl
theorem CH (l:ah) (m:aS) (hw:m.wc):VC cd vX (aB [(true,l.c),(true,m.c)]) (fun rs _=>rs=bl (bx l m)):=by
 have hx:=Hh hw
 refine aa EV rfl ?_
 simp(disch:=omega) [vt,aS.c,ah.c,VY]
 cases hp:ay l m with
 |false=>
  refine ao ((ov l [] m hw (by simp)).re (cF hp)) ?_ (ha:=by first|rfl|(simp[aS.c,ah.c,ak,VY] <;>repeat' constructor))
  simp(disch:=omega) [bx,hp,VY]
 |true=>
  have e0:([]:Bytes)++bb m=bb m:=rfl
  refine ao ((ov l [] m hw (by simp)).re (bj hp)) ?_ (ha:=by first|rfl|(simp[aS.c,ah.c,ak,VY] <;>repeat' constructor))
  simp(disch:=omega) [VY]
  rcases ju hp with hk|hk|hk|hk|hk|hk|hk
  ·refine ao (EJ m hw hk) ?_ (ha:=by first|rfl|(simp[aS.c,VY] <;>repeat' constructor))
   simp(disch:=omega) [ec,VY]
   refine ao (cE m (bn m) hw hx) ?_ (ha:=by first|rfl|(simp[aS.c,IZ hk,aK,du,oc,cu,bC,xP,bR,dg,ak,show bm []= []from rfl,show el []= []from rfl,show hX []= []from rfl,VY] <;>repeat' constructor))
   simp(disch:=omega) [bx,hp,VY]
  ·refine ao (ET m hw hk) ?_ (ha:=by first|rfl|(simp[aS.c,VY] <;>repeat' constructor))
   simp(disch:=omega) [rQ,VY]
   refine ao (cE m (bn m) hw hx) ?_ (ha:=by first|rfl|(simp[aS.c,I6 hk,aK,du,oc,cu,bC,xP,bR,dg,ak,show bm []= []from rfl,show el []= []from rfl,show hX []= []from rfl,VY] <;>repeat' constructor))
   simp(disch:=omega) [bx,hp,VY]
  ·refine ao (Ff m hw hk) ?_ (ha:=by first|rfl|(simp[aS.c,VY] <;>repeat' constructor))
   simp(disch:=omega) [fc,VY]
   refine ao (cE m (bn m) hw hx) ?_ (ha:=by first|rfl|(simp[aS.c,IQ hk,aK,du,oc,cu,bC,xP,bR,dg,ak,show bm []= []from rfl,show el []= []from rfl,show hX []= []from rfl,VY] <;>repeat' constructor))
   simp(disch:=omega) [bx,hp,VY]
  ·refine ao (EP m hw hk) ?_ (ha:=by first|rfl|(simp[aS.c,VY] <;>repeat' constructor))
   simp(disch:=omega) [dO,VY]
   refine ao (cE m (bn m) hw hx) ?_ (ha:=by first|rfl|(simp[aS.c,Iy hk,aK,du,oc,cu,bC,xP,bR,dg,ak,show bm []= []from rfl,show el []= []from rfl,show hX []= []from rfl,VY] <;>repeat' constructor))
   simp(disch:=omega) [bx,hp,VY]
  ·refine ao (EC m hw hk) ?_ (ha:=by first|rfl|(simp[aS.c,VY] <;>repeat' constructor))
   simp(disch:=omega) [oP,VY]
   refine ao (cE m (bn m) hw hx) ?_ (ha:=by first|rfl|(simp[aS.c,IJ hk,aK,du,oc,cu,bC,xP,bR,dg,ak,show bm []= []from rfl,show el []= []from rfl,show hX []= []from rfl,VY] <;>repeat' constructor))
   simp(disch:=omega) [bx,hp,VY]
  ·refine ao (EA m hw hk) ?_ (ha:=by first|rfl|(simp[aS.c,VY] <;>repeat' constructor))
   simp(disch:=omega) [d4,VY]
   refine ao (cE m (bn m) hw hx) ?_ (ha:=by first|rfl|(simp[aS.c,Jn hk,aK,du,oc,cu,bC,xP,bR,dg,ak,show bm []= []from rfl,show el []= []from rfl,show hX []= []from rfl,VY] <;>repeat' constructor))
   simp(disch:=omega) [bx,hp,VY]
  ·refine ao (FI m hw hk) ?_ (ha:=by first|rfl|(simp[aS.c,VY] <;>repeat' constructor))
   simp(disch:=omega) [eX,VY]
   refine ao (cE m (bn m) hw hx) ?_ (ha:=by first|rfl|(simp[aS.c,IW hk,aK,du,oc,cu,bC,xP,bR,dg,ak,show bm []= []from rfl,show el []= []from rfl,show hX []= []from rfl,VY] <;>repeat' constructor))
   simp(disch:=omega) [bx,hp,VY]
abbrev pj:Nat:=238
def qu:AF:=⟨1,3,[.tmp 2],(.seq (.ops [.i (.mov 2 (qb false))]) (.seq (.ops [qm 3 0, .i (.call 5 221 false [(.s 3),(qi 1),(qi 7)]),qm 2 4]) .ret))⟩
theorem Am:cd pj=some qu:=by kernel_rfl
theorem HV (k:Int):VC cd pj (aB [(false,[.int .i64 k])]) (fun rs _=>rs=bl (dv k 1 7)):=by
 refine aa Am rfl ?_
 simp(disch:=omega) [qu,VY]
 refine ao (ck k 1 7) ?_
 simp(disch:=omega) [VY]
abbrev wA:Nat:=159
def vS:AF:=⟨2,5,[.tmp 4],(.seq (.ops [.i (.lbox 2 (.s 0)), .i (.lbox 3 (.s 1)), .i (.mov 4 (qb false))]) (.seq (.seq (.ops [qf 7 3 0,ql 8 3 7 1 false,qk 10 238 8, .i (.not 10 (.s 9)),qm 11 10, .g 11 false 13 (.ldl 12 3 (.s 3) 45 true), .g 11 false 14 (.ldl 13 3 (.s 3) 45 true), .g 11 false 15 (.call 15 240 false [(.s 13)]), .g 11 false 16 (.call 16 239 false [(.s 12),(.s 14)]), .g 11 false 17 (.not 16 (.s 15)), .i (.pick 17 (.s 11) (qb true) (.s 16))]) (.cond (.s 17) (.seq (.ops [.i (.mov 4 (qb false))]) .ret) .skip)) (.seq (.ops [ql 19 2 2 5 true,ql 20 3 3 45 true, .i (.call 22 183 false [(.s 19),(.c (.val false [.nils])),(.s 20)]),qm 18 21, .i (.ext 22 (.s 18) 0), .i (.ext 23 (.s 18) 1),qm 5 22,qm 6 23]) (.seq (.ops [qm 24 6,qm 4 24]) .ret))))⟩
theorem Fo:cd wA=some vS:=by kernel_rfl
theorem CS (l:ah) (m:aS) (hw:m.wc):VC cd wA (aB [(true,l.c),(true,m.c)]) (fun rs _=>rs=bl (bx l m)):=by
 have hx:=Hh hw
 refine aa Fo rfl ?_
 simp(disch:=omega) [vS,aS.c,ah.c,VY]
 refine ao (HV m.kind) ?_
 simp(disch:=omega) [VY]
 refine an (fun h1=> ?_) (fun h1=> ?_)
 case refine_2=>
  have e1:ay l m=false:=by
   cases hp:ay l m with
   |false=>rfl
   |true=>rcases ju hp with hk|hk|hk|hk|hk|hk|hk <;>(rw[hk]at h1;cases h1)
  simp(disch:=omega) [h1,bx,e1,VY]
 simp(disch:=omega) [h1,VY]
 have hk2:=dN h1
 have hk3:m.kind=1∨m.kind=2∨m.kind=3∨m.kind=4∨m.kind=5∨m.kind=6∨m.kind=7:=by omega
 rcases hk3 with hk|hk|hk|hk|hk|hk|hk
 ·refine ao (Fa m hw hk) ?_ (ha:=by first|rfl|(simp[aS.c,VY] <;>repeat' constructor))
  simp(disch:=omega) [ec,h1,VY]
  refine ao (cA m (bn m) hw hx) ?_ (ha:=by first|rfl|(simp[aS.c,IZ hk,aK,du,oc,cu,bC,xP,bR,dg,ak,show bm []= []from rfl,show el []= []from rfl,show hX []= []from rfl,VY] <;>repeat' constructor))
  simp(disch:=omega) [h1,VY]
  refine an (fun h2=> ?_) (fun h2=> ?_)
  case refine_2=>simp(disch:=omega) [h1,h2,bx,VY]
  simp(disch:=omega) [h1,h2,VY]
  cases hp:ay l m
  ·refine ao ((bp l [] m hw h1 (by simp)).re (cF hp)) ?_ (ha:=by first|rfl|(simp[aS.c,ah.c,ak,VY] <;>repeat' constructor))
   simp(disch:=omega) [bx,hp,h2,VY]
  ·refine ao ((bp l [] m hw h1 (by simp)).re (bj hp)) ?_ (ha:=by first|rfl|(simp[aS.c,ah.c,ak,VY] <;>repeat' constructor))
   simp(disch:=omega) [bx,hp,h2,VY]
 ·refine ao (EY m hw hk) ?_ (ha:=by first|rfl|(simp[aS.c,VY] <;>repeat' constructor))
  simp(disch:=omega) [rQ,h1,VY]
  refine ao (cA m (bn m) hw hx) ?_ (ha:=by first|rfl|(simp[aS.c,I6 hk,aK,du,oc,cu,bC,xP,bR,dg,ak,show bm []= []from rfl,show el []= []from rfl,show hX []= []from rfl,VY] <;>repeat' constructor))
  simp(disch:=omega) [h1,VY]
  refine an (fun h2=> ?_) (fun h2=> ?_)
  case refine_2=>simp(disch:=omega) [h1,h2,bx,VY]
  simp(disch:=omega) [h1,h2,VY]
  cases hp:ay l m
  ·refine ao ((bp l [] m hw h1 (by simp)).re (cF hp)) ?_ (ha:=by first|rfl|(simp[aS.c,ah.c,ak,VY] <;>repeat' constructor))
   simp(disch:=omega) [bx,hp,h2,VY]
  ·refine ao ((bp l [] m hw h1 (by simp)).re (bj hp)) ?_ (ha:=by first|rfl|(simp[aS.c,ah.c,ak,VY] <;>repeat' constructor))
   simp(disch:=omega) [bx,hp,h2,VY]
 ·refine ao (Eg m hw hk) ?_ (ha:=by first|rfl|(simp[aS.c,VY] <;>repeat' constructor))
  simp(disch:=omega) [fc,h1,VY]
  refine ao (cA m (bn m) hw hx) ?_ (ha:=by first|rfl|(simp[aS.c,IQ hk,aK,du,oc,cu,bC,xP,bR,dg,ak,show bm []= []from rfl,show el []= []from rfl,show hX []= []from rfl,VY] <;>repeat' constructor))
  simp(disch:=omega) [h1,VY]
  refine an (fun h2=> ?_) (fun h2=> ?_)
  case refine_2=>simp(disch:=omega) [h1,h2,bx,VY]
  simp(disch:=omega) [h1,h2,VY]
  cases hp:ay l m
  ·refine ao ((bp l [] m hw h1 (by simp)).re (cF hp)) ?_ (ha:=by first|rfl|(simp[aS.c,ah.c,ak,VY] <;>repeat' constructor))
   simp(disch:=omega) [bx,hp,h2,VY]
  ·refine ao ((bp l [] m hw h1 (by simp)).re (bj hp)) ?_ (ha:=by first|rfl|(simp[aS.c,ah.c,ak,VY] <;>repeat' constructor))
   simp(disch:=omega) [bx,hp,h2,VY]
 ·refine ao (E5 m hw hk) ?_ (ha:=by first|rfl|(simp[aS.c,VY] <;>repeat' constructor))
  simp(disch:=omega) [dO,h1,VY]
  refine ao (cA m (bn m) hw hx) ?_ (ha:=by first|rfl|(simp[aS.c,Iy hk,aK,du,oc,cu,bC,xP,bR,dg,ak,show bm []= []from rfl,show el []= []from rfl,show hX []= []from rfl,VY] <;>repeat' constructor))
  simp(disch:=omega) [h1,VY]
  refine an (fun h2=> ?_) (fun h2=> ?_)
  case refine_2=>simp(disch:=omega) [h1,h2,bx,VY]
  simp(disch:=omega) [h1,h2,VY]
  cases hp:ay l m
  ·refine ao ((bp l [] m hw h1 (by simp)).re (cF hp)) ?_ (ha:=by first|rfl|(simp[aS.c,ah.c,ak,VY] <;>repeat' constructor))
   simp(disch:=omega) [bx,hp,h2,VY]
  ·refine ao ((bp l [] m hw h1 (by simp)).re (bj hp)) ?_ (ha:=by first|rfl|(simp[aS.c,ah.c,ak,VY] <;>repeat' constructor))
   simp(disch:=omega) [bx,hp,h2,VY]
 ·refine ao (Ec m hw hk) ?_ (ha:=by first|rfl|(simp[aS.c,VY] <;>repeat' constructor))
  simp(disch:=omega) [oP,h1,VY]
  refine ao (cA m (bn m) hw hx) ?_ (ha:=by first|rfl|(simp[aS.c,IJ hk,aK,du,oc,cu,bC,xP,bR,dg,ak,show bm []= []from rfl,show el []= []from rfl,show hX []= []from rfl,VY] <;>repeat' constructor))
  simp(disch:=omega) [h1,VY]
  refine an (fun h2=> ?_) (fun h2=> ?_)
  case refine_2=>simp(disch:=omega) [h1,h2,bx,VY]
  simp(disch:=omega) [h1,h2,VY]
  cases hp:ay l m
  ·refine ao ((bp l [] m hw h1 (by simp)).re (cF hp)) ?_ (ha:=by first|rfl|(simp[aS.c,ah.c,ak,VY] <;>repeat' constructor))
   simp(disch:=omega) [bx,hp,h2,VY]
  ·refine ao ((bp l [] m hw h1 (by simp)).re (bj hp)) ?_ (ha:=by first|rfl|(simp[aS.c,ah.c,ak,VY] <;>repeat' constructor))
   simp(disch:=omega) [bx,hp,h2,VY]
 ·refine ao (Fi m hw hk) ?_ (ha:=by first|rfl|(simp[aS.c,VY] <;>repeat' constructor))
  simp(disch:=omega) [d4,h1,VY]
  refine ao (cA m (bn m) hw hx) ?_ (ha:=by first|rfl|(simp[aS.c,Jn hk,aK,du,oc,cu,bC,xP,bR,dg,ak,show bm []= []from rfl,show el []= []from rfl,show hX []= []from rfl,VY] <;>repeat' constructor))
  simp(disch:=omega) [h1,VY]
  refine an (fun h2=> ?_) (fun h2=> ?_)
  case refine_2=>simp(disch:=omega) [h1,h2,bx,VY]
  simp(disch:=omega) [h1,h2,VY]
  cases hp:ay l m
  ·refine ao ((bp l [] m hw h1 (by simp)).re (cF hp)) ?_ (ha:=by first|rfl|(simp[aS.c,ah.c,ak,VY] <;>repeat' constructor))
   simp(disch:=omega) [bx,hp,h2,VY]
  ·refine ao ((bp l [] m hw h1 (by simp)).re (bj hp)) ?_ (ha:=by first|rfl|(simp[aS.c,ah.c,ak,VY] <;>repeat' constructor))
   simp(disch:=omega) [bx,hp,h2,VY]
 ·refine ao (FG m hw hk) ?_ (ha:=by first|rfl|(simp[aS.c,VY] <;>repeat' constructor))
  simp(disch:=omega) [eX,h1,VY]
  refine ao (cA m (bn m) hw hx) ?_ (ha:=by first|rfl|(simp[aS.c,IW hk,aK,du,oc,cu,bC,xP,bR,dg,ak,show bm []= []from rfl,show el []= []from rfl,show hX []= []from rfl,VY] <;>repeat' constructor))
  simp(disch:=omega) [h1,VY]
  refine an (fun h2=> ?_) (fun h2=> ?_)
  case refine_2=>simp(disch:=omega) [h1,h2,bx,VY]
  simp(disch:=omega) [h1,h2,VY]
  cases hp:ay l m
  ·refine ao ((bp l [] m hw h1 (by simp)).re (cF hp)) ?_ (ha:=by first|rfl|(simp[aS.c,ah.c,ak,VY] <;>repeat' constructor))
   simp(disch:=omega) [bx,hp,h2,VY]
  ·refine ao ((bp l [] m hw h1 (by simp)).re (bj hp)) ?_ (ha:=by first|rfl|(simp[aS.c,ah.c,ak,VY] <;>repeat' constructor))
   simp(disch:=omega) [bx,hp,h2,VY]
end Go.Eng.F
namespace Go.Eng.F
open Go.Eng.U (Gr dE de Hd qv Pe gz Gx FV)
def aW.tv (x:aW):Tv:= .r [.i x.view, .i x.height,Cz x.block, .i x.who,Cz x.tag]
theorem aW.enc (x:aW):enc Hd x.tv=x.c:=by simp only[aW.tv,eO,bU,cO,eD,fx,jx,gI,et,gk,aW.c,List.cons_append,List.nil_append,List.append_assoc]
theorem aW.ex {v:Tv} (h:aM Hd v):∃x:aW,v=x.tv:=by
 obtain⟨vs,rfl,h⟩:=h.st
 obtain⟨v0,_,rfl,h0,h⟩:=h.step
 obtain⟨v1,_,rfl,h1,h⟩:=h.step
 obtain⟨v2,_,rfl,h2,h⟩:=h.step
 obtain⟨v3,_,rfl,h3,h⟩:=h.step
 obtain⟨v4,_,rfl,h4,h⟩:=h.step
 obtain rfl:=h.fin
 obtain⟨n0,rfl,_⟩:=h0.int
 obtain⟨n1,rfl,_⟩:=h1.int
 obtain⟨n2,rfl⟩:=gw h2
 obtain⟨n3,rfl,_⟩:=h3.int
 obtain⟨n4,rfl⟩:=gw h4
 exact⟨⟨n0,n1,n2,n3,n4⟩,rfl⟩
theorem aW.of {x:aW} (h:aM Hd x.tv) (hw:wt x.tv≤1048576):x.wf:=by
 simp only[aW.tv,gp,cT]at h
 simp only[aW.tv,wt,zM]at hw
 obtain⟨h0,h1,h2,h3,h4,_⟩:=h
 exact⟨dT (ok_int.1 h0),dT (ok_int.1 h1),uy (by omega),dT (ok_int.1 h3),uy (by omega)⟩
def aN.tv (x:aN):Tv:= .r [.i x.height, .i x.n, .i x.idx,Cz x.tx,xw x.path]
theorem aN.enc (x:aN):enc Gx x.tv=x.c:=by simp only[aN.tv,eO,bU,cO,eD,fx,jx,gI,et,gk,aN.c,List.cons_append,List.nil_append,List.append_assoc]
theorem aN.ex {v:Tv} (h:aM Gx v):∃x:aN,v=x.tv:=by
 obtain⟨vs,rfl,h⟩:=h.st
 obtain⟨v0,_,rfl,h0,h⟩:=h.step
 obtain⟨v1,_,rfl,h1,h⟩:=h.step
 obtain⟨v2,_,rfl,h2,h⟩:=h.step
 obtain⟨v3,_,rfl,h3,h⟩:=h.step
 obtain⟨v4,_,rfl,h4,h⟩:=h.step
 obtain rfl:=h.fin
 obtain⟨n0,rfl,_⟩:=h0.int
 obtain⟨n1,rfl,_⟩:=h1.int
 obtain⟨n2,rfl,_⟩:=h2.int
 obtain⟨n3,rfl⟩:=gw h3
 obtain⟨n4,rfl⟩:=Fs h4
 exact⟨⟨n0,n1,n2,n3,n4⟩,rfl⟩
theorem aN.of {x:aN} (h:aM Gx x.tv) (hw:wt x.tv≤1048576):x.wc:=by
 simp only[aN.tv,gp,cT]at h
 simp only[aN.tv,wt,zM]at hw
 obtain⟨h0,h1,h2,h3,h4,_⟩:=h
 exact⟨dT (ok_int.1 h0),dT (ok_int.1 h1),dT (ok_int.1 h2),uy (by omega),HN (by omega)⟩
def aS.tv (m:aS):Tv:= .r [.i m.kind,m.vote.tv,m.qc.tv,m.head.tv,m.block.tv,m.tc.tv,m.proof.tv,m.incl.tv]
theorem aS.enc (m:aS):enc FV m.tv=m.c:=by simp only[aS.tv,eO,bU,cO,eD,aW.enc,Qc.enc,Head.enc,Block.enc,Tc.enc,Proof.enc,aN.enc,aS.c,aW.c,Qc.c,Head.c,Block.c,Tc.c,Proof.c,aN.c,List.cons_append,List.nil_append,List.append_assoc,List.append_nil]
theorem aS.ex {v:Tv} (h:aM FV v):∃m:aS,v=m.tv:=by
 obtain⟨vs,rfl,h⟩:=h.st
 obtain⟨v0,_,rfl,h0,h⟩:=h.step
 obtain⟨v1,_,rfl,h1,h⟩:=h.step
 obtain⟨v2,_,rfl,h2,h⟩:=h.step
 obtain⟨v3,_,rfl,h3,h⟩:=h.step
 obtain⟨v4,_,rfl,h4,h⟩:=h.step
 obtain⟨v5,_,rfl,h5,h⟩:=h.step
 obtain⟨v6,_,rfl,h6,h⟩:=h.step
 obtain⟨v7,_,rfl,h7,h⟩:=h.step
 obtain rfl:=h.fin
 obtain⟨n0,rfl,_⟩:=h0.int
 obtain⟨n1,rfl⟩:=aW.ex h1
 obtain⟨n2,rfl⟩:=Qc.ex h2
 obtain⟨n3,rfl⟩:=Head.ex h3
 obtain⟨n4,rfl⟩:=Block.ex h4
 obtain⟨n5,rfl⟩:=Tc.ex h5
 obtain⟨n6,rfl⟩:=Proof.ex h6
 obtain⟨n7,rfl⟩:=aN.ex h7
 exact⟨⟨n0,n1,n2,n3,n4,n5,n6,n7⟩,rfl⟩
theorem aS.of {m:aS} (h:aM FV m.tv) (hw:wt m.tv≤1048576):m.wc:=by
 simp only[aS.tv,gp,cT]at h
 simp only[aS.tv,wt,zM]at hw
 obtain⟨h0,h1,h2,h3,h4,h5,h6,h7,_⟩:=h
 have hb:wt m.block.tv=wt m.block.head.tv+(wt (xw m.block.txs)+0):=by simp only[Block.tv,wt,zM]
 have hi:wt m.incl.tv=0+(0+(0+(wt (Cz m.incl.tx)+(wt (xw m.incl.path)+0)))):=by simp only[aN.tv,wt,zM]
 refine⟨dT (ok_int.1 h0),aW.of h1 (by omega),Qc.of h2 (by omega),Head.of h3 (by omega),⟨Block.of h4 (by omega),fun t ht=> ?_⟩,Tc.of h5 (by omega),Proof.QO h6 (by omega),aN.of h7 (by omega),?_⟩
 ·have:=(Le m.block.txs).2 t ht
  omega
 ·rw[Kr]at hi
  omega
end Go.Eng.F
namespace Go.Eng.F
open Go.Eng.U (dE de FV)
def gj (m:aS):UInt8:=UInt8.ofNat m.kind.toNat
theorem A6 {l:ah} {m:aS} (h:bx l m=true):ay l m=true:=by
 simp only[bx,Bool.and_eq_true]at h
 exact h.1
theorem HW {l:ah} {m:aS} (h:ay l m=true):IntKind.u8.wrap m.kind=((gj m).toNat:Int):=by
 have h1:=ju h
 obtain⟨k,hk⟩:∃k:Nat,m.kind=(k:Int):=⟨m.kind.toNat,by omega⟩
 unfold gj
 rw[hk]
 exact Pz (by omega)
abbrev uF:Nat:=52
def sO:AF:=⟨2,5,[.tmp 4, .tmp 5],(.seq (.ops [.i (.lbox 2 (.s 0)), .i (.lbox 3 (.s 1)), .i (.mov 4 (.c (.val false [.nils]))), .i (.mov 5 (qb false))]) (.seq (.seq (.ops [ql 6 2 2 5 true,ql 7 3 3 45 true, .i (.call 9 58 false [(.s 6),(.s 7)]), .i (.not 9 (.s 8))]) (.cond (.s 9) (.seq (.ops [.i (.mov 4 (.c (.val false [.nils]))), .i (.mov 5 (qb false))]) .ret) .skip)) (.seq (.ops [ql 10 3 3 45 true,ql 11 2 2 5 true,qf 12 3 0,ql 13 3 12 1 false, .i (.cvi 14 .u8 (.s 13)), .i (.bsl 15 5 1 1 [.int .u8 0] [(0,1,(.s 14))]), .i (.call 17 131 false [(.s 10),(.s 11),(.s 15)]), .i (.ext 17 (.s 16) 0), .i (.ext 18 (.s 16) 1),qm 4 17,qm 5 18]) .ret)))⟩
theorem CF:cd uF=some sO:=by kernel_rfl
theorem pB (l:ah) (m:aS) (hw:m.wc):VC cd uF (aB [(true,l.c),(true,m.c)]) (fun rs _=>rs=bd (bx l m) (gj m::bb m)):=by
 have e0: [[D.int .u8 ((gj m).toNat:Int)]]=bytes [gj m]:=rfl
 refine aa CF rfl ?_
 simp(disch:=omega) [sO,ah.c,aS.c,VY]
 refine ao (CH l m hw) ?_ (ha:=by first|rfl|(simp[ah.c,aS.c,VY] <;>repeat' constructor))
 simp(disch:=omega) [VY]
 refine an (fun h1=> ?_) (fun h1=> ?_)
 case refine_2=>simp(disch:=omega) [h1,bd,VY]
 have hp:=A6 h1
 simp(disch:=omega) [h1,HW hp,e0,VY]
 refine ao ((ov l [gj m] m hw (by simp)).re (bj hp)) ?_ (ha:=by first|rfl|(simp[ah.c,aS.c,VY] <;>repeat' constructor))
 simp(disch:=omega) [h1,bd,VY]
def vR (l:ah) (m:aS):Int:=if bx l m then((bb m).length:Int)+1 else 0
abbrev oK:Nat:=46
def r7:AF:=⟨2,4,[.tmp 4],(.seq (.ops [.i (.lbox 2 (.s 0)), .i (.lbox 3 (.s 1)), .i (.mov 4 (qi 0))]) (.seq (.ops [ql 8 2 2 5 true,ql 9 3 3 45 true, .i (.call 11 52 false [(.s 8),(.s 9)]),qm 7 10, .i (.ext 11 (.s 7) 0), .i (.ext 12 (.s 7) 1),qm 5 11,qm 6 12]) (.seq (.ops [qm 13 5,qn 14 13,qm 4 14]) .ret)))⟩
theorem Cj:cd oK=some r7:=by kernel_rfl
theorem cB (l:ah) (m:aS) (hw:m.wc):VC cd oK (aB [(true,l.c),(true,m.c)]) (fun rs _=>rs=it (vR l m)):=by
 refine aa Cj rfl ?_
 simp(disch:=omega) [r7,ah.c,aS.c,VY]
 cases h1:bx l m with
 |false=>
  refine ao ((pB l m hw).re (cF h1)) ?_ (ha:=by first|rfl|(simp[ah.c,aS.c,VY] <;>repeat' constructor))
  simp(disch:=omega) [vR,h1,VY]
 |true=>
  refine ao ((pB l m hw).re (bj h1)) ?_ (ha:=by first|rfl|(simp[ah.c,aS.c,VY] <;>repeat' constructor))
  simp(disch:=omega) [vR,h1,ag,VY]
theorem JO {l:ah} {m:aS} (h:ay l m=true):(bb m).length≤20000:=by
 unfold ay at h
 unfold bb
 split at h
 ·rename_i g;rw[if_pos g];have:=MK (zX h);omega
 split at h
 ·rename_i g1 g;rw[if_neg g1,if_pos g];have:=E1 (lE h);omega
 split at h
 ·rename_i g1 g2 g;rw[if_neg g1,if_neg g2,if_pos g];have:=eR (c7 h);omega
 split at h
 ·rename_i g1 g2 g3 g
  rw[if_neg g1,if_neg g2,if_neg g3,if_pos g]
  have k1:=eR (c7 (hM h))
  have k2:=rz h
  have k3:=lO (qD h)
  have k4:=bV (n:=m.block.txs.length) (by omega)
  simp only[dS]at k3
  simp only[cC,List.length_append]
  omega
 split at h
 ·rename_i g1 g2 g3 g4 g
  rw[if_neg g1,if_neg g2,if_neg g3,if_neg g4,if_pos g]
  obtain⟨k1,k2,k3⟩:=BS h
  have k4:=sr k3
  have k5:=ax k2
  have k6:=bV (n:=m.tc.entries.length) (by omega)
  simp only[gg]at k4
  simp only[zt,List.length_append]
  omega
 split at h
 ·rename_i g1 g2 g3 g4 g5 g
  rw[if_neg g1,if_neg g2,if_neg g3,if_neg g4,if_neg g5,if_pos g]
  obtain⟨k1,k2,k3⟩:=pO h
  have k4:=lV (fun e he=>c7 (k3 e he))
  have k5:=E1 (lE k2)
  have k6:=bV (n:=m.proof.heads.length) (by omega)
  simp only[dY]at k4
  simp only[cw,List.length_append]
  omega
 split at h
 ·rename_i g1 g2 g3 g4 g5 g6 g
  rw[if_neg g1,if_neg g2,if_neg g3,if_neg g4,if_neg g5,if_neg g6]
  obtain⟨k1,k2,k3,k4,k5,k6⟩:=uV h
  have v1:=ax k1
  have v2:=ax k2
  have v3:=ax k3
  have v4:=sf (x:=m.incl.tx) (by omega)
  have v5:=hU k6 (Nat.le_refl _)
  rw[List.take_length]at v5
  simp only[dH,List.length_append]
  omega
 ·cases h
end Go.Eng.F
namespace Go.Eng.F
def gv:Bytes→Nat→Nat→Nat×Nat×Nat
 | [],_,_=>(0,0,1)
 |c::r,k,n=>
  if(0 < k∧c.toNat=0)∨(k=8∧128≤c.toNat)then(0,0,2)
  else if c.toNat < 128 then(if n+c.toNat * 128 ^ k≤1152921504606846975 then(n+c.toNat * 128 ^ k,k+1,0)else(0,0,2))
  else gv r (k+1) (n+(c.toNat - 128) * 128 ^ k)
structure Rd where
 at_:Nat
 er:Nat
def getVar (b:Bytes) (a:Nat):Nat×Rd:=
 let x:=gv (b.drop a) 0 0
 if x.2.2=0 then(x.1,⟨a+x.2.1,0⟩)else(0,⟨0,x.2.2⟩)
def fe (b:Bytes) (a n:Nat):Bytes×Rd:=if a+n≤b.length then((b.drop a).take n,⟨a+n,0⟩)else([],⟨0,1⟩)
def f9 (b:Bytes) (a m:Nat):Bytes×Rd:=
 let x:=getVar b a
 if x.2.er≠0 then([],⟨0,x.2.er⟩)else if m < x.1 then([],⟨0,3⟩)else fe b x.2.at_ x.1
def dM (b:Bytes) (a:Nat) (n:Int):Bytes×Rd:=
 let x:=fe b a (tg n).toNat
 if x.2.er≠0 then([],⟨0,x.2.er⟩)else if dm x.1 n then x else([],⟨0,4⟩)
def cZ (b:Bytes) (r:Rd):Nat×Rd:=if r.er=0 then getVar b r.at_ else(0,r)
def b5 (r:Rd) (bad:Bool) (c:Nat):Rd:=if r.er=0∧bad=true then⟨r.at_,c⟩else r
def bP (b:Bytes) (r:Rd) (n:Int) (c:Nat):Nat×Rd:=((cZ b r).1,b5 (cZ b r).2 (decide (n≤((cZ b r).1:Int))) c)
def cf (b:Bytes) (r:Rd) (n:Nat):Bytes×Rd:=if r.er=0 then fe b r.at_ n else([],r)
def dV (b:Bytes) (r:Rd) (m:Nat):Bytes×Rd:=if r.er=0 then f9 b r.at_ m else([],r)
def Rd.wf (b:Bytes) (r:Rd):Prop:=r.at_≤b.length∧r.er≤9
theorem Nv:∀(s:Bytes) (k n:Nat),k≤8→(gv s k n).2.1≤k+s.length∧(gv s k n).2.2≤2∧(gv s k n).1≤1152921504606846975∧((gv s k n).2.2=0→k < (gv s k n).2.1)
 | [],k,n,h=>by simp[gv]
 |c::r,k,n,h=>by
  rw[gv]
  split
  ·simp
  ·rename_i h1
   split
   ·split
    ·rename_i h3;simp only[List.length_cons];omega
    ·simp
   ·rename_i h2
    have:=Nv r (k+1) (n+(c.toNat - 128) * 128 ^ k) (by omega)
    simp only[List.length_cons]
    omega
theorem xV {b:Bytes} {a:Nat} (h:a≤b.length):(getVar b a).2.wf b∧(getVar b a).1≤1152921504606846975:=by
 have h1:=Nv (b.drop a) 0 0 (by omega)
 simp only[List.length_drop]at h1
 simp only[getVar]
 split
 ·exact⟨⟨by simp only;omega,by simp⟩,h1.2.2.1⟩
 ·exact⟨⟨by simp,by simp only;omega⟩,by simp⟩
theorem sx (b:Bytes) (a n:Nat):(fe b a n).2.wf b∧(fe b a n).1.length≤n∧(fe b a n).1.length≤b.length:=by
 unfold fe
 split
 ·exact⟨⟨by simp only;omega,by simp⟩,by simp;omega,by simp;omega⟩
 ·exact⟨⟨by simp,by simp⟩,by simp,by simp⟩
theorem Iq {b:Bytes} {a m:Nat} (h:a≤b.length):(f9 b a m).2.wf b∧(f9 b a m).1.length≤m∧(f9 b a m).1.length≤b.length:=by
 have h1:=xV h
 simp only[f9]
 split
 ·exact⟨⟨by simp,h1.1.2⟩,by simp,by simp⟩
 ·split
  ·exact⟨⟨by simp,by simp⟩,by simp,by simp⟩
  ·have:=sx b (getVar b a).2.at_ (getVar b a).1
   exact⟨this.1,by omega,this.2.2⟩
theorem HI (b:Bytes) (a:Nat) (n:Int):(dM b a n).2.wf b∧(dM b a n).1.length≤b.length:=by
 have h1:=sx b a (tg n).toNat
 simp only[dM]
 split
 ·exact⟨⟨by simp,h1.1.2⟩,by simp⟩
 ·split
  ·exact⟨h1.1,h1.2.2⟩
  ·exact⟨⟨by simp,by simp⟩,by simp⟩
theorem dk {b:Bytes} {r:Rd} (h:r.wf b):(cZ b r).2.wf b∧(cZ b r).1≤1152921504606846975:=by
 unfold cZ
 split
 ·exact xV h.1
 ·exact⟨h,by simp⟩
theorem eA {b:Bytes} {r:Rd} (h:r.wf b) {bad:Bool} {c:Nat} (hc:c≤9):(b5 r bad c).wf b:=by
 unfold b5
 split
 ·exact⟨h.1,hc⟩
 ·exact h
theorem eQ {b:Bytes} {r:Rd} (h:r.wf b) {n:Int} {c:Nat} (hc:c≤9):(bP b r n c).2.wf b∧(bP b r n c).1≤1152921504606846975:=⟨eA (dk h).1 hc,(dk h).2⟩
theorem eC {b:Bytes} {r:Rd} (h:r.wf b) (n:Nat):(cf b r n).2.wf b∧(cf b r n).1.length≤n∧(cf b r n).1.length≤b.length:=by
 unfold cf
 split
 ·exact sx b _ n
 ·exact⟨h,by simp,by simp⟩
theorem wG {b:Bytes} {r:Rd} (h:r.wf b) (m:Nat):(dV b r m).2.wf b∧(dV b r m).1.length≤m∧(dV b r m).1.length≤b.length:=by
 unfold dV
 split
 ·exact Iq h.1
 ·exact⟨h,by simp,by simp⟩
def Mg (x:Nat×Rd):List (Bool×List E):= [(false,[.p (.int .i64 (x.1:Int))]),(false,[.p (.int .i64 (x.2.at_:Int))]),(false,[.p (.int .i64 (x.2.er:Int))])]
def Jc (x:Bytes×Rd):List (Bool×List E):= [(false,[.o true (some (5,1)) (bytes x.1)]),(false,[.p (.int .i64 (x.2.at_:Int))]),(false,[.p (.int .i64 (x.2.er:Int))])]
theorem Ng {b:Bytes} {a k n:Nat} (h:a+k < b.length):gv (b.drop (a+k)) k n=(if(0 < k∧b[a+k].toNat=0)∨(k=8∧128≤b[a+k].toNat)then(0,0,2)
 else if b[a+k].toNat < 128 then(if n+b[a+k].toNat * 128 ^ k≤1152921504606846975 then(n+b[a+k].toNat * 128 ^ k,k+1,0)else(0,0,2))
 else gv (b.drop (a+k+1)) (k+1) (n+(b[a+k].toNat - 128) * 128 ^ k)):=by
 rw[List.drop_eq_getElem_cons h,gv]
theorem N9 {b:Bytes} {a k n:Nat} (h:b.length≤a+k):gv (b.drop (a+k)) k n=(0,0,1):=by
 rw[List.drop_eq_nil_of_le h,gv]
end Go.Eng.F
namespace Go.Eng.F
def gd {α:Type} (f:Rd→α×Rd):Nat→Rd→List α×Rd
 |0,r=>([],r)
 |k+1,r=>((f r).1::(gd f k (f r).2).1,(gd f k (f r).2).2)
def dt {α:Type} (f:Rd→α×Rd):Nat→Rd→List α×Rd
 |0,r=>([],r)
 |k+1,r=>if r.er=0 then((f r).1::(dt f k (f r).2).1,(dt f k (f r).2).2)else([],r)
theorem Jj {α:Type} {b:Bytes} {f:Rd→α×Rd} (h:∀r,r.wf b→(f r).2.wf b):∀(k:Nat) (r:Rd),r.wf b→(gd f k r).2.wf b
 |0,r,hr=>hr
 |k+1,r,hr=>Jj h k _ (h r hr)
theorem Hm {α:Type} {f:Rd→α×Rd}:∀(k:Nat) (r:Rd),(gd f k r).1.length=k
 |0,r=>rfl
 |k+1,r=>by simp only[gd,List.length_cons,Hm k]
theorem GI {α:Type} {b:Bytes} {f:Rd→α×Rd} {p:α→Prop} (h:∀r,r.wf b→(f r).2.wf b∧p (f r).1):∀(k:Nat) (r:Rd),r.wf b→∀x∈(gd f k r).1,p x
 |0,r,hr,x,hx=>by simp[gd]at hx
 |k+1,r,hr,x,hx=>by
  simp only[gd]at hx
  rcases List.mem_cons.1 hx with rfl|hx
  ·exact(h r hr).2
  ·exact GI h k _ (h r hr).1 x hx
theorem x7 {α:Type} {b:Bytes} {f:Rd→α×Rd} {p:α→Prop} (h:∀r,r.wf b→(f r).2.wf b∧p (f r).1):∀(k:Nat) (r:Rd),r.wf b→∀x∈(dt f k r).1,p x
 |0,r,hr,x,hx=>by simp[dt]at hx
 |k+1,r,hr,x,hx=>by
  rw[dt]at hx
  split at hx
  ·rcases List.mem_cons.1 hx with rfl|hx
   ·exact(h r hr).2
   ·exact x7 h k _ (h r hr).1 x hx
  ·cases hx
def kV (b:Bytes) (l:ah) (r:Rd):aW×Rd:=
 let v:=cZ b r
 let h:=cZ b v.2
 let k:=cf b h.2 32
 let w:=bP b k.2 l.n 5
 let t:=cf b w.2 32
 (⟨v.1,h.1,k.1,w.1,t.1⟩,t.2)
def yd (b:Bytes) (l:ah) (r:Rd):Qc×Rd:=
 let v:=cZ b r
 let h:=cZ b v.2
 let k:=cf b h.2 32
 if k.2.er=0 then
  let x:=dM b k.2.at_ l.n
  let t:=gd (fun r=>cf b r 32) (aQ x.1).length x.2
  (⟨v.1,h.1,k.1,x.1,t.1⟩,t.2)
 else(⟨v.1,h.1,k.1,[],[]⟩,k.2)
def dG (b:Bytes) (l:ah) (r:Rd):Head×Rd:=
 let v:=cZ b r
 let h:=cZ b v.2
 let p:=bP b (b5 h.2 (decide (h.1=0)) 5) l.n 5
 let pa:=cf b p.2 32
 let ro:=cf b pa.2 32
 let q:=yd b l ro.2
 (⟨v.1,h.1,p.1,pa.1,ro.1,q.1⟩,b5 q.2 (!fits ⟨v.1,h.1,p.1,pa.1,ro.1,q.1⟩) 6)
def eN (b:Bytes) (l:ah) (r:Rd):Block×Rd:=
 let h:=dG b l r
 let n:=bP b h.2 (l.txs+1) 3
 let x:=dt (fun r=>dV b r l.tx.toNat) n.1 n.2
 (⟨h.1,x.1⟩,b5 x.2 (decide (h.1.root≠aR x.1)) 7)
def jl (b:Bytes) (l:ah) (view:Int):Nat→Int→Rd→List Entry×Rd
 |0,_,r=>([],r)
 |k+1,bf,r=>if r.er=0 then
   let w:=bP b r l.n 5
   let h:=bP b (b5 w.2 (decide ((w.1:Int)≤bf)) 6) view 6
   let t:=cf b h.2 32
   (⟨w.1,h.1,t.1⟩::(jl b l view k w.1 t.2).1,(jl b l view k w.1 t.2).2)
  else([],r)
def H3 (b:Bytes) (l:ah) (r:Rd):Tc×Rd:=
 let v:=cZ b r
 let n:=bP b v.2 (l.n+1) 3
 let e:=jl b l v.1 n.1 (-1) n.2
 (⟨v.1,e.1⟩,e.2)
def ej (b:Bytes) (l:ah) (r:Rd):Proof×Rd:=
 let n:=cZ b r
 let h:=dt (dG b l) n.1 (b5 (b5 n.2 (decide (n.1 < 3)) 5) (decide (l.heads < (n.1:Int))) 3)
 let q:=yd b l h.2
 (⟨h.1,q.1⟩,b5 q.2 (!lZ ⟨h.1,q.1⟩) 6)
def jB (b:Bytes) (l:ah) (r:Rd):(Nat×Nat×Nat×Bytes)×Rd:=
 let h:=cZ b r
 let n:=cZ b h.2
 let a:=bP b (b5 (b5 n.2 (decide (n.1=0)) 5) (decide (l.txs < (n.1:Int))) 3) n.1 5
 let t:=dV b a.2 l.tx.toNat
 ((h.1,n.1,a.1,t.1),t.2)
def At (b:Bytes) (a:Nat) (s:Bytes):Prop:=∃t,b.drop a=s++t
theorem At.app {b:Bytes} {a:Nat} {s t:Bytes} (h:At b a (s++t)):At b a s∧At b (a+s.length) t:=by
 obtain⟨u,h⟩:=h
 refine⟨⟨t++u,by rw[h,List.append_assoc]⟩,u,?_⟩
 rw[←List.drop_drop,h,List.append_assoc,List.drop_left]
theorem At.len {b:Bytes} {a:Nat} {s:Bytes} (h:At b a s):a+s.length≤b.length∨s= []:=by
 obtain⟨u,h⟩:=h
 have h2:=congrArg List.length h
 simp only[List.length_drop,List.length_append]at h2
 by_cases hs:s= []
 ·exact .inr hs
 ·have:=List.length_pos_iff.2 hs
  exact .inl (by omega)
theorem At.take {b:Bytes} {a:Nat} {s:Bytes} (h:At b a s):(b.drop a).take s.length=s:=by
 obtain⟨u,h⟩:=h
 rw[h,List.take_left]
theorem Ik {n:Nat} (h:n < 256):(UInt8.ofNat n).toNat=n:=by simp[UInt8.toNat_ofNat'];omega
theorem M5 (n:Nat):∀(k m:Nat) (t:Bytes),(k=0∨0 < n)→m+n * 128 ^ k≤1152921504606846975→gv (aH n++t) k m=(m+n * 128 ^ k,k+(aH n).length,0):=by
 induction n using Nat.strongRecOn with
 |ind n ih=>
 intro k m t hk hm
 by_cases h:n < 128
 ·have e:=Ik (n:=n) (by omega)
  rw[wh h,List.cons_append,List.nil_append,gv,e,if_neg (by omega),if_pos h,if_pos hm]
  rfl
 ·have e:=Ik (n:=n % 128+128) (by omega)
  have hk8:k < 8:=by
   rcases Nat.lt_or_ge k 8 with h1|h1
   ·exact h1
   ·exfalso
    have h2:128 ^ 8≤128 ^ k:=Nat.pow_le_pow_right (by omega) h1
    have h3:128 * 128 ^ 8≤n * 128 ^ k:=Nat.mul_le_mul (by omega) h2
    omega
  have e3:m+(n % 128+128 - 128) * 128 ^ k+n / 128 * 128 ^ (k+1)=m+n * 128 ^ k:=by
   have h1:n / 128 * 128 ^ (k+1)=128 * (n / 128) * 128 ^ k:=by rw[Nat.pow_succ,Nat.mul_comm (128 ^ k) 128,←Nat.mul_assoc,Nat.mul_comm (n / 128) 128]
   have h2:n * 128 ^ k=128 * (n / 128) * 128 ^ k+n % 128 * 128 ^ k:=by rw[←Nat.add_mul,Nat.div_add_mod]
   rw[h1,h2,show n % 128+128 - 128=n % 128 by omega]
   omega
  rw[z0 h,List.cons_append,gv,e,if_neg (by omega),if_neg (by omega),ih (n / 128) (by omega) (k+1) _ t (.inr (by omega)) (by rw[e3];exact hm),e3]
  simp only[List.length_cons,Prod.mk.injEq,and_true,true_and]
  omega
theorem eE {b:Bytes} {a n:Nat} (h:At b a (aH n)) (hn:n≤1152921504606846975):cZ b ⟨a,0⟩=(n,⟨a+(aH n).length,0⟩):=by
 obtain⟨u,h⟩:=h
 have e:=M5 n 0 0 u (.inl rfl) (by simpa using hn)
 simp only[cZ,if_true,getVar,h,e]
 simp
theorem LS {b:Bytes} {a:Nat} {s:Bytes} {n:Nat} (h:At b a s) (hn:s.length=n) (h0:0 < n):cf b ⟨a,0⟩ n=(s,⟨a+n,0⟩):=by
 have h1:=h.len
 have h2:=h.take
 have h3:a+n≤b.length:=by
  rcases h1 with h1|h1
  ·omega
  ·rw[h1]at hn;simp at hn;omega
 subst hn
 simp only[cf,if_true,fe,if_pos h3,h2]
end Go.Eng.F
namespace Go.Eng.F
def bk (b:Bytes) (r:Rd):List E0:= [.p (.sl (bytes b)), .p (.int .i64 (r.at_:Int)), .p (.int .i64 (r.er:Int))]
theorem gH (b:Bytes) (a n:Nat) (ha:a≤b.length) (hb:b.length≤1073741824) (hn:n≤2000000000000000000):VC cd jA (aB [(false,[.sl (bytes b)]),(false,[.int .i64 (a:Int)]),(false,[.int .i64 (n:Int)])]) (fun rs _=>rs=Jc (fe b a n)):=by
 by_cases h:a+n≤b.length
 ·refine(AJ b a n h hb).mono fun rs _ q=> ?_
  rw[q,Jc,fe,if_pos h]
  rfl
 ·refine VC.xQ ?_
  have e1:dv (a:Int) 0 (b.length:Int)=true:=by simp[dv];omega
  have e2:dv (n:Int) 0 ((b.length:Int) - (a:Int))=false:=by simp[dv];omega
  refine aa tK rfl ?_
  simp(disch:=omega) [jI,VY]
  refine ae (aF _ _ _) rfl rfl ?_
  simp(disch:=omega) [e1,VY]
  refine ae (aF _ _ _) rfl rfl ?_
  simp(disch:=omega) [e2,br,bN,bT,ak,Jc,fe,h,VY]
theorem OB (c:UInt8):aG .and .u8 (c.toNat:Int) 127=((c.toNat % 128:Nat):Int):=by
 have h:=c.toNat_lt
 show IntKind.u8.wrap ((BitVec.ofInt 8 (c.toNat:Int) &&& BitVec.ofInt 8 127).toNat:Int)=_
 rw[BitVec.toNat_and,show BitVec.ofInt 8 (c.toNat:Int)=BitVec.ofNat 8 c.toNat from rfl,BitVec.toNat_ofNat,Nat.mod_eq_of_lt (by omega),show(BitVec.ofInt 8 127).toNat=2 ^ 7 - 1 from rfl,Nat.and_two_pow_sub_one_eq_mod]
 show(((c.toNat % 128:Nat):Int)) % 256=_
 omega
theorem HX (k:Nat):(128:Nat) ^ k=2 ^ (7 * k):=by rw[Nat.pow_mul]
theorem QX {n c k:Nat} (hn:n < 128 ^ k) (hc:c < 128) (hk:k≤8):aG .or .i64 (n:Int) ((c * 128 ^ k:Nat):Int)=((n+c * 128 ^ k:Nat):Int)∧n+c * 128 ^ k < 128 ^ (k+1)∧c * 128 ^ k < 9223372036854775808∧n+c * 128 ^ k < 9223372036854775808:=by
 have h1:n+c * 128 ^ k < 128 ^ (k+1):=by
  have h2:c * 128 ^ k≤127 * 128 ^ k:=Nat.mul_le_mul_right _ (by omega)
  rw[Nat.pow_succ]
  omega
 have h3:128 ^ (k+1)≤128 ^ 9:=Nat.pow_le_pow_right (by omega) (by omega)
 have h4:(128:Nat) ^ 9=9223372036854775808:=by decide
 refine⟨?_,h1,by omega,by omega⟩
 show IntKind.i64.wrap ((BitVec.ofInt 64 (n:Int)|||BitVec.ofInt 64 ((c * 128 ^ k:Nat):Int)).toNat:Int)=_
 rw[BitVec.toNat_or,show BitVec.ofInt 64 (n:Int)=BitVec.ofNat 64 n from rfl,show BitVec.ofInt 64 ((c * 128 ^ k:Nat):Int)=BitVec.ofNat 64 (c * 128 ^ k)from rfl,BitVec.toNat_ofNat,BitVec.toNat_ofNat,Nat.mod_eq_of_lt (by omega),Nat.mod_eq_of_lt (by omega)]
 rw[HX]at hn h1⊢
 rw[Nat.mul_comm c,Nat.or_comm,←Nat.two_pow_add_eq_or_of_lt hn,Nat.add_comm]
 rw[HX,Nat.mul_comm c]at *
 exact Hq (by omega) (by omega)
abbrev tf:Nat:=243
def tT:AF:=⟨2,6,[.tmp 4, .tmp 5, .tmp 6],(.seq (.ops [.i (.mov 4 (qi 0)), .i (.mov 5 (qi 0)), .i (.mov 6 (qi 0))]) (.seq (.seq (.ops [qm 10 1,qm 11 0,qn 12 11, .i (.call 14 158 false [(.s 10),(qi 0),(.s 12)]), .i (.not 14 (.s 13))]) (.cond (.s 14) (.seq (.ops [.i (.mov 4 (qi 0)), .i (.mov 5 (qi 0)), .i (.mov 6 (qi 1))]) .ret) .skip)) (.seq (.ops [.i (.mov 7 (qi 0))]) (.seq (.ops [.i (.mov 8 (qi 0))]) (.block 0 (.loop [60,59,58,57,56,55,54,53,52,51,50,49,48,47,46,45,44,43,42,41,40,39,38,37,36,35,34,33,32,31,30,29,28,27,26,25,24,23,22,21,20,19,18,17,16,15,9] (.seq (.block 1 (.seq (.seq (.ops [qm 17 1,qm 18 8,qd 19 .add 17 18,qm 20 0,qn 21 20,qd 22 .geq 19 21]) (.cond (.s 22) (.seq (.ops [.i (.mov 4 (qi 0)), .i (.mov 5 (qi 0)), .i (.mov 6 (qi 1))]) .ret) .skip)) (.seq (.ops [qm 23 0,qm 24 1,qm 25 8,qd 26 .add 24 25, .i (.iad 27 (.s 23) (.s 26) 1), .i (.ldh 28 (.s 27) 1 false),qm 9 28]) (.seq (.seq (.ops [qm 29 8, .i (.bin 30 .gtr (.s 29) (qi 0)),qm 31 30, .g 31 true 33 (.mov 32 (.s 9)), .g 31 true 34 (.bin 33 .eql (.s 32) (.c (.val false [.int .u8 0]))), .i (.pick 34 (.s 31) (.s 33) (qb false)),qm 35 34, .g 35 false 37 (.mov 36 (.s 8)), .g 35 false 38 (.bin 37 .eql (.s 36) (qi 8)), .g 35 false 39 (.mov 38 (.s 37)), .g 38 true 40 (.mov 39 (.s 9)), .g 38 true 41 (.bin 40 .geq (.s 39) (.c (.val false [.int .u8 128]))), .g 35 false 42 (.pick 41 (.s 38) (.s 40) (qb false)), .i (.pick 42 (.s 35) (qb true) (.s 41))]) (.cond (.s 42) (.seq (.ops [.i (.mov 4 (qi 0)), .i (.mov 5 (qi 0)), .i (.mov 6 (qi 2))]) .ret) .skip)) (.seq (.ops [qm 43 7,qm 44 9, .i (.bin 45 .and (.s 44) (.c (.val false [.int .u8 127]))), .i (.cvi 46 .i64 (.s 45)),qm 47 8, .i (.bin 48 .mul (qi 7) (.s 47)),qd 49 .shl 46 48,qd 50 .or 43 49,qm 7 50]) (.seq (.ops [qm 51 9, .i (.bin 52 .lss (.s 51) (.c (.val false [.int .u8 128])))]) (.cond (.s 52) (.seq (.seq (.ops [qm 53 7,qk 55 129 53, .i (.not 55 (.s 54))]) (.cond (.s 55) (.seq (.ops [.i (.mov 4 (qi 0)), .i (.mov 5 (qi 0)), .i (.mov 6 (qi 2))]) .ret) .skip)) (.seq (.ops [qm 56 7,qm 57 1,qm 58 8,qd 59 .add 57 58, .i (.bin 60 .add (.s 59) (qi 1)),qm 4 56,qm 5 60, .i (.mov 6 (qi 0))]) .ret)) .skip))))))) (.ops [qm 15 8, .i (.bin 16 .add (.s 15) (qi 1)),qm 8 16]))))))))⟩
theorem CP:cd tf=some tT:=by kernel_rfl
theorem pI (b:Bytes) (a:Nat) (ha:a≤b.length) (hb:b.length≤1073741824):VC cd tf (aB [(false,[.sl (bytes b)]),(false,[.int .i64 (a:Int)])]) (fun rs _=>rs=Mg (getVar b a)):=by
 have e1:dv (a:Int) 0 (b.length:Int)=true:=by simp[dv];omega
 refine aa CP rfl ?_
 simp(disch:=omega) [tT,VY]
 refine ae (aF _ _ _) rfl rfl ?_
 simp(disch:=omega) [e1,VY]
 refine cQ (σ:=Nat×Nat) (f1:=_) (es0:=_) (by simp(disch:=omega) [VY];rfl) (by simp(disch:=omega) [VY];rfl) (fun p=> [(8, .val false [.int .i64 (p.1:Int)]),(7, .val false [.int .i64 (p.2:Int)])]) (fun _=> []) (fun p g=>g+(a+p.1)=b.length∧p.1≤8∧p.2 < 128 ^ p.1∧gv (b.drop (a+p.1)) p.1 p.2=gv (b.drop a) 0 0) (0,0) (b.length - a) (by simp(disch:=omega) [VY]) (by simp(disch:=omega) [VY]) ⟨by omega,by omega,by simp,by simp⟩ ?_
 rintro⟨k,n⟩ nx g ⟨h1,h2,h3,h4⟩ P hP
 simp only at h1 h2 h3 h4
 simp(disch:=omega) [VY]
 refine ab (fun h5=> ?_) (fun h5=> ?_)
 ·have e:getVar b a=(0,⟨0,1⟩):=by simp only[getVar,←h4,N9 (show b.length≤a+k by omega)];simp
  simp(disch:=omega) [Mg,e,VY]
 have hi:a+k < b.length:=by omega
 rw[Ng hi]at h4
 have hu:=b[a+k].toNat_lt
 have e6:(0:Int)≤(a:Int)+(k:Int):=by omega
 have e7:((a:Int)+(k:Int)).toNat=a+k:=by omega
 simp(disch:=omega) [e6,e7,d6 hi,VY]
 generalize b[a+k]=c at h4 hu⊢
 by_cases hA:(0 < k∧c.toNat=0)∨(k=8∧128≤c.toNat)
 ·have e:getVar b a=(0,⟨0,2⟩):=by
   rw[if_pos hA]at h4
   simp only[getVar,←h4]
   simp
  rcases hA with⟨g1,g2⟩|⟨g3,g4⟩
  ·simp(disch:=omega) [g1,g2,Mg,e,VY]
  ·have g1:0 < k:=by omega
   have g2:¬c.toNat=0:=by omega
   have g4':(128:Int)≤(c.toNat:Int):=by omega
   have g3':(k:Int)=8:=by omega
   simp(disch:=omega) [g1,g2,g3',g4',Mg,e,VY]
 rw[if_neg hA]at h4
 have hcs:(¬0 < k∧¬(k:Int)=8)∨(0 < k∧¬c.toNat=0∧(k:Int)=8∧¬(128:Int)≤(c.toNat:Int))∨(0 < k∧¬c.toNat=0∧¬(k:Int)=8):=by omega
 have f1:¬(7 * (k:Int) < 0):=by omega
 have f2:(7 * (k:Int)).toNat=7 * k:=by omega
 obtain⟨d,hd⟩:∃d:Nat,d=c.toNat % 128:=⟨_,rfl⟩
 have ha127:=OB c
 rw[←hd]at ha127
 obtain⟨o1,o2,o3,o4⟩:=QX h3 (show d < 128 by omega) h2
 have hmn:min (7 * k) IntKind.i64.bits=7 * k:=Nat.min_eq_left (by show 7 * k≤64;omega)
 obtain⟨q,hq⟩:∃q,q=d * 128 ^ k:=⟨_,rfl⟩
 obtain⟨m,hm⟩:∃m,m=n+q:=⟨_,rfl⟩
 rw[←hq]at o1 o2 o3 o4
 rw[←hm]at o1 o2 o4
 have tP:(d:Int) * 2 ^ (7 * k)=(q:Int):=by rw[hq,HX];simp
 have tB:(k:Int)=8→(d:Int) * 2 ^ min 56 IntKind.i64.bits=(q:Int):=fun h=>by
  have h8:k=8:=by omega
  rw[←tP,h8]
  rfl
 have tC:(k:Int)=8→(d:Int) * 72057594037927936=(q:Int):=fun h=>by
  have h8:k=8:=by omega
  rw[←tP,h8]
  rfl
 rcases hcs with⟨g1,g3⟩|⟨g1,g2,g3,g4⟩|⟨g1,g2,g3⟩
 case' inl=>simp(disch:=omega) [g1,g3,ha127,f1,f2,hmn,tP,o1,VY]
 case' inr.inl=>simp(disch:=omega) [g1,g2,g3,g4,ha127,tB g3,tC g3,o1,VY]
 case' inr.inr=>simp(disch:=omega) [g1,g2,g3,ha127,f1,f2,hmn,tP,o1,VY]
 all_goals
  refine ab (fun g6=> ?_) (fun g6=> ?_)
  ·have hdc:d=c.toNat:=by omega
   rw[if_pos (by omega),←hdc,←hq,←hm]at h4
   simp(disch:=omega) [VY]
   refine ae (eo _) rfl rfl ?_
   simp(disch:=omega) [VY]
   refine an (fun g7=> ?_) (fun g7=> ?_)
   ·have g8:m≤1152921504606846975:=by have:=cY g7;omega
    have e:getVar b a=(m,⟨a+k+1,0⟩):=by
     rw[if_pos g8]at h4
     simp only[getVar,←h4]
     simp[Nat.add_assoc]
    first
     |(simp(disch:=omega) [g7,Mg,e,VY];done)
     |(have e9:k=8:=by omega
       subst e9
       simp(disch:=omega) [g7,Mg,e,VY])
   ·have g8:¬m≤1152921504606846975:=by have:=PM g7;omega
    have e:getVar b a=(0,⟨0,2⟩):=by
     rw[if_neg g8]at h4
     simp only[getVar,←h4]
     simp
    simp(disch:=omega) [g7,Mg,e,VY]
  ·first
    |(exfalso;omega)
    |(have hdc:d=c.toNat - 128:=by omega
      rw[if_neg (by omega),←hdc,←hq,←hm]at h4
      simp(disch:=omega) [VY]
      exact hP (k+1,m) (g - 1) _ _ (by omega) ⟨by simp only;omega,by simp only;omega,o2,h4⟩ (by simp(disch:=omega) [VY]) (by simp(disch:=omega) [VY]))
abbrev qE:Nat:=255
def rq:AF:=⟨3,5,[.tmp 6, .tmp 7, .tmp 8],(.seq (.ops [.i (.mov 6 (.c (.val false [.nils]))), .i (.mov 7 (qi 0)), .i (.mov 8 (qi 0))]) (.seq (.ops [qm 12 0,qm 13 1, .i (.call 15 243 false [(.s 12),(.s 13)]),qm 11 14, .i (.ext 15 (.s 11) 0), .i (.ext 16 (.s 11) 1), .i (.ext 17 (.s 11) 2),qm 9 15,qm 1 16,qm 10 17]) (.seq (.seq (.ops [qm 18 10, .i (.bin 19 .neq (.s 18) (qi 0))]) (.cond (.s 19) (.seq (.ops [qm 20 10, .i (.mov 6 (.c (.val false [.nils]))), .i (.mov 7 (qi 0)),qm 8 20]) .ret) .skip)) (.seq (.seq (.ops [qm 21 9,qm 22 2,qd 23 .gtr 21 22]) (.cond (.s 23) (.seq (.ops [.i (.mov 6 (.c (.val false [.nils]))), .i (.mov 7 (qi 0)), .i (.mov 8 (qi 3))]) .ret) .skip)) (.seq (.ops [qm 24 0,qm 25 1,qm 26 9, .i (.call 28 248 false [(.s 24),(.s 25),(.s 26)]), .i (.ext 28 (.s 27) 0), .i (.ext 29 (.s 27) 1), .i (.ext 30 (.s 27) 2),qm 6 28,qm 7 29,qm 8 30]) .ret)))))⟩
theorem Bh:cd qE=some rq:=by kernel_rfl
theorem yL (b:Bytes) (a m:Nat) (ha:a≤b.length) (hb:b.length≤1073741824) (hm:m≤1073741824):VC cd qE (aB [(false,[.sl (bytes b)]),(false,[.int .i64 (a:Int)]),(false,[.int .i64 (m:Int)])]) (fun rs _=>rs=Jc (f9 b a m)):=by
 refine VC.xQ ?_
 have hv:=xV ha
 refine aa Bh rfl ?_
 simp(disch:=omega) [rq,VY]
 refine ae (pI b a ha hb) rfl rfl ?_
 generalize hx:getVar b a=x at hv
 obtain⟨⟨h1,h2⟩,h3⟩:=hv
 simp(disch:=omega) [Mg,VY]
 by_cases h4:x.2.er=0
 ·simp(disch:=omega) [h4,VY]
  by_cases h5:m < x.1
  ·simp(disch:=omega) [h5,br,bN,bT,ak,Jc,f9,hx,h4,VY]
  ·simp(disch:=omega) [h5,VY]
   refine ae (gH b x.2.at_ x.1 h1 hb (by omega)) rfl rfl ?_
   simp(disch:=omega) [br,bN,bT,ak,Jc,f9,hx,h4,h5,VY]
 ·simp(disch:=omega) [h4,br,bN,bT,ak,Jc,f9,hx,VY]
abbrev pA:Nat:=170
def rV:AF:=⟨3,6,[.tmp 6, .tmp 7, .tmp 8],(.seq (.ops [.i (.mov 6 (.c (.val false [.nils]))), .i (.mov 7 (qi 0)), .i (.mov 8 (qi 0))]) (.seq (.seq (.ops [qm 12 2, .i (.call 14 158 false [(.s 12),(qi 1),(qi 10)]), .i (.not 14 (.s 13))]) (.cond (.s 14) (.seq (.ops [.i (.mov 6 (.c (.val false [.nils]))), .i (.mov 7 (qi 0)), .i (.mov 8 (qi 5))]) .ret) .skip)) (.seq (.ops [qm 16 0,qm 17 1,qm 18 2,qk 20 245 18, .i (.call 21 248 false [(.s 16),(.s 17),(.s 19)]),qm 15 20, .i (.ext 21 (.s 15) 0), .i (.ext 22 (.s 15) 1), .i (.ext 23 (.s 15) 2),qm 9 21,qm 10 22,qm 11 23]) (.seq (.seq (.ops [qm 24 11, .i (.bin 25 .neq (.s 24) (qi 0))]) (.cond (.s 25) (.seq (.ops [qm 26 11, .i (.mov 6 (.c (.val false [.nils]))), .i (.mov 7 (qi 0)),qm 8 26]) .ret) .skip)) (.seq (.seq (.ops [qm 27 9,qm 28 2, .i (.call 30 168 false [(.s 27),(.s 28)]), .i (.not 30 (.s 29))]) (.cond (.s 30) (.seq (.ops [.i (.mov 6 (.c (.val false [.nils]))), .i (.mov 7 (qi 0)), .i (.mov 8 (qi 4))]) .ret) .skip)) (.seq (.ops [qm 31 9,qm 32 10,qm 6 31,qm 7 32, .i (.mov 8 (qi 0))]) .ret))))))⟩
theorem BD:cd pA=some rV:=by kernel_rfl
theorem zH (b:Bytes) (a:Nat) (n:Int) (hn:1≤n∧n≤10) (ha:a≤b.length) (hb:b.length≤1073741824):VC cd pA (aB [(false,[.sl (bytes b)]),(false,[.int .i64 (a:Int)]),(false,[.int .i64 n])]) (fun rs _=>rs=Jc (dM b a n)):=by
 refine VC.xQ ?_
 have e1:dv n 1 10=true:=by simp[dv];omega
 have e2:((tg n).toNat:Int)=tg n:=by have:=wk hn;unfold tg at *;split <;>omega
 have e3:(tg n).toNat≤2:=by have:=wk hn;omega
 have hv:=sx b a (tg n).toNat
 refine aa BD rfl ?_
 simp(disch:=omega) [rV,VY]
 refine ae (aF _ _ _) rfl rfl ?_
 simp(disch:=omega) [e1,VY]
 refine ae (kD n (by omega) (by omega)) rfl rfl ?_
 simp(disch:=omega) [VY]
 refine ao (gH b a (tg n).toNat ha hb (by omega)) ?_ (ha:=by first|rfl|(simp[e2,VY] <;>repeat' constructor))
 generalize hx:fe b a (tg n).toNat=x at hv
 obtain⟨⟨h1,h2⟩,h3,h5⟩:=hv
 simp(disch:=omega) [Jc,VY]
 by_cases h4:x.2.er=0
 ·simp(disch:=omega) [h4,VY]
  refine ao (sc x.1 n (by omega) (by omega)) ?_
  simp(disch:=omega) [h4,VY]
  cases h6:dm x.1 n <;>simp(disch:=omega) [br,bN,bT,ak,Jc,dM,hx,h4,h6,VY]
 ·simp(disch:=omega) [h4,br,bN,bT,ak,Jc,dM,hx,VY]
abbrev iC:Nat:=172
def iK:AF:=⟨3,5,[],(.seq (.ops [qm 6 0, .i (.nch 7 (.s 6)),qf 8 7 2, .i (.ldh 9 (.s 8) 1 false), .i (.bin 10 .eql (.s 9) (qi 0)),qm 11 10, .g 11 true 13 (.mov 12 (.s 1)), .g 11 true 14 (.not 13 (.s 12)), .i (.pick 14 (.s 11) (.s 13) (qb false))]) (.cond (.s 14) (.ops [qm 15 0,qm 16 2, .i (.nch 17 (.s 15)),qf 18 17 2, .i (.sth (.s 18) (.s 16) 1)]) .skip))⟩
theorem uR:cd iC=some iK:=by kernel_rfl
theorem aP (b:Bytes) (r:Rd) (ok:Bool) (c:Nat):VC cd iC (iO [] 215 (bk b r) [(false,[.bool ok]),(false,[.int .i64 (c:Int)])]) (fun rs p=>rs= []∧p= [.pt 215 (bk b (b5 r (!ok) c))]):=by
 refine aw uR rfl ?_
 simp(disch:=omega) [iK,bk,VZ]
 by_cases h:r.er=0
 ·cases ok <;>simp(disch:=omega) [h,b5,bk,VZ]
 ·simp(disch:=omega) [h,b5,bk,VZ]
abbrev jy:Nat:=165
def je:AF:=⟨1,6,[.tmp 2],(.seq (.ops [.i (.mov 2 (qi 0))]) (.seq (.seq (.ops [qm 6 0, .i (.nch 7 (.s 6)),qf 8 7 2, .i (.ldh 9 (.s 8) 1 false), .i (.bin 10 .neq (.s 9) (qi 0))]) (.cond (.s 10) (.seq (.ops [.i (.mov 2 (qi 0))]) .ret) .skip)) (.seq (.ops [qm 12 0, .i (.nch 13 (.s 12)),qf 14 13 0, .i (.ldh 15 (.s 14) 1 false),qm 16 0, .i (.nch 17 (.s 16)),qf 18 17 1, .i (.ldh 19 (.s 18) 1 false), .i (.call 21 243 false [(.s 15),(.s 19)]),qm 11 20, .i (.ext 21 (.s 11) 0), .i (.ext 22 (.s 11) 1), .i (.ext 23 (.s 11) 2),qm 3 21,qm 4 22,qm 5 23]) (.seq (.ops [qm 24 0,qm 25 0,qm 26 4,qm 27 5, .i (.nch 28 (.s 24)),qf 29 28 1, .i (.sth (.s 29) (.s 26) 1), .i (.nch 30 (.s 25)),qf 31 30 2, .i (.sth (.s 31) (.s 27) 1)]) (.seq (.ops [qm 32 3,qm 2 32]) .ret)))))⟩
theorem vj:cd jy=some je:=by kernel_rfl
theorem bz (b:Bytes) (r:Rd) (hr:r.wf b) (hb:b.length≤1073741824):VC cd jy (iO [] 215 (bk b r) []) (fun rs p=>rs=it (cZ b r).1∧p= [.pt 215 (bk b (cZ b r).2)]):=by
 refine aw vj rfl ?_
 simp(disch:=omega) [je,bk,VZ]
 by_cases h:r.er=0
 ·simp(disch:=omega) [h,VZ]
  refine ae (pI b r.at_ hr.1 hb) rfl rfl ?_
  simp(disch:=omega) [Mg,cZ,h,bk,VZ]
 ·simp(disch:=omega) [h,cZ,bk,VZ]
abbrev gU:Nat:=167
def gY:AF:=⟨3,5,[.tmp 6],(.seq (.ops [.i (.mov 6 (qi 0))]) (.seq (.ops [qm 8 0,qk 10 165 8,qm 7 9]) (.seq (.ops [qm 10 0,qm 11 7,qm 12 1,qd 13 .lss 11 12,qm 14 2, .i (.call 16 172 false [(.s 10),(.s 13),(.s 14)])]) (.seq (.ops [qm 16 7,qm 6 16]) .ret))))⟩
theorem sJ:cd gU=some gY:=by kernel_rfl
theorem cG (b:Bytes) (r:Rd) (n:Int) (c:Nat) (hr:r.wf b) (hb:b.length≤1073741824):VC cd gU (iO [] 215 (bk b r) [(false,[.int .i64 n]),(false,[.int .i64 (c:Int)])]) (fun rs p=>rs=it (bP b r n c).1∧p= [.pt 215 (bk b (bP b r n c).2)]):=by
 refine aw sJ rfl ?_
 simp(disch:=omega) [gY,bk,VZ]
 refine dc (bz b r hr hb) ?_
 generalize hx:cZ b r=x
 simp(disch:=omega) [bk,VZ]
 refine dc (aP b x.2 (decide ((x.1:Int) < n)) c) ?_
 have e:(!decide ((x.1:Int) < n))=decide (n≤(x.1:Int)):=by
  by_cases h:(x.1:Int) < n
  ·simp[h]
  ·simp[h];omega
 simp(disch:=omega) [bk,bP,hx,e,VZ]
abbrev jz:Nat:=244
def jn:AF:=⟨2,6,[.tmp 4],(.seq (.ops [.i (.mov 4 (.c (.val false [.nils])))]) (.seq (.seq (.ops [qm 8 0, .i (.nch 9 (.s 8)),qf 10 9 2, .i (.ldh 11 (.s 10) 1 false), .i (.bin 12 .neq (.s 11) (qi 0))]) (.cond (.s 12) (.seq (.ops [.i (.mov 4 (.c (.val false [.nils])))]) .ret) .skip)) (.seq (.ops [qm 14 0, .i (.nch 15 (.s 14)),qf 16 15 0, .i (.ldh 17 (.s 16) 1 false),qm 18 0, .i (.nch 19 (.s 18)),qf 20 19 1, .i (.ldh 21 (.s 20) 1 false),qm 22 1, .i (.call 24 248 false [(.s 17),(.s 21),(.s 22)]),qm 13 23, .i (.ext 24 (.s 13) 0), .i (.ext 25 (.s 13) 1), .i (.ext 26 (.s 13) 2),qm 5 24,qm 6 25,qm 7 26]) (.seq (.ops [qm 27 0,qm 28 0,qm 29 6,qm 30 7, .i (.nch 31 (.s 27)),qf 32 31 1, .i (.sth (.s 32) (.s 29) 1), .i (.nch 33 (.s 28)),qf 34 33 2, .i (.sth (.s 34) (.s 30) 1)]) (.seq (.ops [qm 35 5,qm 4 35]) .ret)))))⟩
theorem wI:cd jz=some jn:=by kernel_rfl
theorem C3 (b:Bytes) (r:Rd) (n:Nat) (hn:n≤1073741824) (hr:r.wf b) (hb:b.length≤1073741824):VC cd jz (iO [] 215 (bk b r) [(false,[.int .i64 (n:Int)])]) (fun rs p=>rs= [(false,[.o true (some (5,1)) (bytes (cf b r n).1)])]∧p= [.pt 215 (bk b (cf b r n).2)]):=by
 refine VC.xQ ?_
 refine aw wI rfl ?_
 simp(disch:=omega) [jn,bk,VZ]
 by_cases h:r.er=0
 ·simp(disch:=omega) [h,VZ]
  refine ae (gH b r.at_ n hr.1 hb (by omega)) rfl rfl ?_
  simp(disch:=omega) [Jc,cf,h,bk,br,bN,bT,ak,VZ]
 ·simp(disch:=omega) [h,cf,bk,br,bN,bT,ak,VZ]
abbrev iE:Nat:=166
def ir:AF:=⟨1,3,[.tmp 2],(.seq (.ops [.i (.mov 2 (.c (.val false [.nils])))]) (.seq (.ops [qm 3 0, .i (.call 5 244 false [(.s 3),(qi 32)]),qm 2 4]) .ret))⟩
theorem u3:cd iE=some ir:=by kernel_rfl
theorem cm (b:Bytes) (r:Rd) (hr:r.wf b) (hb:b.length≤1073741824):VC cd iE (iO [] 215 (bk b r) []) (fun rs p=>rs= [(false,[.o true (some (5,1)) (bytes (cf b r 32).1)])]∧p= [.pt 215 (bk b (cf b r 32).2)]):=by
 refine aw u3 rfl ?_
 simp(disch:=omega) [ir,bk,VZ]
 refine dc (C3 b r 32 (by omega) hr hb) ?_
 simp(disch:=omega) [bk,VZ]
abbrev eM:Nat:=177
def il:AF:=⟨2,6,[.tmp 4],(.seq (.ops [.i (.mov 4 (.c (.val false [.nils])))]) (.seq (.seq (.ops [qm 8 0, .i (.nch 9 (.s 8)),qf 10 9 2, .i (.ldh 11 (.s 10) 1 false), .i (.bin 12 .neq (.s 11) (qi 0))]) (.cond (.s 12) (.seq (.ops [.i (.mov 4 (.c (.val false [.nils])))]) .ret) .skip)) (.seq (.ops [qm 14 0, .i (.nch 15 (.s 14)),qf 16 15 0, .i (.ldh 17 (.s 16) 1 false),qm 18 0, .i (.nch 19 (.s 18)),qf 20 19 1, .i (.ldh 21 (.s 20) 1 false),qm 22 1, .i (.call 24 255 false [(.s 17),(.s 21),(.s 22)]),qm 13 23, .i (.ext 24 (.s 13) 0), .i (.ext 25 (.s 13) 1), .i (.ext 26 (.s 13) 2),qm 5 24,qm 6 25,qm 7 26]) (.seq (.ops [qm 27 0,qm 28 0,qm 29 6,qm 30 7, .i (.nch 31 (.s 27)),qf 32 31 1, .i (.sth (.s 32) (.s 29) 1), .i (.nch 33 (.s 28)),qf 34 33 2, .i (.sth (.s 34) (.s 30) 1)]) (.seq (.ops [qm 35 5,qm 4 35]) .ret)))))⟩
theorem uT:cd eM=some il:=by kernel_rfl
theorem Cc (b:Bytes) (r:Rd) (m:Nat) (hm:m≤1073741824) (hr:r.wf b) (hb:b.length≤1073741824):VC cd eM (iO [] 215 (bk b r) [(false,[.int .i64 (m:Int)])]) (fun rs p=>rs= [(false,[.o true (some (5,1)) (bytes (dV b r m).1)])]∧p= [.pt 215 (bk b (dV b r m).2)]):=by
 refine VC.xQ ?_
 refine aw uT rfl ?_
 simp(disch:=omega) [il,bk,VZ]
 by_cases h:r.er=0
 ·simp(disch:=omega) [h,VZ]
  refine ae (yL b r.at_ m hr.1 hb hm) rfl rfl ?_
  simp(disch:=omega) [Jc,dV,h,bk,br,bN,bT,ak,VZ]
 ·simp(disch:=omega) [h,dV,bk,br,bN,bT,ak,VZ]
end Go.Eng.F
