import Derived.Test.YtlhapfligolmcaaGreatGh
set_option maxRecDepth 100000
set_option linter.unusedSimpArgs false
set_option linter.unusedVariables false
namespace Go.Eng.F
def jP (x:Bytes):Bytes:=aS x.length++x
abbrev lN:Nat:=245
def lz:AF:=⟨2,5,[.tmp 4],(.seq (.ops [.i (.mov 4 (.c (.val false [.nils])))]) (.seq (.ops [qm 8 0,qm 9 1,qn 10 9, .i (.call 12 278 false [(.s 8),(.s 10)]),qm 7 11, .i (.ext 12 (.s 7) 0), .i (.ext 13 (.s 7) 1),qm 5 12,qm 6 13]) (.seq (.ops [qm 14 5,qm 15 1, .i (.app 16 5 1 1 (.s 14) (.s 15)),qm 4 16]) .ret)))⟩
theorem wT:cd lN=some lz:=by kernel_rfl
theorem jx (b x:Bytes) (hb:b.length≤900000000) (hx:x.length≤100000000):VC cd lN (aJ [(false,[.sl (bytes b)]),(false,[.sl (bytes x)])]) (fun rs _=>rs= [(false,[.o true (some (5,1)) (bytes (b++jP x))])]):=by
 have h1:=bD (n:=x.length) (by omega)
 refine aa wT rfl ?_
 simp(disch:=omega) [lz,an,VY]
 refine ay (oQ b x.length (by omega) (by omega)) ?_
 simp(disch:=omega) [an,cN,VY]
 simp(disch:=omega) [jP,VY]
abbrev kX:Nat:=235
def lL:AF:=⟨2,5,[.tmp 4],(.seq (.ops [.i (.mov 4 (.c (.val false [.nils])))]) (.seq (.ops [qm 8 0,qm 9 1,qn 10 9, .i (.call 12 274 false [(.s 8),(.s 10)]),qm 7 11, .i (.ext 12 (.s 7) 0), .i (.ext 13 (.s 7) 1),qm 5 12,qm 6 13]) (.seq (.ops [qm 14 5,qm 15 1, .i (.app 16 5 1 1 (.s 14) (.s 15)),qm 4 16]) .ret)))⟩
theorem vY:cd kX=some lL:=by kernel_rfl
theorem jI (b x:Bytes) (hb:b.length≤900000000) (hx:x.length≤100000000):VC cd kX (aJ [(false,[.sl (bytes b)]),(false,[.sl (bytes x)])]) (fun rs _=>rs= [(false,[.o true (some (5,1)) (bytes (b++jP x))])]):=by
 have h1:=bD (n:=x.length) (by omega)
 refine aa vY rfl ?_
 simp(disch:=omega) [lL,an,VY]
 refine ay (pj b x.length (by omega) (by omega)) ?_
 simp(disch:=omega) [an,cN,VY]
 simp(disch:=omega) [jP,VY]
def ss (l:aB) (v:bC):Bool:=l.ok && isNum v.view && isNum v.height && hash v.block && hash v.tag && eA v.who 0 (l.n - 1)
def Hw (v:bC):Bytes:=aS v.view.toNat++(aS v.height.toNat++(v.block++(aS v.who.toNat++v.tag)))
structure Kj (v:bC):Prop where
 view:isNum v.view=true
 height:isNum v.height=true
 block:v.block.length=32
 who:isNum v.who=true
 tag:v.tag.length=32
theorem yY {l:aB} {v:bC} (h:ss l v=true):Kj v:=by
 simp only[ss,Bool.and_eq_true]at h
 have h1:=iZ h.1.1.1.1.1
 have h2:=ks h.2
 exact⟨h.1.1.1.1.2,h.1.1.1.2,qp h.1.1.2,by simp[isNum,eA];omega,qp h.1.2⟩
theorem Hc {v:bC} (h:Kj v):(Hw v).length≤100:=by
 have h1:=aw h.view
 have h2:=aw h.height
 have h3:=aw h.who
 have h4:=h.block
 have h5:=h.tag
 simp only[Hw,List.length_append]
 omega
abbrev oi:Nat:=240
def og:AF:=⟨2,6,[.tmp 4],(.seq (.ops [.i (.lbox 2 (.s 0)), .i (.lbox 3 (.s 1)), .i (.mov 4 (qb false))]) (.seq (.ops [ql 5 2 2 5 true,qk 7 134 5,qm 7 6, .g 7 true 9 (.fad 8 (.s 3) 0), .g 7 true 10 (.ldl 9 3 (.s 8) 1 false), .g 7 true 11 (.call 11 213 false [(.s 9)]), .i (.pick 11 (.s 7) (.s 10) (qb false)),qm 12 11, .g 12 true 14 (.fad 13 (.s 3) 1), .g 12 true 15 (.ldl 14 3 (.s 13) 1 false), .g 12 true 16 (.call 16 213 false [(.s 14)]), .i (.pick 16 (.s 12) (.s 15) (qb false)),qm 17 16, .g 17 true 19 (.fad 18 (.s 3) 2), .g 17 true 20 (.ldl 19 3 (.s 18) 1 false), .g 17 true 21 (.fad 20 (.s 3) 4), .g 17 true 22 (.ldl 21 3 (.s 20) 1 false), .g 17 true 23 (.bsl 22 22 1 2 [.nils] [(0,1,(.s 19)),(1,1,(.s 21))]), .g 17 true 24 (.call 24 214 false [(.s 22)]), .i (.pick 24 (.s 17) (.s 23) (qb false)),qm 25 24, .g 25 true 27 (.fad 26 (.s 3) 3), .g 25 true 28 (.ldl 27 3 (.s 26) 1 false), .g 25 true 29 (.fad 28 (.s 2) 0), .g 25 true 30 (.ldl 29 2 (.s 28) 1 false), .g 25 true 31 (.bin 30 .sub (.s 29) (qi 1)), .g 25 true 32 (.call 32 62 false [(.s 27),(qi 0),(.s 30)]), .i (.pick 32 (.s 25) (.s 31) (qb false)),qm 4 32]) .ret))⟩
theorem xP:cd oi=some og:=by kernel_rfl
theorem wO (l:aB) (v:bC):VC cd oi (aJ [(true,l.c),(true,v.c)]) (fun rs _=>rs=bl (ss l v)):=by
 refine aa xP rfl ?_
 simp(disch:=omega) [og,aB.c,bC.c,VY]
 refine ay (cO l) ?_ (ha:=by first|rfl|(simp[aB.c,VY] <;>repeat' constructor))
 simp(disch:=omega) [VY]
 refine ak (fun h1=> ?_) (fun h1=> ?_) <;>simp(disch:=omega) [h1,ss,VY]
 have hn:=iZ h1
 refine ay (ek v.view) ?_
 simp(disch:=omega) [h1,VY]
 refine ak (fun h2=> ?_) (fun h2=> ?_) <;>simp(disch:=omega) [h1,h2,VY]
 refine ay (ek v.height) ?_
 simp(disch:=omega) [h1,h2,VY]
 refine ak (fun h3=> ?_) (fun h3=> ?_) <;>simp(disch:=omega) [h1,h2,h3,VY]
 refine ay (bZ [v.block,v.tag] (by simp)) ?_ (ha:=by first|rfl|(simp[cC,VY] <;>repeat' constructor))
 simp(disch:=omega) [h1,h2,h3,pH,VY]
 refine ak (fun h4=> ?_) (fun h4=> ?_)
 ·have h5:hash v.block=true∧hash v.tag=true:=by simpa using h4
  simp(disch:=omega) [h1,h2,h3,h5.1,h5.2,VY]
  refine ay (aT v.who 0 (l.n - 1)) ?_
  simp(disch:=omega) [h1,h2,h3,h5.1,h5.2,VY]
 ·simp(disch:=omega) [h1,h2,h3,h4,VY]
abbrev o8:Nat:=232
def pz:AF:=⟨2,6,[.tmp 4],(.seq (.ops [.i (.lbox 2 (.s 0)), .i (.lbox 3 (.s 1)), .i (.mov 4 (qb false))]) (.seq (.ops [ql 5 2 2 5 true,qk 7 142 5,qm 7 6, .g 7 true 9 (.fad 8 (.s 3) 0), .g 7 true 10 (.ldl 9 3 (.s 8) 1 false), .g 7 true 11 (.call 11 201 false [(.s 9)]), .i (.pick 11 (.s 7) (.s 10) (qb false)),qm 12 11, .g 12 true 14 (.fad 13 (.s 3) 1), .g 12 true 15 (.ldl 14 3 (.s 13) 1 false), .g 12 true 16 (.call 16 201 false [(.s 14)]), .i (.pick 16 (.s 12) (.s 15) (qb false)),qm 17 16, .g 17 true 19 (.fad 18 (.s 3) 2), .g 17 true 20 (.ldl 19 3 (.s 18) 1 false), .g 17 true 21 (.call 21 202 false [(.s 19)]), .i (.pick 21 (.s 17) (.s 20) (qb false)),qm 22 21, .g 22 true 24 (.fad 23 (.s 3) 4), .g 22 true 25 (.ldl 24 3 (.s 23) 1 false), .g 22 true 26 (.call 26 202 false [(.s 24)]), .i (.pick 26 (.s 22) (.s 25) (qb false)),qm 27 26, .g 27 true 29 (.fad 28 (.s 3) 3), .g 27 true 30 (.ldl 29 3 (.s 28) 1 false), .g 27 true 31 (.fad 30 (.s 2) 0), .g 27 true 32 (.ldl 31 2 (.s 30) 1 false), .g 27 true 33 (.bin 32 .sub (.s 31) (qi 1)), .g 27 true 34 (.call 34 152 false [(.s 29),(qi 0),(.s 32)]), .i (.pick 34 (.s 27) (.s 33) (qb false)),qm 4 34]) .ret))⟩
theorem yl:cd o8=some pz:=by kernel_rfl
theorem vB (l:aB) (v:bC):VC cd o8 (aJ [(true,l.c),(true,v.c)]) (fun rs _=>rs=bl (ss l v)):=by
 refine aa yl rfl ?_
 simp(disch:=omega) [pz,aB.c,bC.c,VY]
 refine ay (cf l) ?_ (ha:=by first|rfl|(simp[aB.c,VY] <;>repeat' constructor))
 simp(disch:=omega) [VY]
 refine ak (fun h1=> ?_) (fun h1=> ?_) <;>simp(disch:=omega) [h1,ss,VY]
 have hn:=iZ h1
 refine ay (d8 v.view) ?_
 simp(disch:=omega) [h1,VY]
 refine ak (fun h2=> ?_) (fun h2=> ?_) <;>simp(disch:=omega) [h1,h2,VY]
 refine ay (d8 v.height) ?_
 simp(disch:=omega) [h1,h2,VY]
 refine ak (fun h3=> ?_) (fun h3=> ?_) <;>simp(disch:=omega) [h1,h2,h3,VY]
 refine ay (dP v.block) ?_
 simp(disch:=omega) [h1,h2,h3,VY]
 refine ak (fun h4=> ?_) (fun h4=> ?_) <;>simp(disch:=omega) [h1,h2,h3,h4,VY]
 refine ay (dP v.tag) ?_
 simp(disch:=omega) [h1,h2,h3,h4,VY]
 refine ak (fun h5=> ?_) (fun h5=> ?_) <;>simp(disch:=omega) [h1,h2,h3,h4,h5,VY]
 refine ay (bS v.who 0 (l.n - 1)) ?_
 simp(disch:=omega) [h1,h2,h3,h4,h5,VY]
abbrev mP:Nat:=177
def m8:AF:=⟨3,6,[.tmp 6, .tmp 7],(.seq (.ops [.i (.lbox 3 (.s 0)), .i (.lbox 5 (.s 2)), .i (.mov 6 (.c (.val false [.nils]))), .i (.mov 7 (qb false))]) (.seq (.seq (.ops [ql 9 3 3 5 true,ql 10 5 5 5 true, .i (.call 12 240 false [(.s 9),(.s 10)]), .i (.not 12 (.s 11))]) (.cond (.s 12) (.seq (.ops [.i (.mov 6 (.c (.val false [.nils]))), .i (.mov 7 (qb false))]) .ret) .skip)) (.seq (.ops [qm 13 1,qk 15 60 13, .i (.bld 15 [.nils] [(0,1,(.s 14))]), .i (.hbox 16 228 (.s 15)),qm 8 16]) (.seq (.ops [qm 17 8,qf 18 5 0,ql 19 5 18 1 false, .i (.call 21 241 false [(.s 17),(.s 19)])]) (.seq (.ops [qm 21 8,qf 22 5 1,ql 23 5 22 1 false, .i (.call 25 241 false [(.s 21),(.s 23)])]) (.seq (.ops [qm 25 8,qf 26 5 2,ql 27 5 26 1 false, .i (.call 29 242 false [(.s 25),(.s 27)])]) (.seq (.ops [qm 29 8,qf 30 5 3,ql 31 5 30 1 false, .i (.call 33 241 false [(.s 29),(.s 31)])]) (.seq (.ops [qm 33 8,qf 34 5 4,ql 35 5 34 1 false, .i (.call 37 242 false [(.s 33),(.s 35)])]) (.seq (.ops [qm 37 8, .i (.nch 38 (.s 37)),qf 39 38 0, .i (.ldh 40 (.s 39) 1 false),qm 6 40, .i (.mov 7 (qb true))]) .ret)))))))))⟩
theorem vC:cd mP=some m8:=by kernel_rfl
theorem jQ (l:aB) (b:Bytes) (v:bC) (hb:b.length≤900000000):VC cd mP (aJ [(true,l.c),(false,[.sl (bytes b)]),(true,v.c)]) (fun rs _=>rs=aU (ss l v) (b++Hw v)):=by
 refine aa vC rfl ?_
 simp(disch:=omega) [m8,bC.c,aB.c,VY]
 refine ay (wO l v) ?_ (ha:=by first|rfl|(simp[bC.c,aB.c,VY] <;>repeat' constructor))
 simp(disch:=omega) [VY]
 refine ak (fun h0=> ?_) (fun h0=> ?_)
 case refine_2=>simp(disch:=omega) [h0,aU,VY]
 have hs:=yY h0
 have h1:=aw hs.view
 have h2:=aw hs.height
 have h3:=aw hs.who
 have h4:=hs.block
 have h5:=hs.tag
 simp(disch:=omega) [h0,VY]
 refine ah (aL b (by omega)) rfl rfl ?_
 simp(disch:=omega) [VZ]
 refine oJ (aH _ v.view hs.view ?_) ?_
 ·(try simp only[List.length_append]);omega
 simp(disch:=omega) [VZ]
 refine oJ (aH _ v.height hs.height ?_) ?_
 ·(try simp only[List.length_append]);omega
 simp(disch:=omega) [VZ]
 refine oJ (bK _ v.block (by omega) ?_) ?_
 ·(try simp only[List.length_append]);omega
 simp(disch:=omega) [VZ]
 refine oJ (aH _ v.who hs.who ?_) ?_
 ·(try simp only[List.length_append]);omega
 simp(disch:=omega) [VZ]
 refine oJ (bK _ v.tag (by omega) ?_) ?_
 ·(try simp only[List.length_append]);omega
 simp(disch:=omega) [aU,h0,Hw,VZ]
abbrev nm:Nat:=167
def me:AF:=⟨3,5,[.tmp 6, .tmp 7],(.seq (.ops [.i (.lbox 3 (.s 0)), .i (.lbox 5 (.s 2)), .i (.mov 6 (.c (.val false [.nils]))), .i (.mov 7 (qb false))]) (.seq (.seq (.ops [ql 9 3 3 5 true,ql 10 5 5 5 true, .i (.call 12 232 false [(.s 9),(.s 10)]), .i (.not 12 (.s 11))]) (.cond (.s 12) (.seq (.ops [.i (.mov 6 (.c (.val false [.nils]))), .i (.mov 7 (qb false))]) .ret) .skip)) (.seq (.ops [qm 13 1,qf 14 5 0,ql 15 5 14 1 false, .i (.call 17 233 false [(.s 13),(.s 15)]),qf 17 5 1,ql 18 5 17 1 false, .i (.call 20 233 false [(.s 16),(.s 18)]),qf 20 5 2,ql 21 5 20 1 false, .i (.app 22 5 1 1 (.s 19) (.s 21)),qm 8 22]) (.seq (.ops [qm 23 8,qf 24 5 3,ql 25 5 24 1 false, .i (.call 27 233 false [(.s 23),(.s 25)]),qf 27 5 4,ql 28 5 27 1 false, .i (.app 29 5 1 1 (.s 26) (.s 28)),qm 6 29, .i (.mov 7 (qb true))]) .ret))))⟩
theorem xo:cd nm=some me:=by kernel_rfl
theorem jo (l:aB) (b:Bytes) (v:bC) (hb:b.length≤900000000):VC cd nm (aJ [(true,l.c),(false,[.sl (bytes b)]),(true,v.c)]) (fun rs _=>rs=aU (ss l v) (b++Hw v)):=by
 refine aa xo rfl ?_
 simp(disch:=omega) [me,bC.c,aB.c,VY]
 refine ay (vB l v) ?_ (ha:=by first|rfl|(simp[bC.c,aB.c,VY] <;>repeat' constructor))
 simp(disch:=omega) [VY]
 refine ak (fun h0=> ?_) (fun h0=> ?_)
 case refine_2=>simp(disch:=omega) [h0,aU,VY]
 have hs:=yY h0
 have h1:=aw hs.view
 have h2:=aw hs.height
 have h3:=aw hs.who
 have h4:=hs.block
 have h5:=hs.tag
 simp(disch:=omega) [h0,VY]
 refine ay (bk b v.view hs.view (by omega)) ?_
 simp(disch:=omega) [VY]
 refine ay (bk (b++aS v.view.toNat) v.height hs.height (by simp only[List.length_append];omega)) ?_
 simp(disch:=omega) [cN,an,VY]
 refine ay (bk (b++(aS v.view.toNat++(aS v.height.toNat++v.block))) v.who hs.who (by simp only[List.length_append];omega)) ?_
 simp(disch:=omega) [cN,an,aU,h0,Hw,VY]
def cv (i n:Nat):Nat:=if h:n < 2 then 0 else
 have:=dV (n:=n) (by omega)
 if i < splitAt n then 1+cv i (splitAt n)else 1+cv (i - splitAt n) (n - splitAt n)
termination_by n
theorem qa {i n:Nat} (h:n < 2):cv i n=0:=by rw[cv,dif_pos h]
theorem sc {i n:Nat} (h:2≤n) (hi:i < splitAt n):cv i n=1+cv i (splitAt n):=by rw[cv,dif_neg (by omega),if_pos hi]
theorem rQ {i n:Nat} (h:2≤n) (hi:¬i < splitAt n):cv i n=1+cv (i - splitAt n) (n - splitAt n):=by rw[cv,dif_neg (by omega),if_neg hi]
theorem cV:∀(n i:Nat),cv i n≤n:=by
 intro n
 induction n using Nat.strongRecOn with
 |ind n ih=>
 intro i
 rcases Nat.lt_or_ge n 2 with h|h
 ·rw[qa h];omega
 ·have h1:=dV h
  by_cases hi:i < splitAt n
  ·rw[sc h hi];have:=ih (splitAt n) h1.2 i;omega
  ·rw[rQ h hi];have:=ih (n - splitAt n) (by omega) (i - splitAt n);omega
abbrev nc:Nat:=280
def kP:AF:=⟨2,6,[.tmp 4],(.seq (.ops [.i (.mov 4 (qi 0))]) (.seq (.seq (.ops [qm 6 1, .i (.bin 7 .lss (.s 6) (qi 2)),qm 8 7, .g 8 false 10 (.mov 9 (.s 1)), .g 8 false 11 (.bin 10 .gtr (.s 9) (qi 1048576)), .i (.pick 11 (.s 8) (qb true) (.s 10)),qm 12 11, .g 12 false 14 (.mov 13 (.s 0)), .g 12 false 15 (.mov 14 (.s 1)), .g 12 false 16 (.bin 15 .sub (.s 14) (qi 1)), .g 12 false 17 (.call 17 62 false [(.s 13),(qi 0),(.s 15)]), .g 12 false 18 (.not 17 (.s 16)), .i (.pick 18 (.s 12) (qb true) (.s 17))]) (.cond (.s 18) (.seq (.ops [.i (.mov 4 (qi 0))]) .ret) .skip)) (.seq (.ops [qm 19 1,qk 21 292 19,qm 5 20]) (.seq (.seq (.ops [qm 21 0,qm 22 5,qd 23 .lss 21 22]) (.cond (.s 23) (.seq (.ops [qm 24 0,qm 25 5, .i (.call 27 280 false [(.s 24),(.s 25)]), .i (.bin 27 .add (qi 1) (.s 26)),qm 4 27]) .ret) .skip)) (.seq (.ops [qm 28 0,qm 29 5,qd 30 .sub 28 29,qm 31 1,qm 32 5,qd 33 .sub 31 32, .i (.call 35 280 false [(.s 30),(.s 33)]), .i (.bin 35 .add (qi 1) (.s 34)),qm 4 35]) .ret)))))⟩
theorem vV:cd nc=some kP:=by kernel_rfl
theorem tR:∀(n i:Nat),i < n→n≤1048576→VC cd nc (aJ [(false,[.int .i64 (i:Int)]),(false,[.int .i64 (n:Int)])]) (fun rs _=>rs=it (cv i n)):=by
 intro n
 induction n using Nat.strongRecOn with
 |ind n ih=>
 intro i hi hn
 have hp:=cV n i
 have he:eA (i:Int) 0 ((n:Int) - 1)=true:=by simp only[eA,decide_eq_true_eq];omega
 refine aa vV rfl ?_
 simp(disch:=omega) [kP,VY]
 refine ab (fun h1=> ?_) (fun h1=> ?_)
 ·simp(disch:=omega) [h1,qa (i:=i) (n:=n) (by omega),VY]
 have h2:2≤n:=by omega
 obtain⟨k1,k2⟩:=dV h2
 simp(disch:=omega) [h1,VY]
 refine ab (fun h3=> ?_) (fun h3=> ?_)
 ·omega
 simp(disch:=omega) [h1,h3,VY]
 refine ay (aT (i:Int) 0 ((n:Int) - 1)) ?_
 simp(disch:=omega) [h1,h3,he,VY]
 refine ay (jN n (by omega)) ?_
 simp(disch:=omega) [VY]
 refine ab (fun h4=> ?_) (fun h4=> ?_)
 ·have h5:i < splitAt n:=by omega
  have h6:=sc h2 h5
  simp(disch:=omega) [h4,VY]
  refine ay (ih (splitAt n) k2 i h5 (by omega)) ?_
  have h7:=cV (splitAt n) i
  simp(disch:=omega) [h6,VY]
 ·have h5:¬i < splitAt n:=by omega
  have h6:=rQ h2 h5
  have t1:(i:Int) - (splitAt n:Int)=((i - splitAt n:Nat):Int):=by omega
  have t2:(n:Int) - (splitAt n:Int)=((n - splitAt n:Nat):Int):=by omega
  simp(disch:=omega) [h4,t1,t2,VY]
  refine ay (ih (n - splitAt n) (by omega) (i - splitAt n) (by omega) (by omega)) ?_
  have h7:=cV (n - splitAt n) (i - splitAt n)
  simp(disch:=omega) [h6,VY]
abbrev rC:Nat:=290
def qT:AF:=⟨2,4,[.tmp 4],(.seq (.ops [.i (.mov 4 (qb false))]) (.seq (.ops [qm 5 1, .i (.call 7 152 false [(.s 5),(qi 1),(qi 1048576)]),qm 7 6, .g 7 true 9 (.mov 8 (.s 0)), .g 7 true 10 (.mov 9 (.s 1)), .g 7 true 11 (.bin 10 .sub (.s 9) (qi 1)), .g 7 true 12 (.call 12 152 false [(.s 8),(qi 0),(.s 10)]), .i (.pick 12 (.s 7) (.s 11) (qb false)),qm 4 12]) .ret))⟩
theorem Ap:cd rC=some qT:=by kernel_rfl
theorem Fi (i n:Nat) (hn:n≤1048576):VC cd rC (aJ [(false,[.int .i64 (i:Int)]),(false,[.int .i64 (n:Int)])]) (fun rs _=>rs=bl (eA (n:Int) 1 1048576 && eA (i:Int) 0 ((n:Int) - 1))):=by
 refine aa Ap rfl ?_
 simp(disch:=omega) [qT,VY]
 refine ay (bS (n:Int) 1 1048576) ?_
 simp(disch:=omega) [VY]
 refine ak (fun h1=> ?_) (fun h1=> ?_) <;>simp(disch:=omega) [h1,VY]
 refine ay (bS (i:Int) 0 ((n:Int) - 1)) ?_
 simp(disch:=omega) [h1,VY]
abbrev mB:Nat:=277
def na:AF:=⟨2,5,[.tmp 4],(.seq (.ops [.i (.mov 4 (qi 0))]) (.seq (.seq (.ops [qm 6 0,qm 7 1, .i (.call 9 290 false [(.s 6),(.s 7)]), .i (.not 9 (.s 8)),qm 10 9, .g 10 false 12 (.mov 11 (.s 1)), .g 10 false 13 (.bin 12 .eql (.s 11) (qi 1)), .i (.pick 13 (.s 10) (qb true) (.s 12))]) (.cond (.s 13) (.seq (.ops [.i (.mov 4 (qi 0))]) .ret) .skip)) (.seq (.ops [qm 14 1,qk 16 288 14,qm 5 15]) (.seq (.seq (.ops [qm 16 0,qm 17 5,qd 18 .lss 16 17]) (.cond (.s 18) (.seq (.ops [qm 19 0,qm 20 5, .i (.call 22 277 false [(.s 19),(.s 20)]), .i (.bin 22 .add (qi 1) (.s 21)),qm 4 22]) .ret) .skip)) (.seq (.ops [qm 23 0,qm 24 5,qd 25 .sub 23 24,qm 26 1,qm 27 5,qd 28 .sub 26 27, .i (.call 30 277 false [(.s 25),(.s 28)]), .i (.bin 30 .add (qi 1) (.s 29)),qm 4 30]) .ret)))))⟩
theorem wq:cd mB=some na:=by kernel_rfl
theorem uY:∀(n i:Nat),i < n→n≤1048576→VC cd mB (aJ [(false,[.int .i64 (i:Int)]),(false,[.int .i64 (n:Int)])]) (fun rs _=>rs=it (cv i n)):=by
 intro n
 induction n using Nat.strongRecOn with
 |ind n ih=>
 intro i hi hn
 have hp:=cV n i
 have he:eA (i:Int) 0 ((n:Int) - 1)=true:=by simp only[eA,decide_eq_true_eq];omega
 have he2:eA (n:Int) 1 1048576=true:=by simp only[eA,decide_eq_true_eq];omega
 refine aa wq rfl ?_
 simp(disch:=omega) [na,VY]
 refine ay (Fi i n hn) ?_
 simp(disch:=omega) [he,he2,VY]
 refine ab (fun h1=> ?_) (fun h1=> ?_)
 ·simp(disch:=omega) [h1,qa (i:=i) (n:=n) (by omega),VY]
 have h2:2≤n:=by omega
 obtain⟨k1,k2⟩:=dV h2
 simp(disch:=omega) [h1,VY]
 refine ay (jl n (by omega)) ?_
 simp(disch:=omega) [VY]
 refine ab (fun h4=> ?_) (fun h4=> ?_)
 ·have h5:i < splitAt n:=by omega
  have h6:=sc h2 h5
  simp(disch:=omega) [h4,VY]
  refine ay (ih (splitAt n) k2 i h5 (by omega)) ?_
  have h7:=cV (splitAt n) i
  simp(disch:=omega) [h6,VY]
 ·have h5:¬i < splitAt n:=by omega
  have h6:=rQ h2 h5
  have t1:(i:Int) - (splitAt n:Int)=((i - splitAt n:Nat):Int):=by omega
  have t2:(n:Int) - (splitAt n:Int)=((n - splitAt n:Nat):Int):=by omega
  simp(disch:=omega) [h4,t1,t2,VY]
  refine ay (ih (n - splitAt n) (by omega) (i - splitAt n) (by omega) (by omega)) ?_
  have h7:=cV (n - splitAt n) (i - splitAt n)
  simp(disch:=omega) [h6,VY]
theorem zM {l:aB} (h:l.ok=true):0≤l.tx∧l.tx≤40∧l.txs≤8:=by
 simp only[aB.ok,Bool.and_eq_true]at h
 have h1:=dq h.1.1.1.2
 have h2:=dq h.1.1.2
 omega
def eP (l:aB) (x:bg):Bool:=l.ok && isNum x.height && eA x.n 1 l.txs && eA x.idx 0 (x.n - 1) && decide ((x.tx.length:Int)≤l.tx) && decide (x.path.length=cv x.idx.toNat x.n.toNat) && hashes x.path
def td (x:bg):Bytes:=aS x.height.toNat++(aS x.n.toNat++(aS x.idx.toNat++(jP x.tx++x.path.flatten)))
def bI (l:aB) (t:Tc) (i:Nat):Bool:=match t.entries[i]? with
 |some e=>eA e.who 0 (l.n - 1) && eA e.high 0 (t.view - 1) && hash e.tag && (decide (i=0)||match t.entries[i - 1]? with|some d=>decide (d.who < e.who)|none=>false)
 |none=>false
def gh (l:aB) (t:Tc):Bool:=l.ok && isNum t.view && decide ((t.entries.length:Int)≤l.n) && (List.range t.entries.length).all (bI l t)
def D4 (e:Entry):Bytes:=aS e.who.toNat++(aS e.high.toNat++e.tag)
def IY (t:Tc):Bytes:=aS t.view.toNat++(aS t.entries.length++(t.entries.map D4).flatten)
def lK (x:Block):Bytes:=dZ x.head++(aS x.txs.length++(x.txs.map jP).flatten)
def kN (p:Proof):Bytes:=aS p.heads.length++((p.heads.map dZ).flatten++EF p.qc)
abbrev oY:Nat:=247
def pC:AF:=⟨2,6,[.tmp 4],(.seq (.ops [.i (.lbox 2 (.s 0)), .i (.lbox 3 (.s 1)), .i (.mov 4 (qb false))]) (.seq (.ops [ql 5 2 2 5 true,qk 7 134 5,qm 7 6, .g 7 true 9 (.fad 8 (.s 3) 0), .g 7 true 10 (.ldl 9 3 (.s 8) 1 false), .g 7 true 11 (.call 11 213 false [(.s 9)]), .i (.pick 11 (.s 7) (.s 10) (qb false)),qm 12 11, .g 12 true 14 (.fad 13 (.s 3) 1), .g 12 true 15 (.ldl 14 3 (.s 13) 1 false), .g 12 true 16 (.fad 15 (.s 2) 2), .g 12 true 17 (.ldl 16 2 (.s 15) 1 false), .g 12 true 18 (.call 18 62 false [(.s 14),(qi 1),(.s 16)]), .i (.pick 18 (.s 12) (.s 17) (qb false)),qm 19 18, .g 19 true 21 (.fad 20 (.s 3) 2), .g 19 true 22 (.ldl 21 3 (.s 20) 1 false), .g 19 true 23 (.fad 22 (.s 3) 1), .g 19 true 24 (.ldl 23 3 (.s 22) 1 false), .g 19 true 25 (.bin 24 .sub (.s 23) (qi 1)), .g 19 true 26 (.call 26 62 false [(.s 21),(qi 0),(.s 24)]), .i (.pick 26 (.s 19) (.s 25) (qb false)),qm 27 26, .g 27 true 29 (.fad 28 (.s 3) 3), .g 27 true 30 (.ldl 29 3 (.s 28) 1 false), .g 27 true 31 (.len 30 false (.s 29)), .g 27 true 32 (.fad 31 (.s 2) 1), .g 27 true 33 (.ldl 32 2 (.s 31) 1 false), .g 27 true 34 (.bin 33 .leq (.s 30) (.s 32)), .i (.pick 34 (.s 27) (.s 33) (qb false)),qm 35 34, .g 35 true 37 (.fad 36 (.s 3) 4), .g 35 true 38 (.ldl 37 3 (.s 36) 1 false), .g 35 true 39 (.len 38 false (.s 37)), .g 35 true 40 (.fad 39 (.s 3) 2), .g 35 true 41 (.ldl 40 3 (.s 39) 1 false), .g 35 true 42 (.fad 41 (.s 3) 1), .g 35 true 43 (.ldl 42 3 (.s 41) 1 false), .g 35 true 44 (.call 44 280 false [(.s 40),(.s 42)]), .g 35 true 45 (.bin 44 .eql (.s 38) (.s 43)), .i (.pick 45 (.s 35) (.s 44) (qb false)),qm 46 45, .g 46 true 48 (.fad 47 (.s 3) 4), .g 46 true 49 (.ldl 48 3 (.s 47) 1 false), .g 46 true 50 (.call 50 214 false [(.s 48)]), .i (.pick 50 (.s 46) (.s 49) (qb false)),qm 4 50]) .ret))⟩
theorem xZ:cd oY=some pC:=by kernel_rfl
theorem wE (l:aB) (x:bg) (hw:x.wc):VC cd oY (aJ [(true,l.c),(true,x.c)]) (fun rs _=>rs=bl (eP l x)):=by
 obtain⟨w1,w2,w3,w4,w5,w6⟩:=hw
 simp only[Sz]at w4 w5
 refine aa xZ rfl ?_
 simp(disch:=omega) [pC,aB.c,bg.c,VY]
 refine ay (cO l) ?_ (ha:=by first|rfl|(simp[aB.c,VY] <;>repeat' constructor))
 simp(disch:=omega) [VY]
 refine ak (fun h1=> ?_) (fun h1=> ?_) <;>simp(disch:=omega) [h1,eP,VY]
 have hn:=iZ h1
 have ht:=zM h1
 refine ay (ek x.height) ?_
 simp(disch:=omega) [h1,VY]
 refine ak (fun h2=> ?_) (fun h2=> ?_) <;>simp(disch:=omega) [h1,h2,VY]
 refine ay (aT x.n 1 l.txs) ?_
 simp(disch:=omega) [h1,h2,VY]
 refine ak (fun h3=> ?_) (fun h3=> ?_)
 case refine_2=>simp(disch:=omega) [h1,h2,h3,VY]
 have h3':=dq h3
 simp(disch:=omega) [h1,h2,h3,VY]
 refine ay (aT x.idx 0 (x.n - 1)) ?_
 simp(disch:=omega) [h1,h2,h3,VY]
 refine ak (fun h4=> ?_) (fun h4=> ?_) <;>simp(disch:=omega) [h1,h2,h3,h4,an,VY]
 have h4':=dq h4
 refine ab (fun h5=> ?_) (fun h5=> ?_) <;>simp(disch:=omega) [h1,h2,h3,h4,h5,au,VY]
 obtain⟨N,hN⟩:∃N:Nat,x.n=(N:Int):=⟨x.n.toNat,by omega⟩
 obtain⟨I,hI⟩:∃I:Nat,x.idx=(I:Int):=⟨x.idx.toNat,by omega⟩
 have hp:=cV N I
 refine ay (tR N I (by omega) (by omega)) ?_ (ha:=by first|rfl|(simp[hN,hI,VY] <;>repeat' constructor))
 simp(disch:=omega) [h1,h2,h3,h4,h5,au,hN,hI,VY]
 refine ab (fun h6=> ?_) (fun h6=> ?_)
 ·have h7:x.path.length=cv I N:=by omega
  simp(disch:=omega) [h1,h2,h3,h4,h5,h6,h7,au,hN,hI,VY]
  refine ay (bZ x.path (by omega)) ?_
  simp(disch:=omega) [h1,h2,h3,h4,h5,h6,h7,hN,hI,VY]
 ·have h7:¬x.path.length=cv I N:=by omega
  simp(disch:=omega) [h1,h2,h3,h4,h5,h6,h7,au,hN,hI,VY]
abbrev oe:Nat:=238
def pn:AF:=⟨2,6,[.tmp 4],(.seq (.ops [.i (.lbox 2 (.s 0)), .i (.lbox 3 (.s 1)), .i (.mov 4 (qb false))]) (.seq (.ops [ql 5 2 2 5 true,qk 7 142 5,qm 7 6, .g 7 true 9 (.fad 8 (.s 3) 0), .g 7 true 10 (.ldl 9 3 (.s 8) 1 false), .g 7 true 11 (.call 11 201 false [(.s 9)]), .i (.pick 11 (.s 7) (.s 10) (qb false)),qm 12 11, .g 12 true 14 (.fad 13 (.s 3) 1), .g 12 true 15 (.ldl 14 3 (.s 13) 1 false), .g 12 true 16 (.fad 15 (.s 2) 2), .g 12 true 17 (.ldl 16 2 (.s 15) 1 false), .g 12 true 18 (.call 18 152 false [(.s 14),(qi 1),(.s 16)]), .i (.pick 18 (.s 12) (.s 17) (qb false)),qm 19 18, .g 19 true 21 (.fad 20 (.s 3) 2), .g 19 true 22 (.ldl 21 3 (.s 20) 1 false), .g 19 true 23 (.fad 22 (.s 3) 1), .g 19 true 24 (.ldl 23 3 (.s 22) 1 false), .g 19 true 25 (.bin 24 .sub (.s 23) (qi 1)), .g 19 true 26 (.call 26 152 false [(.s 21),(qi 0),(.s 24)]), .i (.pick 26 (.s 19) (.s 25) (qb false)),qm 27 26, .g 27 true 29 (.fad 28 (.s 3) 3), .g 27 true 30 (.ldl 29 3 (.s 28) 1 false), .g 27 true 31 (.len 30 false (.s 29)), .g 27 true 32 (.fad 31 (.s 2) 1), .g 27 true 33 (.ldl 32 2 (.s 31) 1 false), .g 27 true 34 (.bin 33 .leq (.s 30) (.s 32)), .i (.pick 34 (.s 27) (.s 33) (qb false)),qm 35 34, .g 35 true 37 (.fad 36 (.s 3) 4), .g 35 true 38 (.ldl 37 3 (.s 36) 1 false), .g 35 true 39 (.len 38 false (.s 37)), .g 35 true 40 (.fad 39 (.s 3) 2), .g 35 true 41 (.ldl 40 3 (.s 39) 1 false), .g 35 true 42 (.fad 41 (.s 3) 1), .g 35 true 43 (.ldl 42 3 (.s 41) 1 false), .g 35 true 44 (.call 44 277 false [(.s 40),(.s 42)]), .g 35 true 45 (.bin 44 .eql (.s 38) (.s 43)), .i (.pick 45 (.s 35) (.s 44) (qb false)),qm 46 45, .g 46 true 48 (.fad 47 (.s 3) 4), .g 46 true 49 (.ldl 48 3 (.s 47) 1 false), .g 46 true 50 (.call 50 256 false [(.s 48)]), .i (.pick 50 (.s 46) (.s 49) (qb false)),qm 4 50]) .ret))⟩
theorem xJ:cd oe=some pn:=by kernel_rfl
theorem v9 (l:aB) (x:bg) (hw:x.wc):VC cd oe (aJ [(true,l.c),(true,x.c)]) (fun rs _=>rs=bl (eP l x)):=by
 obtain⟨w1,w2,w3,w4,w5,w6⟩:=hw
 simp only[Sz]at w4 w5
 refine aa xJ rfl ?_
 simp(disch:=omega) [pn,aB.c,bg.c,VY]
 refine ay (cf l) ?_ (ha:=by first|rfl|(simp[aB.c,VY] <;>repeat' constructor))
 simp(disch:=omega) [VY]
 refine ak (fun h1=> ?_) (fun h1=> ?_) <;>simp(disch:=omega) [h1,eP,VY]
 have hn:=iZ h1
 have ht:=zM h1
 refine ay (d8 x.height) ?_
 simp(disch:=omega) [h1,VY]
 refine ak (fun h2=> ?_) (fun h2=> ?_) <;>simp(disch:=omega) [h1,h2,VY]
 refine ay (bS x.n 1 l.txs) ?_
 simp(disch:=omega) [h1,h2,VY]
 refine ak (fun h3=> ?_) (fun h3=> ?_)
 case refine_2=>simp(disch:=omega) [h1,h2,h3,VY]
 have h3':=dq h3
 simp(disch:=omega) [h1,h2,h3,VY]
 refine ay (bS x.idx 0 (x.n - 1)) ?_
 simp(disch:=omega) [h1,h2,h3,VY]
 refine ak (fun h4=> ?_) (fun h4=> ?_) <;>simp(disch:=omega) [h1,h2,h3,h4,an,VY]
 have h4':=dq h4
 refine ab (fun h5=> ?_) (fun h5=> ?_) <;>simp(disch:=omega) [h1,h2,h3,h4,h5,au,VY]
 obtain⟨N,hN⟩:∃N:Nat,x.n=(N:Int):=⟨x.n.toNat,by omega⟩
 obtain⟨I,hI⟩:∃I:Nat,x.idx=(I:Int):=⟨x.idx.toNat,by omega⟩
 have hp:=cV N I
 refine ay (uY N I (by omega) (by omega)) ?_ (ha:=by first|rfl|(simp[hN,hI,VY] <;>repeat' constructor))
 simp(disch:=omega) [h1,h2,h3,h4,h5,au,hN,hI,VY]
 refine ab (fun h6=> ?_) (fun h6=> ?_)
 ·have h7:x.path.length=cv I N:=by omega
  simp(disch:=omega) [h1,h2,h3,h4,h5,h6,h7,au,hN,hI,VY]
  refine ay (qY x.path (by omega)) ?_
  simp(disch:=omega) [h1,h2,h3,h4,h5,h6,h7,hN,hI,VY]
 ·have h7:¬x.path.length=cv I N:=by omega
  simp(disch:=omega) [h1,h2,h3,h4,h5,h6,h7,au,hN,hI,VY]
def dg (l:List Bytes):Bytes:=(l.map jP).flatten
theorem tt {l:List Bytes} {i:Nat} (h:i < l.length):dg (l.take (i+1))=dg (l.take i)++jP l[i]:=by
 rw[List.take_succ_eq_append_getElem h]
 simp only[dg,List.map_append,List.map_cons,List.map_nil,List.flatten_append,List.flatten_cons,List.flatten_nil,List.append_nil]
theorem nO {x:Bytes} (h:x.length≤1000):(jP x).length≤1009:=by
 have:=bD (n:=x.length) (by omega)
 simp only[jP,List.length_append]
 omega
theorem je:∀ {l:List Bytes},(∀x∈l,x.length≤1000)→(dg l).length≤1009 * l.length
 | [],_=>by simp[dg]
 |a::l,h=>by
  have h1:=je (l:=l) fun x hx=>h x (by simp[hx])
  have h2:=nO (h a (by simp))
  simp only[dg,List.map_cons,List.flatten_cons,List.length_append,List.length_cons]at h1⊢
  omega
theorem fB {l:aB} {x:Block} (h:bM l x=true):bP l x.head=true:=by
 simp only[bM,Bool.and_eq_true]at h
 exact h.1.1.1
theorem kV {l:aB} {x:Block} (h:bM l x=true):∀t∈x.txs,t.length≤1000:=fun t ht=>by
 have h0:=kL (sV (fB h))
 simp only[aB.ok,Bool.and_eq_true]at h0
 have h1:=ks h0.1.1.1.2
 simp only[bM,Bool.and_eq_true,yy,List.all_eq_true,decide_eq_true_eq]at h
 have:=h.1.2 t ht
 omega
theorem ep {l:aB} {t:Tc} {i:Nat} (hi:i < t.entries.length) (h:bI l t i=false):gh l t=false:=by
 unfold gh
 rw[Bool.and_eq_false_iff]
 right
 rw[List.all_eq_false]
 exact⟨i,by simp[hi],by simp[h]⟩
theorem BN {l:aB} {t:Tc} (h:∀i,i < t.entries.length→bI l t i=true):gh l t=(l.ok && isNum t.view && decide ((t.entries.length:Int)≤l.n)):=by
 unfold gh
 have:(List.range t.entries.length).all (bI l t)=true:=by
  rw[List.all_eq_true]
  intro i hi
  exact h i (by simpa using hi)
 rw[this,Bool.and_true]
theorem qO {l:aB} {t:Tc} {i:Nat} (hd:∀j,j < i→bI l t j=true) (h:bI l t i=true):∀j,j < i+1→bI l t j=true:=fun j hj=>by
 rcases Nat.lt_or_ge j i with hl|hl
 ·exact hd j hl
 ·obtain rfl:j=i:=by omega
  exact h
abbrev gI:Nat:=246
def kJ:AF:=⟨2,7,[.tmp 4],(.seq (.ops [.i (.lbox 2 (.s 0)), .i (.lbox 3 (.s 1)), .i (.mov 4 (qb false))]) (.seq (.seq (.ops [qf 7 3 1,ql 8 3 7 1 false,qn 9 8, .i (.mov 10 (qi 0))]) (.block 0 (.loop [54,53,52,51,50,49,48,47,46,45,44,43,42,41,40,39,38,37,36,35,34,33,32,31,30,29,28,27,26,25,24,23,22,21,20,19,18,17,16,15,14,13,12,11,6,5] (.seq (.ops [qd 11 .lss 10 9]) (.seq (.cond (.s 11) .skip (.exit 0)) (.seq (.block 1 (.seq (.ops [qm 12 10, .i (.iad 13 (.s 8) (.s 10) 3), .i (.ldh 14 (.s 13) 3 true), .i (.lal 6 [.int .i64 0, .int .i64 0, .nils]),qm 5 12,qs 6 6 14 3]) (.seq (.ops [qf 15 6 0,ql 16 6 15 1 false,qf 17 2 0,ql 18 2 17 1 false, .i (.bin 19 .sub (.s 18) (qi 1)), .i (.call 21 62 false [(.s 16),(qi 0),(.s 19)]), .i (.not 21 (.s 20)),qm 22 21, .g 22 false 24 (.mov 23 (.s 5)), .g 22 false 25 (.bin 24 .gtr (.s 23) (qi 0)), .g 22 false 26 (.mov 25 (.s 24)), .g 25 true 27 (.fad 26 (.s 6) 0), .g 25 true 28 (.ldl 27 6 (.s 26) 1 false), .g 25 true 29 (.fad 28 (.s 3) 1), .g 25 true 30 (.ldl 29 3 (.s 28) 1 false), .g 25 true 31 (.mov 30 (.s 5)), .g 25 true 32 (.bin 31 .sub (.s 30) (qi 1)), .g 25 true 33 (.iad 32 (.s 29) (.s 31) 3), .g 25 true 34 (.fad 33 (.s 32) 0), .g 25 true 35 (.ldh 34 (.s 33) 1 false), .g 25 true 36 (.bin 35 .leq (.s 27) (.s 34)), .g 22 false 37 (.pick 36 (.s 25) (.s 35) (qb false)), .i (.pick 37 (.s 22) (qb true) (.s 36)),qm 38 37, .g 38 false 40 (.fad 39 (.s 6) 1), .g 38 false 41 (.ldl 40 6 (.s 39) 1 false), .g 38 false 42 (.fad 41 (.s 3) 0), .g 38 false 43 (.ldl 42 3 (.s 41) 1 false), .g 38 false 44 (.bin 43 .sub (.s 42) (qi 1)), .g 38 false 45 (.call 45 62 false [(.s 40),(qi 0),(.s 43)]), .g 38 false 46 (.not 45 (.s 44)), .i (.pick 46 (.s 38) (qb true) (.s 45)),qm 47 46, .g 47 false 49 (.fad 48 (.s 6) 2), .g 47 false 50 (.ldl 49 6 (.s 48) 1 false), .g 47 false 51 (.bsl 50 22 1 1 [.nils] [(0,1,(.s 49))]), .g 47 false 52 (.call 52 214 false [(.s 50)]), .g 47 false 53 (.not 52 (.s 51)), .i (.pick 53 (.s 47) (qb true) (.s 52))]) (.cond (.s 53) (.seq (.ops [.i (.mov 4 (qb false))]) .ret) .skip)))) (.ops [.i (.bin 54 .add (.s 10) (qi 1)),qm 10 54]))))))) (.seq (.ops [ql 55 2 2 5 true,qk 57 134 55,qm 57 56, .g 57 true 59 (.fad 58 (.s 3) 0), .g 57 true 60 (.ldl 59 3 (.s 58) 1 false), .g 57 true 61 (.call 61 213 false [(.s 59)]), .i (.pick 61 (.s 57) (.s 60) (qb false)),qm 62 61, .g 62 true 64 (.fad 63 (.s 3) 1), .g 62 true 65 (.ldl 64 3 (.s 63) 1 false), .g 62 true 66 (.len 65 false (.s 64)), .g 62 true 67 (.fad 66 (.s 2) 0), .g 62 true 68 (.ldl 67 2 (.s 66) 1 false), .g 62 true 69 (.bin 68 .leq (.s 65) (.s 67)), .i (.pick 69 (.s 62) (.s 68) (qb false)),qm 4 69]) .ret)))⟩
theorem tj:cd gI=some kJ:=by kernel_rfl
theorem Bo (l:aB) (t:Tc) (hw:t.wf) (h0:(l.ok && isNum t.view)=true):VC cd gI (aJ [(true,l.c),(true,t.c)]) (fun rs _=>rs=bl (gh l t)):=by
 have w1:=hw.2.1
 simp only[Sz]at w1
 have hA:l.ok=true∧isNum t.view=true:=by simpa using h0
 have hn:=iZ hA.1
 have hv:=dq hA.2
 refine aa tj rfl ?_
 simp(disch:=omega) [kJ,aB.c,Tc.c,bA,VY]
 refine ef (σ:=Nat) (f1:=_) (es0:=_) (by simp(disch:=omega) [VY];rfl) (by simp(disch:=omega) [VY];rfl) (fun i=> [(10, .val false [.int .i64 (i:Int)])]) (fun _=> []) (fun i g=>g+i=t.entries.length∧∀j,j < i→bI l t j=true) 0 t.entries.length (by simp(disch:=omega) [VY]) (by simp(disch:=omega) [VY]) ⟨by omega,fun j hj=>by omega⟩ ?_
 rintro i n g ⟨hg,hd⟩ P hP
 simp(disch:=omega) [VY]
 refine ab (fun h1=> ?_) (fun h1=> ?_)
 case refine_2=>
  have hY:=BN (l:=l) (t:=t) (fun i hi=>hd i (by omega))
  simp(disch:=omega) [VY]
  refine ay (cO l) ?_ (ha:=by first|rfl|(simp[aB.c,VY] <;>repeat' constructor))
  simp(disch:=omega) [hA.1,VY]
  refine ay (ek t.view) ?_
  simp(disch:=omega) [hA.1,hA.2,bA,hY,VY]
 have hi:i < t.entries.length:=by omega
 simp(disch:=omega) [dc hi,VY]
 refine ay (aT t.entries[i].who 0 (l.n - 1)) ?_
 simp(disch:=omega) [VY]
 refine ak (fun h2=> ?_) (fun h2=> ?_)
 case refine_2=>simp(disch:=omega) [h2,ep hi (show bI l t i=false by simp[bI,hi,h2]),VY]
 simp(disch:=omega) [h2,VY]
 refine ab (fun h3=> ?_) (fun h3=> ?_)
 ·have hj:i - 1 < t.entries.length:=by omega
  have e1:((i:Int) - 1).toNat=i - 1:=by omega
  have e2:(1:Int)≤(i:Int):=by omega
  have e3:¬i=0:=by omega
  simp(disch:=omega) [h2,h3,bA,e1,e2,dc hj,VY]
  refine ab (fun h4=> ?_) (fun h4=> ?_)
  ·simp(disch:=omega) [h2,h3,h4,ep hi (show bI l t i=false by simp[bI,hi,hj,e3,show ¬t.entries[i - 1].who < t.entries[i].who by omega]),VY]
  have e4:t.entries[i - 1].who < t.entries[i].who:=by omega
  simp(disch:=omega) [h2,h3,h4,VY]
  refine ay (aT t.entries[i].high 0 (t.view - 1)) ?_
  simp(disch:=omega) [h2,h3,h4,VY]
  refine ak (fun h6=> ?_) (fun h6=> ?_)
  case refine_2=>simp(disch:=omega) [h2,h3,h4,h6,ep hi (show bI l t i=false by simp[bI,hi,h6]),VY]
  simp(disch:=omega) [h2,h3,h4,h6,VY]
  refine ay (bZ [t.entries[i].tag] (by simp)) ?_ (ha:=by first|rfl|(simp[cC,VY] <;>repeat' constructor))
  simp(disch:=omega) [h2,h3,h4,h6,fK,VY]
  refine ak (fun h7=> ?_) (fun h7=> ?_)
  case refine_2=>simp(disch:=omega) [h2,h3,h4,h6,h7,ep hi (show bI l t i=false by simp[bI,hi,h7]),VY]
  simp(disch:=omega) [h2,h3,h4,h6,h7,VY]
  exact hP (i+1) (g - 1) _ _ (by omega) ⟨by omega,qO hd (by simp[bI,hi,h2,h6,h7,hj,e4])⟩ (by simp(disch:=omega) [VY]) (by simp(disch:=omega) [VY])
 ·simp(disch:=omega) [h2,h3,VY]
  have e4:i=0:=by omega
  refine ay (aT t.entries[i].high 0 (t.view - 1)) ?_
  simp(disch:=omega) [h2,h3,VY]
  refine ak (fun h6=> ?_) (fun h6=> ?_)
  case refine_2=>simp(disch:=omega) [h2,h3,h6,ep hi (show bI l t i=false by simp[bI,hi,h6]),VY]
  simp(disch:=omega) [h2,h3,h6,VY]
  refine ay (bZ [t.entries[i].tag] (by simp)) ?_ (ha:=by first|rfl|(simp[cC,VY] <;>repeat' constructor))
  simp(disch:=omega) [h2,h3,h6,fK,VY]
  refine ak (fun h7=> ?_) (fun h7=> ?_)
  case refine_2=>simp(disch:=omega) [h2,h3,h6,h7,ep hi (show bI l t i=false by simp[bI,hi,h7]),VY]
  simp(disch:=omega) [h2,h3,h6,h7,VY]
  exact hP (i+1) (g - 1) _ _ (by omega) ⟨by omega,qO hd (by subst e4;simp[bI,hi,h2,h6,h7])⟩ (by simp(disch:=omega) [VY]) (by simp(disch:=omega) [VY])
theorem BW (l:aB) (t:Tc) (hw:t.wf) (h0:(l.ok && isNum t.view)=false):VC cd gI (aJ [(true,l.c),(true,t.c)]) (fun rs _=>rs=bl (gh l t)):=by
 have w1:=hw.2.1
 simp only[Sz]at w1
 have hF:gh l t=false:=by unfold gh;rw[h0];rfl
 refine aa tj rfl ?_
 simp(disch:=omega) [kJ,aB.c,Tc.c,bA,VY]
 refine ef (σ:=Nat) (f1:=_) (es0:=_) (by simp(disch:=omega) [VY];rfl) (by simp(disch:=omega) [VY];rfl) (fun i=> [(10, .val false [.int .i64 (i:Int)])]) (fun _=> []) (fun i g=>g+i=t.entries.length) 0 t.entries.length (by simp(disch:=omega) [VY]) (by simp(disch:=omega) [VY]) (by omega) ?_
 rintro i n g hg P hP
 simp(disch:=omega) [VY]
 refine ab (fun h1=> ?_) (fun h1=> ?_)
 case refine_2=>
  simp(disch:=omega) [VY]
  refine ay (cO l) ?_ (ha:=by first|rfl|(simp[aB.c,VY] <;>repeat' constructor))
  simp(disch:=omega) [VY]
  refine ak (fun h2=> ?_) (fun h2=> ?_) <;>simp(disch:=omega) [h2,hF,VY]
  refine ay (ek t.view) ?_
  have h3:isNum t.view=false:=by simpa[h2]using h0
  simp(disch:=omega) [h2,h3,hF,VY]
 have hi:i < t.entries.length:=by omega
 simp(disch:=omega) [dc hi,VY]
 refine ay (aT t.entries[i].who 0 (IntKind.i64.wrap (l.n - 1))) ?_
 simp(disch:=omega) [VY]
 refine ak (fun h2=> ?_) (fun h2=> ?_)
 case refine_2=>simp(disch:=omega) [h2,hF,VY]
 simp(disch:=omega) [h2,VY]
 refine ab (fun h3=> ?_) (fun h3=> ?_)
 ·have hj:i - 1 < t.entries.length:=by omega
  have e1:((i:Int) - 1).toNat=i - 1:=by omega
  have e2:(1:Int)≤(i:Int):=by omega
  have e3:¬i=0:=by omega
  simp(disch:=omega) [h2,h3,bA,e1,e2,dc hj,VY]
  refine ab (fun h4=> ?_) (fun h4=> ?_)
  ·simp(disch:=omega) [h2,h3,h4,hF,VY]
  simp(disch:=omega) [h2,h3,h4,VY]
  refine ay (aT t.entries[i].high 0 (IntKind.i64.wrap (t.view - 1))) ?_
  simp(disch:=omega) [h2,h3,h4,VY]
  refine ak (fun h6=> ?_) (fun h6=> ?_) <;>simp(disch:=omega) [h2,h3,h4,h6,hF,VY]
  refine ay (bZ [t.entries[i].tag] (by simp)) ?_ (ha:=by first|rfl|(simp[cC,VY] <;>repeat' constructor))
  simp(disch:=omega) [h2,h3,h4,h6,fK,VY]
  refine ak (fun h7=> ?_) (fun h7=> ?_)
  case refine_2=>simp(disch:=omega) [h2,h3,h4,h6,h7,hF,VY]
  simp(disch:=omega) [h2,h3,h4,h6,h7,VY]
  exact hP (i+1) (g - 1) _ _ (by omega) (by omega) (by simp(disch:=omega) [VY]) (by simp(disch:=omega) [VY])
 ·simp(disch:=omega) [h2,h3,VY]
  refine ay (aT t.entries[i].high 0 (IntKind.i64.wrap (t.view - 1))) ?_
  simp(disch:=omega) [h2,h3,VY]
  refine ak (fun h6=> ?_) (fun h6=> ?_) <;>simp(disch:=omega) [h2,h3,h6,hF,VY]
  refine ay (bZ [t.entries[i].tag] (by simp)) ?_ (ha:=by first|rfl|(simp[cC,VY] <;>repeat' constructor))
  simp(disch:=omega) [h2,h3,h6,fK,VY]
  refine ak (fun h7=> ?_) (fun h7=> ?_)
  case refine_2=>simp(disch:=omega) [h2,h3,h6,h7,hF,VY]
  simp(disch:=omega) [h2,h3,h6,h7,VY]
  exact hP (i+1) (g - 1) _ _ (by omega) (by omega) (by simp(disch:=omega) [VY]) (by simp(disch:=omega) [VY])
theorem Ah (l:aB) (t:Tc) (hw:t.wf):VC cd gI (aJ [(true,l.c),(true,t.c)]) (fun rs _=>rs=bl (gh l t)):=by
 cases h0:l.ok && isNum t.view with
 |true=>exact Bo l t hw h0
 |false=>exact BW l t hw h0
abbrev tN:Nat:=236
def tB:AF:=⟨2,7,[.tmp 4],(.seq (.ops [.i (.lbox 2 (.s 0)), .i (.lbox 3 (.s 1)), .i (.mov 4 (qb false))]) (.seq (.seq (.ops [ql 7 2 2 5 true,qk 9 142 7, .i (.not 9 (.s 8)),qm 10 9, .g 10 false 12 (.fad 11 (.s 3) 0), .g 10 false 13 (.ldl 12 3 (.s 11) 1 false), .g 10 false 14 (.call 14 201 false [(.s 12)]), .g 10 false 15 (.not 14 (.s 13)), .i (.pick 15 (.s 10) (qb true) (.s 14)),qm 16 15, .g 16 false 18 (.fad 17 (.s 3) 1), .g 16 false 19 (.ldl 18 3 (.s 17) 1 false), .g 16 false 20 (.len 19 false (.s 18)), .g 16 false 21 (.fad 20 (.s 2) 0), .g 16 false 22 (.ldl 21 2 (.s 20) 1 false), .g 16 false 23 (.bin 22 .gtr (.s 19) (.s 21)), .i (.pick 23 (.s 16) (qb true) (.s 22))]) (.cond (.s 23) (.seq (.ops [.i (.mov 4 (qb false))]) .ret) .skip)) (.seq (.seq (.ops [qf 24 3 1,ql 25 3 24 1 false,qn 26 25, .i (.mov 27 (qi 0))]) (.block 0 (.loop [73,72,71,70,69,68,67,66,65,64,63,62,61,60,59,58,57,56,55,54,53,52,51,50,49,48,47,46,45,44,43,42,41,40,39,38,37,36,35,34,33,32,31,30,29,28,6,5] (.seq (.ops [qd 28 .lss 27 26]) (.seq (.cond (.s 28) .skip (.exit 0)) (.seq (.block 1 (.seq (.ops [qm 29 27, .i (.iad 30 (.s 25) (.s 27) 3), .i (.ldh 31 (.s 30) 3 true), .i (.lal 6 [.int .i64 0, .int .i64 0, .nils]),qm 5 29,qs 6 6 31 3]) (.seq (.ops [qf 32 6 0,ql 33 6 32 1 false,qf 34 2 0,ql 35 2 34 1 false, .i (.bin 36 .sub (.s 35) (qi 1)), .i (.call 38 152 false [(.s 33),(qi 0),(.s 36)]), .i (.not 38 (.s 37)),qm 39 38, .g 39 false 41 (.fad 40 (.s 6) 1), .g 39 false 42 (.ldl 41 6 (.s 40) 1 false), .g 39 false 43 (.bin 42 .lss (.s 41) (qi 0)), .i (.pick 43 (.s 39) (qb true) (.s 42)),qm 44 43, .g 44 false 46 (.fad 45 (.s 6) 1), .g 44 false 47 (.ldl 46 6 (.s 45) 1 false), .g 44 false 48 (.fad 47 (.s 3) 0), .g 44 false 49 (.ldl 48 3 (.s 47) 1 false), .g 44 false 50 (.bin 49 .geq (.s 46) (.s 48)), .i (.pick 50 (.s 44) (qb true) (.s 49)),qm 51 50, .g 51 false 53 (.fad 52 (.s 6) 2), .g 51 false 54 (.ldl 53 6 (.s 52) 1 false), .g 51 false 55 (.call 55 202 false [(.s 53)]), .g 51 false 56 (.not 55 (.s 54)), .i (.pick 56 (.s 51) (qb true) (.s 55)),qm 57 56, .g 57 false 59 (.mov 58 (.s 5)), .g 57 false 60 (.bin 59 .gtr (.s 58) (qi 0)), .g 57 false 61 (.mov 60 (.s 59)), .g 60 true 62 (.fad 61 (.s 3) 1), .g 60 true 63 (.ldl 62 3 (.s 61) 1 false), .g 60 true 64 (.mov 63 (.s 5)), .g 60 true 65 (.bin 64 .sub (.s 63) (qi 1)), .g 60 true 66 (.iad 65 (.s 62) (.s 64) 3), .g 60 true 67 (.fad 66 (.s 65) 0), .g 60 true 68 (.ldh 67 (.s 66) 1 false), .g 60 true 69 (.fad 68 (.s 6) 0), .g 60 true 70 (.ldl 69 6 (.s 68) 1 false), .g 60 true 71 (.bin 70 .geq (.s 67) (.s 69)), .g 57 false 72 (.pick 71 (.s 60) (.s 70) (qb false)), .i (.pick 72 (.s 57) (qb true) (.s 71))]) (.cond (.s 72) (.seq (.ops [.i (.mov 4 (qb false))]) .ret) .skip)))) (.ops [.i (.bin 73 .add (.s 27) (qi 1)),qm 27 73]))))))) (.seq (.ops [.i (.mov 4 (qb true))]) .ret))))⟩
theorem Bl:cd tN=some tB:=by kernel_rfl
theorem zI (l:aB) (t:Tc) (hw:t.wf):VC cd tN (aJ [(true,l.c),(true,t.c)]) (fun rs _=>rs=bl (gh l t)):=by
 have w1:=hw.2.1
 simp only[Sz]at w1
 refine aa Bl rfl ?_
 simp(disch:=omega) [tB,aB.c,Tc.c,VY]
 refine ay (cf l) ?_ (ha:=by first|rfl|(simp[aB.c,VY] <;>repeat' constructor))
 simp(disch:=omega) [VY]
 refine ak (fun h1=> ?_) (fun h1=> ?_)
 case refine_2=>simp(disch:=omega) [h1,gh,VY]
 simp(disch:=omega) [h1,VY]
 refine ay (d8 t.view) ?_
 simp(disch:=omega) [h1,VY]
 refine ak (fun h2=> ?_) (fun h2=> ?_)
 case refine_2=>simp(disch:=omega) [h1,h2,gh,VY]
 have hn:=iZ h1
 have hv:=dq h2
 simp(disch:=omega) [h1,h2,bA,VY]
 refine ab (fun h3=> ?_) (fun h3=> ?_)
 ·simp(disch:=omega) [h1,h2,h3,gh,show ¬(t.entries.length:Int)≤l.n by omega,VY]
 simp(disch:=omega) [h1,h2,h3,bA,VY]
 refine ef (σ:=Nat) (f1:=_) (es0:=_) (by simp(disch:=omega) [VY];rfl) (by simp(disch:=omega) [VY];rfl) (fun i=> [(27, .val false [.int .i64 (i:Int)])]) (fun _=> []) (fun i g=>g+i=t.entries.length∧∀j,j < i→bI l t j=true) 0 t.entries.length (by simp(disch:=omega) [VY]) (by simp(disch:=omega) [VY]) ⟨by omega,fun j hj=>by omega⟩ ?_
 rintro i n g ⟨hg,hd⟩ P hP
 simp(disch:=omega) [VY]
 refine ab (fun g1=> ?_) (fun g1=> ?_)
 case refine_2=>
  have hY:=BN (l:=l) (t:=t) (fun i hi=>hd i (by omega))
  simp(disch:=omega) [h1,h2,hY,show(t.entries.length:Int)≤l.n by omega,VY]
 have hi:i < t.entries.length:=by omega
 simp(disch:=omega) [dc hi,VY]
 refine ay (bS t.entries[i].who 0 (l.n - 1)) ?_
 simp(disch:=omega) [VY]
 refine ak (fun g2=> ?_) (fun g2=> ?_)
 case refine_2=>simp(disch:=omega) [g2,ep hi (show bI l t i=false by simp[bI,hi,g2]),VY]
 simp(disch:=omega) [g2,VY]
 refine ab (fun g3=> ?_) (fun g3=> ?_)
 ·have e5:eA t.entries[i].high 0 (t.view - 1)=false:=by simp only[eA,decide_eq_false_iff_not];omega
  simp(disch:=omega) [g2,g3,ep hi (show bI l t i=false by simp[bI,hi,e5]),VY]
 simp(disch:=omega) [g2,g3,VY]
 refine ab (fun g4=> ?_) (fun g4=> ?_)
 ·have e5:eA t.entries[i].high 0 (t.view - 1)=false:=by simp only[eA,decide_eq_false_iff_not];omega
  simp(disch:=omega) [g2,g3,g4,ep hi (show bI l t i=false by simp[bI,hi,e5]),VY]
 have e5:eA t.entries[i].high 0 (t.view - 1)=true:=by simp only[eA,decide_eq_true_eq];omega
 simp(disch:=omega) [g2,g3,g4,VY]
 refine ay (dP t.entries[i].tag) ?_
 simp(disch:=omega) [g2,g3,g4,VY]
 refine ak (fun g5=> ?_) (fun g5=> ?_)
 case refine_2=>simp(disch:=omega) [g2,g3,g4,g5,ep hi (show bI l t i=false by simp[bI,hi,g5]),VY]
 simp(disch:=omega) [g2,g3,g4,g5,VY]
 refine ab (fun g6=> ?_) (fun g6=> ?_)
 ·have hj:i - 1 < t.entries.length:=by omega
  have e1:((i:Int) - 1).toNat=i - 1:=by omega
  have e2:(1:Int)≤(i:Int):=by omega
  have e3:¬i=0:=by omega
  simp(disch:=omega) [g2,g3,g4,g5,g6,bA,e1,e2,dc hj,VY]
  refine ab (fun g7=> ?_) (fun g7=> ?_)
  ·simp(disch:=omega) [g2,g3,g4,g5,g6,g7,ep hi (show bI l t i=false by simp[bI,hi,hj,e3,show ¬t.entries[i - 1].who < t.entries[i].who by omega]),VY]
  have e4:t.entries[i - 1].who < t.entries[i].who:=by omega
  simp(disch:=omega) [g2,g3,g4,g5,g6,g7,VY]
  exact hP (i+1) (g - 1) _ _ (by omega) ⟨by omega,qO hd (by simp[bI,hi,g2,e5,g5,hj,e4])⟩ (by simp(disch:=omega) [VY]) (by simp(disch:=omega) [VY])
 ·have e4:i=0:=by omega
  simp(disch:=omega) [g2,g3,g4,g5,g6,VY]
  exact hP (i+1) (g - 1) _ _ (by omega) ⟨by omega,qO hd (by subst e4;simp[bI,hi,g2,e5,g5])⟩ (by simp(disch:=omega) [VY]) (by simp(disch:=omega) [VY])
abbrev qC:Nat:=178
def ru:AF:=⟨3,5,[.tmp 6, .tmp 7],(.seq (.ops [.i (.lbox 3 (.s 0)), .i (.lbox 5 (.s 2)), .i (.mov 6 (.c (.val false [.nils]))), .i (.mov 7 (qb false))]) (.seq (.seq (.ops [ql 9 3 3 5 true,ql 10 5 5 5 true, .i (.call 12 128 false [(.s 9),(.s 10)]), .i (.not 12 (.s 11))]) (.cond (.s 12) (.seq (.ops [.i (.mov 6 (.c (.val false [.nils]))), .i (.mov 7 (qb false))]) .ret) .skip)) (.seq (.ops [qm 13 1,qk 15 60 13, .i (.bld 15 [.nils] [(0,1,(.s 14))]), .i (.hbox 16 228 (.s 15)),qm 8 16]) (.seq (.ops [qm 17 8,ql 18 5 5 5 true, .i (.call 20 243 false [(.s 17),(.s 18)])]) (.seq (.ops [qm 20 8, .i (.nch 21 (.s 20)),qf 22 21 0, .i (.ldh 23 (.s 22) 1 false),qm 6 23, .i (.mov 7 (qb true))]) .ret)))))⟩
theorem zq:cd qC=some ru:=by kernel_rfl
theorem oz (l:aB) (b:Bytes) (q:Qc) (hw:q.wf) (hb:b.length≤900000000):VC cd qC (aJ [(true,l.c),(false,[.sl (bytes b)]),(true,q.c)]) (fun rs _=>rs=aU (f5 l q) (b++EF q)):=by
 refine aa zq rfl ?_
 simp(disch:=omega) [ru,Qc.c,aB.c,VY]
 refine ah (jh l q hw) rfl rfl ?_
 simp(disch:=omega) [VY]
 refine ak (fun h0=> ?_) (fun h0=> ?_)
 case refine_2=>simp(disch:=omega) [h0,aU,VY]
 have hs:=nv h0
 simp(disch:=omega) [h0,VY]
 refine ah (aL b (by omega)) rfl rfl ?_
 simp(disch:=omega) [VZ]
 refine oJ (jf _ q hs ?_) ?_
 ·(try simp only[List.length_append]);omega
 simp(disch:=omega) [aU,h0,VZ]
abbrev jC:Nat:=170
def kj:AF:=⟨3,6,[.tmp 6, .tmp 7],(.seq (.ops [.i (.lbox 3 (.s 0)), .i (.lbox 5 (.s 2)), .i (.mov 6 (.c (.val false [.nils]))), .i (.mov 7 (qb false))]) (.seq (.seq (.ops [ql 12 3 3 5 true,ql 13 5 5 11 true, .i (.call 15 234 false [(.s 12),(.s 13)]), .i (.not 15 (.s 14))]) (.cond (.s 15) (.seq (.ops [.i (.mov 6 (.c (.val false [.nils]))), .i (.mov 7 (qb false))]) .ret) .skip)) (.seq (.ops [ql 17 3 3 5 true,qm 18 1,qf 19 5 0,ql 20 5 19 10 true, .i (.call 22 169 false [(.s 17),(.s 18),(.s 20)]),qm 16 21, .i (.ext 22 (.s 16) 0), .i (.ext 23 (.s 16) 1),qm 8 22,qm 9 23]) (.seq (.ops [qm 24 8,qf 25 5 10,ql 26 5 25 1 false,qn 27 26, .i (.call 29 233 false [(.s 24),(.s 27)]),qm 8 28]) (.seq (.seq (.ops [qf 29 5 10,ql 30 5 29 1 false,qn 31 30, .i (.mov 32 (qi 0))]) (.block 0 (.loop [39,38,37,36,35,34,33,11] (.seq (.ops [qd 33 .lss 32 31]) (.seq (.cond (.s 33) .skip (.exit 0)) (.seq (.block 1 (.seq (.ops [.i (.iad 34 (.s 30) (.s 32) 1), .i (.ldh 35 (.s 34) 1 false),qm 11 35]) (.ops [qm 36 8,qm 37 11, .i (.call 39 235 false [(.s 36),(.s 37)]),qm 8 38]))) (.ops [.i (.bin 39 .add (.s 32) (qi 1)),qm 32 39]))))))) (.seq (.ops [qm 40 8,qm 6 40, .i (.mov 7 (qb true))]) .ret))))))⟩
theorem t9:cd jC=some kj:=by kernel_rfl
theorem gV (l:aB) (b:Bytes) (x:Block) (hw:x.wc∧∀t∈x.txs,t.length≤100000000) (hb:b.length≤800000000):VC cd jC (aJ [(true,l.c),(false,[.sl (bytes b)]),(true,x.c)]) (fun rs _=>rs=aU (bM l x) (b++lK x)):=by
 refine aa t9 rfl ?_
 simp(disch:=omega) [kj,Block.c,Head.c,aB.c,VY]
 refine ay (uB l x hw.1 (fun t ht=>by have:=hw.2 t ht;omega)) ?_ (ha:=by first|rfl|(simp[aB.c,Block.c,Head.c,VY] <;>repeat' constructor))
 simp(disch:=omega) [VY]
 refine ak (fun h0=> ?_) (fun h0=> ?_)
 case refine_2=>simp(disch:=omega) [h0,aU,VY]
 have hh:=fB h0
 have hf:=mw h0
 have ht:=kV h0
 have hs:=fG (c9 hh)
 simp(disch:=omega) [h0,VY]
 refine ay ((dM l b x.head hw.1.1.1 (by omega)).re (bq hh)) ?_ (ha:=by first|rfl|(simp[aB.c,Head.c,VY] <;>repeat' constructor))
 simp(disch:=omega) [h0,au,VY]
 refine ay (bk (b++dZ x.head) x.txs.length (eZ (by omega)) (by simp only[List.length_append];omega)) ?_
 have h1:=bD (n:=x.txs.length) (by omega)
 simp(disch:=omega) [h0,au,VY]
 refine ed (σ:=Nat×Nat×Nat) (f1:=_) (by simp(disch:=omega) [VY];rfl) (fun p=> [(32, .val false [.int .i64 (p.1:Int)]),(8, .val false [.ow p.2.1 p.2.2])]) (fun p=> [(p.2.1, .sl p.2.2 true true (some (5,1)) (bytes (b++(dZ x.head++(aS x.txs.length++dg (x.txs.take p.1))))))]) (fun p g=>g+p.1=x.txs.length∧(p.2.1=245760∨p.2.1=327680)) (0,245760,20) x.txs.length (by simp(disch:=omega) [VY]) (by simp(disch:=omega) [show dg []= []from rfl,VY]) ⟨by omega, .inl rfl⟩ ?_
 rintro⟨i,key,v⟩ n g ⟨hg,hk⟩ P hP
 simp only at hg hk
 have hlt:∀t∈x.txs.take i,t.length≤1000:=fun t h=>ht t (List.mem_of_mem_take h)
 have hl:=je hlt
 have hl2:(x.txs.take i).length≤8:=by rw[List.length_take];omega
 have hl3:(dg (x.txs.take i)).length≤8072:=by omega
 rcases hk with rfl|rfl
 all_goals
  simp(disch:=omega) [VY]
  refine ab (fun h2=> ?_) (fun h2=> ?_)
  ·have hi:i < x.txs.length:=by omega
   have hx:=ht _ (List.getElem_mem hi)
   simp(disch:=omega) [cu hi,VY]
   refine ay (jI (b++(dZ x.head++(aS x.txs.length++dg (x.txs.take i)))) x.txs[i] (by simp only[List.length_append];omega) (by omega)) ?_
   simp(disch:=omega) [VY]
   exact hP (i+1,327680,_) (g - 1) _ _ (by omega) ⟨by simp only;omega, .inr rfl⟩ (by simp(disch:=omega) [VY];rfl) (by simp(disch:=omega) [tt hi,VY])
  ·have hi:i=x.txs.length:=by omega
   subst hi
   simp(disch:=omega) [aU,lK,dg,List.take_length,VY]
abbrev ke:Nat:=179
def j7:AF:=⟨3,6,[.tmp 6, .tmp 7],(.seq (.ops [.i (.lbox 3 (.s 0)), .i (.lbox 5 (.s 2)), .i (.mov 6 (.c (.val false [.nils]))), .i (.mov 7 (qb false))]) (.seq (.seq (.ops [ql 11 3 3 5 true,ql 12 5 5 11 true, .i (.call 14 244 false [(.s 11),(.s 12)]), .i (.not 14 (.s 13))]) (.cond (.s 14) (.seq (.ops [.i (.mov 6 (.c (.val false [.nils]))), .i (.mov 7 (qb false))]) .ret) .skip)) (.seq (.ops [qm 15 1,qk 17 60 15, .i (.bld 17 [.nils] [(0,1,(.s 16))]), .i (.hbox 18 228 (.s 17)),qm 8 18]) (.seq (.ops [qm 19 8,qf 20 5 0,ql 21 5 20 10 true, .i (.call 23 216 false [(.s 19),(.s 21)])]) (.seq (.ops [qm 23 8,qf 24 5 10,ql 25 5 24 1 false,qn 26 25, .i (.call 28 241 false [(.s 23),(.s 26)])]) (.seq (.seq (.ops [qf 28 5 10,ql 29 5 28 1 false,qn 30 29, .i (.mov 31 (qi 0))]) (.block 0 (.loop [44,43,42,41,40,39,38,37,36,35,34,33,32,10] (.seq (.ops [qd 32 .lss 31 30]) (.seq (.cond (.s 32) .skip (.exit 0)) (.seq (.block 1 (.seq (.ops [.i (.iad 33 (.s 29) (.s 31) 1), .i (.ldh 34 (.s 33) 1 false),qm 10 34]) (.ops [qm 35 8,qm 36 8, .i (.nch 37 (.s 36)),qf 38 37 0, .i (.ldh 39 (.s 38) 1 false),qm 40 10, .i (.call 42 245 false [(.s 39),(.s 40)]), .i (.nch 42 (.s 35)),qf 43 42 0, .i (.sth (.s 43) (.s 41) 1)]))) (.ops [.i (.bin 44 .add (.s 31) (qi 1)),qm 31 44]))))))) (.seq (.ops [qm 45 8, .i (.nch 46 (.s 45)),qf 47 46 0, .i (.ldh 48 (.s 47) 1 false),qm 6 48, .i (.mov 7 (qb true))]) .ret)))))))⟩
theorem uV:cd ke=some j7:=by kernel_rfl
theorem iO (l:aB) (b:Bytes) (x:Block) (hw:x.wc∧∀t∈x.txs,t.length≤100000000) (hb:b.length≤800000000):VC cd ke (aJ [(true,l.c),(false,[.sl (bytes b)]),(true,x.c)]) (fun rs _=>rs=aU (bM l x) (b++lK x)):=by
 refine aa uV rfl ?_
 simp(disch:=omega) [j7,Block.c,Head.c,aB.c,VY]
 refine ay (uM l x hw.1 (fun t ht=>by have:=hw.2 t ht;omega)) ?_ (ha:=by first|rfl|(simp[aB.c,Block.c,Head.c,VY] <;>repeat' constructor))
 simp(disch:=omega) [VY]
 refine ak (fun h0=> ?_) (fun h0=> ?_)
 case refine_2=>simp(disch:=omega) [h0,aU,VY]
 have hh:=fB h0
 have hf:=mw h0
 have ht:=kV h0
 have hz:=c9 hh
 have hs:=fG hz
 simp(disch:=omega) [h0,VY]
 refine ah (aL b (by omega)) rfl rfl ?_
 simp(disch:=omega) [VZ]
 refine oJ (fU _ x.head hz ?_) ?_
 ·(try simp only[List.length_append]);omega
 simp(disch:=omega) [au,VZ]
 refine oJ (aH _ x.txs.length (eZ (by omega)) ?_) ?_
 ·(try simp only[List.length_append]);omega
 have h1:=bD (n:=x.txs.length) (by omega)
 simp(disch:=omega) [au,VZ]
 refine ed (σ:=Nat×Nat×Nat) (f1:=_) (by simp(disch:=omega) [VZ];rfl) (fun p=> [(31, .val false [.int .i64 (p.1:Int)])]) (fun p=> [(18, .pt 19 228 [.ow p.2.1 p.2.2]),(p.2.1, .sl p.2.2 true true (some (5,1)) (bytes (b++(dZ x.head++(aS x.txs.length++dg (x.txs.take p.1))))))]) (fun p g=>g+p.1=x.txs.length∧(p.2.1=1099511701504∨p.2.1=352256)) (0,1099511701504,23) x.txs.length (by simp(disch:=omega) [VZ]) (by simp(disch:=omega) [show dg []= []from rfl,VZ]) ⟨by omega, .inl rfl⟩ ?_
 rintro⟨i,key,v⟩ n g ⟨hg,hk⟩ P hP
 simp only at hg hk
 have hlt:∀t∈x.txs.take i,t.length≤1000:=fun t h=>ht t (List.mem_of_mem_take h)
 have hl:=je hlt
 have hl2:(x.txs.take i).length≤8:=by rw[List.length_take];omega
 have hl3:(dg (x.txs.take i)).length≤8072:=by omega
 rcases hk with rfl|rfl
 all_goals
  simp(disch:=omega) [VZ]
  refine ab (fun h2=> ?_) (fun h2=> ?_)
  ·have hi:i < x.txs.length:=by omega
   have hx:=ht _ (List.getElem_mem hi)
   simp(disch:=omega) [cu hi,VZ]
   refine ay (jx (b++(dZ x.head++(aS x.txs.length++dg (x.txs.take i)))) x.txs[i] (by simp only[List.length_append];omega) (by omega)) ?_
   simp(disch:=omega) [VZ]
   exact hP (i+1,352256,_) (g - 1) _ _ (by omega) ⟨by simp only;omega, .inr rfl⟩ (by simp(disch:=omega) [VZ]) (by simp(disch:=omega) [tt hi,VZ];rfl)
  ·have hi:i=x.txs.length:=by omega
   subst hi
   simp(disch:=omega) [aU,lK,dg,List.take_length,VZ]
theorem vk {l:aB} {t:Tc} (h:gh l t=true):t.entries.length≤10∧isNum t.view=true∧∀e∈t.entries,isNum e.who=true∧isNum e.high=true∧e.tag.length=32:=by
 simp only[gh,Bool.and_eq_true,decide_eq_true_eq,List.all_eq_true,List.mem_range]at h
 obtain⟨⟨⟨h1,h2⟩,h3⟩,h4⟩:=h
 have hn:=iZ h1
 have hv:=dq h2
 refine⟨by omega,h2,fun e he=> ?_⟩
 obtain⟨i,hi,rfl⟩:=List.mem_iff_getElem.1 he
 have h5:=h4 i hi
 simp only[bI,List.getElem?_eq_getElem hi,Bool.and_eq_true]at h5
 obtain⟨⟨⟨g1,g2⟩,g3⟩,_⟩:=h5
 have g1':=dq g1
 have g2':=dq g2
 exact⟨by simp only[isNum,eA,decide_eq_true_eq];omega,by simp only[isNum,eA,decide_eq_true_eq];omega,qp g3⟩
def e7 (l:List Entry):Bytes:=(l.map D4).flatten
theorem vP {l:List Entry} {i:Nat} (h:i < l.length):e7 (l.take (i+1))=e7 (l.take i)++D4 l[i]:=by
 rw[List.take_succ_eq_append_getElem h]
 simp only[e7,List.map_append,List.map_cons,List.map_nil,List.flatten_append,List.flatten_cons,List.flatten_nil,List.append_nil]
theorem nJ:∀ {l:List Entry},(∀e∈l,isNum e.who=true∧isNum e.high=true∧e.tag.length=32)→(e7 l).length≤50 * l.length
 | [],_=>by simp[e7]
 |a::l,h=>by
  have h1:=nJ (l:=l) fun x hx=>h x (by simp[hx])
  obtain⟨g1,g2,g3⟩:=h a (by simp)
  have h2:=aw g1
  have h3:=aw g2
  simp only[e7,D4,List.map_cons,List.flatten_cons,List.length_append,List.length_cons]at h1⊢
  omega
abbrev qI:Nat:=180
def rq:AF:=⟨3,6,[.tmp 6, .tmp 7],(.seq (.ops [.i (.lbox 3 (.s 0)), .i (.lbox 5 (.s 2)), .i (.mov 6 (.c (.val false [.nils]))), .i (.mov 7 (qb false))]) (.seq (.seq (.ops [ql 11 3 3 5 true,ql 12 5 5 2 true, .i (.call 14 246 false [(.s 11),(.s 12)]), .i (.not 14 (.s 13))]) (.cond (.s 14) (.seq (.ops [.i (.mov 6 (.c (.val false [.nils]))), .i (.mov 7 (qb false))]) .ret) .skip)) (.seq (.ops [qm 15 1,qk 17 60 15, .i (.bld 17 [.nils] [(0,1,(.s 16))]), .i (.hbox 18 228 (.s 17)),qm 8 18]) (.seq (.ops [qm 19 8,qf 20 5 0,ql 21 5 20 1 false, .i (.call 23 241 false [(.s 19),(.s 21)])]) (.seq (.ops [qm 23 8,qf 24 5 1,ql 25 5 24 1 false,qn 26 25, .i (.call 28 241 false [(.s 23),(.s 26)])]) (.seq (.seq (.ops [qf 28 5 1,ql 29 5 28 1 false,qn 30 29, .i (.mov 31 (qi 0))]) (.block 0 (.loop [47,46,45,44,43,42,41,40,39,38,37,36,35,34,33,32,10] (.seq (.ops [qd 32 .lss 31 30]) (.seq (.cond (.s 32) .skip (.exit 0)) (.seq (.block 1 (.seq (.ops [.i (.iad 33 (.s 29) (.s 31) 3), .i (.ldh 34 (.s 33) 3 true), .i (.lal 10 [.int .i64 0, .int .i64 0, .nils]),qs 10 10 34 3]) (.seq (.ops [qm 35 8,qf 36 10 0,ql 37 10 36 1 false, .i (.call 39 241 false [(.s 35),(.s 37)])]) (.seq (.ops [qm 39 8,qf 40 10 1,ql 41 10 40 1 false, .i (.call 43 241 false [(.s 39),(.s 41)])]) (.ops [qm 43 8,qf 44 10 2,ql 45 10 44 1 false, .i (.call 47 242 false [(.s 43),(.s 45)])]))))) (.ops [.i (.bin 47 .add (.s 31) (qi 1)),qm 31 47]))))))) (.seq (.ops [qm 48 8, .i (.nch 49 (.s 48)),qf 50 49 0, .i (.ldh 51 (.s 50) 1 false),qm 6 51, .i (.mov 7 (qb true))]) .ret)))))))⟩
theorem Az:cd qI=some rq:=by kernel_rfl
theorem n9 (l:aB) (b:Bytes) (t:Tc) (hw:t.wf) (hb:b.length≤800000000):VC cd qI (aJ [(true,l.c),(false,[.sl (bytes b)]),(true,t.c)]) (fun rs _=>rs=aU (gh l t) (b++IY t)):=by
 refine aa Az rfl ?_
 simp(disch:=omega) [rq,Tc.c,aB.c,VY]
 refine ay (Ah l t hw) ?_ (ha:=by first|rfl|(simp[aB.c,Tc.c,VY] <;>repeat' constructor))
 simp(disch:=omega) [VY]
 refine ak (fun h0=> ?_) (fun h0=> ?_)
 case refine_2=>simp(disch:=omega) [h0,aU,VY]
 obtain⟨hf,hv,he⟩:=vk h0
 have h3:=aw hv
 have h1:=bD (n:=t.entries.length) (by omega)
 simp(disch:=omega) [h0,VY]
 refine ah (aL b (by omega)) rfl rfl ?_
 simp(disch:=omega) [VZ]
 refine oJ (aH _ t.view hv ?_) ?_
 ·(try simp only[List.length_append]);omega
 simp(disch:=omega) [bA,VZ]
 refine oJ (aH _ t.entries.length (eZ (by omega)) ?_) ?_
 ·(try simp only[List.length_append]);omega
 simp(disch:=omega) [bA,VZ]
 refine ed (σ:=Nat×Nat) (f1:=_) (by simp(disch:=omega) [VZ];rfl) (fun p=> [(31, .val false [.int .i64 (p.1:Int)])]) (fun p=> [(18, .pt 10 228 [.ow 1099511701504 p.2]),(1099511701504, .sl p.2 true true (some (5,1)) (bytes (b++(aS t.view.toNat++(aS t.entries.length++e7 (t.entries.take p.1))))))]) (fun p g=>g+p.1=t.entries.length) (0,14) t.entries.length (by simp(disch:=omega) [VZ]) (by simp(disch:=omega) [show e7 []= []from rfl,VZ]) (by omega) ?_
 rintro⟨i,v⟩ n g hg P hP
 simp only at hg
 have hlt:∀e∈t.entries.take i,isNum e.who=true∧isNum e.high=true∧e.tag.length=32:=fun e h=>he e (List.mem_of_mem_take h)
 have hl:=nJ hlt
 have hl2:(t.entries.take i).length≤10:=by rw[List.length_take];omega
 have hl3:(e7 (t.entries.take i)).length≤500:=by omega
 simp(disch:=omega) [VZ]
 refine ab (fun h2=> ?_) (fun h2=> ?_)
 ·have hi:i < t.entries.length:=by omega
  obtain⟨g1,g2,g3⟩:=he _ (List.getElem_mem hi)
  have g4:=aw g1
  have g5:=aw g2
  simp(disch:=omega) [dc hi,VZ]
  refine oJ (aH _ t.entries[i].who g1 ?_) ?_
  ·(try simp only[List.length_append]);omega
  simp(disch:=omega) [VZ]
  refine oJ (aH _ t.entries[i].high g2 ?_) ?_
  ·(try simp only[List.length_append]);omega
  simp(disch:=omega) [VZ]
  refine oJ (bK _ t.entries[i].tag (by omega) ?_) ?_
  ·(try simp only[List.length_append]);omega
  simp(disch:=omega) [VZ]
  exact hP (i+1,_) (g - 1) _ _ (by omega) (by simp only;omega) (by simp(disch:=omega) [VZ]) (by simp(disch:=omega) [vP hi,D4,VZ];rfl)
 ·have hi:i=t.entries.length:=by omega
  subst hi
  simp(disch:=omega) [aU,IY,e7,List.take_length,VZ]
abbrev qW:Nat:=171
def qS:AF:=⟨3,6,[.tmp 6, .tmp 7],(.seq (.ops [.i (.lbox 3 (.s 0)), .i (.lbox 5 (.s 2)), .i (.mov 6 (.c (.val false [.nils]))), .i (.mov 7 (qb false))]) (.seq (.seq (.ops [ql 11 3 3 5 true,ql 12 5 5 2 true, .i (.call 14 236 false [(.s 11),(.s 12)]), .i (.not 14 (.s 13))]) (.cond (.s 14) (.seq (.ops [.i (.mov 6 (.c (.val false [.nils]))), .i (.mov 7 (qb false))]) .ret) .skip)) (.seq (.ops [qm 15 1,qf 16 5 0,ql 17 5 16 1 false, .i (.call 19 233 false [(.s 15),(.s 17)]),qf 19 5 1,ql 20 5 19 1 false,qn 21 20, .i (.call 23 233 false [(.s 18),(.s 21)]),qm 8 22]) (.seq (.seq (.ops [qf 23 5 1,ql 24 5 23 1 false,qn 25 24, .i (.mov 26 (qi 0))]) (.block 0 (.loop [40,39,38,37,36,35,34,33,32,31,30,29,28,27,10] (.seq (.ops [qd 27 .lss 26 25]) (.seq (.cond (.s 27) .skip (.exit 0)) (.seq (.block 1 (.seq (.ops [.i (.iad 28 (.s 24) (.s 26) 3), .i (.ldh 29 (.s 28) 3 true), .i (.lal 10 [.int .i64 0, .int .i64 0, .nils]),qs 10 10 29 3]) (.ops [qm 30 8,qf 31 10 0,ql 32 10 31 1 false, .i (.call 34 233 false [(.s 30),(.s 32)]),qf 34 10 1,ql 35 10 34 1 false, .i (.call 37 233 false [(.s 33),(.s 35)]),qf 37 10 2,ql 38 10 37 1 false, .i (.app 39 5 1 1 (.s 36) (.s 38)),qm 8 39]))) (.ops [.i (.bin 40 .add (.s 26) (qi 1)),qm 26 40]))))))) (.seq (.ops [qm 41 8,qm 6 41, .i (.mov 7 (qb true))]) .ret)))))⟩
theorem zg:cd qW=some qS:=by kernel_rfl
theorem nZ (l:aB) (b:Bytes) (t:Tc) (hw:t.wf) (hb:b.length≤800000000):VC cd qW (aJ [(true,l.c),(false,[.sl (bytes b)]),(true,t.c)]) (fun rs _=>rs=aU (gh l t) (b++IY t)):=by
 refine aa zg rfl ?_
 simp(disch:=omega) [qS,Tc.c,aB.c,VY]
 refine ay (zI l t hw) ?_ (ha:=by first|rfl|(simp[aB.c,Tc.c,VY] <;>repeat' constructor))
 simp(disch:=omega) [VY]
 refine ak (fun h0=> ?_) (fun h0=> ?_)
 case refine_2=>simp(disch:=omega) [h0,aU,VY]
 obtain⟨hf,hv,he⟩:=vk h0
 have h3:=aw hv
 have h1:=bD (n:=t.entries.length) (by omega)
 simp(disch:=omega) [h0,VY]
 refine ay (bk b t.view hv (by omega)) ?_
 simp(disch:=omega) [h0,bA,VY]
 refine ay (bk (b++aS t.view.toNat) t.entries.length (eZ (by omega)) (by simp only[List.length_append];omega)) ?_
 simp(disch:=omega) [h0,bA,VY]
 refine ed (σ:=Nat×Nat×Nat) (f1:=_) (by simp(disch:=omega) [VY];rfl) (fun p=> [(26, .val false [.int .i64 (p.1:Int)]),(8, .val false [.ow p.2.1 p.2.2])]) (fun p=> [(p.2.1, .sl p.2.2 true true (some (5,1)) (bytes (b++(aS t.view.toNat++(aS t.entries.length++e7 (t.entries.take p.1))))))]) (fun p g=>g+p.1=t.entries.length∧(p.2.1=196608∨p.2.1=311296)) (0,196608,_) t.entries.length (by simp(disch:=omega) [VY];rfl) (by simp(disch:=omega) [show e7 []= []from rfl,VY]) ⟨by omega, .inl rfl⟩ ?_
 rintro⟨i,key,v⟩ n g ⟨hg,hk⟩ P hP
 simp only at hg hk
 have hlt:∀e∈t.entries.take i,isNum e.who=true∧isNum e.high=true∧e.tag.length=32:=fun e h=>he e (List.mem_of_mem_take h)
 have hl:=nJ hlt
 have hl2:(t.entries.take i).length≤10:=by rw[List.length_take];omega
 have hl3:(e7 (t.entries.take i)).length≤500:=by omega
 rcases hk with rfl|rfl
 all_goals
  simp(disch:=omega) [VY]
  refine ab (fun h2=> ?_) (fun h2=> ?_)
  ·have hi:i < t.entries.length:=by omega
   obtain⟨g1,g2,g3⟩:=he _ (List.getElem_mem hi)
   have g4:=aw g1
   have g5:=aw g2
   simp(disch:=omega) [dc hi,VY]
   refine ay (bk (b++(aS t.view.toNat++(aS t.entries.length++e7 (t.entries.take i)))) t.entries[i].who g1 (by simp only[List.length_append];omega)) ?_
   simp(disch:=omega) [VY]
   refine ay (bk (b++(aS t.view.toNat++(aS t.entries.length++(e7 (t.entries.take i)++aS t.entries[i].who.toNat)))) t.entries[i].high g2 (by simp only[List.length_append];omega)) ?_
   simp(disch:=omega) [cN,an,VY]
   exact hP (i+1,311296,_) (g - 1) _ _ (by omega) ⟨by simp only;omega, .inr rfl⟩ (by simp(disch:=omega) [VY];rfl) (by simp(disch:=omega) [vP hi,D4,VY])
  ·have hi:i=t.entries.length:=by omega
   subst hi
   simp(disch:=omega) [aU,IY,e7,List.take_length,VY]
def di (l:List Head):Bytes:=(l.map dZ).flatten
theorem tD {l:List Head} {i:Nat} (h:i < l.length):di (l.take (i+1))=di (l.take i)++dZ l[i]:=by
 rw[List.take_succ_eq_append_getElem h]
 simp only[di,List.map_append,List.map_cons,List.map_nil,List.flatten_append,List.flatten_cons,List.flatten_nil,List.append_nil]
theorem jb:∀ {l:List Head},(∀h∈l,zB h)→(di l).length≤1000 * l.length
 | [],_=>by simp[di]
 |a::l,h=>by
  have h1:=jb (l:=l) fun x hx=>h x (by simp[hx])
  have h2:=fG (h a (by simp))
  simp only[di,List.map_cons,List.flatten_cons,List.length_append,List.length_cons]at h1⊢
  omega
theorem mF {l:aB} {p:Proof} (h:cJ l p=true):p.heads.length≤5∧f5 l p.qc=true∧∀x∈p.heads,bP l x=true:=by
 simp only[cJ,Bool.and_eq_true]at h
 obtain⟨⟨⟨h1,h2⟩,h3⟩,h4⟩:=h
 have h5:=kL h3
 simp only[aB.ok,Bool.and_eq_true]at h5
 have h6:=dq h5.2
 have h7:=dq h1
 refine⟨by omega,h3,fun x hx=> ?_⟩
 simp only[jg,List.all_eq_true]at h2
 exact h2 x hx
abbrev jD:Nat:=181
def jF:AF:=⟨3,6,[.tmp 6, .tmp 7],(.seq (.ops [.i (.lbox 3 (.s 0)), .i (.lbox 5 (.s 2)), .i (.mov 6 (.c (.val false [.nils]))), .i (.mov 7 (qb false))]) (.seq (.seq (.ops [ql 11 3 3 5 true,ql 12 5 5 6 true, .i (.call 14 53 false [(.s 11),(.s 12)]), .i (.not 14 (.s 13))]) (.cond (.s 14) (.seq (.ops [.i (.mov 6 (.c (.val false [.nils]))), .i (.mov 7 (qb false))]) .ret) .skip)) (.seq (.ops [qm 15 1,qk 17 60 15, .i (.bld 17 [.nils] [(0,1,(.s 16))]), .i (.hbox 18 228 (.s 17)),qm 8 18]) (.seq (.ops [qm 19 8,qf 20 5 0,ql 21 5 20 1 false,qn 22 21, .i (.call 24 241 false [(.s 19),(.s 22)])]) (.seq (.seq (.ops [qf 24 5 0,ql 25 5 24 1 false,qn 26 25, .i (.mov 27 (qi 0))]) (.block 0 (.loop [34,33,32,31,30,29,28,10] (.seq (.ops [qd 28 .lss 27 26]) (.seq (.cond (.s 28) .skip (.exit 0)) (.seq (.block 1 (.seq (.ops [.i (.iad 29 (.s 25) (.s 27) 10), .i (.ldh 30 (.s 29) 10 true), .i (.lal 10 qz),qs 10 10 30 10]) (.ops [qm 31 8,ql 32 10 10 10 true, .i (.call 34 216 false [(.s 31),(.s 32)])]))) (.ops [.i (.bin 34 .add (.s 27) (qi 1)),qm 27 34]))))))) (.seq (.ops [qm 35 8,qf 36 5 1,ql 37 5 36 5 true, .i (.call 39 243 false [(.s 35),(.s 37)])]) (.seq (.ops [qm 39 8, .i (.nch 40 (.s 39)),qf 41 40 0, .i (.ldh 42 (.s 41) 1 false),qm 6 42, .i (.mov 7 (qb true))]) .ret)))))))⟩
theorem uR:cd jD=some jF:=by kernel_rfl
theorem iB (l:aB) (b:Bytes) (p:Proof) (hw:p.wc) (hb:b.length≤800000000):VC cd jD (aJ [(true,l.c),(false,[.sl (bytes b)]),(true,p.c)]) (fun rs _=>rs=aU (cJ l p) (b++kN p)):=by
 refine aa uR rfl ?_
 simp(disch:=omega) [jF,Proof.c,aB.c,VY]
 refine ay (uF l p hw.1) ?_ (ha:=by first|rfl|(simp[aB.c,Proof.c,VY] <;>repeat' constructor))
 simp(disch:=omega) [VY]
 refine ak (fun h0=> ?_) (fun h0=> ?_)
 case refine_2=>simp(disch:=omega) [h0,aU,VY]
 obtain⟨hf,hq,hh⟩:=mF h0
 have h1:=bD (n:=p.heads.length) (by omega)
 simp(disch:=omega) [h0,VY]
 refine ah (aL b (by omega)) rfl rfl ?_
 simp(disch:=omega) [b9,VZ]
 refine oJ (aH _ p.heads.length (eZ (by omega)) ?_) ?_
 ·(try simp only[List.length_append]);omega
 simp(disch:=omega) [b9,VZ]
 refine ed (σ:=Nat×Nat) (f1:=_) (by simp(disch:=omega) [VZ];rfl) (fun q=> [(27, .val false [.int .i64 (q.1:Int)])]) (fun q=> [(18, .pt 14 228 [.ow 1099511701504 q.2]),(1099511701504, .sl q.2 true true (some (5,1)) (bytes (b++(aS p.heads.length++di (p.heads.take q.1)))))]) (fun q g=>g+q.1=p.heads.length) (0,16) p.heads.length (by simp(disch:=omega) [VZ]) (by simp(disch:=omega) [show di []= []from rfl,VZ]) (by omega) ?_
 rintro⟨i,v⟩ n g hg P hP
 simp only at hg
 have hl:=jb (l:=p.heads.take i) (fun e h=>c9 (hh e (List.mem_of_mem_take h)))
 have hl2:(p.heads.take i).length≤5:=by rw[List.length_take];omega
 have hl3:(di (p.heads.take i)).length≤5000:=by omega
 simp(disch:=omega) [VZ]
 refine ab (fun h2=> ?_) (fun h2=> ?_)
 ·have hi:i < p.heads.length:=by omega
  have hz:=c9 (hh _ (List.getElem_mem hi))
  have hy:=fG hz
  simp(disch:=omega) [dN hi,Head.c,VZ]
  refine oJ (fU _ p.heads[i] hz ?_) ?_
  ·(try simp only[List.length_append]);omega
  simp(disch:=omega) [VZ]
  exact hP (i+1,_) (g - 1) _ _ (by omega) (by simp only;omega) (by simp(disch:=omega) [VZ]) (by simp(disch:=omega) [tD hi,VZ];rfl)
 ·have hi:i=p.heads.length:=by omega
  subst hi
  rw[List.take_length]at hl3
  simp(disch:=omega) [List.take_length,VZ]
  refine oJ (jf _ p.qc (nv hq) ?_) ?_
  ·(try simp only[List.length_append]);omega
  simp(disch:=omega) [aU,kN,di,VZ]
abbrev jA:Nat:=172
def kc:AF:=⟨3,6,[.tmp 6, .tmp 7],(.seq (.ops [.i (.lbox 3 (.s 0)), .i (.lbox 5 (.s 2)), .i (.mov 6 (.c (.val false [.nils]))), .i (.mov 7 (qb false))]) (.seq (.seq (.ops [ql 11 3 3 5 true,ql 12 5 5 6 true, .i (.call 14 237 false [(.s 11),(.s 12)]), .i (.not 14 (.s 13))]) (.cond (.s 14) (.seq (.ops [.i (.mov 6 (.c (.val false [.nils]))), .i (.mov 7 (qb false))]) .ret) .skip)) (.seq (.ops [qm 15 1,qf 16 5 0,ql 17 5 16 1 false,qn 18 17, .i (.call 20 233 false [(.s 15),(.s 18)]),qm 8 19]) (.seq (.seq (.ops [qf 20 5 0,ql 21 5 20 1 false,qn 22 21, .i (.mov 23 (qi 0))]) (.block 0 (.loop [34,33,32,31,30,29,28,27,26,25,24,10] (.seq (.ops [qd 24 .lss 23 22]) (.seq (.cond (.s 24) .skip (.exit 0)) (.seq (.block 1 (.seq (.ops [.i (.iad 25 (.s 21) (.s 23) 10), .i (.ldh 26 (.s 25) 10 true), .i (.lal 10 qz),qs 10 10 26 10]) (.ops [ql 28 3 3 5 true,qm 29 8,ql 30 10 10 10 true, .i (.call 32 169 false [(.s 28),(.s 29),(.s 30)]),qm 27 31, .i (.ext 32 (.s 27) 0), .i (.ext 33 (.s 27) 1),qm 8 32]))) (.ops [.i (.bin 34 .add (.s 23) (qi 1)),qm 23 34]))))))) (.seq (.ops [ql 35 3 3 5 true,qm 36 8,qf 37 5 1,ql 38 5 37 5 true, .i (.call 40 168 false [(.s 35),(.s 36),(.s 38)]), .i (.ext 40 (.s 39) 0), .i (.ext 41 (.s 39) 1),qm 6 40,qm 7 41]) .ret)))))⟩
theorem uW:cd jA=some kc:=by kernel_rfl
theorem iT (l:aB) (b:Bytes) (p:Proof) (hw:p.wc) (hb:b.length≤800000000):VC cd jA (aJ [(true,l.c),(false,[.sl (bytes b)]),(true,p.c)]) (fun rs _=>rs=aU (cJ l p) (b++kN p)):=by
 refine aa uW rfl ?_
 simp(disch:=omega) [kc,Proof.c,aB.c,VY]
 refine ay (tV l p hw.1) ?_ (ha:=by first|rfl|(simp[aB.c,Proof.c,VY] <;>repeat' constructor))
 simp(disch:=omega) [VY]
 refine ak (fun h0=> ?_) (fun h0=> ?_)
 case refine_2=>simp(disch:=omega) [h0,aU,VY]
 obtain⟨hf,hq,hh⟩:=mF h0
 have h1:=bD (n:=p.heads.length) (by omega)
 simp(disch:=omega) [h0,b9,VY]
 refine ay (bk b p.heads.length (eZ (by omega)) (by omega)) ?_
 simp(disch:=omega) [h0,b9,VY]
 refine ed (σ:=Nat×Nat×Nat) (f1:=_) (by simp(disch:=omega) [VY];rfl) (fun q=> [(23, .val false [.int .i64 (q.1:Int)]),(8, .val false [.ow q.2.1 q.2.2])]) (fun q=> [(q.2.1, .sl q.2.2 true true (some (5,1)) (bytes (b++(aS p.heads.length++di (p.heads.take q.1)))))]) (fun q g=>g+q.1=p.heads.length∧(q.2.1=172032∨q.2.1=270336)) (0,172032,13) p.heads.length (by simp(disch:=omega) [VY]) (by simp(disch:=omega) [show di []= []from rfl,VY]) ⟨by omega, .inl rfl⟩ ?_
 rintro⟨i,key,v⟩ n g ⟨hg,hk⟩ P hP
 simp only at hg hk
 have hl:=jb (l:=p.heads.take i) (fun e h=>c9 (hh e (List.mem_of_mem_take h)))
 have hl2:(p.heads.take i).length≤5:=by rw[List.length_take];omega
 have hl3:(di (p.heads.take i)).length≤5000:=by omega
 rcases hk with rfl|rfl
 all_goals
  simp(disch:=omega) [VY]
  refine ab (fun h2=> ?_) (fun h2=> ?_)
  ·have hi:i < p.heads.length:=by omega
   have hx:=hh _ (List.getElem_mem hi)
   simp(disch:=omega) [dN hi,Head.c,VY]
   refine ay ((dM l (b++(aS p.heads.length++di (p.heads.take i))) p.heads[i] (hw.2.1 _ (List.getElem_mem hi)).1 (by simp only[List.length_append];omega)).re (bq hx)) ?_ (ha:=by first|rfl|(simp[aB.c,Head.c,VY] <;>repeat' constructor))
   simp(disch:=omega) [VY]
   exact hP (i+1,270336,_) (g - 1) _ _ (by omega) ⟨by simp only;omega, .inr rfl⟩ (by simp(disch:=omega) [VY];rfl) (by simp(disch:=omega) [tD hi,VY])
  ·have hi:i=p.heads.length:=by omega
   subst hi
   rw[List.take_length]at hl3
   simp(disch:=omega) [List.take_length,VY]
   refine ay ((eS l (b++(aS p.heads.length++di p.heads)) p.qc hw.2.2.1 (by simp only[List.length_append];omega)).re (bq hq)) ?_ (ha:=by first|rfl|(simp[aB.c,Qc.c,VY] <;>repeat' constructor))
   simp(disch:=omega) [aU,kN,di,VY]
theorem pV {l:aB} {x:bg} (h:eP l x=true):isNum x.height=true∧isNum x.n=true∧isNum x.idx=true∧x.tx.length≤40∧x.path.length≤8∧∀y∈x.path,y.length=32:=by
 simp only[eP,Bool.and_eq_true,decide_eq_true_eq]at h
 obtain⟨⟨⟨⟨⟨⟨h1,h2⟩,h3⟩,h4⟩,h5⟩,h6⟩,h7⟩:=h
 have g1:=zM h1
 have g3:=dq h3
 have g4:=dq h4
 have g5:=cV x.n.toNat x.idx.toNat
 refine⟨h2,by simp only[isNum,eA,decide_eq_true_eq];omega,by simp only[isNum,eA,decide_eq_true_eq];omega,by omega,by omega,fun y hy=> ?_⟩
 simp only[hashes,List.all_eq_true]at h7
 exact qp (h7 y hy)
abbrev mn:Nat:=182
def lQ:AF:=⟨3,6,[.tmp 6, .tmp 7],(.seq (.ops [.i (.lbox 3 (.s 0)), .i (.lbox 5 (.s 2)), .i (.mov 6 (.c (.val false [.nils]))), .i (.mov 7 (qb false))]) (.seq (.seq (.ops [ql 11 3 3 5 true,ql 12 5 5 5 true, .i (.call 14 247 false [(.s 11),(.s 12)]), .i (.not 14 (.s 13))]) (.cond (.s 14) (.seq (.ops [.i (.mov 6 (.c (.val false [.nils]))), .i (.mov 7 (qb false))]) .ret) .skip)) (.seq (.ops [qm 15 1,qk 17 60 15, .i (.bld 17 [.nils] [(0,1,(.s 16))]), .i (.hbox 18 228 (.s 17)),qm 8 18]) (.seq (.ops [qm 19 8,qf 20 5 0,ql 21 5 20 1 false, .i (.call 23 241 false [(.s 19),(.s 21)])]) (.seq (.ops [qm 23 8,qf 24 5 1,ql 25 5 24 1 false, .i (.call 27 241 false [(.s 23),(.s 25)])]) (.seq (.ops [qm 27 8,qf 28 5 2,ql 29 5 28 1 false, .i (.call 31 241 false [(.s 27),(.s 29)])]) (.seq (.ops [qm 31 8,qm 32 8, .i (.nch 33 (.s 32)),qf 34 33 0, .i (.ldh 35 (.s 34) 1 false),qf 36 5 3,ql 37 5 36 1 false, .i (.call 39 245 false [(.s 35),(.s 37)]), .i (.nch 39 (.s 31)),qf 40 39 0, .i (.sth (.s 40) (.s 38) 1)]) (.seq (.seq (.ops [qf 41 5 4,ql 42 5 41 1 false,qn 43 42, .i (.mov 44 (qi 0))]) (.block 0 (.loop [51,50,49,48,47,46,45,10] (.seq (.ops [qd 45 .lss 44 43]) (.seq (.cond (.s 45) .skip (.exit 0)) (.seq (.block 1 (.seq (.ops [.i (.iad 46 (.s 42) (.s 44) 1), .i (.ldh 47 (.s 46) 1 false),qm 10 47]) (.ops [qm 48 8,qm 49 10, .i (.call 51 242 false [(.s 48),(.s 49)])]))) (.ops [.i (.bin 51 .add (.s 44) (qi 1)),qm 44 51]))))))) (.seq (.ops [qm 52 8, .i (.nch 53 (.s 52)),qf 54 53 0, .i (.ldh 55 (.s 54) 1 false),qm 6 55, .i (.mov 7 (qb true))]) .ret)))))))))⟩
theorem xn:cd mn=some lQ:=by kernel_rfl
theorem jJ (l:aB) (b:Bytes) (x:bg) (hw:x.wc) (htx:x.tx.length≤100000000) (hb:b.length≤800000000):VC cd mn (aJ [(true,l.c),(false,[.sl (bytes b)]),(true,x.c)]) (fun rs _=>rs=aU (eP l x) (b++td x)):=by
 refine aa xn rfl ?_
 simp(disch:=omega) [lQ,bg.c,aB.c,VY]
 refine ay (wE l x hw) ?_ (ha:=by first|rfl|(simp[aB.c,bg.c,VY] <;>repeat' constructor))
 simp(disch:=omega) [VY]
 refine ak (fun h0=> ?_) (fun h0=> ?_)
 case refine_2=>simp(disch:=omega) [h0,aU,VY]
 obtain⟨n1,n2,n3,ht,hf,hp⟩:=pV h0
 have v1:=aw n1
 have v2:=aw n2
 have v3:=aw n3
 have v4:=nO (x:=x.tx) (by omega)
 simp(disch:=omega) [h0,VY]
 refine ah (aL b (by omega)) rfl rfl ?_
 simp(disch:=omega) [VZ]
 refine oJ (aH _ x.height n1 ?_) ?_
 ·(try simp only[List.length_append]);omega
 simp(disch:=omega) [VZ]
 refine oJ (aH _ x.n n2 ?_) ?_
 ·(try simp only[List.length_append]);omega
 simp(disch:=omega) [VZ]
 refine oJ (aH _ x.idx n3 ?_) ?_
 ·(try simp only[List.length_append]);omega
 simp(disch:=omega) [VZ]
 refine ay (jx (b++(aS x.height.toNat++(aS x.n.toNat++aS x.idx.toNat))) x.tx (by simp only[List.length_append];omega) (by omega)) ?_
 simp(disch:=omega) [au,VZ]
 refine ed (σ:=Nat×Nat×Nat) (f1:=_) (by simp(disch:=omega) [VZ];rfl) (fun q=> [(44, .val false [.int .i64 (q.1:Int)])]) (fun q=> [(18, .pt 13 228 [.ow q.2.1 q.2.2]),(q.2.1, .sl q.2.2 true true (some (5,1)) (bytes (b++(aS x.height.toNat++(aS x.n.toNat++(aS x.idx.toNat++(jP x.tx++(x.path.take q.1).flatten)))))))]) (fun q g=>g+q.1=x.path.length∧(q.2.1=327680∨q.2.1=1099511701504)) (0,327680,20) x.path.length (by simp(disch:=omega) [VZ]) (by simp(disch:=omega) [VZ]) ⟨by omega, .inl rfl⟩ ?_
 rintro⟨i,key,v⟩ n g ⟨hg,hk⟩ P hP
 simp only at hg hk
 rcases hk with rfl|rfl
 all_goals
  simp(disch:=omega) [VZ]
  refine ab (fun h2=> ?_) (fun h2=> ?_)
  ·have hi:i < x.path.length:=by omega
   have hy:=hp _ (List.getElem_mem hi)
   have hz:=fH hp (i:=i) (by omega)
   simp(disch:=omega) [cu hi,VZ]
   refine oJ (bK _ x.path[i] (by omega) ?_) ?_
   ·(try simp only[List.length_append]);omega
   simp(disch:=omega) [VZ]
   exact hP (i+1,1099511701504,_) (g - 1) _ _ (by omega) ⟨by simp only;omega, .inr rfl⟩ (by simp(disch:=omega) [VZ]) (by simp(disch:=omega) [nA hi,VZ];rfl)
  ·have hi:i=x.path.length:=by omega
   subst hi
   simp(disch:=omega) [aU,td,List.take_length,VZ]
abbrev kZ:Nat:=173
def lI:AF:=⟨3,6,[.tmp 6, .tmp 7],(.seq (.ops [.i (.lbox 3 (.s 0)), .i (.lbox 5 (.s 2)), .i (.mov 6 (.c (.val false [.nils]))), .i (.mov 7 (qb false))]) (.seq (.seq (.ops [ql 11 3 3 5 true,ql 12 5 5 5 true, .i (.call 14 238 false [(.s 11),(.s 12)]), .i (.not 14 (.s 13))]) (.cond (.s 14) (.seq (.ops [.i (.mov 6 (.c (.val false [.nils]))), .i (.mov 7 (qb false))]) .ret) .skip)) (.seq (.ops [qm 15 1,qf 16 5 0,ql 17 5 16 1 false, .i (.call 19 233 false [(.s 15),(.s 17)]),qf 19 5 1,ql 20 5 19 1 false, .i (.call 22 233 false [(.s 18),(.s 20)]),qf 22 5 2,ql 23 5 22 1 false, .i (.call 25 233 false [(.s 21),(.s 23)]),qf 25 5 3,ql 26 5 25 1 false, .i (.call 28 235 false [(.s 24),(.s 26)]),qm 8 27]) (.seq (.seq (.ops [qf 28 5 4,ql 29 5 28 1 false,qn 30 29, .i (.mov 31 (qi 0))]) (.block 0 (.loop [38,37,36,35,34,33,32,10] (.seq (.ops [qd 32 .lss 31 30]) (.seq (.cond (.s 32) .skip (.exit 0)) (.seq (.block 1 (.seq (.ops [.i (.iad 33 (.s 29) (.s 31) 1), .i (.ldh 34 (.s 33) 1 false),qm 10 34]) (.ops [qm 35 8,qm 36 10, .i (.app 37 5 1 1 (.s 35) (.s 36)),qm 8 37]))) (.ops [.i (.bin 38 .add (.s 31) (qi 1)),qm 31 38]))))))) (.seq (.ops [qm 39 8,qm 6 39, .i (.mov 7 (qb true))]) .ret)))))⟩
theorem w9:cd kZ=some lI:=by kernel_rfl
theorem jR (l:aB) (b:Bytes) (x:bg) (hw:x.wc) (htx:x.tx.length≤100000000) (hb:b.length≤800000000):VC cd kZ (aJ [(true,l.c),(false,[.sl (bytes b)]),(true,x.c)]) (fun rs _=>rs=aU (eP l x) (b++td x)):=by
 refine aa w9 rfl ?_
 simp(disch:=omega) [lI,bg.c,aB.c,VY]
 refine ay (v9 l x hw) ?_ (ha:=by first|rfl|(simp[aB.c,bg.c,VY] <;>repeat' constructor))
 simp(disch:=omega) [VY]
 refine ak (fun h0=> ?_) (fun h0=> ?_)
 case refine_2=>simp(disch:=omega) [h0,aU,VY]
 obtain⟨n1,n2,n3,ht,hf,hp⟩:=pV h0
 have v1:=aw n1
 have v2:=aw n2
 have v3:=aw n3
 have v4:=nO (x:=x.tx) (by omega)
 simp(disch:=omega) [h0,VY]
 refine ay (bk b x.height n1 (by omega)) ?_
 simp(disch:=omega) [h0,VY]
 refine ay (bk (b++aS x.height.toNat) x.n n2 (by simp only[List.length_append];omega)) ?_
 simp(disch:=omega) [h0,VY]
 refine ay (bk (b++(aS x.height.toNat++aS x.n.toNat)) x.idx n3 (by simp only[List.length_append];omega)) ?_
 simp(disch:=omega) [h0,VY]
 refine ay (jI (b++(aS x.height.toNat++(aS x.n.toNat++aS x.idx.toNat))) x.tx (by simp only[List.length_append];omega) (by omega)) ?_
 simp(disch:=omega) [h0,au,VY]
 refine ed (σ:=Nat×Nat) (f1:=_) (by simp(disch:=omega) [VY];rfl) (fun q=> [(31, .val false [.int .i64 (q.1:Int)]),(8, .val false [.ow 237568 q.2])]) (fun q=> [(237568, .sl q.2 true true (some (5,1)) (bytes (b++(aS x.height.toNat++(aS x.n.toNat++(aS x.idx.toNat++(jP x.tx++(x.path.take q.1).flatten)))))))]) (fun q g=>g+q.1=x.path.length) (0,15) x.path.length (by simp(disch:=omega) [VY]) (by simp(disch:=omega) [VY]) (by omega) ?_
 rintro⟨i,v⟩ n g hg P hP
 simp only at hg
 simp(disch:=omega) [VY]
 refine ab (fun h2=> ?_) (fun h2=> ?_)
 ·have hi:i < x.path.length:=by omega
  have hy:=hp _ (List.getElem_mem hi)
  have hz:=fH hp (i:=i) (by omega)
  simp(disch:=omega) [cu hi,cN,an,hz,VY]
  exact hP (i+1,_) (g - 1) _ _ (by omega) (by simp only;omega) (by simp(disch:=omega) [VY];rfl) (by simp(disch:=omega) [nA hi,VY])
 ·have hi:i=x.path.length:=by omega
  subst hi
  simp(disch:=omega) [aU,td,List.take_length,VY]
end Go.Eng.F
namespace Go.Eng.F
structure aY where
 kind:Int
 vote:bC
 qc:Qc
 head:Head
 block:Block
 tc:Tc
 proof:Proof
 incl:bg
def aY.c (m:aY):List D:= [.int .i64 m.kind, .int .i64 m.vote.view, .int .i64 m.vote.height, .sl (bytes m.vote.block), .int .i64 m.vote.who, .sl (bytes m.vote.tag), .int .i64 m.qc.view, .int .i64 m.qc.height, .sl (bytes m.qc.block), .sl (bytes m.qc.bits), .sl (cC m.qc.tags), .int .i64 m.head.view, .int .i64 m.head.height, .int .i64 m.head.proposer, .sl (bytes m.head.parent), .sl (bytes m.head.root), .int .i64 m.head.qc.view, .int .i64 m.head.qc.height, .sl (bytes m.head.qc.block), .sl (bytes m.head.qc.bits), .sl (cC m.head.qc.tags), .int .i64 m.block.head.view, .int .i64 m.block.head.height, .int .i64 m.block.head.proposer, .sl (bytes m.block.head.parent), .sl (bytes m.block.head.root), .int .i64 m.block.head.qc.view, .int .i64 m.block.head.qc.height, .sl (bytes m.block.head.qc.block), .sl (bytes m.block.head.qc.bits), .sl (cC m.block.head.qc.tags), .sl (cC m.block.txs), .int .i64 m.tc.view, .sl (kD m.tc.entries), .sl (f4 m.proof.heads), .int .i64 m.proof.qc.view, .int .i64 m.proof.qc.height, .sl (bytes m.proof.qc.block), .sl (bytes m.proof.qc.bits), .sl (cC m.proof.qc.tags), .int .i64 m.incl.height, .int .i64 m.incl.n, .int .i64 m.incl.idx, .sl (bytes m.incl.tx), .sl (cC m.incl.path)]
def Block.wx (x:Block):Prop:=x.wc∧∀t∈x.txs,t.length≤100000000
structure aY.wc (m:aY):Prop where
 kind:iq m.kind
 vote:m.vote.wf
 qc:m.qc.wc
 head:m.head.wc
 block:m.block.wx
 tc:m.tc.wf
 proof:m.proof.wc
 incl:m.incl.wc
 tx:m.incl.tx.length≤100000000
def fq:bC:=⟨0,0,[],0,[]⟩
def AG:Qc:=⟨0,0,[],[],[]⟩
def fb:Head:=⟨0,0,0,[],[],AG⟩
def dz:Block:=⟨fb,[]⟩
def Cj:Tc:=⟨0,[]⟩
def dE:Proof:=⟨[],AG⟩
def fv:bg:=⟨0,0,0,[],[]⟩
def dR:aY:=⟨0,fq,AG,fb,dz,Cj,dE,fv⟩
theorem gH:dR.wc:=by
 constructor <;>simp[dR,fq,AG,fb,dz,Cj,dE,fv,iq,Sz,bC.wf,Qc.wc,Qc.wf,Head.wc,Head.wf,Block.wx,Block.wc,yp,Tc.wf,Proof.wc,Proof.wf,nD,bg.wc]
def qu (a b:aY):Bool:=decide (a.kind=b.kind) && mz a.vote b.vote && pM a.qc b.qc && eo a.head b.head && iv a.block b.block && eJ a.tc b.tc && eH a.proof b.proof && la a.incl b.incl
abbrev mi:Nat:=98
def mS:AF:=⟨2,6,[.tmp 4],(.seq (.ops [.i (.lbox 2 (.s 0)), .i (.lbox 3 (.s 1)), .i (.mov 4 (qb false))]) (.seq (.ops [qf 5 2 0,ql 6 2 5 1 false,qf 7 3 0,ql 8 3 7 1 false,qd 9 .eql 6 8,qm 10 9, .g 10 true 12 (.fad 11 (.s 2) 1), .g 10 true 13 (.ldl 12 2 (.s 11) 5 true), .g 10 true 14 (.fad 13 (.s 3) 1), .g 10 true 15 (.ldl 14 3 (.s 13) 5 true), .g 10 true 16 (.call 16 183 false [(.s 12),(.s 14)]), .i (.pick 16 (.s 10) (.s 15) (qb false)),qm 17 16, .g 17 true 19 (.fad 18 (.s 2) 6), .g 17 true 20 (.ldl 19 2 (.s 18) 5 true), .g 17 true 21 (.fad 20 (.s 3) 6), .g 17 true 22 (.ldl 21 3 (.s 20) 5 true), .g 17 true 23 (.call 23 59 false [(.s 19),(.s 21)]), .i (.pick 23 (.s 17) (.s 22) (qb false)),qm 24 23, .g 24 true 26 (.fad 25 (.s 2) 11), .g 24 true 27 (.ldl 26 2 (.s 25) 10 true), .g 24 true 28 (.fad 27 (.s 3) 11), .g 24 true 29 (.ldl 28 3 (.s 27) 10 true), .g 24 true 30 (.call 30 13 false [(.s 26),(.s 28)]), .i (.pick 30 (.s 24) (.s 29) (qb false)),qm 31 30, .g 31 true 33 (.fad 32 (.s 2) 21), .g 31 true 34 (.ldl 33 2 (.s 32) 11 true), .g 31 true 35 (.fad 34 (.s 3) 21), .g 31 true 36 (.ldl 35 3 (.s 34) 11 true), .g 31 true 37 (.call 37 184 false [(.s 33),(.s 35)]), .i (.pick 37 (.s 31) (.s 36) (qb false)),qm 38 37, .g 38 true 40 (.fad 39 (.s 2) 32), .g 38 true 41 (.ldl 40 2 (.s 39) 2 true), .g 38 true 42 (.fad 41 (.s 3) 32), .g 38 true 43 (.ldl 42 3 (.s 41) 2 true), .g 38 true 44 (.call 44 185 false [(.s 40),(.s 42)]), .i (.pick 44 (.s 38) (.s 43) (qb false)),qm 45 44, .g 45 true 47 (.fad 46 (.s 2) 34), .g 45 true 48 (.ldl 47 2 (.s 46) 6 true), .g 45 true 49 (.fad 48 (.s 3) 34), .g 45 true 50 (.ldl 49 3 (.s 48) 6 true), .g 45 true 51 (.call 51 186 false [(.s 47),(.s 49)]), .i (.pick 51 (.s 45) (.s 50) (qb false)),qm 52 51, .g 52 true 54 (.fad 53 (.s 2) 40), .g 52 true 55 (.ldl 54 2 (.s 53) 5 true), .g 52 true 56 (.fad 55 (.s 3) 40), .g 52 true 57 (.ldl 56 3 (.s 55) 5 true), .g 52 true 58 (.call 58 187 false [(.s 54),(.s 56)]), .i (.pick 58 (.s 52) (.s 57) (qb false)),qm 4 58]) .ret))⟩
theorem w8:cd mi=some mS:=by kernel_rfl
theorem bU (a b:aY) (ha:a.wc) (hb:b.wc):VC cd mi (aJ [(true,a.c),(true,b.c)]) (fun rs _=>rs=bl (qu a b)):=by
 refine aa w8 rfl ?_
 simp(disch:=omega) [mS,aY.c,VY]
 refine ab (fun h1=> ?_) (fun h1=> ?_) <;>simp(disch:=omega) [h1,qu,VY]
 refine ay (rW a.vote b.vote) ?_ (ha:=by first|rfl|(simp[bC.c,VY] <;>repeat' constructor))
 simp(disch:=omega) [h1,VY]
 refine ak (fun h2=> ?_) (fun h2=> ?_) <;>simp(disch:=omega) [h1,h2,VY]
 refine ay (fQ a.qc b.qc ha.qc.1 hb.qc.1) ?_ (ha:=by first|rfl|(simp[Qc.c,VY] <;>repeat' constructor))
 simp(disch:=omega) [h1,h2,VY]
 refine ak (fun h3=> ?_) (fun h3=> ?_) <;>simp(disch:=omega) [h1,h2,h3,VY]
 refine ay (eM a.head b.head ha.head.1 hb.head.1) ?_ (ha:=by first|rfl|(simp[Head.c,VY] <;>repeat' constructor))
 simp(disch:=omega) [h1,h2,h3,VY]
 refine ak (fun h4=> ?_) (fun h4=> ?_) <;>simp(disch:=omega) [h1,h2,h3,h4,VY]
 refine ay (qv a.block b.block ha.block.1 hb.block.1) ?_ (ha:=by first|rfl|(simp[Block.c,Head.c,VY] <;>repeat' constructor))
 simp(disch:=omega) [h1,h2,h3,h4,VY]
 refine ak (fun h5=> ?_) (fun h5=> ?_) <;>simp(disch:=omega) [h1,h2,h3,h4,h5,VY]
 refine ay (vw a.tc b.tc ha.tc hb.tc) ?_ (ha:=by first|rfl|(simp[Tc.c,VY] <;>repeat' constructor))
 simp(disch:=omega) [h1,h2,h3,h4,h5,VY]
 refine ak (fun h6=> ?_) (fun h6=> ?_) <;>simp(disch:=omega) [h1,h2,h3,h4,h5,h6,VY]
 refine ay (rD a.proof b.proof ha.proof.1 hb.proof.1) ?_ (ha:=by first|rfl|(simp[Proof.c,VY] <;>repeat' constructor))
 simp(disch:=omega) [h1,h2,h3,h4,h5,h6,VY]
 refine ak (fun h7=> ?_) (fun h7=> ?_) <;>simp(disch:=omega) [h1,h2,h3,h4,h5,h6,h7,VY]
 refine ay (sI a.incl b.incl ha.incl hb.incl) ?_ (ha:=by first|rfl|(simp[bg.c,VY] <;>repeat' constructor))
 simp(disch:=omega) [h1,h2,h3,h4,h5,h6,h7,VY]
abbrev lh:Nat:=87
def m0:AF:=⟨2,6,[.tmp 4],(.seq (.ops [.i (.lbox 2 (.s 0)), .i (.lbox 3 (.s 1)), .i (.mov 4 (qb false))]) (.seq (.ops [qf 5 2 0,ql 6 2 5 1 false,qf 7 3 0,ql 8 3 7 1 false,qd 9 .eql 6 8,qm 10 9, .g 10 true 12 (.fad 11 (.s 2) 1), .g 10 true 13 (.ldl 12 2 (.s 11) 5 true), .g 10 true 14 (.fad 13 (.s 3) 1), .g 10 true 15 (.ldl 14 3 (.s 13) 5 true), .g 10 true 16 (.call 16 153 false [(.s 12),(.s 14)]), .i (.pick 16 (.s 10) (.s 15) (qb false)),qm 17 16, .g 17 true 19 (.fad 18 (.s 2) 6), .g 17 true 20 (.ldl 19 2 (.s 18) 5 true), .g 17 true 21 (.fad 20 (.s 3) 6), .g 17 true 22 (.ldl 21 3 (.s 20) 5 true), .g 17 true 23 (.call 23 154 false [(.s 19),(.s 21)]), .i (.pick 23 (.s 17) (.s 22) (qb false)),qm 24 23, .g 24 true 26 (.fad 25 (.s 2) 11), .g 24 true 27 (.ldl 26 2 (.s 25) 10 true), .g 24 true 28 (.fad 27 (.s 3) 11), .g 24 true 29 (.ldl 28 3 (.s 27) 10 true), .g 24 true 30 (.call 30 155 false [(.s 26),(.s 28)]), .i (.pick 30 (.s 24) (.s 29) (qb false)),qm 31 30, .g 31 true 33 (.fad 32 (.s 2) 21), .g 31 true 34 (.ldl 33 2 (.s 32) 11 true), .g 31 true 35 (.fad 34 (.s 3) 21), .g 31 true 36 (.ldl 35 3 (.s 34) 11 true), .g 31 true 37 (.call 37 156 false [(.s 33),(.s 35)]), .i (.pick 37 (.s 31) (.s 36) (qb false)),qm 38 37, .g 38 true 40 (.fad 39 (.s 2) 32), .g 38 true 41 (.ldl 40 2 (.s 39) 2 true), .g 38 true 42 (.fad 41 (.s 3) 32), .g 38 true 43 (.ldl 42 3 (.s 41) 2 true), .g 38 true 44 (.call 44 157 false [(.s 40),(.s 42)]), .i (.pick 44 (.s 38) (.s 43) (qb false)),qm 45 44, .g 45 true 47 (.fad 46 (.s 2) 34), .g 45 true 48 (.ldl 47 2 (.s 46) 6 true), .g 45 true 49 (.fad 48 (.s 3) 34), .g 45 true 50 (.ldl 49 3 (.s 48) 6 true), .g 45 true 51 (.call 51 158 false [(.s 47),(.s 49)]), .i (.pick 51 (.s 45) (.s 50) (qb false)),qm 52 51, .g 52 true 54 (.fad 53 (.s 2) 40), .g 52 true 55 (.ldl 54 2 (.s 53) 5 true), .g 52 true 56 (.fad 55 (.s 3) 40), .g 52 true 57 (.ldl 56 3 (.s 55) 5 true), .g 52 true 58 (.call 58 159 false [(.s 54),(.s 56)]), .i (.pick 58 (.s 52) (.s 57) (qb false)),qm 4 58]) .ret))⟩
theorem xi:cd lh=some m0:=by kernel_rfl
theorem bV (a b:aY) (ha:a.wc) (hb:b.wc):VC cd lh (aJ [(true,a.c),(true,b.c)]) (fun rs _=>rs=bl (qu a b)):=by
 refine aa xi rfl ?_
 simp(disch:=omega) [m0,aY.c,VY]
 refine ab (fun h1=> ?_) (fun h1=> ?_) <;>simp(disch:=omega) [h1,qu,VY]
 refine ay (sN a.vote b.vote) ?_ (ha:=by first|rfl|(simp[bC.c,VY] <;>repeat' constructor))
 simp(disch:=omega) [h1,VY]
 refine ak (fun h2=> ?_) (fun h2=> ?_) <;>simp(disch:=omega) [h1,h2,VY]
 refine ay (fL a.qc b.qc ha.qc.1 hb.qc.1) ?_ (ha:=by first|rfl|(simp[Qc.c,VY] <;>repeat' constructor))
 simp(disch:=omega) [h1,h2,VY]
 refine ak (fun h3=> ?_) (fun h3=> ?_) <;>simp(disch:=omega) [h1,h2,h3,VY]
 refine ay (eK a.head b.head ha.head.1 hb.head.1) ?_ (ha:=by first|rfl|(simp[Head.c,VY] <;>repeat' constructor))
 simp(disch:=omega) [h1,h2,h3,VY]
 refine ak (fun h4=> ?_) (fun h4=> ?_) <;>simp(disch:=omega) [h1,h2,h3,h4,VY]
 refine ay (qM a.block b.block ha.block.1 hb.block.1) ?_ (ha:=by first|rfl|(simp[Block.c,Head.c,VY] <;>repeat' constructor))
 simp(disch:=omega) [h1,h2,h3,h4,VY]
 refine ak (fun h5=> ?_) (fun h5=> ?_) <;>simp(disch:=omega) [h1,h2,h3,h4,h5,VY]
 refine ay (xa a.tc b.tc ha.tc hb.tc) ?_ (ha:=by first|rfl|(simp[Tc.c,VY] <;>repeat' constructor))
 simp(disch:=omega) [h1,h2,h3,h4,h5,VY]
 refine ak (fun h6=> ?_) (fun h6=> ?_) <;>simp(disch:=omega) [h1,h2,h3,h4,h5,h6,VY]
 refine ay (qU a.proof b.proof ha.proof.1 hb.proof.1) ?_ (ha:=by first|rfl|(simp[Proof.c,VY] <;>repeat' constructor))
 simp(disch:=omega) [h1,h2,h3,h4,h5,h6,VY]
 refine ak (fun h7=> ?_) (fun h7=> ?_) <;>simp(disch:=omega) [h1,h2,h3,h4,h5,h6,h7,VY]
 refine ay (r8 a.incl b.incl ha.incl hb.incl) ?_ (ha:=by first|rfl|(simp[bg.c,VY] <;>repeat' constructor))
 simp(disch:=omega) [h1,h2,h3,h4,h5,h6,h7,VY]
def eR (x:bC):List (Bool×List E):= [(true,[.p (.int .i64 1), .p (.int .i64 x.view), .p (.int .i64 x.height), .o true (some (5,1)) (bytes x.block), .p (.int .i64 x.who), .o true (some (5,1)) (bytes x.tag), .p (.int .i64 0), .p (.int .i64 0), .p .nils, .p .nils, .p .nils, .p (.int .i64 0), .p (.int .i64 0), .p (.int .i64 0), .p .nils, .p .nils, .p (.int .i64 0), .p (.int .i64 0), .p .nils, .p .nils, .p .nils, .p (.int .i64 0), .p (.int .i64 0), .p (.int .i64 0), .p .nils, .p .nils, .p (.int .i64 0), .p (.int .i64 0), .p .nils, .p .nils, .p .nils, .p .nils, .p (.int .i64 0), .p .nils, .p .nils, .p (.int .i64 0), .p (.int .i64 0), .p .nils, .p .nils, .p .nils, .p (.int .i64 0), .p (.int .i64 0), .p (.int .i64 0), .p .nils, .p .nils])]
def pA (x:Qc):List (Bool×List E):= [(true,[.p (.int .i64 2), .p (.int .i64 0), .p (.int .i64 0), .p .nils, .p (.int .i64 0), .p .nils, .p (.int .i64 x.view), .p (.int .i64 x.height), .o true (some (5,1)) (bytes x.block), .o true (some (5,1)) (bytes x.bits), .o true (some (22,1)) (cC x.tags), .p (.int .i64 0), .p (.int .i64 0), .p (.int .i64 0), .p .nils, .p .nils, .p (.int .i64 0), .p (.int .i64 0), .p .nils, .p .nils, .p .nils, .p (.int .i64 0), .p (.int .i64 0), .p (.int .i64 0), .p .nils, .p .nils, .p (.int .i64 0), .p (.int .i64 0), .p .nils, .p .nils, .p .nils, .p .nils, .p (.int .i64 0), .p .nils, .p .nils, .p (.int .i64 0), .p (.int .i64 0), .p .nils, .p .nils, .p .nils, .p (.int .i64 0), .p (.int .i64 0), .p (.int .i64 0), .p .nils, .p .nils])]
def eU (x:Head):List (Bool×List E):= [(true,[.p (.int .i64 3), .p (.int .i64 0), .p (.int .i64 0), .p .nils, .p (.int .i64 0), .p .nils, .p (.int .i64 0), .p (.int .i64 0), .p .nils, .p .nils, .p .nils, .p (.int .i64 x.view), .p (.int .i64 x.height), .p (.int .i64 x.proposer), .o true (some (5,1)) (bytes x.parent), .o true (some (5,1)) (bytes x.root), .p (.int .i64 x.qc.view), .p (.int .i64 x.qc.height), .o true (some (5,1)) (bytes x.qc.block), .o true (some (5,1)) (bytes x.qc.bits), .o true (some (22,1)) (cC x.qc.tags), .p (.int .i64 0), .p (.int .i64 0), .p (.int .i64 0), .p .nils, .p .nils, .p (.int .i64 0), .p (.int .i64 0), .p .nils, .p .nils, .p .nils, .p .nils, .p (.int .i64 0), .p .nils, .p .nils, .p (.int .i64 0), .p (.int .i64 0), .p .nils, .p .nils, .p .nils, .p (.int .i64 0), .p (.int .i64 0), .p (.int .i64 0), .p .nils, .p .nils])]
def eV (x:bg):List (Bool×List E):= [(true,[.p (.int .i64 7), .p (.int .i64 0), .p (.int .i64 0), .p .nils, .p (.int .i64 0), .p .nils, .p (.int .i64 0), .p (.int .i64 0), .p .nils, .p .nils, .p .nils, .p (.int .i64 0), .p (.int .i64 0), .p (.int .i64 0), .p .nils, .p .nils, .p (.int .i64 0), .p (.int .i64 0), .p .nils, .p .nils, .p .nils, .p (.int .i64 0), .p (.int .i64 0), .p (.int .i64 0), .p .nils, .p .nils, .p (.int .i64 0), .p (.int .i64 0), .p .nils, .p .nils, .p .nils, .p .nils, .p (.int .i64 0), .p .nils, .p .nils, .p (.int .i64 0), .p (.int .i64 0), .p .nils, .p .nils, .p .nils, .p (.int .i64 x.height), .p (.int .i64 x.n), .p (.int .i64 x.idx), .o true (some (5,1)) (bytes x.tx), .o true (some (22,1)) (cC x.path)])]
abbrev pr:Nat:=188
def oF:AF:=⟨1,4,[.cell 2 45 true],(.seq (.ops [.i (.lbox 1 (.s 0)), .i (.lal 2 [.int .i64 0, .int .i64 0, .int .i64 0, .nils, .int .i64 0, .nils, .int .i64 0, .int .i64 0, .nils, .nils, .nils, .int .i64 0, .int .i64 0, .int .i64 0, .nils, .nils, .int .i64 0, .int .i64 0, .nils, .nils, .nils, .int .i64 0, .int .i64 0, .int .i64 0, .nils, .nils, .int .i64 0, .int .i64 0, .nils, .nils, .nils, .nils, .int .i64 0, .nils, .nils, .int .i64 0, .int .i64 0, .nils, .nils, .nils, .int .i64 0, .int .i64 0, .int .i64 0, .nils, .nils])]) (.seq (.ops [qf 3 1 2,ql 4 1 3 1 false,qk 6 60 4,qf 6 1 4,ql 7 1 6 1 false,qk 9 60 7,qf 9 1 2,qs 1 9 5 1,qf 10 1 4,qs 1 10 8 1]) (.seq (.ops [ql 11 1 1 5 true, .i (.bld 12 [.int .i64 0, .int .i64 0, .int .i64 0, .nils, .int .i64 0, .nils, .int .i64 0, .int .i64 0, .nils, .nils, .nils, .int .i64 0, .int .i64 0, .int .i64 0, .nils, .nils, .int .i64 0, .int .i64 0, .nils, .nils, .nils, .int .i64 0, .int .i64 0, .int .i64 0, .nils, .nils, .int .i64 0, .int .i64 0, .nils, .nils, .nils, .nils, .int .i64 0, .nils, .nils, .int .i64 0, .int .i64 0, .nils, .nils, .nils, .int .i64 0, .int .i64 0, .int .i64 0, .nils, .nils] [(0,1,(qi 1)),(1,5,(.s 11))]),qs 2 2 12 45]) .ret)))⟩
theorem yi:cd pr=some oF:=by kernel_rfl
theorem wR (x:bC) (hw:x.wf):VC cd pr (aJ [(true,x.c)]) (fun rs _=>rs=eR x):=by
 have w1:=hw.2.2.1
 have w2:=hw.2.2.2.2
 simp only[Sz]at w1 w2
 refine aa yi rfl ?_
 simp(disch:=omega) [oF,bC.c,VY]
 refine ay (aL x.block (by omega)) ?_
 simp(disch:=omega) [VY]
 refine ay (aL x.tag (by omega)) ?_
 simp(disch:=omega) [eR,VY]
abbrev ob:Nat:=160
def oR:AF:=⟨1,4,[.cell 2 45 true],(.seq (.ops [.i (.lbox 1 (.s 0)), .i (.lal 2 [.int .i64 0, .int .i64 0, .int .i64 0, .nils, .int .i64 0, .nils, .int .i64 0, .int .i64 0, .nils, .nils, .nils, .int .i64 0, .int .i64 0, .int .i64 0, .nils, .nils, .int .i64 0, .int .i64 0, .nils, .nils, .nils, .int .i64 0, .int .i64 0, .int .i64 0, .nils, .nils, .int .i64 0, .int .i64 0, .nils, .nils, .nils, .nils, .int .i64 0, .nils, .nils, .int .i64 0, .int .i64 0, .nils, .nils, .nils, .int .i64 0, .int .i64 0, .int .i64 0, .nils, .nils])]) (.seq (.ops [qf 3 1 2,ql 4 1 3 1 false,qk 6 115 4,qf 6 1 2,qs 1 6 5 1]) (.seq (.ops [qf 7 1 4,ql 8 1 7 1 false,qk 10 115 8,qf 10 1 4,qs 1 10 9 1]) (.seq (.ops [ql 11 1 1 5 true, .i (.bld 12 [.int .i64 0, .int .i64 0, .int .i64 0, .nils, .int .i64 0, .nils, .int .i64 0, .int .i64 0, .nils, .nils, .nils, .int .i64 0, .int .i64 0, .int .i64 0, .nils, .nils, .int .i64 0, .int .i64 0, .nils, .nils, .nils, .int .i64 0, .int .i64 0, .int .i64 0, .nils, .nils, .int .i64 0, .int .i64 0, .nils, .nils, .nils, .nils, .int .i64 0, .nils, .nils, .int .i64 0, .int .i64 0, .nils, .nils, .nils, .int .i64 0, .int .i64 0, .int .i64 0, .nils, .nils] [(0,1,(qi 1)),(1,5,(.s 11))]),qs 2 2 12 45]) .ret))))⟩
theorem xV:cd ob=some oR:=by kernel_rfl
theorem wJ (x:bC) (hw:x.wf):VC cd ob (aJ [(true,x.c)]) (fun rs _=>rs=eR x):=by
 have w1:=hw.2.2.1
 have w2:=hw.2.2.2.2
 simp only[Sz]at w1 w2
 refine aa xV rfl ?_
 simp(disch:=omega) [oR,bC.c,VY]
 refine ay (cq x.block (by omega)) ?_
 simp(disch:=omega) [VY]
 refine ay (cq x.tag (by omega)) ?_
 simp(disch:=omega) [eR,VY]
abbrev tG:Nat:=189
def tH:AF:=⟨1,3,[.cell 2 45 true],(.seq (.ops [.i (.lbox 1 (.s 0)), .i (.lal 2 [.int .i64 0, .int .i64 0, .int .i64 0, .nils, .int .i64 0, .nils, .int .i64 0, .int .i64 0, .nils, .nils, .nils, .int .i64 0, .int .i64 0, .int .i64 0, .nils, .nils, .int .i64 0, .int .i64 0, .nils, .nils, .nils, .int .i64 0, .int .i64 0, .int .i64 0, .nils, .nils, .int .i64 0, .int .i64 0, .nils, .nils, .nils, .nils, .int .i64 0, .nils, .nils, .int .i64 0, .int .i64 0, .nils, .nils, .nils, .int .i64 0, .int .i64 0, .int .i64 0, .nils, .nils])]) (.seq (.ops [ql 3 1 1 5 true,qk 5 133 3, .i (.bld 5 [.int .i64 0, .int .i64 0, .int .i64 0, .nils, .int .i64 0, .nils, .int .i64 0, .int .i64 0, .nils, .nils, .nils, .int .i64 0, .int .i64 0, .int .i64 0, .nils, .nils, .int .i64 0, .int .i64 0, .nils, .nils, .nils, .int .i64 0, .int .i64 0, .int .i64 0, .nils, .nils, .int .i64 0, .int .i64 0, .nils, .nils, .nils, .nils, .int .i64 0, .nils, .nils, .int .i64 0, .int .i64 0, .nils, .nils, .nils, .int .i64 0, .int .i64 0, .int .i64 0, .nils, .nils] [(0,1,(qi 2)),(6,5,(.s 4))]),qs 2 2 5 45]) .ret))⟩
theorem Bt:cd tG=some tH:=by kernel_rfl
theorem zU (x:Qc) (hw:x.wc):VC cd tG (aJ [(true,x.c)]) (fun rs _=>rs=pA x):=by
 refine aa Bt rfl ?_
 simp(disch:=omega) [tH,Qc.c,VY]
 refine ay (i2 x hw) ?_ (ha:=by first|rfl|(simp[Qc.c,VY] <;>repeat' constructor))
 simp(disch:=omega) [pA,Qc.o,VY]
abbrev tu:Nat:=161
def tf:AF:=⟨1,3,[.cell 2 45 true],(.seq (.ops [.i (.lbox 1 (.s 0)), .i (.lal 2 [.int .i64 0, .int .i64 0, .int .i64 0, .nils, .int .i64 0, .nils, .int .i64 0, .int .i64 0, .nils, .nils, .nils, .int .i64 0, .int .i64 0, .int .i64 0, .nils, .nils, .int .i64 0, .int .i64 0, .nils, .nils, .nils, .int .i64 0, .int .i64 0, .int .i64 0, .nils, .nils, .int .i64 0, .int .i64 0, .nils, .nils, .nils, .nils, .int .i64 0, .nils, .nils, .int .i64 0, .int .i64 0, .nils, .nils, .nils, .int .i64 0, .int .i64 0, .int .i64 0, .nils, .nils])]) (.seq (.ops [ql 3 1 1 5 true,qk 5 145 3, .i (.bld 5 [.int .i64 0, .int .i64 0, .int .i64 0, .nils, .int .i64 0, .nils, .int .i64 0, .int .i64 0, .nils, .nils, .nils, .int .i64 0, .int .i64 0, .int .i64 0, .nils, .nils, .int .i64 0, .int .i64 0, .nils, .nils, .nils, .int .i64 0, .int .i64 0, .int .i64 0, .nils, .nils, .int .i64 0, .int .i64 0, .nils, .nils, .nils, .nils, .int .i64 0, .nils, .nils, .int .i64 0, .int .i64 0, .nils, .nils, .nils, .int .i64 0, .int .i64 0, .int .i64 0, .nils, .nils] [(0,1,(qi 2)),(6,5,(.s 4))]),qs 2 2 5 45]) .ret))⟩
theorem B4:cd tu=some tf:=by kernel_rfl
theorem Ay (x:Qc) (hw:x.wc):VC cd tu (aJ [(true,x.c)]) (fun rs _=>rs=pA x):=by
 refine aa B4 rfl ?_
 simp(disch:=omega) [tf,Qc.c,VY]
 refine ay (pT x hw) ?_ (ha:=by first|rfl|(simp[Qc.c,VY] <;>repeat' constructor))
 simp(disch:=omega) [pA,Qc.o,VY]
abbrev pw:Nat:=190
def oG:AF:=⟨1,3,[.cell 2 45 true],(.seq (.ops [.i (.lbox 1 (.s 0)), .i (.lal 2 [.int .i64 0, .int .i64 0, .int .i64 0, .nils, .int .i64 0, .nils, .int .i64 0, .int .i64 0, .nils, .nils, .nils, .int .i64 0, .int .i64 0, .int .i64 0, .nils, .nils, .int .i64 0, .int .i64 0, .nils, .nils, .nils, .int .i64 0, .int .i64 0, .int .i64 0, .nils, .nils, .int .i64 0, .int .i64 0, .nils, .nils, .nils, .nils, .int .i64 0, .nils, .nils, .int .i64 0, .int .i64 0, .nils, .nils, .nils, .int .i64 0, .int .i64 0, .int .i64 0, .nils, .nils])]) (.seq (.ops [ql 3 1 1 10 true,qk 5 54 3, .i (.bld 5 [.int .i64 0, .int .i64 0, .int .i64 0, .nils, .int .i64 0, .nils, .int .i64 0, .int .i64 0, .nils, .nils, .nils, .int .i64 0, .int .i64 0, .int .i64 0, .nils, .nils, .int .i64 0, .int .i64 0, .nils, .nils, .nils, .int .i64 0, .int .i64 0, .int .i64 0, .nils, .nils, .int .i64 0, .int .i64 0, .nils, .nils, .nils, .nils, .int .i64 0, .nils, .nils, .int .i64 0, .int .i64 0, .nils, .nils, .nils, .int .i64 0, .int .i64 0, .int .i64 0, .nils, .nils] [(0,1,(qi 3)),(11,10,(.s 4))]),qs 2 2 5 45]) .ret))⟩
theorem xW:cd pw=some oG:=by kernel_rfl
theorem vJ (x:Head) (hw:x.wc):VC cd pw (aJ [(true,x.c)]) (fun rs _=>rs=eU x):=by
 refine aa xW rfl ?_
 simp(disch:=omega) [oG,Head.c,VY]
 refine ay (gd x hw) ?_ (ha:=by first|rfl|(simp[Head.c,VY] <;>repeat' constructor))
 simp(disch:=omega) [eU,Head.o,VY]
abbrev pg:Nat:=162
def ou:AF:=⟨1,3,[.cell 2 45 true],(.seq (.ops [.i (.lbox 1 (.s 0)), .i (.lal 2 [.int .i64 0, .int .i64 0, .int .i64 0, .nils, .int .i64 0, .nils, .int .i64 0, .int .i64 0, .nils, .nils, .nils, .int .i64 0, .int .i64 0, .int .i64 0, .nils, .nils, .int .i64 0, .int .i64 0, .nils, .nils, .nils, .int .i64 0, .int .i64 0, .int .i64 0, .nils, .nils, .int .i64 0, .int .i64 0, .nils, .nils, .nils, .nils, .int .i64 0, .nils, .nils, .int .i64 0, .int .i64 0, .nils, .nils, .nils, .int .i64 0, .int .i64 0, .int .i64 0, .nils, .nils])]) (.seq (.ops [ql 3 1 1 10 true,qk 5 68 3, .i (.bld 5 [.int .i64 0, .int .i64 0, .int .i64 0, .nils, .int .i64 0, .nils, .int .i64 0, .int .i64 0, .nils, .nils, .nils, .int .i64 0, .int .i64 0, .int .i64 0, .nils, .nils, .int .i64 0, .int .i64 0, .nils, .nils, .nils, .int .i64 0, .int .i64 0, .int .i64 0, .nils, .nils, .int .i64 0, .int .i64 0, .nils, .nils, .nils, .nils, .int .i64 0, .nils, .nils, .int .i64 0, .int .i64 0, .nils, .nils, .nils, .int .i64 0, .int .i64 0, .int .i64 0, .nils, .nils] [(0,1,(qi 3)),(11,10,(.s 4))]),qs 2 2 5 45]) .ret))⟩
theorem xL:cd pg=some ou:=by kernel_rfl
theorem wM (x:Head) (hw:x.wc):VC cd pg (aJ [(true,x.c)]) (fun rs _=>rs=eU x):=by
 refine aa xL rfl ?_
 simp(disch:=omega) [ou,Head.c,VY]
 refine ay (pY x hw) ?_ (ha:=by first|rfl|(simp[Head.c,VY] <;>repeat' constructor))
 simp(disch:=omega) [eU,Head.o,VY]
abbrev pq:Nat:=194
def pb:AF:=⟨1,3,[.cell 2 45 true],(.seq (.ops [.i (.lbox 1 (.s 0)), .i (.lal 2 [.int .i64 0, .int .i64 0, .int .i64 0, .nils, .int .i64 0, .nils, .int .i64 0, .int .i64 0, .nils, .nils, .nils, .int .i64 0, .int .i64 0, .int .i64 0, .nils, .nils, .int .i64 0, .int .i64 0, .nils, .nils, .nils, .int .i64 0, .int .i64 0, .int .i64 0, .nils, .nils, .int .i64 0, .int .i64 0, .nils, .nils, .nils, .nils, .int .i64 0, .nils, .nils, .int .i64 0, .int .i64 0, .nils, .nils, .nils, .int .i64 0, .int .i64 0, .int .i64 0, .nils, .nils])]) (.seq (.ops [ql 3 1 1 5 true,qk 5 253 3, .i (.bld 5 [.int .i64 0, .int .i64 0, .int .i64 0, .nils, .int .i64 0, .nils, .int .i64 0, .int .i64 0, .nils, .nils, .nils, .int .i64 0, .int .i64 0, .int .i64 0, .nils, .nils, .int .i64 0, .int .i64 0, .nils, .nils, .nils, .int .i64 0, .int .i64 0, .int .i64 0, .nils, .nils, .int .i64 0, .int .i64 0, .nils, .nils, .nils, .nils, .int .i64 0, .nils, .nils, .int .i64 0, .int .i64 0, .nils, .nils, .nils, .int .i64 0, .int .i64 0, .int .i64 0, .nils, .nils] [(0,1,(qi 7)),(40,5,(.s 4))]),qs 2 2 5 45]) .ret))⟩
theorem yc:cd pq=some pb:=by kernel_rfl
theorem xj (x:bg) (hw:x.wc):VC cd pq (aJ [(true,x.c)]) (fun rs _=>rs=eV x):=by
 refine aa yc rfl ?_
 simp(disch:=omega) [pb,bg.c,VY]
 refine ay (wo x hw) ?_ (ha:=by first|rfl|(simp[bg.c,VY] <;>repeat' constructor))
 simp(disch:=omega) [eV,bg.o,VY]
abbrev n8:Nat:=166
def oL:AF:=⟨1,3,[.cell 2 45 true],(.seq (.ops [.i (.lbox 1 (.s 0)), .i (.lal 2 [.int .i64 0, .int .i64 0, .int .i64 0, .nils, .int .i64 0, .nils, .int .i64 0, .int .i64 0, .nils, .nils, .nils, .int .i64 0, .int .i64 0, .int .i64 0, .nils, .nils, .int .i64 0, .int .i64 0, .nils, .nils, .nils, .int .i64 0, .int .i64 0, .int .i64 0, .nils, .nils, .int .i64 0, .int .i64 0, .nils, .nils, .nils, .nils, .int .i64 0, .nils, .nils, .int .i64 0, .int .i64 0, .nils, .nils, .nils, .int .i64 0, .int .i64 0, .int .i64 0, .nils, .nils])]) (.seq (.ops [ql 3 1 1 5 true,qk 5 231 3, .i (.bld 5 [.int .i64 0, .int .i64 0, .int .i64 0, .nils, .int .i64 0, .nils, .int .i64 0, .int .i64 0, .nils, .nils, .nils, .int .i64 0, .int .i64 0, .int .i64 0, .nils, .nils, .int .i64 0, .int .i64 0, .nils, .nils, .nils, .int .i64 0, .int .i64 0, .int .i64 0, .nils, .nils, .int .i64 0, .int .i64 0, .nils, .nils, .nils, .nils, .int .i64 0, .nils, .nils, .int .i64 0, .int .i64 0, .nils, .nils, .nils, .int .i64 0, .int .i64 0, .int .i64 0, .nils, .nils] [(0,1,(qi 7)),(40,5,(.s 4))]),qs 2 2 5 45]) .ret))⟩
theorem xK:cd n8=some oL:=by kernel_rfl
theorem wv (x:bg) (hw:x.wc):VC cd n8 (aJ [(true,x.c)]) (fun rs _=>rs=eV x):=by
 refine aa xK rfl ?_
 simp(disch:=omega) [oL,bg.c,VY]
 refine ay (CO x hw) ?_ (ha:=by first|rfl|(simp[bg.c,VY] <;>repeat' constructor))
 simp(disch:=omega) [eV,bg.o,VY]
abbrev bm:Nat:=99
def bn:AF:=⟨1,6,[.cell 2 45 true],(.seq (.ops [.i (.lbox 1 (.s 0)), .i (.lal 2 [.int .i64 0, .int .i64 0, .int .i64 0, .nils, .int .i64 0, .nils, .int .i64 0, .int .i64 0, .nils, .nils, .nils, .int .i64 0, .int .i64 0, .int .i64 0, .nils, .nils, .int .i64 0, .int .i64 0, .nils, .nils, .nils, .int .i64 0, .int .i64 0, .int .i64 0, .nils, .nils, .int .i64 0, .int .i64 0, .nils, .nils, .nils, .nils, .int .i64 0, .nils, .nils, .int .i64 0, .int .i64 0, .nils, .nils, .nils, .int .i64 0, .int .i64 0, .int .i64 0, .nils, .nils])]) (.seq (.seq (.ops [qf 3 1 0,ql 4 1 3 1 false]) (.block 0 (.seq (.ops [.i (.bin 6 .eql (.s 4) (qi 1)),qm 5 6]) (.cond (.s 5) (.seq (.ops [qf 7 1 1,ql 8 1 7 5 true,qk 10 188 8,qs 2 2 9 45]) .ret) (.seq (.ops [.i (.bin 11 .eql (.s 4) (qi 2)),qm 10 11]) (.cond (.s 10) (.seq (.ops [qf 12 1 6,ql 13 1 12 5 true,qk 15 189 13,qs 2 2 14 45]) .ret) (.seq (.ops [.i (.bin 16 .eql (.s 4) (qi 3)),qm 15 16]) (.cond (.s 15) (.seq (.ops [qf 17 1 11,ql 18 1 17 10 true,qk 20 190 18,qs 2 2 19 45]) .ret) (.seq (.ops [.i (.bin 21 .eql (.s 4) (qi 4)),qm 20 21]) (.cond (.s 20) (.seq (.ops [qf 22 1 21,ql 23 1 22 11 true,qk 25 191 23,qs 2 2 24 45]) .ret) (.seq (.ops [.i (.bin 26 .eql (.s 4) (qi 5)),qm 25 26]) (.cond (.s 25) (.seq (.ops [qf 27 1 32,ql 28 1 27 2 true,qk 30 192 28,qs 2 2 29 45]) .ret) (.seq (.ops [.i (.bin 31 .eql (.s 4) (qi 6)),qm 30 31]) (.cond (.s 30) (.seq (.ops [qf 32 1 34,ql 33 1 32 6 true,qk 35 193 33,qs 2 2 34 45]) .ret) (.seq (.ops [.i (.bin 36 .eql (.s 4) (qi 7)),qm 35 36]) (.cond (.s 35) (.seq (.ops [qf 37 1 40,ql 38 1 37 5 true,qk 40 194 38,qs 2 2 39 45]) .ret) .skip)))))))))))))))) (.seq (.ops [.i (.bld 40 [.int .i64 0, .int .i64 0, .int .i64 0, .nils, .int .i64 0, .nils, .int .i64 0, .int .i64 0, .nils, .nils, .nils, .int .i64 0, .int .i64 0, .int .i64 0, .nils, .nils, .int .i64 0, .int .i64 0, .nils, .nils, .nils, .int .i64 0, .int .i64 0, .int .i64 0, .nils, .nils, .int .i64 0, .int .i64 0, .nils, .nils, .nils, .nils, .int .i64 0, .nils, .nils, .int .i64 0, .int .i64 0, .nils, .nils, .nils, .int .i64 0, .int .i64 0, .int .i64 0, .nils, .nils] []),qs 2 2 40 45]) .ret)))⟩
theorem bE:cd bm=some bn:=by kernel_rfl
theorem zC (m:aY) (hw:m.wc) (hk:m.kind=1):VC cd bm (aJ [(true,m.c)]) (fun rs _=>rs=eR m.vote):=by
 refine aa bE rfl ?_
 simp(disch:=omega) [bn,aY.c,hk,VY]
 refine ay (wR m.vote hw.vote) ?_ (ha:=by first|rfl|(simp[bC.c,VY] <;>repeat' constructor))
 simp(disch:=omega) [eR,VY]
abbrev bO:Nat:=88
def bR:AF:=⟨1,6,[.cell 2 45 true],(.seq (.ops [.i (.lbox 1 (.s 0)), .i (.lal 2 [.int .i64 0, .int .i64 0, .int .i64 0, .nils, .int .i64 0, .nils, .int .i64 0, .int .i64 0, .nils, .nils, .nils, .int .i64 0, .int .i64 0, .int .i64 0, .nils, .nils, .int .i64 0, .int .i64 0, .nils, .nils, .nils, .int .i64 0, .int .i64 0, .int .i64 0, .nils, .nils, .int .i64 0, .int .i64 0, .nils, .nils, .nils, .nils, .int .i64 0, .nils, .nils, .int .i64 0, .int .i64 0, .nils, .nils, .nils, .int .i64 0, .int .i64 0, .int .i64 0, .nils, .nils])]) (.seq (.seq (.ops [qf 3 1 0,ql 4 1 3 1 false]) (.block 0 (.seq (.ops [.i (.bin 6 .eql (.s 4) (qi 1)),qm 5 6]) (.cond (.s 5) (.seq (.ops [qf 7 1 1,ql 8 1 7 5 true,qk 10 160 8,qs 2 2 9 45]) .ret) (.seq (.ops [.i (.bin 11 .eql (.s 4) (qi 2)),qm 10 11]) (.cond (.s 10) (.seq (.ops [qf 12 1 6,ql 13 1 12 5 true,qk 15 161 13,qs 2 2 14 45]) .ret) (.seq (.ops [.i (.bin 16 .eql (.s 4) (qi 3)),qm 15 16]) (.cond (.s 15) (.seq (.ops [qf 17 1 11,ql 18 1 17 10 true,qk 20 162 18,qs 2 2 19 45]) .ret) (.seq (.ops [.i (.bin 21 .eql (.s 4) (qi 4)),qm 20 21]) (.cond (.s 20) (.seq (.ops [qf 22 1 21,ql 23 1 22 11 true,qk 25 163 23,qs 2 2 24 45]) .ret) (.seq (.ops [.i (.bin 26 .eql (.s 4) (qi 5)),qm 25 26]) (.cond (.s 25) (.seq (.ops [qf 27 1 32,ql 28 1 27 2 true,qk 30 164 28,qs 2 2 29 45]) .ret) (.seq (.ops [.i (.bin 31 .eql (.s 4) (qi 6)),qm 30 31]) (.cond (.s 30) (.seq (.ops [qf 32 1 34,ql 33 1 32 6 true,qk 35 165 33,qs 2 2 34 45]) .ret) (.seq (.ops [.i (.bin 36 .eql (.s 4) (qi 7)),qm 35 36]) (.cond (.s 35) (.seq (.ops [qf 37 1 40,ql 38 1 37 5 true,qk 40 166 38,qs 2 2 39 45]) .ret) .skip)))))))))))))))) (.seq (.ops [.i (.bld 40 [.int .i64 0, .int .i64 0, .int .i64 0, .nils, .int .i64 0, .nils, .int .i64 0, .int .i64 0, .nils, .nils, .nils, .int .i64 0, .int .i64 0, .int .i64 0, .nils, .nils, .int .i64 0, .int .i64 0, .nils, .nils, .nils, .int .i64 0, .int .i64 0, .int .i64 0, .nils, .nils, .int .i64 0, .int .i64 0, .nils, .nils, .nils, .nils, .int .i64 0, .nils, .nils, .int .i64 0, .int .i64 0, .nils, .nils, .nils, .int .i64 0, .int .i64 0, .int .i64 0, .nils, .nils] []),qs 2 2 40 45]) .ret)))⟩
theorem ct:cd bO=some bR:=by kernel_rfl
theorem y0 (m:aY) (hw:m.wc) (hk:m.kind=1):VC cd bO (aJ [(true,m.c)]) (fun rs _=>rs=eR m.vote):=by
 refine aa ct rfl ?_
 simp(disch:=omega) [bR,aY.c,hk,VY]
 refine ay (wJ m.vote hw.vote) ?_ (ha:=by first|rfl|(simp[bC.c,VY] <;>repeat' constructor))
 simp(disch:=omega) [eR,VY]
theorem At (m:aY) (hw:m.wc) (hk:m.kind=2):VC cd bm (aJ [(true,m.c)]) (fun rs _=>rs=pA m.qc):=by
 refine aa bE rfl ?_
 simp(disch:=omega) [bn,aY.c,hk,VY]
 refine ay (zU m.qc hw.qc) ?_ (ha:=by first|rfl|(simp[Qc.c,VY] <;>repeat' constructor))
 simp(disch:=omega) [pA,VY]
theorem zJ (m:aY) (hw:m.wc) (hk:m.kind=2):VC cd bO (aJ [(true,m.c)]) (fun rs _=>rs=pA m.qc):=by
 refine aa ct rfl ?_
 simp(disch:=omega) [bR,aY.c,hk,VY]
 refine ay (Ay m.qc hw.qc) ?_ (ha:=by first|rfl|(simp[Qc.c,VY] <;>repeat' constructor))
 simp(disch:=omega) [pA,VY]
theorem zY (m:aY) (hw:m.wc) (hk:m.kind=3):VC cd bm (aJ [(true,m.c)]) (fun rs _=>rs=eU m.head):=by
 refine aa bE rfl ?_
 simp(disch:=omega) [bn,aY.c,hk,VY]
 refine ay (vJ m.head hw.head) ?_ (ha:=by first|rfl|(simp[Head.c,VY] <;>repeat' constructor))
 simp(disch:=omega) [eU,VY]
theorem zk (m:aY) (hw:m.wc) (hk:m.kind=3):VC cd bO (aJ [(true,m.c)]) (fun rs _=>rs=eU m.head):=by
 refine aa ct rfl ?_
 simp(disch:=omega) [bR,aY.c,hk,VY]
 refine ay (wM m.head hw.head) ?_ (ha:=by first|rfl|(simp[Head.c,VY] <;>repeat' constructor))
 simp(disch:=omega) [eU,VY]
theorem As (m:aY) (hw:m.wc) (hk:m.kind=4):VC cd bm (aJ [(true,m.c)]) (fun rs _=>rs=dH m.block):=by
 refine aa bE rfl ?_
 simp(disch:=omega) [bn,aY.c,hk,VY]
 refine ay (uw m.block hw.block.1) ?_ (ha:=by first|rfl|(simp[Block.c,Head.c,VY] <;>repeat' constructor))
 simp(disch:=omega) [dH,VY]
theorem zT (m:aY) (hw:m.wc) (hk:m.kind=4):VC cd bO (aJ [(true,m.c)]) (fun rs _=>rs=dH m.block):=by
 refine aa ct rfl ?_
 simp(disch:=omega) [bR,aY.c,hk,VY]
 refine ay (uC m.block hw.block.1) ?_ (ha:=by first|rfl|(simp[Block.c,Head.c,VY] <;>repeat' constructor))
 simp(disch:=omega) [dH,VY]
theorem zx (m:aY) (hw:m.wc) (hk:m.kind=5):VC cd bm (aJ [(true,m.c)]) (fun rs _=>rs=oO m.tc):=by
 refine aa bE rfl ?_
 simp(disch:=omega) [bn,aY.c,hk,VY]
 refine ay (z8 m.tc hw.tc) ?_ (ha:=by first|rfl|(simp[Tc.c,VY] <;>repeat' constructor))
 simp(disch:=omega) [oO,VY]
theorem Ak (m:aY) (hw:m.wc) (hk:m.kind=5):VC cd bO (aJ [(true,m.c)]) (fun rs _=>rs=oO m.tc):=by
 refine aa ct rfl ?_
 simp(disch:=omega) [bR,aY.c,hk,VY]
 refine ay (zo m.tc hw.tc) ?_ (ha:=by first|rfl|(simp[Tc.c,VY] <;>repeat' constructor))
 simp(disch:=omega) [oO,VY]
theorem zf (m:aY) (hw:m.wc) (hk:m.kind=6):VC cd bm (aJ [(true,m.c)]) (fun rs _=>rs=dJ m.proof):=by
 refine aa bE rfl ?_
 simp(disch:=omega) [bn,aY.c,hk,VY]
 refine ay (uT m.proof hw.proof) ?_ (ha:=by first|rfl|(simp[Proof.c,VY] <;>repeat' constructor))
 simp(disch:=omega) [dJ,VY]
theorem zp (m:aY) (hw:m.wc) (hk:m.kind=6):VC cd bO (aJ [(true,m.c)]) (fun rs _=>rs=dJ m.proof):=by
 refine aa ct rfl ?_
 simp(disch:=omega) [bR,aY.c,hk,VY]
 refine ay (tP m.proof hw.proof) ?_ (ha:=by first|rfl|(simp[Proof.c,VY] <;>repeat' constructor))
 simp(disch:=omega) [dJ,VY]
theorem zP (m:aY) (hw:m.wc) (hk:m.kind=7):VC cd bm (aJ [(true,m.c)]) (fun rs _=>rs=eV m.incl):=by
 refine aa bE rfl ?_
 simp(disch:=omega) [bn,aY.c,hk,VY]
 refine ay (xj m.incl hw.incl) ?_ (ha:=by first|rfl|(simp[bg.c,VY] <;>repeat' constructor))
 simp(disch:=omega) [eV,VY]
theorem Ab (m:aY) (hw:m.wc) (hk:m.kind=7):VC cd bO (aJ [(true,m.c)]) (fun rs _=>rs=eV m.incl):=by
 refine aa ct rfl ?_
 simp(disch:=omega) [bR,aY.c,hk,VY]
 refine ay (wv m.incl hw.incl) ?_ (ha:=by first|rfl|(simp[bg.c,VY] <;>repeat' constructor))
 simp(disch:=omega) [eV,VY]
def cm (m:aY):aY:=if m.kind=1 then {dR with kind:=1,vote:=m.vote}else if m.kind=2 then {dR with kind:=2,qc:=m.qc}else if m.kind=3 then {dR with kind:=3,head:=m.head}else if m.kind=4 then {dR with kind:=4,block:=m.block}else if m.kind=5 then {dR with kind:=5,tc:=m.tc}else if m.kind=6 then {dR with kind:=6,proof:=m.proof}else if m.kind=7 then {dR with kind:=7,incl:=m.incl}else dR
def aG (l:aB) (m:aY):Bool:=if m.kind=1 then ss l m.vote else if m.kind=2 then f5 l m.qc else if m.kind=3 then bP l m.head else if m.kind=4 then bM l m.block else if m.kind=5 then gh l m.tc else if m.kind=6 then cJ l m.proof else if m.kind=7 then eP l m.incl else false
def bB (m:aY):Bytes:=if m.kind=1 then Hw m.vote else if m.kind=2 then EF m.qc else if m.kind=3 then dZ m.head else if m.kind=4 then lK m.block else if m.kind=5 then IY m.tc else if m.kind=6 then kN m.proof else td m.incl
theorem gm {l:aB} {m:aY} (h:aG l m=true):m.kind=1∨m.kind=2∨m.kind=3∨m.kind=4∨m.kind=5∨m.kind=6∨m.kind=7:=by
 unfold aG at h
 repeat' split at h
 all_goals first|(simp at h;done)|omega
def bx (l:aB) (m:aY):Bool:=aG l m && qu m (cm m)
abbrev mj:Nat:=97
def lr:AF:=⟨3,7,[.tmp 6, .tmp 7],(.seq (.ops [.i (.lbox 3 (.s 0)), .i (.lbox 4 (.s 1)), .i (.mov 6 (.c (.val false [.nils]))), .i (.mov 7 (qb false))]) (.seq (.seq (.ops [qf 8 3 0,ql 9 3 8 1 false]) (.block 0 (.seq (.ops [.i (.bin 11 .eql (.s 9) (qi 1)),qm 10 11]) (.cond (.s 10) (.seq (.ops [ql 12 4 4 5 true,qm 13 2,qf 14 3 1,ql 15 3 14 5 true, .i (.call 17 177 false [(.s 12),(.s 13),(.s 15)]), .i (.ext 17 (.s 16) 0), .i (.ext 18 (.s 16) 1),qm 6 17,qm 7 18]) .ret) (.seq (.ops [.i (.bin 20 .eql (.s 9) (qi 2)),qm 19 20]) (.cond (.s 19) (.seq (.ops [ql 21 4 4 5 true,qm 22 2,qf 23 3 6,ql 24 3 23 5 true, .i (.call 26 178 false [(.s 21),(.s 22),(.s 24)]), .i (.ext 26 (.s 25) 0), .i (.ext 27 (.s 25) 1),qm 6 26,qm 7 27]) .ret) (.seq (.ops [.i (.bin 29 .eql (.s 9) (qi 3)),qm 28 29]) (.cond (.s 28) (.seq (.ops [ql 30 4 4 5 true,qm 31 2,qf 32 3 11,ql 33 3 32 10 true, .i (.call 35 129 false [(.s 30),(.s 31),(.s 33)]), .i (.ext 35 (.s 34) 0), .i (.ext 36 (.s 34) 1),qm 6 35,qm 7 36]) .ret) (.seq (.ops [.i (.bin 38 .eql (.s 9) (qi 4)),qm 37 38]) (.cond (.s 37) (.seq (.ops [ql 39 4 4 5 true,qm 40 2,qf 41 3 21,ql 42 3 41 11 true, .i (.call 44 179 false [(.s 39),(.s 40),(.s 42)]), .i (.ext 44 (.s 43) 0), .i (.ext 45 (.s 43) 1),qm 6 44,qm 7 45]) .ret) (.seq (.ops [.i (.bin 47 .eql (.s 9) (qi 5)),qm 46 47]) (.cond (.s 46) (.seq (.ops [ql 48 4 4 5 true,qm 49 2,qf 50 3 32,ql 51 3 50 2 true, .i (.call 53 180 false [(.s 48),(.s 49),(.s 51)]), .i (.ext 53 (.s 52) 0), .i (.ext 54 (.s 52) 1),qm 6 53,qm 7 54]) .ret) (.seq (.ops [.i (.bin 56 .eql (.s 9) (qi 6)),qm 55 56]) (.cond (.s 55) (.seq (.ops [ql 57 4 4 5 true,qm 58 2,qf 59 3 34,ql 60 3 59 6 true, .i (.call 62 181 false [(.s 57),(.s 58),(.s 60)]), .i (.ext 62 (.s 61) 0), .i (.ext 63 (.s 61) 1),qm 6 62,qm 7 63]) .ret) (.seq (.ops [.i (.bin 65 .eql (.s 9) (qi 7)),qm 64 65]) (.cond (.s 64) (.seq (.ops [ql 66 4 4 5 true,qm 67 2,qf 68 3 40,ql 69 3 68 5 true, .i (.call 71 182 false [(.s 66),(.s 67),(.s 69)]), .i (.ext 71 (.s 70) 0), .i (.ext 72 (.s 70) 1),qm 6 71,qm 7 72]) .ret) .skip)))))))))))))))) (.seq (.ops [.i (.mov 6 (.c (.val false [.nils]))), .i (.mov 7 (qb false))]) .ret)))⟩
theorem xA:cd mj=some lr:=by kernel_rfl
theorem lO (l:aB) (b:Bytes) (m:aY) (hw:m.wc) (hb:b.length≤800000000):VC cd mj (aJ [(true,m.c),(true,l.c),(false,[.sl (bytes b)])]) (fun rs _=>rs=aU (aG l m) (b++bB m)):=by
 refine aa xA rfl ?_
 simp(disch:=omega) [lr,aY.c,aB.c,VY]
 refine ab (fun g1=> ?_) (fun g1=> ?_)
 ·have e1:aG l m=ss l m.vote:=by simp[aG,g1]
  have e2:bB m=Hw m.vote:=by simp[bB,g1]
  rw[e1,e2]
  simp(disch:=omega) [g1,VY]
  cases hp:ss l m.vote
  ·refine ay ((jQ l b m.vote (by omega)).re (b5 hp)) ?_ (ha:=by first|rfl|(simp[aB.c,bC.c,VY] <;>repeat' constructor))
   simp(disch:=omega) [aU,g1,VY]
  ·refine ay ((jQ l b m.vote (by omega)).re (bq hp)) ?_ (ha:=by first|rfl|(simp[aB.c,bC.c,VY] <;>repeat' constructor))
   simp(disch:=omega) [aU,g1,VY]
 simp(disch:=omega) [g1,VY]
 refine ab (fun g2=> ?_) (fun g2=> ?_)
 ·have e1:aG l m=f5 l m.qc:=by simp[aG,g2]
  have e2:bB m=EF m.qc:=by simp[bB,g2]
  rw[e1,e2]
  simp(disch:=omega) [g2,VY]
  cases hp:f5 l m.qc
  ·refine ay ((oz l b m.qc hw.qc.1 (by omega)).re (b5 hp)) ?_ (ha:=by first|rfl|(simp[aB.c,Qc.c,VY] <;>repeat' constructor))
   simp(disch:=omega) [aU,g2,VY]
  ·refine ay ((oz l b m.qc hw.qc.1 (by omega)).re (bq hp)) ?_ (ha:=by first|rfl|(simp[aB.c,Qc.c,VY] <;>repeat' constructor))
   simp(disch:=omega) [aU,g2,VY]
 simp(disch:=omega) [g2,VY]
 refine ab (fun g3=> ?_) (fun g3=> ?_)
 ·have e1:aG l m=bP l m.head:=by simp[aG,g3]
  have e2:bB m=dZ m.head:=by simp[bB,g3]
  rw[e1,e2]
  simp(disch:=omega) [g3,VY]
  cases hp:bP l m.head
  ·refine ay ((jH l b m.head hw.head.1 (by omega)).re (b5 hp)) ?_ (ha:=by first|rfl|(simp[aB.c,Head.c,VY] <;>repeat' constructor))
   simp(disch:=omega) [aU,g3,VY]
  ·refine ay ((jH l b m.head hw.head.1 (by omega)).re (bq hp)) ?_ (ha:=by first|rfl|(simp[aB.c,Head.c,VY] <;>repeat' constructor))
   simp(disch:=omega) [aU,g3,VY]
 simp(disch:=omega) [g3,VY]
 refine ab (fun g4=> ?_) (fun g4=> ?_)
 ·have e1:aG l m=bM l m.block:=by simp[aG,g4]
  have e2:bB m=lK m.block:=by simp[bB,g4]
  rw[e1,e2]
  simp(disch:=omega) [g4,VY]
  cases hp:bM l m.block
  ·refine ay ((iO l b m.block hw.block (by omega)).re (b5 hp)) ?_ (ha:=by first|rfl|(simp[aB.c,Block.c,Head.c,VY] <;>repeat' constructor))
   simp(disch:=omega) [aU,g4,VY]
  ·refine ay ((iO l b m.block hw.block (by omega)).re (bq hp)) ?_ (ha:=by first|rfl|(simp[aB.c,Block.c,Head.c,VY] <;>repeat' constructor))
   simp(disch:=omega) [aU,g4,VY]
 simp(disch:=omega) [g4,VY]
 refine ab (fun g5=> ?_) (fun g5=> ?_)
 ·have e1:aG l m=gh l m.tc:=by simp[aG,g5]
  have e2:bB m=IY m.tc:=by simp[bB,g5]
  rw[e1,e2]
  simp(disch:=omega) [g5,VY]
  cases hp:gh l m.tc
  ·refine ay ((n9 l b m.tc hw.tc (by omega)).re (b5 hp)) ?_ (ha:=by first|rfl|(simp[aB.c,Tc.c,VY] <;>repeat' constructor))
   simp(disch:=omega) [aU,g5,VY]
  ·refine ay ((n9 l b m.tc hw.tc (by omega)).re (bq hp)) ?_ (ha:=by first|rfl|(simp[aB.c,Tc.c,VY] <;>repeat' constructor))
   simp(disch:=omega) [aU,g5,VY]
 simp(disch:=omega) [g5,VY]
 refine ab (fun g6=> ?_) (fun g6=> ?_)
 ·have e1:aG l m=cJ l m.proof:=by simp[aG,g6]
  have e2:bB m=kN m.proof:=by simp[bB,g6]
  rw[e1,e2]
  simp(disch:=omega) [g6,VY]
  cases hp:cJ l m.proof
  ·refine ay ((iB l b m.proof hw.proof (by omega)).re (b5 hp)) ?_ (ha:=by first|rfl|(simp[aB.c,Proof.c,VY] <;>repeat' constructor))
   simp(disch:=omega) [aU,g6,VY]
  ·refine ay ((iB l b m.proof hw.proof (by omega)).re (bq hp)) ?_ (ha:=by first|rfl|(simp[aB.c,Proof.c,VY] <;>repeat' constructor))
   simp(disch:=omega) [aU,g6,VY]
 simp(disch:=omega) [g6,VY]
 refine ab (fun g7=> ?_) (fun g7=> ?_)
 ·have e1:aG l m=eP l m.incl:=by simp[aG,g7]
  have e2:bB m=td m.incl:=by simp[bB,g7]
  rw[e1,e2]
  simp(disch:=omega) [g7,VY]
  cases hp:eP l m.incl
  ·refine ay ((jJ l b m.incl hw.incl hw.tx (by omega)).re (b5 hp)) ?_ (ha:=by first|rfl|(simp[aB.c,bg.c,VY] <;>repeat' constructor))
   simp(disch:=omega) [aU,g7,VY]
  ·refine ay ((jJ l b m.incl hw.incl hw.tx (by omega)).re (bq hp)) ?_ (ha:=by first|rfl|(simp[aB.c,bg.c,VY] <;>repeat' constructor))
   simp(disch:=omega) [aU,g7,VY]
 have e1:aG l m=false:=by simp[aG,g1,g2,g3,g4,g5,g6,g7]
 rw[e1]
 simp(disch:=omega) [aU,g1,g2,g3,g4,g5,g6,g7,VY]
abbrev oj:Nat:=89
def pv:AF:=⟨3,7,[.tmp 6, .tmp 7],(.seq (.ops [.i (.lbox 3 (.s 0)), .i (.lbox 5 (.s 2)), .i (.mov 6 (.c (.val false [.nils]))), .i (.mov 7 (qb false))]) (.seq (.seq (.ops [qf 8 5 0,ql 9 5 8 1 false]) (.block 0 (.seq (.ops [.i (.bin 11 .eql (.s 9) (qi 1)),qm 10 11]) (.cond (.s 10) (.seq (.ops [ql 12 3 3 5 true,qm 13 1,qf 14 5 1,ql 15 5 14 5 true, .i (.call 17 167 false [(.s 12),(.s 13),(.s 15)]), .i (.ext 17 (.s 16) 0), .i (.ext 18 (.s 16) 1),qm 6 17,qm 7 18]) .ret) (.seq (.ops [.i (.bin 20 .eql (.s 9) (qi 2)),qm 19 20]) (.cond (.s 19) (.seq (.ops [ql 21 3 3 5 true,qm 22 1,qf 23 5 6,ql 24 5 23 5 true, .i (.call 26 168 false [(.s 21),(.s 22),(.s 24)]), .i (.ext 26 (.s 25) 0), .i (.ext 27 (.s 25) 1),qm 6 26,qm 7 27]) .ret) (.seq (.ops [.i (.bin 29 .eql (.s 9) (qi 3)),qm 28 29]) (.cond (.s 28) (.seq (.ops [ql 30 3 3 5 true,qm 31 1,qf 32 5 11,ql 33 5 32 10 true, .i (.call 35 169 false [(.s 30),(.s 31),(.s 33)]), .i (.ext 35 (.s 34) 0), .i (.ext 36 (.s 34) 1),qm 6 35,qm 7 36]) .ret) (.seq (.ops [.i (.bin 38 .eql (.s 9) (qi 4)),qm 37 38]) (.cond (.s 37) (.seq (.ops [ql 39 3 3 5 true,qm 40 1,qf 41 5 21,ql 42 5 41 11 true, .i (.call 44 170 false [(.s 39),(.s 40),(.s 42)]), .i (.ext 44 (.s 43) 0), .i (.ext 45 (.s 43) 1),qm 6 44,qm 7 45]) .ret) (.seq (.ops [.i (.bin 47 .eql (.s 9) (qi 5)),qm 46 47]) (.cond (.s 46) (.seq (.ops [ql 48 3 3 5 true,qm 49 1,qf 50 5 32,ql 51 5 50 2 true, .i (.call 53 171 false [(.s 48),(.s 49),(.s 51)]), .i (.ext 53 (.s 52) 0), .i (.ext 54 (.s 52) 1),qm 6 53,qm 7 54]) .ret) (.seq (.ops [.i (.bin 56 .eql (.s 9) (qi 6)),qm 55 56]) (.cond (.s 55) (.seq (.ops [ql 57 3 3 5 true,qm 58 1,qf 59 5 34,ql 60 5 59 6 true, .i (.call 62 172 false [(.s 57),(.s 58),(.s 60)]), .i (.ext 62 (.s 61) 0), .i (.ext 63 (.s 61) 1),qm 6 62,qm 7 63]) .ret) .skip)))))))))))))) (.seq (.ops [ql 64 3 3 5 true,qm 65 1,qf 66 5 40,ql 67 5 66 5 true, .i (.call 69 173 false [(.s 64),(.s 65),(.s 67)]), .i (.ext 69 (.s 68) 0), .i (.ext 70 (.s 68) 1),qm 6 69,qm 7 70]) .ret)))⟩
theorem yn:cd oj=some pv:=by kernel_rfl
theorem a9 (l:aB) (b:Bytes) (m:aY) (hw:m.wc) (hk:eA m.kind 1 7=true) (hb:b.length≤800000000):VC cd oj (aJ [(true,l.c),(false,[.sl (bytes b)]),(true,m.c)]) (fun rs _=>rs=aU (aG l m) (b++bB m)):=by
 have hk2:=dq hk
 refine aa yn rfl ?_
 simp(disch:=omega) [pv,aY.c,aB.c,VY]
 refine ab (fun g1=> ?_) (fun g1=> ?_)
 ·have e1:aG l m=ss l m.vote:=by simp[aG,g1]
  have e2:bB m=Hw m.vote:=by simp[bB,g1]
  rw[e1,e2]
  simp(disch:=omega) [g1,VY]
  cases hp:ss l m.vote
  ·refine ay ((jo l b m.vote (by omega)).re (b5 hp)) ?_ (ha:=by first|rfl|(simp[aB.c,bC.c,VY] <;>repeat' constructor))
   simp(disch:=omega) [aU,g1,VY]
  ·refine ay ((jo l b m.vote (by omega)).re (bq hp)) ?_ (ha:=by first|rfl|(simp[aB.c,bC.c,VY] <;>repeat' constructor))
   simp(disch:=omega) [aU,g1,VY]
 simp(disch:=omega) [g1,VY]
 refine ab (fun g2=> ?_) (fun g2=> ?_)
 ·have e1:aG l m=f5 l m.qc:=by simp[aG,g2]
  have e2:bB m=EF m.qc:=by simp[bB,g2]
  rw[e1,e2]
  simp(disch:=omega) [g2,VY]
  cases hp:f5 l m.qc
  ·refine ay ((eS l b m.qc hw.qc.1 (by omega)).re (b5 hp)) ?_ (ha:=by first|rfl|(simp[aB.c,Qc.c,VY] <;>repeat' constructor))
   simp(disch:=omega) [aU,g2,VY]
  ·refine ay ((eS l b m.qc hw.qc.1 (by omega)).re (bq hp)) ?_ (ha:=by first|rfl|(simp[aB.c,Qc.c,VY] <;>repeat' constructor))
   simp(disch:=omega) [aU,g2,VY]
 simp(disch:=omega) [g2,VY]
 refine ab (fun g3=> ?_) (fun g3=> ?_)
 ·have e1:aG l m=bP l m.head:=by simp[aG,g3]
  have e2:bB m=dZ m.head:=by simp[bB,g3]
  rw[e1,e2]
  simp(disch:=omega) [g3,VY]
  cases hp:bP l m.head
  ·refine ay ((dM l b m.head hw.head.1 (by omega)).re (b5 hp)) ?_ (ha:=by first|rfl|(simp[aB.c,Head.c,VY] <;>repeat' constructor))
   simp(disch:=omega) [aU,g3,VY]
  ·refine ay ((dM l b m.head hw.head.1 (by omega)).re (bq hp)) ?_ (ha:=by first|rfl|(simp[aB.c,Head.c,VY] <;>repeat' constructor))
   simp(disch:=omega) [aU,g3,VY]
 simp(disch:=omega) [g3,VY]
 refine ab (fun g4=> ?_) (fun g4=> ?_)
 ·have e1:aG l m=bM l m.block:=by simp[aG,g4]
  have e2:bB m=lK m.block:=by simp[bB,g4]
  rw[e1,e2]
  simp(disch:=omega) [g4,VY]
  cases hp:bM l m.block
  ·refine ay ((gV l b m.block hw.block (by omega)).re (b5 hp)) ?_ (ha:=by first|rfl|(simp[aB.c,Block.c,Head.c,VY] <;>repeat' constructor))
   simp(disch:=omega) [aU,g4,VY]
  ·refine ay ((gV l b m.block hw.block (by omega)).re (bq hp)) ?_ (ha:=by first|rfl|(simp[aB.c,Block.c,Head.c,VY] <;>repeat' constructor))
   simp(disch:=omega) [aU,g4,VY]
 simp(disch:=omega) [g4,VY]
 refine ab (fun g5=> ?_) (fun g5=> ?_)
 ·have e1:aG l m=gh l m.tc:=by simp[aG,g5]
  have e2:bB m=IY m.tc:=by simp[bB,g5]
  rw[e1,e2]
  simp(disch:=omega) [g5,VY]
  cases hp:gh l m.tc
  ·refine ay ((nZ l b m.tc hw.tc (by omega)).re (b5 hp)) ?_ (ha:=by first|rfl|(simp[aB.c,Tc.c,VY] <;>repeat' constructor))
   simp(disch:=omega) [aU,g5,VY]
  ·refine ay ((nZ l b m.tc hw.tc (by omega)).re (bq hp)) ?_ (ha:=by first|rfl|(simp[aB.c,Tc.c,VY] <;>repeat' constructor))
   simp(disch:=omega) [aU,g5,VY]
 simp(disch:=omega) [g5,VY]
 refine ab (fun g6=> ?_) (fun g6=> ?_)
 ·have e1:aG l m=cJ l m.proof:=by simp[aG,g6]
  have e2:bB m=kN m.proof:=by simp[bB,g6]
  rw[e1,e2]
  simp(disch:=omega) [g6,VY]
  cases hp:cJ l m.proof
  ·refine ay ((iT l b m.proof hw.proof (by omega)).re (b5 hp)) ?_ (ha:=by first|rfl|(simp[aB.c,Proof.c,VY] <;>repeat' constructor))
   simp(disch:=omega) [aU,g6,VY]
  ·refine ay ((iT l b m.proof hw.proof (by omega)).re (bq hp)) ?_ (ha:=by first|rfl|(simp[aB.c,Proof.c,VY] <;>repeat' constructor))
   simp(disch:=omega) [aU,g6,VY]
 simp(disch:=omega) [g6,VY]
 have g7:m.kind=7:=by omega
 have e1:aG l m=eP l m.incl:=by simp[aG,g7]
 have e2:bB m=td m.incl:=by simp[bB,g7]
 rw[e1,e2]
 cases hp:eP l m.incl
 ·refine ay ((jR l b m.incl hw.incl hw.tx (by omega)).re (b5 hp)) ?_ (ha:=by first|rfl|(simp[aB.c,bg.c,VY] <;>repeat' constructor))
  simp(disch:=omega) [aU,g7,VY]
 ·refine ay ((jR l b m.incl hw.incl hw.tx (by omega)).re (bq hp)) ?_ (ha:=by first|rfl|(simp[aB.c,bg.c,VY] <;>repeat' constructor))
  simp(disch:=omega) [aU,g7,VY]
theorem Dz {m:aY} (h:m.kind=1):cm m= {dR with kind:=1,vote:=m.vote}:=by simp[cm,h]
theorem Dg {m:aY} (h:m.kind=2):cm m= {dR with kind:=2,qc:=m.qc}:=by simp[cm,h]
theorem De {m:aY} (h:m.kind=3):cm m= {dR with kind:=3,head:=m.head}:=by simp[cm,h]
theorem C7 {m:aY} (h:m.kind=4):cm m= {dR with kind:=4,block:=m.block}:=by simp[cm,h]
theorem Dl {m:aY} (h:m.kind=5):cm m= {dR with kind:=5,tc:=m.tc}:=by simp[cm,h]
theorem Db {m:aY} (h:m.kind=6):cm m= {dR with kind:=6,proof:=m.proof}:=by simp[cm,h]
theorem Dh {m:aY} (h:m.kind=7):cm m= {dR with kind:=7,incl:=m.incl}:=by simp[cm,h]
theorem AL {m:aY} (hw:m.wc):(cm m).wc:=by
 unfold cm
 repeat' split
 ·exact {gH with kind:=by simp only[iq];omega,vote:=hw.vote}
 ·exact {gH with kind:=by simp only[iq];omega,qc:=hw.qc}
 ·exact {gH with kind:=by simp only[iq];omega,head:=hw.head}
 ·exact {gH with kind:=by simp only[iq];omega,block:=hw.block}
 ·exact {gH with kind:=by simp only[iq];omega,tc:=hw.tc}
 ·exact {gH with kind:=by simp only[iq];omega,proof:=hw.proof}
 ·exact {gH with kind:=by simp only[iq];omega,incl:=hw.incl,tx:=hw.tx}
 ·exact gH
abbrev qB:Nat:=33
def qQ:AF:=⟨2,5,[.tmp 4],(.seq (.ops [.i (.lbox 2 (.s 0)), .i (.lbox 3 (.s 1)), .i (.mov 4 (qb false))]) (.seq (.ops [ql 8 3 3 45 true,ql 9 2 2 5 true, .i (.call 11 97 false [(.s 8),(.s 9),(.c (.val false [.nils]))]),qm 7 10, .i (.ext 11 (.s 7) 0), .i (.ext 12 (.s 7) 1),qm 5 11,qm 6 12]) (.seq (.ops [qm 13 6,qm 14 13, .g 14 true 16 (.ldl 15 3 (.s 3) 45 true), .g 14 true 17 (.ldl 16 3 (.s 3) 45 true), .g 14 true 18 (.call 18 99 false [(.s 16)]), .g 14 true 19 (.call 19 98 false [(.s 15),(.s 17)]), .i (.pick 19 (.s 14) (.s 18) (qb false)),qm 4 19]) .ret)))⟩
theorem y3:cd qB=some qQ:=by kernel_rfl
theorem xI (l:aB) (m:aY) (hw:m.wc):VC cd qB (aJ [(true,l.c),(true,m.c)]) (fun rs _=>rs=bl (bx l m)):=by
 have hx:=AL hw
 refine aa y3 rfl ?_
 simp(disch:=omega) [qQ,aY.c,aB.c,VY]
 cases hp:aG l m with
 |false=>
  refine ay ((lO l [] m hw (by simp)).re (b5 hp)) ?_ (ha:=by first|rfl|(simp[aY.c,aB.c,aE,VY] <;>repeat' constructor))
  simp(disch:=omega) [bx,hp,VY]
 |true=>
  have e0:([]:Bytes)++bB m=bB m:=rfl
  refine ay ((lO l [] m hw (by simp)).re (bq hp)) ?_ (ha:=by first|rfl|(simp[aY.c,aB.c,aE,VY] <;>repeat' constructor))
  simp(disch:=omega) [VY]
  rcases gm hp with hk|hk|hk|hk|hk|hk|hk
  ·refine ay (zC m hw hk) ?_ (ha:=by first|rfl|(simp[aY.c,VY] <;>repeat' constructor))
   simp(disch:=omega) [eR,VY]
   refine ay (bU m (cm m) hw hx) ?_ (ha:=by first|rfl|(simp[aY.c,Dz hk,dR,fq,AG,fb,dz,Cj,dE,fv,aE,show cC []= []from rfl,show f4 []= []from rfl,show kD []= []from rfl,VY] <;>repeat' constructor))
   simp(disch:=omega) [bx,hp,VY]
  ·refine ay (At m hw hk) ?_ (ha:=by first|rfl|(simp[aY.c,VY] <;>repeat' constructor))
   simp(disch:=omega) [pA,VY]
   refine ay (bU m (cm m) hw hx) ?_ (ha:=by first|rfl|(simp[aY.c,Dg hk,dR,fq,AG,fb,dz,Cj,dE,fv,aE,show cC []= []from rfl,show f4 []= []from rfl,show kD []= []from rfl,VY] <;>repeat' constructor))
   simp(disch:=omega) [bx,hp,VY]
  ·refine ay (zY m hw hk) ?_ (ha:=by first|rfl|(simp[aY.c,VY] <;>repeat' constructor))
   simp(disch:=omega) [eU,VY]
   refine ay (bU m (cm m) hw hx) ?_ (ha:=by first|rfl|(simp[aY.c,De hk,dR,fq,AG,fb,dz,Cj,dE,fv,aE,show cC []= []from rfl,show f4 []= []from rfl,show kD []= []from rfl,VY] <;>repeat' constructor))
   simp(disch:=omega) [bx,hp,VY]
  ·refine ay (As m hw hk) ?_ (ha:=by first|rfl|(simp[aY.c,VY] <;>repeat' constructor))
   simp(disch:=omega) [dH,VY]
   refine ay (bU m (cm m) hw hx) ?_ (ha:=by first|rfl|(simp[aY.c,C7 hk,dR,fq,AG,fb,dz,Cj,dE,fv,aE,show cC []= []from rfl,show f4 []= []from rfl,show kD []= []from rfl,VY] <;>repeat' constructor))
   simp(disch:=omega) [bx,hp,VY]
  ·refine ay (zx m hw hk) ?_ (ha:=by first|rfl|(simp[aY.c,VY] <;>repeat' constructor))
   simp(disch:=omega) [oO,VY]
   refine ay (bU m (cm m) hw hx) ?_ (ha:=by first|rfl|(simp[aY.c,Dl hk,dR,fq,AG,fb,dz,Cj,dE,fv,aE,show cC []= []from rfl,show f4 []= []from rfl,show kD []= []from rfl,VY] <;>repeat' constructor))
   simp(disch:=omega) [bx,hp,VY]
  ·refine ay (zf m hw hk) ?_ (ha:=by first|rfl|(simp[aY.c,VY] <;>repeat' constructor))
   simp(disch:=omega) [dJ,VY]
   refine ay (bU m (cm m) hw hx) ?_ (ha:=by first|rfl|(simp[aY.c,Db hk,dR,fq,AG,fb,dz,Cj,dE,fv,aE,show cC []= []from rfl,show f4 []= []from rfl,show kD []= []from rfl,VY] <;>repeat' constructor))
   simp(disch:=omega) [bx,hp,VY]
  ·refine ay (zP m hw hk) ?_ (ha:=by first|rfl|(simp[aY.c,VY] <;>repeat' constructor))
   simp(disch:=omega) [eV,VY]
   refine ay (bU m (cm m) hw hx) ?_ (ha:=by first|rfl|(simp[aY.c,Dh hk,dR,fq,AG,fb,dz,Cj,dE,fv,aE,show cC []= []from rfl,show f4 []= []from rfl,show kD []= []from rfl,VY] <;>repeat' constructor))
   simp(disch:=omega) [bx,hp,VY]
abbrev mQ:Nat:=86
def my:AF:=⟨1,3,[.tmp 2],(.seq (.ops [.i (.mov 2 (qb false))]) (.seq (.ops [qm 3 0, .i (.call 5 152 false [(.s 3),(qi 1),(qi 7)]),qm 2 4]) .ret))⟩
theorem vE:cd mQ=some my:=by kernel_rfl
theorem CB (k:Int):VC cd mQ (aJ [(false,[.int .i64 k])]) (fun rs _=>rs=bl (eA k 1 7)):=by
 refine aa vE rfl ?_
 simp(disch:=omega) [my,VY]
 refine ay (bS k 1 7) ?_
 simp(disch:=omega) [VY]
abbrev rB:Nat:=30
def rb:AF:=⟨2,5,[.tmp 4],(.seq (.ops [.i (.lbox 2 (.s 0)), .i (.lbox 3 (.s 1)), .i (.mov 4 (qb false))]) (.seq (.seq (.ops [qf 7 3 0,ql 8 3 7 1 false,qk 10 86 8, .i (.not 10 (.s 9)),qm 11 10, .g 11 false 13 (.ldl 12 3 (.s 3) 45 true), .g 11 false 14 (.ldl 13 3 (.s 3) 45 true), .g 11 false 15 (.call 15 88 false [(.s 13)]), .g 11 false 16 (.call 16 87 false [(.s 12),(.s 14)]), .g 11 false 17 (.not 16 (.s 15)), .i (.pick 17 (.s 11) (qb true) (.s 16))]) (.cond (.s 17) (.seq (.ops [.i (.mov 4 (qb false))]) .ret) .skip)) (.seq (.ops [ql 19 2 2 5 true,ql 20 3 3 45 true, .i (.call 22 89 false [(.s 19),(.c (.val false [.nils])),(.s 20)]),qm 18 21, .i (.ext 22 (.s 18) 0), .i (.ext 23 (.s 18) 1),qm 5 22,qm 6 23]) (.seq (.ops [qm 24 6,qm 4 24]) .ret))))⟩
theorem yZ:cd rB=some rb:=by kernel_rfl
theorem ye (l:aB) (m:aY) (hw:m.wc):VC cd rB (aJ [(true,l.c),(true,m.c)]) (fun rs _=>rs=bl (bx l m)):=by
 have hx:=AL hw
 refine aa yZ rfl ?_
 simp(disch:=omega) [rb,aY.c,aB.c,VY]
 refine ay (CB m.kind) ?_
 simp(disch:=omega) [VY]
 refine ak (fun h1=> ?_) (fun h1=> ?_)
 case refine_2=>
  have e1:aG l m=false:=by
   cases hp:aG l m with
   |false=>rfl
   |true=>rcases gm hp with hk|hk|hk|hk|hk|hk|hk <;>(rw[hk]at h1;cases h1)
  simp(disch:=omega) [h1,bx,e1,VY]
 simp(disch:=omega) [h1,VY]
 have hk2:=dq h1
 have hk3:m.kind=1∨m.kind=2∨m.kind=3∨m.kind=4∨m.kind=5∨m.kind=6∨m.kind=7:=by omega
 rcases hk3 with hk|hk|hk|hk|hk|hk|hk
 ·refine ay (y0 m hw hk) ?_ (ha:=by first|rfl|(simp[aY.c,VY] <;>repeat' constructor))
  simp(disch:=omega) [eR,h1,VY]
  refine ay (bV m (cm m) hw hx) ?_ (ha:=by first|rfl|(simp[aY.c,Dz hk,dR,fq,AG,fb,dz,Cj,dE,fv,aE,show cC []= []from rfl,show f4 []= []from rfl,show kD []= []from rfl,VY] <;>repeat' constructor))
  simp(disch:=omega) [h1,VY]
  refine ak (fun h2=> ?_) (fun h2=> ?_)
  case refine_2=>simp(disch:=omega) [h1,h2,bx,VY]
  simp(disch:=omega) [h1,h2,VY]
  cases hp:aG l m
  ·refine ay ((a9 l [] m hw h1 (by simp)).re (b5 hp)) ?_ (ha:=by first|rfl|(simp[aY.c,aB.c,aE,VY] <;>repeat' constructor))
   simp(disch:=omega) [bx,hp,h2,VY]
  ·refine ay ((a9 l [] m hw h1 (by simp)).re (bq hp)) ?_ (ha:=by first|rfl|(simp[aY.c,aB.c,aE,VY] <;>repeat' constructor))
   simp(disch:=omega) [bx,hp,h2,VY]
 ·refine ay (zJ m hw hk) ?_ (ha:=by first|rfl|(simp[aY.c,VY] <;>repeat' constructor))
  simp(disch:=omega) [pA,h1,VY]
  refine ay (bV m (cm m) hw hx) ?_ (ha:=by first|rfl|(simp[aY.c,Dg hk,dR,fq,AG,fb,dz,Cj,dE,fv,aE,show cC []= []from rfl,show f4 []= []from rfl,show kD []= []from rfl,VY] <;>repeat' constructor))
  simp(disch:=omega) [h1,VY]
  refine ak (fun h2=> ?_) (fun h2=> ?_)
  case refine_2=>simp(disch:=omega) [h1,h2,bx,VY]
  simp(disch:=omega) [h1,h2,VY]
  cases hp:aG l m
  ·refine ay ((a9 l [] m hw h1 (by simp)).re (b5 hp)) ?_ (ha:=by first|rfl|(simp[aY.c,aB.c,aE,VY] <;>repeat' constructor))
   simp(disch:=omega) [bx,hp,h2,VY]
  ·refine ay ((a9 l [] m hw h1 (by simp)).re (bq hp)) ?_ (ha:=by first|rfl|(simp[aY.c,aB.c,aE,VY] <;>repeat' constructor))
   simp(disch:=omega) [bx,hp,h2,VY]
 ·refine ay (zk m hw hk) ?_ (ha:=by first|rfl|(simp[aY.c,VY] <;>repeat' constructor))
  simp(disch:=omega) [eU,h1,VY]
  refine ay (bV m (cm m) hw hx) ?_ (ha:=by first|rfl|(simp[aY.c,De hk,dR,fq,AG,fb,dz,Cj,dE,fv,aE,show cC []= []from rfl,show f4 []= []from rfl,show kD []= []from rfl,VY] <;>repeat' constructor))
  simp(disch:=omega) [h1,VY]
  refine ak (fun h2=> ?_) (fun h2=> ?_)
  case refine_2=>simp(disch:=omega) [h1,h2,bx,VY]
  simp(disch:=omega) [h1,h2,VY]
  cases hp:aG l m
  ·refine ay ((a9 l [] m hw h1 (by simp)).re (b5 hp)) ?_ (ha:=by first|rfl|(simp[aY.c,aB.c,aE,VY] <;>repeat' constructor))
   simp(disch:=omega) [bx,hp,h2,VY]
  ·refine ay ((a9 l [] m hw h1 (by simp)).re (bq hp)) ?_ (ha:=by first|rfl|(simp[aY.c,aB.c,aE,VY] <;>repeat' constructor))
   simp(disch:=omega) [bx,hp,h2,VY]
 ·refine ay (zT m hw hk) ?_ (ha:=by first|rfl|(simp[aY.c,VY] <;>repeat' constructor))
  simp(disch:=omega) [dH,h1,VY]
  refine ay (bV m (cm m) hw hx) ?_ (ha:=by first|rfl|(simp[aY.c,C7 hk,dR,fq,AG,fb,dz,Cj,dE,fv,aE,show cC []= []from rfl,show f4 []= []from rfl,show kD []= []from rfl,VY] <;>repeat' constructor))
  simp(disch:=omega) [h1,VY]
  refine ak (fun h2=> ?_) (fun h2=> ?_)
  case refine_2=>simp(disch:=omega) [h1,h2,bx,VY]
  simp(disch:=omega) [h1,h2,VY]
  cases hp:aG l m
  ·refine ay ((a9 l [] m hw h1 (by simp)).re (b5 hp)) ?_ (ha:=by first|rfl|(simp[aY.c,aB.c,aE,VY] <;>repeat' constructor))
   simp(disch:=omega) [bx,hp,h2,VY]
  ·refine ay ((a9 l [] m hw h1 (by simp)).re (bq hp)) ?_ (ha:=by first|rfl|(simp[aY.c,aB.c,aE,VY] <;>repeat' constructor))
   simp(disch:=omega) [bx,hp,h2,VY]
 ·refine ay (Ak m hw hk) ?_ (ha:=by first|rfl|(simp[aY.c,VY] <;>repeat' constructor))
  simp(disch:=omega) [oO,h1,VY]
  refine ay (bV m (cm m) hw hx) ?_ (ha:=by first|rfl|(simp[aY.c,Dl hk,dR,fq,AG,fb,dz,Cj,dE,fv,aE,show cC []= []from rfl,show f4 []= []from rfl,show kD []= []from rfl,VY] <;>repeat' constructor))
  simp(disch:=omega) [h1,VY]
  refine ak (fun h2=> ?_) (fun h2=> ?_)
  case refine_2=>simp(disch:=omega) [h1,h2,bx,VY]
  simp(disch:=omega) [h1,h2,VY]
  cases hp:aG l m
  ·refine ay ((a9 l [] m hw h1 (by simp)).re (b5 hp)) ?_ (ha:=by first|rfl|(simp[aY.c,aB.c,aE,VY] <;>repeat' constructor))
   simp(disch:=omega) [bx,hp,h2,VY]
  ·refine ay ((a9 l [] m hw h1 (by simp)).re (bq hp)) ?_ (ha:=by first|rfl|(simp[aY.c,aB.c,aE,VY] <;>repeat' constructor))
   simp(disch:=omega) [bx,hp,h2,VY]
 ·refine ay (zp m hw hk) ?_ (ha:=by first|rfl|(simp[aY.c,VY] <;>repeat' constructor))
  simp(disch:=omega) [dJ,h1,VY]
  refine ay (bV m (cm m) hw hx) ?_ (ha:=by first|rfl|(simp[aY.c,Db hk,dR,fq,AG,fb,dz,Cj,dE,fv,aE,show cC []= []from rfl,show f4 []= []from rfl,show kD []= []from rfl,VY] <;>repeat' constructor))
  simp(disch:=omega) [h1,VY]
  refine ak (fun h2=> ?_) (fun h2=> ?_)
  case refine_2=>simp(disch:=omega) [h1,h2,bx,VY]
  simp(disch:=omega) [h1,h2,VY]
  cases hp:aG l m
  ·refine ay ((a9 l [] m hw h1 (by simp)).re (b5 hp)) ?_ (ha:=by first|rfl|(simp[aY.c,aB.c,aE,VY] <;>repeat' constructor))
   simp(disch:=omega) [bx,hp,h2,VY]
  ·refine ay ((a9 l [] m hw h1 (by simp)).re (bq hp)) ?_ (ha:=by first|rfl|(simp[aY.c,aB.c,aE,VY] <;>repeat' constructor))
   simp(disch:=omega) [bx,hp,h2,VY]
 ·refine ay (Ab m hw hk) ?_ (ha:=by first|rfl|(simp[aY.c,VY] <;>repeat' constructor))
  simp(disch:=omega) [eV,h1,VY]
  refine ay (bV m (cm m) hw hx) ?_ (ha:=by first|rfl|(simp[aY.c,Dh hk,dR,fq,AG,fb,dz,Cj,dE,fv,aE,show cC []= []from rfl,show f4 []= []from rfl,show kD []= []from rfl,VY] <;>repeat' constructor))
  simp(disch:=omega) [h1,VY]
  refine ak (fun h2=> ?_) (fun h2=> ?_)
  case refine_2=>simp(disch:=omega) [h1,h2,bx,VY]
  simp(disch:=omega) [h1,h2,VY]
  cases hp:aG l m
  ·refine ay ((a9 l [] m hw h1 (by simp)).re (b5 hp)) ?_ (ha:=by first|rfl|(simp[aY.c,aB.c,aE,VY] <;>repeat' constructor))
   simp(disch:=omega) [bx,hp,h2,VY]
  ·refine ay ((a9 l [] m hw h1 (by simp)).re (bq hp)) ?_ (ha:=by first|rfl|(simp[aY.c,aB.c,aE,VY] <;>repeat' constructor))
   simp(disch:=omega) [bx,hp,h2,VY]
end Go.Eng.F
namespace Go.Eng.F
open Go.Eng.U (yJ cp TLimits tn fM Hq dU tJ TMsg)
def bC.tv (x:bC):Tv:= .r [.i x.view, .i x.height,yW x.block, .i x.who,yW x.tag]
theorem bC.enc (x:bC):enc tn x.tv=x.c:=by simp only[bC.tv,dS,bH,ck,cT,dG,eT,eL,cZ,eX,bC.c,List.cons_append,List.nil_append,List.append_assoc]
theorem bC.ex {v:Tv} (h:aF tn v):∃x:bC,v=x.tv:=by
 obtain⟨vs,rfl,h⟩:=h.st
 obtain⟨v0,_,rfl,h0,h⟩:=h.step
 obtain⟨v1,_,rfl,h1,h⟩:=h.step
 obtain⟨v2,_,rfl,h2,h⟩:=h.step
 obtain⟨v3,_,rfl,h3,h⟩:=h.step
 obtain⟨v4,_,rfl,h4,h⟩:=h.step
 obtain rfl:=h.fin
 obtain⟨n0,rfl,_⟩:=h0.int
 obtain⟨n1,rfl,_⟩:=h1.int
 obtain⟨n2,rfl⟩:=f9 h2
 obtain⟨n3,rfl,_⟩:=h3.int
 obtain⟨n4,rfl⟩:=f9 h4
 exact⟨⟨n0,n1,n2,n3,n4⟩,rfl⟩
theorem bC.of {x:bC} (h:aF tn x.tv) (hw:wt x.tv≤1048576):x.wf:=by
 simp only[bC.tv,fc,cj]at h
 simp only[bC.tv,wt,cQ]at hw
 obtain⟨h0,h1,h2,h3,h4,_⟩:=h
 exact⟨du (ok_int.1 h0),du (ok_int.1 h1),oq (by omega),du (ok_int.1 h3),oq (by omega)⟩
def bg.tv (x:bg):Tv:= .r [.i x.height, .i x.n, .i x.idx,yW x.tx,rT x.path]
theorem bg.enc (x:bg):enc tJ x.tv=x.c:=by simp only[bg.tv,dS,bH,ck,cT,dG,eT,eL,cZ,eX,bg.c,List.cons_append,List.nil_append,List.append_assoc]
theorem bg.ex {v:Tv} (h:aF tJ v):∃x:bg,v=x.tv:=by
 obtain⟨vs,rfl,h⟩:=h.st
 obtain⟨v0,_,rfl,h0,h⟩:=h.step
 obtain⟨v1,_,rfl,h1,h⟩:=h.step
 obtain⟨v2,_,rfl,h2,h⟩:=h.step
 obtain⟨v3,_,rfl,h3,h⟩:=h.step
 obtain⟨v4,_,rfl,h4,h⟩:=h.step
 obtain rfl:=h.fin
 obtain⟨n0,rfl,_⟩:=h0.int
 obtain⟨n1,rfl,_⟩:=h1.int
 obtain⟨n2,rfl,_⟩:=h2.int
 obtain⟨n3,rfl⟩:=f9 h3
 obtain⟨n4,rfl⟩:=zG h4
 exact⟨⟨n0,n1,n2,n3,n4⟩,rfl⟩
theorem bg.of {x:bg} (h:aF tJ x.tv) (hw:wt x.tv≤1048576):x.wc:=by
 simp only[bg.tv,fc,cj]at h
 simp only[bg.tv,wt,cQ]at hw
 obtain⟨h0,h1,h2,h3,h4,_⟩:=h
 exact⟨du (ok_int.1 h0),du (ok_int.1 h1),du (ok_int.1 h2),oq (by omega),Co (by omega)⟩
def aY.tv (m:aY):Tv:= .r [.i m.kind,m.vote.tv,m.qc.tv,m.head.tv,m.block.tv,m.tc.tv,m.proof.tv,m.incl.tv]
theorem aY.enc (m:aY):enc TMsg m.tv=m.c:=by simp only[aY.tv,dS,bH,ck,cT,bC.enc,Qc.enc,Head.enc,Block.enc,Tc.enc,Proof.enc,bg.enc,aY.c,bC.c,Qc.c,Head.c,Block.c,Tc.c,Proof.c,bg.c,List.cons_append,List.nil_append,List.append_assoc,List.append_nil]
theorem aY.ex {v:Tv} (h:aF TMsg v):∃m:aY,v=m.tv:=by
 obtain⟨vs,rfl,h⟩:=h.st
 obtain⟨v0,_,rfl,h0,h⟩:=h.step
 obtain⟨v1,_,rfl,h1,h⟩:=h.step
 obtain⟨v2,_,rfl,h2,h⟩:=h.step
 obtain⟨v3,_,rfl,h3,h⟩:=h.step
 obtain⟨v4,_,rfl,h4,h⟩:=h.step
 obtain⟨v5,_,rfl,h5,h⟩:=h.step
 obtain⟨v6,_,rfl,h6,h⟩:=h.step
 obtain⟨v7,_,rfl,h7,h⟩:=h.step
 obtain rfl:=h.fin
 obtain⟨n0,rfl,_⟩:=h0.int
 obtain⟨n1,rfl⟩:=bC.ex h1
 obtain⟨n2,rfl⟩:=Qc.ex h2
 obtain⟨n3,rfl⟩:=Head.ex h3
 obtain⟨n4,rfl⟩:=Block.ex h4
 obtain⟨n5,rfl⟩:=Tc.ex h5
 obtain⟨n6,rfl⟩:=Proof.ex h6
 obtain⟨n7,rfl⟩:=bg.ex h7
 exact⟨⟨n0,n1,n2,n3,n4,n5,n6,n7⟩,rfl⟩
theorem aY.of {m:aY} (h:aF TMsg m.tv) (hw:wt m.tv≤1048576):m.wc:=by
 simp only[aY.tv,fc,cj]at h
 simp only[aY.tv,wt,cQ]at hw
 obtain⟨h0,h1,h2,h3,h4,h5,h6,h7,_⟩:=h
 have hb:wt m.block.tv=wt m.block.head.tv+(wt (rT m.block.txs)+0):=by simp only[Block.tv,wt,cQ]
 have hi:wt m.incl.tv=0+(0+(0+(wt (yW m.incl.tx)+(wt (rT m.incl.path)+0)))):=by simp only[bg.tv,wt,cQ]
 refine⟨du (ok_int.1 h0),bC.of h1 (by omega),Qc.of h2 (by omega),Head.of h3 (by omega),⟨Block.of h4 (by omega),fun t ht=> ?_⟩,Tc.of h5 (by omega),Proof.LZ h6 (by omega),bg.of h7 (by omega),?_⟩
 ·have:=(GG m.block.txs).2 t ht
  omega
 ·rw[FG]at hi
  omega
end Go.Eng.F
namespace Go.Eng.F
open Go.Eng.U (cp TLimits TMsg)
def oo (m:aY):UInt8:=UInt8.ofNat m.kind.toNat
theorem pS {l:aB} {m:aY} (h:bx l m=true):aG l m=true:=by
 simp only[bx,Bool.and_eq_true]at h
 exact h.1
theorem xd {l:aB} {m:aY} (h:aG l m=true):IntKind.u8.wrap m.kind=((oo m).toNat:Int):=by
 have h1:=gm h
 obtain⟨k,hk⟩:∃k:Nat,m.kind=(k:Int):=⟨m.kind.toNat,by omega⟩
 unfold oo
 rw[hk]
 exact Ks (by omega)
abbrev oT:Nat:=38
def ph:AF:=⟨2,5,[.tmp 4, .tmp 5],(.seq (.ops [.i (.lbox 2 (.s 0)), .i (.lbox 3 (.s 1)), .i (.mov 4 (.c (.val false [.nils]))), .i (.mov 5 (qb false))]) (.seq (.seq (.ops [ql 6 2 2 5 true,ql 7 3 3 45 true, .i (.call 9 33 false [(.s 6),(.s 7)]), .i (.not 9 (.s 8))]) (.cond (.s 9) (.seq (.ops [.i (.mov 4 (.c (.val false [.nils]))), .i (.mov 5 (qb false))]) .ret) .skip)) (.seq (.ops [ql 10 3 3 45 true,ql 11 2 2 5 true,qf 12 3 0,ql 13 3 12 1 false, .i (.cvi 14 .u8 (.s 13)), .i (.bsl 15 5 1 1 [.int .u8 0] [(0,1,(.s 14))]), .i (.call 17 97 false [(.s 10),(.s 11),(.s 15)]), .i (.ext 17 (.s 16) 0), .i (.ext 18 (.s 16) 1),qm 4 17,qm 5 18]) .ret)))⟩
theorem yg:cd oT=some ph:=by kernel_rfl
theorem kS (l:aB) (m:aY) (hw:m.wc):VC cd oT (aJ [(true,l.c),(true,m.c)]) (fun rs _=>rs=aU (bx l m) (oo m::bB m)):=by
 have e0: [[D.int .u8 ((oo m).toNat:Int)]]=bytes [oo m]:=rfl
 refine aa yg rfl ?_
 simp(disch:=omega) [ph,aB.c,aY.c,VY]
 refine ay (xI l m hw) ?_ (ha:=by first|rfl|(simp[aB.c,aY.c,VY] <;>repeat' constructor))
 simp(disch:=omega) [VY]
 refine ak (fun h1=> ?_) (fun h1=> ?_)
 case refine_2=>simp(disch:=omega) [h1,aU,VY]
 have hp:=pS h1
 simp(disch:=omega) [h1,xd hp,e0,VY]
 refine ay ((lO l [oo m] m hw (by simp)).re (bq hp)) ?_ (ha:=by first|rfl|(simp[aB.c,aY.c,VY] <;>repeat' constructor))
 simp(disch:=omega) [h1,aU,VY]
abbrev pk:Nat:=37
def pa:AF:=⟨2,5,[.tmp 4, .tmp 5],(.seq (.ops [.i (.lbox 2 (.s 0)), .i (.lbox 3 (.s 1)), .i (.mov 4 (.c (.val false [.nils]))), .i (.mov 5 (qb false))]) (.seq (.seq (.ops [ql 6 2 2 5 true,ql 7 3 3 45 true, .i (.call 9 30 false [(.s 6),(.s 7)]), .i (.not 9 (.s 8))]) (.cond (.s 9) (.seq (.ops [.i (.mov 4 (.c (.val false [.nils]))), .i (.mov 5 (qb false))]) .ret) .skip)) (.seq (.ops [ql 10 2 2 5 true,qf 11 3 0,ql 12 3 11 1 false, .i (.cvi 13 .u8 (.s 12)), .i (.bsl 14 5 1 1 [.int .u8 0] [(0,1,(.s 13))]),ql 15 3 3 45 true, .i (.call 17 89 false [(.s 10),(.s 14),(.s 15)]), .i (.ext 17 (.s 16) 0), .i (.ext 18 (.s 16) 1),qm 4 17,qm 5 18]) .ret)))⟩
theorem xB:cd pk=some pa:=by kernel_rfl
theorem lD (l:aB) (m:aY) (hw:m.wc):VC cd pk (aJ [(true,l.c),(true,m.c)]) (fun rs _=>rs=aU (bx l m) (oo m::bB m)):=by
 have e0: [[D.int .u8 ((oo m).toNat:Int)]]=bytes [oo m]:=rfl
 refine aa xB rfl ?_
 simp(disch:=omega) [pa,aB.c,aY.c,VY]
 refine ay (ye l m hw) ?_ (ha:=by first|rfl|(simp[aB.c,aY.c,VY] <;>repeat' constructor))
 simp(disch:=omega) [VY]
 refine ak (fun h1=> ?_) (fun h1=> ?_)
 case refine_2=>simp(disch:=omega) [h1,aU,VY]
 have hp:=pS h1
 have hk:eA m.kind 1 7=true:=by
  have:=gm hp
  simp only[eA,decide_eq_true_eq]
  omega
 simp(disch:=omega) [h1,xd hp,e0,VY]
 refine ay ((a9 l [oo m] m hw hk (by simp)).re (bq hp)) ?_ (ha:=by first|rfl|(simp[aB.c,aY.c,VY] <;>repeat' constructor))
 simp(disch:=omega) [h1,aU,VY]
def ej (l:aB) (m:aY):Int:=if bx l m then((bB m).length:Int)+1 else 0
abbrev fJ:Nat:=36
def lp:AF:=⟨2,4,[.tmp 4],(.seq (.ops [.i (.lbox 2 (.s 0)), .i (.lbox 3 (.s 1)), .i (.mov 4 (qi 0))]) (.seq (.ops [ql 8 2 2 5 true,ql 9 3 3 45 true, .i (.call 11 38 false [(.s 8),(.s 9)]),qm 7 10, .i (.ext 11 (.s 7) 0), .i (.ext 12 (.s 7) 1),qm 5 11,qm 6 12]) (.seq (.ops [qm 13 5,qn 14 13,qm 4 14]) .ret)))⟩
theorem vH:cd fJ=some lp:=by kernel_rfl
theorem uI (l:aB) (m:aY) (hw:m.wc):VC cd fJ (aJ [(true,l.c),(true,m.c)]) (fun rs _=>rs=it (ej l m)):=by
 refine aa vH rfl ?_
 simp(disch:=omega) [lp,aB.c,aY.c,VY]
 cases h1:bx l m with
 |false=>
  refine ay ((kS l m hw).re (b5 h1)) ?_ (ha:=by first|rfl|(simp[aB.c,aY.c,VY] <;>repeat' constructor))
  simp(disch:=omega) [ej,h1,VY]
 |true=>
  refine ay ((kS l m hw).re (bq h1)) ?_ (ha:=by first|rfl|(simp[aB.c,aY.c,VY] <;>repeat' constructor))
  simp(disch:=omega) [ej,h1,an,VY]
abbrev fW:Nat:=35
def kO:AF:=⟨2,4,[.tmp 4],(.seq (.ops [.i (.lbox 2 (.s 0)), .i (.lbox 3 (.s 1)), .i (.mov 4 (qi 0))]) (.seq (.ops [ql 8 2 2 5 true,ql 9 3 3 45 true, .i (.call 11 37 false [(.s 8),(.s 9)]),qm 7 10, .i (.ext 11 (.s 7) 0), .i (.ext 12 (.s 7) 1),qm 5 11,qm 6 12]) (.seq (.ops [qm 13 5,qn 14 13,qm 4 14]) .ret)))⟩
theorem vN:cd fW=some kO:=by kernel_rfl
theorem tT (l:aB) (m:aY) (hw:m.wc):VC cd fW (aJ [(true,l.c),(true,m.c)]) (fun rs _=>rs=it (ej l m)):=by
 refine aa vN rfl ?_
 simp(disch:=omega) [kO,aB.c,aY.c,VY]
 cases h1:bx l m with
 |false=>
  refine ay ((lD l m hw).re (b5 h1)) ?_ (ha:=by first|rfl|(simp[aB.c,aY.c,VY] <;>repeat' constructor))
  simp(disch:=omega) [ej,h1,VY]
 |true=>
  refine ay ((lD l m hw).re (bq h1)) ?_ (ha:=by first|rfl|(simp[aB.c,aY.c,VY] <;>repeat' constructor))
  simp(disch:=omega) [ej,h1,an,VY]
theorem Ei {l:aB} {m:aY} (h:aG l m=true):(bB m).length≤20000:=by
 unfold aG at h
 unfold bB
 split at h
 ·rename_i g;rw[if_pos g];have:=Hc (yY h);omega
 split at h
 ·rename_i g1 g;rw[if_neg g1,if_pos g];have:=AB (nv h);omega
 split at h
 ·rename_i g1 g2 g;rw[if_neg g1,if_neg g2,if_pos g];have:=fG (c9 h);omega
 split at h
 ·rename_i g1 g2 g3 g
  rw[if_neg g1,if_neg g2,if_neg g3,if_pos g]
  have k1:=fG (c9 (fB h))
  have k2:=mw h
  have k3:=je (kV h)
  have k4:=bD (n:=m.block.txs.length) (by omega)
  simp only[dg]at k3
  simp only[lK,List.length_append]
  omega
 split at h
 ·rename_i g1 g2 g3 g4 g
  rw[if_neg g1,if_neg g2,if_neg g3,if_neg g4,if_pos g]
  obtain⟨k1,k2,k3⟩:=vk h
  have k4:=nJ k3
  have k5:=aw k2
  have k6:=bD (n:=m.tc.entries.length) (by omega)
  simp only[e7]at k4
  simp only[IY,List.length_append]
  omega
 split at h
 ·rename_i g1 g2 g3 g4 g5 g
  rw[if_neg g1,if_neg g2,if_neg g3,if_neg g4,if_neg g5,if_pos g]
  obtain⟨k1,k2,k3⟩:=mF h
  have k4:=jb (fun e he=>c9 (k3 e he))
  have k5:=AB (nv k2)
  have k6:=bD (n:=m.proof.heads.length) (by omega)
  simp only[di]at k4
  simp only[kN,List.length_append]
  omega
 split at h
 ·rename_i g1 g2 g3 g4 g5 g6 g
  rw[if_neg g1,if_neg g2,if_neg g3,if_neg g4,if_neg g5,if_neg g6]
  obtain⟨k1,k2,k3,k4,k5,k6⟩:=pV h
  have v1:=aw k1
  have v2:=aw k2
  have v3:=aw k3
  have v4:=nO (x:=m.incl.tx) (by omega)
  have v5:=fH k6 (Nat.le_refl _)
  rw[List.take_length]at v5
  simp only[td,List.length_append]
  omega
 ·cases h
theorem Iy {n:Int} (h:iq n):I1 (it n) [(.int .i64, .i n)]:=⟨rfl,by simp only[cT,Av,D.leaf,and_self],I2 h,trivial⟩
theorem tA (l:aB) (m:aY):iq (ej l m):=by
 unfold ej
 split
 ·rename_i h
  have:=Ei (pS h)
  simp only[iq]
  omega
 ·simp only[iq];omega
theorem uX {h0:H} {l:aB} {m:aY} {ms:List (Bool×List C)} (ha:dm h0 [(TLimits,l.tv),(TMsg,m.tv)] ms) (hp1:wt m.tv≤1048576):
 WC cd fJ ms h0 (Mc h0 [(.int .i64, .i (ej l m))]):=by
 obtain⟨k0,mr0,ha0⟩:=dm.K9 ha
 obtain⟨k1,mr1,ha1⟩:=dm.K9 ha0
 have w1:=aY.of k1 hp1
 have hc:=uI l m w1
 have e:Ch [(TLimits,l.tv),(TMsg,m.tv)]= [(true,l.c),(true,m.c)]:=by simp only[Ch,List.map,aB.enc,Head.enc,Qc.enc,cZ,eL,cT,dG,eT,nz,aY.enc,Ty.agg]
 rw[←e]at hc
 exact hc.wc ha fun rs q=>by rw[q];exact Iy (tA l m)
theorem uS {h0:H} {l:aB} {m:aY} {ms:List (Bool×List C)} (ha:dm h0 [(TLimits,l.tv),(TMsg,m.tv)] ms) (hp1:wt m.tv≤1048576):
 WC cd fW ms h0 (Mc h0 [(.int .i64, .i (ej l m))]):=by
 obtain⟨k0,mr0,ha0⟩:=dm.K9 ha
 obtain⟨k1,mr1,ha1⟩:=dm.K9 ha0
 have w1:=aY.of k1 hp1
 have hc:=tT l m w1
 have e:Ch [(TLimits,l.tv),(TMsg,m.tv)]= [(true,l.c),(true,m.c)]:=by simp only[Ch,List.map,aB.enc,Head.enc,Qc.enc,cZ,eL,cT,dG,eT,nz,aY.enc,Ty.agg]
 rw[←e]at hc
 exact hc.wc ha fun rs q=>by rw[q];exact Iy (tA l m)
end Go.Eng.F
