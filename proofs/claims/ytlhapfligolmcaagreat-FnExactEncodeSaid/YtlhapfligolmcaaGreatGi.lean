import Derived.Test.YtlhapfligolmcaaGreatGh
set_option maxRecDepth 100000
set_option linter.unusedSimpArgs false
set_option linter.unusedVariables false
namespace Go.Eng.F
def ku (x:Bytes):Bytes:=aW x.length++x
abbrev ny:Nat:=245
def nL:AF:=⟨2,5,[.tmp 4],(.seq (.ops [.i (.mov 4 (.c (.val false [.nils])))]) (.seq (.ops [qm 8 0,qm 9 1,qn 10 9, .i (.call 12 278 false [(.s 8),(.s 10)]),qm 7 11, .i (.ext 12 (.s 7) 0), .i (.ext 13 (.s 7) 1),qm 5 12,qm 6 13]) (.seq (.ops [qm 14 5,qm 15 1, .i (.app 16 5 1 1 (.s 14) (.s 15)),qm 4 16]) .ret)))⟩
theorem xF:cd ny=some nL:=by kernel_rfl
theorem kv (b x:Bytes) (hb:b.length≤900000000) (hx:x.length≤100000000):VC cd ny (aO [(false,[.sl (bytes b)]),(false,[.sl (bytes x)])]) (fun rs _=>rs= [(false,[.o true (some (5,1)) (bytes (b++ku x))])]):=by
 have h1:=bP (n:=x.length) (by omega)
 refine aa xF rfl ?_
 simp(disch:=omega) [nL,an,VY]
 refine aB (qy b x.length (by omega) (by omega)) ?_
 simp(disch:=omega) [an,db,VY]
 simp(disch:=omega) [ku,VY]
abbrev my:Nat:=235
def lS:AF:=⟨2,5,[.tmp 4],(.seq (.ops [.i (.mov 4 (.c (.val false [.nils])))]) (.seq (.ops [qm 8 0,qm 9 1,qn 10 9, .i (.call 12 274 false [(.s 8),(.s 10)]),qm 7 11, .i (.ext 12 (.s 7) 0), .i (.ext 13 (.s 7) 1),qm 5 12,qm 6 13]) (.seq (.ops [qm 14 5,qm 15 1, .i (.app 16 5 1 1 (.s 14) (.s 15)),qm 4 16]) .ret)))⟩
theorem yt:cd my=some lS:=by kernel_rfl
theorem kW (b x:Bytes) (hb:b.length≤900000000) (hx:x.length≤100000000):VC cd my (aO [(false,[.sl (bytes b)]),(false,[.sl (bytes x)])]) (fun rs _=>rs= [(false,[.o true (some (5,1)) (bytes (b++ku x))])]):=by
 have h1:=bP (n:=x.length) (by omega)
 refine aa yt rfl ?_
 simp(disch:=omega) [lS,an,VY]
 refine aB (qo b x.length (by omega) (by omega)) ?_
 simp(disch:=omega) [an,db,VY]
 simp(disch:=omega) [ku,VY]
def sS (l:aF) (v:bK):Bool:=l.ok && isNum v.view && isNum v.height && hash v.block && hash v.tag && eW v.who 0 (l.n - 1)
def IX (v:bK):Bytes:=aW v.view.toNat++(aW v.height.toNat++(v.block++(aW v.who.toNat++v.tag)))
structure Mq (v:bK):Prop where
 view:isNum v.view=true
 height:isNum v.height=true
 block:v.block.length=32
 who:isNum v.who=true
 tag:v.tag.length=32
theorem zX {l:aF} {v:bK} (h:sS l v=true):Mq v:=by
 simp only[sS,Bool.and_eq_true]at h
 have h1:=iD h.1.1.1.1.1
 have h2:=j7 h.2
 exact⟨h.1.1.1.1.2,h.1.1.1.2,rD h.1.1.2,by simp[isNum,eW];omega,rD h.1.2⟩
theorem IQ {v:bK} (h:Mq v):(IX v).length≤100:=by
 have h1:=az h.view
 have h2:=az h.height
 have h3:=az h.who
 have h4:=h.block
 have h5:=h.tag
 simp only[IX,List.length_append]
 omega
abbrev pw:Nat:=240
def qg:AF:=⟨2,6,[.tmp 4],(.seq (.ops [.i (.lbox 2 (.s 0)), .i (.lbox 3 (.s 1)), .i (.mov 4 (qb false))]) (.seq (.ops [ql 5 2 2 5 true,qk 7 134 5,qm 7 6, .g 7 true 9 (.fad 8 (.s 3) 0), .g 7 true 10 (.ldl 9 3 (.s 8) 1 false), .g 7 true 11 (.call 11 213 false [(.s 9)]), .i (.pick 11 (.s 7) (.s 10) (qb false)),qm 12 11, .g 12 true 14 (.fad 13 (.s 3) 1), .g 12 true 15 (.ldl 14 3 (.s 13) 1 false), .g 12 true 16 (.call 16 213 false [(.s 14)]), .i (.pick 16 (.s 12) (.s 15) (qb false)),qm 17 16, .g 17 true 19 (.fad 18 (.s 3) 2), .g 17 true 20 (.ldl 19 3 (.s 18) 1 false), .g 17 true 21 (.fad 20 (.s 3) 4), .g 17 true 22 (.ldl 21 3 (.s 20) 1 false), .g 17 true 23 (.bsl 22 22 1 2 [.nils] [(0,1,(.s 19)),(1,1,(.s 21))]), .g 17 true 24 (.call 24 214 false [(.s 22)]), .i (.pick 24 (.s 17) (.s 23) (qb false)),qm 25 24, .g 25 true 27 (.fad 26 (.s 3) 3), .g 25 true 28 (.ldl 27 3 (.s 26) 1 false), .g 25 true 29 (.fad 28 (.s 2) 0), .g 25 true 30 (.ldl 29 2 (.s 28) 1 false), .g 25 true 31 (.bin 30 .sub (.s 29) (qi 1)), .g 25 true 32 (.call 32 62 false [(.s 27),(qi 0),(.s 30)]), .i (.pick 32 (.s 25) (.s 31) (qb false)),qm 4 32]) .ret))⟩
theorem yF:cd pw=some qg:=by kernel_rfl
theorem xE (l:aF) (v:bK):VC cd pw (aO [(true,l.c),(true,v.c)]) (fun rs _=>rs=bl (sS l v)):=by
 refine aa yF rfl ?_
 simp(disch:=omega) [qg,aF.c,bK.c,VY]
 refine aB (df l) ?_ (ha:=by first|rfl|(simp[aF.c,VY] <;>repeat' constructor))
 simp(disch:=omega) [VY]
 refine ak (fun h1=> ?_) (fun h1=> ?_) <;>simp(disch:=omega) [h1,sS,VY]
 have hn:=iD h1
 refine aB (eS v.view) ?_
 simp(disch:=omega) [h1,VY]
 refine ak (fun h2=> ?_) (fun h2=> ?_) <;>simp(disch:=omega) [h1,h2,VY]
 refine aB (eS v.height) ?_
 simp(disch:=omega) [h1,h2,VY]
 refine ak (fun h3=> ?_) (fun h3=> ?_) <;>simp(disch:=omega) [h1,h2,h3,VY]
 refine aB (cu [v.block,v.tag] (by simp)) ?_ (ha:=by first|rfl|(simp[cX,VY] <;>repeat' constructor))
 simp(disch:=omega) [h1,h2,h3,qP,VY]
 refine ak (fun h4=> ?_) (fun h4=> ?_)
 ·have h5:hash v.block=true∧hash v.tag=true:=by simpa using h4
  simp(disch:=omega) [h1,h2,h3,h5.1,h5.2,VY]
  refine aB (aX v.who 0 (l.n - 1)) ?_
  simp(disch:=omega) [h1,h2,h3,h5.1,h5.2,VY]
 ·simp(disch:=omega) [h1,h2,h3,h4,VY]
abbrev pJ:Nat:=232
def pD:AF:=⟨2,6,[.tmp 4],(.seq (.ops [.i (.lbox 2 (.s 0)), .i (.lbox 3 (.s 1)), .i (.mov 4 (qb false))]) (.seq (.ops [ql 5 2 2 5 true,qk 7 142 5,qm 7 6, .g 7 true 9 (.fad 8 (.s 3) 0), .g 7 true 10 (.ldl 9 3 (.s 8) 1 false), .g 7 true 11 (.call 11 201 false [(.s 9)]), .i (.pick 11 (.s 7) (.s 10) (qb false)),qm 12 11, .g 12 true 14 (.fad 13 (.s 3) 1), .g 12 true 15 (.ldl 14 3 (.s 13) 1 false), .g 12 true 16 (.call 16 201 false [(.s 14)]), .i (.pick 16 (.s 12) (.s 15) (qb false)),qm 17 16, .g 17 true 19 (.fad 18 (.s 3) 2), .g 17 true 20 (.ldl 19 3 (.s 18) 1 false), .g 17 true 21 (.call 21 202 false [(.s 19)]), .i (.pick 21 (.s 17) (.s 20) (qb false)),qm 22 21, .g 22 true 24 (.fad 23 (.s 3) 4), .g 22 true 25 (.ldl 24 3 (.s 23) 1 false), .g 22 true 26 (.call 26 202 false [(.s 24)]), .i (.pick 26 (.s 22) (.s 25) (qb false)),qm 27 26, .g 27 true 29 (.fad 28 (.s 3) 3), .g 27 true 30 (.ldl 29 3 (.s 28) 1 false), .g 27 true 31 (.fad 30 (.s 2) 0), .g 27 true 32 (.ldl 31 2 (.s 30) 1 false), .g 27 true 33 (.bin 32 .sub (.s 31) (qi 1)), .g 27 true 34 (.call 34 152 false [(.s 29),(qi 0),(.s 32)]), .i (.pick 34 (.s 27) (.s 33) (qb false)),qm 4 34]) .ret))⟩
theorem yL:cd pJ=some pD:=by kernel_rfl
theorem xQ (l:aF) (v:bK):VC cd pJ (aO [(true,l.c),(true,v.c)]) (fun rs _=>rs=bl (sS l v)):=by
 refine aa yL rfl ?_
 simp(disch:=omega) [pD,aF.c,bK.c,VY]
 refine aB (cB l) ?_ (ha:=by first|rfl|(simp[aF.c,VY] <;>repeat' constructor))
 simp(disch:=omega) [VY]
 refine ak (fun h1=> ?_) (fun h1=> ?_) <;>simp(disch:=omega) [h1,sS,VY]
 have hn:=iD h1
 refine aB (eB v.view) ?_
 simp(disch:=omega) [h1,VY]
 refine ak (fun h2=> ?_) (fun h2=> ?_) <;>simp(disch:=omega) [h1,h2,VY]
 refine aB (eB v.height) ?_
 simp(disch:=omega) [h1,h2,VY]
 refine ak (fun h3=> ?_) (fun h3=> ?_) <;>simp(disch:=omega) [h1,h2,h3,VY]
 refine aB (eo v.block) ?_
 simp(disch:=omega) [h1,h2,h3,VY]
 refine ak (fun h4=> ?_) (fun h4=> ?_) <;>simp(disch:=omega) [h1,h2,h3,h4,VY]
 refine aB (eo v.tag) ?_
 simp(disch:=omega) [h1,h2,h3,h4,VY]
 refine ak (fun h5=> ?_) (fun h5=> ?_) <;>simp(disch:=omega) [h1,h2,h3,h4,h5,VY]
 refine aB (cc v.who 0 (l.n - 1)) ?_
 simp(disch:=omega) [h1,h2,h3,h4,h5,VY]
abbrev lW:Nat:=177
def nP:AF:=⟨3,6,[.tmp 6, .tmp 7],(.seq (.ops [.i (.lbox 3 (.s 0)), .i (.lbox 5 (.s 2)), .i (.mov 6 (.c (.val false [.nils]))), .i (.mov 7 (qb false))]) (.seq (.seq (.ops [ql 9 3 3 5 true,ql 10 5 5 5 true, .i (.call 12 240 false [(.s 9),(.s 10)]), .i (.not 12 (.s 11))]) (.cond (.s 12) (.seq (.ops [.i (.mov 6 (.c (.val false [.nils]))), .i (.mov 7 (qb false))]) .ret) .skip)) (.seq (.ops [qm 13 1,qk 15 60 13, .i (.bld 15 [.nils] [(0,1,(.s 14))]), .i (.hbox 16 228 (.s 15)),qm 8 16]) (.seq (.ops [qm 17 8,qf 18 5 0,ql 19 5 18 1 false, .i (.call 21 241 false [(.s 17),(.s 19)])]) (.seq (.ops [qm 21 8,qf 22 5 1,ql 23 5 22 1 false, .i (.call 25 241 false [(.s 21),(.s 23)])]) (.seq (.ops [qm 25 8,qf 26 5 2,ql 27 5 26 1 false, .i (.call 29 242 false [(.s 25),(.s 27)])]) (.seq (.ops [qm 29 8,qf 30 5 3,ql 31 5 30 1 false, .i (.call 33 241 false [(.s 29),(.s 31)])]) (.seq (.ops [qm 33 8,qf 34 5 4,ql 35 5 34 1 false, .i (.call 37 242 false [(.s 33),(.s 35)])]) (.seq (.ops [qm 37 8, .i (.nch 38 (.s 37)),qf 39 38 0, .i (.ldh 40 (.s 39) 1 false),qm 6 40, .i (.mov 7 (qb true))]) .ret)))))))))⟩
theorem xB:cd lW=some nP:=by kernel_rfl
theorem jS (l:aF) (b:Bytes) (v:bK) (hb:b.length≤900000000):VC cd lW (aO [(true,l.c),(false,[.sl (bytes b)]),(true,v.c)]) (fun rs _=>rs=aY (sS l v) (b++IX v)):=by
 refine aa xB rfl ?_
 simp(disch:=omega) [nP,bK.c,aF.c,VY]
 refine aB (xE l v) ?_ (ha:=by first|rfl|(simp[bK.c,aF.c,VY] <;>repeat' constructor))
 simp(disch:=omega) [VY]
 refine ak (fun h0=> ?_) (fun h0=> ?_)
 case refine_2=>simp(disch:=omega) [h0,aY,VY]
 have hs:=zX h0
 have h1:=az hs.view
 have h2:=az hs.height
 have h3:=az hs.who
 have h4:=hs.block
 have h5:=hs.tag
 simp(disch:=omega) [h0,VY]
 refine ah (aR b (by omega)) rfl rfl ?_
 simp(disch:=omega) [VZ]
 refine pU (aK _ v.view hs.view ?_) ?_
 ·(try simp only[List.length_append]);omega
 simp(disch:=omega) [VZ]
 refine pU (aK _ v.height hs.height ?_) ?_
 ·(try simp only[List.length_append]);omega
 simp(disch:=omega) [VZ]
 refine pU (bU _ v.block (by omega) ?_) ?_
 ·(try simp only[List.length_append]);omega
 simp(disch:=omega) [VZ]
 refine pU (aK _ v.who hs.who ?_) ?_
 ·(try simp only[List.length_append]);omega
 simp(disch:=omega) [VZ]
 refine pU (bU _ v.tag (by omega) ?_) ?_
 ·(try simp only[List.length_append]);omega
 simp(disch:=omega) [aY,h0,IX,VZ]
abbrev ml:Nat:=167
def nz:AF:=⟨3,5,[.tmp 6, .tmp 7],(.seq (.ops [.i (.lbox 3 (.s 0)), .i (.lbox 5 (.s 2)), .i (.mov 6 (.c (.val false [.nils]))), .i (.mov 7 (qb false))]) (.seq (.seq (.ops [ql 9 3 3 5 true,ql 10 5 5 5 true, .i (.call 12 232 false [(.s 9),(.s 10)]), .i (.not 12 (.s 11))]) (.cond (.s 12) (.seq (.ops [.i (.mov 6 (.c (.val false [.nils]))), .i (.mov 7 (qb false))]) .ret) .skip)) (.seq (.ops [qm 13 1,qf 14 5 0,ql 15 5 14 1 false, .i (.call 17 233 false [(.s 13),(.s 15)]),qf 17 5 1,ql 18 5 17 1 false, .i (.call 20 233 false [(.s 16),(.s 18)]),qf 20 5 2,ql 21 5 20 1 false, .i (.app 22 5 1 1 (.s 19) (.s 21)),qm 8 22]) (.seq (.ops [qm 23 8,qf 24 5 3,ql 25 5 24 1 false, .i (.call 27 233 false [(.s 23),(.s 25)]),qf 27 5 4,ql 28 5 27 1 false, .i (.app 29 5 1 1 (.s 26) (.s 28)),qm 6 29, .i (.mov 7 (qb true))]) .ret))))⟩
theorem yq:cd ml=some nz:=by kernel_rfl
theorem kZ (l:aF) (b:Bytes) (v:bK) (hb:b.length≤900000000):VC cd ml (aO [(true,l.c),(false,[.sl (bytes b)]),(true,v.c)]) (fun rs _=>rs=aY (sS l v) (b++IX v)):=by
 refine aa yq rfl ?_
 simp(disch:=omega) [nz,bK.c,aF.c,VY]
 refine aB (xQ l v) ?_ (ha:=by first|rfl|(simp[bK.c,aF.c,VY] <;>repeat' constructor))
 simp(disch:=omega) [VY]
 refine ak (fun h0=> ?_) (fun h0=> ?_)
 case refine_2=>simp(disch:=omega) [h0,aY,VY]
 have hs:=zX h0
 have h1:=az hs.view
 have h2:=az hs.height
 have h3:=az hs.who
 have h4:=hs.block
 have h5:=hs.tag
 simp(disch:=omega) [h0,VY]
 refine aB (bu b v.view hs.view (by omega)) ?_
 simp(disch:=omega) [VY]
 refine aB (bu (b++aW v.view.toNat) v.height hs.height (by simp only[List.length_append];omega)) ?_
 simp(disch:=omega) [db,an,VY]
 refine aB (bu (b++(aW v.view.toNat++(aW v.height.toNat++v.block))) v.who hs.who (by simp only[List.length_append];omega)) ?_
 simp(disch:=omega) [db,an,aY,h0,IX,VY]
def cN (i n:Nat):Nat:=if h:n < 2 then 0 else
 have:=eu (n:=n) (by omega)
 if i < splitAt n then 1+cN i (splitAt n)else 1+cN (i - splitAt n) (n - splitAt n)
termination_by n
theorem qW {i n:Nat} (h:n < 2):cN i n=0:=by rw[cN,dif_pos h]
theorem s4 {i n:Nat} (h:2≤n) (hi:i < splitAt n):cN i n=1+cN i (splitAt n):=by rw[cN,dif_neg (by omega),if_pos hi]
theorem sY {i n:Nat} (h:2≤n) (hi:¬i < splitAt n):cN i n=1+cN (i - splitAt n) (n - splitAt n):=by rw[cN,dif_neg (by omega),if_neg hi]
theorem dq:∀(n i:Nat),cN i n≤n:=by
 intro n
 induction n using Nat.strongRecOn with
 |ind n ih=>
 intro i
 rcases Nat.lt_or_ge n 2 with h|h
 ·rw[qW h];omega
 ·have h1:=eu h
  by_cases hi:i < splitAt n
  ·rw[s4 h hi];have:=ih (splitAt n) h1.2 i;omega
  ·rw[sY h hi];have:=ih (n - splitAt n) (by omega) (i - splitAt n);omega
abbrev nm:Nat:=280
def mS:AF:=⟨2,6,[.tmp 4],(.seq (.ops [.i (.mov 4 (qi 0))]) (.seq (.seq (.ops [qm 6 1, .i (.bin 7 .lss (.s 6) (qi 2)),qm 8 7, .g 8 false 10 (.mov 9 (.s 1)), .g 8 false 11 (.bin 10 .gtr (.s 9) (qi 1048576)), .i (.pick 11 (.s 8) (qb true) (.s 10)),qm 12 11, .g 12 false 14 (.mov 13 (.s 0)), .g 12 false 15 (.mov 14 (.s 1)), .g 12 false 16 (.bin 15 .sub (.s 14) (qi 1)), .g 12 false 17 (.call 17 62 false [(.s 13),(qi 0),(.s 15)]), .g 12 false 18 (.not 17 (.s 16)), .i (.pick 18 (.s 12) (qb true) (.s 17))]) (.cond (.s 18) (.seq (.ops [.i (.mov 4 (qi 0))]) .ret) .skip)) (.seq (.ops [qm 19 1,qk 21 292 19,qm 5 20]) (.seq (.seq (.ops [qm 21 0,qm 22 5,qd 23 .lss 21 22]) (.cond (.s 23) (.seq (.ops [qm 24 0,qm 25 5, .i (.call 27 280 false [(.s 24),(.s 25)]), .i (.bin 27 .add (qi 1) (.s 26)),qm 4 27]) .ret) .skip)) (.seq (.ops [qm 28 0,qm 29 5,qd 30 .sub 28 29,qm 31 1,qm 32 5,qd 33 .sub 31 32, .i (.call 35 280 false [(.s 30),(.s 33)]), .i (.bin 35 .add (qi 1) (.s 34)),qm 4 35]) .ret)))))⟩
theorem wT:cd nm=some mS:=by kernel_rfl
theorem vf:∀(n i:Nat),i < n→n≤1048576→VC cd nm (aO [(false,[.int .i64 (i:Int)]),(false,[.int .i64 (n:Int)])]) (fun rs _=>rs=it (cN i n)):=by
 intro n
 induction n using Nat.strongRecOn with
 |ind n ih=>
 intro i hi hn
 have hp:=dq n i
 have he:eW (i:Int) 0 ((n:Int) - 1)=true:=by simp only[eW,decide_eq_true_eq];omega
 refine aa wT rfl ?_
 simp(disch:=omega) [mS,VY]
 refine ab (fun h1=> ?_) (fun h1=> ?_)
 ·simp(disch:=omega) [h1,qW (i:=i) (n:=n) (by omega),VY]
 have h2:2≤n:=by omega
 obtain⟨k1,k2⟩:=eu h2
 simp(disch:=omega) [h1,VY]
 refine ab (fun h3=> ?_) (fun h3=> ?_)
 ·omega
 simp(disch:=omega) [h1,h3,VY]
 refine aB (aX (i:Int) 0 ((n:Int) - 1)) ?_
 simp(disch:=omega) [h1,h3,he,VY]
 refine aB (kX n (by omega)) ?_
 simp(disch:=omega) [VY]
 refine ab (fun h4=> ?_) (fun h4=> ?_)
 ·have h5:i < splitAt n:=by omega
  have h6:=s4 h2 h5
  simp(disch:=omega) [h4,VY]
  refine aB (ih (splitAt n) k2 i h5 (by omega)) ?_
  have h7:=dq (splitAt n) i
  simp(disch:=omega) [h6,VY]
 ·have h5:¬i < splitAt n:=by omega
  have h6:=sY h2 h5
  have t1:(i:Int) - (splitAt n:Int)=((i - splitAt n:Nat):Int):=by omega
  have t2:(n:Int) - (splitAt n:Int)=((n - splitAt n:Nat):Int):=by omega
  simp(disch:=omega) [h4,t1,t2,VY]
  refine aB (ih (n - splitAt n) (by omega) (i - splitAt n) (by omega) (by omega)) ?_
  have h7:=dq (n - splitAt n) (i - splitAt n)
  simp(disch:=omega) [h6,VY]
abbrev rh:Nat:=290
def rT:AF:=⟨2,4,[.tmp 4],(.seq (.ops [.i (.mov 4 (qb false))]) (.seq (.ops [qm 5 1, .i (.call 7 152 false [(.s 5),(qi 1),(qi 1048576)]),qm 7 6, .g 7 true 9 (.mov 8 (.s 0)), .g 7 true 10 (.mov 9 (.s 1)), .g 7 true 11 (.bin 10 .sub (.s 9) (qi 1)), .g 7 true 12 (.call 12 152 false [(.s 8),(qi 0),(.s 10)]), .i (.pick 12 (.s 7) (.s 11) (qb false)),qm 4 12]) .ret))⟩
theorem Aa:cd rh=some rT:=by kernel_rfl
theorem Gp (i n:Nat) (hn:n≤1048576):VC cd rh (aO [(false,[.int .i64 (i:Int)]),(false,[.int .i64 (n:Int)])]) (fun rs _=>rs=bl (eW (n:Int) 1 1048576 && eW (i:Int) 0 ((n:Int) - 1))):=by
 refine aa Aa rfl ?_
 simp(disch:=omega) [rT,VY]
 refine aB (cc (n:Int) 1 1048576) ?_
 simp(disch:=omega) [VY]
 refine ak (fun h1=> ?_) (fun h1=> ?_) <;>simp(disch:=omega) [h1,VY]
 refine aB (cc (i:Int) 0 ((n:Int) - 1)) ?_
 simp(disch:=omega) [h1,VY]
abbrev lA:Nat:=277
def mR:AF:=⟨2,5,[.tmp 4],(.seq (.ops [.i (.mov 4 (qi 0))]) (.seq (.seq (.ops [qm 6 0,qm 7 1, .i (.call 9 290 false [(.s 6),(.s 7)]), .i (.not 9 (.s 8)),qm 10 9, .g 10 false 12 (.mov 11 (.s 1)), .g 10 false 13 (.bin 12 .eql (.s 11) (qi 1)), .i (.pick 13 (.s 10) (qb true) (.s 12))]) (.cond (.s 13) (.seq (.ops [.i (.mov 4 (qi 0))]) .ret) .skip)) (.seq (.ops [qm 14 1,qk 16 288 14,qm 5 15]) (.seq (.seq (.ops [qm 16 0,qm 17 5,qd 18 .lss 16 17]) (.cond (.s 18) (.seq (.ops [qm 19 0,qm 20 5, .i (.call 22 277 false [(.s 19),(.s 20)]), .i (.bin 22 .add (qi 1) (.s 21)),qm 4 22]) .ret) .skip)) (.seq (.ops [qm 23 0,qm 24 5,qd 25 .sub 23 24,qm 26 1,qm 27 5,qd 28 .sub 26 27, .i (.call 30 277 false [(.s 25),(.s 28)]), .i (.bin 30 .add (qi 1) (.s 29)),qm 4 30]) .ret)))))⟩
theorem xu:cd lA=some mR:=by kernel_rfl
theorem u7:∀(n i:Nat),i < n→n≤1048576→VC cd lA (aO [(false,[.int .i64 (i:Int)]),(false,[.int .i64 (n:Int)])]) (fun rs _=>rs=it (cN i n)):=by
 intro n
 induction n using Nat.strongRecOn with
 |ind n ih=>
 intro i hi hn
 have hp:=dq n i
 have he:eW (i:Int) 0 ((n:Int) - 1)=true:=by simp only[eW,decide_eq_true_eq];omega
 have he2:eW (n:Int) 1 1048576=true:=by simp only[eW,decide_eq_true_eq];omega
 refine aa xu rfl ?_
 simp(disch:=omega) [mR,VY]
 refine aB (Gp i n hn) ?_
 simp(disch:=omega) [he,he2,VY]
 refine ab (fun h1=> ?_) (fun h1=> ?_)
 ·simp(disch:=omega) [h1,qW (i:=i) (n:=n) (by omega),VY]
 have h2:2≤n:=by omega
 obtain⟨k1,k2⟩:=eu h2
 simp(disch:=omega) [h1,VY]
 refine aB (kU n (by omega)) ?_
 simp(disch:=omega) [VY]
 refine ab (fun h4=> ?_) (fun h4=> ?_)
 ·have h5:i < splitAt n:=by omega
  have h6:=s4 h2 h5
  simp(disch:=omega) [h4,VY]
  refine aB (ih (splitAt n) k2 i h5 (by omega)) ?_
  have h7:=dq (splitAt n) i
  simp(disch:=omega) [h6,VY]
 ·have h5:¬i < splitAt n:=by omega
  have h6:=sY h2 h5
  have t1:(i:Int) - (splitAt n:Int)=((i - splitAt n:Nat):Int):=by omega
  have t2:(n:Int) - (splitAt n:Int)=((n - splitAt n:Nat):Int):=by omega
  simp(disch:=omega) [h4,t1,t2,VY]
  refine aB (ih (n - splitAt n) (by omega) (i - splitAt n) (by omega) (by omega)) ?_
  have h7:=dq (n - splitAt n) (i - splitAt n)
  simp(disch:=omega) [h6,VY]
theorem Bp {l:aF} (h:l.ok=true):0≤l.tx∧l.tx≤40∧l.txs≤8:=by
 simp only[aF.ok,Bool.and_eq_true]at h
 have h1:=dK h.1.1.1.2
 have h2:=dK h.1.1.2
 omega
def e7 (l:aF) (x:bp):Bool:=l.ok && isNum x.height && eW x.n 1 l.txs && eW x.idx 0 (x.n - 1) && decide ((x.tx.length:Int)≤l.tx) && decide (x.path.length=cN x.idx.toNat x.n.toNat) && hashes x.path
def uH (x:bp):Bytes:=aW x.height.toNat++(aW x.n.toNat++(aW x.idx.toNat++(ku x.tx++x.path.flatten)))
def bR (l:aF) (t:Tc) (i:Nat):Bool:=match t.entries[i]? with
 |some e=>eW e.who 0 (l.n - 1) && eW e.high 0 (t.view - 1) && hash e.tag && (decide (i=0)||match t.entries[i - 1]? with|some d=>decide (d.who < e.who)|none=>false)
 |none=>false
def gY (l:aF) (t:Tc):Bool:=l.ok && isNum t.view && decide ((t.entries.length:Int)≤l.n) && (List.range t.entries.length).all (bR l t)
def FI (e:Entry):Bytes:=aW e.who.toNat++(aW e.high.toNat++e.tag)
def J1 (t:Tc):Bytes:=aW t.view.toNat++(aW t.entries.length++(t.entries.map FI).flatten)
def me (x:Block):Bytes:=eA x.head++(aW x.txs.length++(x.txs.map ku).flatten)
def nZ (p:Proof):Bytes:=aW p.heads.length++((p.heads.map eA).flatten++F3 p.qc)
abbrev pZ:Nat:=247
def pq:AF:=⟨2,6,[.tmp 4],(.seq (.ops [.i (.lbox 2 (.s 0)), .i (.lbox 3 (.s 1)), .i (.mov 4 (qb false))]) (.seq (.ops [ql 5 2 2 5 true,qk 7 134 5,qm 7 6, .g 7 true 9 (.fad 8 (.s 3) 0), .g 7 true 10 (.ldl 9 3 (.s 8) 1 false), .g 7 true 11 (.call 11 213 false [(.s 9)]), .i (.pick 11 (.s 7) (.s 10) (qb false)),qm 12 11, .g 12 true 14 (.fad 13 (.s 3) 1), .g 12 true 15 (.ldl 14 3 (.s 13) 1 false), .g 12 true 16 (.fad 15 (.s 2) 2), .g 12 true 17 (.ldl 16 2 (.s 15) 1 false), .g 12 true 18 (.call 18 62 false [(.s 14),(qi 1),(.s 16)]), .i (.pick 18 (.s 12) (.s 17) (qb false)),qm 19 18, .g 19 true 21 (.fad 20 (.s 3) 2), .g 19 true 22 (.ldl 21 3 (.s 20) 1 false), .g 19 true 23 (.fad 22 (.s 3) 1), .g 19 true 24 (.ldl 23 3 (.s 22) 1 false), .g 19 true 25 (.bin 24 .sub (.s 23) (qi 1)), .g 19 true 26 (.call 26 62 false [(.s 21),(qi 0),(.s 24)]), .i (.pick 26 (.s 19) (.s 25) (qb false)),qm 27 26, .g 27 true 29 (.fad 28 (.s 3) 3), .g 27 true 30 (.ldl 29 3 (.s 28) 1 false), .g 27 true 31 (.len 30 false (.s 29)), .g 27 true 32 (.fad 31 (.s 2) 1), .g 27 true 33 (.ldl 32 2 (.s 31) 1 false), .g 27 true 34 (.bin 33 .leq (.s 30) (.s 32)), .i (.pick 34 (.s 27) (.s 33) (qb false)),qm 35 34, .g 35 true 37 (.fad 36 (.s 3) 4), .g 35 true 38 (.ldl 37 3 (.s 36) 1 false), .g 35 true 39 (.len 38 false (.s 37)), .g 35 true 40 (.fad 39 (.s 3) 2), .g 35 true 41 (.ldl 40 3 (.s 39) 1 false), .g 35 true 42 (.fad 41 (.s 3) 1), .g 35 true 43 (.ldl 42 3 (.s 41) 1 false), .g 35 true 44 (.call 44 280 false [(.s 40),(.s 42)]), .g 35 true 45 (.bin 44 .eql (.s 38) (.s 43)), .i (.pick 45 (.s 35) (.s 44) (qb false)),qm 46 45, .g 46 true 48 (.fad 47 (.s 3) 4), .g 46 true 49 (.ldl 48 3 (.s 47) 1 false), .g 46 true 50 (.call 50 214 false [(.s 48)]), .i (.pick 50 (.s 46) (.s 49) (qb false)),qm 4 50]) .ret))⟩
theorem yX:cd pZ=some pq:=by kernel_rfl
theorem wA (l:aF) (x:bp) (hw:x.wc):VC cd pZ (aO [(true,l.c),(true,x.c)]) (fun rs _=>rs=bl (e7 l x)):=by
 obtain⟨w1,w2,w3,w4,w5,w6⟩:=hw
 simp only[Sz]at w4 w5
 refine aa yX rfl ?_
 simp(disch:=omega) [pq,aF.c,bp.c,VY]
 refine aB (df l) ?_ (ha:=by first|rfl|(simp[aF.c,VY] <;>repeat' constructor))
 simp(disch:=omega) [VY]
 refine ak (fun h1=> ?_) (fun h1=> ?_) <;>simp(disch:=omega) [h1,e7,VY]
 have hn:=iD h1
 have ht:=Bp h1
 refine aB (eS x.height) ?_
 simp(disch:=omega) [h1,VY]
 refine ak (fun h2=> ?_) (fun h2=> ?_) <;>simp(disch:=omega) [h1,h2,VY]
 refine aB (aX x.n 1 l.txs) ?_
 simp(disch:=omega) [h1,h2,VY]
 refine ak (fun h3=> ?_) (fun h3=> ?_)
 case refine_2=>simp(disch:=omega) [h1,h2,h3,VY]
 have h3':=dK h3
 simp(disch:=omega) [h1,h2,h3,VY]
 refine aB (aX x.idx 0 (x.n - 1)) ?_
 simp(disch:=omega) [h1,h2,h3,VY]
 refine ak (fun h4=> ?_) (fun h4=> ?_) <;>simp(disch:=omega) [h1,h2,h3,h4,an,VY]
 have h4':=dK h4
 refine ab (fun h5=> ?_) (fun h5=> ?_) <;>simp(disch:=omega) [h1,h2,h3,h4,h5,ay,VY]
 obtain⟨N,hN⟩:∃N:Nat,x.n=(N:Int):=⟨x.n.toNat,by omega⟩
 obtain⟨I,hI⟩:∃I:Nat,x.idx=(I:Int):=⟨x.idx.toNat,by omega⟩
 have hp:=dq N I
 refine aB (vf N I (by omega) (by omega)) ?_ (ha:=by first|rfl|(simp[hN,hI,VY] <;>repeat' constructor))
 simp(disch:=omega) [h1,h2,h3,h4,h5,ay,hN,hI,VY]
 refine ab (fun h6=> ?_) (fun h6=> ?_)
 ·have h7:x.path.length=cN I N:=by omega
  simp(disch:=omega) [h1,h2,h3,h4,h5,h6,h7,ay,hN,hI,VY]
  refine aB (cu x.path (by omega)) ?_
  simp(disch:=omega) [h1,h2,h3,h4,h5,h6,h7,hN,hI,VY]
 ·have h7:¬x.path.length=cN I N:=by omega
  simp(disch:=omega) [h1,h2,h3,h4,h5,h6,h7,ay,hN,hI,VY]
abbrev pW:Nat:=238
def qe:AF:=⟨2,6,[.tmp 4],(.seq (.ops [.i (.lbox 2 (.s 0)), .i (.lbox 3 (.s 1)), .i (.mov 4 (qb false))]) (.seq (.ops [ql 5 2 2 5 true,qk 7 142 5,qm 7 6, .g 7 true 9 (.fad 8 (.s 3) 0), .g 7 true 10 (.ldl 9 3 (.s 8) 1 false), .g 7 true 11 (.call 11 201 false [(.s 9)]), .i (.pick 11 (.s 7) (.s 10) (qb false)),qm 12 11, .g 12 true 14 (.fad 13 (.s 3) 1), .g 12 true 15 (.ldl 14 3 (.s 13) 1 false), .g 12 true 16 (.fad 15 (.s 2) 2), .g 12 true 17 (.ldl 16 2 (.s 15) 1 false), .g 12 true 18 (.call 18 152 false [(.s 14),(qi 1),(.s 16)]), .i (.pick 18 (.s 12) (.s 17) (qb false)),qm 19 18, .g 19 true 21 (.fad 20 (.s 3) 2), .g 19 true 22 (.ldl 21 3 (.s 20) 1 false), .g 19 true 23 (.fad 22 (.s 3) 1), .g 19 true 24 (.ldl 23 3 (.s 22) 1 false), .g 19 true 25 (.bin 24 .sub (.s 23) (qi 1)), .g 19 true 26 (.call 26 152 false [(.s 21),(qi 0),(.s 24)]), .i (.pick 26 (.s 19) (.s 25) (qb false)),qm 27 26, .g 27 true 29 (.fad 28 (.s 3) 3), .g 27 true 30 (.ldl 29 3 (.s 28) 1 false), .g 27 true 31 (.len 30 false (.s 29)), .g 27 true 32 (.fad 31 (.s 2) 1), .g 27 true 33 (.ldl 32 2 (.s 31) 1 false), .g 27 true 34 (.bin 33 .leq (.s 30) (.s 32)), .i (.pick 34 (.s 27) (.s 33) (qb false)),qm 35 34, .g 35 true 37 (.fad 36 (.s 3) 4), .g 35 true 38 (.ldl 37 3 (.s 36) 1 false), .g 35 true 39 (.len 38 false (.s 37)), .g 35 true 40 (.fad 39 (.s 3) 2), .g 35 true 41 (.ldl 40 3 (.s 39) 1 false), .g 35 true 42 (.fad 41 (.s 3) 1), .g 35 true 43 (.ldl 42 3 (.s 41) 1 false), .g 35 true 44 (.call 44 277 false [(.s 40),(.s 42)]), .g 35 true 45 (.bin 44 .eql (.s 38) (.s 43)), .i (.pick 45 (.s 35) (.s 44) (qb false)),qm 46 45, .g 46 true 48 (.fad 47 (.s 3) 4), .g 46 true 49 (.ldl 48 3 (.s 47) 1 false), .g 46 true 50 (.call 50 256 false [(.s 48)]), .i (.pick 50 (.s 46) (.s 49) (qb false)),qm 4 50]) .ret))⟩
theorem yE:cd pW=some qe:=by kernel_rfl
theorem wS (l:aF) (x:bp) (hw:x.wc):VC cd pW (aO [(true,l.c),(true,x.c)]) (fun rs _=>rs=bl (e7 l x)):=by
 obtain⟨w1,w2,w3,w4,w5,w6⟩:=hw
 simp only[Sz]at w4 w5
 refine aa yE rfl ?_
 simp(disch:=omega) [qe,aF.c,bp.c,VY]
 refine aB (cB l) ?_ (ha:=by first|rfl|(simp[aF.c,VY] <;>repeat' constructor))
 simp(disch:=omega) [VY]
 refine ak (fun h1=> ?_) (fun h1=> ?_) <;>simp(disch:=omega) [h1,e7,VY]
 have hn:=iD h1
 have ht:=Bp h1
 refine aB (eB x.height) ?_
 simp(disch:=omega) [h1,VY]
 refine ak (fun h2=> ?_) (fun h2=> ?_) <;>simp(disch:=omega) [h1,h2,VY]
 refine aB (cc x.n 1 l.txs) ?_
 simp(disch:=omega) [h1,h2,VY]
 refine ak (fun h3=> ?_) (fun h3=> ?_)
 case refine_2=>simp(disch:=omega) [h1,h2,h3,VY]
 have h3':=dK h3
 simp(disch:=omega) [h1,h2,h3,VY]
 refine aB (cc x.idx 0 (x.n - 1)) ?_
 simp(disch:=omega) [h1,h2,h3,VY]
 refine ak (fun h4=> ?_) (fun h4=> ?_) <;>simp(disch:=omega) [h1,h2,h3,h4,an,VY]
 have h4':=dK h4
 refine ab (fun h5=> ?_) (fun h5=> ?_) <;>simp(disch:=omega) [h1,h2,h3,h4,h5,ay,VY]
 obtain⟨N,hN⟩:∃N:Nat,x.n=(N:Int):=⟨x.n.toNat,by omega⟩
 obtain⟨I,hI⟩:∃I:Nat,x.idx=(I:Int):=⟨x.idx.toNat,by omega⟩
 have hp:=dq N I
 refine aB (u7 N I (by omega) (by omega)) ?_ (ha:=by first|rfl|(simp[hN,hI,VY] <;>repeat' constructor))
 simp(disch:=omega) [h1,h2,h3,h4,h5,ay,hN,hI,VY]
 refine ab (fun h6=> ?_) (fun h6=> ?_)
 ·have h7:x.path.length=cN I N:=by omega
  simp(disch:=omega) [h1,h2,h3,h4,h5,h6,h7,ay,hN,hI,VY]
  refine aB (sH x.path (by omega)) ?_
  simp(disch:=omega) [h1,h2,h3,h4,h5,h6,h7,hN,hI,VY]
 ·have h7:¬x.path.length=cN I N:=by omega
  simp(disch:=omega) [h1,h2,h3,h4,h5,h6,h7,ay,hN,hI,VY]
def dO (l:List Bytes):Bytes:=(l.map ku).flatten
theorem uE {l:List Bytes} {i:Nat} (h:i < l.length):dO (l.take (i+1))=dO (l.take i)++ku l[i]:=by
 rw[List.take_succ_eq_append_getElem h]
 simp only[dO,List.map_append,List.map_cons,List.map_nil,List.flatten_append,List.flatten_cons,List.flatten_nil,List.append_nil]
theorem oe {x:Bytes} (h:x.length≤1000):(ku x).length≤1009:=by
 have:=bP (n:=x.length) (by omega)
 simp only[ku,List.length_append]
 omega
theorem jK:∀ {l:List Bytes},(∀x∈l,x.length≤1000)→(dO l).length≤1009 * l.length
 | [],_=>by simp[dO]
 |a::l,h=>by
  have h1:=jK (l:=l) fun x hx=>h x (by simp[hx])
  have h2:=oe (h a (by simp))
  simp only[dO,List.map_cons,List.flatten_cons,List.length_append,List.length_cons]at h1⊢
  omega
theorem gk {l:aF} {x:Block} (h:bW l x=true):b5 l x.head=true:=by
 simp only[bW,Bool.and_eq_true]at h
 exact h.1.1.1
theorem lV {l:aF} {x:Block} (h:bW l x=true):∀t∈x.txs,t.length≤1000:=fun t ht=>by
 have h0:=na (tk (gk h))
 simp only[aF.ok,Bool.and_eq_true]at h0
 have h1:=j7 h0.1.1.1.2
 simp only[bW,Bool.and_eq_true,zC,List.all_eq_true,decide_eq_true_eq]at h
 have:=h.1.2 t ht
 omega
theorem eT {l:aF} {t:Tc} {i:Nat} (hi:i < t.entries.length) (h:bR l t i=false):gY l t=false:=by
 unfold gY
 rw[Bool.and_eq_false_iff]
 right
 rw[List.all_eq_false]
 exact⟨i,by simp[hi],by simp[h]⟩
theorem Ci {l:aF} {t:Tc} (h:∀i,i < t.entries.length→bR l t i=true):gY l t=(l.ok && isNum t.view && decide ((t.entries.length:Int)≤l.n)):=by
 unfold gY
 have:(List.range t.entries.length).all (bR l t)=true:=by
  rw[List.all_eq_true]
  intro i hi
  exact h i (by simpa using hi)
 rw[this,Bool.and_true]
theorem su {l:aF} {t:Tc} {i:Nat} (hd:∀j,j < i→bR l t j=true) (h:bR l t i=true):∀j,j < i+1→bR l t j=true:=fun j hj=>by
 rcases Nat.lt_or_ge j i with hl|hl
 ·exact hd j hl
 ·obtain rfl:j=i:=by omega
  exact h
abbrev ic:Nat:=246
def mV:AF:=⟨2,7,[.tmp 4],(.seq (.ops [.i (.lbox 2 (.s 0)), .i (.lbox 3 (.s 1)), .i (.mov 4 (qb false))]) (.seq (.seq (.ops [qf 7 3 1,ql 8 3 7 1 false,qn 9 8, .i (.mov 10 (qi 0))]) (.block 0 (.loop [54,53,52,51,50,49,48,47,46,45,44,43,42,41,40,39,38,37,36,35,34,33,32,31,30,29,28,27,26,25,24,23,22,21,20,19,18,17,16,15,14,13,12,11,6,5] (.seq (.ops [qd 11 .lss 10 9]) (.seq (.cond (.s 11) .skip (.exit 0)) (.seq (.block 1 (.seq (.ops [qm 12 10, .i (.iad 13 (.s 8) (.s 10) 3), .i (.ldh 14 (.s 13) 3 true), .i (.lal 6 [.int .i64 0, .int .i64 0, .nils]),qm 5 12,qs 6 6 14 3]) (.seq (.ops [qf 15 6 0,ql 16 6 15 1 false,qf 17 2 0,ql 18 2 17 1 false, .i (.bin 19 .sub (.s 18) (qi 1)), .i (.call 21 62 false [(.s 16),(qi 0),(.s 19)]), .i (.not 21 (.s 20)),qm 22 21, .g 22 false 24 (.mov 23 (.s 5)), .g 22 false 25 (.bin 24 .gtr (.s 23) (qi 0)), .g 22 false 26 (.mov 25 (.s 24)), .g 25 true 27 (.fad 26 (.s 6) 0), .g 25 true 28 (.ldl 27 6 (.s 26) 1 false), .g 25 true 29 (.fad 28 (.s 3) 1), .g 25 true 30 (.ldl 29 3 (.s 28) 1 false), .g 25 true 31 (.mov 30 (.s 5)), .g 25 true 32 (.bin 31 .sub (.s 30) (qi 1)), .g 25 true 33 (.iad 32 (.s 29) (.s 31) 3), .g 25 true 34 (.fad 33 (.s 32) 0), .g 25 true 35 (.ldh 34 (.s 33) 1 false), .g 25 true 36 (.bin 35 .leq (.s 27) (.s 34)), .g 22 false 37 (.pick 36 (.s 25) (.s 35) (qb false)), .i (.pick 37 (.s 22) (qb true) (.s 36)),qm 38 37, .g 38 false 40 (.fad 39 (.s 6) 1), .g 38 false 41 (.ldl 40 6 (.s 39) 1 false), .g 38 false 42 (.fad 41 (.s 3) 0), .g 38 false 43 (.ldl 42 3 (.s 41) 1 false), .g 38 false 44 (.bin 43 .sub (.s 42) (qi 1)), .g 38 false 45 (.call 45 62 false [(.s 40),(qi 0),(.s 43)]), .g 38 false 46 (.not 45 (.s 44)), .i (.pick 46 (.s 38) (qb true) (.s 45)),qm 47 46, .g 47 false 49 (.fad 48 (.s 6) 2), .g 47 false 50 (.ldl 49 6 (.s 48) 1 false), .g 47 false 51 (.bsl 50 22 1 1 [.nils] [(0,1,(.s 49))]), .g 47 false 52 (.call 52 214 false [(.s 50)]), .g 47 false 53 (.not 52 (.s 51)), .i (.pick 53 (.s 47) (qb true) (.s 52))]) (.cond (.s 53) (.seq (.ops [.i (.mov 4 (qb false))]) .ret) .skip)))) (.ops [.i (.bin 54 .add (.s 10) (qi 1)),qm 10 54]))))))) (.seq (.ops [ql 55 2 2 5 true,qk 57 134 55,qm 57 56, .g 57 true 59 (.fad 58 (.s 3) 0), .g 57 true 60 (.ldl 59 3 (.s 58) 1 false), .g 57 true 61 (.call 61 213 false [(.s 59)]), .i (.pick 61 (.s 57) (.s 60) (qb false)),qm 62 61, .g 62 true 64 (.fad 63 (.s 3) 1), .g 62 true 65 (.ldl 64 3 (.s 63) 1 false), .g 62 true 66 (.len 65 false (.s 64)), .g 62 true 67 (.fad 66 (.s 2) 0), .g 62 true 68 (.ldl 67 2 (.s 66) 1 false), .g 62 true 69 (.bin 68 .leq (.s 65) (.s 67)), .i (.pick 69 (.s 62) (.s 68) (qb false)),qm 4 69]) .ret)))⟩
theorem uF:cd ic=some mV:=by kernel_rfl
theorem C6 (l:aF) (t:Tc) (hw:t.wf) (h0:(l.ok && isNum t.view)=true):VC cd ic (aO [(true,l.c),(true,t.c)]) (fun rs _=>rs=bl (gY l t)):=by
 have w1:=hw.2.1
 simp only[Sz]at w1
 have hA:l.ok=true∧isNum t.view=true:=by simpa using h0
 have hn:=iD hA.1
 have hv:=dK hA.2
 refine aa uF rfl ?_
 simp(disch:=omega) [mV,aF.c,Tc.c,bJ,VY]
 refine eO (σ:=Nat) (f1:=_) (es0:=_) (by simp(disch:=omega) [VY];rfl) (by simp(disch:=omega) [VY];rfl) (fun i=> [(10, .val false [.int .i64 (i:Int)])]) (fun _=> []) (fun i g=>g+i=t.entries.length∧∀j,j < i→bR l t j=true) 0 t.entries.length (by simp(disch:=omega) [VY]) (by simp(disch:=omega) [VY]) ⟨by omega,fun j hj=>by omega⟩ ?_
 rintro i n g ⟨hg,hd⟩ P hP
 simp(disch:=omega) [VY]
 refine ab (fun h1=> ?_) (fun h1=> ?_)
 case refine_2=>
  have hY:=Ci (l:=l) (t:=t) (fun i hi=>hd i (by omega))
  simp(disch:=omega) [VY]
  refine aB (df l) ?_ (ha:=by first|rfl|(simp[aF.c,VY] <;>repeat' constructor))
  simp(disch:=omega) [hA.1,VY]
  refine aB (eS t.view) ?_
  simp(disch:=omega) [hA.1,hA.2,bJ,hY,VY]
 have hi:i < t.entries.length:=by omega
 simp(disch:=omega) [dF hi,VY]
 refine aB (aX t.entries[i].who 0 (l.n - 1)) ?_
 simp(disch:=omega) [VY]
 refine ak (fun h2=> ?_) (fun h2=> ?_)
 case refine_2=>simp(disch:=omega) [h2,eT hi (show bR l t i=false by simp[bR,hi,h2]),VY]
 simp(disch:=omega) [h2,VY]
 refine ab (fun h3=> ?_) (fun h3=> ?_)
 ·have hj:i - 1 < t.entries.length:=by omega
  have e1:((i:Int) - 1).toNat=i - 1:=by omega
  have e2:(1:Int)≤(i:Int):=by omega
  have e3:¬i=0:=by omega
  simp(disch:=omega) [h2,h3,bJ,e1,e2,dF hj,VY]
  refine ab (fun h4=> ?_) (fun h4=> ?_)
  ·simp(disch:=omega) [h2,h3,h4,eT hi (show bR l t i=false by simp[bR,hi,hj,e3,show ¬t.entries[i - 1].who < t.entries[i].who by omega]),VY]
  have e4:t.entries[i - 1].who < t.entries[i].who:=by omega
  simp(disch:=omega) [h2,h3,h4,VY]
  refine aB (aX t.entries[i].high 0 (t.view - 1)) ?_
  simp(disch:=omega) [h2,h3,h4,VY]
  refine ak (fun h6=> ?_) (fun h6=> ?_)
  case refine_2=>simp(disch:=omega) [h2,h3,h4,h6,eT hi (show bR l t i=false by simp[bR,hi,h6]),VY]
  simp(disch:=omega) [h2,h3,h4,h6,VY]
  refine aB (cu [t.entries[i].tag] (by simp)) ?_ (ha:=by first|rfl|(simp[cX,VY] <;>repeat' constructor))
  simp(disch:=omega) [h2,h3,h4,h6,gz,VY]
  refine ak (fun h7=> ?_) (fun h7=> ?_)
  case refine_2=>simp(disch:=omega) [h2,h3,h4,h6,h7,eT hi (show bR l t i=false by simp[bR,hi,h7]),VY]
  simp(disch:=omega) [h2,h3,h4,h6,h7,VY]
  exact hP (i+1) (g - 1) _ _ (by omega) ⟨by omega,su hd (by simp[bR,hi,h2,h6,h7,hj,e4])⟩ (by simp(disch:=omega) [VY]) (by simp(disch:=omega) [VY])
 ·simp(disch:=omega) [h2,h3,VY]
  have e4:i=0:=by omega
  refine aB (aX t.entries[i].high 0 (t.view - 1)) ?_
  simp(disch:=omega) [h2,h3,VY]
  refine ak (fun h6=> ?_) (fun h6=> ?_)
  case refine_2=>simp(disch:=omega) [h2,h3,h6,eT hi (show bR l t i=false by simp[bR,hi,h6]),VY]
  simp(disch:=omega) [h2,h3,h6,VY]
  refine aB (cu [t.entries[i].tag] (by simp)) ?_ (ha:=by first|rfl|(simp[cX,VY] <;>repeat' constructor))
  simp(disch:=omega) [h2,h3,h6,gz,VY]
  refine ak (fun h7=> ?_) (fun h7=> ?_)
  case refine_2=>simp(disch:=omega) [h2,h3,h6,h7,eT hi (show bR l t i=false by simp[bR,hi,h7]),VY]
  simp(disch:=omega) [h2,h3,h6,h7,VY]
  exact hP (i+1) (g - 1) _ _ (by omega) ⟨by omega,su hd (by subst e4;simp[bR,hi,h2,h6,h7])⟩ (by simp(disch:=omega) [VY]) (by simp(disch:=omega) [VY])
theorem Dk (l:aF) (t:Tc) (hw:t.wf) (h0:(l.ok && isNum t.view)=false):VC cd ic (aO [(true,l.c),(true,t.c)]) (fun rs _=>rs=bl (gY l t)):=by
 have w1:=hw.2.1
 simp only[Sz]at w1
 have hF:gY l t=false:=by unfold gY;rw[h0];rfl
 refine aa uF rfl ?_
 simp(disch:=omega) [mV,aF.c,Tc.c,bJ,VY]
 refine eO (σ:=Nat) (f1:=_) (es0:=_) (by simp(disch:=omega) [VY];rfl) (by simp(disch:=omega) [VY];rfl) (fun i=> [(10, .val false [.int .i64 (i:Int)])]) (fun _=> []) (fun i g=>g+i=t.entries.length) 0 t.entries.length (by simp(disch:=omega) [VY]) (by simp(disch:=omega) [VY]) (by omega) ?_
 rintro i n g hg P hP
 simp(disch:=omega) [VY]
 refine ab (fun h1=> ?_) (fun h1=> ?_)
 case refine_2=>
  simp(disch:=omega) [VY]
  refine aB (df l) ?_ (ha:=by first|rfl|(simp[aF.c,VY] <;>repeat' constructor))
  simp(disch:=omega) [VY]
  refine ak (fun h2=> ?_) (fun h2=> ?_) <;>simp(disch:=omega) [h2,hF,VY]
  refine aB (eS t.view) ?_
  have h3:isNum t.view=false:=by simpa[h2]using h0
  simp(disch:=omega) [h2,h3,hF,VY]
 have hi:i < t.entries.length:=by omega
 simp(disch:=omega) [dF hi,VY]
 refine aB (aX t.entries[i].who 0 (IntKind.i64.wrap (l.n - 1))) ?_
 simp(disch:=omega) [VY]
 refine ak (fun h2=> ?_) (fun h2=> ?_)
 case refine_2=>simp(disch:=omega) [h2,hF,VY]
 simp(disch:=omega) [h2,VY]
 refine ab (fun h3=> ?_) (fun h3=> ?_)
 ·have hj:i - 1 < t.entries.length:=by omega
  have e1:((i:Int) - 1).toNat=i - 1:=by omega
  have e2:(1:Int)≤(i:Int):=by omega
  have e3:¬i=0:=by omega
  simp(disch:=omega) [h2,h3,bJ,e1,e2,dF hj,VY]
  refine ab (fun h4=> ?_) (fun h4=> ?_)
  ·simp(disch:=omega) [h2,h3,h4,hF,VY]
  simp(disch:=omega) [h2,h3,h4,VY]
  refine aB (aX t.entries[i].high 0 (IntKind.i64.wrap (t.view - 1))) ?_
  simp(disch:=omega) [h2,h3,h4,VY]
  refine ak (fun h6=> ?_) (fun h6=> ?_) <;>simp(disch:=omega) [h2,h3,h4,h6,hF,VY]
  refine aB (cu [t.entries[i].tag] (by simp)) ?_ (ha:=by first|rfl|(simp[cX,VY] <;>repeat' constructor))
  simp(disch:=omega) [h2,h3,h4,h6,gz,VY]
  refine ak (fun h7=> ?_) (fun h7=> ?_)
  case refine_2=>simp(disch:=omega) [h2,h3,h4,h6,h7,hF,VY]
  simp(disch:=omega) [h2,h3,h4,h6,h7,VY]
  exact hP (i+1) (g - 1) _ _ (by omega) (by omega) (by simp(disch:=omega) [VY]) (by simp(disch:=omega) [VY])
 ·simp(disch:=omega) [h2,h3,VY]
  refine aB (aX t.entries[i].high 0 (IntKind.i64.wrap (t.view - 1))) ?_
  simp(disch:=omega) [h2,h3,VY]
  refine ak (fun h6=> ?_) (fun h6=> ?_) <;>simp(disch:=omega) [h2,h3,h6,hF,VY]
  refine aB (cu [t.entries[i].tag] (by simp)) ?_ (ha:=by first|rfl|(simp[cX,VY] <;>repeat' constructor))
  simp(disch:=omega) [h2,h3,h6,gz,VY]
  refine ak (fun h7=> ?_) (fun h7=> ?_)
  case refine_2=>simp(disch:=omega) [h2,h3,h6,h7,hF,VY]
  simp(disch:=omega) [h2,h3,h6,h7,VY]
  exact hP (i+1) (g - 1) _ _ (by omega) (by omega) (by simp(disch:=omega) [VY]) (by simp(disch:=omega) [VY])
theorem BI (l:aF) (t:Tc) (hw:t.wf):VC cd ic (aO [(true,l.c),(true,t.c)]) (fun rs _=>rs=bl (gY l t)):=by
 cases h0:l.ok && isNum t.view with
 |true=>exact C6 l t hw h0
 |false=>exact Dk l t hw h0
abbrev ui:Nat:=236
def uj:AF:=⟨2,7,[.tmp 4],(.seq (.ops [.i (.lbox 2 (.s 0)), .i (.lbox 3 (.s 1)), .i (.mov 4 (qb false))]) (.seq (.seq (.ops [ql 7 2 2 5 true,qk 9 142 7, .i (.not 9 (.s 8)),qm 10 9, .g 10 false 12 (.fad 11 (.s 3) 0), .g 10 false 13 (.ldl 12 3 (.s 11) 1 false), .g 10 false 14 (.call 14 201 false [(.s 12)]), .g 10 false 15 (.not 14 (.s 13)), .i (.pick 15 (.s 10) (qb true) (.s 14)),qm 16 15, .g 16 false 18 (.fad 17 (.s 3) 1), .g 16 false 19 (.ldl 18 3 (.s 17) 1 false), .g 16 false 20 (.len 19 false (.s 18)), .g 16 false 21 (.fad 20 (.s 2) 0), .g 16 false 22 (.ldl 21 2 (.s 20) 1 false), .g 16 false 23 (.bin 22 .gtr (.s 19) (.s 21)), .i (.pick 23 (.s 16) (qb true) (.s 22))]) (.cond (.s 23) (.seq (.ops [.i (.mov 4 (qb false))]) .ret) .skip)) (.seq (.seq (.ops [qf 24 3 1,ql 25 3 24 1 false,qn 26 25, .i (.mov 27 (qi 0))]) (.block 0 (.loop [73,72,71,70,69,68,67,66,65,64,63,62,61,60,59,58,57,56,55,54,53,52,51,50,49,48,47,46,45,44,43,42,41,40,39,38,37,36,35,34,33,32,31,30,29,28,6,5] (.seq (.ops [qd 28 .lss 27 26]) (.seq (.cond (.s 28) .skip (.exit 0)) (.seq (.block 1 (.seq (.ops [qm 29 27, .i (.iad 30 (.s 25) (.s 27) 3), .i (.ldh 31 (.s 30) 3 true), .i (.lal 6 [.int .i64 0, .int .i64 0, .nils]),qm 5 29,qs 6 6 31 3]) (.seq (.ops [qf 32 6 0,ql 33 6 32 1 false,qf 34 2 0,ql 35 2 34 1 false, .i (.bin 36 .sub (.s 35) (qi 1)), .i (.call 38 152 false [(.s 33),(qi 0),(.s 36)]), .i (.not 38 (.s 37)),qm 39 38, .g 39 false 41 (.fad 40 (.s 6) 1), .g 39 false 42 (.ldl 41 6 (.s 40) 1 false), .g 39 false 43 (.bin 42 .lss (.s 41) (qi 0)), .i (.pick 43 (.s 39) (qb true) (.s 42)),qm 44 43, .g 44 false 46 (.fad 45 (.s 6) 1), .g 44 false 47 (.ldl 46 6 (.s 45) 1 false), .g 44 false 48 (.fad 47 (.s 3) 0), .g 44 false 49 (.ldl 48 3 (.s 47) 1 false), .g 44 false 50 (.bin 49 .geq (.s 46) (.s 48)), .i (.pick 50 (.s 44) (qb true) (.s 49)),qm 51 50, .g 51 false 53 (.fad 52 (.s 6) 2), .g 51 false 54 (.ldl 53 6 (.s 52) 1 false), .g 51 false 55 (.call 55 202 false [(.s 53)]), .g 51 false 56 (.not 55 (.s 54)), .i (.pick 56 (.s 51) (qb true) (.s 55)),qm 57 56, .g 57 false 59 (.mov 58 (.s 5)), .g 57 false 60 (.bin 59 .gtr (.s 58) (qi 0)), .g 57 false 61 (.mov 60 (.s 59)), .g 60 true 62 (.fad 61 (.s 3) 1), .g 60 true 63 (.ldl 62 3 (.s 61) 1 false), .g 60 true 64 (.mov 63 (.s 5)), .g 60 true 65 (.bin 64 .sub (.s 63) (qi 1)), .g 60 true 66 (.iad 65 (.s 62) (.s 64) 3), .g 60 true 67 (.fad 66 (.s 65) 0), .g 60 true 68 (.ldh 67 (.s 66) 1 false), .g 60 true 69 (.fad 68 (.s 6) 0), .g 60 true 70 (.ldl 69 6 (.s 68) 1 false), .g 60 true 71 (.bin 70 .geq (.s 67) (.s 69)), .g 57 false 72 (.pick 71 (.s 60) (.s 70) (qb false)), .i (.pick 72 (.s 57) (qb true) (.s 71))]) (.cond (.s 72) (.seq (.ops [.i (.mov 4 (qb false))]) .ret) .skip)))) (.ops [.i (.bin 73 .add (.s 27) (qi 1)),qm 27 73]))))))) (.seq (.ops [.i (.mov 4 (qb true))]) .ret))))⟩
theorem C8:cd ui=some uj:=by kernel_rfl
theorem AU (l:aF) (t:Tc) (hw:t.wf):VC cd ui (aO [(true,l.c),(true,t.c)]) (fun rs _=>rs=bl (gY l t)):=by
 have w1:=hw.2.1
 simp only[Sz]at w1
 refine aa C8 rfl ?_
 simp(disch:=omega) [uj,aF.c,Tc.c,VY]
 refine aB (cB l) ?_ (ha:=by first|rfl|(simp[aF.c,VY] <;>repeat' constructor))
 simp(disch:=omega) [VY]
 refine ak (fun h1=> ?_) (fun h1=> ?_)
 case refine_2=>simp(disch:=omega) [h1,gY,VY]
 simp(disch:=omega) [h1,VY]
 refine aB (eB t.view) ?_
 simp(disch:=omega) [h1,VY]
 refine ak (fun h2=> ?_) (fun h2=> ?_)
 case refine_2=>simp(disch:=omega) [h1,h2,gY,VY]
 have hn:=iD h1
 have hv:=dK h2
 simp(disch:=omega) [h1,h2,bJ,VY]
 refine ab (fun h3=> ?_) (fun h3=> ?_)
 ·simp(disch:=omega) [h1,h2,h3,gY,show ¬(t.entries.length:Int)≤l.n by omega,VY]
 simp(disch:=omega) [h1,h2,h3,bJ,VY]
 refine eO (σ:=Nat) (f1:=_) (es0:=_) (by simp(disch:=omega) [VY];rfl) (by simp(disch:=omega) [VY];rfl) (fun i=> [(27, .val false [.int .i64 (i:Int)])]) (fun _=> []) (fun i g=>g+i=t.entries.length∧∀j,j < i→bR l t j=true) 0 t.entries.length (by simp(disch:=omega) [VY]) (by simp(disch:=omega) [VY]) ⟨by omega,fun j hj=>by omega⟩ ?_
 rintro i n g ⟨hg,hd⟩ P hP
 simp(disch:=omega) [VY]
 refine ab (fun g1=> ?_) (fun g1=> ?_)
 case refine_2=>
  have hY:=Ci (l:=l) (t:=t) (fun i hi=>hd i (by omega))
  simp(disch:=omega) [h1,h2,hY,show(t.entries.length:Int)≤l.n by omega,VY]
 have hi:i < t.entries.length:=by omega
 simp(disch:=omega) [dF hi,VY]
 refine aB (cc t.entries[i].who 0 (l.n - 1)) ?_
 simp(disch:=omega) [VY]
 refine ak (fun g2=> ?_) (fun g2=> ?_)
 case refine_2=>simp(disch:=omega) [g2,eT hi (show bR l t i=false by simp[bR,hi,g2]),VY]
 simp(disch:=omega) [g2,VY]
 refine ab (fun g3=> ?_) (fun g3=> ?_)
 ·have e5:eW t.entries[i].high 0 (t.view - 1)=false:=by simp only[eW,decide_eq_false_iff_not];omega
  simp(disch:=omega) [g2,g3,eT hi (show bR l t i=false by simp[bR,hi,e5]),VY]
 simp(disch:=omega) [g2,g3,VY]
 refine ab (fun g4=> ?_) (fun g4=> ?_)
 ·have e5:eW t.entries[i].high 0 (t.view - 1)=false:=by simp only[eW,decide_eq_false_iff_not];omega
  simp(disch:=omega) [g2,g3,g4,eT hi (show bR l t i=false by simp[bR,hi,e5]),VY]
 have e5:eW t.entries[i].high 0 (t.view - 1)=true:=by simp only[eW,decide_eq_true_eq];omega
 simp(disch:=omega) [g2,g3,g4,VY]
 refine aB (eo t.entries[i].tag) ?_
 simp(disch:=omega) [g2,g3,g4,VY]
 refine ak (fun g5=> ?_) (fun g5=> ?_)
 case refine_2=>simp(disch:=omega) [g2,g3,g4,g5,eT hi (show bR l t i=false by simp[bR,hi,g5]),VY]
 simp(disch:=omega) [g2,g3,g4,g5,VY]
 refine ab (fun g6=> ?_) (fun g6=> ?_)
 ·have hj:i - 1 < t.entries.length:=by omega
  have e1:((i:Int) - 1).toNat=i - 1:=by omega
  have e2:(1:Int)≤(i:Int):=by omega
  have e3:¬i=0:=by omega
  simp(disch:=omega) [g2,g3,g4,g5,g6,bJ,e1,e2,dF hj,VY]
  refine ab (fun g7=> ?_) (fun g7=> ?_)
  ·simp(disch:=omega) [g2,g3,g4,g5,g6,g7,eT hi (show bR l t i=false by simp[bR,hi,hj,e3,show ¬t.entries[i - 1].who < t.entries[i].who by omega]),VY]
  have e4:t.entries[i - 1].who < t.entries[i].who:=by omega
  simp(disch:=omega) [g2,g3,g4,g5,g6,g7,VY]
  exact hP (i+1) (g - 1) _ _ (by omega) ⟨by omega,su hd (by simp[bR,hi,g2,e5,g5,hj,e4])⟩ (by simp(disch:=omega) [VY]) (by simp(disch:=omega) [VY])
 ·have e4:i=0:=by omega
  simp(disch:=omega) [g2,g3,g4,g5,g6,VY]
  exact hP (i+1) (g - 1) _ _ (by omega) ⟨by omega,su hd (by subst e4;simp[bR,hi,g2,e5,g5])⟩ (by simp(disch:=omega) [VY]) (by simp(disch:=omega) [VY])
abbrev rF:Nat:=178
def ru:AF:=⟨3,5,[.tmp 6, .tmp 7],(.seq (.ops [.i (.lbox 3 (.s 0)), .i (.lbox 5 (.s 2)), .i (.mov 6 (.c (.val false [.nils]))), .i (.mov 7 (qb false))]) (.seq (.seq (.ops [ql 9 3 3 5 true,ql 10 5 5 5 true, .i (.call 12 128 false [(.s 9),(.s 10)]), .i (.not 12 (.s 11))]) (.cond (.s 12) (.seq (.ops [.i (.mov 6 (.c (.val false [.nils]))), .i (.mov 7 (qb false))]) .ret) .skip)) (.seq (.ops [qm 13 1,qk 15 60 13, .i (.bld 15 [.nils] [(0,1,(.s 14))]), .i (.hbox 16 228 (.s 15)),qm 8 16]) (.seq (.ops [qm 17 8,ql 18 5 5 5 true, .i (.call 20 243 false [(.s 17),(.s 18)])]) (.seq (.ops [qm 20 8, .i (.nch 21 (.s 20)),qf 22 21 0, .i (.ldh 23 (.s 22) 1 false),qm 6 23, .i (.mov 7 (qb true))]) .ret)))))⟩
theorem A0:cd rF=some ru:=by kernel_rfl
theorem py (l:aF) (b:Bytes) (q:Qc) (hw:q.wf) (hb:b.length≤900000000):VC cd rF (aO [(true,l.c),(false,[.sl (bytes b)]),(true,q.c)]) (fun rs _=>rs=aY (gJ l q) (b++F3 q)):=by
 refine aa A0 rfl ?_
 simp(disch:=omega) [ru,Qc.c,aF.c,VY]
 refine ah (jM l q hw) rfl rfl ?_
 simp(disch:=omega) [VY]
 refine ak (fun h0=> ?_) (fun h0=> ?_)
 case refine_2=>simp(disch:=omega) [h0,aY,VY]
 have hs:=ov h0
 simp(disch:=omega) [h0,VY]
 refine ah (aR b (by omega)) rfl rfl ?_
 simp(disch:=omega) [VZ]
 refine pU (jJ _ q hs ?_) ?_
 ·(try simp only[List.length_append]);omega
 simp(disch:=omega) [aY,h0,VZ]
abbrev ke:Nat:=170
def lh:AF:=⟨3,6,[.tmp 6, .tmp 7],(.seq (.ops [.i (.lbox 3 (.s 0)), .i (.lbox 5 (.s 2)), .i (.mov 6 (.c (.val false [.nils]))), .i (.mov 7 (qb false))]) (.seq (.seq (.ops [ql 12 3 3 5 true,ql 13 5 5 11 true, .i (.call 15 234 false [(.s 12),(.s 13)]), .i (.not 15 (.s 14))]) (.cond (.s 15) (.seq (.ops [.i (.mov 6 (.c (.val false [.nils]))), .i (.mov 7 (qb false))]) .ret) .skip)) (.seq (.ops [ql 17 3 3 5 true,qm 18 1,qf 19 5 0,ql 20 5 19 10 true, .i (.call 22 169 false [(.s 17),(.s 18),(.s 20)]),qm 16 21, .i (.ext 22 (.s 16) 0), .i (.ext 23 (.s 16) 1),qm 8 22,qm 9 23]) (.seq (.ops [qm 24 8,qf 25 5 10,ql 26 5 25 1 false,qn 27 26, .i (.call 29 233 false [(.s 24),(.s 27)]),qm 8 28]) (.seq (.seq (.ops [qf 29 5 10,ql 30 5 29 1 false,qn 31 30, .i (.mov 32 (qi 0))]) (.block 0 (.loop [39,38,37,36,35,34,33,11] (.seq (.ops [qd 33 .lss 32 31]) (.seq (.cond (.s 33) .skip (.exit 0)) (.seq (.block 1 (.seq (.ops [.i (.iad 34 (.s 30) (.s 32) 1), .i (.ldh 35 (.s 34) 1 false),qm 11 35]) (.ops [qm 36 8,qm 37 11, .i (.call 39 235 false [(.s 36),(.s 37)]),qm 8 38]))) (.ops [.i (.bin 39 .add (.s 32) (qi 1)),qm 32 39]))))))) (.seq (.ops [qm 40 8,qm 6 40, .i (.mov 7 (qb true))]) .ret))))))⟩
theorem vg:cd ke=some lh:=by kernel_rfl
theorem jA (l:aF) (b:Bytes) (x:Block) (hw:x.wc∧∀t∈x.txs,t.length≤100000000) (hb:b.length≤800000000):VC cd ke (aO [(true,l.c),(false,[.sl (bytes b)]),(true,x.c)]) (fun rs _=>rs=aY (bW l x) (b++me x)):=by
 refine aa vg rfl ?_
 simp(disch:=omega) [lh,Block.c,Head.c,aF.c,VY]
 refine aB (vc l x hw.1 (fun t ht=>by have:=hw.2 t ht;omega)) ?_ (ha:=by first|rfl|(simp[aF.c,Block.c,Head.c,VY] <;>repeat' constructor))
 simp(disch:=omega) [VY]
 refine ak (fun h0=> ?_) (fun h0=> ?_)
 case refine_2=>simp(disch:=omega) [h0,aY,VY]
 have hh:=gk h0
 have hf:=lZ h0
 have ht:=lV h0
 have hs:=gl (dz hh)
 simp(disch:=omega) [h0,VY]
 refine aB ((ei l b x.head hw.1.1.1 (by omega)).re (bI hh)) ?_ (ha:=by first|rfl|(simp[aF.c,Head.c,VY] <;>repeat' constructor))
 simp(disch:=omega) [h0,ay,VY]
 refine aB (bu (b++eA x.head) x.txs.length (fK (by omega)) (by simp only[List.length_append];omega)) ?_
 have h1:=bP (n:=x.txs.length) (by omega)
 simp(disch:=omega) [h0,ay,VY]
 refine eU (σ:=Nat×Nat×Nat) (f1:=_) (by simp(disch:=omega) [VY];rfl) (fun p=> [(32, .val false [.int .i64 (p.1:Int)]),(8, .val false [.ow p.2.1 p.2.2])]) (fun p=> [(p.2.1, .sl p.2.2 true true (some (5,1)) (bytes (b++(eA x.head++(aW x.txs.length++dO (x.txs.take p.1))))))]) (fun p g=>g+p.1=x.txs.length∧(p.2.1=245760∨p.2.1=327680)) (0,245760,20) x.txs.length (by simp(disch:=omega) [VY]) (by simp(disch:=omega) [show dO []= []from rfl,VY]) ⟨by omega, .inl rfl⟩ ?_
 rintro⟨i,key,v⟩ n g ⟨hg,hk⟩ P hP
 simp only at hg hk
 have hlt:∀t∈x.txs.take i,t.length≤1000:=fun t h=>ht t (List.mem_of_mem_take h)
 have hl:=jK hlt
 have hl2:(x.txs.take i).length≤8:=by rw[List.length_take];omega
 have hl3:(dO (x.txs.take i)).length≤8072:=by omega
 rcases hk with rfl|rfl
 all_goals
  simp(disch:=omega) [VY]
  refine ab (fun h2=> ?_) (fun h2=> ?_)
  ·have hi:i < x.txs.length:=by omega
   have hx:=ht _ (List.getElem_mem hi)
   simp(disch:=omega) [cM hi,VY]
   refine aB (kW (b++(eA x.head++(aW x.txs.length++dO (x.txs.take i)))) x.txs[i] (by simp only[List.length_append];omega) (by omega)) ?_
   simp(disch:=omega) [VY]
   exact hP (i+1,327680,_) (g - 1) _ _ (by omega) ⟨by simp only;omega, .inr rfl⟩ (by simp(disch:=omega) [VY];rfl) (by simp(disch:=omega) [uE hi,VY])
  ·have hi:i=x.txs.length:=by omega
   subst hi
   simp(disch:=omega) [aY,me,dO,List.take_length,VY]
abbrev kY:Nat:=179
def kP:AF:=⟨3,6,[.tmp 6, .tmp 7],(.seq (.ops [.i (.lbox 3 (.s 0)), .i (.lbox 5 (.s 2)), .i (.mov 6 (.c (.val false [.nils]))), .i (.mov 7 (qb false))]) (.seq (.seq (.ops [ql 11 3 3 5 true,ql 12 5 5 11 true, .i (.call 14 244 false [(.s 11),(.s 12)]), .i (.not 14 (.s 13))]) (.cond (.s 14) (.seq (.ops [.i (.mov 6 (.c (.val false [.nils]))), .i (.mov 7 (qb false))]) .ret) .skip)) (.seq (.ops [qm 15 1,qk 17 60 15, .i (.bld 17 [.nils] [(0,1,(.s 16))]), .i (.hbox 18 228 (.s 17)),qm 8 18]) (.seq (.ops [qm 19 8,qf 20 5 0,ql 21 5 20 10 true, .i (.call 23 216 false [(.s 19),(.s 21)])]) (.seq (.ops [qm 23 8,qf 24 5 10,ql 25 5 24 1 false,qn 26 25, .i (.call 28 241 false [(.s 23),(.s 26)])]) (.seq (.seq (.ops [qf 28 5 10,ql 29 5 28 1 false,qn 30 29, .i (.mov 31 (qi 0))]) (.block 0 (.loop [44,43,42,41,40,39,38,37,36,35,34,33,32,10] (.seq (.ops [qd 32 .lss 31 30]) (.seq (.cond (.s 32) .skip (.exit 0)) (.seq (.block 1 (.seq (.ops [.i (.iad 33 (.s 29) (.s 31) 1), .i (.ldh 34 (.s 33) 1 false),qm 10 34]) (.ops [qm 35 8,qm 36 8, .i (.nch 37 (.s 36)),qf 38 37 0, .i (.ldh 39 (.s 38) 1 false),qm 40 10, .i (.call 42 245 false [(.s 39),(.s 40)]), .i (.nch 42 (.s 35)),qf 43 42 0, .i (.sth (.s 43) (.s 41) 1)]))) (.ops [.i (.bin 44 .add (.s 31) (qi 1)),qm 31 44]))))))) (.seq (.ops [qm 45 8, .i (.nch 46 (.s 45)),qf 47 46 0, .i (.ldh 48 (.s 47) 1 false),qm 6 48, .i (.mov 7 (qb true))]) .ret)))))))⟩
theorem uZ:cd kY=some kP:=by kernel_rfl
theorem iI (l:aF) (b:Bytes) (x:Block) (hw:x.wc∧∀t∈x.txs,t.length≤100000000) (hb:b.length≤800000000):VC cd kY (aO [(true,l.c),(false,[.sl (bytes b)]),(true,x.c)]) (fun rs _=>rs=aY (bW l x) (b++me x)):=by
 refine aa uZ rfl ?_
 simp(disch:=omega) [kP,Block.c,Head.c,aF.c,VY]
 refine aB (vk l x hw.1 (fun t ht=>by have:=hw.2 t ht;omega)) ?_ (ha:=by first|rfl|(simp[aF.c,Block.c,Head.c,VY] <;>repeat' constructor))
 simp(disch:=omega) [VY]
 refine ak (fun h0=> ?_) (fun h0=> ?_)
 case refine_2=>simp(disch:=omega) [h0,aY,VY]
 have hh:=gk h0
 have hf:=lZ h0
 have ht:=lV h0
 have hz:=dz hh
 have hs:=gl hz
 simp(disch:=omega) [h0,VY]
 refine ah (aR b (by omega)) rfl rfl ?_
 simp(disch:=omega) [VZ]
 refine pU (gD _ x.head hz ?_) ?_
 ·(try simp only[List.length_append]);omega
 simp(disch:=omega) [ay,VZ]
 refine pU (aK _ x.txs.length (fK (by omega)) ?_) ?_
 ·(try simp only[List.length_append]);omega
 have h1:=bP (n:=x.txs.length) (by omega)
 simp(disch:=omega) [ay,VZ]
 refine eU (σ:=Nat×Nat×Nat) (f1:=_) (by simp(disch:=omega) [VZ];rfl) (fun p=> [(31, .val false [.int .i64 (p.1:Int)])]) (fun p=> [(18, .pt 19 228 [.ow p.2.1 p.2.2]),(p.2.1, .sl p.2.2 true true (some (5,1)) (bytes (b++(eA x.head++(aW x.txs.length++dO (x.txs.take p.1))))))]) (fun p g=>g+p.1=x.txs.length∧(p.2.1=1099511701504∨p.2.1=352256)) (0,1099511701504,23) x.txs.length (by simp(disch:=omega) [VZ]) (by simp(disch:=omega) [show dO []= []from rfl,VZ]) ⟨by omega, .inl rfl⟩ ?_
 rintro⟨i,key,v⟩ n g ⟨hg,hk⟩ P hP
 simp only at hg hk
 have hlt:∀t∈x.txs.take i,t.length≤1000:=fun t h=>ht t (List.mem_of_mem_take h)
 have hl:=jK hlt
 have hl2:(x.txs.take i).length≤8:=by rw[List.length_take];omega
 have hl3:(dO (x.txs.take i)).length≤8072:=by omega
 rcases hk with rfl|rfl
 all_goals
  simp(disch:=omega) [VZ]
  refine ab (fun h2=> ?_) (fun h2=> ?_)
  ·have hi:i < x.txs.length:=by omega
   have hx:=ht _ (List.getElem_mem hi)
   simp(disch:=omega) [cM hi,VZ]
   refine aB (kv (b++(eA x.head++(aW x.txs.length++dO (x.txs.take i)))) x.txs[i] (by simp only[List.length_append];omega) (by omega)) ?_
   simp(disch:=omega) [VZ]
   exact hP (i+1,352256,_) (g - 1) _ _ (by omega) ⟨by simp only;omega, .inr rfl⟩ (by simp(disch:=omega) [VZ]) (by simp(disch:=omega) [uE hi,VZ];rfl)
  ·have hi:i=x.txs.length:=by omega
   subst hi
   simp(disch:=omega) [aY,me,dO,List.take_length,VZ]
theorem xP {l:aF} {t:Tc} (h:gY l t=true):t.entries.length≤10∧isNum t.view=true∧∀e∈t.entries,isNum e.who=true∧isNum e.high=true∧e.tag.length=32:=by
 simp only[gY,Bool.and_eq_true,decide_eq_true_eq,List.all_eq_true,List.mem_range]at h
 obtain⟨⟨⟨h1,h2⟩,h3⟩,h4⟩:=h
 have hn:=iD h1
 have hv:=dK h2
 refine⟨by omega,h2,fun e he=> ?_⟩
 obtain⟨i,hi,rfl⟩:=List.mem_iff_getElem.1 he
 have h5:=h4 i hi
 simp only[bR,List.getElem?_eq_getElem hi,Bool.and_eq_true]at h5
 obtain⟨⟨⟨g1,g2⟩,g3⟩,_⟩:=h5
 have g1':=dK g1
 have g2':=dK g2
 exact⟨by simp only[isNum,eW,decide_eq_true_eq];omega,by simp only[isNum,eW,decide_eq_true_eq];omega,rD g3⟩
def fQ (l:List Entry):Bytes:=(l.map FI).flatten
theorem xC {l:List Entry} {i:Nat} (h:i < l.length):fQ (l.take (i+1))=fQ (l.take i)++FI l[i]:=by
 rw[List.take_succ_eq_append_getElem h]
 simp only[fQ,List.map_append,List.map_cons,List.map_nil,List.flatten_append,List.flatten_cons,List.flatten_nil,List.append_nil]
theorem oj:∀ {l:List Entry},(∀e∈l,isNum e.who=true∧isNum e.high=true∧e.tag.length=32)→(fQ l).length≤50 * l.length
 | [],_=>by simp[fQ]
 |a::l,h=>by
  have h1:=oj (l:=l) fun x hx=>h x (by simp[hx])
  obtain⟨g1,g2,g3⟩:=h a (by simp)
  have h2:=az g1
  have h3:=az g2
  simp only[fQ,FI,List.map_cons,List.flatten_cons,List.length_append,List.length_cons]at h1⊢
  omega
abbrev rE:Nat:=180
def sB:AF:=⟨3,6,[.tmp 6, .tmp 7],(.seq (.ops [.i (.lbox 3 (.s 0)), .i (.lbox 5 (.s 2)), .i (.mov 6 (.c (.val false [.nils]))), .i (.mov 7 (qb false))]) (.seq (.seq (.ops [ql 11 3 3 5 true,ql 12 5 5 2 true, .i (.call 14 246 false [(.s 11),(.s 12)]), .i (.not 14 (.s 13))]) (.cond (.s 14) (.seq (.ops [.i (.mov 6 (.c (.val false [.nils]))), .i (.mov 7 (qb false))]) .ret) .skip)) (.seq (.ops [qm 15 1,qk 17 60 15, .i (.bld 17 [.nils] [(0,1,(.s 16))]), .i (.hbox 18 228 (.s 17)),qm 8 18]) (.seq (.ops [qm 19 8,qf 20 5 0,ql 21 5 20 1 false, .i (.call 23 241 false [(.s 19),(.s 21)])]) (.seq (.ops [qm 23 8,qf 24 5 1,ql 25 5 24 1 false,qn 26 25, .i (.call 28 241 false [(.s 23),(.s 26)])]) (.seq (.seq (.ops [qf 28 5 1,ql 29 5 28 1 false,qn 30 29, .i (.mov 31 (qi 0))]) (.block 0 (.loop [47,46,45,44,43,42,41,40,39,38,37,36,35,34,33,32,10] (.seq (.ops [qd 32 .lss 31 30]) (.seq (.cond (.s 32) .skip (.exit 0)) (.seq (.block 1 (.seq (.ops [.i (.iad 33 (.s 29) (.s 31) 3), .i (.ldh 34 (.s 33) 3 true), .i (.lal 10 [.int .i64 0, .int .i64 0, .nils]),qs 10 10 34 3]) (.seq (.ops [qm 35 8,qf 36 10 0,ql 37 10 36 1 false, .i (.call 39 241 false [(.s 35),(.s 37)])]) (.seq (.ops [qm 39 8,qf 40 10 1,ql 41 10 40 1 false, .i (.call 43 241 false [(.s 39),(.s 41)])]) (.ops [qm 43 8,qf 44 10 2,ql 45 10 44 1 false, .i (.call 47 242 false [(.s 43),(.s 45)])]))))) (.ops [.i (.bin 47 .add (.s 31) (qi 1)),qm 31 47]))))))) (.seq (.ops [qm 48 8, .i (.nch 49 (.s 48)),qf 50 49 0, .i (.ldh 51 (.s 50) 1 false),qm 6 51, .i (.mov 7 (qb true))]) .ret)))))))⟩
theorem Bu:cd rE=some sB:=by kernel_rfl
theorem qv (l:aF) (b:Bytes) (t:Tc) (hw:t.wf) (hb:b.length≤800000000):VC cd rE (aO [(true,l.c),(false,[.sl (bytes b)]),(true,t.c)]) (fun rs _=>rs=aY (gY l t) (b++J1 t)):=by
 refine aa Bu rfl ?_
 simp(disch:=omega) [sB,Tc.c,aF.c,VY]
 refine aB (BI l t hw) ?_ (ha:=by first|rfl|(simp[aF.c,Tc.c,VY] <;>repeat' constructor))
 simp(disch:=omega) [VY]
 refine ak (fun h0=> ?_) (fun h0=> ?_)
 case refine_2=>simp(disch:=omega) [h0,aY,VY]
 obtain⟨hf,hv,he⟩:=xP h0
 have h3:=az hv
 have h1:=bP (n:=t.entries.length) (by omega)
 simp(disch:=omega) [h0,VY]
 refine ah (aR b (by omega)) rfl rfl ?_
 simp(disch:=omega) [VZ]
 refine pU (aK _ t.view hv ?_) ?_
 ·(try simp only[List.length_append]);omega
 simp(disch:=omega) [bJ,VZ]
 refine pU (aK _ t.entries.length (fK (by omega)) ?_) ?_
 ·(try simp only[List.length_append]);omega
 simp(disch:=omega) [bJ,VZ]
 refine eU (σ:=Nat×Nat) (f1:=_) (by simp(disch:=omega) [VZ];rfl) (fun p=> [(31, .val false [.int .i64 (p.1:Int)])]) (fun p=> [(18, .pt 10 228 [.ow 1099511701504 p.2]),(1099511701504, .sl p.2 true true (some (5,1)) (bytes (b++(aW t.view.toNat++(aW t.entries.length++fQ (t.entries.take p.1))))))]) (fun p g=>g+p.1=t.entries.length) (0,14) t.entries.length (by simp(disch:=omega) [VZ]) (by simp(disch:=omega) [show fQ []= []from rfl,VZ]) (by omega) ?_
 rintro⟨i,v⟩ n g hg P hP
 simp only at hg
 have hlt:∀e∈t.entries.take i,isNum e.who=true∧isNum e.high=true∧e.tag.length=32:=fun e h=>he e (List.mem_of_mem_take h)
 have hl:=oj hlt
 have hl2:(t.entries.take i).length≤10:=by rw[List.length_take];omega
 have hl3:(fQ (t.entries.take i)).length≤500:=by omega
 simp(disch:=omega) [VZ]
 refine ab (fun h2=> ?_) (fun h2=> ?_)
 ·have hi:i < t.entries.length:=by omega
  obtain⟨g1,g2,g3⟩:=he _ (List.getElem_mem hi)
  have g4:=az g1
  have g5:=az g2
  simp(disch:=omega) [dF hi,VZ]
  refine pU (aK _ t.entries[i].who g1 ?_) ?_
  ·(try simp only[List.length_append]);omega
  simp(disch:=omega) [VZ]
  refine pU (aK _ t.entries[i].high g2 ?_) ?_
  ·(try simp only[List.length_append]);omega
  simp(disch:=omega) [VZ]
  refine pU (bU _ t.entries[i].tag (by omega) ?_) ?_
  ·(try simp only[List.length_append]);omega
  simp(disch:=omega) [VZ]
  exact hP (i+1,_) (g - 1) _ _ (by omega) (by simp only;omega) (by simp(disch:=omega) [VZ]) (by simp(disch:=omega) [xC hi,FI,VZ];rfl)
 ·have hi:i=t.entries.length:=by omega
  subst hi
  simp(disch:=omega) [aY,J1,fQ,List.take_length,VZ]
abbrev sG:Nat:=171
def rV:AF:=⟨3,6,[.tmp 6, .tmp 7],(.seq (.ops [.i (.lbox 3 (.s 0)), .i (.lbox 5 (.s 2)), .i (.mov 6 (.c (.val false [.nils]))), .i (.mov 7 (qb false))]) (.seq (.seq (.ops [ql 11 3 3 5 true,ql 12 5 5 2 true, .i (.call 14 236 false [(.s 11),(.s 12)]), .i (.not 14 (.s 13))]) (.cond (.s 14) (.seq (.ops [.i (.mov 6 (.c (.val false [.nils]))), .i (.mov 7 (qb false))]) .ret) .skip)) (.seq (.ops [qm 15 1,qf 16 5 0,ql 17 5 16 1 false, .i (.call 19 233 false [(.s 15),(.s 17)]),qf 19 5 1,ql 20 5 19 1 false,qn 21 20, .i (.call 23 233 false [(.s 18),(.s 21)]),qm 8 22]) (.seq (.seq (.ops [qf 23 5 1,ql 24 5 23 1 false,qn 25 24, .i (.mov 26 (qi 0))]) (.block 0 (.loop [40,39,38,37,36,35,34,33,32,31,30,29,28,27,10] (.seq (.ops [qd 27 .lss 26 25]) (.seq (.cond (.s 27) .skip (.exit 0)) (.seq (.block 1 (.seq (.ops [.i (.iad 28 (.s 24) (.s 26) 3), .i (.ldh 29 (.s 28) 3 true), .i (.lal 10 [.int .i64 0, .int .i64 0, .nils]),qs 10 10 29 3]) (.ops [qm 30 8,qf 31 10 0,ql 32 10 31 1 false, .i (.call 34 233 false [(.s 30),(.s 32)]),qf 34 10 1,ql 35 10 34 1 false, .i (.call 37 233 false [(.s 33),(.s 35)]),qf 37 10 2,ql 38 10 37 1 false, .i (.app 39 5 1 1 (.s 36) (.s 38)),qm 8 39]))) (.ops [.i (.bin 40 .add (.s 26) (qi 1)),qm 26 40]))))))) (.seq (.ops [qm 41 8,qm 6 41, .i (.mov 7 (qb true))]) .ret)))))⟩
theorem A7:cd sG=some rV:=by kernel_rfl
theorem pG (l:aF) (b:Bytes) (t:Tc) (hw:t.wf) (hb:b.length≤800000000):VC cd sG (aO [(true,l.c),(false,[.sl (bytes b)]),(true,t.c)]) (fun rs _=>rs=aY (gY l t) (b++J1 t)):=by
 refine aa A7 rfl ?_
 simp(disch:=omega) [rV,Tc.c,aF.c,VY]
 refine aB (AU l t hw) ?_ (ha:=by first|rfl|(simp[aF.c,Tc.c,VY] <;>repeat' constructor))
 simp(disch:=omega) [VY]
 refine ak (fun h0=> ?_) (fun h0=> ?_)
 case refine_2=>simp(disch:=omega) [h0,aY,VY]
 obtain⟨hf,hv,he⟩:=xP h0
 have h3:=az hv
 have h1:=bP (n:=t.entries.length) (by omega)
 simp(disch:=omega) [h0,VY]
 refine aB (bu b t.view hv (by omega)) ?_
 simp(disch:=omega) [h0,bJ,VY]
 refine aB (bu (b++aW t.view.toNat) t.entries.length (fK (by omega)) (by simp only[List.length_append];omega)) ?_
 simp(disch:=omega) [h0,bJ,VY]
 refine eU (σ:=Nat×Nat×Nat) (f1:=_) (by simp(disch:=omega) [VY];rfl) (fun p=> [(26, .val false [.int .i64 (p.1:Int)]),(8, .val false [.ow p.2.1 p.2.2])]) (fun p=> [(p.2.1, .sl p.2.2 true true (some (5,1)) (bytes (b++(aW t.view.toNat++(aW t.entries.length++fQ (t.entries.take p.1))))))]) (fun p g=>g+p.1=t.entries.length∧(p.2.1=196608∨p.2.1=311296)) (0,196608,_) t.entries.length (by simp(disch:=omega) [VY];rfl) (by simp(disch:=omega) [show fQ []= []from rfl,VY]) ⟨by omega, .inl rfl⟩ ?_
 rintro⟨i,key,v⟩ n g ⟨hg,hk⟩ P hP
 simp only at hg hk
 have hlt:∀e∈t.entries.take i,isNum e.who=true∧isNum e.high=true∧e.tag.length=32:=fun e h=>he e (List.mem_of_mem_take h)
 have hl:=oj hlt
 have hl2:(t.entries.take i).length≤10:=by rw[List.length_take];omega
 have hl3:(fQ (t.entries.take i)).length≤500:=by omega
 rcases hk with rfl|rfl
 all_goals
  simp(disch:=omega) [VY]
  refine ab (fun h2=> ?_) (fun h2=> ?_)
  ·have hi:i < t.entries.length:=by omega
   obtain⟨g1,g2,g3⟩:=he _ (List.getElem_mem hi)
   have g4:=az g1
   have g5:=az g2
   simp(disch:=omega) [dF hi,VY]
   refine aB (bu (b++(aW t.view.toNat++(aW t.entries.length++fQ (t.entries.take i)))) t.entries[i].who g1 (by simp only[List.length_append];omega)) ?_
   simp(disch:=omega) [VY]
   refine aB (bu (b++(aW t.view.toNat++(aW t.entries.length++(fQ (t.entries.take i)++aW t.entries[i].who.toNat)))) t.entries[i].high g2 (by simp only[List.length_append];omega)) ?_
   simp(disch:=omega) [db,an,VY]
   exact hP (i+1,311296,_) (g - 1) _ _ (by omega) ⟨by simp only;omega, .inr rfl⟩ (by simp(disch:=omega) [VY];rfl) (by simp(disch:=omega) [xC hi,FI,VY])
  ·have hi:i=t.entries.length:=by omega
   subst hi
   simp(disch:=omega) [aY,J1,fQ,List.take_length,VY]
def dG (l:List Head):Bytes:=(l.map eA).flatten
theorem uC {l:List Head} {i:Nat} (h:i < l.length):dG (l.take (i+1))=dG (l.take i)++eA l[i]:=by
 rw[List.take_succ_eq_append_getElem h]
 simp only[dG,List.map_append,List.map_cons,List.map_nil,List.flatten_append,List.flatten_cons,List.flatten_nil,List.append_nil]
theorem jP:∀ {l:List Head},(∀h∈l,Aj h)→(dG l).length≤1000 * l.length
 | [],_=>by simp[dG]
 |a::l,h=>by
  have h1:=jP (l:=l) fun x hx=>h x (by simp[hx])
  have h2:=gl (h a (by simp))
  simp only[dG,List.map_cons,List.flatten_cons,List.length_append,List.length_cons]at h1⊢
  omega
theorem nH {l:aF} {p:Proof} (h:da l p=true):p.heads.length≤5∧gJ l p.qc=true∧∀x∈p.heads,b5 l x=true:=by
 simp only[da,Bool.and_eq_true]at h
 obtain⟨⟨⟨h1,h2⟩,h3⟩,h4⟩:=h
 have h5:=na h3
 simp only[aF.ok,Bool.and_eq_true]at h5
 have h6:=dK h5.2
 have h7:=dK h1
 refine⟨by omega,h3,fun x hx=> ?_⟩
 simp only[jD,List.all_eq_true]at h2
 exact h2 x hx
abbrev jU:Nat:=181
def km:AF:=⟨3,6,[.tmp 6, .tmp 7],(.seq (.ops [.i (.lbox 3 (.s 0)), .i (.lbox 5 (.s 2)), .i (.mov 6 (.c (.val false [.nils]))), .i (.mov 7 (qb false))]) (.seq (.seq (.ops [ql 11 3 3 5 true,ql 12 5 5 6 true, .i (.call 14 53 false [(.s 11),(.s 12)]), .i (.not 14 (.s 13))]) (.cond (.s 14) (.seq (.ops [.i (.mov 6 (.c (.val false [.nils]))), .i (.mov 7 (qb false))]) .ret) .skip)) (.seq (.ops [qm 15 1,qk 17 60 15, .i (.bld 17 [.nils] [(0,1,(.s 16))]), .i (.hbox 18 228 (.s 17)),qm 8 18]) (.seq (.ops [qm 19 8,qf 20 5 0,ql 21 5 20 1 false,qn 22 21, .i (.call 24 241 false [(.s 19),(.s 22)])]) (.seq (.seq (.ops [qf 24 5 0,ql 25 5 24 1 false,qn 26 25, .i (.mov 27 (qi 0))]) (.block 0 (.loop [34,33,32,31,30,29,28,10] (.seq (.ops [qd 28 .lss 27 26]) (.seq (.cond (.s 28) .skip (.exit 0)) (.seq (.block 1 (.seq (.ops [.i (.iad 29 (.s 25) (.s 27) 10), .i (.ldh 30 (.s 29) 10 true), .i (.lal 10 qz),qs 10 10 30 10]) (.ops [qm 31 8,ql 32 10 10 10 true, .i (.call 34 216 false [(.s 31),(.s 32)])]))) (.ops [.i (.bin 34 .add (.s 27) (qi 1)),qm 27 34]))))))) (.seq (.ops [qm 35 8,qf 36 5 1,ql 37 5 36 5 true, .i (.call 39 243 false [(.s 35),(.s 37)])]) (.seq (.ops [qm 39 8, .i (.nch 40 (.s 39)),qf 41 40 0, .i (.ldh 42 (.s 41) 1 false),qm 6 42, .i (.mov 7 (qb true))]) .ret)))))))⟩
theorem u3:cd jU=some km:=by kernel_rfl
theorem jc (l:aF) (b:Bytes) (p:Proof) (hw:p.wc) (hb:b.length≤800000000):VC cd jU (aO [(true,l.c),(false,[.sl (bytes b)]),(true,p.c)]) (fun rs _=>rs=aY (da l p) (b++nZ p)):=by
 refine aa u3 rfl ?_
 simp(disch:=omega) [km,Proof.c,aF.c,VY]
 refine aB (uY l p hw.1) ?_ (ha:=by first|rfl|(simp[aF.c,Proof.c,VY] <;>repeat' constructor))
 simp(disch:=omega) [VY]
 refine ak (fun h0=> ?_) (fun h0=> ?_)
 case refine_2=>simp(disch:=omega) [h0,aY,VY]
 obtain⟨hf,hq,hh⟩:=nH h0
 have h1:=bP (n:=p.heads.length) (by omega)
 simp(disch:=omega) [h0,VY]
 refine ah (aR b (by omega)) rfl rfl ?_
 simp(disch:=omega) [ct,VZ]
 refine pU (aK _ p.heads.length (fK (by omega)) ?_) ?_
 ·(try simp only[List.length_append]);omega
 simp(disch:=omega) [ct,VZ]
 refine eU (σ:=Nat×Nat) (f1:=_) (by simp(disch:=omega) [VZ];rfl) (fun q=> [(27, .val false [.int .i64 (q.1:Int)])]) (fun q=> [(18, .pt 14 228 [.ow 1099511701504 q.2]),(1099511701504, .sl q.2 true true (some (5,1)) (bytes (b++(aW p.heads.length++dG (p.heads.take q.1)))))]) (fun q g=>g+q.1=p.heads.length) (0,16) p.heads.length (by simp(disch:=omega) [VZ]) (by simp(disch:=omega) [show dG []= []from rfl,VZ]) (by omega) ?_
 rintro⟨i,v⟩ n g hg P hP
 simp only at hg
 have hl:=jP (l:=p.heads.take i) (fun e h=>dz (hh e (List.mem_of_mem_take h)))
 have hl2:(p.heads.take i).length≤5:=by rw[List.length_take];omega
 have hl3:(dG (p.heads.take i)).length≤5000:=by omega
 simp(disch:=omega) [VZ]
 refine ab (fun h2=> ?_) (fun h2=> ?_)
 ·have hi:i < p.heads.length:=by omega
  have hz:=dz (hh _ (List.getElem_mem hi))
  have hy:=gl hz
  simp(disch:=omega) [ek hi,Head.c,VZ]
  refine pU (gD _ p.heads[i] hz ?_) ?_
  ·(try simp only[List.length_append]);omega
  simp(disch:=omega) [VZ]
  exact hP (i+1,_) (g - 1) _ _ (by omega) (by simp only;omega) (by simp(disch:=omega) [VZ]) (by simp(disch:=omega) [uC hi,VZ];rfl)
 ·have hi:i=p.heads.length:=by omega
  subst hi
  rw[List.take_length]at hl3
  simp(disch:=omega) [List.take_length,VZ]
  refine pU (jJ _ p.qc (ov hq) ?_) ?_
  ·(try simp only[List.length_append]);omega
  simp(disch:=omega) [aY,nZ,dG,VZ]
abbrev kD:Nat:=172
def jV:AF:=⟨3,6,[.tmp 6, .tmp 7],(.seq (.ops [.i (.lbox 3 (.s 0)), .i (.lbox 5 (.s 2)), .i (.mov 6 (.c (.val false [.nils]))), .i (.mov 7 (qb false))]) (.seq (.seq (.ops [ql 11 3 3 5 true,ql 12 5 5 6 true, .i (.call 14 237 false [(.s 11),(.s 12)]), .i (.not 14 (.s 13))]) (.cond (.s 14) (.seq (.ops [.i (.mov 6 (.c (.val false [.nils]))), .i (.mov 7 (qb false))]) .ret) .skip)) (.seq (.ops [qm 15 1,qf 16 5 0,ql 17 5 16 1 false,qn 18 17, .i (.call 20 233 false [(.s 15),(.s 18)]),qm 8 19]) (.seq (.seq (.ops [qf 20 5 0,ql 21 5 20 1 false,qn 22 21, .i (.mov 23 (qi 0))]) (.block 0 (.loop [34,33,32,31,30,29,28,27,26,25,24,10] (.seq (.ops [qd 24 .lss 23 22]) (.seq (.cond (.s 24) .skip (.exit 0)) (.seq (.block 1 (.seq (.ops [.i (.iad 25 (.s 21) (.s 23) 10), .i (.ldh 26 (.s 25) 10 true), .i (.lal 10 qz),qs 10 10 26 10]) (.ops [ql 28 3 3 5 true,qm 29 8,ql 30 10 10 10 true, .i (.call 32 169 false [(.s 28),(.s 29),(.s 30)]),qm 27 31, .i (.ext 32 (.s 27) 0), .i (.ext 33 (.s 27) 1),qm 8 32]))) (.ops [.i (.bin 34 .add (.s 23) (qi 1)),qm 23 34]))))))) (.seq (.ops [ql 35 3 3 5 true,qm 36 8,qf 37 5 1,ql 38 5 37 5 true, .i (.call 40 168 false [(.s 35),(.s 36),(.s 38)]), .i (.ext 40 (.s 39) 0), .i (.ext 41 (.s 39) 1),qm 6 40,qm 7 41]) .ret)))))⟩
theorem vj:cd kD=some jV:=by kernel_rfl
theorem iN (l:aF) (b:Bytes) (p:Proof) (hw:p.wc) (hb:b.length≤800000000):VC cd kD (aO [(true,l.c),(false,[.sl (bytes b)]),(true,p.c)]) (fun rs _=>rs=aY (da l p) (b++nZ p)):=by
 refine aa vj rfl ?_
 simp(disch:=omega) [jV,Proof.c,aF.c,VY]
 refine aB (vl l p hw.1) ?_ (ha:=by first|rfl|(simp[aF.c,Proof.c,VY] <;>repeat' constructor))
 simp(disch:=omega) [VY]
 refine ak (fun h0=> ?_) (fun h0=> ?_)
 case refine_2=>simp(disch:=omega) [h0,aY,VY]
 obtain⟨hf,hq,hh⟩:=nH h0
 have h1:=bP (n:=p.heads.length) (by omega)
 simp(disch:=omega) [h0,ct,VY]
 refine aB (bu b p.heads.length (fK (by omega)) (by omega)) ?_
 simp(disch:=omega) [h0,ct,VY]
 refine eU (σ:=Nat×Nat×Nat) (f1:=_) (by simp(disch:=omega) [VY];rfl) (fun q=> [(23, .val false [.int .i64 (q.1:Int)]),(8, .val false [.ow q.2.1 q.2.2])]) (fun q=> [(q.2.1, .sl q.2.2 true true (some (5,1)) (bytes (b++(aW p.heads.length++dG (p.heads.take q.1)))))]) (fun q g=>g+q.1=p.heads.length∧(q.2.1=172032∨q.2.1=270336)) (0,172032,13) p.heads.length (by simp(disch:=omega) [VY]) (by simp(disch:=omega) [show dG []= []from rfl,VY]) ⟨by omega, .inl rfl⟩ ?_
 rintro⟨i,key,v⟩ n g ⟨hg,hk⟩ P hP
 simp only at hg hk
 have hl:=jP (l:=p.heads.take i) (fun e h=>dz (hh e (List.mem_of_mem_take h)))
 have hl2:(p.heads.take i).length≤5:=by rw[List.length_take];omega
 have hl3:(dG (p.heads.take i)).length≤5000:=by omega
 rcases hk with rfl|rfl
 all_goals
  simp(disch:=omega) [VY]
  refine ab (fun h2=> ?_) (fun h2=> ?_)
  ·have hi:i < p.heads.length:=by omega
   have hx:=hh _ (List.getElem_mem hi)
   simp(disch:=omega) [ek hi,Head.c,VY]
   refine aB ((ei l (b++(aW p.heads.length++dG (p.heads.take i))) p.heads[i] (hw.2.1 _ (List.getElem_mem hi)).1 (by simp only[List.length_append];omega)).re (bI hx)) ?_ (ha:=by first|rfl|(simp[aF.c,Head.c,VY] <;>repeat' constructor))
   simp(disch:=omega) [VY]
   exact hP (i+1,270336,_) (g - 1) _ _ (by omega) ⟨by simp only;omega, .inr rfl⟩ (by simp(disch:=omega) [VY];rfl) (by simp(disch:=omega) [uC hi,VY])
  ·have hi:i=p.heads.length:=by omega
   subst hi
   rw[List.take_length]at hl3
   simp(disch:=omega) [List.take_length,VY]
   refine aB ((fy l (b++(aW p.heads.length++dG p.heads)) p.qc hw.2.2.1 (by simp only[List.length_append];omega)).re (bI hq)) ?_ (ha:=by first|rfl|(simp[aF.c,Qc.c,VY] <;>repeat' constructor))
   simp(disch:=omega) [aY,nZ,dG,VY]
theorem qH {l:aF} {x:bp} (h:e7 l x=true):isNum x.height=true∧isNum x.n=true∧isNum x.idx=true∧x.tx.length≤40∧x.path.length≤8∧∀y∈x.path,y.length=32:=by
 simp only[e7,Bool.and_eq_true,decide_eq_true_eq]at h
 obtain⟨⟨⟨⟨⟨⟨h1,h2⟩,h3⟩,h4⟩,h5⟩,h6⟩,h7⟩:=h
 have g1:=Bp h1
 have g3:=dK h3
 have g4:=dK h4
 have g5:=dq x.n.toNat x.idx.toNat
 refine⟨h2,by simp only[isNum,eW,decide_eq_true_eq];omega,by simp only[isNum,eW,decide_eq_true_eq];omega,by omega,by omega,fun y hy=> ?_⟩
 simp only[hashes,List.all_eq_true]at h7
 exact rD (h7 y hy)
abbrev lC:Nat:=182
def nf:AF:=⟨3,6,[.tmp 6, .tmp 7],(.seq (.ops [.i (.lbox 3 (.s 0)), .i (.lbox 5 (.s 2)), .i (.mov 6 (.c (.val false [.nils]))), .i (.mov 7 (qb false))]) (.seq (.seq (.ops [ql 11 3 3 5 true,ql 12 5 5 5 true, .i (.call 14 247 false [(.s 11),(.s 12)]), .i (.not 14 (.s 13))]) (.cond (.s 14) (.seq (.ops [.i (.mov 6 (.c (.val false [.nils]))), .i (.mov 7 (qb false))]) .ret) .skip)) (.seq (.ops [qm 15 1,qk 17 60 15, .i (.bld 17 [.nils] [(0,1,(.s 16))]), .i (.hbox 18 228 (.s 17)),qm 8 18]) (.seq (.ops [qm 19 8,qf 20 5 0,ql 21 5 20 1 false, .i (.call 23 241 false [(.s 19),(.s 21)])]) (.seq (.ops [qm 23 8,qf 24 5 1,ql 25 5 24 1 false, .i (.call 27 241 false [(.s 23),(.s 25)])]) (.seq (.ops [qm 27 8,qf 28 5 2,ql 29 5 28 1 false, .i (.call 31 241 false [(.s 27),(.s 29)])]) (.seq (.ops [qm 31 8,qm 32 8, .i (.nch 33 (.s 32)),qf 34 33 0, .i (.ldh 35 (.s 34) 1 false),qf 36 5 3,ql 37 5 36 1 false, .i (.call 39 245 false [(.s 35),(.s 37)]), .i (.nch 39 (.s 31)),qf 40 39 0, .i (.sth (.s 40) (.s 38) 1)]) (.seq (.seq (.ops [qf 41 5 4,ql 42 5 41 1 false,qn 43 42, .i (.mov 44 (qi 0))]) (.block 0 (.loop [51,50,49,48,47,46,45,10] (.seq (.ops [qd 45 .lss 44 43]) (.seq (.cond (.s 45) .skip (.exit 0)) (.seq (.block 1 (.seq (.ops [.i (.iad 46 (.s 42) (.s 44) 1), .i (.ldh 47 (.s 46) 1 false),qm 10 47]) (.ops [qm 48 8,qm 49 10, .i (.call 51 242 false [(.s 48),(.s 49)])]))) (.ops [.i (.bin 51 .add (.s 44) (qi 1)),qm 44 51]))))))) (.seq (.ops [qm 52 8, .i (.nch 53 (.s 52)),qf 54 53 0, .i (.ldh 55 (.s 54) 1 false),qm 6 55, .i (.mov 7 (qb true))]) .ret)))))))))⟩
theorem ya:cd lC=some nf:=by kernel_rfl
theorem kx (l:aF) (b:Bytes) (x:bp) (hw:x.wc) (htx:x.tx.length≤100000000) (hb:b.length≤800000000):VC cd lC (aO [(true,l.c),(false,[.sl (bytes b)]),(true,x.c)]) (fun rs _=>rs=aY (e7 l x) (b++uH x)):=by
 refine aa ya rfl ?_
 simp(disch:=omega) [nf,bp.c,aF.c,VY]
 refine aB (wA l x hw) ?_ (ha:=by first|rfl|(simp[aF.c,bp.c,VY] <;>repeat' constructor))
 simp(disch:=omega) [VY]
 refine ak (fun h0=> ?_) (fun h0=> ?_)
 case refine_2=>simp(disch:=omega) [h0,aY,VY]
 obtain⟨n1,n2,n3,ht,hf,hp⟩:=qH h0
 have v1:=az n1
 have v2:=az n2
 have v3:=az n3
 have v4:=oe (x:=x.tx) (by omega)
 simp(disch:=omega) [h0,VY]
 refine ah (aR b (by omega)) rfl rfl ?_
 simp(disch:=omega) [VZ]
 refine pU (aK _ x.height n1 ?_) ?_
 ·(try simp only[List.length_append]);omega
 simp(disch:=omega) [VZ]
 refine pU (aK _ x.n n2 ?_) ?_
 ·(try simp only[List.length_append]);omega
 simp(disch:=omega) [VZ]
 refine pU (aK _ x.idx n3 ?_) ?_
 ·(try simp only[List.length_append]);omega
 simp(disch:=omega) [VZ]
 refine aB (kv (b++(aW x.height.toNat++(aW x.n.toNat++aW x.idx.toNat))) x.tx (by simp only[List.length_append];omega) (by omega)) ?_
 simp(disch:=omega) [ay,VZ]
 refine eU (σ:=Nat×Nat×Nat) (f1:=_) (by simp(disch:=omega) [VZ];rfl) (fun q=> [(44, .val false [.int .i64 (q.1:Int)])]) (fun q=> [(18, .pt 13 228 [.ow q.2.1 q.2.2]),(q.2.1, .sl q.2.2 true true (some (5,1)) (bytes (b++(aW x.height.toNat++(aW x.n.toNat++(aW x.idx.toNat++(ku x.tx++(x.path.take q.1).flatten)))))))]) (fun q g=>g+q.1=x.path.length∧(q.2.1=327680∨q.2.1=1099511701504)) (0,327680,20) x.path.length (by simp(disch:=omega) [VZ]) (by simp(disch:=omega) [VZ]) ⟨by omega, .inl rfl⟩ ?_
 rintro⟨i,key,v⟩ n g ⟨hg,hk⟩ P hP
 simp only at hg hk
 rcases hk with rfl|rfl
 all_goals
  simp(disch:=omega) [VZ]
  refine ab (fun h2=> ?_) (fun h2=> ?_)
  ·have hi:i < x.path.length:=by omega
   have hy:=hp _ (List.getElem_mem hi)
   have hz:=gq hp (i:=i) (by omega)
   simp(disch:=omega) [cM hi,VZ]
   refine pU (bU _ x.path[i] (by omega) ?_) ?_
   ·(try simp only[List.length_append]);omega
   simp(disch:=omega) [VZ]
   exact hP (i+1,1099511701504,_) (g - 1) _ _ (by omega) ⟨by simp only;omega, .inr rfl⟩ (by simp(disch:=omega) [VZ]) (by simp(disch:=omega) [oE hi,VZ];rfl)
  ·have hi:i=x.path.length:=by omega
   subst hi
   simp(disch:=omega) [aY,uH,List.take_length,VZ]
abbrev ob:Nat:=173
def mE:AF:=⟨3,6,[.tmp 6, .tmp 7],(.seq (.ops [.i (.lbox 3 (.s 0)), .i (.lbox 5 (.s 2)), .i (.mov 6 (.c (.val false [.nils]))), .i (.mov 7 (qb false))]) (.seq (.seq (.ops [ql 11 3 3 5 true,ql 12 5 5 5 true, .i (.call 14 238 false [(.s 11),(.s 12)]), .i (.not 14 (.s 13))]) (.cond (.s 14) (.seq (.ops [.i (.mov 6 (.c (.val false [.nils]))), .i (.mov 7 (qb false))]) .ret) .skip)) (.seq (.ops [qm 15 1,qf 16 5 0,ql 17 5 16 1 false, .i (.call 19 233 false [(.s 15),(.s 17)]),qf 19 5 1,ql 20 5 19 1 false, .i (.call 22 233 false [(.s 18),(.s 20)]),qf 22 5 2,ql 23 5 22 1 false, .i (.call 25 233 false [(.s 21),(.s 23)]),qf 25 5 3,ql 26 5 25 1 false, .i (.call 28 235 false [(.s 24),(.s 26)]),qm 8 27]) (.seq (.seq (.ops [qf 28 5 4,ql 29 5 28 1 false,qn 30 29, .i (.mov 31 (qi 0))]) (.block 0 (.loop [38,37,36,35,34,33,32,10] (.seq (.ops [qd 32 .lss 31 30]) (.seq (.cond (.s 32) .skip (.exit 0)) (.seq (.block 1 (.seq (.ops [.i (.iad 33 (.s 29) (.s 31) 1), .i (.ldh 34 (.s 33) 1 false),qm 10 34]) (.ops [qm 35 8,qm 36 10, .i (.app 37 5 1 1 (.s 35) (.s 36)),qm 8 37]))) (.ops [.i (.bin 38 .add (.s 31) (qi 1)),qm 31 38]))))))) (.seq (.ops [qm 39 8,qm 6 39, .i (.mov 7 (qb true))]) .ret)))))⟩
theorem wX:cd ob=some mE:=by kernel_rfl
theorem kG (l:aF) (b:Bytes) (x:bp) (hw:x.wc) (htx:x.tx.length≤100000000) (hb:b.length≤800000000):VC cd ob (aO [(true,l.c),(false,[.sl (bytes b)]),(true,x.c)]) (fun rs _=>rs=aY (e7 l x) (b++uH x)):=by
 refine aa wX rfl ?_
 simp(disch:=omega) [mE,bp.c,aF.c,VY]
 refine aB (wS l x hw) ?_ (ha:=by first|rfl|(simp[aF.c,bp.c,VY] <;>repeat' constructor))
 simp(disch:=omega) [VY]
 refine ak (fun h0=> ?_) (fun h0=> ?_)
 case refine_2=>simp(disch:=omega) [h0,aY,VY]
 obtain⟨n1,n2,n3,ht,hf,hp⟩:=qH h0
 have v1:=az n1
 have v2:=az n2
 have v3:=az n3
 have v4:=oe (x:=x.tx) (by omega)
 simp(disch:=omega) [h0,VY]
 refine aB (bu b x.height n1 (by omega)) ?_
 simp(disch:=omega) [h0,VY]
 refine aB (bu (b++aW x.height.toNat) x.n n2 (by simp only[List.length_append];omega)) ?_
 simp(disch:=omega) [h0,VY]
 refine aB (bu (b++(aW x.height.toNat++aW x.n.toNat)) x.idx n3 (by simp only[List.length_append];omega)) ?_
 simp(disch:=omega) [h0,VY]
 refine aB (kW (b++(aW x.height.toNat++(aW x.n.toNat++aW x.idx.toNat))) x.tx (by simp only[List.length_append];omega) (by omega)) ?_
 simp(disch:=omega) [h0,ay,VY]
 refine eU (σ:=Nat×Nat) (f1:=_) (by simp(disch:=omega) [VY];rfl) (fun q=> [(31, .val false [.int .i64 (q.1:Int)]),(8, .val false [.ow 237568 q.2])]) (fun q=> [(237568, .sl q.2 true true (some (5,1)) (bytes (b++(aW x.height.toNat++(aW x.n.toNat++(aW x.idx.toNat++(ku x.tx++(x.path.take q.1).flatten)))))))]) (fun q g=>g+q.1=x.path.length) (0,15) x.path.length (by simp(disch:=omega) [VY]) (by simp(disch:=omega) [VY]) (by omega) ?_
 rintro⟨i,v⟩ n g hg P hP
 simp only at hg
 simp(disch:=omega) [VY]
 refine ab (fun h2=> ?_) (fun h2=> ?_)
 ·have hi:i < x.path.length:=by omega
  have hy:=hp _ (List.getElem_mem hi)
  have hz:=gq hp (i:=i) (by omega)
  simp(disch:=omega) [cM hi,db,an,hz,VY]
  exact hP (i+1,_) (g - 1) _ _ (by omega) (by simp only;omega) (by simp(disch:=omega) [VY];rfl) (by simp(disch:=omega) [oE hi,VY])
 ·have hi:i=x.path.length:=by omega
  subst hi
  simp(disch:=omega) [aY,uH,List.take_length,VY]
end Go.Eng.F
namespace Go.Eng.F
structure bm where
 kind:Int
 vote:bK
 qc:Qc
 head:Head
 block:Block
 tc:Tc
 proof:Proof
 incl:bp
def bm.c (m:bm):List D:= [.int .i64 m.kind, .int .i64 m.vote.view, .int .i64 m.vote.height, .sl (bytes m.vote.block), .int .i64 m.vote.who, .sl (bytes m.vote.tag), .int .i64 m.qc.view, .int .i64 m.qc.height, .sl (bytes m.qc.block), .sl (bytes m.qc.bits), .sl (cX m.qc.tags), .int .i64 m.head.view, .int .i64 m.head.height, .int .i64 m.head.proposer, .sl (bytes m.head.parent), .sl (bytes m.head.root), .int .i64 m.head.qc.view, .int .i64 m.head.qc.height, .sl (bytes m.head.qc.block), .sl (bytes m.head.qc.bits), .sl (cX m.head.qc.tags), .int .i64 m.block.head.view, .int .i64 m.block.head.height, .int .i64 m.block.head.proposer, .sl (bytes m.block.head.parent), .sl (bytes m.block.head.root), .int .i64 m.block.head.qc.view, .int .i64 m.block.head.qc.height, .sl (bytes m.block.head.qc.block), .sl (bytes m.block.head.qc.bits), .sl (cX m.block.head.qc.tags), .sl (cX m.block.txs), .int .i64 m.tc.view, .sl (lq m.tc.entries), .sl (gH m.proof.heads), .int .i64 m.proof.qc.view, .int .i64 m.proof.qc.height, .sl (bytes m.proof.qc.block), .sl (bytes m.proof.qc.bits), .sl (cX m.proof.qc.tags), .int .i64 m.incl.height, .int .i64 m.incl.n, .int .i64 m.incl.idx, .sl (bytes m.incl.tx), .sl (cX m.incl.path)]
def Block.wx (x:Block):Prop:=x.wc∧∀t∈x.txs,t.length≤100000000
structure bm.wc (m:bm):Prop where
 kind:lN m.kind
 vote:m.vote.wf
 qc:m.qc.wc
 head:m.head.wc
 block:m.block.wx
 tc:m.tc.wf
 proof:m.proof.wc
 incl:m.incl.wc
 tx:m.incl.tx.length≤100000000
def gf:bK:=⟨0,0,[],0,[]⟩
def BM:Qc:=⟨0,0,[],[],[]⟩
def fI:Head:=⟨0,0,0,[],[],BM⟩
def dY:Block:=⟨fI,[]⟩
def Dq:Tc:=⟨0,[]⟩
def dU:Proof:=⟨[],BM⟩
def fU:bp:=⟨0,0,0,[],[]⟩
def ey:bm:=⟨0,gf,BM,fI,dY,Dq,dU,fU⟩
theorem hQ:ey.wc:=by
 constructor <;>simp[ey,gf,BM,fI,dY,Dq,dU,fU,lN,Sz,bK.wf,Qc.wc,Qc.wf,Head.wc,Head.wf,Block.wx,Block.wc,zo,Tc.wf,Proof.wc,Proof.wf,oo,bp.wc]
def rq (a b:bm):Bool:=decide (a.kind=b.kind) && ng a.vote b.vote && qZ a.qc b.qc && eI a.head b.head && iH a.block b.block && e8 a.tc b.tc && fj a.proof b.proof && lY a.incl b.incl
abbrev mD:Nat:=98
def mw:AF:=⟨2,6,[.tmp 4],(.seq (.ops [.i (.lbox 2 (.s 0)), .i (.lbox 3 (.s 1)), .i (.mov 4 (qb false))]) (.seq (.ops [qf 5 2 0,ql 6 2 5 1 false,qf 7 3 0,ql 8 3 7 1 false,qd 9 .eql 6 8,qm 10 9, .g 10 true 12 (.fad 11 (.s 2) 1), .g 10 true 13 (.ldl 12 2 (.s 11) 5 true), .g 10 true 14 (.fad 13 (.s 3) 1), .g 10 true 15 (.ldl 14 3 (.s 13) 5 true), .g 10 true 16 (.call 16 183 false [(.s 12),(.s 14)]), .i (.pick 16 (.s 10) (.s 15) (qb false)),qm 17 16, .g 17 true 19 (.fad 18 (.s 2) 6), .g 17 true 20 (.ldl 19 2 (.s 18) 5 true), .g 17 true 21 (.fad 20 (.s 3) 6), .g 17 true 22 (.ldl 21 3 (.s 20) 5 true), .g 17 true 23 (.call 23 59 false [(.s 19),(.s 21)]), .i (.pick 23 (.s 17) (.s 22) (qb false)),qm 24 23, .g 24 true 26 (.fad 25 (.s 2) 11), .g 24 true 27 (.ldl 26 2 (.s 25) 10 true), .g 24 true 28 (.fad 27 (.s 3) 11), .g 24 true 29 (.ldl 28 3 (.s 27) 10 true), .g 24 true 30 (.call 30 13 false [(.s 26),(.s 28)]), .i (.pick 30 (.s 24) (.s 29) (qb false)),qm 31 30, .g 31 true 33 (.fad 32 (.s 2) 21), .g 31 true 34 (.ldl 33 2 (.s 32) 11 true), .g 31 true 35 (.fad 34 (.s 3) 21), .g 31 true 36 (.ldl 35 3 (.s 34) 11 true), .g 31 true 37 (.call 37 184 false [(.s 33),(.s 35)]), .i (.pick 37 (.s 31) (.s 36) (qb false)),qm 38 37, .g 38 true 40 (.fad 39 (.s 2) 32), .g 38 true 41 (.ldl 40 2 (.s 39) 2 true), .g 38 true 42 (.fad 41 (.s 3) 32), .g 38 true 43 (.ldl 42 3 (.s 41) 2 true), .g 38 true 44 (.call 44 185 false [(.s 40),(.s 42)]), .i (.pick 44 (.s 38) (.s 43) (qb false)),qm 45 44, .g 45 true 47 (.fad 46 (.s 2) 34), .g 45 true 48 (.ldl 47 2 (.s 46) 6 true), .g 45 true 49 (.fad 48 (.s 3) 34), .g 45 true 50 (.ldl 49 3 (.s 48) 6 true), .g 45 true 51 (.call 51 186 false [(.s 47),(.s 49)]), .i (.pick 51 (.s 45) (.s 50) (qb false)),qm 52 51, .g 52 true 54 (.fad 53 (.s 2) 40), .g 52 true 55 (.ldl 54 2 (.s 53) 5 true), .g 52 true 56 (.fad 55 (.s 3) 40), .g 52 true 57 (.ldl 56 3 (.s 55) 5 true), .g 52 true 58 (.call 58 187 false [(.s 54),(.s 56)]), .i (.pick 58 (.s 52) (.s 57) (qb false)),qm 4 58]) .ret))⟩
theorem wW:cd mD=some mw:=by kernel_rfl
theorem cg (a b:bm) (ha:a.wc) (hb:b.wc):VC cd mD (aO [(true,a.c),(true,b.c)]) (fun rs _=>rs=bl (rq a b)):=by
 refine aa wW rfl ?_
 simp(disch:=omega) [mw,bm.c,VY]
 refine ab (fun h1=> ?_) (fun h1=> ?_) <;>simp(disch:=omega) [h1,rq,VY]
 refine aB (tw a.vote b.vote) ?_ (ha:=by first|rfl|(simp[bK.c,VY] <;>repeat' constructor))
 simp(disch:=omega) [h1,VY]
 refine ak (fun h2=> ?_) (fun h2=> ?_) <;>simp(disch:=omega) [h1,h2,VY]
 refine aB (gI a.qc b.qc ha.qc.1 hb.qc.1) ?_ (ha:=by first|rfl|(simp[Qc.c,VY] <;>repeat' constructor))
 simp(disch:=omega) [h1,h2,VY]
 refine ak (fun h3=> ?_) (fun h3=> ?_) <;>simp(disch:=omega) [h1,h2,h3,VY]
 refine aB (eZ a.head b.head ha.head.1 hb.head.1) ?_ (ha:=by first|rfl|(simp[Head.c,VY] <;>repeat' constructor))
 simp(disch:=omega) [h1,h2,h3,VY]
 refine ak (fun h4=> ?_) (fun h4=> ?_) <;>simp(disch:=omega) [h1,h2,h3,h4,VY]
 refine aB (rl a.block b.block ha.block.1 hb.block.1) ?_ (ha:=by first|rfl|(simp[Block.c,Head.c,VY] <;>repeat' constructor))
 simp(disch:=omega) [h1,h2,h3,h4,VY]
 refine ak (fun h5=> ?_) (fun h5=> ?_) <;>simp(disch:=omega) [h1,h2,h3,h4,h5,VY]
 refine aB (wh a.tc b.tc ha.tc hb.tc) ?_ (ha:=by first|rfl|(simp[Tc.c,VY] <;>repeat' constructor))
 simp(disch:=omega) [h1,h2,h3,h4,h5,VY]
 refine ak (fun h6=> ?_) (fun h6=> ?_) <;>simp(disch:=omega) [h1,h2,h3,h4,h5,h6,VY]
 refine aB (sj a.proof b.proof ha.proof.1 hb.proof.1) ?_ (ha:=by first|rfl|(simp[Proof.c,VY] <;>repeat' constructor))
 simp(disch:=omega) [h1,h2,h3,h4,h5,h6,VY]
 refine ak (fun h7=> ?_) (fun h7=> ?_) <;>simp(disch:=omega) [h1,h2,h3,h4,h5,h6,h7,VY]
 refine aB (tI a.incl b.incl ha.incl hb.incl) ?_ (ha:=by first|rfl|(simp[bp.c,VY] <;>repeat' constructor))
 simp(disch:=omega) [h1,h2,h3,h4,h5,h6,h7,VY]
abbrev lG:Nat:=87
def mn:AF:=⟨2,6,[.tmp 4],(.seq (.ops [.i (.lbox 2 (.s 0)), .i (.lbox 3 (.s 1)), .i (.mov 4 (qb false))]) (.seq (.ops [qf 5 2 0,ql 6 2 5 1 false,qf 7 3 0,ql 8 3 7 1 false,qd 9 .eql 6 8,qm 10 9, .g 10 true 12 (.fad 11 (.s 2) 1), .g 10 true 13 (.ldl 12 2 (.s 11) 5 true), .g 10 true 14 (.fad 13 (.s 3) 1), .g 10 true 15 (.ldl 14 3 (.s 13) 5 true), .g 10 true 16 (.call 16 153 false [(.s 12),(.s 14)]), .i (.pick 16 (.s 10) (.s 15) (qb false)),qm 17 16, .g 17 true 19 (.fad 18 (.s 2) 6), .g 17 true 20 (.ldl 19 2 (.s 18) 5 true), .g 17 true 21 (.fad 20 (.s 3) 6), .g 17 true 22 (.ldl 21 3 (.s 20) 5 true), .g 17 true 23 (.call 23 154 false [(.s 19),(.s 21)]), .i (.pick 23 (.s 17) (.s 22) (qb false)),qm 24 23, .g 24 true 26 (.fad 25 (.s 2) 11), .g 24 true 27 (.ldl 26 2 (.s 25) 10 true), .g 24 true 28 (.fad 27 (.s 3) 11), .g 24 true 29 (.ldl 28 3 (.s 27) 10 true), .g 24 true 30 (.call 30 155 false [(.s 26),(.s 28)]), .i (.pick 30 (.s 24) (.s 29) (qb false)),qm 31 30, .g 31 true 33 (.fad 32 (.s 2) 21), .g 31 true 34 (.ldl 33 2 (.s 32) 11 true), .g 31 true 35 (.fad 34 (.s 3) 21), .g 31 true 36 (.ldl 35 3 (.s 34) 11 true), .g 31 true 37 (.call 37 156 false [(.s 33),(.s 35)]), .i (.pick 37 (.s 31) (.s 36) (qb false)),qm 38 37, .g 38 true 40 (.fad 39 (.s 2) 32), .g 38 true 41 (.ldl 40 2 (.s 39) 2 true), .g 38 true 42 (.fad 41 (.s 3) 32), .g 38 true 43 (.ldl 42 3 (.s 41) 2 true), .g 38 true 44 (.call 44 157 false [(.s 40),(.s 42)]), .i (.pick 44 (.s 38) (.s 43) (qb false)),qm 45 44, .g 45 true 47 (.fad 46 (.s 2) 34), .g 45 true 48 (.ldl 47 2 (.s 46) 6 true), .g 45 true 49 (.fad 48 (.s 3) 34), .g 45 true 50 (.ldl 49 3 (.s 48) 6 true), .g 45 true 51 (.call 51 158 false [(.s 47),(.s 49)]), .i (.pick 51 (.s 45) (.s 50) (qb false)),qm 52 51, .g 52 true 54 (.fad 53 (.s 2) 40), .g 52 true 55 (.ldl 54 2 (.s 53) 5 true), .g 52 true 56 (.fad 55 (.s 3) 40), .g 52 true 57 (.ldl 56 3 (.s 55) 5 true), .g 52 true 58 (.call 58 159 false [(.s 54),(.s 56)]), .i (.pick 58 (.s 52) (.s 57) (qb false)),qm 4 58]) .ret))⟩
theorem xV:cd lG=some mn:=by kernel_rfl
theorem ck (a b:bm) (ha:a.wc) (hb:b.wc):VC cd lG (aO [(true,a.c),(true,b.c)]) (fun rs _=>rs=bl (rq a b)):=by
 refine aa xV rfl ?_
 simp(disch:=omega) [mn,bm.c,VY]
 refine ab (fun h1=> ?_) (fun h1=> ?_) <;>simp(disch:=omega) [h1,rq,VY]
 refine aB (uc a.vote b.vote) ?_ (ha:=by first|rfl|(simp[bK.c,VY] <;>repeat' constructor))
 simp(disch:=omega) [h1,VY]
 refine ak (fun h2=> ?_) (fun h2=> ?_) <;>simp(disch:=omega) [h1,h2,VY]
 refine aB (gS a.qc b.qc ha.qc.1 hb.qc.1) ?_ (ha:=by first|rfl|(simp[Qc.c,VY] <;>repeat' constructor))
 simp(disch:=omega) [h1,h2,VY]
 refine ak (fun h3=> ?_) (fun h3=> ?_) <;>simp(disch:=omega) [h1,h2,h3,VY]
 refine aB (fb a.head b.head ha.head.1 hb.head.1) ?_ (ha:=by first|rfl|(simp[Head.c,VY] <;>repeat' constructor))
 simp(disch:=omega) [h1,h2,h3,VY]
 refine ak (fun h4=> ?_) (fun h4=> ?_) <;>simp(disch:=omega) [h1,h2,h3,h4,VY]
 refine aB (rG a.block b.block ha.block.1 hb.block.1) ?_ (ha:=by first|rfl|(simp[Block.c,Head.c,VY] <;>repeat' constructor))
 simp(disch:=omega) [h1,h2,h3,h4,VY]
 refine ak (fun h5=> ?_) (fun h5=> ?_) <;>simp(disch:=omega) [h1,h2,h3,h4,h5,VY]
 refine aB (wy a.tc b.tc ha.tc hb.tc) ?_ (ha:=by first|rfl|(simp[Tc.c,VY] <;>repeat' constructor))
 simp(disch:=omega) [h1,h2,h3,h4,h5,VY]
 refine ak (fun h6=> ?_) (fun h6=> ?_) <;>simp(disch:=omega) [h1,h2,h3,h4,h5,h6,VY]
 refine aB (rK a.proof b.proof ha.proof.1 hb.proof.1) ?_ (ha:=by first|rfl|(simp[Proof.c,VY] <;>repeat' constructor))
 simp(disch:=omega) [h1,h2,h3,h4,h5,h6,VY]
 refine ak (fun h7=> ?_) (fun h7=> ?_) <;>simp(disch:=omega) [h1,h2,h3,h4,h5,h6,h7,VY]
 refine aB (tN a.incl b.incl ha.incl hb.incl) ?_ (ha:=by first|rfl|(simp[bp.c,VY] <;>repeat' constructor))
 simp(disch:=omega) [h1,h2,h3,h4,h5,h6,h7,VY]
def fo (x:bK):List (Bool×List E):= [(true,[.p (.int .i64 1), .p (.int .i64 x.view), .p (.int .i64 x.height), .o true (some (5,1)) (bytes x.block), .p (.int .i64 x.who), .o true (some (5,1)) (bytes x.tag), .p (.int .i64 0), .p (.int .i64 0), .p .nils, .p .nils, .p .nils, .p (.int .i64 0), .p (.int .i64 0), .p (.int .i64 0), .p .nils, .p .nils, .p (.int .i64 0), .p (.int .i64 0), .p .nils, .p .nils, .p .nils, .p (.int .i64 0), .p (.int .i64 0), .p (.int .i64 0), .p .nils, .p .nils, .p (.int .i64 0), .p (.int .i64 0), .p .nils, .p .nils, .p .nils, .p .nils, .p (.int .i64 0), .p .nils, .p .nils, .p (.int .i64 0), .p (.int .i64 0), .p .nils, .p .nils, .p .nils, .p (.int .i64 0), .p (.int .i64 0), .p (.int .i64 0), .p .nils, .p .nils])]
def qA (x:Qc):List (Bool×List E):= [(true,[.p (.int .i64 2), .p (.int .i64 0), .p (.int .i64 0), .p .nils, .p (.int .i64 0), .p .nils, .p (.int .i64 x.view), .p (.int .i64 x.height), .o true (some (5,1)) (bytes x.block), .o true (some (5,1)) (bytes x.bits), .o true (some (22,1)) (cX x.tags), .p (.int .i64 0), .p (.int .i64 0), .p (.int .i64 0), .p .nils, .p .nils, .p (.int .i64 0), .p (.int .i64 0), .p .nils, .p .nils, .p .nils, .p (.int .i64 0), .p (.int .i64 0), .p (.int .i64 0), .p .nils, .p .nils, .p (.int .i64 0), .p (.int .i64 0), .p .nils, .p .nils, .p .nils, .p .nils, .p (.int .i64 0), .p .nils, .p .nils, .p (.int .i64 0), .p (.int .i64 0), .p .nils, .p .nils, .p .nils, .p (.int .i64 0), .p (.int .i64 0), .p (.int .i64 0), .p .nils, .p .nils])]
def fw (x:Head):List (Bool×List E):= [(true,[.p (.int .i64 3), .p (.int .i64 0), .p (.int .i64 0), .p .nils, .p (.int .i64 0), .p .nils, .p (.int .i64 0), .p (.int .i64 0), .p .nils, .p .nils, .p .nils, .p (.int .i64 x.view), .p (.int .i64 x.height), .p (.int .i64 x.proposer), .o true (some (5,1)) (bytes x.parent), .o true (some (5,1)) (bytes x.root), .p (.int .i64 x.qc.view), .p (.int .i64 x.qc.height), .o true (some (5,1)) (bytes x.qc.block), .o true (some (5,1)) (bytes x.qc.bits), .o true (some (22,1)) (cX x.qc.tags), .p (.int .i64 0), .p (.int .i64 0), .p (.int .i64 0), .p .nils, .p .nils, .p (.int .i64 0), .p (.int .i64 0), .p .nils, .p .nils, .p .nils, .p .nils, .p (.int .i64 0), .p .nils, .p .nils, .p (.int .i64 0), .p (.int .i64 0), .p .nils, .p .nils, .p .nils, .p (.int .i64 0), .p (.int .i64 0), .p (.int .i64 0), .p .nils, .p .nils])]
def fu (x:bp):List (Bool×List E):= [(true,[.p (.int .i64 7), .p (.int .i64 0), .p (.int .i64 0), .p .nils, .p (.int .i64 0), .p .nils, .p (.int .i64 0), .p (.int .i64 0), .p .nils, .p .nils, .p .nils, .p (.int .i64 0), .p (.int .i64 0), .p (.int .i64 0), .p .nils, .p .nils, .p (.int .i64 0), .p (.int .i64 0), .p .nils, .p .nils, .p .nils, .p (.int .i64 0), .p (.int .i64 0), .p (.int .i64 0), .p .nils, .p .nils, .p (.int .i64 0), .p (.int .i64 0), .p .nils, .p .nils, .p .nils, .p .nils, .p (.int .i64 0), .p .nils, .p .nils, .p (.int .i64 0), .p (.int .i64 0), .p .nils, .p .nils, .p .nils, .p (.int .i64 x.height), .p (.int .i64 x.n), .p (.int .i64 x.idx), .o true (some (5,1)) (bytes x.tx), .o true (some (22,1)) (cX x.path)])]
abbrev pI:Nat:=188
def pM:AF:=⟨1,4,[.cell 2 45 true],(.seq (.ops [.i (.lbox 1 (.s 0)), .i (.lal 2 [.int .i64 0, .int .i64 0, .int .i64 0, .nils, .int .i64 0, .nils, .int .i64 0, .int .i64 0, .nils, .nils, .nils, .int .i64 0, .int .i64 0, .int .i64 0, .nils, .nils, .int .i64 0, .int .i64 0, .nils, .nils, .nils, .int .i64 0, .int .i64 0, .int .i64 0, .nils, .nils, .int .i64 0, .int .i64 0, .nils, .nils, .nils, .nils, .int .i64 0, .nils, .nils, .int .i64 0, .int .i64 0, .nils, .nils, .nils, .int .i64 0, .int .i64 0, .int .i64 0, .nils, .nils])]) (.seq (.ops [qf 3 1 2,ql 4 1 3 1 false,qk 6 60 4,qf 6 1 4,ql 7 1 6 1 false,qk 9 60 7,qf 9 1 2,qs 1 9 5 1,qf 10 1 4,qs 1 10 8 1]) (.seq (.ops [ql 11 1 1 5 true, .i (.bld 12 [.int .i64 0, .int .i64 0, .int .i64 0, .nils, .int .i64 0, .nils, .int .i64 0, .int .i64 0, .nils, .nils, .nils, .int .i64 0, .int .i64 0, .int .i64 0, .nils, .nils, .int .i64 0, .int .i64 0, .nils, .nils, .nils, .int .i64 0, .int .i64 0, .int .i64 0, .nils, .nils, .int .i64 0, .int .i64 0, .nils, .nils, .nils, .nils, .int .i64 0, .nils, .nils, .int .i64 0, .int .i64 0, .nils, .nils, .nils, .int .i64 0, .int .i64 0, .int .i64 0, .nils, .nils] [(0,1,(qi 1)),(1,5,(.s 11))]),qs 2 2 12 45]) .ret)))⟩
theorem zk:cd pI=some pM:=by kernel_rfl
theorem yj (x:bK) (hw:x.wf):VC cd pI (aO [(true,x.c)]) (fun rs _=>rs=fo x):=by
 have w1:=hw.2.2.1
 have w2:=hw.2.2.2.2
 simp only[Sz]at w1 w2
 refine aa zk rfl ?_
 simp(disch:=omega) [pM,bK.c,VY]
 refine aB (aR x.block (by omega)) ?_
 simp(disch:=omega) [VY]
 refine aB (aR x.tag (by omega)) ?_
 simp(disch:=omega) [fo,VY]
abbrev qu:Nat:=160
def qB:AF:=⟨1,4,[.cell 2 45 true],(.seq (.ops [.i (.lbox 1 (.s 0)), .i (.lal 2 [.int .i64 0, .int .i64 0, .int .i64 0, .nils, .int .i64 0, .nils, .int .i64 0, .int .i64 0, .nils, .nils, .nils, .int .i64 0, .int .i64 0, .int .i64 0, .nils, .nils, .int .i64 0, .int .i64 0, .nils, .nils, .nils, .int .i64 0, .int .i64 0, .int .i64 0, .nils, .nils, .int .i64 0, .int .i64 0, .nils, .nils, .nils, .nils, .int .i64 0, .nils, .nils, .int .i64 0, .int .i64 0, .nils, .nils, .nils, .int .i64 0, .int .i64 0, .int .i64 0, .nils, .nils])]) (.seq (.ops [qf 3 1 2,ql 4 1 3 1 false,qk 6 115 4,qf 6 1 2,qs 1 6 5 1]) (.seq (.ops [qf 7 1 4,ql 8 1 7 1 false,qk 10 115 8,qf 10 1 4,qs 1 10 9 1]) (.seq (.ops [ql 11 1 1 5 true, .i (.bld 12 [.int .i64 0, .int .i64 0, .int .i64 0, .nils, .int .i64 0, .nils, .int .i64 0, .int .i64 0, .nils, .nils, .nils, .int .i64 0, .int .i64 0, .int .i64 0, .nils, .nils, .int .i64 0, .int .i64 0, .nils, .nils, .nils, .int .i64 0, .int .i64 0, .int .i64 0, .nils, .nils, .int .i64 0, .int .i64 0, .nils, .nils, .nils, .nils, .int .i64 0, .nils, .nils, .int .i64 0, .int .i64 0, .nils, .nils, .nils, .int .i64 0, .int .i64 0, .int .i64 0, .nils, .nils] [(0,1,(qi 1)),(1,5,(.s 11))]),qs 2 2 12 45]) .ret))))⟩
theorem za:cd qu=some qB:=by kernel_rfl
theorem wg (x:bK) (hw:x.wf):VC cd qu (aO [(true,x.c)]) (fun rs _=>rs=fo x):=by
 have w1:=hw.2.2.1
 have w2:=hw.2.2.2.2
 simp only[Sz]at w1 w2
 refine aa za rfl ?_
 simp(disch:=omega) [qB,bK.c,VY]
 refine aB (cH x.block (by omega)) ?_
 simp(disch:=omega) [VY]
 refine aB (cH x.tag (by omega)) ?_
 simp(disch:=omega) [fo,VY]
abbrev uO:Nat:=189
def uK:AF:=⟨1,3,[.cell 2 45 true],(.seq (.ops [.i (.lbox 1 (.s 0)), .i (.lal 2 [.int .i64 0, .int .i64 0, .int .i64 0, .nils, .int .i64 0, .nils, .int .i64 0, .int .i64 0, .nils, .nils, .nils, .int .i64 0, .int .i64 0, .int .i64 0, .nils, .nils, .int .i64 0, .int .i64 0, .nils, .nils, .nils, .int .i64 0, .int .i64 0, .int .i64 0, .nils, .nils, .int .i64 0, .int .i64 0, .nils, .nils, .nils, .nils, .int .i64 0, .nils, .nils, .int .i64 0, .int .i64 0, .nils, .nils, .nils, .int .i64 0, .int .i64 0, .int .i64 0, .nils, .nils])]) (.seq (.ops [ql 3 1 1 5 true,qk 5 133 3, .i (.bld 5 [.int .i64 0, .int .i64 0, .int .i64 0, .nils, .int .i64 0, .nils, .int .i64 0, .int .i64 0, .nils, .nils, .nils, .int .i64 0, .int .i64 0, .int .i64 0, .nils, .nils, .int .i64 0, .int .i64 0, .nils, .nils, .nils, .int .i64 0, .int .i64 0, .int .i64 0, .nils, .nils, .int .i64 0, .int .i64 0, .nils, .nils, .nils, .nils, .int .i64 0, .nils, .nils, .int .i64 0, .int .i64 0, .nils, .nils, .nils, .int .i64 0, .int .i64 0, .int .i64 0, .nils, .nils] [(0,1,(qi 2)),(6,5,(.s 4))]),qs 2 2 5 45]) .ret))⟩
theorem Cq:cd uO=some uK:=by kernel_rfl
theorem Al (x:Qc) (hw:x.wc):VC cd uO (aO [(true,x.c)]) (fun rs _=>rs=qA x):=by
 refine aa Cq rfl ?_
 simp(disch:=omega) [uK,Qc.c,VY]
 refine aB (jI x hw) ?_ (ha:=by first|rfl|(simp[Qc.c,VY] <;>repeat' constructor))
 simp(disch:=omega) [qA,Qc.o,VY]
abbrev uo:Nat:=161
def uA:AF:=⟨1,3,[.cell 2 45 true],(.seq (.ops [.i (.lbox 1 (.s 0)), .i (.lal 2 [.int .i64 0, .int .i64 0, .int .i64 0, .nils, .int .i64 0, .nils, .int .i64 0, .int .i64 0, .nils, .nils, .nils, .int .i64 0, .int .i64 0, .int .i64 0, .nils, .nils, .int .i64 0, .int .i64 0, .nils, .nils, .nils, .int .i64 0, .int .i64 0, .int .i64 0, .nils, .nils, .int .i64 0, .int .i64 0, .nils, .nils, .nils, .nils, .int .i64 0, .nils, .nils, .int .i64 0, .int .i64 0, .nils, .nils, .nils, .int .i64 0, .int .i64 0, .int .i64 0, .nils, .nils])]) (.seq (.ops [ql 3 1 1 5 true,qk 5 145 3, .i (.bld 5 [.int .i64 0, .int .i64 0, .int .i64 0, .nils, .int .i64 0, .nils, .int .i64 0, .int .i64 0, .nils, .nils, .nils, .int .i64 0, .int .i64 0, .int .i64 0, .nils, .nils, .int .i64 0, .int .i64 0, .nils, .nils, .nils, .int .i64 0, .int .i64 0, .int .i64 0, .nils, .nils, .int .i64 0, .int .i64 0, .nils, .nils, .nils, .nils, .int .i64 0, .nils, .nils, .int .i64 0, .int .i64 0, .nils, .nils, .nils, .int .i64 0, .int .i64 0, .int .i64 0, .nils, .nils] [(0,1,(qi 2)),(6,5,(.s 4))]),qs 2 2 5 45]) .ret))⟩
theorem Cd:cd uo=some uA:=by kernel_rfl
theorem zW (x:Qc) (hw:x.wc):VC cd uo (aO [(true,x.c)]) (fun rs _=>rs=qA x):=by
 refine aa Cd rfl ?_
 simp(disch:=omega) [uA,Qc.c,VY]
 refine aB (qF x hw) ?_ (ha:=by first|rfl|(simp[Qc.c,VY] <;>repeat' constructor))
 simp(disch:=omega) [qA,Qc.o,VY]
abbrev pK:Nat:=190
def qa:AF:=⟨1,3,[.cell 2 45 true],(.seq (.ops [.i (.lbox 1 (.s 0)), .i (.lal 2 [.int .i64 0, .int .i64 0, .int .i64 0, .nils, .int .i64 0, .nils, .int .i64 0, .int .i64 0, .nils, .nils, .nils, .int .i64 0, .int .i64 0, .int .i64 0, .nils, .nils, .int .i64 0, .int .i64 0, .nils, .nils, .nils, .int .i64 0, .int .i64 0, .int .i64 0, .nils, .nils, .int .i64 0, .int .i64 0, .nils, .nils, .nils, .nils, .int .i64 0, .nils, .nils, .int .i64 0, .int .i64 0, .nils, .nils, .nils, .int .i64 0, .int .i64 0, .int .i64 0, .nils, .nils])]) (.seq (.ops [ql 3 1 1 10 true,qk 5 54 3, .i (.bld 5 [.int .i64 0, .int .i64 0, .int .i64 0, .nils, .int .i64 0, .nils, .int .i64 0, .int .i64 0, .nils, .nils, .nils, .int .i64 0, .int .i64 0, .int .i64 0, .nils, .nils, .int .i64 0, .int .i64 0, .nils, .nils, .nils, .int .i64 0, .int .i64 0, .int .i64 0, .nils, .nils, .int .i64 0, .int .i64 0, .nils, .nils, .nils, .nils, .int .i64 0, .nils, .nils, .int .i64 0, .int .i64 0, .nils, .nils, .nils, .int .i64 0, .int .i64 0, .int .i64 0, .nils, .nils] [(0,1,(qi 3)),(11,10,(.s 4))]),qs 2 2 5 45]) .ret))⟩
theorem yI:cd pK=some qa:=by kernel_rfl
theorem yz (x:Head) (hw:x.wc):VC cd pK (aO [(true,x.c)]) (fun rs _=>rs=fw x):=by
 refine aa yI rfl ?_
 simp(disch:=omega) [qa,Head.c,VY]
 refine aB (gA x hw) ?_ (ha:=by first|rfl|(simp[Head.c,VY] <;>repeat' constructor))
 simp(disch:=omega) [fw,Head.o,VY]
abbrev pk:Nat:=162
def pz:AF:=⟨1,3,[.cell 2 45 true],(.seq (.ops [.i (.lbox 1 (.s 0)), .i (.lal 2 [.int .i64 0, .int .i64 0, .int .i64 0, .nils, .int .i64 0, .nils, .int .i64 0, .int .i64 0, .nils, .nils, .nils, .int .i64 0, .int .i64 0, .int .i64 0, .nils, .nils, .int .i64 0, .int .i64 0, .nils, .nils, .nils, .int .i64 0, .int .i64 0, .int .i64 0, .nils, .nils, .int .i64 0, .int .i64 0, .nils, .nils, .nils, .nils, .int .i64 0, .nils, .nils, .int .i64 0, .int .i64 0, .nils, .nils, .nils, .int .i64 0, .int .i64 0, .int .i64 0, .nils, .nils])]) (.seq (.ops [ql 3 1 1 10 true,qk 5 68 3, .i (.bld 5 [.int .i64 0, .int .i64 0, .int .i64 0, .nils, .int .i64 0, .nils, .int .i64 0, .int .i64 0, .nils, .nils, .nils, .int .i64 0, .int .i64 0, .int .i64 0, .nils, .nils, .int .i64 0, .int .i64 0, .nils, .nils, .nils, .int .i64 0, .int .i64 0, .int .i64 0, .nils, .nils, .int .i64 0, .int .i64 0, .nils, .nils, .nils, .nils, .int .i64 0, .nils, .nils, .int .i64 0, .int .i64 0, .nils, .nils, .nils, .int .i64 0, .int .i64 0, .int .i64 0, .nils, .nils] [(0,1,(qi 3)),(11,10,(.s 4))]),qs 2 2 5 45]) .ret))⟩
theorem zh:cd pk=some pz:=by kernel_rfl
theorem we (x:Head) (hw:x.wc):VC cd pk (aO [(true,x.c)]) (fun rs _=>rs=fw x):=by
 refine aa zh rfl ?_
 simp(disch:=omega) [pz,Head.c,VY]
 refine aB (qN x hw) ?_ (ha:=by first|rfl|(simp[Head.c,VY] <;>repeat' constructor))
 simp(disch:=omega) [fw,Head.o,VY]
abbrev p0:Nat:=194
def pr:AF:=⟨1,3,[.cell 2 45 true],(.seq (.ops [.i (.lbox 1 (.s 0)), .i (.lal 2 [.int .i64 0, .int .i64 0, .int .i64 0, .nils, .int .i64 0, .nils, .int .i64 0, .int .i64 0, .nils, .nils, .nils, .int .i64 0, .int .i64 0, .int .i64 0, .nils, .nils, .int .i64 0, .int .i64 0, .nils, .nils, .nils, .int .i64 0, .int .i64 0, .int .i64 0, .nils, .nils, .int .i64 0, .int .i64 0, .nils, .nils, .nils, .nils, .int .i64 0, .nils, .nils, .int .i64 0, .int .i64 0, .nils, .nils, .nils, .int .i64 0, .int .i64 0, .int .i64 0, .nils, .nils])]) (.seq (.ops [ql 3 1 1 5 true,qk 5 253 3, .i (.bld 5 [.int .i64 0, .int .i64 0, .int .i64 0, .nils, .int .i64 0, .nils, .int .i64 0, .int .i64 0, .nils, .nils, .nils, .int .i64 0, .int .i64 0, .int .i64 0, .nils, .nils, .int .i64 0, .int .i64 0, .nils, .nils, .nils, .int .i64 0, .int .i64 0, .int .i64 0, .nils, .nils, .int .i64 0, .int .i64 0, .nils, .nils, .nils, .nils, .int .i64 0, .nils, .nils, .int .i64 0, .int .i64 0, .nils, .nils, .nils, .int .i64 0, .int .i64 0, .int .i64 0, .nils, .nils] [(0,1,(qi 7)),(40,5,(.s 4))]),qs 2 2 5 45]) .ret))⟩
theorem zi:cd p0=some pr:=by kernel_rfl
theorem yr (x:bp) (hw:x.wc):VC cd p0 (aO [(true,x.c)]) (fun rs _=>rs=fu x):=by
 refine aa zi rfl ?_
 simp(disch:=omega) [pr,bp.c,VY]
 refine aB (xp x hw) ?_ (ha:=by first|rfl|(simp[bp.c,VY] <;>repeat' constructor))
 simp(disch:=omega) [fu,bp.o,VY]
abbrev ph:Nat:=166
def oX:AF:=⟨1,3,[.cell 2 45 true],(.seq (.ops [.i (.lbox 1 (.s 0)), .i (.lal 2 [.int .i64 0, .int .i64 0, .int .i64 0, .nils, .int .i64 0, .nils, .int .i64 0, .int .i64 0, .nils, .nils, .nils, .int .i64 0, .int .i64 0, .int .i64 0, .nils, .nils, .int .i64 0, .int .i64 0, .nils, .nils, .nils, .int .i64 0, .int .i64 0, .int .i64 0, .nils, .nils, .int .i64 0, .int .i64 0, .nils, .nils, .nils, .nils, .int .i64 0, .nils, .nils, .int .i64 0, .int .i64 0, .nils, .nils, .nils, .int .i64 0, .int .i64 0, .int .i64 0, .nils, .nils])]) (.seq (.ops [ql 3 1 1 5 true,qk 5 231 3, .i (.bld 5 [.int .i64 0, .int .i64 0, .int .i64 0, .nils, .int .i64 0, .nils, .int .i64 0, .int .i64 0, .nils, .nils, .nils, .int .i64 0, .int .i64 0, .int .i64 0, .nils, .nils, .int .i64 0, .int .i64 0, .nils, .nils, .nils, .int .i64 0, .int .i64 0, .int .i64 0, .nils, .nils, .int .i64 0, .int .i64 0, .nils, .nils, .nils, .nils, .int .i64 0, .nils, .nils, .int .i64 0, .int .i64 0, .nils, .nils, .nils, .int .i64 0, .int .i64 0, .int .i64 0, .nils, .nils] [(0,1,(qi 7)),(40,5,(.s 4))]),qs 2 2 5 45]) .ret))⟩
theorem yS:cd ph=some oX:=by kernel_rfl
theorem xX (x:bp) (hw:x.wc):VC cd ph (aO [(true,x.c)]) (fun rs _=>rs=fu x):=by
 refine aa yS rfl ?_
 simp(disch:=omega) [oX,bp.c,VY]
 refine aB (Eb x hw) ?_ (ha:=by first|rfl|(simp[bp.c,VY] <;>repeat' constructor))
 simp(disch:=omega) [fu,bp.o,VY]
abbrev bA:Nat:=99
def bz:AF:=⟨1,6,[.cell 2 45 true],(.seq (.ops [.i (.lbox 1 (.s 0)), .i (.lal 2 [.int .i64 0, .int .i64 0, .int .i64 0, .nils, .int .i64 0, .nils, .int .i64 0, .int .i64 0, .nils, .nils, .nils, .int .i64 0, .int .i64 0, .int .i64 0, .nils, .nils, .int .i64 0, .int .i64 0, .nils, .nils, .nils, .int .i64 0, .int .i64 0, .int .i64 0, .nils, .nils, .int .i64 0, .int .i64 0, .nils, .nils, .nils, .nils, .int .i64 0, .nils, .nils, .int .i64 0, .int .i64 0, .nils, .nils, .nils, .int .i64 0, .int .i64 0, .int .i64 0, .nils, .nils])]) (.seq (.seq (.ops [qf 3 1 0,ql 4 1 3 1 false]) (.block 0 (.seq (.ops [.i (.bin 6 .eql (.s 4) (qi 1)),qm 5 6]) (.cond (.s 5) (.seq (.ops [qf 7 1 1,ql 8 1 7 5 true,qk 10 188 8,qs 2 2 9 45]) .ret) (.seq (.ops [.i (.bin 11 .eql (.s 4) (qi 2)),qm 10 11]) (.cond (.s 10) (.seq (.ops [qf 12 1 6,ql 13 1 12 5 true,qk 15 189 13,qs 2 2 14 45]) .ret) (.seq (.ops [.i (.bin 16 .eql (.s 4) (qi 3)),qm 15 16]) (.cond (.s 15) (.seq (.ops [qf 17 1 11,ql 18 1 17 10 true,qk 20 190 18,qs 2 2 19 45]) .ret) (.seq (.ops [.i (.bin 21 .eql (.s 4) (qi 4)),qm 20 21]) (.cond (.s 20) (.seq (.ops [qf 22 1 21,ql 23 1 22 11 true,qk 25 191 23,qs 2 2 24 45]) .ret) (.seq (.ops [.i (.bin 26 .eql (.s 4) (qi 5)),qm 25 26]) (.cond (.s 25) (.seq (.ops [qf 27 1 32,ql 28 1 27 2 true,qk 30 192 28,qs 2 2 29 45]) .ret) (.seq (.ops [.i (.bin 31 .eql (.s 4) (qi 6)),qm 30 31]) (.cond (.s 30) (.seq (.ops [qf 32 1 34,ql 33 1 32 6 true,qk 35 193 33,qs 2 2 34 45]) .ret) (.seq (.ops [.i (.bin 36 .eql (.s 4) (qi 7)),qm 35 36]) (.cond (.s 35) (.seq (.ops [qf 37 1 40,ql 38 1 37 5 true,qk 40 194 38,qs 2 2 39 45]) .ret) .skip)))))))))))))))) (.seq (.ops [.i (.bld 40 [.int .i64 0, .int .i64 0, .int .i64 0, .nils, .int .i64 0, .nils, .int .i64 0, .int .i64 0, .nils, .nils, .nils, .int .i64 0, .int .i64 0, .int .i64 0, .nils, .nils, .int .i64 0, .int .i64 0, .nils, .nils, .nils, .int .i64 0, .int .i64 0, .int .i64 0, .nils, .nils, .int .i64 0, .int .i64 0, .nils, .nils, .nils, .nils, .int .i64 0, .nils, .nils, .int .i64 0, .int .i64 0, .nils, .nils, .nils, .int .i64 0, .int .i64 0, .int .i64 0, .nils, .nils] []),qs 2 2 40 45]) .ret)))⟩
theorem bM:cd bA=some bz:=by kernel_rfl
theorem As (m:bm) (hw:m.wc) (hk:m.kind=1):VC cd bA (aO [(true,m.c)]) (fun rs _=>rs=fo m.vote):=by
 refine aa bM rfl ?_
 simp(disch:=omega) [bz,bm.c,hk,VY]
 refine aB (yj m.vote hw.vote) ?_ (ha:=by first|rfl|(simp[bK.c,VY] <;>repeat' constructor))
 simp(disch:=omega) [fo,VY]
abbrev bX:Nat:=88
def b9:AF:=⟨1,6,[.cell 2 45 true],(.seq (.ops [.i (.lbox 1 (.s 0)), .i (.lal 2 [.int .i64 0, .int .i64 0, .int .i64 0, .nils, .int .i64 0, .nils, .int .i64 0, .int .i64 0, .nils, .nils, .nils, .int .i64 0, .int .i64 0, .int .i64 0, .nils, .nils, .int .i64 0, .int .i64 0, .nils, .nils, .nils, .int .i64 0, .int .i64 0, .int .i64 0, .nils, .nils, .int .i64 0, .int .i64 0, .nils, .nils, .nils, .nils, .int .i64 0, .nils, .nils, .int .i64 0, .int .i64 0, .nils, .nils, .nils, .int .i64 0, .int .i64 0, .int .i64 0, .nils, .nils])]) (.seq (.seq (.ops [qf 3 1 0,ql 4 1 3 1 false]) (.block 0 (.seq (.ops [.i (.bin 6 .eql (.s 4) (qi 1)),qm 5 6]) (.cond (.s 5) (.seq (.ops [qf 7 1 1,ql 8 1 7 5 true,qk 10 160 8,qs 2 2 9 45]) .ret) (.seq (.ops [.i (.bin 11 .eql (.s 4) (qi 2)),qm 10 11]) (.cond (.s 10) (.seq (.ops [qf 12 1 6,ql 13 1 12 5 true,qk 15 161 13,qs 2 2 14 45]) .ret) (.seq (.ops [.i (.bin 16 .eql (.s 4) (qi 3)),qm 15 16]) (.cond (.s 15) (.seq (.ops [qf 17 1 11,ql 18 1 17 10 true,qk 20 162 18,qs 2 2 19 45]) .ret) (.seq (.ops [.i (.bin 21 .eql (.s 4) (qi 4)),qm 20 21]) (.cond (.s 20) (.seq (.ops [qf 22 1 21,ql 23 1 22 11 true,qk 25 163 23,qs 2 2 24 45]) .ret) (.seq (.ops [.i (.bin 26 .eql (.s 4) (qi 5)),qm 25 26]) (.cond (.s 25) (.seq (.ops [qf 27 1 32,ql 28 1 27 2 true,qk 30 164 28,qs 2 2 29 45]) .ret) (.seq (.ops [.i (.bin 31 .eql (.s 4) (qi 6)),qm 30 31]) (.cond (.s 30) (.seq (.ops [qf 32 1 34,ql 33 1 32 6 true,qk 35 165 33,qs 2 2 34 45]) .ret) (.seq (.ops [.i (.bin 36 .eql (.s 4) (qi 7)),qm 35 36]) (.cond (.s 35) (.seq (.ops [qf 37 1 40,ql 38 1 37 5 true,qk 40 166 38,qs 2 2 39 45]) .ret) .skip)))))))))))))))) (.seq (.ops [.i (.bld 40 [.int .i64 0, .int .i64 0, .int .i64 0, .nils, .int .i64 0, .nils, .int .i64 0, .int .i64 0, .nils, .nils, .nils, .int .i64 0, .int .i64 0, .int .i64 0, .nils, .nils, .int .i64 0, .int .i64 0, .nils, .nils, .nils, .int .i64 0, .int .i64 0, .int .i64 0, .nils, .nils, .int .i64 0, .int .i64 0, .nils, .nils, .nils, .nils, .int .i64 0, .nils, .nils, .int .i64 0, .int .i64 0, .nils, .nils, .nils, .int .i64 0, .int .i64 0, .int .i64 0, .nils, .nils] []),qs 2 2 40 45]) .ret)))⟩
theorem cE:cd bX=some b9:=by kernel_rfl
theorem AV (m:bm) (hw:m.wc) (hk:m.kind=1):VC cd bX (aO [(true,m.c)]) (fun rs _=>rs=fo m.vote):=by
 refine aa cE rfl ?_
 simp(disch:=omega) [b9,bm.c,hk,VY]
 refine aB (wg m.vote hw.vote) ?_ (ha:=by first|rfl|(simp[bK.c,VY] <;>repeat' constructor))
 simp(disch:=omega) [fo,VY]
theorem Bo (m:bm) (hw:m.wc) (hk:m.kind=2):VC cd bA (aO [(true,m.c)]) (fun rs _=>rs=qA m.qc):=by
 refine aa bM rfl ?_
 simp(disch:=omega) [bz,bm.c,hk,VY]
 refine aB (Al m.qc hw.qc) ?_ (ha:=by first|rfl|(simp[Qc.c,VY] <;>repeat' constructor))
 simp(disch:=omega) [qA,VY]
theorem Bc (m:bm) (hw:m.wc) (hk:m.kind=2):VC cd bX (aO [(true,m.c)]) (fun rs _=>rs=qA m.qc):=by
 refine aa cE rfl ?_
 simp(disch:=omega) [b9,bm.c,hk,VY]
 refine aB (zW m.qc hw.qc) ?_ (ha:=by first|rfl|(simp[Qc.c,VY] <;>repeat' constructor))
 simp(disch:=omega) [qA,VY]
theorem Bf (m:bm) (hw:m.wc) (hk:m.kind=3):VC cd bA (aO [(true,m.c)]) (fun rs _=>rs=fw m.head):=by
 refine aa bM rfl ?_
 simp(disch:=omega) [bz,bm.c,hk,VY]
 refine aB (yz m.head hw.head) ?_ (ha:=by first|rfl|(simp[Head.c,VY] <;>repeat' constructor))
 simp(disch:=omega) [fw,VY]
theorem Ar (m:bm) (hw:m.wc) (hk:m.kind=3):VC cd bX (aO [(true,m.c)]) (fun rs _=>rs=fw m.head):=by
 refine aa cE rfl ?_
 simp(disch:=omega) [b9,bm.c,hk,VY]
 refine aB (we m.head hw.head) ?_ (ha:=by first|rfl|(simp[Head.c,VY] <;>repeat' constructor))
 simp(disch:=omega) [fw,VY]
theorem Af (m:bm) (hw:m.wc) (hk:m.kind=4):VC cd bA (aO [(true,m.c)]) (fun rs _=>rs=eg m.block):=by
 refine aa bM rfl ?_
 simp(disch:=omega) [bz,bm.c,hk,VY]
 refine aB (uX m.block hw.block.1) ?_ (ha:=by first|rfl|(simp[Block.c,Head.c,VY] <;>repeat' constructor))
 simp(disch:=omega) [eg,VY]
theorem Bm (m:bm) (hw:m.wc) (hk:m.kind=4):VC cd bX (aO [(true,m.c)]) (fun rs _=>rs=eg m.block):=by
 refine aa cE rfl ?_
 simp(disch:=omega) [b9,bm.c,hk,VY]
 refine aB (vB m.block hw.block.1) ?_ (ha:=by first|rfl|(simp[Block.c,Head.c,VY] <;>repeat' constructor))
 simp(disch:=omega) [eg,VY]
theorem BG (m:bm) (hw:m.wc) (hk:m.kind=5):VC cd bA (aO [(true,m.c)]) (fun rs _=>rs=pA m.tc):=by
 refine aa bM rfl ?_
 simp(disch:=omega) [bz,bm.c,hk,VY]
 refine aB (AS m.tc hw.tc) ?_ (ha:=by first|rfl|(simp[Tc.c,VY] <;>repeat' constructor))
 simp(disch:=omega) [pA,VY]
theorem AX (m:bm) (hw:m.wc) (hk:m.kind=5):VC cd bX (aO [(true,m.c)]) (fun rs _=>rs=pA m.tc):=by
 refine aa cE rfl ?_
 simp(disch:=omega) [b9,bm.c,hk,VY]
 refine aB (Bw m.tc hw.tc) ?_ (ha:=by first|rfl|(simp[Tc.c,VY] <;>repeat' constructor))
 simp(disch:=omega) [pA,VY]
theorem AP (m:bm) (hw:m.wc) (hk:m.kind=6):VC cd bA (aO [(true,m.c)]) (fun rs _=>rs=ee m.proof):=by
 refine aa bM rfl ?_
 simp(disch:=omega) [bz,bm.c,hk,VY]
 refine aB (vt m.proof hw.proof) ?_ (ha:=by first|rfl|(simp[Proof.c,VY] <;>repeat' constructor))
 simp(disch:=omega) [ee,VY]
theorem A3 (m:bm) (hw:m.wc) (hk:m.kind=6):VC cd bX (aO [(true,m.c)]) (fun rs _=>rs=ee m.proof):=by
 refine aa cE rfl ?_
 simp(disch:=omega) [b9,bm.c,hk,VY]
 refine aB (vG m.proof hw.proof) ?_ (ha:=by first|rfl|(simp[Proof.c,VY] <;>repeat' constructor))
 simp(disch:=omega) [ee,VY]
theorem Bh (m:bm) (hw:m.wc) (hk:m.kind=7):VC cd bA (aO [(true,m.c)]) (fun rs _=>rs=fu m.incl):=by
 refine aa bM rfl ?_
 simp(disch:=omega) [bz,bm.c,hk,VY]
 refine aB (yr m.incl hw.incl) ?_ (ha:=by first|rfl|(simp[bp.c,VY] <;>repeat' constructor))
 simp(disch:=omega) [fu,VY]
theorem AQ (m:bm) (hw:m.wc) (hk:m.kind=7):VC cd bX (aO [(true,m.c)]) (fun rs _=>rs=fu m.incl):=by
 refine aa cE rfl ?_
 simp(disch:=omega) [b9,bm.c,hk,VY]
 refine aB (xX m.incl hw.incl) ?_ (ha:=by first|rfl|(simp[bp.c,VY] <;>repeat' constructor))
 simp(disch:=omega) [fu,VY]
def cJ (m:bm):bm:=if m.kind=1 then {ey with kind:=1,vote:=m.vote}else if m.kind=2 then {ey with kind:=2,qc:=m.qc}else if m.kind=3 then {ey with kind:=3,head:=m.head}else if m.kind=4 then {ey with kind:=4,block:=m.block}else if m.kind=5 then {ey with kind:=5,tc:=m.tc}else if m.kind=6 then {ey with kind:=6,proof:=m.proof}else if m.kind=7 then {ey with kind:=7,incl:=m.incl}else ey
def aJ (l:aF) (m:bm):Bool:=if m.kind=1 then sS l m.vote else if m.kind=2 then gJ l m.qc else if m.kind=3 then b5 l m.head else if m.kind=4 then bW l m.block else if m.kind=5 then gY l m.tc else if m.kind=6 then da l m.proof else if m.kind=7 then e7 l m.incl else false
def bD (m:bm):Bytes:=if m.kind=1 then IX m.vote else if m.kind=2 then F3 m.qc else if m.kind=3 then eA m.head else if m.kind=4 then me m.block else if m.kind=5 then J1 m.tc else if m.kind=6 then nZ m.proof else uH m.incl
theorem ib {l:aF} {m:bm} (h:aJ l m=true):m.kind=1∨m.kind=2∨m.kind=3∨m.kind=4∨m.kind=5∨m.kind=6∨m.kind=7:=by
 unfold aJ at h
 repeat' split at h
 all_goals first|(simp at h;done)|omega
def bq (l:aF) (m:bm):Bool:=aJ l m && rq m (cJ m)
abbrev nN:Nat:=97
def lT:AF:=⟨3,7,[.tmp 6, .tmp 7],(.seq (.ops [.i (.lbox 3 (.s 0)), .i (.lbox 4 (.s 1)), .i (.mov 6 (.c (.val false [.nils]))), .i (.mov 7 (qb false))]) (.seq (.seq (.ops [qf 8 3 0,ql 9 3 8 1 false]) (.block 0 (.seq (.ops [.i (.bin 11 .eql (.s 9) (qi 1)),qm 10 11]) (.cond (.s 10) (.seq (.ops [ql 12 4 4 5 true,qm 13 2,qf 14 3 1,ql 15 3 14 5 true, .i (.call 17 177 false [(.s 12),(.s 13),(.s 15)]), .i (.ext 17 (.s 16) 0), .i (.ext 18 (.s 16) 1),qm 6 17,qm 7 18]) .ret) (.seq (.ops [.i (.bin 20 .eql (.s 9) (qi 2)),qm 19 20]) (.cond (.s 19) (.seq (.ops [ql 21 4 4 5 true,qm 22 2,qf 23 3 6,ql 24 3 23 5 true, .i (.call 26 178 false [(.s 21),(.s 22),(.s 24)]), .i (.ext 26 (.s 25) 0), .i (.ext 27 (.s 25) 1),qm 6 26,qm 7 27]) .ret) (.seq (.ops [.i (.bin 29 .eql (.s 9) (qi 3)),qm 28 29]) (.cond (.s 28) (.seq (.ops [ql 30 4 4 5 true,qm 31 2,qf 32 3 11,ql 33 3 32 10 true, .i (.call 35 129 false [(.s 30),(.s 31),(.s 33)]), .i (.ext 35 (.s 34) 0), .i (.ext 36 (.s 34) 1),qm 6 35,qm 7 36]) .ret) (.seq (.ops [.i (.bin 38 .eql (.s 9) (qi 4)),qm 37 38]) (.cond (.s 37) (.seq (.ops [ql 39 4 4 5 true,qm 40 2,qf 41 3 21,ql 42 3 41 11 true, .i (.call 44 179 false [(.s 39),(.s 40),(.s 42)]), .i (.ext 44 (.s 43) 0), .i (.ext 45 (.s 43) 1),qm 6 44,qm 7 45]) .ret) (.seq (.ops [.i (.bin 47 .eql (.s 9) (qi 5)),qm 46 47]) (.cond (.s 46) (.seq (.ops [ql 48 4 4 5 true,qm 49 2,qf 50 3 32,ql 51 3 50 2 true, .i (.call 53 180 false [(.s 48),(.s 49),(.s 51)]), .i (.ext 53 (.s 52) 0), .i (.ext 54 (.s 52) 1),qm 6 53,qm 7 54]) .ret) (.seq (.ops [.i (.bin 56 .eql (.s 9) (qi 6)),qm 55 56]) (.cond (.s 55) (.seq (.ops [ql 57 4 4 5 true,qm 58 2,qf 59 3 34,ql 60 3 59 6 true, .i (.call 62 181 false [(.s 57),(.s 58),(.s 60)]), .i (.ext 62 (.s 61) 0), .i (.ext 63 (.s 61) 1),qm 6 62,qm 7 63]) .ret) (.seq (.ops [.i (.bin 65 .eql (.s 9) (qi 7)),qm 64 65]) (.cond (.s 64) (.seq (.ops [ql 66 4 4 5 true,qm 67 2,qf 68 3 40,ql 69 3 68 5 true, .i (.call 71 182 false [(.s 66),(.s 67),(.s 69)]), .i (.ext 71 (.s 70) 0), .i (.ext 72 (.s 70) 1),qm 6 71,qm 7 72]) .ret) .skip)))))))))))))))) (.seq (.ops [.i (.mov 6 (.c (.val false [.nils]))), .i (.mov 7 (qb false))]) .ret)))⟩
theorem xl:cd nN=some lT:=by kernel_rfl
theorem nO (l:aF) (b:Bytes) (m:bm) (hw:m.wc) (hb:b.length≤800000000):VC cd nN (aO [(true,m.c),(true,l.c),(false,[.sl (bytes b)])]) (fun rs _=>rs=aY (aJ l m) (b++bD m)):=by
 refine aa xl rfl ?_
 simp(disch:=omega) [lT,bm.c,aF.c,VY]
 refine ab (fun g1=> ?_) (fun g1=> ?_)
 ·have e1:aJ l m=sS l m.vote:=by simp[aJ,g1]
  have e2:bD m=IX m.vote:=by simp[bD,g1]
  rw[e1,e2]
  simp(disch:=omega) [g1,VY]
  cases hp:sS l m.vote
  ·refine aB ((jS l b m.vote (by omega)).re (cQ hp)) ?_ (ha:=by first|rfl|(simp[aF.c,bK.c,VY] <;>repeat' constructor))
   simp(disch:=omega) [aY,g1,VY]
  ·refine aB ((jS l b m.vote (by omega)).re (bI hp)) ?_ (ha:=by first|rfl|(simp[aF.c,bK.c,VY] <;>repeat' constructor))
   simp(disch:=omega) [aY,g1,VY]
 simp(disch:=omega) [g1,VY]
 refine ab (fun g2=> ?_) (fun g2=> ?_)
 ·have e1:aJ l m=gJ l m.qc:=by simp[aJ,g2]
  have e2:bD m=F3 m.qc:=by simp[bD,g2]
  rw[e1,e2]
  simp(disch:=omega) [g2,VY]
  cases hp:gJ l m.qc
  ·refine aB ((py l b m.qc hw.qc.1 (by omega)).re (cQ hp)) ?_ (ha:=by first|rfl|(simp[aF.c,Qc.c,VY] <;>repeat' constructor))
   simp(disch:=omega) [aY,g2,VY]
  ·refine aB ((py l b m.qc hw.qc.1 (by omega)).re (bI hp)) ?_ (ha:=by first|rfl|(simp[aF.c,Qc.c,VY] <;>repeat' constructor))
   simp(disch:=omega) [aY,g2,VY]
 simp(disch:=omega) [g2,VY]
 refine ab (fun g3=> ?_) (fun g3=> ?_)
 ·have e1:aJ l m=b5 l m.head:=by simp[aJ,g3]
  have e2:bD m=eA m.head:=by simp[bD,g3]
  rw[e1,e2]
  simp(disch:=omega) [g3,VY]
  cases hp:b5 l m.head
  ·refine aB ((kF l b m.head hw.head.1 (by omega)).re (cQ hp)) ?_ (ha:=by first|rfl|(simp[aF.c,Head.c,VY] <;>repeat' constructor))
   simp(disch:=omega) [aY,g3,VY]
  ·refine aB ((kF l b m.head hw.head.1 (by omega)).re (bI hp)) ?_ (ha:=by first|rfl|(simp[aF.c,Head.c,VY] <;>repeat' constructor))
   simp(disch:=omega) [aY,g3,VY]
 simp(disch:=omega) [g3,VY]
 refine ab (fun g4=> ?_) (fun g4=> ?_)
 ·have e1:aJ l m=bW l m.block:=by simp[aJ,g4]
  have e2:bD m=me m.block:=by simp[bD,g4]
  rw[e1,e2]
  simp(disch:=omega) [g4,VY]
  cases hp:bW l m.block
  ·refine aB ((iI l b m.block hw.block (by omega)).re (cQ hp)) ?_ (ha:=by first|rfl|(simp[aF.c,Block.c,Head.c,VY] <;>repeat' constructor))
   simp(disch:=omega) [aY,g4,VY]
  ·refine aB ((iI l b m.block hw.block (by omega)).re (bI hp)) ?_ (ha:=by first|rfl|(simp[aF.c,Block.c,Head.c,VY] <;>repeat' constructor))
   simp(disch:=omega) [aY,g4,VY]
 simp(disch:=omega) [g4,VY]
 refine ab (fun g5=> ?_) (fun g5=> ?_)
 ·have e1:aJ l m=gY l m.tc:=by simp[aJ,g5]
  have e2:bD m=J1 m.tc:=by simp[bD,g5]
  rw[e1,e2]
  simp(disch:=omega) [g5,VY]
  cases hp:gY l m.tc
  ·refine aB ((qv l b m.tc hw.tc (by omega)).re (cQ hp)) ?_ (ha:=by first|rfl|(simp[aF.c,Tc.c,VY] <;>repeat' constructor))
   simp(disch:=omega) [aY,g5,VY]
  ·refine aB ((qv l b m.tc hw.tc (by omega)).re (bI hp)) ?_ (ha:=by first|rfl|(simp[aF.c,Tc.c,VY] <;>repeat' constructor))
   simp(disch:=omega) [aY,g5,VY]
 simp(disch:=omega) [g5,VY]
 refine ab (fun g6=> ?_) (fun g6=> ?_)
 ·have e1:aJ l m=da l m.proof:=by simp[aJ,g6]
  have e2:bD m=nZ m.proof:=by simp[bD,g6]
  rw[e1,e2]
  simp(disch:=omega) [g6,VY]
  cases hp:da l m.proof
  ·refine aB ((jc l b m.proof hw.proof (by omega)).re (cQ hp)) ?_ (ha:=by first|rfl|(simp[aF.c,Proof.c,VY] <;>repeat' constructor))
   simp(disch:=omega) [aY,g6,VY]
  ·refine aB ((jc l b m.proof hw.proof (by omega)).re (bI hp)) ?_ (ha:=by first|rfl|(simp[aF.c,Proof.c,VY] <;>repeat' constructor))
   simp(disch:=omega) [aY,g6,VY]
 simp(disch:=omega) [g6,VY]
 refine ab (fun g7=> ?_) (fun g7=> ?_)
 ·have e1:aJ l m=e7 l m.incl:=by simp[aJ,g7]
  have e2:bD m=uH m.incl:=by simp[bD,g7]
  rw[e1,e2]
  simp(disch:=omega) [g7,VY]
  cases hp:e7 l m.incl
  ·refine aB ((kx l b m.incl hw.incl hw.tx (by omega)).re (cQ hp)) ?_ (ha:=by first|rfl|(simp[aF.c,bp.c,VY] <;>repeat' constructor))
   simp(disch:=omega) [aY,g7,VY]
  ·refine aB ((kx l b m.incl hw.incl hw.tx (by omega)).re (bI hp)) ?_ (ha:=by first|rfl|(simp[aF.c,bp.c,VY] <;>repeat' constructor))
   simp(disch:=omega) [aY,g7,VY]
 have e1:aJ l m=false:=by simp[aJ,g1,g2,g3,g4,g5,g6,g7]
 rw[e1]
 simp(disch:=omega) [aY,g1,g2,g3,g4,g5,g6,g7,VY]
abbrev pX:Nat:=89
def pR:AF:=⟨3,7,[.tmp 6, .tmp 7],(.seq (.ops [.i (.lbox 3 (.s 0)), .i (.lbox 5 (.s 2)), .i (.mov 6 (.c (.val false [.nils]))), .i (.mov 7 (qb false))]) (.seq (.seq (.ops [qf 8 5 0,ql 9 5 8 1 false]) (.block 0 (.seq (.ops [.i (.bin 11 .eql (.s 9) (qi 1)),qm 10 11]) (.cond (.s 10) (.seq (.ops [ql 12 3 3 5 true,qm 13 1,qf 14 5 1,ql 15 5 14 5 true, .i (.call 17 167 false [(.s 12),(.s 13),(.s 15)]), .i (.ext 17 (.s 16) 0), .i (.ext 18 (.s 16) 1),qm 6 17,qm 7 18]) .ret) (.seq (.ops [.i (.bin 20 .eql (.s 9) (qi 2)),qm 19 20]) (.cond (.s 19) (.seq (.ops [ql 21 3 3 5 true,qm 22 1,qf 23 5 6,ql 24 5 23 5 true, .i (.call 26 168 false [(.s 21),(.s 22),(.s 24)]), .i (.ext 26 (.s 25) 0), .i (.ext 27 (.s 25) 1),qm 6 26,qm 7 27]) .ret) (.seq (.ops [.i (.bin 29 .eql (.s 9) (qi 3)),qm 28 29]) (.cond (.s 28) (.seq (.ops [ql 30 3 3 5 true,qm 31 1,qf 32 5 11,ql 33 5 32 10 true, .i (.call 35 169 false [(.s 30),(.s 31),(.s 33)]), .i (.ext 35 (.s 34) 0), .i (.ext 36 (.s 34) 1),qm 6 35,qm 7 36]) .ret) (.seq (.ops [.i (.bin 38 .eql (.s 9) (qi 4)),qm 37 38]) (.cond (.s 37) (.seq (.ops [ql 39 3 3 5 true,qm 40 1,qf 41 5 21,ql 42 5 41 11 true, .i (.call 44 170 false [(.s 39),(.s 40),(.s 42)]), .i (.ext 44 (.s 43) 0), .i (.ext 45 (.s 43) 1),qm 6 44,qm 7 45]) .ret) (.seq (.ops [.i (.bin 47 .eql (.s 9) (qi 5)),qm 46 47]) (.cond (.s 46) (.seq (.ops [ql 48 3 3 5 true,qm 49 1,qf 50 5 32,ql 51 5 50 2 true, .i (.call 53 171 false [(.s 48),(.s 49),(.s 51)]), .i (.ext 53 (.s 52) 0), .i (.ext 54 (.s 52) 1),qm 6 53,qm 7 54]) .ret) (.seq (.ops [.i (.bin 56 .eql (.s 9) (qi 6)),qm 55 56]) (.cond (.s 55) (.seq (.ops [ql 57 3 3 5 true,qm 58 1,qf 59 5 34,ql 60 5 59 6 true, .i (.call 62 172 false [(.s 57),(.s 58),(.s 60)]), .i (.ext 62 (.s 61) 0), .i (.ext 63 (.s 61) 1),qm 6 62,qm 7 63]) .ret) .skip)))))))))))))) (.seq (.ops [ql 64 3 3 5 true,qm 65 1,qf 66 5 40,ql 67 5 66 5 true, .i (.call 69 173 false [(.s 64),(.s 65),(.s 67)]), .i (.ext 69 (.s 68) 0), .i (.ext 70 (.s 68) 1),qm 6 69,qm 7 70]) .ret)))⟩
theorem yH:cd pX=some pR:=by kernel_rfl
theorem bg (l:aF) (b:Bytes) (m:bm) (hw:m.wc) (hk:eW m.kind 1 7=true) (hb:b.length≤800000000):VC cd pX (aO [(true,l.c),(false,[.sl (bytes b)]),(true,m.c)]) (fun rs _=>rs=aY (aJ l m) (b++bD m)):=by
 have hk2:=dK hk
 refine aa yH rfl ?_
 simp(disch:=omega) [pR,bm.c,aF.c,VY]
 refine ab (fun g1=> ?_) (fun g1=> ?_)
 ·have e1:aJ l m=sS l m.vote:=by simp[aJ,g1]
  have e2:bD m=IX m.vote:=by simp[bD,g1]
  rw[e1,e2]
  simp(disch:=omega) [g1,VY]
  cases hp:sS l m.vote
  ·refine aB ((kZ l b m.vote (by omega)).re (cQ hp)) ?_ (ha:=by first|rfl|(simp[aF.c,bK.c,VY] <;>repeat' constructor))
   simp(disch:=omega) [aY,g1,VY]
  ·refine aB ((kZ l b m.vote (by omega)).re (bI hp)) ?_ (ha:=by first|rfl|(simp[aF.c,bK.c,VY] <;>repeat' constructor))
   simp(disch:=omega) [aY,g1,VY]
 simp(disch:=omega) [g1,VY]
 refine ab (fun g2=> ?_) (fun g2=> ?_)
 ·have e1:aJ l m=gJ l m.qc:=by simp[aJ,g2]
  have e2:bD m=F3 m.qc:=by simp[bD,g2]
  rw[e1,e2]
  simp(disch:=omega) [g2,VY]
  cases hp:gJ l m.qc
  ·refine aB ((fy l b m.qc hw.qc.1 (by omega)).re (cQ hp)) ?_ (ha:=by first|rfl|(simp[aF.c,Qc.c,VY] <;>repeat' constructor))
   simp(disch:=omega) [aY,g2,VY]
  ·refine aB ((fy l b m.qc hw.qc.1 (by omega)).re (bI hp)) ?_ (ha:=by first|rfl|(simp[aF.c,Qc.c,VY] <;>repeat' constructor))
   simp(disch:=omega) [aY,g2,VY]
 simp(disch:=omega) [g2,VY]
 refine ab (fun g3=> ?_) (fun g3=> ?_)
 ·have e1:aJ l m=b5 l m.head:=by simp[aJ,g3]
  have e2:bD m=eA m.head:=by simp[bD,g3]
  rw[e1,e2]
  simp(disch:=omega) [g3,VY]
  cases hp:b5 l m.head
  ·refine aB ((ei l b m.head hw.head.1 (by omega)).re (cQ hp)) ?_ (ha:=by first|rfl|(simp[aF.c,Head.c,VY] <;>repeat' constructor))
   simp(disch:=omega) [aY,g3,VY]
  ·refine aB ((ei l b m.head hw.head.1 (by omega)).re (bI hp)) ?_ (ha:=by first|rfl|(simp[aF.c,Head.c,VY] <;>repeat' constructor))
   simp(disch:=omega) [aY,g3,VY]
 simp(disch:=omega) [g3,VY]
 refine ab (fun g4=> ?_) (fun g4=> ?_)
 ·have e1:aJ l m=bW l m.block:=by simp[aJ,g4]
  have e2:bD m=me m.block:=by simp[bD,g4]
  rw[e1,e2]
  simp(disch:=omega) [g4,VY]
  cases hp:bW l m.block
  ·refine aB ((jA l b m.block hw.block (by omega)).re (cQ hp)) ?_ (ha:=by first|rfl|(simp[aF.c,Block.c,Head.c,VY] <;>repeat' constructor))
   simp(disch:=omega) [aY,g4,VY]
  ·refine aB ((jA l b m.block hw.block (by omega)).re (bI hp)) ?_ (ha:=by first|rfl|(simp[aF.c,Block.c,Head.c,VY] <;>repeat' constructor))
   simp(disch:=omega) [aY,g4,VY]
 simp(disch:=omega) [g4,VY]
 refine ab (fun g5=> ?_) (fun g5=> ?_)
 ·have e1:aJ l m=gY l m.tc:=by simp[aJ,g5]
  have e2:bD m=J1 m.tc:=by simp[bD,g5]
  rw[e1,e2]
  simp(disch:=omega) [g5,VY]
  cases hp:gY l m.tc
  ·refine aB ((pG l b m.tc hw.tc (by omega)).re (cQ hp)) ?_ (ha:=by first|rfl|(simp[aF.c,Tc.c,VY] <;>repeat' constructor))
   simp(disch:=omega) [aY,g5,VY]
  ·refine aB ((pG l b m.tc hw.tc (by omega)).re (bI hp)) ?_ (ha:=by first|rfl|(simp[aF.c,Tc.c,VY] <;>repeat' constructor))
   simp(disch:=omega) [aY,g5,VY]
 simp(disch:=omega) [g5,VY]
 refine ab (fun g6=> ?_) (fun g6=> ?_)
 ·have e1:aJ l m=da l m.proof:=by simp[aJ,g6]
  have e2:bD m=nZ m.proof:=by simp[bD,g6]
  rw[e1,e2]
  simp(disch:=omega) [g6,VY]
  cases hp:da l m.proof
  ·refine aB ((iN l b m.proof hw.proof (by omega)).re (cQ hp)) ?_ (ha:=by first|rfl|(simp[aF.c,Proof.c,VY] <;>repeat' constructor))
   simp(disch:=omega) [aY,g6,VY]
  ·refine aB ((iN l b m.proof hw.proof (by omega)).re (bI hp)) ?_ (ha:=by first|rfl|(simp[aF.c,Proof.c,VY] <;>repeat' constructor))
   simp(disch:=omega) [aY,g6,VY]
 simp(disch:=omega) [g6,VY]
 have g7:m.kind=7:=by omega
 have e1:aJ l m=e7 l m.incl:=by simp[aJ,g7]
 have e2:bD m=uH m.incl:=by simp[bD,g7]
 rw[e1,e2]
 cases hp:e7 l m.incl
 ·refine aB ((kG l b m.incl hw.incl hw.tx (by omega)).re (cQ hp)) ?_ (ha:=by first|rfl|(simp[aF.c,bp.c,VY] <;>repeat' constructor))
  simp(disch:=omega) [aY,g7,VY]
 ·refine aB ((kG l b m.incl hw.incl hw.tx (by omega)).re (bI hp)) ?_ (ha:=by first|rfl|(simp[aF.c,bp.c,VY] <;>repeat' constructor))
  simp(disch:=omega) [aY,g7,VY]
theorem EM {m:bm} (h:m.kind=1):cJ m= {ey with kind:=1,vote:=m.vote}:=by simp[cJ,h]
theorem EC {m:bm} (h:m.kind=2):cJ m= {ey with kind:=2,qc:=m.qc}:=by simp[cJ,h]
theorem Eu {m:bm} (h:m.kind=3):cJ m= {ey with kind:=3,head:=m.head}:=by simp[cJ,h]
theorem EU {m:bm} (h:m.kind=4):cJ m= {ey with kind:=4,block:=m.block}:=by simp[cJ,h]
theorem Ey {m:bm} (h:m.kind=5):cJ m= {ey with kind:=5,tc:=m.tc}:=by simp[cJ,h]
theorem EZ {m:bm} (h:m.kind=6):cJ m= {ey with kind:=6,proof:=m.proof}:=by simp[cJ,h]
theorem EE {m:bm} (h:m.kind=7):cJ m= {ey with kind:=7,incl:=m.incl}:=by simp[cJ,h]
theorem BT {m:bm} (hw:m.wc):(cJ m).wc:=by
 unfold cJ
 repeat' split
 ·exact {hQ with kind:=by simp only[lN];omega,vote:=hw.vote}
 ·exact {hQ with kind:=by simp only[lN];omega,qc:=hw.qc}
 ·exact {hQ with kind:=by simp only[lN];omega,head:=hw.head}
 ·exact {hQ with kind:=by simp only[lN];omega,block:=hw.block}
 ·exact {hQ with kind:=by simp only[lN];omega,tc:=hw.tc}
 ·exact {hQ with kind:=by simp only[lN];omega,proof:=hw.proof}
 ·exact {hQ with kind:=by simp only[lN];omega,incl:=hw.incl,tx:=hw.tx}
 ·exact hQ
abbrev rn:Nat:=33
def rf:AF:=⟨2,5,[.tmp 4],(.seq (.ops [.i (.lbox 2 (.s 0)), .i (.lbox 3 (.s 1)), .i (.mov 4 (qb false))]) (.seq (.ops [ql 8 3 3 45 true,ql 9 2 2 5 true, .i (.call 11 97 false [(.s 8),(.s 9),(.c (.val false [.nils]))]),qm 7 10, .i (.ext 11 (.s 7) 0), .i (.ext 12 (.s 7) 1),qm 5 11,qm 6 12]) (.seq (.ops [qm 13 6,qm 14 13, .g 14 true 16 (.ldl 15 3 (.s 3) 45 true), .g 14 true 17 (.ldl 16 3 (.s 3) 45 true), .g 14 true 18 (.call 18 99 false [(.s 16)]), .g 14 true 19 (.call 19 98 false [(.s 15),(.s 17)]), .i (.pick 19 (.s 14) (.s 18) (qb false)),qm 4 19]) .ret)))⟩
theorem AN:cd rn=some rf:=by kernel_rfl
theorem yV (l:aF) (m:bm) (hw:m.wc):VC cd rn (aO [(true,l.c),(true,m.c)]) (fun rs _=>rs=bl (bq l m)):=by
 have hx:=BT hw
 refine aa AN rfl ?_
 simp(disch:=omega) [rf,bm.c,aF.c,VY]
 cases hp:aJ l m with
 |false=>
  refine aB ((nO l [] m hw (by simp)).re (cQ hp)) ?_ (ha:=by first|rfl|(simp[bm.c,aF.c,aG,VY] <;>repeat' constructor))
  simp(disch:=omega) [bq,hp,VY]
 |true=>
  have e0:([]:Bytes)++bD m=bD m:=rfl
  refine aB ((nO l [] m hw (by simp)).re (bI hp)) ?_ (ha:=by first|rfl|(simp[bm.c,aF.c,aG,VY] <;>repeat' constructor))
  simp(disch:=omega) [VY]
  rcases ib hp with hk|hk|hk|hk|hk|hk|hk
  ·refine aB (As m hw hk) ?_ (ha:=by first|rfl|(simp[bm.c,VY] <;>repeat' constructor))
   simp(disch:=omega) [fo,VY]
   refine aB (cg m (cJ m) hw hx) ?_ (ha:=by first|rfl|(simp[bm.c,EM hk,ey,gf,BM,fI,dY,Dq,dU,fU,aG,show cX []= []from rfl,show gH []= []from rfl,show lq []= []from rfl,VY] <;>repeat' constructor))
   simp(disch:=omega) [bq,hp,VY]
  ·refine aB (Bo m hw hk) ?_ (ha:=by first|rfl|(simp[bm.c,VY] <;>repeat' constructor))
   simp(disch:=omega) [qA,VY]
   refine aB (cg m (cJ m) hw hx) ?_ (ha:=by first|rfl|(simp[bm.c,EC hk,ey,gf,BM,fI,dY,Dq,dU,fU,aG,show cX []= []from rfl,show gH []= []from rfl,show lq []= []from rfl,VY] <;>repeat' constructor))
   simp(disch:=omega) [bq,hp,VY]
  ·refine aB (Bf m hw hk) ?_ (ha:=by first|rfl|(simp[bm.c,VY] <;>repeat' constructor))
   simp(disch:=omega) [fw,VY]
   refine aB (cg m (cJ m) hw hx) ?_ (ha:=by first|rfl|(simp[bm.c,Eu hk,ey,gf,BM,fI,dY,Dq,dU,fU,aG,show cX []= []from rfl,show gH []= []from rfl,show lq []= []from rfl,VY] <;>repeat' constructor))
   simp(disch:=omega) [bq,hp,VY]
  ·refine aB (Af m hw hk) ?_ (ha:=by first|rfl|(simp[bm.c,VY] <;>repeat' constructor))
   simp(disch:=omega) [eg,VY]
   refine aB (cg m (cJ m) hw hx) ?_ (ha:=by first|rfl|(simp[bm.c,EU hk,ey,gf,BM,fI,dY,Dq,dU,fU,aG,show cX []= []from rfl,show gH []= []from rfl,show lq []= []from rfl,VY] <;>repeat' constructor))
   simp(disch:=omega) [bq,hp,VY]
  ·refine aB (BG m hw hk) ?_ (ha:=by first|rfl|(simp[bm.c,VY] <;>repeat' constructor))
   simp(disch:=omega) [pA,VY]
   refine aB (cg m (cJ m) hw hx) ?_ (ha:=by first|rfl|(simp[bm.c,Ey hk,ey,gf,BM,fI,dY,Dq,dU,fU,aG,show cX []= []from rfl,show gH []= []from rfl,show lq []= []from rfl,VY] <;>repeat' constructor))
   simp(disch:=omega) [bq,hp,VY]
  ·refine aB (AP m hw hk) ?_ (ha:=by first|rfl|(simp[bm.c,VY] <;>repeat' constructor))
   simp(disch:=omega) [ee,VY]
   refine aB (cg m (cJ m) hw hx) ?_ (ha:=by first|rfl|(simp[bm.c,EZ hk,ey,gf,BM,fI,dY,Dq,dU,fU,aG,show cX []= []from rfl,show gH []= []from rfl,show lq []= []from rfl,VY] <;>repeat' constructor))
   simp(disch:=omega) [bq,hp,VY]
  ·refine aB (Bh m hw hk) ?_ (ha:=by first|rfl|(simp[bm.c,VY] <;>repeat' constructor))
   simp(disch:=omega) [fu,VY]
   refine aB (cg m (cJ m) hw hx) ?_ (ha:=by first|rfl|(simp[bm.c,EE hk,ey,gf,BM,fI,dY,Dq,dU,fU,aG,show cX []= []from rfl,show gH []= []from rfl,show lq []= []from rfl,VY] <;>repeat' constructor))
   simp(disch:=omega) [bq,hp,VY]
abbrev mY:Nat:=86
def nE:AF:=⟨1,3,[.tmp 2],(.seq (.ops [.i (.mov 2 (qb false))]) (.seq (.ops [qm 3 0, .i (.call 5 152 false [(.s 3),(qi 1),(qi 7)]),qm 2 4]) .ret))⟩
theorem xG:cd mY=some nE:=by kernel_rfl
theorem DF (k:Int):VC cd mY (aO [(false,[.int .i64 k])]) (fun rs _=>rs=bl (eW k 1 7)):=by
 refine aa xG rfl ?_
 simp(disch:=omega) [nE,VY]
 refine aB (cc k 1 7) ?_
 simp(disch:=omega) [VY]
abbrev sJ:Nat:=30
def sF:AF:=⟨2,5,[.tmp 4],(.seq (.ops [.i (.lbox 2 (.s 0)), .i (.lbox 3 (.s 1)), .i (.mov 4 (qb false))]) (.seq (.seq (.ops [qf 7 3 0,ql 8 3 7 1 false,qk 10 86 8, .i (.not 10 (.s 9)),qm 11 10, .g 11 false 13 (.ldl 12 3 (.s 3) 45 true), .g 11 false 14 (.ldl 13 3 (.s 3) 45 true), .g 11 false 15 (.call 15 88 false [(.s 13)]), .g 11 false 16 (.call 16 87 false [(.s 12),(.s 14)]), .g 11 false 17 (.not 16 (.s 15)), .i (.pick 17 (.s 11) (qb true) (.s 16))]) (.cond (.s 17) (.seq (.ops [.i (.mov 4 (qb false))]) .ret) .skip)) (.seq (.ops [ql 19 2 2 5 true,ql 20 3 3 45 true, .i (.call 22 89 false [(.s 19),(.c (.val false [.nils])),(.s 20)]),qm 18 21, .i (.ext 22 (.s 18) 0), .i (.ext 23 (.s 18) 1),qm 5 22,qm 6 23]) (.seq (.ops [qm 24 6,qm 4 24]) .ret))))⟩
theorem BH:cd sJ=some sF:=by kernel_rfl
theorem zd (l:aF) (m:bm) (hw:m.wc):VC cd sJ (aO [(true,l.c),(true,m.c)]) (fun rs _=>rs=bl (bq l m)):=by
 have hx:=BT hw
 refine aa BH rfl ?_
 simp(disch:=omega) [sF,bm.c,aF.c,VY]
 refine aB (DF m.kind) ?_
 simp(disch:=omega) [VY]
 refine ak (fun h1=> ?_) (fun h1=> ?_)
 case refine_2=>
  have e1:aJ l m=false:=by
   cases hp:aJ l m with
   |false=>rfl
   |true=>rcases ib hp with hk|hk|hk|hk|hk|hk|hk <;>(rw[hk]at h1;cases h1)
  simp(disch:=omega) [h1,bq,e1,VY]
 simp(disch:=omega) [h1,VY]
 have hk2:=dK h1
 have hk3:m.kind=1∨m.kind=2∨m.kind=3∨m.kind=4∨m.kind=5∨m.kind=6∨m.kind=7:=by omega
 rcases hk3 with hk|hk|hk|hk|hk|hk|hk
 ·refine aB (AV m hw hk) ?_ (ha:=by first|rfl|(simp[bm.c,VY] <;>repeat' constructor))
  simp(disch:=omega) [fo,h1,VY]
  refine aB (ck m (cJ m) hw hx) ?_ (ha:=by first|rfl|(simp[bm.c,EM hk,ey,gf,BM,fI,dY,Dq,dU,fU,aG,show cX []= []from rfl,show gH []= []from rfl,show lq []= []from rfl,VY] <;>repeat' constructor))
  simp(disch:=omega) [h1,VY]
  refine ak (fun h2=> ?_) (fun h2=> ?_)
  case refine_2=>simp(disch:=omega) [h1,h2,bq,VY]
  simp(disch:=omega) [h1,h2,VY]
  cases hp:aJ l m
  ·refine aB ((bg l [] m hw h1 (by simp)).re (cQ hp)) ?_ (ha:=by first|rfl|(simp[bm.c,aF.c,aG,VY] <;>repeat' constructor))
   simp(disch:=omega) [bq,hp,h2,VY]
  ·refine aB ((bg l [] m hw h1 (by simp)).re (bI hp)) ?_ (ha:=by first|rfl|(simp[bm.c,aF.c,aG,VY] <;>repeat' constructor))
   simp(disch:=omega) [bq,hp,h2,VY]
 ·refine aB (Bc m hw hk) ?_ (ha:=by first|rfl|(simp[bm.c,VY] <;>repeat' constructor))
  simp(disch:=omega) [qA,h1,VY]
  refine aB (ck m (cJ m) hw hx) ?_ (ha:=by first|rfl|(simp[bm.c,EC hk,ey,gf,BM,fI,dY,Dq,dU,fU,aG,show cX []= []from rfl,show gH []= []from rfl,show lq []= []from rfl,VY] <;>repeat' constructor))
  simp(disch:=omega) [h1,VY]
  refine ak (fun h2=> ?_) (fun h2=> ?_)
  case refine_2=>simp(disch:=omega) [h1,h2,bq,VY]
  simp(disch:=omega) [h1,h2,VY]
  cases hp:aJ l m
  ·refine aB ((bg l [] m hw h1 (by simp)).re (cQ hp)) ?_ (ha:=by first|rfl|(simp[bm.c,aF.c,aG,VY] <;>repeat' constructor))
   simp(disch:=omega) [bq,hp,h2,VY]
  ·refine aB ((bg l [] m hw h1 (by simp)).re (bI hp)) ?_ (ha:=by first|rfl|(simp[bm.c,aF.c,aG,VY] <;>repeat' constructor))
   simp(disch:=omega) [bq,hp,h2,VY]
 ·refine aB (Ar m hw hk) ?_ (ha:=by first|rfl|(simp[bm.c,VY] <;>repeat' constructor))
  simp(disch:=omega) [fw,h1,VY]
  refine aB (ck m (cJ m) hw hx) ?_ (ha:=by first|rfl|(simp[bm.c,Eu hk,ey,gf,BM,fI,dY,Dq,dU,fU,aG,show cX []= []from rfl,show gH []= []from rfl,show lq []= []from rfl,VY] <;>repeat' constructor))
  simp(disch:=omega) [h1,VY]
  refine ak (fun h2=> ?_) (fun h2=> ?_)
  case refine_2=>simp(disch:=omega) [h1,h2,bq,VY]
  simp(disch:=omega) [h1,h2,VY]
  cases hp:aJ l m
  ·refine aB ((bg l [] m hw h1 (by simp)).re (cQ hp)) ?_ (ha:=by first|rfl|(simp[bm.c,aF.c,aG,VY] <;>repeat' constructor))
   simp(disch:=omega) [bq,hp,h2,VY]
  ·refine aB ((bg l [] m hw h1 (by simp)).re (bI hp)) ?_ (ha:=by first|rfl|(simp[bm.c,aF.c,aG,VY] <;>repeat' constructor))
   simp(disch:=omega) [bq,hp,h2,VY]
 ·refine aB (Bm m hw hk) ?_ (ha:=by first|rfl|(simp[bm.c,VY] <;>repeat' constructor))
  simp(disch:=omega) [eg,h1,VY]
  refine aB (ck m (cJ m) hw hx) ?_ (ha:=by first|rfl|(simp[bm.c,EU hk,ey,gf,BM,fI,dY,Dq,dU,fU,aG,show cX []= []from rfl,show gH []= []from rfl,show lq []= []from rfl,VY] <;>repeat' constructor))
  simp(disch:=omega) [h1,VY]
  refine ak (fun h2=> ?_) (fun h2=> ?_)
  case refine_2=>simp(disch:=omega) [h1,h2,bq,VY]
  simp(disch:=omega) [h1,h2,VY]
  cases hp:aJ l m
  ·refine aB ((bg l [] m hw h1 (by simp)).re (cQ hp)) ?_ (ha:=by first|rfl|(simp[bm.c,aF.c,aG,VY] <;>repeat' constructor))
   simp(disch:=omega) [bq,hp,h2,VY]
  ·refine aB ((bg l [] m hw h1 (by simp)).re (bI hp)) ?_ (ha:=by first|rfl|(simp[bm.c,aF.c,aG,VY] <;>repeat' constructor))
   simp(disch:=omega) [bq,hp,h2,VY]
 ·refine aB (AX m hw hk) ?_ (ha:=by first|rfl|(simp[bm.c,VY] <;>repeat' constructor))
  simp(disch:=omega) [pA,h1,VY]
  refine aB (ck m (cJ m) hw hx) ?_ (ha:=by first|rfl|(simp[bm.c,Ey hk,ey,gf,BM,fI,dY,Dq,dU,fU,aG,show cX []= []from rfl,show gH []= []from rfl,show lq []= []from rfl,VY] <;>repeat' constructor))
  simp(disch:=omega) [h1,VY]
  refine ak (fun h2=> ?_) (fun h2=> ?_)
  case refine_2=>simp(disch:=omega) [h1,h2,bq,VY]
  simp(disch:=omega) [h1,h2,VY]
  cases hp:aJ l m
  ·refine aB ((bg l [] m hw h1 (by simp)).re (cQ hp)) ?_ (ha:=by first|rfl|(simp[bm.c,aF.c,aG,VY] <;>repeat' constructor))
   simp(disch:=omega) [bq,hp,h2,VY]
  ·refine aB ((bg l [] m hw h1 (by simp)).re (bI hp)) ?_ (ha:=by first|rfl|(simp[bm.c,aF.c,aG,VY] <;>repeat' constructor))
   simp(disch:=omega) [bq,hp,h2,VY]
 ·refine aB (A3 m hw hk) ?_ (ha:=by first|rfl|(simp[bm.c,VY] <;>repeat' constructor))
  simp(disch:=omega) [ee,h1,VY]
  refine aB (ck m (cJ m) hw hx) ?_ (ha:=by first|rfl|(simp[bm.c,EZ hk,ey,gf,BM,fI,dY,Dq,dU,fU,aG,show cX []= []from rfl,show gH []= []from rfl,show lq []= []from rfl,VY] <;>repeat' constructor))
  simp(disch:=omega) [h1,VY]
  refine ak (fun h2=> ?_) (fun h2=> ?_)
  case refine_2=>simp(disch:=omega) [h1,h2,bq,VY]
  simp(disch:=omega) [h1,h2,VY]
  cases hp:aJ l m
  ·refine aB ((bg l [] m hw h1 (by simp)).re (cQ hp)) ?_ (ha:=by first|rfl|(simp[bm.c,aF.c,aG,VY] <;>repeat' constructor))
   simp(disch:=omega) [bq,hp,h2,VY]
  ·refine aB ((bg l [] m hw h1 (by simp)).re (bI hp)) ?_ (ha:=by first|rfl|(simp[bm.c,aF.c,aG,VY] <;>repeat' constructor))
   simp(disch:=omega) [bq,hp,h2,VY]
 ·refine aB (AQ m hw hk) ?_ (ha:=by first|rfl|(simp[bm.c,VY] <;>repeat' constructor))
  simp(disch:=omega) [fu,h1,VY]
  refine aB (ck m (cJ m) hw hx) ?_ (ha:=by first|rfl|(simp[bm.c,EE hk,ey,gf,BM,fI,dY,Dq,dU,fU,aG,show cX []= []from rfl,show gH []= []from rfl,show lq []= []from rfl,VY] <;>repeat' constructor))
  simp(disch:=omega) [h1,VY]
  refine ak (fun h2=> ?_) (fun h2=> ?_)
  case refine_2=>simp(disch:=omega) [h1,h2,bq,VY]
  simp(disch:=omega) [h1,h2,VY]
  cases hp:aJ l m
  ·refine aB ((bg l [] m hw h1 (by simp)).re (cQ hp)) ?_ (ha:=by first|rfl|(simp[bm.c,aF.c,aG,VY] <;>repeat' constructor))
   simp(disch:=omega) [bq,hp,h2,VY]
  ·refine aB ((bg l [] m hw h1 (by simp)).re (bI hp)) ?_ (ha:=by first|rfl|(simp[bm.c,aF.c,aG,VY] <;>repeat' constructor))
   simp(disch:=omega) [bq,hp,h2,VY]
end Go.Eng.F
namespace Go.Eng.F
open Go.Eng.U (fZ ao TLimits cq bL yB cj gW TMsg)
def bK.tv (x:bK):Tv:= .r [.i x.view, .i x.height,q9 x.block, .i x.who,q9 x.tag]
theorem bK.enc (x:bK):enc cq x.tv=x.c:=by simp only[bK.tv,ew,bN,cF,dE,du,fq,ep,dw,fB,bK.c,List.cons_append,List.nil_append,List.append_assoc]
theorem bK.ex {v:Tv} (h:aI cq v):∃x:bK,v=x.tv:=by
 obtain⟨vs,rfl,h⟩:=h.st
 obtain⟨v0,_,rfl,h0,h⟩:=h.step
 obtain⟨v1,_,rfl,h1,h⟩:=h.step
 obtain⟨v2,_,rfl,h2,h⟩:=h.step
 obtain⟨v3,_,rfl,h3,h⟩:=h.step
 obtain⟨v4,_,rfl,h4,h⟩:=h.step
 obtain rfl:=h.fin
 obtain⟨n0,rfl,_⟩:=h0.int
 obtain⟨n1,rfl,_⟩:=h1.int
 obtain⟨n2,rfl⟩:=gr h2
 obtain⟨n3,rfl,_⟩:=h3.int
 obtain⟨n4,rfl⟩:=gr h4
 exact⟨⟨n0,n1,n2,n3,n4⟩,rfl⟩
theorem bK.of {x:bK} (h:aI cq x.tv) (hw:wt x.tv≤1048576):x.wf:=by
 simp only[bK.tv,fA,cC]at h
 simp only[bK.tv,wt,dg]at hw
 obtain⟨h0,h1,h2,h3,h4,_⟩:=h
 exact⟨dJ (ok_int.1 h0),dJ (ok_int.1 h1),pP (by omega),dJ (ok_int.1 h3),pP (by omega)⟩
def bp.tv (x:bp):Tv:= .r [.i x.height, .i x.n, .i x.idx,q9 x.tx,s5 x.path]
theorem bp.enc (x:bp):enc gW x.tv=x.c:=by simp only[bp.tv,ew,bN,cF,dE,du,fq,ep,dw,fB,bp.c,List.cons_append,List.nil_append,List.append_assoc]
theorem bp.ex {v:Tv} (h:aI gW v):∃x:bp,v=x.tv:=by
 obtain⟨vs,rfl,h⟩:=h.st
 obtain⟨v0,_,rfl,h0,h⟩:=h.step
 obtain⟨v1,_,rfl,h1,h⟩:=h.step
 obtain⟨v2,_,rfl,h2,h⟩:=h.step
 obtain⟨v3,_,rfl,h3,h⟩:=h.step
 obtain⟨v4,_,rfl,h4,h⟩:=h.step
 obtain rfl:=h.fin
 obtain⟨n0,rfl,_⟩:=h0.int
 obtain⟨n1,rfl,_⟩:=h1.int
 obtain⟨n2,rfl,_⟩:=h2.int
 obtain⟨n3,rfl⟩:=gr h3
 obtain⟨n4,rfl⟩:=AH h4
 exact⟨⟨n0,n1,n2,n3,n4⟩,rfl⟩
theorem bp.of {x:bp} (h:aI gW x.tv) (hw:wt x.tv≤1048576):x.wc:=by
 simp only[bp.tv,fA,cC]at h
 simp only[bp.tv,wt,dg]at hw
 obtain⟨h0,h1,h2,h3,h4,_⟩:=h
 exact⟨dJ (ok_int.1 h0),dJ (ok_int.1 h1),dJ (ok_int.1 h2),pP (by omega),Dw (by omega)⟩
def bm.tv (m:bm):Tv:= .r [.i m.kind,m.vote.tv,m.qc.tv,m.head.tv,m.block.tv,m.tc.tv,m.proof.tv,m.incl.tv]
theorem bm.enc (m:bm):enc TMsg m.tv=m.c:=by simp only[bm.tv,ew,bN,cF,dE,bK.enc,Qc.enc,Head.enc,Block.enc,Tc.enc,Proof.enc,bp.enc,bm.c,bK.c,Qc.c,Head.c,Block.c,Tc.c,Proof.c,bp.c,List.cons_append,List.nil_append,List.append_assoc,List.append_nil]
theorem bm.ex {v:Tv} (h:aI TMsg v):∃m:bm,v=m.tv:=by
 obtain⟨vs,rfl,h⟩:=h.st
 obtain⟨v0,_,rfl,h0,h⟩:=h.step
 obtain⟨v1,_,rfl,h1,h⟩:=h.step
 obtain⟨v2,_,rfl,h2,h⟩:=h.step
 obtain⟨v3,_,rfl,h3,h⟩:=h.step
 obtain⟨v4,_,rfl,h4,h⟩:=h.step
 obtain⟨v5,_,rfl,h5,h⟩:=h.step
 obtain⟨v6,_,rfl,h6,h⟩:=h.step
 obtain⟨v7,_,rfl,h7,h⟩:=h.step
 obtain rfl:=h.fin
 obtain⟨n0,rfl,_⟩:=h0.int
 obtain⟨n1,rfl⟩:=bK.ex h1
 obtain⟨n2,rfl⟩:=Qc.ex h2
 obtain⟨n3,rfl⟩:=Head.ex h3
 obtain⟨n4,rfl⟩:=Block.ex h4
 obtain⟨n5,rfl⟩:=Tc.ex h5
 obtain⟨n6,rfl⟩:=Proof.ex h6
 obtain⟨n7,rfl⟩:=bp.ex h7
 exact⟨⟨n0,n1,n2,n3,n4,n5,n6,n7⟩,rfl⟩
theorem bm.of {m:bm} (h:aI TMsg m.tv) (hw:wt m.tv≤1048576):m.wc:=by
 simp only[bm.tv,fA,cC]at h
 simp only[bm.tv,wt,dg]at hw
 obtain⟨h0,h1,h2,h3,h4,h5,h6,h7,_⟩:=h
 have hb:wt m.block.tv=wt m.block.head.tv+(wt (s5 m.block.txs)+0):=by simp only[Block.tv,wt,dg]
 have hi:wt m.incl.tv=0+(0+(0+(wt (q9 m.incl.tx)+(wt (s5 m.incl.path)+0)))):=by simp only[bp.tv,wt,dg]
 refine⟨dJ (ok_int.1 h0),bK.of h1 (by omega),Qc.of h2 (by omega),Head.of h3 (by omega),⟨Block.of h4 (by omega),fun t ht=> ?_⟩,Tc.of h5 (by omega),Proof.NK h6 (by omega),bp.of h7 (by omega),?_⟩
 ·have:=(Hx m.block.txs).2 t ht
  omega
 ·rw[EG]at hi
  omega
end Go.Eng.F
namespace Go.Eng.F
open Go.Eng.U (ao TLimits TMsg)
def iJ (m:bm):UInt8:=UInt8.ofNat m.kind.toNat
theorem qY {l:aF} {m:bm} (h:bq l m=true):aJ l m=true:=by
 simp only[bq,Bool.and_eq_true]at h
 exact h.1
theorem xh {l:aF} {m:bm} (h:aJ l m=true):IntKind.u8.wrap m.kind=((iJ m).toNat:Int):=by
 have h1:=ib h
 obtain⟨k,hk⟩:∃k:Nat,m.kind=(k:Int):=⟨m.kind.toNat,by omega⟩
 unfold iJ
 rw[hk]
 exact L4 (by omega)
abbrev im:Nat:=38
def qq:AF:=⟨2,5,[.tmp 4, .tmp 5],(.seq (.ops [.i (.lbox 2 (.s 0)), .i (.lbox 3 (.s 1)), .i (.mov 4 (.c (.val false [.nils]))), .i (.mov 5 (qb false))]) (.seq (.seq (.ops [ql 6 2 2 5 true,ql 7 3 3 45 true, .i (.call 9 33 false [(.s 6),(.s 7)]), .i (.not 9 (.s 8))]) (.cond (.s 9) (.seq (.ops [.i (.mov 4 (.c (.val false [.nils]))), .i (.mov 5 (qb false))]) .ret) .skip)) (.seq (.ops [ql 10 3 3 45 true,ql 11 2 2 5 true,qf 12 3 0,ql 13 3 12 1 false, .i (.cvi 14 .u8 (.s 13)), .i (.bsl 15 5 1 1 [.int .u8 0] [(0,1,(.s 14))]), .i (.call 17 97 false [(.s 10),(.s 11),(.s 15)]), .i (.ext 17 (.s 16) 0), .i (.ext 18 (.s 16) 1),qm 4 17,qm 5 18]) .ret)))⟩
theorem yU:cd im=some qq:=by kernel_rfl
theorem wO (l:aF) (m:bm) (hw:m.wc):VC cd im (aO [(true,l.c),(true,m.c)]) (fun rs _=>rs=aY (bq l m) (iJ m::bD m)):=by
 have e0: [[D.int .u8 ((iJ m).toNat:Int)]]=bytes [iJ m]:=rfl
 refine aa yU rfl ?_
 simp(disch:=omega) [qq,aF.c,bm.c,VY]
 refine aB (yV l m hw) ?_ (ha:=by first|rfl|(simp[aF.c,bm.c,VY] <;>repeat' constructor))
 simp(disch:=omega) [VY]
 refine ak (fun h1=> ?_) (fun h1=> ?_)
 case refine_2=>simp(disch:=omega) [h1,aY,VY]
 have hp:=qY h1
 simp(disch:=omega) [h1,xh hp,e0,VY]
 refine aB ((nO l [iJ m] m hw (by simp)).re (bI hp)) ?_ (ha:=by first|rfl|(simp[aF.c,bm.c,VY] <;>repeat' constructor))
 simp(disch:=omega) [h1,aY,VY]
abbrev ix:Nat:=37
def qw:AF:=⟨2,5,[.tmp 4, .tmp 5],(.seq (.ops [.i (.lbox 2 (.s 0)), .i (.lbox 3 (.s 1)), .i (.mov 4 (.c (.val false [.nils]))), .i (.mov 5 (qb false))]) (.seq (.seq (.ops [ql 6 2 2 5 true,ql 7 3 3 45 true, .i (.call 9 30 false [(.s 6),(.s 7)]), .i (.not 9 (.s 8))]) (.cond (.s 9) (.seq (.ops [.i (.mov 4 (.c (.val false [.nils]))), .i (.mov 5 (qb false))]) .ret) .skip)) (.seq (.ops [ql 10 2 2 5 true,qf 11 3 0,ql 12 3 11 1 false, .i (.cvi 13 .u8 (.s 12)), .i (.bsl 14 5 1 1 [.int .u8 0] [(0,1,(.s 13))]),ql 15 3 3 45 true, .i (.call 17 89 false [(.s 10),(.s 14),(.s 15)]), .i (.ext 17 (.s 16) 0), .i (.ext 18 (.s 16) 1),qm 4 17,qm 5 18]) .ret)))⟩
theorem yN:cd ix=some qw:=by kernel_rfl
theorem wI (l:aF) (m:bm) (hw:m.wc):VC cd ix (aO [(true,l.c),(true,m.c)]) (fun rs _=>rs=aY (bq l m) (iJ m::bD m)):=by
 have e0: [[D.int .u8 ((iJ m).toNat:Int)]]=bytes [iJ m]:=rfl
 refine aa yN rfl ?_
 simp(disch:=omega) [qw,aF.c,bm.c,VY]
 refine aB (zd l m hw) ?_ (ha:=by first|rfl|(simp[aF.c,bm.c,VY] <;>repeat' constructor))
 simp(disch:=omega) [VY]
 refine ak (fun h1=> ?_) (fun h1=> ?_)
 case refine_2=>simp(disch:=omega) [h1,aY,VY]
 have hp:=qY h1
 have hk:eW m.kind 1 7=true:=by
  have:=ib hp
  simp only[eW,decide_eq_true_eq]
  omega
 simp(disch:=omega) [h1,xh hp,e0,VY]
 refine aB ((bg l [iJ m] m hw hk (by simp)).re (bI hp)) ?_ (ha:=by first|rfl|(simp[aF.c,bm.c,VY] <;>repeat' constructor))
 simp(disch:=omega) [h1,aY,VY]
theorem FU {l:aF} {m:bm} (h:aJ l m=true):(bD m).length≤20000:=by
 unfold aJ at h
 unfold bD
 split at h
 ·rename_i g;rw[if_pos g];have:=IQ (zX h);omega
 split at h
 ·rename_i g1 g;rw[if_neg g1,if_pos g];have:=Ac (ov h);omega
 split at h
 ·rename_i g1 g2 g;rw[if_neg g1,if_neg g2,if_pos g];have:=gl (dz h);omega
 split at h
 ·rename_i g1 g2 g3 g
  rw[if_neg g1,if_neg g2,if_neg g3,if_pos g]
  have k1:=gl (dz (gk h))
  have k2:=lZ h
  have k3:=jK (lV h)
  have k4:=bP (n:=m.block.txs.length) (by omega)
  simp only[dO]at k3
  simp only[me,List.length_append]
  omega
 split at h
 ·rename_i g1 g2 g3 g4 g
  rw[if_neg g1,if_neg g2,if_neg g3,if_neg g4,if_pos g]
  obtain⟨k1,k2,k3⟩:=xP h
  have k4:=oj k3
  have k5:=az k2
  have k6:=bP (n:=m.tc.entries.length) (by omega)
  simp only[fQ]at k4
  simp only[J1,List.length_append]
  omega
 split at h
 ·rename_i g1 g2 g3 g4 g5 g
  rw[if_neg g1,if_neg g2,if_neg g3,if_neg g4,if_neg g5,if_pos g]
  obtain⟨k1,k2,k3⟩:=nH h
  have k4:=jP (fun e he=>dz (k3 e he))
  have k5:=Ac (ov k2)
  have k6:=bP (n:=m.proof.heads.length) (by omega)
  simp only[dG]at k4
  simp only[nZ,List.length_append]
  omega
 split at h
 ·rename_i g1 g2 g3 g4 g5 g6 g
  rw[if_neg g1,if_neg g2,if_neg g3,if_neg g4,if_neg g5,if_neg g6]
  obtain⟨k1,k2,k3,k4,k5,k6⟩:=qH h
  have v1:=az k1
  have v2:=az k2
  have v3:=az k3
  have v4:=oe (x:=m.incl.tx) (by omega)
  have v5:=gq k6 (Nat.le_refl _)
  rw[List.take_length]at v5
  simp only[uH,List.length_append]
  omega
 ·cases h
def so (l:aF) (m:bm):Bytes:=if bq l m then iJ m::bD m else []
theorem B4 (l:aF) (m:bm):(so l m).length≤20001:=by
 unfold so
 split
 ·rename_i h
  have:=FU (qY h)
  simp only[List.length_cons]
  omega
 ·simp
theorem LA (l:aF) (m:bm):wt (q9 (so l m))≤20001:=by rw[EG];exact B4 l m
theorem G2 (l:aF) (m:bm):KS (aY (bq l m) (iJ m::bD m)) [(.sl (.int .u8),q9 (so l m)),(.bool, .b (bq l m))]:=by
 have ht:aI (.sl (.int .u8)) (q9 (so l m)):=MA (by have:=B4 l m;simp only[Sz];omega)
 cases h:bq l m with
 |true=>
  have e:so l m=iJ m::bD m:=by unfold so;rw[if_pos h]
  rw[e]at ht⊢
  exact⟨rfl,by simp only[ep,yC,and_self],ht,rfl,by simp only[du,yC,D.leaf,and_self],trivial,trivial⟩
 |false=>
  have e:so l m= []:=by unfold so;rw[if_neg (by simp[h])]
  rw[e]at ht⊢
  exact⟨rfl,by simp only[ep,yC,D.leaf,and_self,bytes,List.map_nil],ht,rfl,by simp only[du,yC,D.leaf,and_self],trivial,trivial⟩
theorem mO {h0:H} {l:aF} {m:bm} {ms:List (Bool×List C)} (ha:dQ h0 [(TLimits,l.tv),(TMsg,m.tv)] ms) (hp1:wt m.tv≤1048576):
 WC cd im ms h0 (NN h0 [(.sl (.int .u8),q9 (so l m)),(.bool, .b (bq l m))]):=by
 obtain⟨k0,mr0,ha0⟩:=dQ.ML ha
 obtain⟨k1,mr1,ha1⟩:=dQ.ML ha0
 have w1:=bm.of k1 hp1
 have hc:=wO l m w1
 have e:CN [(TLimits,l.tv),(TMsg,m.tv)]= [(true,l.c),(true,m.c)]:=by simp only[CN,List.map,aF.enc,Head.enc,Qc.enc,dw,ep,dE,du,fq,oC,bm.enc,Ty.agg]
 rw[←e]at hc
 exact hc.wc ha fun rs q=>by rw[q];exact G2 l m
theorem wq {h0:H} {l:aF} {m:bm} {ms:List (Bool×List C)} (ha:dQ h0 [(TLimits,l.tv),(TMsg,m.tv)] ms) (hp1:wt m.tv≤1048576):
 WC cd ix ms h0 (NN h0 [(.sl (.int .u8),q9 (so l m)),(.bool, .b (bq l m))]):=by
 obtain⟨k0,mr0,ha0⟩:=dQ.ML ha
 obtain⟨k1,mr1,ha1⟩:=dQ.ML ha0
 have w1:=bm.of k1 hp1
 have hc:=wI l m w1
 have e:CN [(TLimits,l.tv),(TMsg,m.tv)]= [(true,l.c),(true,m.c)]:=by simp only[CN,List.map,aF.enc,Head.enc,Qc.enc,dw,ep,dE,du,fq,oC,bm.enc,Ty.agg]
 rw[←e]at hc
 exact hc.wc ha fun rs q=>by rw[q];exact G2 l m
end Go.Eng.F
