import Derived.Test.YtfackchfbefaiaaGreatGe
import Derived.Test.YtfackchfbefaiaaGreatGh
set_option maxRecDepth 100000
set_option linter.unusedSimpArgs false
set_option linter.unusedVariables false
namespace Go.Eng.F
def lj (x:Bytes):Bytes:=aV x.length++x
abbrev mq:Nat:=243
def oA:AF:=⟨2,5,[.tmp 4],(.seq (.ops [.i (.mov 4 (.c (.val false [.nils])))]) (.seq (.ops [qm 8 0,qm 9 1,qn 10 9, .i (.call 12 296 false [(.s 8),(.s 10)]),qm 7 11, .i (.ext 12 (.s 7) 0), .i (.ext 13 (.s 7) 1),qm 5 12,qm 6 13]) (.seq (.ops [qm 14 5,qm 15 1, .i (.app 16 5 1 1 (.s 14) (.s 15)),qm 4 16]) .ret)))⟩
theorem yC:cd mq=some oA:=by kernel_rfl
theorem lh (b x:Bytes) (hb:b.length≤900000000) (hx:x.length≤100000000):VC cd mq (aJ [(false,[.sl (bytes b)]),(false,[.sl (bytes x)])]) (fun rs _=>rs= [(false,[.o true (some (5,1)) (bytes (b++lj x))])]):=by
 have h1:=bS (n:=x.length) (by omega)
 refine aa yC rfl ?_
 simp(disch:=omega) [oA,an,VY]
 refine az (rM b x.length (by omega) (by omega)) ?_
 simp(disch:=omega) [an,cn,VY]
 simp(disch:=omega) [lj,VY]
abbrev mH:Nat:=223
def mg:AF:=⟨2,5,[.tmp 4],(.seq (.ops [.i (.mov 4 (.c (.val false [.nils])))]) (.seq (.ops [qm 8 0,qm 9 1,qn 10 9, .i (.call 12 287 false [(.s 8),(.s 10)]),qm 7 11, .i (.ext 12 (.s 7) 0), .i (.ext 13 (.s 7) 1),qm 5 12,qm 6 13]) (.seq (.ops [qm 14 5,qm 15 1, .i (.app 16 5 1 1 (.s 14) (.s 15)),qm 4 16]) .ret)))⟩
theorem xW:cd mH=some mg:=by kernel_rfl
theorem kH (b x:Bytes) (hb:b.length≤900000000) (hx:x.length≤100000000):VC cd mH (aJ [(false,[.sl (bytes b)]),(false,[.sl (bytes x)])]) (fun rs _=>rs= [(false,[.o true (some (5,1)) (bytes (b++lj x))])]):=by
 have h1:=bS (n:=x.length) (by omega)
 refine aa xW rfl ?_
 simp(disch:=omega) [mg,an,VY]
 refine az (qD b x.length (by omega) (by omega)) ?_
 simp(disch:=omega) [an,cn,VY]
 simp(disch:=omega) [lj,VY]
def vj (l:ax) (v:bF):Bool:=l.ok && isNum v.view && isNum v.height && hash v.block && hash v.tag && eb v.who 0 (l.n - 1)
def MC (v:bF):Bytes:=aV v.view.toNat++(aV v.height.toNat++(v.block++(aV v.who.toNat++v.tag)))
structure Lv (v:bF):Prop where
 view:isNum v.view=true
 height:isNum v.height=true
 block:v.block.length=32
 who:isNum v.who=true
 tag:v.tag.length=32
theorem CQ {l:ax} {v:bF} (h:vj l v=true):Lv v:=by
 simp only[vj,Bool.and_eq_true]at h
 have h1:=jU h.1.1.1.1.1
 have h2:=fg h.2
 exact⟨h.1.1.1.1.2,h.1.1.1.2,tu h.1.1.2,by simp[isNum,eb];omega,tu h.1.2⟩
theorem LB {v:bF} (h:Lv v):(MC v).length≤100:=by
 have h1:=aA h.view
 have h2:=aA h.height
 have h3:=aA h.who
 have h4:=h.block
 have h5:=h.tag
 simp only[MC,List.length_append]
 omega
abbrev rl:Nat:=235
def rk:AF:=⟨2,6,[.tmp 4],(.seq (.ops [.i (.lbox 2 (.s 0)), .i (.lbox 3 (.s 1)), .i (.mov 4 (qb false))]) (.seq (.ops [ql 5 2 2 5 true,qk 7 70 5,qm 7 6, .g 7 true 9 (.fad 8 (.s 3) 0), .g 7 true 10 (.ldl 9 3 (.s 8) 1 false), .g 7 true 11 (.call 11 81 false [(.s 9)]), .i (.pick 11 (.s 7) (.s 10) (qb false)),qm 12 11, .g 12 true 14 (.fad 13 (.s 3) 1), .g 12 true 15 (.ldl 14 3 (.s 13) 1 false), .g 12 true 16 (.call 16 81 false [(.s 14)]), .i (.pick 16 (.s 12) (.s 15) (qb false)),qm 17 16, .g 17 true 19 (.fad 18 (.s 3) 2), .g 17 true 20 (.ldl 19 3 (.s 18) 1 false), .g 17 true 21 (.fad 20 (.s 3) 4), .g 17 true 22 (.ldl 21 3 (.s 20) 1 false), .g 17 true 23 (.bsl 22 24 1 2 [.nils] [(0,1,(.s 19)),(1,1,(.s 21))]), .g 17 true 24 (.call 24 295 false [(.s 22)]), .i (.pick 24 (.s 17) (.s 23) (qb false)),qm 25 24, .g 25 true 27 (.fad 26 (.s 3) 3), .g 25 true 28 (.ldl 27 3 (.s 26) 1 false), .g 25 true 29 (.fad 28 (.s 2) 0), .g 25 true 30 (.ldl 29 2 (.s 28) 1 false), .g 25 true 31 (.bin 30 .sub (.s 29) (qi 1)), .g 25 true 32 (.call 32 103 false [(.s 27),(qi 0),(.s 30)]), .i (.pick 32 (.s 25) (.s 31) (qb false)),qm 4 32]) .ret))⟩
theorem A5:cd rl=some rk:=by kernel_rfl
theorem yT (l:ax) (v:bF):VC cd rl (aJ [(true,l.c),(true,v.c)]) (fun rs _=>rs=bl (vj l v)):=by
 refine aa A5 rfl ?_
 simp(disch:=omega) [rk,ax.c,bF.c,VY]
 refine az (cM l) ?_ (ha:=by first|rfl|(simp[ax.c,VY] <;>repeat' constructor))
 simp(disch:=omega) [VY]
 refine ak (fun h1=> ?_) (fun h1=> ?_) <;>simp(disch:=omega) [h1,vj,VY]
 have hn:=jU h1
 refine az (fb v.view) ?_
 simp(disch:=omega) [h1,VY]
 refine ak (fun h2=> ?_) (fun h2=> ?_) <;>simp(disch:=omega) [h1,h2,VY]
 refine az (fb v.height) ?_
 simp(disch:=omega) [h1,h2,VY]
 refine ak (fun h3=> ?_) (fun h3=> ?_) <;>simp(disch:=omega) [h1,h2,h3,VY]
 refine az (cI [v.block,v.tag] (by simp)) ?_ (ha:=by first|rfl|(simp[cS,VY] <;>repeat' constructor))
 simp(disch:=omega) [h1,h2,h3,si,VY]
 refine ak (fun h4=> ?_) (fun h4=> ?_)
 ·have h5:hash v.block=true∧hash v.tag=true:=by simpa using h4
  simp(disch:=omega) [h1,h2,h3,h5.1,h5.2,VY]
  refine az (aQ v.who 0 (l.n - 1)) ?_
  simp(disch:=omega) [h1,h2,h3,h5.1,h5.2,VY]
 ·simp(disch:=omega) [h1,h2,h3,h4,VY]
abbrev rh:Nat:=218
def qG:AF:=⟨2,6,[.tmp 4],(.seq (.ops [.i (.lbox 2 (.s 0)), .i (.lbox 3 (.s 1)), .i (.mov 4 (qb false))]) (.seq (.ops [ql 5 2 2 5 true,qk 7 66 5,qm 7 6, .g 7 true 9 (.fad 8 (.s 3) 0), .g 7 true 10 (.ldl 9 3 (.s 8) 1 false), .g 7 true 11 (.call 11 78 false [(.s 9)]), .i (.pick 11 (.s 7) (.s 10) (qb false)),qm 12 11, .g 12 true 14 (.fad 13 (.s 3) 1), .g 12 true 15 (.ldl 14 3 (.s 13) 1 false), .g 12 true 16 (.call 16 78 false [(.s 14)]), .i (.pick 16 (.s 12) (.s 15) (qb false)),qm 17 16, .g 17 true 19 (.fad 18 (.s 3) 2), .g 17 true 20 (.ldl 19 3 (.s 18) 1 false), .g 17 true 21 (.call 21 286 false [(.s 19)]), .i (.pick 21 (.s 17) (.s 20) (qb false)),qm 22 21, .g 22 true 24 (.fad 23 (.s 3) 4), .g 22 true 25 (.ldl 24 3 (.s 23) 1 false), .g 22 true 26 (.call 26 286 false [(.s 24)]), .i (.pick 26 (.s 22) (.s 25) (qb false)),qm 27 26, .g 27 true 29 (.fad 28 (.s 3) 3), .g 27 true 30 (.ldl 29 3 (.s 28) 1 false), .g 27 true 31 (.fad 30 (.s 2) 0), .g 27 true 32 (.ldl 31 2 (.s 30) 1 false), .g 27 true 33 (.bin 32 .sub (.s 31) (qi 1)), .g 27 true 34 (.call 34 67 false [(.s 29),(qi 0),(.s 32)]), .i (.pick 34 (.s 27) (.s 33) (qb false)),qm 4 34]) .ret))⟩
theorem AD:cd rh=some qG:=by kernel_rfl
theorem yN (l:ax) (v:bF):VC cd rh (aJ [(true,l.c),(true,v.c)]) (fun rs _=>rs=bl (vj l v)):=by
 refine aa AD rfl ?_
 simp(disch:=omega) [qG,ax.c,bF.c,VY]
 refine az (bO l) ?_ (ha:=by first|rfl|(simp[ax.c,VY] <;>repeat' constructor))
 simp(disch:=omega) [VY]
 refine ak (fun h1=> ?_) (fun h1=> ?_) <;>simp(disch:=omega) [h1,vj,VY]
 have hn:=jU h1
 refine az (eJ v.view) ?_
 simp(disch:=omega) [h1,VY]
 refine ak (fun h2=> ?_) (fun h2=> ?_) <;>simp(disch:=omega) [h1,h2,VY]
 refine az (eJ v.height) ?_
 simp(disch:=omega) [h1,h2,VY]
 refine ak (fun h3=> ?_) (fun h3=> ?_) <;>simp(disch:=omega) [h1,h2,h3,VY]
 refine az (eB v.block) ?_
 simp(disch:=omega) [h1,h2,h3,VY]
 refine ak (fun h4=> ?_) (fun h4=> ?_) <;>simp(disch:=omega) [h1,h2,h3,h4,VY]
 refine az (eB v.tag) ?_
 simp(disch:=omega) [h1,h2,h3,h4,VY]
 refine ak (fun h5=> ?_) (fun h5=> ?_) <;>simp(disch:=omega) [h1,h2,h3,h4,h5,VY]
 refine az (bq v.who 0 (l.n - 1)) ?_
 simp(disch:=omega) [h1,h2,h3,h4,h5,VY]
abbrev oc:Nat:=158
def mP:AF:=⟨3,6,[.tmp 6, .tmp 7],(.seq (.ops [.i (.lbox 3 (.s 0)), .i (.lbox 5 (.s 2)), .i (.mov 6 (.c (.val false [.nils]))), .i (.mov 7 (qb false))]) (.seq (.seq (.ops [ql 9 3 3 5 true,ql 10 5 5 5 true, .i (.call 12 235 false [(.s 9),(.s 10)]), .i (.not 12 (.s 11))]) (.cond (.s 12) (.seq (.ops [.i (.mov 6 (.c (.val false [.nils]))), .i (.mov 7 (qb false))]) .ret) .skip)) (.seq (.ops [qm 13 1,qk 15 47 13, .i (.bld 15 [.nils] [(0,1,(.s 14))]), .i (.hbox 16 254 (.s 15)),qm 8 16]) (.seq (.ops [qm 17 8,qf 18 5 0,ql 19 5 18 1 false, .i (.call 21 236 false [(.s 17),(.s 19)])]) (.seq (.ops [qm 21 8,qf 22 5 1,ql 23 5 22 1 false, .i (.call 25 236 false [(.s 21),(.s 23)])]) (.seq (.ops [qm 25 8,qf 26 5 2,ql 27 5 26 1 false, .i (.call 29 237 false [(.s 25),(.s 27)])]) (.seq (.ops [qm 29 8,qf 30 5 3,ql 31 5 30 1 false, .i (.call 33 236 false [(.s 29),(.s 31)])]) (.seq (.ops [qm 33 8,qf 34 5 4,ql 35 5 34 1 false, .i (.call 37 237 false [(.s 33),(.s 35)])]) (.seq (.ops [qm 37 8, .i (.nch 38 (.s 37)),qf 39 38 0, .i (.ldh 40 (.s 39) 1 false),qm 6 40, .i (.mov 7 (qb true))]) .ret)))))))))⟩
theorem yI:cd oc=some mP:=by kernel_rfl
theorem kC (l:ax) (b:Bytes) (v:bF) (hb:b.length≤900000000):VC cd oc (aJ [(true,l.c),(false,[.sl (bytes b)]),(true,v.c)]) (fun rs _=>rs=a9 (vj l v) (b++MC v)):=by
 refine aa yI rfl ?_
 simp(disch:=omega) [mP,bF.c,ax.c,VY]
 refine az (yT l v) ?_ (ha:=by first|rfl|(simp[bF.c,ax.c,VY] <;>repeat' constructor))
 simp(disch:=omega) [VY]
 refine ak (fun h0=> ?_) (fun h0=> ?_)
 case refine_2=>simp(disch:=omega) [h0,a9,VY]
 have hs:=CQ h0
 have h1:=aA hs.view
 have h2:=aA hs.height
 have h3:=aA hs.who
 have h4:=hs.block
 have h5:=hs.tag
 simp(disch:=omega) [h0,VY]
 refine ah (aH b (by omega)) rfl rfl ?_
 simp(disch:=omega) [VZ]
 refine pX (aN _ v.view hs.view ?_) ?_
 ·(try simp only[List.length_append]);omega
 simp(disch:=omega) [VZ]
 refine pX (aN _ v.height hs.height ?_) ?_
 ·(try simp only[List.length_append]);omega
 simp(disch:=omega) [VZ]
 refine pX (bW _ v.block (by omega) ?_) ?_
 ·(try simp only[List.length_append]);omega
 simp(disch:=omega) [VZ]
 refine pX (aN _ v.who hs.who ?_) ?_
 ·(try simp only[List.length_append]);omega
 simp(disch:=omega) [VZ]
 refine pX (bW _ v.tag (by omega) ?_) ?_
 ·(try simp only[List.length_append]);omega
 simp(disch:=omega) [a9,h0,MC,VZ]
abbrev nH:Nat:=147
def nF:AF:=⟨3,5,[.tmp 6, .tmp 7],(.seq (.ops [.i (.lbox 3 (.s 0)), .i (.lbox 5 (.s 2)), .i (.mov 6 (.c (.val false [.nils]))), .i (.mov 7 (qb false))]) (.seq (.seq (.ops [ql 9 3 3 5 true,ql 10 5 5 5 true, .i (.call 12 218 false [(.s 9),(.s 10)]), .i (.not 12 (.s 11))]) (.cond (.s 12) (.seq (.ops [.i (.mov 6 (.c (.val false [.nils]))), .i (.mov 7 (qb false))]) .ret) .skip)) (.seq (.ops [qm 13 1,qf 14 5 0,ql 15 5 14 1 false, .i (.call 17 219 false [(.s 13),(.s 15)]),qf 17 5 1,ql 18 5 17 1 false, .i (.call 20 219 false [(.s 16),(.s 18)]),qf 20 5 2,ql 21 5 20 1 false, .i (.app 22 5 1 1 (.s 19) (.s 21)),qm 8 22]) (.seq (.ops [qm 23 8,qf 24 5 3,ql 25 5 24 1 false, .i (.call 27 219 false [(.s 23),(.s 25)]),qf 27 5 4,ql 28 5 27 1 false, .i (.app 29 5 1 1 (.s 26) (.s 28)),qm 6 29, .i (.mov 7 (qb true))]) .ret))))⟩
theorem zu:cd nH=some nF:=by kernel_rfl
theorem la (l:ax) (b:Bytes) (v:bF) (hb:b.length≤900000000):VC cd nH (aJ [(true,l.c),(false,[.sl (bytes b)]),(true,v.c)]) (fun rs _=>rs=a9 (vj l v) (b++MC v)):=by
 refine aa zu rfl ?_
 simp(disch:=omega) [nF,bF.c,ax.c,VY]
 refine az (yN l v) ?_ (ha:=by first|rfl|(simp[bF.c,ax.c,VY] <;>repeat' constructor))
 simp(disch:=omega) [VY]
 refine ak (fun h0=> ?_) (fun h0=> ?_)
 case refine_2=>simp(disch:=omega) [h0,a9,VY]
 have hs:=CQ h0
 have h1:=aA hs.view
 have h2:=aA hs.height
 have h3:=aA hs.who
 have h4:=hs.block
 have h5:=hs.tag
 simp(disch:=omega) [h0,VY]
 refine az (bu b v.view hs.view (by omega)) ?_
 simp(disch:=omega) [VY]
 refine az (bu (b++aV v.view.toNat) v.height hs.height (by simp only[List.length_append];omega)) ?_
 simp(disch:=omega) [cn,an,VY]
 refine az (bu (b++(aV v.view.toNat++(aV v.height.toNat++v.block))) v.who hs.who (by simp only[List.length_append];omega)) ?_
 simp(disch:=omega) [cn,an,a9,h0,MC,VY]
def cH (i n:Nat):Nat:=if h:n < 2 then 0 else
 have:=eD (n:=n) (by omega)
 if i < splitAt n then 1+cH i (splitAt n)else 1+cH (i - splitAt n) (n - splitAt n)
termination_by n
theorem sn {i n:Nat} (h:n < 2):cH i n=0:=by rw[cH,dif_pos h]
theorem ux {i n:Nat} (h:2≤n) (hi:i < splitAt n):cH i n=1+cH i (splitAt n):=by rw[cH,dif_neg (by omega),if_pos hi]
theorem uF {i n:Nat} (h:2≤n) (hi:¬i < splitAt n):cH i n=1+cH (i - splitAt n) (n - splitAt n):=by rw[cH,dif_neg (by omega),if_neg hi]
theorem dv:∀(n i:Nat),cH i n≤n:=by
 intro n
 induction n using Nat.strongRecOn with
 |ind n ih=>
 intro i
 rcases Nat.lt_or_ge n 2 with h|h
 ·rw[sn h];omega
 ·have h1:=eD h
  by_cases hi:i < splitAt n
  ·rw[ux h hi];have:=ih (splitAt n) h1.2 i;omega
  ·rw[uF h hi];have:=ih (n - splitAt n) (by omega) (i - splitAt n);omega
abbrev nL:Nat:=284
def oQ:AF:=⟨2,6,[.tmp 4],(.seq (.ops [.i (.mov 4 (qi 0))]) (.seq (.seq (.ops [qm 6 1, .i (.bin 7 .lss (.s 6) (qi 2)),qm 8 7, .g 8 false 10 (.mov 9 (.s 1)), .g 8 false 11 (.bin 10 .gtr (.s 9) (qi 1048576)), .i (.pick 11 (.s 8) (qb true) (.s 10)),qm 12 11, .g 12 false 14 (.mov 13 (.s 0)), .g 12 false 15 (.mov 14 (.s 1)), .g 12 false 16 (.bin 15 .sub (.s 14) (qi 1)), .g 12 false 17 (.call 17 103 false [(.s 13),(qi 0),(.s 15)]), .g 12 false 18 (.not 17 (.s 16)), .i (.pick 18 (.s 12) (qb true) (.s 17))]) (.cond (.s 18) (.seq (.ops [.i (.mov 4 (qi 0))]) .ret) .skip)) (.seq (.ops [qm 19 1,qk 21 313 19,qm 5 20]) (.seq (.seq (.ops [qm 21 0,qm 22 5,qd 23 .lss 21 22]) (.cond (.s 23) (.seq (.ops [qm 24 0,qm 25 5, .i (.call 27 284 false [(.s 24),(.s 25)]), .i (.bin 27 .add (qi 1) (.s 26)),qm 4 27]) .ret) .skip)) (.seq (.ops [qm 28 0,qm 29 5,qd 30 .sub 28 29,qm 31 1,qm 32 5,qd 33 .sub 31 32, .i (.call 35 284 false [(.s 30),(.s 33)]), .i (.bin 35 .add (qi 1) (.s 34)),qm 4 35]) .ret)))))⟩
theorem Ad:cd nL=some oQ:=by kernel_rfl
theorem wN:∀(n i:Nat),i < n→n≤1048576→VC cd nL (aJ [(false,[.int .i64 (i:Int)]),(false,[.int .i64 (n:Int)])]) (fun rs _=>rs=it (cH i n)):=by
 intro n
 induction n using Nat.strongRecOn with
 |ind n ih=>
 intro i hi hn
 have hp:=dv n i
 have he:eb (i:Int) 0 ((n:Int) - 1)=true:=by simp only[eb,decide_eq_true_eq];omega
 refine aa Ad rfl ?_
 simp(disch:=omega) [oQ,VY]
 refine ab (fun h1=> ?_) (fun h1=> ?_)
 ·simp(disch:=omega) [h1,sn (i:=i) (n:=n) (by omega),VY]
 have h2:2≤n:=by omega
 obtain⟨k1,k2⟩:=eD h2
 simp(disch:=omega) [h1,VY]
 refine ab (fun h3=> ?_) (fun h3=> ?_)
 ·omega
 simp(disch:=omega) [h1,h3,VY]
 refine az (aQ (i:Int) 0 ((n:Int) - 1)) ?_
 simp(disch:=omega) [h1,h3,he,VY]
 refine az (kY n (by omega)) ?_
 simp(disch:=omega) [VY]
 refine ab (fun h4=> ?_) (fun h4=> ?_)
 ·have h5:i < splitAt n:=by omega
  have h6:=ux h2 h5
  simp(disch:=omega) [h4,VY]
  refine az (ih (splitAt n) k2 i h5 (by omega)) ?_
  have h7:=dv (splitAt n) i
  simp(disch:=omega) [h6,VY]
 ·have h5:¬i < splitAt n:=by omega
  have h6:=uF h2 h5
  have t1:(i:Int) - (splitAt n:Int)=((i - splitAt n:Nat):Int):=by omega
  have t2:(n:Int) - (splitAt n:Int)=((n - splitAt n:Nat):Int):=by omega
  simp(disch:=omega) [h4,t1,t2,VY]
  refine az (ih (n - splitAt n) (by omega) (i - splitAt n) (by omega) (by omega)) ?_
  have h7:=dv (n - splitAt n) (i - splitAt n)
  simp(disch:=omega) [h6,VY]
abbrev s5:Nat:=273
def uf:AF:=⟨2,4,[.tmp 4],(.seq (.ops [.i (.mov 4 (qb false))]) (.seq (.ops [qm 5 1, .i (.call 7 67 false [(.s 5),(qi 1),(qi 1048576)]),qm 7 6, .g 7 true 9 (.mov 8 (.s 0)), .g 7 true 10 (.mov 9 (.s 1)), .g 7 true 11 (.bin 10 .sub (.s 9) (qi 1)), .g 7 true 12 (.call 12 67 false [(.s 8),(qi 0),(.s 10)]), .i (.pick 12 (.s 7) (.s 11) (qb false)),qm 4 12]) .ret))⟩
theorem Cz:cd s5=some uf:=by kernel_rfl
theorem Kq (i n:Nat) (hn:n≤1048576):VC cd s5 (aJ [(false,[.int .i64 (i:Int)]),(false,[.int .i64 (n:Int)])]) (fun rs _=>rs=bl (eb (n:Int) 1 1048576 && eb (i:Int) 0 ((n:Int) - 1))):=by
 refine aa Cz rfl ?_
 simp(disch:=omega) [uf,VY]
 refine az (bq (n:Int) 1 1048576) ?_
 simp(disch:=omega) [VY]
 refine ak (fun h1=> ?_) (fun h1=> ?_) <;>simp(disch:=omega) [h1,VY]
 refine az (bq (i:Int) 0 ((n:Int) - 1)) ?_
 simp(disch:=omega) [h1,VY]
abbrev m7:Nat:=193
def nJ:AF:=⟨2,5,[.tmp 4],(.seq (.ops [.i (.mov 4 (qi 0))]) (.seq (.seq (.ops [qm 6 0,qm 7 1, .i (.call 9 273 false [(.s 6),(.s 7)]), .i (.not 9 (.s 8)),qm 10 9, .g 10 false 12 (.mov 11 (.s 1)), .g 10 false 13 (.bin 12 .eql (.s 11) (qi 1)), .i (.pick 13 (.s 10) (qb true) (.s 12))]) (.cond (.s 13) (.seq (.ops [.i (.mov 4 (qi 0))]) .ret) .skip)) (.seq (.ops [qm 14 1,qk 16 271 14,qm 5 15]) (.seq (.seq (.ops [qm 16 0,qm 17 5,qd 18 .lss 16 17]) (.cond (.s 18) (.seq (.ops [qm 19 0,qm 20 5, .i (.call 22 193 false [(.s 19),(.s 20)]), .i (.bin 22 .add (qi 1) (.s 21)),qm 4 22]) .ret) .skip)) (.seq (.ops [qm 23 0,qm 24 5,qd 25 .sub 23 24,qm 26 1,qm 27 5,qd 28 .sub 26 27, .i (.call 30 193 false [(.s 25),(.s 28)]), .i (.bin 30 .add (qi 1) (.s 29)),qm 4 30]) .ret)))))⟩
theorem Ac:cd m7=some nJ:=by kernel_rfl
theorem xz:∀(n i:Nat),i < n→n≤1048576→VC cd m7 (aJ [(false,[.int .i64 (i:Int)]),(false,[.int .i64 (n:Int)])]) (fun rs _=>rs=it (cH i n)):=by
 intro n
 induction n using Nat.strongRecOn with
 |ind n ih=>
 intro i hi hn
 have hp:=dv n i
 have he:eb (i:Int) 0 ((n:Int) - 1)=true:=by simp only[eb,decide_eq_true_eq];omega
 have he2:eb (n:Int) 1 1048576=true:=by simp only[eb,decide_eq_true_eq];omega
 refine aa Ac rfl ?_
 simp(disch:=omega) [nJ,VY]
 refine az (Kq i n hn) ?_
 simp(disch:=omega) [he,he2,VY]
 refine ab (fun h1=> ?_) (fun h1=> ?_)
 ·simp(disch:=omega) [h1,sn (i:=i) (n:=n) (by omega),VY]
 have h2:2≤n:=by omega
 obtain⟨k1,k2⟩:=eD h2
 simp(disch:=omega) [h1,VY]
 refine az (lX n (by omega)) ?_
 simp(disch:=omega) [VY]
 refine ab (fun h4=> ?_) (fun h4=> ?_)
 ·have h5:i < splitAt n:=by omega
  have h6:=ux h2 h5
  simp(disch:=omega) [h4,VY]
  refine az (ih (splitAt n) k2 i h5 (by omega)) ?_
  have h7:=dv (splitAt n) i
  simp(disch:=omega) [h6,VY]
 ·have h5:¬i < splitAt n:=by omega
  have h6:=uF h2 h5
  have t1:(i:Int) - (splitAt n:Int)=((i - splitAt n:Nat):Int):=by omega
  have t2:(n:Int) - (splitAt n:Int)=((n - splitAt n:Nat):Int):=by omega
  simp(disch:=omega) [h4,t1,t2,VY]
  refine az (ih (n - splitAt n) (by omega) (i - splitAt n) (by omega) (by omega)) ?_
  have h7:=dv (n - splitAt n) (i - splitAt n)
  simp(disch:=omega) [h6,VY]
theorem DP {l:ax} (h:l.ok=true):0≤l.tx∧l.tx≤40∧l.txs≤8:=by
 simp only[ax.ok,Bool.and_eq_true]at h
 have h1:=dP h.1.1.1.2
 have h2:=dP h.1.1.2
 omega
def fj (l:ax) (x:bn):Bool:=l.ok && isNum x.height && eb x.n 1 l.txs && eb x.idx 0 (x.n - 1) && decide ((x.tx.length:Int)≤l.tx) && decide (x.path.length=cH x.idx.toNat x.n.toNat) && hashes x.path
def wq (x:bn):Bytes:=aV x.height.toNat++(aV x.n.toNat++(aV x.idx.toNat++(lj x.tx++x.path.flatten)))
def bU (l:ax) (t:Tc) (i:Nat):Bool:=match t.entries[i]? with
 |some e=>eb e.who 0 (l.n - 1) && eb e.high 0 (t.view - 1) && hash e.tag && (decide (i=0)||match t.entries[i - 1]? with|some d=>decide (d.who < e.who)|none=>false)
 |none=>false
def ic (l:ax) (t:Tc):Bool:=l.ok && isNum t.view && decide ((t.entries.length:Int)≤l.n) && (List.range t.entries.length).all (bU l t)
def H4 (e:Entry):Bytes:=aV e.who.toNat++(aV e.high.toNat++e.tag)
def NK (t:Tc):Bytes:=aV t.view.toNat++(aV t.entries.length++(t.entries.map H4).flatten)
def mz (x:Block):Bytes:=eH x.head++(aV x.txs.length++(x.txs.map lj).flatten)
def oJ (p:Proof):Bytes:=aV p.heads.length++((p.heads.map eH).flatten++IQ p.qc)
abbrev rr:Nat:=246
def rE:AF:=⟨2,6,[.tmp 4],(.seq (.ops [.i (.lbox 2 (.s 0)), .i (.lbox 3 (.s 1)), .i (.mov 4 (qb false))]) (.seq (.ops [ql 5 2 2 5 true,qk 7 70 5,qm 7 6, .g 7 true 9 (.fad 8 (.s 3) 0), .g 7 true 10 (.ldl 9 3 (.s 8) 1 false), .g 7 true 11 (.call 11 81 false [(.s 9)]), .i (.pick 11 (.s 7) (.s 10) (qb false)),qm 12 11, .g 12 true 14 (.fad 13 (.s 3) 1), .g 12 true 15 (.ldl 14 3 (.s 13) 1 false), .g 12 true 16 (.fad 15 (.s 2) 2), .g 12 true 17 (.ldl 16 2 (.s 15) 1 false), .g 12 true 18 (.call 18 103 false [(.s 14),(qi 1),(.s 16)]), .i (.pick 18 (.s 12) (.s 17) (qb false)),qm 19 18, .g 19 true 21 (.fad 20 (.s 3) 2), .g 19 true 22 (.ldl 21 3 (.s 20) 1 false), .g 19 true 23 (.fad 22 (.s 3) 1), .g 19 true 24 (.ldl 23 3 (.s 22) 1 false), .g 19 true 25 (.bin 24 .sub (.s 23) (qi 1)), .g 19 true 26 (.call 26 103 false [(.s 21),(qi 0),(.s 24)]), .i (.pick 26 (.s 19) (.s 25) (qb false)),qm 27 26, .g 27 true 29 (.fad 28 (.s 3) 3), .g 27 true 30 (.ldl 29 3 (.s 28) 1 false), .g 27 true 31 (.len 30 false (.s 29)), .g 27 true 32 (.fad 31 (.s 2) 1), .g 27 true 33 (.ldl 32 2 (.s 31) 1 false), .g 27 true 34 (.bin 33 .leq (.s 30) (.s 32)), .i (.pick 34 (.s 27) (.s 33) (qb false)),qm 35 34, .g 35 true 37 (.fad 36 (.s 3) 4), .g 35 true 38 (.ldl 37 3 (.s 36) 1 false), .g 35 true 39 (.len 38 false (.s 37)), .g 35 true 40 (.fad 39 (.s 3) 2), .g 35 true 41 (.ldl 40 3 (.s 39) 1 false), .g 35 true 42 (.fad 41 (.s 3) 1), .g 35 true 43 (.ldl 42 3 (.s 41) 1 false), .g 35 true 44 (.call 44 284 false [(.s 40),(.s 42)]), .g 35 true 45 (.bin 44 .eql (.s 38) (.s 43)), .i (.pick 45 (.s 35) (.s 44) (qb false)),qm 46 45, .g 46 true 48 (.fad 47 (.s 3) 4), .g 46 true 49 (.ldl 48 3 (.s 47) 1 false), .g 46 true 50 (.call 50 295 false [(.s 48)]), .i (.pick 50 (.s 46) (.s 49) (qb false)),qm 4 50]) .ret))⟩
theorem Ao:cd rr=some rE:=by kernel_rfl
theorem Ae (l:ax) (x:bn) (hw:x.wc):VC cd rr (aJ [(true,l.c),(true,x.c)]) (fun rs _=>rs=bl (fj l x)):=by
 obtain⟨w1,w2,w3,w4,w5,w6⟩:=hw
 simp only[Sz]at w4 w5
 refine aa Ao rfl ?_
 simp(disch:=omega) [rE,ax.c,bn.c,VY]
 refine az (cM l) ?_ (ha:=by first|rfl|(simp[ax.c,VY] <;>repeat' constructor))
 simp(disch:=omega) [VY]
 refine ak (fun h1=> ?_) (fun h1=> ?_) <;>simp(disch:=omega) [h1,fj,VY]
 have hn:=jU h1
 have ht:=DP h1
 refine az (fb x.height) ?_
 simp(disch:=omega) [h1,VY]
 refine ak (fun h2=> ?_) (fun h2=> ?_) <;>simp(disch:=omega) [h1,h2,VY]
 refine az (aQ x.n 1 l.txs) ?_
 simp(disch:=omega) [h1,h2,VY]
 refine ak (fun h3=> ?_) (fun h3=> ?_)
 case refine_2=>simp(disch:=omega) [h1,h2,h3,VY]
 have h3':=dP h3
 simp(disch:=omega) [h1,h2,h3,VY]
 refine az (aQ x.idx 0 (x.n - 1)) ?_
 simp(disch:=omega) [h1,h2,h3,VY]
 refine ak (fun h4=> ?_) (fun h4=> ?_) <;>simp(disch:=omega) [h1,h2,h3,h4,an,VY]
 have h4':=dP h4
 refine ab (fun h5=> ?_) (fun h5=> ?_) <;>simp(disch:=omega) [h1,h2,h3,h4,h5,aw,VY]
 obtain⟨N,hN⟩:∃N:Nat,x.n=(N:Int):=⟨x.n.toNat,by omega⟩
 obtain⟨I,hI⟩:∃I:Nat,x.idx=(I:Int):=⟨x.idx.toNat,by omega⟩
 have hp:=dv N I
 refine az (wN N I (by omega) (by omega)) ?_ (ha:=by first|rfl|(simp[hN,hI,VY] <;>repeat' constructor))
 simp(disch:=omega) [h1,h2,h3,h4,h5,aw,hN,hI,VY]
 refine ab (fun h6=> ?_) (fun h6=> ?_)
 ·have h7:x.path.length=cH I N:=by omega
  simp(disch:=omega) [h1,h2,h3,h4,h5,h6,h7,aw,hN,hI,VY]
  refine az (cI x.path (by omega)) ?_
  simp(disch:=omega) [h1,h2,h3,h4,h5,h6,h7,hN,hI,VY]
 ·have h7:¬x.path.length=cH I N:=by omega
  simp(disch:=omega) [h1,h2,h3,h4,h5,h6,h7,aw,hN,hI,VY]
abbrev qU:Nat:=226
def rA:AF:=⟨2,6,[.tmp 4],(.seq (.ops [.i (.lbox 2 (.s 0)), .i (.lbox 3 (.s 1)), .i (.mov 4 (qb false))]) (.seq (.ops [ql 5 2 2 5 true,qk 7 66 5,qm 7 6, .g 7 true 9 (.fad 8 (.s 3) 0), .g 7 true 10 (.ldl 9 3 (.s 8) 1 false), .g 7 true 11 (.call 11 78 false [(.s 9)]), .i (.pick 11 (.s 7) (.s 10) (qb false)),qm 12 11, .g 12 true 14 (.fad 13 (.s 3) 1), .g 12 true 15 (.ldl 14 3 (.s 13) 1 false), .g 12 true 16 (.fad 15 (.s 2) 2), .g 12 true 17 (.ldl 16 2 (.s 15) 1 false), .g 12 true 18 (.call 18 67 false [(.s 14),(qi 1),(.s 16)]), .i (.pick 18 (.s 12) (.s 17) (qb false)),qm 19 18, .g 19 true 21 (.fad 20 (.s 3) 2), .g 19 true 22 (.ldl 21 3 (.s 20) 1 false), .g 19 true 23 (.fad 22 (.s 3) 1), .g 19 true 24 (.ldl 23 3 (.s 22) 1 false), .g 19 true 25 (.bin 24 .sub (.s 23) (qi 1)), .g 19 true 26 (.call 26 67 false [(.s 21),(qi 0),(.s 24)]), .i (.pick 26 (.s 19) (.s 25) (qb false)),qm 27 26, .g 27 true 29 (.fad 28 (.s 3) 3), .g 27 true 30 (.ldl 29 3 (.s 28) 1 false), .g 27 true 31 (.len 30 false (.s 29)), .g 27 true 32 (.fad 31 (.s 2) 1), .g 27 true 33 (.ldl 32 2 (.s 31) 1 false), .g 27 true 34 (.bin 33 .leq (.s 30) (.s 32)), .i (.pick 34 (.s 27) (.s 33) (qb false)),qm 35 34, .g 35 true 37 (.fad 36 (.s 3) 4), .g 35 true 38 (.ldl 37 3 (.s 36) 1 false), .g 35 true 39 (.len 38 false (.s 37)), .g 35 true 40 (.fad 39 (.s 3) 2), .g 35 true 41 (.ldl 40 3 (.s 39) 1 false), .g 35 true 42 (.fad 41 (.s 3) 1), .g 35 true 43 (.ldl 42 3 (.s 41) 1 false), .g 35 true 44 (.call 44 193 false [(.s 40),(.s 42)]), .g 35 true 45 (.bin 44 .eql (.s 38) (.s 43)), .i (.pick 45 (.s 35) (.s 44) (qb false)),qm 46 45, .g 46 true 48 (.fad 47 (.s 3) 4), .g 46 true 49 (.ldl 48 3 (.s 47) 1 false), .g 46 true 50 (.call 50 288 false [(.s 48)]), .i (.pick 50 (.s 46) (.s 49) (qb false)),qm 4 50]) .ret))⟩
theorem AA:cd qU=some rA:=by kernel_rfl
theorem zW (l:ax) (x:bn) (hw:x.wc):VC cd qU (aJ [(true,l.c),(true,x.c)]) (fun rs _=>rs=bl (fj l x)):=by
 obtain⟨w1,w2,w3,w4,w5,w6⟩:=hw
 simp only[Sz]at w4 w5
 refine aa AA rfl ?_
 simp(disch:=omega) [rA,ax.c,bn.c,VY]
 refine az (bO l) ?_ (ha:=by first|rfl|(simp[ax.c,VY] <;>repeat' constructor))
 simp(disch:=omega) [VY]
 refine ak (fun h1=> ?_) (fun h1=> ?_) <;>simp(disch:=omega) [h1,fj,VY]
 have hn:=jU h1
 have ht:=DP h1
 refine az (eJ x.height) ?_
 simp(disch:=omega) [h1,VY]
 refine ak (fun h2=> ?_) (fun h2=> ?_) <;>simp(disch:=omega) [h1,h2,VY]
 refine az (bq x.n 1 l.txs) ?_
 simp(disch:=omega) [h1,h2,VY]
 refine ak (fun h3=> ?_) (fun h3=> ?_)
 case refine_2=>simp(disch:=omega) [h1,h2,h3,VY]
 have h3':=dP h3
 simp(disch:=omega) [h1,h2,h3,VY]
 refine az (bq x.idx 0 (x.n - 1)) ?_
 simp(disch:=omega) [h1,h2,h3,VY]
 refine ak (fun h4=> ?_) (fun h4=> ?_) <;>simp(disch:=omega) [h1,h2,h3,h4,an,VY]
 have h4':=dP h4
 refine ab (fun h5=> ?_) (fun h5=> ?_) <;>simp(disch:=omega) [h1,h2,h3,h4,h5,aw,VY]
 obtain⟨N,hN⟩:∃N:Nat,x.n=(N:Int):=⟨x.n.toNat,by omega⟩
 obtain⟨I,hI⟩:∃I:Nat,x.idx=(I:Int):=⟨x.idx.toNat,by omega⟩
 have hp:=dv N I
 refine az (xz N I (by omega) (by omega)) ?_ (ha:=by first|rfl|(simp[hN,hI,VY] <;>repeat' constructor))
 simp(disch:=omega) [h1,h2,h3,h4,h5,aw,hN,hI,VY]
 refine ab (fun h6=> ?_) (fun h6=> ?_)
 ·have h7:x.path.length=cH I N:=by omega
  simp(disch:=omega) [h1,h2,h3,h4,h5,h6,h7,aw,hN,hI,VY]
  refine az (sF x.path (by omega)) ?_
  simp(disch:=omega) [h1,h2,h3,h4,h5,h6,h7,hN,hI,VY]
 ·have h7:¬x.path.length=cH I N:=by omega
  simp(disch:=omega) [h1,h2,h3,h4,h5,h6,h7,aw,hN,hI,VY]
def dN (l:List Bytes):Bytes:=(l.map lj).flatten
theorem v9 {l:List Bytes} {i:Nat} (h:i < l.length):dN (l.take (i+1))=dN (l.take i)++lj l[i]:=by
 rw[List.take_succ_eq_append_getElem h]
 simp only[dN,List.map_append,List.map_cons,List.map_nil,List.flatten_append,List.flatten_cons,List.flatten_nil,List.append_nil]
theorem pz {x:Bytes} (h:x.length≤1000):(lj x).length≤1009:=by
 have:=bS (n:=x.length) (by omega)
 simp only[lj,List.length_append]
 omega
theorem j8:∀ {l:List Bytes},(∀x∈l,x.length≤1000)→(dN l).length≤1009 * l.length
 | [],_=>by simp[dN]
 |a::l,h=>by
  have h1:=j8 (l:=l) fun x hx=>h x (by simp[hx])
  have h2:=pz (h a (by simp))
  simp only[dN,List.map_cons,List.flatten_cons,List.length_append,List.length_cons]at h1⊢
  omega
theorem gz {l:ax} {x:Block} (h:bZ l x=true):cf l x.head=true:=by
 simp only[bZ,Bool.and_eq_true]at h
 exact h.1.1.1
theorem nS {l:ax} {x:Block} (h:bZ l x=true):∀t∈x.txs,t.length≤1000:=fun t ht=>by
 have h0:=m0 (u4 (gz h))
 simp only[ax.ok,Bool.and_eq_true]at h0
 have h1:=fg h0.1.1.1.2
 simp only[bZ,Bool.and_eq_true,BP,List.all_eq_true,decide_eq_true_eq]at h
 have:=h.1.2 t ht
 omega
theorem eM {l:ax} {t:Tc} {i:Nat} (hi:i < t.entries.length) (h:bU l t i=false):ic l t=false:=by
 unfold ic
 rw[Bool.and_eq_false_iff]
 right
 rw[List.all_eq_false]
 exact⟨i,by simp[hi],by simp[h]⟩
theorem EZ {l:ax} {t:Tc} (h:∀i,i < t.entries.length→bU l t i=true):ic l t=(l.ok && isNum t.view && decide ((t.entries.length:Int)≤l.n)):=by
 unfold ic
 have:(List.range t.entries.length).all (bU l t)=true:=by
  rw[List.all_eq_true]
  intro i hi
  exact h i (by simpa using hi)
 rw[this,Bool.and_true]
theorem uo {l:ax} {t:Tc} {i:Nat} (hd:∀j,j < i→bU l t j=true) (h:bU l t i=true):∀j,j < i+1→bU l t j=true:=fun j hj=>by
 rcases Nat.lt_or_ge j i with hl|hl
 ·exact hd j hl
 ·obtain rfl:j=i:=by omega
  exact h
abbrev il:Nat:=244
def nQ:AF:=⟨2,7,[.tmp 4],(.seq (.ops [.i (.lbox 2 (.s 0)), .i (.lbox 3 (.s 1)), .i (.mov 4 (qb false))]) (.seq (.seq (.ops [qf 7 3 1,ql 8 3 7 1 false,qn 9 8, .i (.mov 10 (qi 0))]) (.block 0 (.loop [54,53,52,51,50,49,48,47,46,45,44,43,42,41,40,39,38,37,36,35,34,33,32,31,30,29,28,27,26,25,24,23,22,21,20,19,18,17,16,15,14,13,12,11,6,5] (.seq (.ops [qd 11 .lss 10 9]) (.seq (.cond (.s 11) .skip (.exit 0)) (.seq (.block 1 (.seq (.ops [qm 12 10, .i (.iad 13 (.s 8) (.s 10) 3), .i (.ldh 14 (.s 13) 3 true), .i (.lal 6 [.int .i64 0, .int .i64 0, .nils]),qm 5 12,qs 6 6 14 3]) (.seq (.ops [qf 15 6 0,ql 16 6 15 1 false,qf 17 2 0,ql 18 2 17 1 false, .i (.bin 19 .sub (.s 18) (qi 1)), .i (.call 21 103 false [(.s 16),(qi 0),(.s 19)]), .i (.not 21 (.s 20)),qm 22 21, .g 22 false 24 (.mov 23 (.s 5)), .g 22 false 25 (.bin 24 .gtr (.s 23) (qi 0)), .g 22 false 26 (.mov 25 (.s 24)), .g 25 true 27 (.fad 26 (.s 6) 0), .g 25 true 28 (.ldl 27 6 (.s 26) 1 false), .g 25 true 29 (.fad 28 (.s 3) 1), .g 25 true 30 (.ldl 29 3 (.s 28) 1 false), .g 25 true 31 (.mov 30 (.s 5)), .g 25 true 32 (.bin 31 .sub (.s 30) (qi 1)), .g 25 true 33 (.iad 32 (.s 29) (.s 31) 3), .g 25 true 34 (.fad 33 (.s 32) 0), .g 25 true 35 (.ldh 34 (.s 33) 1 false), .g 25 true 36 (.bin 35 .leq (.s 27) (.s 34)), .g 22 false 37 (.pick 36 (.s 25) (.s 35) (qb false)), .i (.pick 37 (.s 22) (qb true) (.s 36)),qm 38 37, .g 38 false 40 (.fad 39 (.s 6) 1), .g 38 false 41 (.ldl 40 6 (.s 39) 1 false), .g 38 false 42 (.fad 41 (.s 3) 0), .g 38 false 43 (.ldl 42 3 (.s 41) 1 false), .g 38 false 44 (.bin 43 .sub (.s 42) (qi 1)), .g 38 false 45 (.call 45 103 false [(.s 40),(qi 0),(.s 43)]), .g 38 false 46 (.not 45 (.s 44)), .i (.pick 46 (.s 38) (qb true) (.s 45)),qm 47 46, .g 47 false 49 (.fad 48 (.s 6) 2), .g 47 false 50 (.ldl 49 6 (.s 48) 1 false), .g 47 false 51 (.bsl 50 24 1 1 [.nils] [(0,1,(.s 49))]), .g 47 false 52 (.call 52 295 false [(.s 50)]), .g 47 false 53 (.not 52 (.s 51)), .i (.pick 53 (.s 47) (qb true) (.s 52))]) (.cond (.s 53) (.seq (.ops [.i (.mov 4 (qb false))]) .ret) .skip)))) (.ops [.i (.bin 54 .add (.s 10) (qi 1)),qm 10 54]))))))) (.seq (.ops [ql 55 2 2 5 true,qk 57 70 55,qm 57 56, .g 57 true 59 (.fad 58 (.s 3) 0), .g 57 true 60 (.ldl 59 3 (.s 58) 1 false), .g 57 true 61 (.call 61 81 false [(.s 59)]), .i (.pick 61 (.s 57) (.s 60) (qb false)),qm 62 61, .g 62 true 64 (.fad 63 (.s 3) 1), .g 62 true 65 (.ldl 64 3 (.s 63) 1 false), .g 62 true 66 (.len 65 false (.s 64)), .g 62 true 67 (.fad 66 (.s 2) 0), .g 62 true 68 (.ldl 67 2 (.s 66) 1 false), .g 62 true 69 (.bin 68 .leq (.s 65) (.s 67)), .i (.pick 69 (.s 62) (.s 68) (qb false)),qm 4 69]) .ret)))⟩
theorem wo:cd il=some nQ:=by kernel_rfl
theorem ED (l:ax) (t:Tc) (hw:t.wf) (h0:(l.ok && isNum t.view)=true):VC cd il (aJ [(true,l.c),(true,t.c)]) (fun rs _=>rs=bl (ic l t)):=by
 have w1:=hw.2.1
 simp only[Sz]at w1
 have hA:l.ok=true∧isNum t.view=true:=by simpa using h0
 have hn:=jU hA.1
 have hv:=dP hA.2
 refine aa wo rfl ?_
 simp(disch:=omega) [nQ,ax.c,Tc.c,bL,VY]
 refine bM (σ:=Nat) (f1:=_) (es0:=_) (by simp(disch:=omega) [VY];rfl) (by simp(disch:=omega) [VY];rfl) (fun i=> [(10, .val false [.int .i64 (i:Int)])]) (fun _=> []) (fun i g=>g+i=t.entries.length∧∀j,j < i→bU l t j=true) 0 t.entries.length (by simp(disch:=omega) [VY]) (by simp(disch:=omega) [VY]) ⟨by omega,fun j hj=>by omega⟩ ?_
 rintro i n g ⟨hg,hd⟩ P hP
 simp(disch:=omega) [VY]
 refine ab (fun h1=> ?_) (fun h1=> ?_)
 case refine_2=>
  have hY:=EZ (l:=l) (t:=t) (fun i hi=>hd i (by omega))
  simp(disch:=omega) [VY]
  refine az (cM l) ?_ (ha:=by first|rfl|(simp[ax.c,VY] <;>repeat' constructor))
  simp(disch:=omega) [hA.1,VY]
  refine az (fb t.view) ?_
  simp(disch:=omega) [hA.1,hA.2,bL,hY,VY]
 have hi:i < t.entries.length:=by omega
 simp(disch:=omega) [dF hi,VY]
 refine az (aQ t.entries[i].who 0 (l.n - 1)) ?_
 simp(disch:=omega) [VY]
 refine ak (fun h2=> ?_) (fun h2=> ?_)
 case refine_2=>simp(disch:=omega) [h2,eM hi (show bU l t i=false by simp[bU,hi,h2]),VY]
 simp(disch:=omega) [h2,VY]
 refine ab (fun h3=> ?_) (fun h3=> ?_)
 ·have hj:i - 1 < t.entries.length:=by omega
  have e1:((i:Int) - 1).toNat=i - 1:=by omega
  have e2:(1:Int)≤(i:Int):=by omega
  have e3:¬i=0:=by omega
  simp(disch:=omega) [h2,h3,bL,e1,e2,dF hj,VY]
  refine ab (fun h4=> ?_) (fun h4=> ?_)
  ·simp(disch:=omega) [h2,h3,h4,eM hi (show bU l t i=false by simp[bU,hi,hj,e3,show ¬t.entries[i - 1].who < t.entries[i].who by omega]),VY]
  have e4:t.entries[i - 1].who < t.entries[i].who:=by omega
  simp(disch:=omega) [h2,h3,h4,VY]
  refine az (aQ t.entries[i].high 0 (t.view - 1)) ?_
  simp(disch:=omega) [h2,h3,h4,VY]
  refine ak (fun h6=> ?_) (fun h6=> ?_)
  case refine_2=>simp(disch:=omega) [h2,h3,h4,h6,eM hi (show bU l t i=false by simp[bU,hi,h6]),VY]
  simp(disch:=omega) [h2,h3,h4,h6,VY]
  refine az (cI [t.entries[i].tag] (by simp)) ?_ (ha:=by first|rfl|(simp[cS,VY] <;>repeat' constructor))
  simp(disch:=omega) [h2,h3,h4,h6,hH,VY]
  refine ak (fun h7=> ?_) (fun h7=> ?_)
  case refine_2=>simp(disch:=omega) [h2,h3,h4,h6,h7,eM hi (show bU l t i=false by simp[bU,hi,h7]),VY]
  simp(disch:=omega) [h2,h3,h4,h6,h7,VY]
  exact hP (i+1) (g - 1) _ _ (by omega) ⟨by omega,uo hd (by simp[bU,hi,h2,h6,h7,hj,e4])⟩ (by simp(disch:=omega) [VY]) (by simp(disch:=omega) [VY])
 ·simp(disch:=omega) [h2,h3,VY]
  have e4:i=0:=by omega
  refine az (aQ t.entries[i].high 0 (t.view - 1)) ?_
  simp(disch:=omega) [h2,h3,VY]
  refine ak (fun h6=> ?_) (fun h6=> ?_)
  case refine_2=>simp(disch:=omega) [h2,h3,h6,eM hi (show bU l t i=false by simp[bU,hi,h6]),VY]
  simp(disch:=omega) [h2,h3,h6,VY]
  refine az (cI [t.entries[i].tag] (by simp)) ?_ (ha:=by first|rfl|(simp[cS,VY] <;>repeat' constructor))
  simp(disch:=omega) [h2,h3,h6,hH,VY]
  refine ak (fun h7=> ?_) (fun h7=> ?_)
  case refine_2=>simp(disch:=omega) [h2,h3,h6,h7,eM hi (show bU l t i=false by simp[bU,hi,h7]),VY]
  simp(disch:=omega) [h2,h3,h6,h7,VY]
  exact hP (i+1) (g - 1) _ _ (by omega) ⟨by omega,uo hd (by subst e4;simp[bU,hi,h2,h6,h7])⟩ (by simp(disch:=omega) [VY]) (by simp(disch:=omega) [VY])
theorem FA (l:ax) (t:Tc) (hw:t.wf) (h0:(l.ok && isNum t.view)=false):VC cd il (aJ [(true,l.c),(true,t.c)]) (fun rs _=>rs=bl (ic l t)):=by
 have w1:=hw.2.1
 simp only[Sz]at w1
 have hF:ic l t=false:=by unfold ic;rw[h0];rfl
 refine aa wo rfl ?_
 simp(disch:=omega) [nQ,ax.c,Tc.c,bL,VY]
 refine bM (σ:=Nat) (f1:=_) (es0:=_) (by simp(disch:=omega) [VY];rfl) (by simp(disch:=omega) [VY];rfl) (fun i=> [(10, .val false [.int .i64 (i:Int)])]) (fun _=> []) (fun i g=>g+i=t.entries.length) 0 t.entries.length (by simp(disch:=omega) [VY]) (by simp(disch:=omega) [VY]) (by omega) ?_
 rintro i n g hg P hP
 simp(disch:=omega) [VY]
 refine ab (fun h1=> ?_) (fun h1=> ?_)
 case refine_2=>
  simp(disch:=omega) [VY]
  refine az (cM l) ?_ (ha:=by first|rfl|(simp[ax.c,VY] <;>repeat' constructor))
  simp(disch:=omega) [VY]
  refine ak (fun h2=> ?_) (fun h2=> ?_) <;>simp(disch:=omega) [h2,hF,VY]
  refine az (fb t.view) ?_
  have h3:isNum t.view=false:=by simpa[h2]using h0
  simp(disch:=omega) [h2,h3,hF,VY]
 have hi:i < t.entries.length:=by omega
 simp(disch:=omega) [dF hi,VY]
 refine az (aQ t.entries[i].who 0 (IntKind.i64.wrap (l.n - 1))) ?_
 simp(disch:=omega) [VY]
 refine ak (fun h2=> ?_) (fun h2=> ?_)
 case refine_2=>simp(disch:=omega) [h2,hF,VY]
 simp(disch:=omega) [h2,VY]
 refine ab (fun h3=> ?_) (fun h3=> ?_)
 ·have hj:i - 1 < t.entries.length:=by omega
  have e1:((i:Int) - 1).toNat=i - 1:=by omega
  have e2:(1:Int)≤(i:Int):=by omega
  have e3:¬i=0:=by omega
  simp(disch:=omega) [h2,h3,bL,e1,e2,dF hj,VY]
  refine ab (fun h4=> ?_) (fun h4=> ?_)
  ·simp(disch:=omega) [h2,h3,h4,hF,VY]
  simp(disch:=omega) [h2,h3,h4,VY]
  refine az (aQ t.entries[i].high 0 (IntKind.i64.wrap (t.view - 1))) ?_
  simp(disch:=omega) [h2,h3,h4,VY]
  refine ak (fun h6=> ?_) (fun h6=> ?_) <;>simp(disch:=omega) [h2,h3,h4,h6,hF,VY]
  refine az (cI [t.entries[i].tag] (by simp)) ?_ (ha:=by first|rfl|(simp[cS,VY] <;>repeat' constructor))
  simp(disch:=omega) [h2,h3,h4,h6,hH,VY]
  refine ak (fun h7=> ?_) (fun h7=> ?_)
  case refine_2=>simp(disch:=omega) [h2,h3,h4,h6,h7,hF,VY]
  simp(disch:=omega) [h2,h3,h4,h6,h7,VY]
  exact hP (i+1) (g - 1) _ _ (by omega) (by omega) (by simp(disch:=omega) [VY]) (by simp(disch:=omega) [VY])
 ·simp(disch:=omega) [h2,h3,VY]
  refine az (aQ t.entries[i].high 0 (IntKind.i64.wrap (t.view - 1))) ?_
  simp(disch:=omega) [h2,h3,VY]
  refine ak (fun h6=> ?_) (fun h6=> ?_) <;>simp(disch:=omega) [h2,h3,h6,hF,VY]
  refine az (cI [t.entries[i].tag] (by simp)) ?_ (ha:=by first|rfl|(simp[cS,VY] <;>repeat' constructor))
  simp(disch:=omega) [h2,h3,h6,hH,VY]
  refine ak (fun h7=> ?_) (fun h7=> ?_)
  case refine_2=>simp(disch:=omega) [h2,h3,h6,h7,hF,VY]
  simp(disch:=omega) [h2,h3,h6,h7,VY]
  exact hP (i+1) (g - 1) _ _ (by omega) (by omega) (by simp(disch:=omega) [VY]) (by simp(disch:=omega) [VY])
theorem C5 (l:ax) (t:Tc) (hw:t.wf):VC cd il (aJ [(true,l.c),(true,t.c)]) (fun rs _=>rs=bl (ic l t)):=by
 cases h0:l.ok && isNum t.view with
 |true=>exact ED l t hw h0
 |false=>exact FA l t hw h0
abbrev wg:Nat:=224
def vP:AF:=⟨2,7,[.tmp 4],(.seq (.ops [.i (.lbox 2 (.s 0)), .i (.lbox 3 (.s 1)), .i (.mov 4 (qb false))]) (.seq (.seq (.ops [ql 7 2 2 5 true,qk 9 66 7, .i (.not 9 (.s 8)),qm 10 9, .g 10 false 12 (.fad 11 (.s 3) 0), .g 10 false 13 (.ldl 12 3 (.s 11) 1 false), .g 10 false 14 (.call 14 78 false [(.s 12)]), .g 10 false 15 (.not 14 (.s 13)), .i (.pick 15 (.s 10) (qb true) (.s 14)),qm 16 15, .g 16 false 18 (.fad 17 (.s 3) 1), .g 16 false 19 (.ldl 18 3 (.s 17) 1 false), .g 16 false 20 (.len 19 false (.s 18)), .g 16 false 21 (.fad 20 (.s 2) 0), .g 16 false 22 (.ldl 21 2 (.s 20) 1 false), .g 16 false 23 (.bin 22 .gtr (.s 19) (.s 21)), .i (.pick 23 (.s 16) (qb true) (.s 22))]) (.cond (.s 23) (.seq (.ops [.i (.mov 4 (qb false))]) .ret) .skip)) (.seq (.seq (.ops [qf 24 3 1,ql 25 3 24 1 false,qn 26 25, .i (.mov 27 (qi 0))]) (.block 0 (.loop [73,72,71,70,69,68,67,66,65,64,63,62,61,60,59,58,57,56,55,54,53,52,51,50,49,48,47,46,45,44,43,42,41,40,39,38,37,36,35,34,33,32,31,30,29,28,6,5] (.seq (.ops [qd 28 .lss 27 26]) (.seq (.cond (.s 28) .skip (.exit 0)) (.seq (.block 1 (.seq (.ops [qm 29 27, .i (.iad 30 (.s 25) (.s 27) 3), .i (.ldh 31 (.s 30) 3 true), .i (.lal 6 [.int .i64 0, .int .i64 0, .nils]),qm 5 29,qs 6 6 31 3]) (.seq (.ops [qf 32 6 0,ql 33 6 32 1 false,qf 34 2 0,ql 35 2 34 1 false, .i (.bin 36 .sub (.s 35) (qi 1)), .i (.call 38 67 false [(.s 33),(qi 0),(.s 36)]), .i (.not 38 (.s 37)),qm 39 38, .g 39 false 41 (.fad 40 (.s 6) 1), .g 39 false 42 (.ldl 41 6 (.s 40) 1 false), .g 39 false 43 (.bin 42 .lss (.s 41) (qi 0)), .i (.pick 43 (.s 39) (qb true) (.s 42)),qm 44 43, .g 44 false 46 (.fad 45 (.s 6) 1), .g 44 false 47 (.ldl 46 6 (.s 45) 1 false), .g 44 false 48 (.fad 47 (.s 3) 0), .g 44 false 49 (.ldl 48 3 (.s 47) 1 false), .g 44 false 50 (.bin 49 .geq (.s 46) (.s 48)), .i (.pick 50 (.s 44) (qb true) (.s 49)),qm 51 50, .g 51 false 53 (.fad 52 (.s 6) 2), .g 51 false 54 (.ldl 53 6 (.s 52) 1 false), .g 51 false 55 (.call 55 286 false [(.s 53)]), .g 51 false 56 (.not 55 (.s 54)), .i (.pick 56 (.s 51) (qb true) (.s 55)),qm 57 56, .g 57 false 59 (.mov 58 (.s 5)), .g 57 false 60 (.bin 59 .gtr (.s 58) (qi 0)), .g 57 false 61 (.mov 60 (.s 59)), .g 60 true 62 (.fad 61 (.s 3) 1), .g 60 true 63 (.ldl 62 3 (.s 61) 1 false), .g 60 true 64 (.mov 63 (.s 5)), .g 60 true 65 (.bin 64 .sub (.s 63) (qi 1)), .g 60 true 66 (.iad 65 (.s 62) (.s 64) 3), .g 60 true 67 (.fad 66 (.s 65) 0), .g 60 true 68 (.ldh 67 (.s 66) 1 false), .g 60 true 69 (.fad 68 (.s 6) 0), .g 60 true 70 (.ldl 69 6 (.s 68) 1 false), .g 60 true 71 (.bin 70 .geq (.s 67) (.s 69)), .g 57 false 72 (.pick 71 (.s 60) (.s 70) (qb false)), .i (.pick 72 (.s 57) (qb true) (.s 71))]) (.cond (.s 72) (.seq (.ops [.i (.mov 4 (qb false))]) .ret) .skip)))) (.ops [.i (.bin 73 .add (.s 27) (qi 1)),qm 27 73]))))))) (.seq (.ops [.i (.mov 4 (qb true))]) .ret))))⟩
theorem FF:cd wg=some vP:=by kernel_rfl
theorem CL (l:ax) (t:Tc) (hw:t.wf):VC cd wg (aJ [(true,l.c),(true,t.c)]) (fun rs _=>rs=bl (ic l t)):=by
 have w1:=hw.2.1
 simp only[Sz]at w1
 refine aa FF rfl ?_
 simp(disch:=omega) [vP,ax.c,Tc.c,VY]
 refine az (bO l) ?_ (ha:=by first|rfl|(simp[ax.c,VY] <;>repeat' constructor))
 simp(disch:=omega) [VY]
 refine ak (fun h1=> ?_) (fun h1=> ?_)
 case refine_2=>simp(disch:=omega) [h1,ic,VY]
 simp(disch:=omega) [h1,VY]
 refine az (eJ t.view) ?_
 simp(disch:=omega) [h1,VY]
 refine ak (fun h2=> ?_) (fun h2=> ?_)
 case refine_2=>simp(disch:=omega) [h1,h2,ic,VY]
 have hn:=jU h1
 have hv:=dP h2
 simp(disch:=omega) [h1,h2,bL,VY]
 refine ab (fun h3=> ?_) (fun h3=> ?_)
 ·simp(disch:=omega) [h1,h2,h3,ic,show ¬(t.entries.length:Int)≤l.n by omega,VY]
 simp(disch:=omega) [h1,h2,h3,bL,VY]
 refine bM (σ:=Nat) (f1:=_) (es0:=_) (by simp(disch:=omega) [VY];rfl) (by simp(disch:=omega) [VY];rfl) (fun i=> [(27, .val false [.int .i64 (i:Int)])]) (fun _=> []) (fun i g=>g+i=t.entries.length∧∀j,j < i→bU l t j=true) 0 t.entries.length (by simp(disch:=omega) [VY]) (by simp(disch:=omega) [VY]) ⟨by omega,fun j hj=>by omega⟩ ?_
 rintro i n g ⟨hg,hd⟩ P hP
 simp(disch:=omega) [VY]
 refine ab (fun g1=> ?_) (fun g1=> ?_)
 case refine_2=>
  have hY:=EZ (l:=l) (t:=t) (fun i hi=>hd i (by omega))
  simp(disch:=omega) [h1,h2,hY,show(t.entries.length:Int)≤l.n by omega,VY]
 have hi:i < t.entries.length:=by omega
 simp(disch:=omega) [dF hi,VY]
 refine az (bq t.entries[i].who 0 (l.n - 1)) ?_
 simp(disch:=omega) [VY]
 refine ak (fun g2=> ?_) (fun g2=> ?_)
 case refine_2=>simp(disch:=omega) [g2,eM hi (show bU l t i=false by simp[bU,hi,g2]),VY]
 simp(disch:=omega) [g2,VY]
 refine ab (fun g3=> ?_) (fun g3=> ?_)
 ·have e5:eb t.entries[i].high 0 (t.view - 1)=false:=by simp only[eb,decide_eq_false_iff_not];omega
  simp(disch:=omega) [g2,g3,eM hi (show bU l t i=false by simp[bU,hi,e5]),VY]
 simp(disch:=omega) [g2,g3,VY]
 refine ab (fun g4=> ?_) (fun g4=> ?_)
 ·have e5:eb t.entries[i].high 0 (t.view - 1)=false:=by simp only[eb,decide_eq_false_iff_not];omega
  simp(disch:=omega) [g2,g3,g4,eM hi (show bU l t i=false by simp[bU,hi,e5]),VY]
 have e5:eb t.entries[i].high 0 (t.view - 1)=true:=by simp only[eb,decide_eq_true_eq];omega
 simp(disch:=omega) [g2,g3,g4,VY]
 refine az (eB t.entries[i].tag) ?_
 simp(disch:=omega) [g2,g3,g4,VY]
 refine ak (fun g5=> ?_) (fun g5=> ?_)
 case refine_2=>simp(disch:=omega) [g2,g3,g4,g5,eM hi (show bU l t i=false by simp[bU,hi,g5]),VY]
 simp(disch:=omega) [g2,g3,g4,g5,VY]
 refine ab (fun g6=> ?_) (fun g6=> ?_)
 ·have hj:i - 1 < t.entries.length:=by omega
  have e1:((i:Int) - 1).toNat=i - 1:=by omega
  have e2:(1:Int)≤(i:Int):=by omega
  have e3:¬i=0:=by omega
  simp(disch:=omega) [g2,g3,g4,g5,g6,bL,e1,e2,dF hj,VY]
  refine ab (fun g7=> ?_) (fun g7=> ?_)
  ·simp(disch:=omega) [g2,g3,g4,g5,g6,g7,eM hi (show bU l t i=false by simp[bU,hi,hj,e3,show ¬t.entries[i - 1].who < t.entries[i].who by omega]),VY]
  have e4:t.entries[i - 1].who < t.entries[i].who:=by omega
  simp(disch:=omega) [g2,g3,g4,g5,g6,g7,VY]
  exact hP (i+1) (g - 1) _ _ (by omega) ⟨by omega,uo hd (by simp[bU,hi,g2,e5,g5,hj,e4])⟩ (by simp(disch:=omega) [VY]) (by simp(disch:=omega) [VY])
 ·have e4:i=0:=by omega
  simp(disch:=omega) [g2,g3,g4,g5,g6,VY]
  exact hP (i+1) (g - 1) _ _ (by omega) ⟨by omega,uo hd (by subst e4;simp[bU,hi,g2,e5,g5])⟩ (by simp(disch:=omega) [VY]) (by simp(disch:=omega) [VY])
abbrev td:Nat:=159
def sM:AF:=⟨3,5,[.tmp 6, .tmp 7],(.seq (.ops [.i (.lbox 3 (.s 0)), .i (.lbox 5 (.s 2)), .i (.mov 6 (.c (.val false [.nils]))), .i (.mov 7 (qb false))]) (.seq (.seq (.ops [ql 9 3 3 5 true,ql 10 5 5 5 true, .i (.call 12 238 false [(.s 9),(.s 10)]), .i (.not 12 (.s 11))]) (.cond (.s 12) (.seq (.ops [.i (.mov 6 (.c (.val false [.nils]))), .i (.mov 7 (qb false))]) .ret) .skip)) (.seq (.ops [qm 13 1,qk 15 47 13, .i (.bld 15 [.nils] [(0,1,(.s 14))]), .i (.hbox 16 254 (.s 15)),qm 8 16]) (.seq (.ops [qm 17 8,ql 18 5 5 5 true, .i (.call 20 239 false [(.s 17),(.s 18)])]) (.seq (.ops [qm 20 8, .i (.nch 21 (.s 20)),qf 22 21 0, .i (.ldh 23 (.s 22) 1 false),qm 6 23, .i (.mov 7 (qb true))]) .ret)))))⟩
theorem Dm:cd td=some sM:=by kernel_rfl
theorem qe (l:ax) (b:Bytes) (q:Qc) (hw:q.wf) (hb:b.length≤900000000):VC cd td (aJ [(true,l.c),(false,[.sl (bytes b)]),(true,q.c)]) (fun rs _=>rs=a9 (gU l q) (b++IQ q)):=by
 refine aa Dm rfl ?_
 simp(disch:=omega) [sM,Qc.c,ax.c,VY]
 refine ah (j9 l q hw) rfl rfl ?_
 simp(disch:=omega) [VY]
 refine ak (fun h0=> ?_) (fun h0=> ?_)
 case refine_2=>simp(disch:=omega) [h0,a9,VY]
 have hs:=pF h0
 simp(disch:=omega) [h0,VY]
 refine ah (aH b (by omega)) rfl rfl ?_
 simp(disch:=omega) [VZ]
 refine pX (j6 _ q hs ?_) ?_
 ·(try simp only[List.length_append]);omega
 simp(disch:=omega) [a9,h0,VZ]
abbrev lU:Nat:=150
def ky:AF:=⟨3,6,[.tmp 6, .tmp 7],(.seq (.ops [.i (.lbox 3 (.s 0)), .i (.lbox 5 (.s 2)), .i (.mov 6 (.c (.val false [.nils]))), .i (.mov 7 (qb false))]) (.seq (.seq (.ops [ql 12 3 3 5 true,ql 13 5 5 11 true, .i (.call 15 222 false [(.s 12),(.s 13)]), .i (.not 15 (.s 14))]) (.cond (.s 15) (.seq (.ops [.i (.mov 6 (.c (.val false [.nils]))), .i (.mov 7 (qb false))]) .ret) .skip)) (.seq (.ops [ql 17 3 3 5 true,qm 18 1,qf 19 5 0,ql 20 5 19 10 true, .i (.call 22 149 false [(.s 17),(.s 18),(.s 20)]),qm 16 21, .i (.ext 22 (.s 16) 0), .i (.ext 23 (.s 16) 1),qm 8 22,qm 9 23]) (.seq (.ops [qm 24 8,qf 25 5 10,ql 26 5 25 1 false,qn 27 26, .i (.call 29 219 false [(.s 24),(.s 27)]),qm 8 28]) (.seq (.seq (.ops [qf 29 5 10,ql 30 5 29 1 false,qn 31 30, .i (.mov 32 (qi 0))]) (.block 0 (.loop [39,38,37,36,35,34,33,11] (.seq (.ops [qd 33 .lss 32 31]) (.seq (.cond (.s 33) .skip (.exit 0)) (.seq (.block 1 (.seq (.ops [.i (.iad 34 (.s 30) (.s 32) 1), .i (.ldh 35 (.s 34) 1 false),qm 11 35]) (.ops [qm 36 8,qm 37 11, .i (.call 39 223 false [(.s 36),(.s 37)]),qm 8 38]))) (.ops [.i (.bin 39 .add (.s 32) (qi 1)),qm 32 39]))))))) (.seq (.ops [qm 40 8,qm 6 40, .i (.mov 7 (qb true))]) .ret))))))⟩
theorem xy:cd lU=some ky:=by kernel_rfl
theorem jv (l:ax) (b:Bytes) (x:Block) (hw:x.wc∧∀t∈x.txs,t.length≤100000000) (hb:b.length≤800000000):VC cd lU (aJ [(true,l.c),(false,[.sl (bytes b)]),(true,x.c)]) (fun rs _=>rs=a9 (bZ l x) (b++mz x)):=by
 refine aa xy rfl ?_
 simp(disch:=omega) [ky,Block.c,Head.c,ax.c,VY]
 refine az (wU l x hw.1 (fun t ht=>by have:=hw.2 t ht;omega)) ?_ (ha:=by first|rfl|(simp[ax.c,Block.c,Head.c,VY] <;>repeat' constructor))
 simp(disch:=omega) [VY]
 refine ak (fun h0=> ?_) (fun h0=> ?_)
 case refine_2=>simp(disch:=omega) [h0,a9,VY]
 have hh:=gz h0
 have hf:=oB h0
 have ht:=nS h0
 have hs:=gB (dD hh)
 simp(disch:=omega) [h0,VY]
 refine az ((ey l b x.head hw.1.1.1 (by omega)).re (bE hh)) ?_ (ha:=by first|rfl|(simp[ax.c,Head.c,VY] <;>repeat' constructor))
 simp(disch:=omega) [h0,aw,VY]
 refine az (bu (b++eH x.head) x.txs.length (fS (by omega)) (by simp only[List.length_append];omega)) ?_
 have h1:=bS (n:=x.txs.length) (by omega)
 simp(disch:=omega) [h0,aw,VY]
 refine eO (σ:=Nat×Nat×Nat) (f1:=_) (by simp(disch:=omega) [VY];rfl) (fun p=> [(32, .val false [.int .i64 (p.1:Int)]),(8, .val false [.ow p.2.1 p.2.2])]) (fun p=> [(p.2.1, .sl p.2.2 true true (some (5,1)) (bytes (b++(eH x.head++(aV x.txs.length++dN (x.txs.take p.1))))))]) (fun p g=>g+p.1=x.txs.length∧(p.2.1=245760∨p.2.1=327680)) (0,245760,20) x.txs.length (by simp(disch:=omega) [VY]) (by simp(disch:=omega) [show dN []= []from rfl,VY]) ⟨by omega, .inl rfl⟩ ?_
 rintro⟨i,key,v⟩ n g ⟨hg,hk⟩ P hP
 simp only at hg hk
 have hlt:∀t∈x.txs.take i,t.length≤1000:=fun t h=>ht t (List.mem_of_mem_take h)
 have hl:=j8 hlt
 have hl2:(x.txs.take i).length≤8:=by rw[List.length_take];omega
 have hl3:(dN (x.txs.take i)).length≤8072:=by omega
 rcases hk with rfl|rfl
 all_goals
  simp(disch:=omega) [VY]
  refine ab (fun h2=> ?_) (fun h2=> ?_)
  ·have hi:i < x.txs.length:=by omega
   have hx:=ht _ (List.getElem_mem hi)
   simp(disch:=omega) [cT hi,VY]
   refine az (kH (b++(eH x.head++(aV x.txs.length++dN (x.txs.take i)))) x.txs[i] (by simp only[List.length_append];omega) (by omega)) ?_
   simp(disch:=omega) [VY]
   exact hP (i+1,327680,_) (g - 1) _ _ (by omega) ⟨by simp only;omega, .inr rfl⟩ (by simp(disch:=omega) [VY];rfl) (by simp(disch:=omega) [v9 hi,VY])
  ·have hi:i=x.txs.length:=by omega
   subst hi
   simp(disch:=omega) [a9,mz,dN,List.take_length,VY]
abbrev kN:Nat:=161
def kW:AF:=⟨3,6,[.tmp 6, .tmp 7],(.seq (.ops [.i (.lbox 3 (.s 0)), .i (.lbox 5 (.s 2)), .i (.mov 6 (.c (.val false [.nils]))), .i (.mov 7 (qb false))]) (.seq (.seq (.ops [ql 11 3 3 5 true,ql 12 5 5 11 true, .i (.call 14 242 false [(.s 11),(.s 12)]), .i (.not 14 (.s 13))]) (.cond (.s 14) (.seq (.ops [.i (.mov 6 (.c (.val false [.nils]))), .i (.mov 7 (qb false))]) .ret) .skip)) (.seq (.ops [qm 15 1,qk 17 47 15, .i (.bld 17 [.nils] [(0,1,(.s 16))]), .i (.hbox 18 254 (.s 17)),qm 8 18]) (.seq (.ops [qm 19 8,qf 20 5 0,ql 21 5 20 10 true, .i (.call 23 241 false [(.s 19),(.s 21)])]) (.seq (.ops [qm 23 8,qf 24 5 10,ql 25 5 24 1 false,qn 26 25, .i (.call 28 236 false [(.s 23),(.s 26)])]) (.seq (.seq (.ops [qf 28 5 10,ql 29 5 28 1 false,qn 30 29, .i (.mov 31 (qi 0))]) (.block 0 (.loop [44,43,42,41,40,39,38,37,36,35,34,33,32,10] (.seq (.ops [qd 32 .lss 31 30]) (.seq (.cond (.s 32) .skip (.exit 0)) (.seq (.block 1 (.seq (.ops [.i (.iad 33 (.s 29) (.s 31) 1), .i (.ldh 34 (.s 33) 1 false),qm 10 34]) (.ops [qm 35 8,qm 36 8, .i (.nch 37 (.s 36)),qf 38 37 0, .i (.ldh 39 (.s 38) 1 false),qm 40 10, .i (.call 42 243 false [(.s 39),(.s 40)]), .i (.nch 42 (.s 35)),qf 43 42 0, .i (.sth (.s 43) (.s 41) 1)]))) (.ops [.i (.bin 44 .add (.s 31) (qi 1)),qm 31 44]))))))) (.seq (.ops [qm 45 8, .i (.nch 46 (.s 45)),qf 47 46 0, .i (.ldh 48 (.s 47) 1 false),qm 6 48, .i (.mov 7 (qb true))]) .ret)))))))⟩
theorem wZ:cd kN=some kW:=by kernel_rfl
theorem ju (l:ax) (b:Bytes) (x:Block) (hw:x.wc∧∀t∈x.txs,t.length≤100000000) (hb:b.length≤800000000):VC cd kN (aJ [(true,l.c),(false,[.sl (bytes b)]),(true,x.c)]) (fun rs _=>rs=a9 (bZ l x) (b++mz x)):=by
 refine aa wZ rfl ?_
 simp(disch:=omega) [kW,Block.c,Head.c,ax.c,VY]
 refine az (wW l x hw.1 (fun t ht=>by have:=hw.2 t ht;omega)) ?_ (ha:=by first|rfl|(simp[ax.c,Block.c,Head.c,VY] <;>repeat' constructor))
 simp(disch:=omega) [VY]
 refine ak (fun h0=> ?_) (fun h0=> ?_)
 case refine_2=>simp(disch:=omega) [h0,a9,VY]
 have hh:=gz h0
 have hf:=oB h0
 have ht:=nS h0
 have hz:=dD hh
 have hs:=gB hz
 simp(disch:=omega) [h0,VY]
 refine ah (aH b (by omega)) rfl rfl ?_
 simp(disch:=omega) [VZ]
 refine pX (gS _ x.head hz ?_) ?_
 ·(try simp only[List.length_append]);omega
 simp(disch:=omega) [aw,VZ]
 refine pX (aN _ x.txs.length (fS (by omega)) ?_) ?_
 ·(try simp only[List.length_append]);omega
 have h1:=bS (n:=x.txs.length) (by omega)
 simp(disch:=omega) [aw,VZ]
 refine eO (σ:=Nat×Nat×Nat) (f1:=_) (by simp(disch:=omega) [VZ];rfl) (fun p=> [(31, .val false [.int .i64 (p.1:Int)])]) (fun p=> [(18, .pt 19 254 [.ow p.2.1 p.2.2]),(p.2.1, .sl p.2.2 true true (some (5,1)) (bytes (b++(eH x.head++(aV x.txs.length++dN (x.txs.take p.1))))))]) (fun p g=>g+p.1=x.txs.length∧(p.2.1=1099511701504∨p.2.1=352256)) (0,1099511701504,23) x.txs.length (by simp(disch:=omega) [VZ]) (by simp(disch:=omega) [show dN []= []from rfl,VZ]) ⟨by omega, .inl rfl⟩ ?_
 rintro⟨i,key,v⟩ n g ⟨hg,hk⟩ P hP
 simp only at hg hk
 have hlt:∀t∈x.txs.take i,t.length≤1000:=fun t h=>ht t (List.mem_of_mem_take h)
 have hl:=j8 hlt
 have hl2:(x.txs.take i).length≤8:=by rw[List.length_take];omega
 have hl3:(dN (x.txs.take i)).length≤8072:=by omega
 rcases hk with rfl|rfl
 all_goals
  simp(disch:=omega) [VZ]
  refine ab (fun h2=> ?_) (fun h2=> ?_)
  ·have hi:i < x.txs.length:=by omega
   have hx:=ht _ (List.getElem_mem hi)
   simp(disch:=omega) [cT hi,VZ]
   refine az (lh (b++(eH x.head++(aV x.txs.length++dN (x.txs.take i)))) x.txs[i] (by simp only[List.length_append];omega) (by omega)) ?_
   simp(disch:=omega) [VZ]
   exact hP (i+1,352256,_) (g - 1) _ _ (by omega) ⟨by simp only;omega, .inr rfl⟩ (by simp(disch:=omega) [VZ]) (by simp(disch:=omega) [v9 hi,VZ];rfl)
  ·have hi:i=x.txs.length:=by omega
   subst hi
   simp(disch:=omega) [a9,mz,dN,List.take_length,VZ]
theorem yM {l:ax} {t:Tc} (h:ic l t=true):t.entries.length≤10∧isNum t.view=true∧∀e∈t.entries,isNum e.who=true∧isNum e.high=true∧e.tag.length=32:=by
 simp only[ic,Bool.and_eq_true,decide_eq_true_eq,List.all_eq_true,List.mem_range]at h
 obtain⟨⟨⟨h1,h2⟩,h3⟩,h4⟩:=h
 have hn:=jU h1
 have hv:=dP h2
 refine⟨by omega,h2,fun e he=> ?_⟩
 obtain⟨i,hi,rfl⟩:=List.mem_iff_getElem.1 he
 have h5:=h4 i hi
 simp only[bU,List.getElem?_eq_getElem hi,Bool.and_eq_true]at h5
 obtain⟨⟨⟨g1,g2⟩,g3⟩,_⟩:=h5
 have g1':=dP g1
 have g2':=dP g2
 exact⟨by simp only[isNum,eb,decide_eq_true_eq];omega,by simp only[isNum,eb,decide_eq_true_eq];omega,tu g3⟩
def fM (l:List Entry):Bytes:=(l.map H4).flatten
theorem Aj {l:List Entry} {i:Nat} (h:i < l.length):fM (l.take (i+1))=fM (l.take i)++H4 l[i]:=by
 rw[List.take_succ_eq_append_getElem h]
 simp only[fM,List.map_append,List.map_cons,List.map_nil,List.flatten_append,List.flatten_cons,List.flatten_nil,List.append_nil]
theorem pq:∀ {l:List Entry},(∀e∈l,isNum e.who=true∧isNum e.high=true∧e.tag.length=32)→(fM l).length≤50 * l.length
 | [],_=>by simp[fM]
 |a::l,h=>by
  have h1:=pq (l:=l) fun x hx=>h x (by simp[hx])
  obtain⟨g1,g2,g3⟩:=h a (by simp)
  have h2:=aA g1
  have h3:=aA g2
  simp only[fM,H4,List.map_cons,List.flatten_cons,List.length_append,List.length_cons]at h1⊢
  omega
abbrev sS:Nat:=162
def tR:AF:=⟨3,6,[.tmp 6, .tmp 7],(.seq (.ops [.i (.lbox 3 (.s 0)), .i (.lbox 5 (.s 2)), .i (.mov 6 (.c (.val false [.nils]))), .i (.mov 7 (qb false))]) (.seq (.seq (.ops [ql 11 3 3 5 true,ql 12 5 5 2 true, .i (.call 14 244 false [(.s 11),(.s 12)]), .i (.not 14 (.s 13))]) (.cond (.s 14) (.seq (.ops [.i (.mov 6 (.c (.val false [.nils]))), .i (.mov 7 (qb false))]) .ret) .skip)) (.seq (.ops [qm 15 1,qk 17 47 15, .i (.bld 17 [.nils] [(0,1,(.s 16))]), .i (.hbox 18 254 (.s 17)),qm 8 18]) (.seq (.ops [qm 19 8,qf 20 5 0,ql 21 5 20 1 false, .i (.call 23 236 false [(.s 19),(.s 21)])]) (.seq (.ops [qm 23 8,qf 24 5 1,ql 25 5 24 1 false,qn 26 25, .i (.call 28 236 false [(.s 23),(.s 26)])]) (.seq (.seq (.ops [qf 28 5 1,ql 29 5 28 1 false,qn 30 29, .i (.mov 31 (qi 0))]) (.block 0 (.loop [47,46,45,44,43,42,41,40,39,38,37,36,35,34,33,32,10] (.seq (.ops [qd 32 .lss 31 30]) (.seq (.cond (.s 32) .skip (.exit 0)) (.seq (.block 1 (.seq (.ops [.i (.iad 33 (.s 29) (.s 31) 3), .i (.ldh 34 (.s 33) 3 true), .i (.lal 10 [.int .i64 0, .int .i64 0, .nils]),qs 10 10 34 3]) (.seq (.ops [qm 35 8,qf 36 10 0,ql 37 10 36 1 false, .i (.call 39 236 false [(.s 35),(.s 37)])]) (.seq (.ops [qm 39 8,qf 40 10 1,ql 41 10 40 1 false, .i (.call 43 236 false [(.s 39),(.s 41)])]) (.ops [qm 43 8,qf 44 10 2,ql 45 10 44 1 false, .i (.call 47 237 false [(.s 43),(.s 45)])]))))) (.ops [.i (.bin 47 .add (.s 31) (qi 1)),qm 31 47]))))))) (.seq (.ops [qm 48 8, .i (.nch 49 (.s 48)),qf 50 49 0, .i (.ldh 51 (.s 50) 1 false),qm 6 51, .i (.mov 7 (qb true))]) .ret)))))))⟩
theorem CX:cd sS=some tR:=by kernel_rfl
theorem qQ (l:ax) (b:Bytes) (t:Tc) (hw:t.wf) (hb:b.length≤800000000):VC cd sS (aJ [(true,l.c),(false,[.sl (bytes b)]),(true,t.c)]) (fun rs _=>rs=a9 (ic l t) (b++NK t)):=by
 refine aa CX rfl ?_
 simp(disch:=omega) [tR,Tc.c,ax.c,VY]
 refine az (C5 l t hw) ?_ (ha:=by first|rfl|(simp[ax.c,Tc.c,VY] <;>repeat' constructor))
 simp(disch:=omega) [VY]
 refine ak (fun h0=> ?_) (fun h0=> ?_)
 case refine_2=>simp(disch:=omega) [h0,a9,VY]
 obtain⟨hf,hv,he⟩:=yM h0
 have h3:=aA hv
 have h1:=bS (n:=t.entries.length) (by omega)
 simp(disch:=omega) [h0,VY]
 refine ah (aH b (by omega)) rfl rfl ?_
 simp(disch:=omega) [VZ]
 refine pX (aN _ t.view hv ?_) ?_
 ·(try simp only[List.length_append]);omega
 simp(disch:=omega) [bL,VZ]
 refine pX (aN _ t.entries.length (fS (by omega)) ?_) ?_
 ·(try simp only[List.length_append]);omega
 simp(disch:=omega) [bL,VZ]
 refine eO (σ:=Nat×Nat) (f1:=_) (by simp(disch:=omega) [VZ];rfl) (fun p=> [(31, .val false [.int .i64 (p.1:Int)])]) (fun p=> [(18, .pt 10 254 [.ow 1099511701504 p.2]),(1099511701504, .sl p.2 true true (some (5,1)) (bytes (b++(aV t.view.toNat++(aV t.entries.length++fM (t.entries.take p.1))))))]) (fun p g=>g+p.1=t.entries.length) (0,14) t.entries.length (by simp(disch:=omega) [VZ]) (by simp(disch:=omega) [show fM []= []from rfl,VZ]) (by omega) ?_
 rintro⟨i,v⟩ n g hg P hP
 simp only at hg
 have hlt:∀e∈t.entries.take i,isNum e.who=true∧isNum e.high=true∧e.tag.length=32:=fun e h=>he e (List.mem_of_mem_take h)
 have hl:=pq hlt
 have hl2:(t.entries.take i).length≤10:=by rw[List.length_take];omega
 have hl3:(fM (t.entries.take i)).length≤500:=by omega
 simp(disch:=omega) [VZ]
 refine ab (fun h2=> ?_) (fun h2=> ?_)
 ·have hi:i < t.entries.length:=by omega
  obtain⟨g1,g2,g3⟩:=he _ (List.getElem_mem hi)
  have g4:=aA g1
  have g5:=aA g2
  simp(disch:=omega) [dF hi,VZ]
  refine pX (aN _ t.entries[i].who g1 ?_) ?_
  ·(try simp only[List.length_append]);omega
  simp(disch:=omega) [VZ]
  refine pX (aN _ t.entries[i].high g2 ?_) ?_
  ·(try simp only[List.length_append]);omega
  simp(disch:=omega) [VZ]
  refine pX (bW _ t.entries[i].tag (by omega) ?_) ?_
  ·(try simp only[List.length_append]);omega
  simp(disch:=omega) [VZ]
  exact hP (i+1,_) (g - 1) _ _ (by omega) (by simp only;omega) (by simp(disch:=omega) [VZ]) (by simp(disch:=omega) [Aj hi,H4,VZ];rfl)
 ·have hi:i=t.entries.length:=by omega
  subst hi
  simp(disch:=omega) [a9,NK,fM,List.take_length,VZ]
abbrev ui:Nat:=151
def tX:AF:=⟨3,6,[.tmp 6, .tmp 7],(.seq (.ops [.i (.lbox 3 (.s 0)), .i (.lbox 5 (.s 2)), .i (.mov 6 (.c (.val false [.nils]))), .i (.mov 7 (qb false))]) (.seq (.seq (.ops [ql 11 3 3 5 true,ql 12 5 5 2 true, .i (.call 14 224 false [(.s 11),(.s 12)]), .i (.not 14 (.s 13))]) (.cond (.s 14) (.seq (.ops [.i (.mov 6 (.c (.val false [.nils]))), .i (.mov 7 (qb false))]) .ret) .skip)) (.seq (.ops [qm 15 1,qf 16 5 0,ql 17 5 16 1 false, .i (.call 19 219 false [(.s 15),(.s 17)]),qf 19 5 1,ql 20 5 19 1 false,qn 21 20, .i (.call 23 219 false [(.s 18),(.s 21)]),qm 8 22]) (.seq (.seq (.ops [qf 23 5 1,ql 24 5 23 1 false,qn 25 24, .i (.mov 26 (qi 0))]) (.block 0 (.loop [40,39,38,37,36,35,34,33,32,31,30,29,28,27,10] (.seq (.ops [qd 27 .lss 26 25]) (.seq (.cond (.s 27) .skip (.exit 0)) (.seq (.block 1 (.seq (.ops [.i (.iad 28 (.s 24) (.s 26) 3), .i (.ldh 29 (.s 28) 3 true), .i (.lal 10 [.int .i64 0, .int .i64 0, .nils]),qs 10 10 29 3]) (.ops [qm 30 8,qf 31 10 0,ql 32 10 31 1 false, .i (.call 34 219 false [(.s 30),(.s 32)]),qf 34 10 1,ql 35 10 34 1 false, .i (.call 37 219 false [(.s 33),(.s 35)]),qf 37 10 2,ql 38 10 37 1 false, .i (.app 39 5 1 1 (.s 36) (.s 38)),qm 8 39]))) (.ops [.i (.bin 40 .add (.s 26) (qi 1)),qm 26 40]))))))) (.seq (.ops [qm 41 8,qm 6 41, .i (.mov 7 (qb true))]) .ret)))))⟩
theorem Dn:cd ui=some tX:=by kernel_rfl
theorem qA (l:ax) (b:Bytes) (t:Tc) (hw:t.wf) (hb:b.length≤800000000):VC cd ui (aJ [(true,l.c),(false,[.sl (bytes b)]),(true,t.c)]) (fun rs _=>rs=a9 (ic l t) (b++NK t)):=by
 refine aa Dn rfl ?_
 simp(disch:=omega) [tX,Tc.c,ax.c,VY]
 refine az (CL l t hw) ?_ (ha:=by first|rfl|(simp[ax.c,Tc.c,VY] <;>repeat' constructor))
 simp(disch:=omega) [VY]
 refine ak (fun h0=> ?_) (fun h0=> ?_)
 case refine_2=>simp(disch:=omega) [h0,a9,VY]
 obtain⟨hf,hv,he⟩:=yM h0
 have h3:=aA hv
 have h1:=bS (n:=t.entries.length) (by omega)
 simp(disch:=omega) [h0,VY]
 refine az (bu b t.view hv (by omega)) ?_
 simp(disch:=omega) [h0,bL,VY]
 refine az (bu (b++aV t.view.toNat) t.entries.length (fS (by omega)) (by simp only[List.length_append];omega)) ?_
 simp(disch:=omega) [h0,bL,VY]
 refine eO (σ:=Nat×Nat×Nat) (f1:=_) (by simp(disch:=omega) [VY];rfl) (fun p=> [(26, .val false [.int .i64 (p.1:Int)]),(8, .val false [.ow p.2.1 p.2.2])]) (fun p=> [(p.2.1, .sl p.2.2 true true (some (5,1)) (bytes (b++(aV t.view.toNat++(aV t.entries.length++fM (t.entries.take p.1))))))]) (fun p g=>g+p.1=t.entries.length∧(p.2.1=196608∨p.2.1=311296)) (0,196608,_) t.entries.length (by simp(disch:=omega) [VY];rfl) (by simp(disch:=omega) [show fM []= []from rfl,VY]) ⟨by omega, .inl rfl⟩ ?_
 rintro⟨i,key,v⟩ n g ⟨hg,hk⟩ P hP
 simp only at hg hk
 have hlt:∀e∈t.entries.take i,isNum e.who=true∧isNum e.high=true∧e.tag.length=32:=fun e h=>he e (List.mem_of_mem_take h)
 have hl:=pq hlt
 have hl2:(t.entries.take i).length≤10:=by rw[List.length_take];omega
 have hl3:(fM (t.entries.take i)).length≤500:=by omega
 rcases hk with rfl|rfl
 all_goals
  simp(disch:=omega) [VY]
  refine ab (fun h2=> ?_) (fun h2=> ?_)
  ·have hi:i < t.entries.length:=by omega
   obtain⟨g1,g2,g3⟩:=he _ (List.getElem_mem hi)
   have g4:=aA g1
   have g5:=aA g2
   simp(disch:=omega) [dF hi,VY]
   refine az (bu (b++(aV t.view.toNat++(aV t.entries.length++fM (t.entries.take i)))) t.entries[i].who g1 (by simp only[List.length_append];omega)) ?_
   simp(disch:=omega) [VY]
   refine az (bu (b++(aV t.view.toNat++(aV t.entries.length++(fM (t.entries.take i)++aV t.entries[i].who.toNat)))) t.entries[i].high g2 (by simp only[List.length_append];omega)) ?_
   simp(disch:=omega) [cn,an,VY]
   exact hP (i+1,311296,_) (g - 1) _ _ (by omega) ⟨by simp only;omega, .inr rfl⟩ (by simp(disch:=omega) [VY];rfl) (by simp(disch:=omega) [Aj hi,H4,VY])
  ·have hi:i=t.entries.length:=by omega
   subst hi
   simp(disch:=omega) [a9,NK,fM,List.take_length,VY]
def dI (l:List Head):Bytes:=(l.map eH).flatten
theorem wy {l:List Head} {i:Nat} (h:i < l.length):dI (l.take (i+1))=dI (l.take i)++eH l[i]:=by
 rw[List.take_succ_eq_append_getElem h]
 simp only[dI,List.map_append,List.map_cons,List.map_nil,List.flatten_append,List.flatten_cons,List.flatten_nil,List.append_nil]
theorem j2:∀ {l:List Head},(∀h∈l,CP h)→(dI l).length≤1000 * l.length
 | [],_=>by simp[dI]
 |a::l,h=>by
  have h1:=j2 (l:=l) fun x hx=>h x (by simp[hx])
  have h2:=gB (h a (by simp))
  simp only[dI,List.map_cons,List.flatten_cons,List.length_append,List.length_cons]at h1⊢
  omega
theorem mO {l:ax} {p:Proof} (h:de l p=true):p.heads.length≤5∧gU l p.qc=true∧∀x∈p.heads,cf l x=true:=by
 simp only[de,Bool.and_eq_true]at h
 obtain⟨⟨⟨h1,h2⟩,h3⟩,h4⟩:=h
 have h5:=m0 h3
 simp only[ax.ok,Bool.and_eq_true]at h5
 have h6:=dP h5.2
 have h7:=dP h1
 refine⟨by omega,h3,fun x hx=> ?_⟩
 simp only[ke,List.all_eq_true]at h2
 exact h2 x hx
abbrev lE:Nat:=163
def ld:AF:=⟨3,6,[.tmp 6, .tmp 7],(.seq (.ops [.i (.lbox 3 (.s 0)), .i (.lbox 5 (.s 2)), .i (.mov 6 (.c (.val false [.nils]))), .i (.mov 7 (qb false))]) (.seq (.seq (.ops [ql 11 3 3 5 true,ql 12 5 5 6 true, .i (.call 14 245 false [(.s 11),(.s 12)]), .i (.not 14 (.s 13))]) (.cond (.s 14) (.seq (.ops [.i (.mov 6 (.c (.val false [.nils]))), .i (.mov 7 (qb false))]) .ret) .skip)) (.seq (.ops [qm 15 1,qk 17 47 15, .i (.bld 17 [.nils] [(0,1,(.s 16))]), .i (.hbox 18 254 (.s 17)),qm 8 18]) (.seq (.ops [qm 19 8,qf 20 5 0,ql 21 5 20 1 false,qn 22 21, .i (.call 24 236 false [(.s 19),(.s 22)])]) (.seq (.seq (.ops [qf 24 5 0,ql 25 5 24 1 false,qn 26 25, .i (.mov 27 (qi 0))]) (.block 0 (.loop [34,33,32,31,30,29,28,10] (.seq (.ops [qd 28 .lss 27 26]) (.seq (.cond (.s 28) .skip (.exit 0)) (.seq (.block 1 (.seq (.ops [.i (.iad 29 (.s 25) (.s 27) 10), .i (.ldh 30 (.s 29) 10 true), .i (.lal 10 qz),qs 10 10 30 10]) (.ops [qm 31 8,ql 32 10 10 10 true, .i (.call 34 241 false [(.s 31),(.s 32)])]))) (.ops [.i (.bin 34 .add (.s 27) (qi 1)),qm 27 34]))))))) (.seq (.ops [qm 35 8,qf 36 5 1,ql 37 5 36 5 true, .i (.call 39 239 false [(.s 35),(.s 37)])]) (.seq (.ops [qm 39 8, .i (.nch 40 (.s 39)),qf 41 40 0, .i (.ldh 42 (.s 41) 1 false),qm 6 42, .i (.mov 7 (qb true))]) .ret)))))))⟩
theorem wM:cd lE=some ld:=by kernel_rfl
theorem jS (l:ax) (b:Bytes) (p:Proof) (hw:p.wc) (hb:b.length≤800000000):VC cd lE (aJ [(true,l.c),(false,[.sl (bytes b)]),(true,p.c)]) (fun rs _=>rs=a9 (de l p) (b++oJ p)):=by
 refine aa wM rfl ?_
 simp(disch:=omega) [ld,Proof.c,ax.c,VY]
 refine az (xg l p hw.1) ?_ (ha:=by first|rfl|(simp[ax.c,Proof.c,VY] <;>repeat' constructor))
 simp(disch:=omega) [VY]
 refine ak (fun h0=> ?_) (fun h0=> ?_)
 case refine_2=>simp(disch:=omega) [h0,a9,VY]
 obtain⟨hf,hq,hh⟩:=mO h0
 have h1:=bS (n:=p.heads.length) (by omega)
 simp(disch:=omega) [h0,VY]
 refine ah (aH b (by omega)) rfl rfl ?_
 simp(disch:=omega) [cL,VZ]
 refine pX (aN _ p.heads.length (fS (by omega)) ?_) ?_
 ·(try simp only[List.length_append]);omega
 simp(disch:=omega) [cL,VZ]
 refine eO (σ:=Nat×Nat) (f1:=_) (by simp(disch:=omega) [VZ];rfl) (fun q=> [(27, .val false [.int .i64 (q.1:Int)])]) (fun q=> [(18, .pt 14 254 [.ow 1099511701504 q.2]),(1099511701504, .sl q.2 true true (some (5,1)) (bytes (b++(aV p.heads.length++dI (p.heads.take q.1)))))]) (fun q g=>g+q.1=p.heads.length) (0,16) p.heads.length (by simp(disch:=omega) [VZ]) (by simp(disch:=omega) [show dI []= []from rfl,VZ]) (by omega) ?_
 rintro⟨i,v⟩ n g hg P hP
 simp only at hg
 have hl:=j2 (l:=p.heads.take i) (fun e h=>dD (hh e (List.mem_of_mem_take h)))
 have hl2:(p.heads.take i).length≤5:=by rw[List.length_take];omega
 have hl3:(dI (p.heads.take i)).length≤5000:=by omega
 simp(disch:=omega) [VZ]
 refine ab (fun h2=> ?_) (fun h2=> ?_)
 ·have hi:i < p.heads.length:=by omega
  have hz:=dD (hh _ (List.getElem_mem hi))
  have hy:=gB hz
  simp(disch:=omega) [ew hi,Head.c,VZ]
  refine pX (gS _ p.heads[i] hz ?_) ?_
  ·(try simp only[List.length_append]);omega
  simp(disch:=omega) [VZ]
  exact hP (i+1,_) (g - 1) _ _ (by omega) (by simp only;omega) (by simp(disch:=omega) [VZ]) (by simp(disch:=omega) [wy hi,VZ];rfl)
 ·have hi:i=p.heads.length:=by omega
  subst hi
  rw[List.take_length]at hl3
  simp(disch:=omega) [List.take_length,VZ]
  refine pX (j6 _ p.qc (pF hq) ?_) ?_
  ·(try simp only[List.length_append]);omega
  simp(disch:=omega) [a9,oJ,dI,VZ]
abbrev lN:Nat:=152
def lH:AF:=⟨3,6,[.tmp 6, .tmp 7],(.seq (.ops [.i (.lbox 3 (.s 0)), .i (.lbox 5 (.s 2)), .i (.mov 6 (.c (.val false [.nils]))), .i (.mov 7 (qb false))]) (.seq (.seq (.ops [ql 11 3 3 5 true,ql 12 5 5 6 true, .i (.call 14 225 false [(.s 11),(.s 12)]), .i (.not 14 (.s 13))]) (.cond (.s 14) (.seq (.ops [.i (.mov 6 (.c (.val false [.nils]))), .i (.mov 7 (qb false))]) .ret) .skip)) (.seq (.ops [qm 15 1,qf 16 5 0,ql 17 5 16 1 false,qn 18 17, .i (.call 20 219 false [(.s 15),(.s 18)]),qm 8 19]) (.seq (.seq (.ops [qf 20 5 0,ql 21 5 20 1 false,qn 22 21, .i (.mov 23 (qi 0))]) (.block 0 (.loop [34,33,32,31,30,29,28,27,26,25,24,10] (.seq (.ops [qd 24 .lss 23 22]) (.seq (.cond (.s 24) .skip (.exit 0)) (.seq (.block 1 (.seq (.ops [.i (.iad 25 (.s 21) (.s 23) 10), .i (.ldh 26 (.s 25) 10 true), .i (.lal 10 qz),qs 10 10 26 10]) (.ops [ql 28 3 3 5 true,qm 29 8,ql 30 10 10 10 true, .i (.call 32 149 false [(.s 28),(.s 29),(.s 30)]),qm 27 31, .i (.ext 32 (.s 27) 0), .i (.ext 33 (.s 27) 1),qm 8 32]))) (.ops [.i (.bin 34 .add (.s 23) (qi 1)),qm 23 34]))))))) (.seq (.ops [ql 35 3 3 5 true,qm 36 8,qf 37 5 1,ql 38 5 37 5 true, .i (.call 40 148 false [(.s 35),(.s 36),(.s 38)]), .i (.ext 40 (.s 39) 0), .i (.ext 41 (.s 39) 1),qm 6 40,qm 7 41]) .ret)))))⟩
theorem wF:cd lN=some lH:=by kernel_rfl
theorem iZ (l:ax) (b:Bytes) (p:Proof) (hw:p.wc) (hb:b.length≤800000000):VC cd lN (aJ [(true,l.c),(false,[.sl (bytes b)]),(true,p.c)]) (fun rs _=>rs=a9 (de l p) (b++oJ p)):=by
 refine aa wF rfl ?_
 simp(disch:=omega) [lH,Proof.c,ax.c,VY]
 refine az (wP l p hw.1) ?_ (ha:=by first|rfl|(simp[ax.c,Proof.c,VY] <;>repeat' constructor))
 simp(disch:=omega) [VY]
 refine ak (fun h0=> ?_) (fun h0=> ?_)
 case refine_2=>simp(disch:=omega) [h0,a9,VY]
 obtain⟨hf,hq,hh⟩:=mO h0
 have h1:=bS (n:=p.heads.length) (by omega)
 simp(disch:=omega) [h0,cL,VY]
 refine az (bu b p.heads.length (fS (by omega)) (by omega)) ?_
 simp(disch:=omega) [h0,cL,VY]
 refine eO (σ:=Nat×Nat×Nat) (f1:=_) (by simp(disch:=omega) [VY];rfl) (fun q=> [(23, .val false [.int .i64 (q.1:Int)]),(8, .val false [.ow q.2.1 q.2.2])]) (fun q=> [(q.2.1, .sl q.2.2 true true (some (5,1)) (bytes (b++(aV p.heads.length++dI (p.heads.take q.1)))))]) (fun q g=>g+q.1=p.heads.length∧(q.2.1=172032∨q.2.1=270336)) (0,172032,13) p.heads.length (by simp(disch:=omega) [VY]) (by simp(disch:=omega) [show dI []= []from rfl,VY]) ⟨by omega, .inl rfl⟩ ?_
 rintro⟨i,key,v⟩ n g ⟨hg,hk⟩ P hP
 simp only at hg hk
 have hl:=j2 (l:=p.heads.take i) (fun e h=>dD (hh e (List.mem_of_mem_take h)))
 have hl2:(p.heads.take i).length≤5:=by rw[List.length_take];omega
 have hl3:(dI (p.heads.take i)).length≤5000:=by omega
 rcases hk with rfl|rfl
 all_goals
  simp(disch:=omega) [VY]
  refine ab (fun h2=> ?_) (fun h2=> ?_)
  ·have hi:i < p.heads.length:=by omega
   have hx:=hh _ (List.getElem_mem hi)
   simp(disch:=omega) [ew hi,Head.c,VY]
   refine az ((ey l (b++(aV p.heads.length++dI (p.heads.take i))) p.heads[i] (hw.2.1 _ (List.getElem_mem hi)).1 (by simp only[List.length_append];omega)).re (bE hx)) ?_ (ha:=by first|rfl|(simp[ax.c,Head.c,VY] <;>repeat' constructor))
   simp(disch:=omega) [VY]
   exact hP (i+1,270336,_) (g - 1) _ _ (by omega) ⟨by simp only;omega, .inr rfl⟩ (by simp(disch:=omega) [VY];rfl) (by simp(disch:=omega) [wy hi,VY])
  ·have hi:i=p.heads.length:=by omega
   subst hi
   rw[List.take_length]at hl3
   simp(disch:=omega) [List.take_length,VY]
   refine az ((fL l (b++(aV p.heads.length++dI p.heads)) p.qc hw.2.2.1 (by simp only[List.length_append];omega)).re (bE hq)) ?_ (ha:=by first|rfl|(simp[ax.c,Qc.c,VY] <;>repeat' constructor))
   simp(disch:=omega) [a9,oJ,dI,VY]
theorem ss {l:ax} {x:bn} (h:fj l x=true):isNum x.height=true∧isNum x.n=true∧isNum x.idx=true∧x.tx.length≤40∧x.path.length≤8∧∀y∈x.path,y.length=32:=by
 simp only[fj,Bool.and_eq_true,decide_eq_true_eq]at h
 obtain⟨⟨⟨⟨⟨⟨h1,h2⟩,h3⟩,h4⟩,h5⟩,h6⟩,h7⟩:=h
 have g1:=DP h1
 have g3:=dP h3
 have g4:=dP h4
 have g5:=dv x.n.toNat x.idx.toNat
 refine⟨h2,by simp only[isNum,eb,decide_eq_true_eq];omega,by simp only[isNum,eb,decide_eq_true_eq];omega,by omega,by omega,fun y hy=> ?_⟩
 simp only[hashes,List.all_eq_true]at h7
 exact tu (h7 y hy)
abbrev mB:Nat:=164
def oy:AF:=⟨3,6,[.tmp 6, .tmp 7],(.seq (.ops [.i (.lbox 3 (.s 0)), .i (.lbox 5 (.s 2)), .i (.mov 6 (.c (.val false [.nils]))), .i (.mov 7 (qb false))]) (.seq (.seq (.ops [ql 11 3 3 5 true,ql 12 5 5 5 true, .i (.call 14 246 false [(.s 11),(.s 12)]), .i (.not 14 (.s 13))]) (.cond (.s 14) (.seq (.ops [.i (.mov 6 (.c (.val false [.nils]))), .i (.mov 7 (qb false))]) .ret) .skip)) (.seq (.ops [qm 15 1,qk 17 47 15, .i (.bld 17 [.nils] [(0,1,(.s 16))]), .i (.hbox 18 254 (.s 17)),qm 8 18]) (.seq (.ops [qm 19 8,qf 20 5 0,ql 21 5 20 1 false, .i (.call 23 236 false [(.s 19),(.s 21)])]) (.seq (.ops [qm 23 8,qf 24 5 1,ql 25 5 24 1 false, .i (.call 27 236 false [(.s 23),(.s 25)])]) (.seq (.ops [qm 27 8,qf 28 5 2,ql 29 5 28 1 false, .i (.call 31 236 false [(.s 27),(.s 29)])]) (.seq (.ops [qm 31 8,qm 32 8, .i (.nch 33 (.s 32)),qf 34 33 0, .i (.ldh 35 (.s 34) 1 false),qf 36 5 3,ql 37 5 36 1 false, .i (.call 39 243 false [(.s 35),(.s 37)]), .i (.nch 39 (.s 31)),qf 40 39 0, .i (.sth (.s 40) (.s 38) 1)]) (.seq (.seq (.ops [qf 41 5 4,ql 42 5 41 1 false,qn 43 42, .i (.mov 44 (qi 0))]) (.block 0 (.loop [51,50,49,48,47,46,45,10] (.seq (.ops [qd 45 .lss 44 43]) (.seq (.cond (.s 45) .skip (.exit 0)) (.seq (.block 1 (.seq (.ops [.i (.iad 46 (.s 42) (.s 44) 1), .i (.ldh 47 (.s 46) 1 false),qm 10 47]) (.ops [qm 48 8,qm 49 10, .i (.call 51 237 false [(.s 48),(.s 49)])]))) (.ops [.i (.bin 51 .add (.s 44) (qi 1)),qm 44 51]))))))) (.seq (.ops [qm 52 8, .i (.nch 53 (.s 52)),qf 54 53 0, .i (.ldh 55 (.s 54) 1 false),qm 6 55, .i (.mov 7 (qb true))]) .ret)))))))))⟩
theorem zF:cd mB=some oy:=by kernel_rfl
theorem kR (l:ax) (b:Bytes) (x:bn) (hw:x.wc) (htx:x.tx.length≤100000000) (hb:b.length≤800000000):VC cd mB (aJ [(true,l.c),(false,[.sl (bytes b)]),(true,x.c)]) (fun rs _=>rs=a9 (fj l x) (b++wq x)):=by
 refine aa zF rfl ?_
 simp(disch:=omega) [oy,bn.c,ax.c,VY]
 refine az (Ae l x hw) ?_ (ha:=by first|rfl|(simp[ax.c,bn.c,VY] <;>repeat' constructor))
 simp(disch:=omega) [VY]
 refine ak (fun h0=> ?_) (fun h0=> ?_)
 case refine_2=>simp(disch:=omega) [h0,a9,VY]
 obtain⟨n1,n2,n3,ht,hf,hp⟩:=ss h0
 have v1:=aA n1
 have v2:=aA n2
 have v3:=aA n3
 have v4:=pz (x:=x.tx) (by omega)
 simp(disch:=omega) [h0,VY]
 refine ah (aH b (by omega)) rfl rfl ?_
 simp(disch:=omega) [VZ]
 refine pX (aN _ x.height n1 ?_) ?_
 ·(try simp only[List.length_append]);omega
 simp(disch:=omega) [VZ]
 refine pX (aN _ x.n n2 ?_) ?_
 ·(try simp only[List.length_append]);omega
 simp(disch:=omega) [VZ]
 refine pX (aN _ x.idx n3 ?_) ?_
 ·(try simp only[List.length_append]);omega
 simp(disch:=omega) [VZ]
 refine az (lh (b++(aV x.height.toNat++(aV x.n.toNat++aV x.idx.toNat))) x.tx (by simp only[List.length_append];omega) (by omega)) ?_
 simp(disch:=omega) [aw,VZ]
 refine eO (σ:=Nat×Nat×Nat) (f1:=_) (by simp(disch:=omega) [VZ];rfl) (fun q=> [(44, .val false [.int .i64 (q.1:Int)])]) (fun q=> [(18, .pt 13 254 [.ow q.2.1 q.2.2]),(q.2.1, .sl q.2.2 true true (some (5,1)) (bytes (b++(aV x.height.toNat++(aV x.n.toNat++(aV x.idx.toNat++(lj x.tx++(x.path.take q.1).flatten)))))))]) (fun q g=>g+q.1=x.path.length∧(q.2.1=327680∨q.2.1=1099511701504)) (0,327680,20) x.path.length (by simp(disch:=omega) [VZ]) (by simp(disch:=omega) [VZ]) ⟨by omega, .inl rfl⟩ ?_
 rintro⟨i,key,v⟩ n g ⟨hg,hk⟩ P hP
 simp only at hg hk
 rcases hk with rfl|rfl
 all_goals
  simp(disch:=omega) [VZ]
  refine ab (fun h2=> ?_) (fun h2=> ?_)
  ·have hi:i < x.path.length:=by omega
   have hy:=hp _ (List.getElem_mem hi)
   have hz:=gC hp (i:=i) (by omega)
   simp(disch:=omega) [cT hi,VZ]
   refine pX (bW _ x.path[i] (by omega) ?_) ?_
   ·(try simp only[List.length_append]);omega
   simp(disch:=omega) [VZ]
   exact hP (i+1,1099511701504,_) (g - 1) _ _ (by omega) ⟨by simp only;omega, .inr rfl⟩ (by simp(disch:=omega) [VZ]) (by simp(disch:=omega) [pv hi,VZ];rfl)
  ·have hi:i=x.path.length:=by omega
   subst hi
   simp(disch:=omega) [a9,wq,List.take_length,VZ]
abbrev mY:Nat:=153
def nO:AF:=⟨3,6,[.tmp 6, .tmp 7],(.seq (.ops [.i (.lbox 3 (.s 0)), .i (.lbox 5 (.s 2)), .i (.mov 6 (.c (.val false [.nils]))), .i (.mov 7 (qb false))]) (.seq (.seq (.ops [ql 11 3 3 5 true,ql 12 5 5 5 true, .i (.call 14 226 false [(.s 11),(.s 12)]), .i (.not 14 (.s 13))]) (.cond (.s 14) (.seq (.ops [.i (.mov 6 (.c (.val false [.nils]))), .i (.mov 7 (qb false))]) .ret) .skip)) (.seq (.ops [qm 15 1,qf 16 5 0,ql 17 5 16 1 false, .i (.call 19 219 false [(.s 15),(.s 17)]),qf 19 5 1,ql 20 5 19 1 false, .i (.call 22 219 false [(.s 18),(.s 20)]),qf 22 5 2,ql 23 5 22 1 false, .i (.call 25 219 false [(.s 21),(.s 23)]),qf 25 5 3,ql 26 5 25 1 false, .i (.call 28 223 false [(.s 24),(.s 26)]),qm 8 27]) (.seq (.seq (.ops [qf 28 5 4,ql 29 5 28 1 false,qn 30 29, .i (.mov 31 (qi 0))]) (.block 0 (.loop [38,37,36,35,34,33,32,10] (.seq (.ops [qd 32 .lss 31 30]) (.seq (.cond (.s 32) .skip (.exit 0)) (.seq (.block 1 (.seq (.ops [.i (.iad 33 (.s 29) (.s 31) 1), .i (.ldh 34 (.s 33) 1 false),qm 10 34]) (.ops [qm 35 8,qm 36 10, .i (.app 37 5 1 1 (.s 35) (.s 36)),qm 8 37]))) (.ops [.i (.bin 38 .add (.s 31) (qi 1)),qm 31 38]))))))) (.seq (.ops [qm 39 8,qm 6 39, .i (.mov 7 (qb true))]) .ret)))))⟩
theorem zl:cd mY=some nO:=by kernel_rfl
theorem kT (l:ax) (b:Bytes) (x:bn) (hw:x.wc) (htx:x.tx.length≤100000000) (hb:b.length≤800000000):VC cd mY (aJ [(true,l.c),(false,[.sl (bytes b)]),(true,x.c)]) (fun rs _=>rs=a9 (fj l x) (b++wq x)):=by
 refine aa zl rfl ?_
 simp(disch:=omega) [nO,bn.c,ax.c,VY]
 refine az (zW l x hw) ?_ (ha:=by first|rfl|(simp[ax.c,bn.c,VY] <;>repeat' constructor))
 simp(disch:=omega) [VY]
 refine ak (fun h0=> ?_) (fun h0=> ?_)
 case refine_2=>simp(disch:=omega) [h0,a9,VY]
 obtain⟨n1,n2,n3,ht,hf,hp⟩:=ss h0
 have v1:=aA n1
 have v2:=aA n2
 have v3:=aA n3
 have v4:=pz (x:=x.tx) (by omega)
 simp(disch:=omega) [h0,VY]
 refine az (bu b x.height n1 (by omega)) ?_
 simp(disch:=omega) [h0,VY]
 refine az (bu (b++aV x.height.toNat) x.n n2 (by simp only[List.length_append];omega)) ?_
 simp(disch:=omega) [h0,VY]
 refine az (bu (b++(aV x.height.toNat++aV x.n.toNat)) x.idx n3 (by simp only[List.length_append];omega)) ?_
 simp(disch:=omega) [h0,VY]
 refine az (kH (b++(aV x.height.toNat++(aV x.n.toNat++aV x.idx.toNat))) x.tx (by simp only[List.length_append];omega) (by omega)) ?_
 simp(disch:=omega) [h0,aw,VY]
 refine eO (σ:=Nat×Nat) (f1:=_) (by simp(disch:=omega) [VY];rfl) (fun q=> [(31, .val false [.int .i64 (q.1:Int)]),(8, .val false [.ow 237568 q.2])]) (fun q=> [(237568, .sl q.2 true true (some (5,1)) (bytes (b++(aV x.height.toNat++(aV x.n.toNat++(aV x.idx.toNat++(lj x.tx++(x.path.take q.1).flatten)))))))]) (fun q g=>g+q.1=x.path.length) (0,15) x.path.length (by simp(disch:=omega) [VY]) (by simp(disch:=omega) [VY]) (by omega) ?_
 rintro⟨i,v⟩ n g hg P hP
 simp only at hg
 simp(disch:=omega) [VY]
 refine ab (fun h2=> ?_) (fun h2=> ?_)
 ·have hi:i < x.path.length:=by omega
  have hy:=hp _ (List.getElem_mem hi)
  have hz:=gC hp (i:=i) (by omega)
  simp(disch:=omega) [cT hi,cn,an,hz,VY]
  exact hP (i+1,_) (g - 1) _ _ (by omega) (by simp only;omega) (by simp(disch:=omega) [VY];rfl) (by simp(disch:=omega) [pv hi,VY])
 ·have hi:i=x.path.length:=by omega
  subst hi
  simp(disch:=omega) [a9,wq,List.take_length,VY]
end Go.Eng.F
namespace Go.Eng.F
structure aW where
 kind:Int
 vote:bF
 qc:Qc
 head:Head
 block:Block
 tc:Tc
 proof:Proof
 incl:bn
def aW.c (m:aW):List D:= [.int .i64 m.kind, .int .i64 m.vote.view, .int .i64 m.vote.height, .sl (bytes m.vote.block), .int .i64 m.vote.who, .sl (bytes m.vote.tag), .int .i64 m.qc.view, .int .i64 m.qc.height, .sl (bytes m.qc.block), .sl (bytes m.qc.bits), .sl (cS m.qc.tags), .int .i64 m.head.view, .int .i64 m.head.height, .int .i64 m.head.proposer, .sl (bytes m.head.parent), .sl (bytes m.head.root), .int .i64 m.head.qc.view, .int .i64 m.head.qc.height, .sl (bytes m.head.qc.block), .sl (bytes m.head.qc.bits), .sl (cS m.head.qc.tags), .int .i64 m.block.head.view, .int .i64 m.block.head.height, .int .i64 m.block.head.proposer, .sl (bytes m.block.head.parent), .sl (bytes m.block.head.root), .int .i64 m.block.head.qc.view, .int .i64 m.block.head.qc.height, .sl (bytes m.block.head.qc.block), .sl (bytes m.block.head.qc.bits), .sl (cS m.block.head.qc.tags), .sl (cS m.block.txs), .int .i64 m.tc.view, .sl (lb m.tc.entries), .sl (gD m.proof.heads), .int .i64 m.proof.qc.view, .int .i64 m.proof.qc.height, .sl (bytes m.proof.qc.block), .sl (bytes m.proof.qc.bits), .sl (cS m.proof.qc.tags), .int .i64 m.incl.height, .int .i64 m.incl.n, .int .i64 m.incl.idx, .sl (bytes m.incl.tx), .sl (cS m.incl.path)]
def Block.wx (x:Block):Prop:=x.wc∧∀t∈x.txs,t.length≤100000000
structure aW.wc (m:aW):Prop where
 kind:ma m.kind
 vote:m.vote.wf
 qc:m.qc.wc
 head:m.head.wc
 block:m.block.wx
 tc:m.tc.wf
 proof:m.proof.wc
 incl:m.incl.wc
 tx:m.incl.tx.length≤100000000
def gj:bF:=⟨0,0,[],0,[]⟩
def DV:Qc:=⟨0,0,[],[],[]⟩
def fN:Head:=⟨0,0,0,[],[],DV⟩
def d9:Block:=⟨fN,[]⟩
def FR:Tc:=⟨0,[]⟩
def eh:Proof:=⟨[],DV⟩
def gm:bn:=⟨0,0,0,[],[]⟩
def cX:aW:=⟨0,gj,DV,fN,d9,FR,eh,gm⟩
theorem ig:cX.wc:=by
 constructor <;>simp[cX,gj,DV,fN,d9,FR,eh,gm,ma,Sz,bF.wf,Qc.wc,Qc.wf,Head.wc,Head.wf,Block.wx,Block.wc,Bv,Tc.wf,Proof.wc,Proof.wf,pE,bn.wc]
def sO (a b:aW):Bool:=decide (a.kind=b.kind) && nb a.vote b.vote && rT a.qc b.qc && e9 a.head b.head && jT a.block b.block && fB a.tc b.tc && fD a.proof b.proof && nD a.incl b.incl
abbrev mM:Nat:=40
def oY:AF:=⟨2,6,[.tmp 4],(.seq (.ops [.i (.lbox 2 (.s 0)), .i (.lbox 3 (.s 1)), .i (.mov 4 (qb false))]) (.seq (.ops [qf 5 2 0,ql 6 2 5 1 false,qf 7 3 0,ql 8 3 7 1 false,qd 9 .eql 6 8,qm 10 9, .g 10 true 12 (.fad 11 (.s 2) 1), .g 10 true 13 (.ldl 12 2 (.s 11) 5 true), .g 10 true 14 (.fad 13 (.s 3) 1), .g 10 true 15 (.ldl 14 3 (.s 13) 5 true), .g 10 true 16 (.call 16 71 false [(.s 12),(.s 14)]), .i (.pick 16 (.s 10) (.s 15) (qb false)),qm 17 16, .g 17 true 19 (.fad 18 (.s 2) 6), .g 17 true 20 (.ldl 19 2 (.s 18) 5 true), .g 17 true 21 (.fad 20 (.s 3) 6), .g 17 true 22 (.ldl 21 3 (.s 20) 5 true), .g 17 true 23 (.call 23 72 false [(.s 19),(.s 21)]), .i (.pick 23 (.s 17) (.s 22) (qb false)),qm 24 23, .g 24 true 26 (.fad 25 (.s 2) 11), .g 24 true 27 (.ldl 26 2 (.s 25) 10 true), .g 24 true 28 (.fad 27 (.s 3) 11), .g 24 true 29 (.ldl 28 3 (.s 27) 10 true), .g 24 true 30 (.call 30 73 false [(.s 26),(.s 28)]), .i (.pick 30 (.s 24) (.s 29) (qb false)),qm 31 30, .g 31 true 33 (.fad 32 (.s 2) 21), .g 31 true 34 (.ldl 33 2 (.s 32) 11 true), .g 31 true 35 (.fad 34 (.s 3) 21), .g 31 true 36 (.ldl 35 3 (.s 34) 11 true), .g 31 true 37 (.call 37 74 false [(.s 33),(.s 35)]), .i (.pick 37 (.s 31) (.s 36) (qb false)),qm 38 37, .g 38 true 40 (.fad 39 (.s 2) 32), .g 38 true 41 (.ldl 40 2 (.s 39) 2 true), .g 38 true 42 (.fad 41 (.s 3) 32), .g 38 true 43 (.ldl 42 3 (.s 41) 2 true), .g 38 true 44 (.call 44 75 false [(.s 40),(.s 42)]), .i (.pick 44 (.s 38) (.s 43) (qb false)),qm 45 44, .g 45 true 47 (.fad 46 (.s 2) 34), .g 45 true 48 (.ldl 47 2 (.s 46) 6 true), .g 45 true 49 (.fad 48 (.s 3) 34), .g 45 true 50 (.ldl 49 3 (.s 48) 6 true), .g 45 true 51 (.call 51 76 false [(.s 47),(.s 49)]), .i (.pick 51 (.s 45) (.s 50) (qb false)),qm 52 51, .g 52 true 54 (.fad 53 (.s 2) 40), .g 52 true 55 (.ldl 54 2 (.s 53) 5 true), .g 52 true 56 (.fad 55 (.s 3) 40), .g 52 true 57 (.ldl 56 3 (.s 55) 5 true), .g 52 true 58 (.call 58 77 false [(.s 54),(.s 56)]), .i (.pick 58 (.s 52) (.s 57) (qb false)),qm 4 58]) .ret))⟩
theorem yD:cd mM=some oY:=by kernel_rfl
theorem cA (a b:aW) (ha:a.wc) (hb:b.wc):VC cd mM (aJ [(true,a.c),(true,b.c)]) (fun rs _=>rs=bl (sO a b)):=by
 refine aa yD rfl ?_
 simp(disch:=omega) [oY,aW.c,VY]
 refine ab (fun h1=> ?_) (fun h1=> ?_) <;>simp(disch:=omega) [h1,sO,VY]
 refine az (vJ a.vote b.vote) ?_ (ha:=by first|rfl|(simp[bF.c,VY] <;>repeat' constructor))
 simp(disch:=omega) [h1,VY]
 refine ak (fun h2=> ?_) (fun h2=> ?_) <;>simp(disch:=omega) [h1,h2,VY]
 refine az (gJ a.qc b.qc ha.qc.1 hb.qc.1) ?_ (ha:=by first|rfl|(simp[Qc.c,VY] <;>repeat' constructor))
 simp(disch:=omega) [h1,h2,VY]
 refine ak (fun h3=> ?_) (fun h3=> ?_) <;>simp(disch:=omega) [h1,h2,h3,VY]
 refine az (fk a.head b.head ha.head.1 hb.head.1) ?_ (ha:=by first|rfl|(simp[Head.c,VY] <;>repeat' constructor))
 simp(disch:=omega) [h1,h2,h3,VY]
 refine ak (fun h4=> ?_) (fun h4=> ?_) <;>simp(disch:=omega) [h1,h2,h3,h4,VY]
 refine az (tN a.block b.block ha.block.1 hb.block.1) ?_ (ha:=by first|rfl|(simp[Block.c,Head.c,VY] <;>repeat' constructor))
 simp(disch:=omega) [h1,h2,h3,h4,VY]
 refine ak (fun h5=> ?_) (fun h5=> ?_) <;>simp(disch:=omega) [h1,h2,h3,h4,h5,VY]
 refine az (yP a.tc b.tc ha.tc hb.tc) ?_ (ha:=by first|rfl|(simp[Tc.c,VY] <;>repeat' constructor))
 simp(disch:=omega) [h1,h2,h3,h4,h5,VY]
 refine ak (fun h6=> ?_) (fun h6=> ?_) <;>simp(disch:=omega) [h1,h2,h3,h4,h5,h6,VY]
 refine az (tC a.proof b.proof ha.proof.1 hb.proof.1) ?_ (ha:=by first|rfl|(simp[Proof.c,VY] <;>repeat' constructor))
 simp(disch:=omega) [h1,h2,h3,h4,h5,h6,VY]
 refine ak (fun h7=> ?_) (fun h7=> ?_) <;>simp(disch:=omega) [h1,h2,h3,h4,h5,h6,h7,VY]
 refine az (uV a.incl b.incl ha.incl hb.incl) ?_ (ha:=by first|rfl|(simp[bn.c,VY] <;>repeat' constructor))
 simp(disch:=omega) [h1,h2,h3,h4,h5,h6,h7,VY]
abbrev mF:Nat:=145
def mV:AF:=⟨2,6,[.tmp 4],(.seq (.ops [.i (.lbox 2 (.s 0)), .i (.lbox 3 (.s 1)), .i (.mov 4 (qb false))]) (.seq (.ops [qf 5 2 0,ql 6 2 5 1 false,qf 7 3 0,ql 8 3 7 1 false,qd 9 .eql 6 8,qm 10 9, .g 10 true 12 (.fad 11 (.s 2) 1), .g 10 true 13 (.ldl 12 2 (.s 11) 5 true), .g 10 true 14 (.fad 13 (.s 3) 1), .g 10 true 15 (.ldl 14 3 (.s 13) 5 true), .g 10 true 16 (.call 16 211 false [(.s 12),(.s 14)]), .i (.pick 16 (.s 10) (.s 15) (qb false)),qm 17 16, .g 17 true 19 (.fad 18 (.s 2) 6), .g 17 true 20 (.ldl 19 2 (.s 18) 5 true), .g 17 true 21 (.fad 20 (.s 3) 6), .g 17 true 22 (.ldl 21 3 (.s 20) 5 true), .g 17 true 23 (.call 23 212 false [(.s 19),(.s 21)]), .i (.pick 23 (.s 17) (.s 22) (qb false)),qm 24 23, .g 24 true 26 (.fad 25 (.s 2) 11), .g 24 true 27 (.ldl 26 2 (.s 25) 10 true), .g 24 true 28 (.fad 27 (.s 3) 11), .g 24 true 29 (.ldl 28 3 (.s 27) 10 true), .g 24 true 30 (.call 30 213 false [(.s 26),(.s 28)]), .i (.pick 30 (.s 24) (.s 29) (qb false)),qm 31 30, .g 31 true 33 (.fad 32 (.s 2) 21), .g 31 true 34 (.ldl 33 2 (.s 32) 11 true), .g 31 true 35 (.fad 34 (.s 3) 21), .g 31 true 36 (.ldl 35 3 (.s 34) 11 true), .g 31 true 37 (.call 37 214 false [(.s 33),(.s 35)]), .i (.pick 37 (.s 31) (.s 36) (qb false)),qm 38 37, .g 38 true 40 (.fad 39 (.s 2) 32), .g 38 true 41 (.ldl 40 2 (.s 39) 2 true), .g 38 true 42 (.fad 41 (.s 3) 32), .g 38 true 43 (.ldl 42 3 (.s 41) 2 true), .g 38 true 44 (.call 44 215 false [(.s 40),(.s 42)]), .i (.pick 44 (.s 38) (.s 43) (qb false)),qm 45 44, .g 45 true 47 (.fad 46 (.s 2) 34), .g 45 true 48 (.ldl 47 2 (.s 46) 6 true), .g 45 true 49 (.fad 48 (.s 3) 34), .g 45 true 50 (.ldl 49 3 (.s 48) 6 true), .g 45 true 51 (.call 51 216 false [(.s 47),(.s 49)]), .i (.pick 51 (.s 45) (.s 50) (qb false)),qm 52 51, .g 52 true 54 (.fad 53 (.s 2) 40), .g 52 true 55 (.ldl 54 2 (.s 53) 5 true), .g 52 true 56 (.fad 55 (.s 3) 40), .g 52 true 57 (.ldl 56 3 (.s 55) 5 true), .g 52 true 58 (.call 58 217 false [(.s 54),(.s 56)]), .i (.pick 58 (.s 52) (.s 57) (qb false)),qm 4 58]) .ret))⟩
theorem zn:cd mF=some mV:=by kernel_rfl
theorem cw (a b:aW) (ha:a.wc) (hb:b.wc):VC cd mF (aJ [(true,a.c),(true,b.c)]) (fun rs _=>rs=bl (sO a b)):=by
 refine aa zn rfl ?_
 simp(disch:=omega) [mV,aW.c,VY]
 refine ab (fun h1=> ?_) (fun h1=> ?_) <;>simp(disch:=omega) [h1,sO,VY]
 refine az (vA a.vote b.vote) ?_ (ha:=by first|rfl|(simp[bF.c,VY] <;>repeat' constructor))
 simp(disch:=omega) [h1,VY]
 refine ak (fun h2=> ?_) (fun h2=> ?_) <;>simp(disch:=omega) [h1,h2,VY]
 refine az (hZ a.qc b.qc ha.qc.1 hb.qc.1) ?_ (ha:=by first|rfl|(simp[Qc.c,VY] <;>repeat' constructor))
 simp(disch:=omega) [h1,h2,VY]
 refine ak (fun h3=> ?_) (fun h3=> ?_) <;>simp(disch:=omega) [h1,h2,h3,VY]
 refine az (fx a.head b.head ha.head.1 hb.head.1) ?_ (ha:=by first|rfl|(simp[Head.c,VY] <;>repeat' constructor))
 simp(disch:=omega) [h1,h2,h3,VY]
 refine ak (fun h4=> ?_) (fun h4=> ?_) <;>simp(disch:=omega) [h1,h2,h3,h4,VY]
 refine az (tp a.block b.block ha.block.1 hb.block.1) ?_ (ha:=by first|rfl|(simp[Block.c,Head.c,VY] <;>repeat' constructor))
 simp(disch:=omega) [h1,h2,h3,h4,VY]
 refine ak (fun h5=> ?_) (fun h5=> ?_) <;>simp(disch:=omega) [h1,h2,h3,h4,h5,VY]
 refine az (yw a.tc b.tc ha.tc hb.tc) ?_ (ha:=by first|rfl|(simp[Tc.c,VY] <;>repeat' constructor))
 simp(disch:=omega) [h1,h2,h3,h4,h5,VY]
 refine ak (fun h6=> ?_) (fun h6=> ?_) <;>simp(disch:=omega) [h1,h2,h3,h4,h5,h6,VY]
 refine az (sZ a.proof b.proof ha.proof.1 hb.proof.1) ?_ (ha:=by first|rfl|(simp[Proof.c,VY] <;>repeat' constructor))
 simp(disch:=omega) [h1,h2,h3,h4,h5,h6,VY]
 refine ak (fun h7=> ?_) (fun h7=> ?_) <;>simp(disch:=omega) [h1,h2,h3,h4,h5,h6,h7,VY]
 refine az (vz a.incl b.incl ha.incl hb.incl) ?_ (ha:=by first|rfl|(simp[bn.c,VY] <;>repeat' constructor))
 simp(disch:=omega) [h1,h2,h3,h4,h5,h6,h7,VY]
def fK (x:bF):List (Bool×List E):= [(true,[.p (.int .i64 1), .p (.int .i64 x.view), .p (.int .i64 x.height), .o true (some (5,1)) (bytes x.block), .p (.int .i64 x.who), .o true (some (5,1)) (bytes x.tag), .p (.int .i64 0), .p (.int .i64 0), .p .nils, .p .nils, .p .nils, .p (.int .i64 0), .p (.int .i64 0), .p (.int .i64 0), .p .nils, .p .nils, .p (.int .i64 0), .p (.int .i64 0), .p .nils, .p .nils, .p .nils, .p (.int .i64 0), .p (.int .i64 0), .p (.int .i64 0), .p .nils, .p .nils, .p (.int .i64 0), .p (.int .i64 0), .p .nils, .p .nils, .p .nils, .p .nils, .p (.int .i64 0), .p .nils, .p .nils, .p (.int .i64 0), .p (.int .i64 0), .p .nils, .p .nils, .p .nils, .p (.int .i64 0), .p (.int .i64 0), .p (.int .i64 0), .p .nils, .p .nils])]
def rD (x:Qc):List (Bool×List E):= [(true,[.p (.int .i64 2), .p (.int .i64 0), .p (.int .i64 0), .p .nils, .p (.int .i64 0), .p .nils, .p (.int .i64 x.view), .p (.int .i64 x.height), .o true (some (5,1)) (bytes x.block), .o true (some (5,1)) (bytes x.bits), .o true (some (24,1)) (cS x.tags), .p (.int .i64 0), .p (.int .i64 0), .p (.int .i64 0), .p .nils, .p .nils, .p (.int .i64 0), .p (.int .i64 0), .p .nils, .p .nils, .p .nils, .p (.int .i64 0), .p (.int .i64 0), .p (.int .i64 0), .p .nils, .p .nils, .p (.int .i64 0), .p (.int .i64 0), .p .nils, .p .nils, .p .nils, .p .nils, .p (.int .i64 0), .p .nils, .p .nils, .p (.int .i64 0), .p (.int .i64 0), .p .nils, .p .nils, .p .nils, .p (.int .i64 0), .p (.int .i64 0), .p (.int .i64 0), .p .nils, .p .nils])]
def fI (x:Head):List (Bool×List E):= [(true,[.p (.int .i64 3), .p (.int .i64 0), .p (.int .i64 0), .p .nils, .p (.int .i64 0), .p .nils, .p (.int .i64 0), .p (.int .i64 0), .p .nils, .p .nils, .p .nils, .p (.int .i64 x.view), .p (.int .i64 x.height), .p (.int .i64 x.proposer), .o true (some (5,1)) (bytes x.parent), .o true (some (5,1)) (bytes x.root), .p (.int .i64 x.qc.view), .p (.int .i64 x.qc.height), .o true (some (5,1)) (bytes x.qc.block), .o true (some (5,1)) (bytes x.qc.bits), .o true (some (24,1)) (cS x.qc.tags), .p (.int .i64 0), .p (.int .i64 0), .p (.int .i64 0), .p .nils, .p .nils, .p (.int .i64 0), .p (.int .i64 0), .p .nils, .p .nils, .p .nils, .p .nils, .p (.int .i64 0), .p .nils, .p .nils, .p (.int .i64 0), .p (.int .i64 0), .p .nils, .p .nils, .p .nils, .p (.int .i64 0), .p (.int .i64 0), .p (.int .i64 0), .p .nils, .p .nils])]
def fH (x:bn):List (Bool×List E):= [(true,[.p (.int .i64 7), .p (.int .i64 0), .p (.int .i64 0), .p .nils, .p (.int .i64 0), .p .nils, .p (.int .i64 0), .p (.int .i64 0), .p .nils, .p .nils, .p .nils, .p (.int .i64 0), .p (.int .i64 0), .p (.int .i64 0), .p .nils, .p .nils, .p (.int .i64 0), .p (.int .i64 0), .p .nils, .p .nils, .p .nils, .p (.int .i64 0), .p (.int .i64 0), .p (.int .i64 0), .p .nils, .p .nils, .p (.int .i64 0), .p (.int .i64 0), .p .nils, .p .nils, .p .nils, .p .nils, .p (.int .i64 0), .p .nils, .p .nils, .p (.int .i64 0), .p (.int .i64 0), .p .nils, .p .nils, .p .nils, .p (.int .i64 x.height), .p (.int .i64 x.n), .p (.int .i64 x.idx), .o true (some (5,1)) (bytes x.tx), .o true (some (24,1)) (cS x.path)])]
abbrev qv:Nat:=228
def qw:AF:=⟨1,4,[.cell 2 45 true],(.seq (.ops [.i (.lbox 1 (.s 0)), .i (.lal 2 [.int .i64 0, .int .i64 0, .int .i64 0, .nils, .int .i64 0, .nils, .int .i64 0, .int .i64 0, .nils, .nils, .nils, .int .i64 0, .int .i64 0, .int .i64 0, .nils, .nils, .int .i64 0, .int .i64 0, .nils, .nils, .nils, .int .i64 0, .int .i64 0, .int .i64 0, .nils, .nils, .int .i64 0, .int .i64 0, .nils, .nils, .nils, .nils, .int .i64 0, .nils, .nils, .int .i64 0, .int .i64 0, .nils, .nils, .nils, .int .i64 0, .int .i64 0, .int .i64 0, .nils, .nils])]) (.seq (.ops [qf 3 1 2,ql 4 1 3 1 false,qk 6 47 4,qf 6 1 4,ql 7 1 6 1 false,qk 9 47 7,qf 9 1 2,qs 1 9 5 1,qf 10 1 4,qs 1 10 8 1]) (.seq (.ops [ql 11 1 1 5 true, .i (.bld 12 [.int .i64 0, .int .i64 0, .int .i64 0, .nils, .int .i64 0, .nils, .int .i64 0, .int .i64 0, .nils, .nils, .nils, .int .i64 0, .int .i64 0, .int .i64 0, .nils, .nils, .int .i64 0, .int .i64 0, .nils, .nils, .nils, .int .i64 0, .int .i64 0, .int .i64 0, .nils, .nils, .int .i64 0, .int .i64 0, .nils, .nils, .nils, .nils, .int .i64 0, .nils, .nils, .int .i64 0, .int .i64 0, .nils, .nils, .nils, .int .i64 0, .int .i64 0, .int .i64 0, .nils, .nils] [(0,1,(qi 1)),(1,5,(.s 11))]),qs 2 2 12 45]) .ret)))⟩
theorem Ar:cd qv=some qw:=by kernel_rfl
theorem zM (x:bF) (hw:x.wf):VC cd qv (aJ [(true,x.c)]) (fun rs _=>rs=fK x):=by
 have w1:=hw.2.2.1
 have w2:=hw.2.2.2.2
 simp only[Sz]at w1 w2
 refine aa Ar rfl ?_
 simp(disch:=omega) [qw,bF.c,VY]
 refine az (aH x.block (by omega)) ?_
 simp(disch:=omega) [VY]
 refine az (aH x.tag (by omega)) ?_
 simp(disch:=omega) [fK,VY]
abbrev qh:Nat:=115
def qo:AF:=⟨1,4,[.cell 2 45 true],(.seq (.ops [.i (.lbox 1 (.s 0)), .i (.lal 2 [.int .i64 0, .int .i64 0, .int .i64 0, .nils, .int .i64 0, .nils, .int .i64 0, .int .i64 0, .nils, .nils, .nils, .int .i64 0, .int .i64 0, .int .i64 0, .nils, .nils, .int .i64 0, .int .i64 0, .nils, .nils, .nils, .int .i64 0, .int .i64 0, .int .i64 0, .nils, .nils, .int .i64 0, .int .i64 0, .nils, .nils, .nils, .nils, .int .i64 0, .nils, .nils, .int .i64 0, .int .i64 0, .nils, .nils, .nils, .int .i64 0, .int .i64 0, .int .i64 0, .nils, .nils])]) (.seq (.ops [qf 3 1 2,ql 4 1 3 1 false,qk 6 43 4,qf 6 1 2,qs 1 6 5 1]) (.seq (.ops [qf 7 1 4,ql 8 1 7 1 false,qk 10 43 8,qf 10 1 4,qs 1 10 9 1]) (.seq (.ops [ql 11 1 1 5 true, .i (.bld 12 [.int .i64 0, .int .i64 0, .int .i64 0, .nils, .int .i64 0, .nils, .int .i64 0, .int .i64 0, .nils, .nils, .nils, .int .i64 0, .int .i64 0, .int .i64 0, .nils, .nils, .int .i64 0, .int .i64 0, .nils, .nils, .nils, .int .i64 0, .int .i64 0, .int .i64 0, .nils, .nils, .int .i64 0, .int .i64 0, .nils, .nils, .nils, .nils, .int .i64 0, .nils, .nils, .int .i64 0, .int .i64 0, .nils, .nils, .nils, .int .i64 0, .int .i64 0, .int .i64 0, .nils, .nils] [(0,1,(qi 1)),(1,5,(.s 11))]),qs 2 2 12 45]) .ret))))⟩
theorem Ax:cd qh=some qo:=by kernel_rfl
theorem yA (x:bF) (hw:x.wf):VC cd qh (aJ [(true,x.c)]) (fun rs _=>rs=fK x):=by
 have w1:=hw.2.2.1
 have w2:=hw.2.2.2.2
 simp only[Sz]at w1 w2
 refine aa Ax rfl ?_
 simp(disch:=omega) [qo,bF.c,VY]
 refine az (cv x.block (by omega)) ?_
 simp(disch:=omega) [VY]
 refine az (cv x.tag (by omega)) ?_
 simp(disch:=omega) [fK,VY]
abbrev vN:Nat:=229
def vY:AF:=⟨1,3,[.cell 2 45 true],(.seq (.ops [.i (.lbox 1 (.s 0)), .i (.lal 2 [.int .i64 0, .int .i64 0, .int .i64 0, .nils, .int .i64 0, .nils, .int .i64 0, .int .i64 0, .nils, .nils, .nils, .int .i64 0, .int .i64 0, .int .i64 0, .nils, .nils, .int .i64 0, .int .i64 0, .nils, .nils, .nils, .int .i64 0, .int .i64 0, .int .i64 0, .nils, .nils, .int .i64 0, .int .i64 0, .nils, .nils, .nils, .nils, .int .i64 0, .nils, .nils, .int .i64 0, .int .i64 0, .nils, .nils, .nils, .int .i64 0, .int .i64 0, .int .i64 0, .nils, .nils])]) (.seq (.ops [ql 3 1 1 5 true,qk 5 289 3, .i (.bld 5 [.int .i64 0, .int .i64 0, .int .i64 0, .nils, .int .i64 0, .nils, .int .i64 0, .int .i64 0, .nils, .nils, .nils, .int .i64 0, .int .i64 0, .int .i64 0, .nils, .nils, .int .i64 0, .int .i64 0, .nils, .nils, .nils, .int .i64 0, .int .i64 0, .int .i64 0, .nils, .nils, .int .i64 0, .int .i64 0, .nils, .nils, .nils, .nils, .int .i64 0, .nils, .nils, .int .i64 0, .int .i64 0, .nils, .nils, .nils, .int .i64 0, .int .i64 0, .int .i64 0, .nils, .nils] [(0,1,(qi 2)),(6,5,(.s 4))]),qs 2 2 5 45]) .ret))⟩
theorem EG:cd vN=some vY:=by kernel_rfl
theorem DE (x:Qc) (hw:x.wc):VC cd vN (aJ [(true,x.c)]) (fun rs _=>rs=rD x):=by
 refine aa EG rfl ?_
 simp(disch:=omega) [vY,Qc.c,VY]
 refine az (kn x hw) ?_ (ha:=by first|rfl|(simp[Qc.c,VY] <;>repeat' constructor))
 simp(disch:=omega) [rD,Qc.o,VY]
abbrev wm:Nat:=168
def wh:AF:=⟨1,3,[.cell 2 45 true],(.seq (.ops [.i (.lbox 1 (.s 0)), .i (.lal 2 [.int .i64 0, .int .i64 0, .int .i64 0, .nils, .int .i64 0, .nils, .int .i64 0, .int .i64 0, .nils, .nils, .nils, .int .i64 0, .int .i64 0, .int .i64 0, .nils, .nils, .int .i64 0, .int .i64 0, .nils, .nils, .nils, .int .i64 0, .int .i64 0, .int .i64 0, .nils, .nils, .int .i64 0, .int .i64 0, .nils, .nils, .nils, .nils, .int .i64 0, .nils, .nils, .int .i64 0, .int .i64 0, .nils, .nils, .nils, .int .i64 0, .int .i64 0, .int .i64 0, .nils, .nils])]) (.seq (.ops [ql 3 1 1 5 true,qk 5 250 3, .i (.bld 5 [.int .i64 0, .int .i64 0, .int .i64 0, .nils, .int .i64 0, .nils, .int .i64 0, .int .i64 0, .nils, .nils, .nils, .int .i64 0, .int .i64 0, .int .i64 0, .nils, .nils, .int .i64 0, .int .i64 0, .nils, .nils, .nils, .int .i64 0, .int .i64 0, .int .i64 0, .nils, .nils, .int .i64 0, .int .i64 0, .nils, .nils, .nils, .nils, .int .i64 0, .nils, .nils, .int .i64 0, .int .i64 0, .nils, .nils, .nils, .int .i64 0, .int .i64 0, .int .i64 0, .nils, .nils] [(0,1,(qi 2)),(6,5,(.s 4))]),qs 2 2 5 45]) .ret))⟩
theorem DY:cd wm=some wh:=by kernel_rfl
theorem Db (x:Qc) (hw:x.wc):VC cd wm (aJ [(true,x.c)]) (fun rs _=>rs=rD x):=by
 refine aa DY rfl ?_
 simp(disch:=omega) [wh,Qc.c,VY]
 refine az (sx x hw) ?_ (ha:=by first|rfl|(simp[Qc.c,VY] <;>repeat' constructor))
 simp(disch:=omega) [rD,Qc.o,VY]
abbrev qg:Nat:=230
def rj:AF:=⟨1,3,[.cell 2 45 true],(.seq (.ops [.i (.lbox 1 (.s 0)), .i (.lal 2 [.int .i64 0, .int .i64 0, .int .i64 0, .nils, .int .i64 0, .nils, .int .i64 0, .int .i64 0, .nils, .nils, .nils, .int .i64 0, .int .i64 0, .int .i64 0, .nils, .nils, .int .i64 0, .int .i64 0, .nils, .nils, .nils, .int .i64 0, .int .i64 0, .int .i64 0, .nils, .nils, .int .i64 0, .int .i64 0, .nils, .nils, .nils, .nils, .int .i64 0, .nils, .nils, .int .i64 0, .int .i64 0, .nils, .nils, .nils, .int .i64 0, .int .i64 0, .int .i64 0, .nils, .nils])]) (.seq (.ops [ql 3 1 1 10 true,qk 5 290 3, .i (.bld 5 [.int .i64 0, .int .i64 0, .int .i64 0, .nils, .int .i64 0, .nils, .int .i64 0, .int .i64 0, .nils, .nils, .nils, .int .i64 0, .int .i64 0, .int .i64 0, .nils, .nils, .int .i64 0, .int .i64 0, .nils, .nils, .nils, .int .i64 0, .int .i64 0, .int .i64 0, .nils, .nils, .int .i64 0, .int .i64 0, .nils, .nils, .nils, .nils, .int .i64 0, .nils, .nils, .int .i64 0, .int .i64 0, .nils, .nils, .nils, .int .i64 0, .int .i64 0, .int .i64 0, .nils, .nils] [(0,1,(qi 3)),(11,10,(.s 4))]),qs 2 2 5 45]) .ret))⟩
theorem Bg:cd qg=some rj:=by kernel_rfl
theorem zB (x:Head) (hw:x.wc):VC cd qg (aJ [(true,x.c)]) (fun rs _=>rs=fI x):=by
 refine aa Bg rfl ?_
 simp(disch:=omega) [rj,Head.c,VY]
 refine az (hX x hw) ?_ (ha:=by first|rfl|(simp[Head.c,VY] <;>repeat' constructor))
 simp(disch:=omega) [fI,Head.o,VY]
abbrev qY:Nat:=170
def qL:AF:=⟨1,3,[.cell 2 45 true],(.seq (.ops [.i (.lbox 1 (.s 0)), .i (.lal 2 [.int .i64 0, .int .i64 0, .int .i64 0, .nils, .int .i64 0, .nils, .int .i64 0, .int .i64 0, .nils, .nils, .nils, .int .i64 0, .int .i64 0, .int .i64 0, .nils, .nils, .int .i64 0, .int .i64 0, .nils, .nils, .nils, .int .i64 0, .int .i64 0, .int .i64 0, .nils, .nils, .int .i64 0, .int .i64 0, .nils, .nils, .nils, .nils, .int .i64 0, .nils, .nils, .int .i64 0, .int .i64 0, .nils, .nils, .nils, .int .i64 0, .int .i64 0, .int .i64 0, .nils, .nils])]) (.seq (.ops [ql 3 1 1 10 true,qk 5 252 3, .i (.bld 5 [.int .i64 0, .int .i64 0, .int .i64 0, .nils, .int .i64 0, .nils, .int .i64 0, .int .i64 0, .nils, .nils, .nils, .int .i64 0, .int .i64 0, .int .i64 0, .nils, .nils, .int .i64 0, .int .i64 0, .nils, .nils, .nils, .int .i64 0, .int .i64 0, .int .i64 0, .nils, .nils, .int .i64 0, .int .i64 0, .nils, .nils, .nils, .nils, .int .i64 0, .nils, .nils, .int .i64 0, .int .i64 0, .nils, .nils, .nils, .int .i64 0, .int .i64 0, .int .i64 0, .nils, .nils] [(0,1,(qi 3)),(11,10,(.s 4))]),qs 2 2 5 45]) .ret))⟩
theorem Ay:cd qY=some qL:=by kernel_rfl
theorem yv (x:Head) (hw:x.wc):VC cd qY (aJ [(true,x.c)]) (fun rs _=>rs=fI x):=by
 refine aa Ay rfl ?_
 simp(disch:=omega) [qL,Head.c,VY]
 refine az (so x hw) ?_ (ha:=by first|rfl|(simp[Head.c,VY] <;>repeat' constructor))
 simp(disch:=omega) [fI,Head.o,VY]
abbrev rF:Nat:=234
def rz:AF:=⟨1,3,[.cell 2 45 true],(.seq (.ops [.i (.lbox 1 (.s 0)), .i (.lal 2 [.int .i64 0, .int .i64 0, .int .i64 0, .nils, .int .i64 0, .nils, .int .i64 0, .int .i64 0, .nils, .nils, .nils, .int .i64 0, .int .i64 0, .int .i64 0, .nils, .nils, .int .i64 0, .int .i64 0, .nils, .nils, .nils, .int .i64 0, .int .i64 0, .int .i64 0, .nils, .nils, .int .i64 0, .int .i64 0, .nils, .nils, .nils, .nils, .int .i64 0, .nils, .nils, .int .i64 0, .int .i64 0, .nils, .nils, .nils, .int .i64 0, .int .i64 0, .int .i64 0, .nils, .nils])]) (.seq (.ops [ql 3 1 1 5 true,qk 5 294 3, .i (.bld 5 [.int .i64 0, .int .i64 0, .int .i64 0, .nils, .int .i64 0, .nils, .int .i64 0, .int .i64 0, .nils, .nils, .nils, .int .i64 0, .int .i64 0, .int .i64 0, .nils, .nils, .int .i64 0, .int .i64 0, .nils, .nils, .nils, .int .i64 0, .int .i64 0, .int .i64 0, .nils, .nils, .int .i64 0, .int .i64 0, .nils, .nils, .nils, .nils, .int .i64 0, .nils, .nils, .int .i64 0, .int .i64 0, .nils, .nils, .nils, .int .i64 0, .int .i64 0, .int .i64 0, .nils, .nils] [(0,1,(qi 7)),(40,5,(.s 4))]),qs 2 2 5 45]) .ret))⟩
theorem AW:cd rF=some rz:=by kernel_rfl
theorem yY (x:bn) (hw:x.wc):VC cd rF (aJ [(true,x.c)]) (fun rs _=>rs=fH x):=by
 refine aa AW rfl ?_
 simp(disch:=omega) [rz,bn.c,VY]
 refine az (yL x hw) ?_ (ha:=by first|rfl|(simp[bn.c,VY] <;>repeat' constructor))
 simp(disch:=omega) [fH,bn.o,VY]
abbrev qF:Nat:=178
def rH:AF:=⟨1,3,[.cell 2 45 true],(.seq (.ops [.i (.lbox 1 (.s 0)), .i (.lal 2 [.int .i64 0, .int .i64 0, .int .i64 0, .nils, .int .i64 0, .nils, .int .i64 0, .int .i64 0, .nils, .nils, .nils, .int .i64 0, .int .i64 0, .int .i64 0, .nils, .nils, .int .i64 0, .int .i64 0, .nils, .nils, .nils, .int .i64 0, .int .i64 0, .int .i64 0, .nils, .nils, .int .i64 0, .int .i64 0, .nils, .nils, .nils, .nils, .int .i64 0, .nils, .nils, .int .i64 0, .int .i64 0, .nils, .nils, .nils, .int .i64 0, .int .i64 0, .int .i64 0, .nils, .nils])]) (.seq (.ops [ql 3 1 1 5 true,qk 5 261 3, .i (.bld 5 [.int .i64 0, .int .i64 0, .int .i64 0, .nils, .int .i64 0, .nils, .int .i64 0, .int .i64 0, .nils, .nils, .nils, .int .i64 0, .int .i64 0, .int .i64 0, .nils, .nils, .int .i64 0, .int .i64 0, .nils, .nils, .nils, .int .i64 0, .int .i64 0, .int .i64 0, .nils, .nils, .int .i64 0, .int .i64 0, .nils, .nils, .nils, .nils, .int .i64 0, .nils, .nils, .int .i64 0, .int .i64 0, .nils, .nils, .nils, .int .i64 0, .int .i64 0, .int .i64 0, .nils, .nils] [(0,1,(qi 7)),(40,5,(.s 4))]),qs 2 2 5 45]) .ret))⟩
theorem Bh:cd qF=some rH:=by kernel_rfl
theorem Ak (x:bn) (hw:x.wc):VC cd qF (aJ [(true,x.c)]) (fun rs _=>rs=fH x):=by
 refine aa Bh rfl ?_
 simp(disch:=omega) [rH,bn.c,VY]
 refine az (GA x hw) ?_ (ha:=by first|rfl|(simp[bn.c,VY] <;>repeat' constructor))
 simp(disch:=omega) [fH,bn.o,VY]
abbrev bz:Nat:=157
def bA:AF:=⟨1,6,[.cell 2 45 true],(.seq (.ops [.i (.lbox 1 (.s 0)), .i (.lal 2 [.int .i64 0, .int .i64 0, .int .i64 0, .nils, .int .i64 0, .nils, .int .i64 0, .int .i64 0, .nils, .nils, .nils, .int .i64 0, .int .i64 0, .int .i64 0, .nils, .nils, .int .i64 0, .int .i64 0, .nils, .nils, .nils, .int .i64 0, .int .i64 0, .int .i64 0, .nils, .nils, .int .i64 0, .int .i64 0, .nils, .nils, .nils, .nils, .int .i64 0, .nils, .nils, .int .i64 0, .int .i64 0, .nils, .nils, .nils, .int .i64 0, .int .i64 0, .int .i64 0, .nils, .nils])]) (.seq (.seq (.ops [qf 3 1 0,ql 4 1 3 1 false]) (.block 0 (.seq (.ops [.i (.bin 6 .eql (.s 4) (qi 1)),qm 5 6]) (.cond (.s 5) (.seq (.ops [qf 7 1 1,ql 8 1 7 5 true,qk 10 228 8,qs 2 2 9 45]) .ret) (.seq (.ops [.i (.bin 11 .eql (.s 4) (qi 2)),qm 10 11]) (.cond (.s 10) (.seq (.ops [qf 12 1 6,ql 13 1 12 5 true,qk 15 229 13,qs 2 2 14 45]) .ret) (.seq (.ops [.i (.bin 16 .eql (.s 4) (qi 3)),qm 15 16]) (.cond (.s 15) (.seq (.ops [qf 17 1 11,ql 18 1 17 10 true,qk 20 230 18,qs 2 2 19 45]) .ret) (.seq (.ops [.i (.bin 21 .eql (.s 4) (qi 4)),qm 20 21]) (.cond (.s 20) (.seq (.ops [qf 22 1 21,ql 23 1 22 11 true,qk 25 231 23,qs 2 2 24 45]) .ret) (.seq (.ops [.i (.bin 26 .eql (.s 4) (qi 5)),qm 25 26]) (.cond (.s 25) (.seq (.ops [qf 27 1 32,ql 28 1 27 2 true,qk 30 232 28,qs 2 2 29 45]) .ret) (.seq (.ops [.i (.bin 31 .eql (.s 4) (qi 6)),qm 30 31]) (.cond (.s 30) (.seq (.ops [qf 32 1 34,ql 33 1 32 6 true,qk 35 233 33,qs 2 2 34 45]) .ret) (.seq (.ops [.i (.bin 36 .eql (.s 4) (qi 7)),qm 35 36]) (.cond (.s 35) (.seq (.ops [qf 37 1 40,ql 38 1 37 5 true,qk 40 234 38,qs 2 2 39 45]) .ret) .skip)))))))))))))))) (.seq (.ops [.i (.bld 40 [.int .i64 0, .int .i64 0, .int .i64 0, .nils, .int .i64 0, .nils, .int .i64 0, .int .i64 0, .nils, .nils, .nils, .int .i64 0, .int .i64 0, .int .i64 0, .nils, .nils, .int .i64 0, .int .i64 0, .nils, .nils, .nils, .int .i64 0, .int .i64 0, .int .i64 0, .nils, .nils, .int .i64 0, .int .i64 0, .nils, .nils, .nils, .nils, .int .i64 0, .nils, .nils, .int .i64 0, .int .i64 0, .nils, .nils, .nils, .int .i64 0, .int .i64 0, .int .i64 0, .nils, .nils] []),qs 2 2 40 45]) .ret)))⟩
theorem bP:cd bz=some bA:=by kernel_rfl
theorem CM (m:aW) (hw:m.wc) (hk:m.kind=1):VC cd bz (aJ [(true,m.c)]) (fun rs _=>rs=fK m.vote):=by
 refine aa bP rfl ?_
 simp(disch:=omega) [bA,aW.c,hk,VY]
 refine az (zM m.vote hw.vote) ?_ (ha:=by first|rfl|(simp[bF.c,VY] <;>repeat' constructor))
 simp(disch:=omega) [fK,VY]
abbrev cg:Nat:=146
def b9:AF:=⟨1,6,[.cell 2 45 true],(.seq (.ops [.i (.lbox 1 (.s 0)), .i (.lal 2 [.int .i64 0, .int .i64 0, .int .i64 0, .nils, .int .i64 0, .nils, .int .i64 0, .int .i64 0, .nils, .nils, .nils, .int .i64 0, .int .i64 0, .int .i64 0, .nils, .nils, .int .i64 0, .int .i64 0, .nils, .nils, .nils, .int .i64 0, .int .i64 0, .int .i64 0, .nils, .nils, .int .i64 0, .int .i64 0, .nils, .nils, .nils, .nils, .int .i64 0, .nils, .nils, .int .i64 0, .int .i64 0, .nils, .nils, .nils, .int .i64 0, .int .i64 0, .int .i64 0, .nils, .nils])]) (.seq (.seq (.ops [qf 3 1 0,ql 4 1 3 1 false]) (.block 0 (.seq (.ops [.i (.bin 6 .eql (.s 4) (qi 1)),qm 5 6]) (.cond (.s 5) (.seq (.ops [qf 7 1 1,ql 8 1 7 5 true,qk 10 115 8,qs 2 2 9 45]) .ret) (.seq (.ops [.i (.bin 11 .eql (.s 4) (qi 2)),qm 10 11]) (.cond (.s 10) (.seq (.ops [qf 12 1 6,ql 13 1 12 5 true,qk 15 168 13,qs 2 2 14 45]) .ret) (.seq (.ops [.i (.bin 16 .eql (.s 4) (qi 3)),qm 15 16]) (.cond (.s 15) (.seq (.ops [qf 17 1 11,ql 18 1 17 10 true,qk 20 170 18,qs 2 2 19 45]) .ret) (.seq (.ops [.i (.bin 21 .eql (.s 4) (qi 4)),qm 20 21]) (.cond (.s 20) (.seq (.ops [qf 22 1 21,ql 23 1 22 11 true,qk 25 172 23,qs 2 2 24 45]) .ret) (.seq (.ops [.i (.bin 26 .eql (.s 4) (qi 5)),qm 25 26]) (.cond (.s 25) (.seq (.ops [qf 27 1 32,ql 28 1 27 2 true,qk 30 174 28,qs 2 2 29 45]) .ret) (.seq (.ops [.i (.bin 31 .eql (.s 4) (qi 6)),qm 30 31]) (.cond (.s 30) (.seq (.ops [qf 32 1 34,ql 33 1 32 6 true,qk 35 176 33,qs 2 2 34 45]) .ret) (.seq (.ops [.i (.bin 36 .eql (.s 4) (qi 7)),qm 35 36]) (.cond (.s 35) (.seq (.ops [qf 37 1 40,ql 38 1 37 5 true,qk 40 178 38,qs 2 2 39 45]) .ret) .skip)))))))))))))))) (.seq (.ops [.i (.bld 40 [.int .i64 0, .int .i64 0, .int .i64 0, .nils, .int .i64 0, .nils, .int .i64 0, .int .i64 0, .nils, .nils, .nils, .int .i64 0, .int .i64 0, .int .i64 0, .nils, .nils, .int .i64 0, .int .i64 0, .nils, .nils, .nils, .int .i64 0, .int .i64 0, .int .i64 0, .nils, .nils, .int .i64 0, .int .i64 0, .nils, .nils, .nils, .nils, .int .i64 0, .nils, .nils, .int .i64 0, .int .i64 0, .nils, .nils, .nils, .int .i64 0, .int .i64 0, .int .i64 0, .nils, .nils] []),qs 2 2 40 45]) .ret)))⟩
theorem cO:cd cg=some b9:=by kernel_rfl
theorem DM (m:aW) (hw:m.wc) (hk:m.kind=1):VC cd cg (aJ [(true,m.c)]) (fun rs _=>rs=fK m.vote):=by
 refine aa cO rfl ?_
 simp(disch:=omega) [b9,aW.c,hk,VY]
 refine az (yA m.vote hw.vote) ?_ (ha:=by first|rfl|(simp[bF.c,VY] <;>repeat' constructor))
 simp(disch:=omega) [fK,VY]
theorem Da (m:aW) (hw:m.wc) (hk:m.kind=2):VC cd bz (aJ [(true,m.c)]) (fun rs _=>rs=rD m.qc):=by
 refine aa bP rfl ?_
 simp(disch:=omega) [bA,aW.c,hk,VY]
 refine az (DE m.qc hw.qc) ?_ (ha:=by first|rfl|(simp[Qc.c,VY] <;>repeat' constructor))
 simp(disch:=omega) [rD,VY]
theorem Di (m:aW) (hw:m.wc) (hk:m.kind=2):VC cd cg (aJ [(true,m.c)]) (fun rs _=>rs=rD m.qc):=by
 refine aa cO rfl ?_
 simp(disch:=omega) [b9,aW.c,hk,VY]
 refine az (Db m.qc hw.qc) ?_ (ha:=by first|rfl|(simp[Qc.c,VY] <;>repeat' constructor))
 simp(disch:=omega) [rD,VY]
theorem Cw (m:aW) (hw:m.wc) (hk:m.kind=3):VC cd bz (aJ [(true,m.c)]) (fun rs _=>rs=fI m.head):=by
 refine aa bP rfl ?_
 simp(disch:=omega) [bA,aW.c,hk,VY]
 refine az (zB m.head hw.head) ?_ (ha:=by first|rfl|(simp[Head.c,VY] <;>repeat' constructor))
 simp(disch:=omega) [fI,VY]
theorem Dg (m:aW) (hw:m.wc) (hk:m.kind=3):VC cd cg (aJ [(true,m.c)]) (fun rs _=>rs=fI m.head):=by
 refine aa cO rfl ?_
 simp(disch:=omega) [b9,aW.c,hk,VY]
 refine az (yv m.head hw.head) ?_ (ha:=by first|rfl|(simp[Head.c,VY] <;>repeat' constructor))
 simp(disch:=omega) [fI,VY]
theorem CU (m:aW) (hw:m.wc) (hk:m.kind=4):VC cd bz (aJ [(true,m.c)]) (fun rs _=>rs=eo m.block):=by
 refine aa bP rfl ?_
 simp(disch:=omega) [bA,aW.c,hk,VY]
 refine az (xc m.block hw.block.1) ?_ (ha:=by first|rfl|(simp[Block.c,Head.c,VY] <;>repeat' constructor))
 simp(disch:=omega) [eo,VY]
theorem Ce (m:aW) (hw:m.wc) (hk:m.kind=4):VC cd cg (aJ [(true,m.c)]) (fun rs _=>rs=eo m.block):=by
 refine aa cO rfl ?_
 simp(disch:=omega) [b9,aW.c,hk,VY]
 refine az (xm m.block hw.block.1) ?_ (ha:=by first|rfl|(simp[Block.c,Head.c,VY] <;>repeat' constructor))
 simp(disch:=omega) [eo,VY]
theorem DA (m:aW) (hw:m.wc) (hk:m.kind=5):VC cd bz (aJ [(true,m.c)]) (fun rs _=>rs=rJ m.tc):=by
 refine aa bP rfl ?_
 simp(disch:=omega) [bA,aW.c,hk,VY]
 refine az (CO m.tc hw.tc) ?_ (ha:=by first|rfl|(simp[Tc.c,VY] <;>repeat' constructor))
 simp(disch:=omega) [rJ,VY]
theorem C2 (m:aW) (hw:m.wc) (hk:m.kind=5):VC cd cg (aJ [(true,m.c)]) (fun rs _=>rs=rJ m.tc):=by
 refine aa cO rfl ?_
 simp(disch:=omega) [b9,aW.c,hk,VY]
 refine az (Cp m.tc hw.tc) ?_ (ha:=by first|rfl|(simp[Tc.c,VY] <;>repeat' constructor))
 simp(disch:=omega) [rJ,VY]
theorem CY (m:aW) (hw:m.wc) (hk:m.kind=6):VC cd bz (aJ [(true,m.c)]) (fun rs _=>rs=ei m.proof):=by
 refine aa bP rfl ?_
 simp(disch:=omega) [bA,aW.c,hk,VY]
 refine az (xb m.proof hw.proof) ?_ (ha:=by first|rfl|(simp[Proof.c,VY] <;>repeat' constructor))
 simp(disch:=omega) [ei,VY]
theorem DF (m:aW) (hw:m.wc) (hk:m.kind=6):VC cd cg (aJ [(true,m.c)]) (fun rs _=>rs=ei m.proof):=by
 refine aa cO rfl ?_
 simp(disch:=omega) [b9,aW.c,hk,VY]
 refine az (xf m.proof hw.proof) ?_ (ha:=by first|rfl|(simp[Proof.c,VY] <;>repeat' constructor))
 simp(disch:=omega) [ei,VY]
theorem Cg (m:aW) (hw:m.wc) (hk:m.kind=7):VC cd bz (aJ [(true,m.c)]) (fun rs _=>rs=fH m.incl):=by
 refine aa bP rfl ?_
 simp(disch:=omega) [bA,aW.c,hk,VY]
 refine az (yY m.incl hw.incl) ?_ (ha:=by first|rfl|(simp[bn.c,VY] <;>repeat' constructor))
 simp(disch:=omega) [fH,VY]
theorem C0 (m:aW) (hw:m.wc) (hk:m.kind=7):VC cd cg (aJ [(true,m.c)]) (fun rs _=>rs=fH m.incl):=by
 refine aa cO rfl ?_
 simp(disch:=omega) [b9,aW.c,hk,VY]
 refine az (Ak m.incl hw.incl) ?_ (ha:=by first|rfl|(simp[bn.c,VY] <;>repeat' constructor))
 simp(disch:=omega) [fH,VY]
def cQ (m:aW):aW:=if m.kind=1 then {cX with kind:=1,vote:=m.vote}else if m.kind=2 then {cX with kind:=2,qc:=m.qc}else if m.kind=3 then {cX with kind:=3,head:=m.head}else if m.kind=4 then {cX with kind:=4,block:=m.block}else if m.kind=5 then {cX with kind:=5,tc:=m.tc}else if m.kind=6 then {cX with kind:=6,proof:=m.proof}else if m.kind=7 then {cX with kind:=7,incl:=m.incl}else cX
def aM (l:ax) (m:aW):Bool:=if m.kind=1 then vj l m.vote else if m.kind=2 then gU l m.qc else if m.kind=3 then cf l m.head else if m.kind=4 then bZ l m.block else if m.kind=5 then ic l m.tc else if m.kind=6 then de l m.proof else if m.kind=7 then fj l m.incl else false
def bN (m:aW):Bytes:=if m.kind=1 then MC m.vote else if m.kind=2 then IQ m.qc else if m.kind=3 then eH m.head else if m.kind=4 then mz m.block else if m.kind=5 then NK m.tc else if m.kind=6 then oJ m.proof else wq m.incl
theorem ie {l:ax} {m:aW} (h:aM l m=true):m.kind=1∨m.kind=2∨m.kind=3∨m.kind=4∨m.kind=5∨m.kind=6∨m.kind=7:=by
 unfold aM at h
 repeat' split at h
 all_goals first|(simp at h;done)|omega
def aY (l:ax) (m:aW):Bool:=aM l m && sO m (cQ m)
abbrev oE:Nat:=102
def oo:AF:=⟨3,7,[.tmp 6, .tmp 7],(.seq (.ops [.i (.lbox 3 (.s 0)), .i (.lbox 4 (.s 1)), .i (.mov 6 (.c (.val false [.nils]))), .i (.mov 7 (qb false))]) (.seq (.seq (.ops [qf 8 3 0,ql 9 3 8 1 false]) (.block 0 (.seq (.ops [.i (.bin 11 .eql (.s 9) (qi 1)),qm 10 11]) (.cond (.s 10) (.seq (.ops [ql 12 4 4 5 true,qm 13 2,qf 14 3 1,ql 15 3 14 5 true, .i (.call 17 158 false [(.s 12),(.s 13),(.s 15)]), .i (.ext 17 (.s 16) 0), .i (.ext 18 (.s 16) 1),qm 6 17,qm 7 18]) .ret) (.seq (.ops [.i (.bin 20 .eql (.s 9) (qi 2)),qm 19 20]) (.cond (.s 19) (.seq (.ops [ql 21 4 4 5 true,qm 22 2,qf 23 3 6,ql 24 3 23 5 true, .i (.call 26 159 false [(.s 21),(.s 22),(.s 24)]), .i (.ext 26 (.s 25) 0), .i (.ext 27 (.s 25) 1),qm 6 26,qm 7 27]) .ret) (.seq (.ops [.i (.bin 29 .eql (.s 9) (qi 3)),qm 28 29]) (.cond (.s 28) (.seq (.ops [ql 30 4 4 5 true,qm 31 2,qf 32 3 11,ql 33 3 32 10 true, .i (.call 35 160 false [(.s 30),(.s 31),(.s 33)]), .i (.ext 35 (.s 34) 0), .i (.ext 36 (.s 34) 1),qm 6 35,qm 7 36]) .ret) (.seq (.ops [.i (.bin 38 .eql (.s 9) (qi 4)),qm 37 38]) (.cond (.s 37) (.seq (.ops [ql 39 4 4 5 true,qm 40 2,qf 41 3 21,ql 42 3 41 11 true, .i (.call 44 161 false [(.s 39),(.s 40),(.s 42)]), .i (.ext 44 (.s 43) 0), .i (.ext 45 (.s 43) 1),qm 6 44,qm 7 45]) .ret) (.seq (.ops [.i (.bin 47 .eql (.s 9) (qi 5)),qm 46 47]) (.cond (.s 46) (.seq (.ops [ql 48 4 4 5 true,qm 49 2,qf 50 3 32,ql 51 3 50 2 true, .i (.call 53 162 false [(.s 48),(.s 49),(.s 51)]), .i (.ext 53 (.s 52) 0), .i (.ext 54 (.s 52) 1),qm 6 53,qm 7 54]) .ret) (.seq (.ops [.i (.bin 56 .eql (.s 9) (qi 6)),qm 55 56]) (.cond (.s 55) (.seq (.ops [ql 57 4 4 5 true,qm 58 2,qf 59 3 34,ql 60 3 59 6 true, .i (.call 62 163 false [(.s 57),(.s 58),(.s 60)]), .i (.ext 62 (.s 61) 0), .i (.ext 63 (.s 61) 1),qm 6 62,qm 7 63]) .ret) (.seq (.ops [.i (.bin 65 .eql (.s 9) (qi 7)),qm 64 65]) (.cond (.s 64) (.seq (.ops [ql 66 4 4 5 true,qm 67 2,qf 68 3 40,ql 69 3 68 5 true, .i (.call 71 164 false [(.s 66),(.s 67),(.s 69)]), .i (.ext 71 (.s 70) 0), .i (.ext 72 (.s 70) 1),qm 6 71,qm 7 72]) .ret) .skip)))))))))))))))) (.seq (.ops [.i (.mov 6 (.c (.val false [.nils]))), .i (.mov 7 (qb false))]) .ret)))⟩
theorem y8:cd oE=some oo:=by kernel_rfl
theorem mn (l:ax) (b:Bytes) (m:aW) (hw:m.wc) (hb:b.length≤800000000):VC cd oE (aJ [(true,m.c),(true,l.c),(false,[.sl (bytes b)])]) (fun rs _=>rs=a9 (aM l m) (b++bN m)):=by
 refine aa y8 rfl ?_
 simp(disch:=omega) [oo,aW.c,ax.c,VY]
 refine ab (fun g1=> ?_) (fun g1=> ?_)
 ·have e1:aM l m=vj l m.vote:=by simp[aM,g1]
  have e2:bN m=MC m.vote:=by simp[bN,g1]
  rw[e1,e2]
  simp(disch:=omega) [g1,VY]
  cases hp:vj l m.vote
  ·refine az ((kC l b m.vote (by omega)).re (cG hp)) ?_ (ha:=by first|rfl|(simp[ax.c,bF.c,VY] <;>repeat' constructor))
   simp(disch:=omega) [a9,g1,VY]
  ·refine az ((kC l b m.vote (by omega)).re (bE hp)) ?_ (ha:=by first|rfl|(simp[ax.c,bF.c,VY] <;>repeat' constructor))
   simp(disch:=omega) [a9,g1,VY]
 simp(disch:=omega) [g1,VY]
 refine ab (fun g2=> ?_) (fun g2=> ?_)
 ·have e1:aM l m=gU l m.qc:=by simp[aM,g2]
  have e2:bN m=IQ m.qc:=by simp[bN,g2]
  rw[e1,e2]
  simp(disch:=omega) [g2,VY]
  cases hp:gU l m.qc
  ·refine az ((qe l b m.qc hw.qc.1 (by omega)).re (cG hp)) ?_ (ha:=by first|rfl|(simp[ax.c,Qc.c,VY] <;>repeat' constructor))
   simp(disch:=omega) [a9,g2,VY]
  ·refine az ((qe l b m.qc hw.qc.1 (by omega)).re (bE hp)) ?_ (ha:=by first|rfl|(simp[ax.c,Qc.c,VY] <;>repeat' constructor))
   simp(disch:=omega) [a9,g2,VY]
 simp(disch:=omega) [g2,VY]
 refine ab (fun g3=> ?_) (fun g3=> ?_)
 ·have e1:aM l m=cf l m.head:=by simp[aM,g3]
  have e2:bN m=eH m.head:=by simp[bN,g3]
  rw[e1,e2]
  simp(disch:=omega) [g3,VY]
  cases hp:cf l m.head
  ·refine az ((kA l b m.head hw.head.1 (by omega)).re (cG hp)) ?_ (ha:=by first|rfl|(simp[ax.c,Head.c,VY] <;>repeat' constructor))
   simp(disch:=omega) [a9,g3,VY]
  ·refine az ((kA l b m.head hw.head.1 (by omega)).re (bE hp)) ?_ (ha:=by first|rfl|(simp[ax.c,Head.c,VY] <;>repeat' constructor))
   simp(disch:=omega) [a9,g3,VY]
 simp(disch:=omega) [g3,VY]
 refine ab (fun g4=> ?_) (fun g4=> ?_)
 ·have e1:aM l m=bZ l m.block:=by simp[aM,g4]
  have e2:bN m=mz m.block:=by simp[bN,g4]
  rw[e1,e2]
  simp(disch:=omega) [g4,VY]
  cases hp:bZ l m.block
  ·refine az ((ju l b m.block hw.block (by omega)).re (cG hp)) ?_ (ha:=by first|rfl|(simp[ax.c,Block.c,Head.c,VY] <;>repeat' constructor))
   simp(disch:=omega) [a9,g4,VY]
  ·refine az ((ju l b m.block hw.block (by omega)).re (bE hp)) ?_ (ha:=by first|rfl|(simp[ax.c,Block.c,Head.c,VY] <;>repeat' constructor))
   simp(disch:=omega) [a9,g4,VY]
 simp(disch:=omega) [g4,VY]
 refine ab (fun g5=> ?_) (fun g5=> ?_)
 ·have e1:aM l m=ic l m.tc:=by simp[aM,g5]
  have e2:bN m=NK m.tc:=by simp[bN,g5]
  rw[e1,e2]
  simp(disch:=omega) [g5,VY]
  cases hp:ic l m.tc
  ·refine az ((qQ l b m.tc hw.tc (by omega)).re (cG hp)) ?_ (ha:=by first|rfl|(simp[ax.c,Tc.c,VY] <;>repeat' constructor))
   simp(disch:=omega) [a9,g5,VY]
  ·refine az ((qQ l b m.tc hw.tc (by omega)).re (bE hp)) ?_ (ha:=by first|rfl|(simp[ax.c,Tc.c,VY] <;>repeat' constructor))
   simp(disch:=omega) [a9,g5,VY]
 simp(disch:=omega) [g5,VY]
 refine ab (fun g6=> ?_) (fun g6=> ?_)
 ·have e1:aM l m=de l m.proof:=by simp[aM,g6]
  have e2:bN m=oJ m.proof:=by simp[bN,g6]
  rw[e1,e2]
  simp(disch:=omega) [g6,VY]
  cases hp:de l m.proof
  ·refine az ((jS l b m.proof hw.proof (by omega)).re (cG hp)) ?_ (ha:=by first|rfl|(simp[ax.c,Proof.c,VY] <;>repeat' constructor))
   simp(disch:=omega) [a9,g6,VY]
  ·refine az ((jS l b m.proof hw.proof (by omega)).re (bE hp)) ?_ (ha:=by first|rfl|(simp[ax.c,Proof.c,VY] <;>repeat' constructor))
   simp(disch:=omega) [a9,g6,VY]
 simp(disch:=omega) [g6,VY]
 refine ab (fun g7=> ?_) (fun g7=> ?_)
 ·have e1:aM l m=fj l m.incl:=by simp[aM,g7]
  have e2:bN m=wq m.incl:=by simp[bN,g7]
  rw[e1,e2]
  simp(disch:=omega) [g7,VY]
  cases hp:fj l m.incl
  ·refine az ((kR l b m.incl hw.incl hw.tx (by omega)).re (cG hp)) ?_ (ha:=by first|rfl|(simp[ax.c,bn.c,VY] <;>repeat' constructor))
   simp(disch:=omega) [a9,g7,VY]
  ·refine az ((kR l b m.incl hw.incl hw.tx (by omega)).re (bE hp)) ?_ (ha:=by first|rfl|(simp[ax.c,bn.c,VY] <;>repeat' constructor))
   simp(disch:=omega) [a9,g7,VY]
 have e1:aM l m=false:=by simp[aM,g1,g2,g3,g4,g5,g6,g7]
 rw[e1]
 simp(disch:=omega) [a9,g1,g2,g3,g4,g5,g6,g7,VY]
abbrev qI:Nat:=92
def rv:AF:=⟨3,7,[.tmp 6, .tmp 7],(.seq (.ops [.i (.lbox 3 (.s 0)), .i (.lbox 5 (.s 2)), .i (.mov 6 (.c (.val false [.nils]))), .i (.mov 7 (qb false))]) (.seq (.seq (.ops [qf 8 5 0,ql 9 5 8 1 false]) (.block 0 (.seq (.ops [.i (.bin 11 .eql (.s 9) (qi 1)),qm 10 11]) (.cond (.s 10) (.seq (.ops [ql 12 3 3 5 true,qm 13 1,qf 14 5 1,ql 15 5 14 5 true, .i (.call 17 147 false [(.s 12),(.s 13),(.s 15)]), .i (.ext 17 (.s 16) 0), .i (.ext 18 (.s 16) 1),qm 6 17,qm 7 18]) .ret) (.seq (.ops [.i (.bin 20 .eql (.s 9) (qi 2)),qm 19 20]) (.cond (.s 19) (.seq (.ops [ql 21 3 3 5 true,qm 22 1,qf 23 5 6,ql 24 5 23 5 true, .i (.call 26 148 false [(.s 21),(.s 22),(.s 24)]), .i (.ext 26 (.s 25) 0), .i (.ext 27 (.s 25) 1),qm 6 26,qm 7 27]) .ret) (.seq (.ops [.i (.bin 29 .eql (.s 9) (qi 3)),qm 28 29]) (.cond (.s 28) (.seq (.ops [ql 30 3 3 5 true,qm 31 1,qf 32 5 11,ql 33 5 32 10 true, .i (.call 35 149 false [(.s 30),(.s 31),(.s 33)]), .i (.ext 35 (.s 34) 0), .i (.ext 36 (.s 34) 1),qm 6 35,qm 7 36]) .ret) (.seq (.ops [.i (.bin 38 .eql (.s 9) (qi 4)),qm 37 38]) (.cond (.s 37) (.seq (.ops [ql 39 3 3 5 true,qm 40 1,qf 41 5 21,ql 42 5 41 11 true, .i (.call 44 150 false [(.s 39),(.s 40),(.s 42)]), .i (.ext 44 (.s 43) 0), .i (.ext 45 (.s 43) 1),qm 6 44,qm 7 45]) .ret) (.seq (.ops [.i (.bin 47 .eql (.s 9) (qi 5)),qm 46 47]) (.cond (.s 46) (.seq (.ops [ql 48 3 3 5 true,qm 49 1,qf 50 5 32,ql 51 5 50 2 true, .i (.call 53 151 false [(.s 48),(.s 49),(.s 51)]), .i (.ext 53 (.s 52) 0), .i (.ext 54 (.s 52) 1),qm 6 53,qm 7 54]) .ret) (.seq (.ops [.i (.bin 56 .eql (.s 9) (qi 6)),qm 55 56]) (.cond (.s 55) (.seq (.ops [ql 57 3 3 5 true,qm 58 1,qf 59 5 34,ql 60 5 59 6 true, .i (.call 62 152 false [(.s 57),(.s 58),(.s 60)]), .i (.ext 62 (.s 61) 0), .i (.ext 63 (.s 61) 1),qm 6 62,qm 7 63]) .ret) .skip)))))))))))))) (.seq (.ops [ql 64 3 3 5 true,qm 65 1,qf 66 5 40,ql 67 5 66 5 true, .i (.call 69 153 false [(.s 64),(.s 65),(.s 67)]), .i (.ext 69 (.s 68) 0), .i (.ext 70 (.s 68) 1),qm 6 69,qm 7 70]) .ret)))⟩
theorem AV:cd qI=some rv:=by kernel_rfl
theorem bh (l:ax) (b:Bytes) (m:aW) (hw:m.wc) (hk:eb m.kind 1 7=true) (hb:b.length≤800000000):VC cd qI (aJ [(true,l.c),(false,[.sl (bytes b)]),(true,m.c)]) (fun rs _=>rs=a9 (aM l m) (b++bN m)):=by
 have hk2:=dP hk
 refine aa AV rfl ?_
 simp(disch:=omega) [rv,aW.c,ax.c,VY]
 refine ab (fun g1=> ?_) (fun g1=> ?_)
 ·have e1:aM l m=vj l m.vote:=by simp[aM,g1]
  have e2:bN m=MC m.vote:=by simp[bN,g1]
  rw[e1,e2]
  simp(disch:=omega) [g1,VY]
  cases hp:vj l m.vote
  ·refine az ((la l b m.vote (by omega)).re (cG hp)) ?_ (ha:=by first|rfl|(simp[ax.c,bF.c,VY] <;>repeat' constructor))
   simp(disch:=omega) [a9,g1,VY]
  ·refine az ((la l b m.vote (by omega)).re (bE hp)) ?_ (ha:=by first|rfl|(simp[ax.c,bF.c,VY] <;>repeat' constructor))
   simp(disch:=omega) [a9,g1,VY]
 simp(disch:=omega) [g1,VY]
 refine ab (fun g2=> ?_) (fun g2=> ?_)
 ·have e1:aM l m=gU l m.qc:=by simp[aM,g2]
  have e2:bN m=IQ m.qc:=by simp[bN,g2]
  rw[e1,e2]
  simp(disch:=omega) [g2,VY]
  cases hp:gU l m.qc
  ·refine az ((fL l b m.qc hw.qc.1 (by omega)).re (cG hp)) ?_ (ha:=by first|rfl|(simp[ax.c,Qc.c,VY] <;>repeat' constructor))
   simp(disch:=omega) [a9,g2,VY]
  ·refine az ((fL l b m.qc hw.qc.1 (by omega)).re (bE hp)) ?_ (ha:=by first|rfl|(simp[ax.c,Qc.c,VY] <;>repeat' constructor))
   simp(disch:=omega) [a9,g2,VY]
 simp(disch:=omega) [g2,VY]
 refine ab (fun g3=> ?_) (fun g3=> ?_)
 ·have e1:aM l m=cf l m.head:=by simp[aM,g3]
  have e2:bN m=eH m.head:=by simp[bN,g3]
  rw[e1,e2]
  simp(disch:=omega) [g3,VY]
  cases hp:cf l m.head
  ·refine az ((ey l b m.head hw.head.1 (by omega)).re (cG hp)) ?_ (ha:=by first|rfl|(simp[ax.c,Head.c,VY] <;>repeat' constructor))
   simp(disch:=omega) [a9,g3,VY]
  ·refine az ((ey l b m.head hw.head.1 (by omega)).re (bE hp)) ?_ (ha:=by first|rfl|(simp[ax.c,Head.c,VY] <;>repeat' constructor))
   simp(disch:=omega) [a9,g3,VY]
 simp(disch:=omega) [g3,VY]
 refine ab (fun g4=> ?_) (fun g4=> ?_)
 ·have e1:aM l m=bZ l m.block:=by simp[aM,g4]
  have e2:bN m=mz m.block:=by simp[bN,g4]
  rw[e1,e2]
  simp(disch:=omega) [g4,VY]
  cases hp:bZ l m.block
  ·refine az ((jv l b m.block hw.block (by omega)).re (cG hp)) ?_ (ha:=by first|rfl|(simp[ax.c,Block.c,Head.c,VY] <;>repeat' constructor))
   simp(disch:=omega) [a9,g4,VY]
  ·refine az ((jv l b m.block hw.block (by omega)).re (bE hp)) ?_ (ha:=by first|rfl|(simp[ax.c,Block.c,Head.c,VY] <;>repeat' constructor))
   simp(disch:=omega) [a9,g4,VY]
 simp(disch:=omega) [g4,VY]
 refine ab (fun g5=> ?_) (fun g5=> ?_)
 ·have e1:aM l m=ic l m.tc:=by simp[aM,g5]
  have e2:bN m=NK m.tc:=by simp[bN,g5]
  rw[e1,e2]
  simp(disch:=omega) [g5,VY]
  cases hp:ic l m.tc
  ·refine az ((qA l b m.tc hw.tc (by omega)).re (cG hp)) ?_ (ha:=by first|rfl|(simp[ax.c,Tc.c,VY] <;>repeat' constructor))
   simp(disch:=omega) [a9,g5,VY]
  ·refine az ((qA l b m.tc hw.tc (by omega)).re (bE hp)) ?_ (ha:=by first|rfl|(simp[ax.c,Tc.c,VY] <;>repeat' constructor))
   simp(disch:=omega) [a9,g5,VY]
 simp(disch:=omega) [g5,VY]
 refine ab (fun g6=> ?_) (fun g6=> ?_)
 ·have e1:aM l m=de l m.proof:=by simp[aM,g6]
  have e2:bN m=oJ m.proof:=by simp[bN,g6]
  rw[e1,e2]
  simp(disch:=omega) [g6,VY]
  cases hp:de l m.proof
  ·refine az ((iZ l b m.proof hw.proof (by omega)).re (cG hp)) ?_ (ha:=by first|rfl|(simp[ax.c,Proof.c,VY] <;>repeat' constructor))
   simp(disch:=omega) [a9,g6,VY]
  ·refine az ((iZ l b m.proof hw.proof (by omega)).re (bE hp)) ?_ (ha:=by first|rfl|(simp[ax.c,Proof.c,VY] <;>repeat' constructor))
   simp(disch:=omega) [a9,g6,VY]
 simp(disch:=omega) [g6,VY]
 have g7:m.kind=7:=by omega
 have e1:aM l m=fj l m.incl:=by simp[aM,g7]
 have e2:bN m=wq m.incl:=by simp[bN,g7]
 rw[e1,e2]
 cases hp:fj l m.incl
 ·refine az ((kT l b m.incl hw.incl hw.tx (by omega)).re (cG hp)) ?_ (ha:=by first|rfl|(simp[ax.c,bn.c,VY] <;>repeat' constructor))
  simp(disch:=omega) [a9,g7,VY]
 ·refine az ((kT l b m.incl hw.incl hw.tx (by omega)).re (bE hp)) ?_ (ha:=by first|rfl|(simp[ax.c,bn.c,VY] <;>repeat' constructor))
  simp(disch:=omega) [a9,g7,VY]
theorem Hm {m:aW} (h:m.kind=1):cQ m= {cX with kind:=1,vote:=m.vote}:=by simp[cQ,h]
theorem HJ {m:aW} (h:m.kind=2):cQ m= {cX with kind:=2,qc:=m.qc}:=by simp[cQ,h]
theorem HI {m:aW} (h:m.kind=3):cQ m= {cX with kind:=3,head:=m.head}:=by simp[cQ,h]
theorem GZ {m:aW} (h:m.kind=4):cQ m= {cX with kind:=4,block:=m.block}:=by simp[cQ,h]
theorem G1 {m:aW} (h:m.kind=5):cQ m= {cX with kind:=5,tc:=m.tc}:=by simp[cQ,h]
theorem GR {m:aW} (h:m.kind=6):cQ m= {cX with kind:=6,proof:=m.proof}:=by simp[cQ,h]
theorem Hf {m:aW} (h:m.kind=7):cQ m= {cX with kind:=7,incl:=m.incl}:=by simp[cQ,h]
theorem FJ {m:aW} (hw:m.wc):(cQ m).wc:=by
 unfold cQ
 repeat' split
 ·exact {ig with kind:=by simp only[ma];omega,vote:=hw.vote}
 ·exact {ig with kind:=by simp only[ma];omega,qc:=hw.qc}
 ·exact {ig with kind:=by simp only[ma];omega,head:=hw.head}
 ·exact {ig with kind:=by simp only[ma];omega,block:=hw.block}
 ·exact {ig with kind:=by simp only[ma];omega,tc:=hw.tc}
 ·exact {ig with kind:=by simp only[ma];omega,proof:=hw.proof}
 ·exact {ig with kind:=by simp only[ma];omega,incl:=hw.incl,tx:=hw.tx}
 ·exact ig
abbrev ug:Nat:=101
def tB:AF:=⟨2,5,[.tmp 4],(.seq (.ops [.i (.lbox 2 (.s 0)), .i (.lbox 3 (.s 1)), .i (.mov 4 (qb false))]) (.seq (.ops [ql 8 3 3 45 true,ql 9 2 2 5 true, .i (.call 11 102 false [(.s 8),(.s 9),(.c (.val false [.nils]))]),qm 7 10, .i (.ext 11 (.s 7) 0), .i (.ext 12 (.s 7) 1),qm 5 11,qm 6 12]) (.seq (.ops [qm 13 6,qm 14 13, .g 14 true 16 (.ldl 15 3 (.s 3) 45 true), .g 14 true 17 (.ldl 16 3 (.s 3) 45 true), .g 14 true 18 (.call 18 157 false [(.s 16)]), .g 14 true 19 (.call 19 40 false [(.s 15),(.s 17)]), .i (.pick 19 (.s 14) (.s 18) (qb false)),qm 4 19]) .ret)))⟩
theorem C4:cd ug=some tB:=by kernel_rfl
theorem AN (l:ax) (m:aW) (hw:m.wc):VC cd ug (aJ [(true,l.c),(true,m.c)]) (fun rs _=>rs=bl (aY l m)):=by
 have hx:=FJ hw
 refine aa C4 rfl ?_
 simp(disch:=omega) [tB,aW.c,ax.c,VY]
 cases hp:aM l m with
 |false=>
  refine az ((mn l [] m hw (by simp)).re (cG hp)) ?_ (ha:=by first|rfl|(simp[aW.c,ax.c,av,VY] <;>repeat' constructor))
  simp(disch:=omega) [aY,hp,VY]
 |true=>
  have e0:([]:Bytes)++bN m=bN m:=rfl
  refine az ((mn l [] m hw (by simp)).re (bE hp)) ?_ (ha:=by first|rfl|(simp[aW.c,ax.c,av,VY] <;>repeat' constructor))
  simp(disch:=omega) [VY]
  rcases ie hp with hk|hk|hk|hk|hk|hk|hk
  ·refine az (CM m hw hk) ?_ (ha:=by first|rfl|(simp[aW.c,VY] <;>repeat' constructor))
   simp(disch:=omega) [fK,VY]
   refine az (cA m (cQ m) hw hx) ?_ (ha:=by first|rfl|(simp[aW.c,Hm hk,cX,gj,DV,fN,d9,FR,eh,gm,av,show cS []= []from rfl,show gD []= []from rfl,show lb []= []from rfl,VY] <;>repeat' constructor))
   simp(disch:=omega) [aY,hp,VY]
  ·refine az (Da m hw hk) ?_ (ha:=by first|rfl|(simp[aW.c,VY] <;>repeat' constructor))
   simp(disch:=omega) [rD,VY]
   refine az (cA m (cQ m) hw hx) ?_ (ha:=by first|rfl|(simp[aW.c,HJ hk,cX,gj,DV,fN,d9,FR,eh,gm,av,show cS []= []from rfl,show gD []= []from rfl,show lb []= []from rfl,VY] <;>repeat' constructor))
   simp(disch:=omega) [aY,hp,VY]
  ·refine az (Cw m hw hk) ?_ (ha:=by first|rfl|(simp[aW.c,VY] <;>repeat' constructor))
   simp(disch:=omega) [fI,VY]
   refine az (cA m (cQ m) hw hx) ?_ (ha:=by first|rfl|(simp[aW.c,HI hk,cX,gj,DV,fN,d9,FR,eh,gm,av,show cS []= []from rfl,show gD []= []from rfl,show lb []= []from rfl,VY] <;>repeat' constructor))
   simp(disch:=omega) [aY,hp,VY]
  ·refine az (CU m hw hk) ?_ (ha:=by first|rfl|(simp[aW.c,VY] <;>repeat' constructor))
   simp(disch:=omega) [eo,VY]
   refine az (cA m (cQ m) hw hx) ?_ (ha:=by first|rfl|(simp[aW.c,GZ hk,cX,gj,DV,fN,d9,FR,eh,gm,av,show cS []= []from rfl,show gD []= []from rfl,show lb []= []from rfl,VY] <;>repeat' constructor))
   simp(disch:=omega) [aY,hp,VY]
  ·refine az (DA m hw hk) ?_ (ha:=by first|rfl|(simp[aW.c,VY] <;>repeat' constructor))
   simp(disch:=omega) [rJ,VY]
   refine az (cA m (cQ m) hw hx) ?_ (ha:=by first|rfl|(simp[aW.c,G1 hk,cX,gj,DV,fN,d9,FR,eh,gm,av,show cS []= []from rfl,show gD []= []from rfl,show lb []= []from rfl,VY] <;>repeat' constructor))
   simp(disch:=omega) [aY,hp,VY]
  ·refine az (CY m hw hk) ?_ (ha:=by first|rfl|(simp[aW.c,VY] <;>repeat' constructor))
   simp(disch:=omega) [ei,VY]
   refine az (cA m (cQ m) hw hx) ?_ (ha:=by first|rfl|(simp[aW.c,GR hk,cX,gj,DV,fN,d9,FR,eh,gm,av,show cS []= []from rfl,show gD []= []from rfl,show lb []= []from rfl,VY] <;>repeat' constructor))
   simp(disch:=omega) [aY,hp,VY]
  ·refine az (Cg m hw hk) ?_ (ha:=by first|rfl|(simp[aW.c,VY] <;>repeat' constructor))
   simp(disch:=omega) [fH,VY]
   refine az (cA m (cQ m) hw hx) ?_ (ha:=by first|rfl|(simp[aW.c,Hf hk,cX,gj,DV,fN,d9,FR,eh,gm,av,show cS []= []from rfl,show gD []= []from rfl,show lb []= []from rfl,VY] <;>repeat' constructor))
   simp(disch:=omega) [aY,hp,VY]
abbrev mZ:Nat:=144
def oI:AF:=⟨1,3,[.tmp 2],(.seq (.ops [.i (.mov 2 (qb false))]) (.seq (.ops [qm 3 0, .i (.call 5 67 false [(.s 3),(qi 1),(qi 7)]),qm 2 4]) .ret))⟩
theorem zq:cd mZ=some oI:=by kernel_rfl
theorem FX (k:Int):VC cd mZ (aJ [(false,[.int .i64 k])]) (fun rs _=>rs=bl (eb k 1 7)):=by
 refine aa zq rfl ?_
 simp(disch:=omega) [oI,VY]
 refine az (bq k 1 7) ?_
 simp(disch:=omega) [VY]
abbrev ud:Nat:=91
def uh:AF:=⟨2,5,[.tmp 4],(.seq (.ops [.i (.lbox 2 (.s 0)), .i (.lbox 3 (.s 1)), .i (.mov 4 (qb false))]) (.seq (.seq (.ops [qf 7 3 0,ql 8 3 7 1 false,qk 10 144 8, .i (.not 10 (.s 9)),qm 11 10, .g 11 false 13 (.ldl 12 3 (.s 3) 45 true), .g 11 false 14 (.ldl 13 3 (.s 3) 45 true), .g 11 false 15 (.call 15 146 false [(.s 13)]), .g 11 false 16 (.call 16 145 false [(.s 12),(.s 14)]), .g 11 false 17 (.not 16 (.s 15)), .i (.pick 17 (.s 11) (qb true) (.s 16))]) (.cond (.s 17) (.seq (.ops [.i (.mov 4 (qb false))]) .ret) .skip)) (.seq (.ops [ql 19 2 2 5 true,ql 20 3 3 45 true, .i (.call 22 92 false [(.s 19),(.c (.val false [.nils])),(.s 20)]),qm 18 21, .i (.ext 22 (.s 18) 0), .i (.ext 23 (.s 18) 1),qm 5 22,qm 6 23]) (.seq (.ops [qm 24 6,qm 4 24]) .ret))))⟩
theorem CI:cd ud=some uh:=by kernel_rfl
theorem AK (l:ax) (m:aW) (hw:m.wc):VC cd ud (aJ [(true,l.c),(true,m.c)]) (fun rs _=>rs=bl (aY l m)):=by
 have hx:=FJ hw
 refine aa CI rfl ?_
 simp(disch:=omega) [uh,aW.c,ax.c,VY]
 refine az (FX m.kind) ?_
 simp(disch:=omega) [VY]
 refine ak (fun h1=> ?_) (fun h1=> ?_)
 case refine_2=>
  have e1:aM l m=false:=by
   cases hp:aM l m with
   |false=>rfl
   |true=>rcases ie hp with hk|hk|hk|hk|hk|hk|hk <;>(rw[hk]at h1;cases h1)
  simp(disch:=omega) [h1,aY,e1,VY]
 simp(disch:=omega) [h1,VY]
 have hk2:=dP h1
 have hk3:m.kind=1∨m.kind=2∨m.kind=3∨m.kind=4∨m.kind=5∨m.kind=6∨m.kind=7:=by omega
 rcases hk3 with hk|hk|hk|hk|hk|hk|hk
 ·refine az (DM m hw hk) ?_ (ha:=by first|rfl|(simp[aW.c,VY] <;>repeat' constructor))
  simp(disch:=omega) [fK,h1,VY]
  refine az (cw m (cQ m) hw hx) ?_ (ha:=by first|rfl|(simp[aW.c,Hm hk,cX,gj,DV,fN,d9,FR,eh,gm,av,show cS []= []from rfl,show gD []= []from rfl,show lb []= []from rfl,VY] <;>repeat' constructor))
  simp(disch:=omega) [h1,VY]
  refine ak (fun h2=> ?_) (fun h2=> ?_)
  case refine_2=>simp(disch:=omega) [h1,h2,aY,VY]
  simp(disch:=omega) [h1,h2,VY]
  cases hp:aM l m
  ·refine az ((bh l [] m hw h1 (by simp)).re (cG hp)) ?_ (ha:=by first|rfl|(simp[aW.c,ax.c,av,VY] <;>repeat' constructor))
   simp(disch:=omega) [aY,hp,h2,VY]
  ·refine az ((bh l [] m hw h1 (by simp)).re (bE hp)) ?_ (ha:=by first|rfl|(simp[aW.c,ax.c,av,VY] <;>repeat' constructor))
   simp(disch:=omega) [aY,hp,h2,VY]
 ·refine az (Di m hw hk) ?_ (ha:=by first|rfl|(simp[aW.c,VY] <;>repeat' constructor))
  simp(disch:=omega) [rD,h1,VY]
  refine az (cw m (cQ m) hw hx) ?_ (ha:=by first|rfl|(simp[aW.c,HJ hk,cX,gj,DV,fN,d9,FR,eh,gm,av,show cS []= []from rfl,show gD []= []from rfl,show lb []= []from rfl,VY] <;>repeat' constructor))
  simp(disch:=omega) [h1,VY]
  refine ak (fun h2=> ?_) (fun h2=> ?_)
  case refine_2=>simp(disch:=omega) [h1,h2,aY,VY]
  simp(disch:=omega) [h1,h2,VY]
  cases hp:aM l m
  ·refine az ((bh l [] m hw h1 (by simp)).re (cG hp)) ?_ (ha:=by first|rfl|(simp[aW.c,ax.c,av,VY] <;>repeat' constructor))
   simp(disch:=omega) [aY,hp,h2,VY]
  ·refine az ((bh l [] m hw h1 (by simp)).re (bE hp)) ?_ (ha:=by first|rfl|(simp[aW.c,ax.c,av,VY] <;>repeat' constructor))
   simp(disch:=omega) [aY,hp,h2,VY]
 ·refine az (Dg m hw hk) ?_ (ha:=by first|rfl|(simp[aW.c,VY] <;>repeat' constructor))
  simp(disch:=omega) [fI,h1,VY]
  refine az (cw m (cQ m) hw hx) ?_ (ha:=by first|rfl|(simp[aW.c,HI hk,cX,gj,DV,fN,d9,FR,eh,gm,av,show cS []= []from rfl,show gD []= []from rfl,show lb []= []from rfl,VY] <;>repeat' constructor))
  simp(disch:=omega) [h1,VY]
  refine ak (fun h2=> ?_) (fun h2=> ?_)
  case refine_2=>simp(disch:=omega) [h1,h2,aY,VY]
  simp(disch:=omega) [h1,h2,VY]
  cases hp:aM l m
  ·refine az ((bh l [] m hw h1 (by simp)).re (cG hp)) ?_ (ha:=by first|rfl|(simp[aW.c,ax.c,av,VY] <;>repeat' constructor))
   simp(disch:=omega) [aY,hp,h2,VY]
  ·refine az ((bh l [] m hw h1 (by simp)).re (bE hp)) ?_ (ha:=by first|rfl|(simp[aW.c,ax.c,av,VY] <;>repeat' constructor))
   simp(disch:=omega) [aY,hp,h2,VY]
 ·refine az (Ce m hw hk) ?_ (ha:=by first|rfl|(simp[aW.c,VY] <;>repeat' constructor))
  simp(disch:=omega) [eo,h1,VY]
  refine az (cw m (cQ m) hw hx) ?_ (ha:=by first|rfl|(simp[aW.c,GZ hk,cX,gj,DV,fN,d9,FR,eh,gm,av,show cS []= []from rfl,show gD []= []from rfl,show lb []= []from rfl,VY] <;>repeat' constructor))
  simp(disch:=omega) [h1,VY]
  refine ak (fun h2=> ?_) (fun h2=> ?_)
  case refine_2=>simp(disch:=omega) [h1,h2,aY,VY]
  simp(disch:=omega) [h1,h2,VY]
  cases hp:aM l m
  ·refine az ((bh l [] m hw h1 (by simp)).re (cG hp)) ?_ (ha:=by first|rfl|(simp[aW.c,ax.c,av,VY] <;>repeat' constructor))
   simp(disch:=omega) [aY,hp,h2,VY]
  ·refine az ((bh l [] m hw h1 (by simp)).re (bE hp)) ?_ (ha:=by first|rfl|(simp[aW.c,ax.c,av,VY] <;>repeat' constructor))
   simp(disch:=omega) [aY,hp,h2,VY]
 ·refine az (C2 m hw hk) ?_ (ha:=by first|rfl|(simp[aW.c,VY] <;>repeat' constructor))
  simp(disch:=omega) [rJ,h1,VY]
  refine az (cw m (cQ m) hw hx) ?_ (ha:=by first|rfl|(simp[aW.c,G1 hk,cX,gj,DV,fN,d9,FR,eh,gm,av,show cS []= []from rfl,show gD []= []from rfl,show lb []= []from rfl,VY] <;>repeat' constructor))
  simp(disch:=omega) [h1,VY]
  refine ak (fun h2=> ?_) (fun h2=> ?_)
  case refine_2=>simp(disch:=omega) [h1,h2,aY,VY]
  simp(disch:=omega) [h1,h2,VY]
  cases hp:aM l m
  ·refine az ((bh l [] m hw h1 (by simp)).re (cG hp)) ?_ (ha:=by first|rfl|(simp[aW.c,ax.c,av,VY] <;>repeat' constructor))
   simp(disch:=omega) [aY,hp,h2,VY]
  ·refine az ((bh l [] m hw h1 (by simp)).re (bE hp)) ?_ (ha:=by first|rfl|(simp[aW.c,ax.c,av,VY] <;>repeat' constructor))
   simp(disch:=omega) [aY,hp,h2,VY]
 ·refine az (DF m hw hk) ?_ (ha:=by first|rfl|(simp[aW.c,VY] <;>repeat' constructor))
  simp(disch:=omega) [ei,h1,VY]
  refine az (cw m (cQ m) hw hx) ?_ (ha:=by first|rfl|(simp[aW.c,GR hk,cX,gj,DV,fN,d9,FR,eh,gm,av,show cS []= []from rfl,show gD []= []from rfl,show lb []= []from rfl,VY] <;>repeat' constructor))
  simp(disch:=omega) [h1,VY]
  refine ak (fun h2=> ?_) (fun h2=> ?_)
  case refine_2=>simp(disch:=omega) [h1,h2,aY,VY]
  simp(disch:=omega) [h1,h2,VY]
  cases hp:aM l m
  ·refine az ((bh l [] m hw h1 (by simp)).re (cG hp)) ?_ (ha:=by first|rfl|(simp[aW.c,ax.c,av,VY] <;>repeat' constructor))
   simp(disch:=omega) [aY,hp,h2,VY]
  ·refine az ((bh l [] m hw h1 (by simp)).re (bE hp)) ?_ (ha:=by first|rfl|(simp[aW.c,ax.c,av,VY] <;>repeat' constructor))
   simp(disch:=omega) [aY,hp,h2,VY]
 ·refine az (C0 m hw hk) ?_ (ha:=by first|rfl|(simp[aW.c,VY] <;>repeat' constructor))
  simp(disch:=omega) [fH,h1,VY]
  refine az (cw m (cQ m) hw hx) ?_ (ha:=by first|rfl|(simp[aW.c,Hf hk,cX,gj,DV,fN,d9,FR,eh,gm,av,show cS []= []from rfl,show gD []= []from rfl,show lb []= []from rfl,VY] <;>repeat' constructor))
  simp(disch:=omega) [h1,VY]
  refine ak (fun h2=> ?_) (fun h2=> ?_)
  case refine_2=>simp(disch:=omega) [h1,h2,aY,VY]
  simp(disch:=omega) [h1,h2,VY]
  cases hp:aM l m
  ·refine az ((bh l [] m hw h1 (by simp)).re (cG hp)) ?_ (ha:=by first|rfl|(simp[aW.c,ax.c,av,VY] <;>repeat' constructor))
   simp(disch:=omega) [aY,hp,h2,VY]
  ·refine az ((bh l [] m hw h1 (by simp)).re (bE hp)) ?_ (ha:=by first|rfl|(simp[aW.c,ax.c,av,VY] <;>repeat' constructor))
   simp(disch:=omega) [aY,hp,h2,VY]
end Go.Eng.F
namespace Go.Eng.F
open Go.Eng.U (yQ cu TLimits q9 fw Jq dQ p0 TMsg)
def bF.tv (x:bF):Tv:= .r [.i x.view, .i x.height,ur x.block, .i x.who,ur x.tag]
theorem bF.enc (x:bF):enc q9 x.tv=x.c:=by simp only[bF.tv,eg,bK,cC,du,dJ,fG,eT,dy,fQ,bF.c,List.cons_append,List.nil_append,List.append_assoc]
theorem bF.ex {v:Tv} (h:aG q9 v):∃x:bF,v=x.tv:=by
 obtain⟨vs,rfl,h⟩:=h.st
 obtain⟨v0,_,rfl,h0,h⟩:=h.step
 obtain⟨v1,_,rfl,h1,h⟩:=h.step
 obtain⟨v2,_,rfl,h2,h⟩:=h.step
 obtain⟨v3,_,rfl,h3,h⟩:=h.step
 obtain⟨v4,_,rfl,h4,h⟩:=h.step
 obtain rfl:=h.fin
 obtain⟨n0,rfl,_⟩:=h0.int
 obtain⟨n1,rfl,_⟩:=h1.int
 obtain⟨n2,rfl⟩:=hC h2
 obtain⟨n3,rfl,_⟩:=h3.int
 obtain⟨n4,rfl⟩:=hC h4
 exact⟨⟨n0,n1,n2,n3,n4⟩,rfl⟩
theorem bF.of {x:bF} (h:aG q9 x.tv) (hw:wt x.tv≤1048576):x.wf:=by
 simp only[bF.tv,fP,cP]at h
 simp only[bF.tv,wt,dq]at hw
 obtain⟨h0,h1,h2,h3,h4,_⟩:=h
 exact⟨dU (ok_int.1 h0),dU (ok_int.1 h1),ry (by omega),dU (ok_int.1 h3),ry (by omega)⟩
def bn.tv (x:bn):Tv:= .r [.i x.height, .i x.n, .i x.idx,ur x.tx,vk x.path]
theorem bn.enc (x:bn):enc p0 x.tv=x.c:=by simp only[bn.tv,eg,bK,cC,du,dJ,fG,eT,dy,fQ,bn.c,List.cons_append,List.nil_append,List.append_assoc]
theorem bn.ex {v:Tv} (h:aG p0 v):∃x:bn,v=x.tv:=by
 obtain⟨vs,rfl,h⟩:=h.st
 obtain⟨v0,_,rfl,h0,h⟩:=h.step
 obtain⟨v1,_,rfl,h1,h⟩:=h.step
 obtain⟨v2,_,rfl,h2,h⟩:=h.step
 obtain⟨v3,_,rfl,h3,h⟩:=h.step
 obtain⟨v4,_,rfl,h4,h⟩:=h.step
 obtain rfl:=h.fin
 obtain⟨n0,rfl,_⟩:=h0.int
 obtain⟨n1,rfl,_⟩:=h1.int
 obtain⟨n2,rfl,_⟩:=h2.int
 obtain⟨n3,rfl⟩:=hC h3
 obtain⟨n4,rfl⟩:=CS h4
 exact⟨⟨n0,n1,n2,n3,n4⟩,rfl⟩
theorem bn.of {x:bn} (h:aG p0 x.tv) (hw:wt x.tv≤1048576):x.wc:=by
 simp only[bn.tv,fP,cP]at h
 simp only[bn.tv,wt,dq]at hw
 obtain⟨h0,h1,h2,h3,h4,_⟩:=h
 exact⟨dU (ok_int.1 h0),dU (ok_int.1 h1),dU (ok_int.1 h2),ry (by omega),GG (by omega)⟩
def aW.tv (m:aW):Tv:= .r [.i m.kind,m.vote.tv,m.qc.tv,m.head.tv,m.block.tv,m.tc.tv,m.proof.tv,m.incl.tv]
theorem aW.enc (m:aW):enc TMsg m.tv=m.c:=by simp only[aW.tv,eg,bK,cC,du,bF.enc,Qc.enc,Head.enc,Block.enc,Tc.enc,Proof.enc,bn.enc,aW.c,bF.c,Qc.c,Head.c,Block.c,Tc.c,Proof.c,bn.c,List.cons_append,List.nil_append,List.append_assoc,List.append_nil]
theorem aW.ex {v:Tv} (h:aG TMsg v):∃m:aW,v=m.tv:=by
 obtain⟨vs,rfl,h⟩:=h.st
 obtain⟨v0,_,rfl,h0,h⟩:=h.step
 obtain⟨v1,_,rfl,h1,h⟩:=h.step
 obtain⟨v2,_,rfl,h2,h⟩:=h.step
 obtain⟨v3,_,rfl,h3,h⟩:=h.step
 obtain⟨v4,_,rfl,h4,h⟩:=h.step
 obtain⟨v5,_,rfl,h5,h⟩:=h.step
 obtain⟨v6,_,rfl,h6,h⟩:=h.step
 obtain⟨v7,_,rfl,h7,h⟩:=h.step
 obtain rfl:=h.fin
 obtain⟨n0,rfl,_⟩:=h0.int
 obtain⟨n1,rfl⟩:=bF.ex h1
 obtain⟨n2,rfl⟩:=Qc.ex h2
 obtain⟨n3,rfl⟩:=Head.ex h3
 obtain⟨n4,rfl⟩:=Block.ex h4
 obtain⟨n5,rfl⟩:=Tc.ex h5
 obtain⟨n6,rfl⟩:=Proof.ex h6
 obtain⟨n7,rfl⟩:=bn.ex h7
 exact⟨⟨n0,n1,n2,n3,n4,n5,n6,n7⟩,rfl⟩
theorem aW.of {m:aW} (h:aG TMsg m.tv) (hw:wt m.tv≤1048576):m.wc:=by
 simp only[aW.tv,fP,cP]at h
 simp only[aW.tv,wt,dq]at hw
 obtain⟨h0,h1,h2,h3,h4,h5,h6,h7,_⟩:=h
 have hb:wt m.block.tv=wt m.block.head.tv+(wt (vk m.block.txs)+0):=by simp only[Block.tv,wt,dq]
 have hi:wt m.incl.tv=0+(0+(0+(wt (ur m.incl.tx)+(wt (vk m.incl.path)+0)))):=by simp only[bn.tv,wt,dq]
 refine⟨dU (ok_int.1 h0),bF.of h1 (by omega),Qc.of h2 (by omega),Head.of h3 (by omega),⟨Block.of h4 (by omega),fun t ht=> ?_⟩,Tc.of h5 (by omega),Proof.RK h6 (by omega),bn.of h7 (by omega),?_⟩
 ·have:=(KF m.block.txs).2 t ht
  omega
 ·rw[HT]at hi
  omega
end Go.Eng.F
namespace Go.Eng.F
open Go.Eng.U (cu TLimits TMsg)
def om (m:aW):UInt8:=UInt8.ofNat m.kind.toNat
theorem sc {l:ax} {m:aW} (h:aY l m=true):aM l m=true:=by
 simp only[aY,Bool.and_eq_true]at h
 exact h.1
theorem xS {l:ax} {m:aW} (h:aM l m=true):IntKind.u8.wrap m.kind=((om m).toNat:Int):=by
 have h1:=ie h
 obtain⟨k,hk⟩:∃k:Nat,m.kind=(k:Int):=⟨m.kind.toNat,by omega⟩
 unfold om
 rw[hk]
 exact Qx (by omega)
abbrev iF:Nat:=59
def qq:AF:=⟨2,5,[.tmp 4, .tmp 5],(.seq (.ops [.i (.lbox 2 (.s 0)), .i (.lbox 3 (.s 1)), .i (.mov 4 (.c (.val false [.nils]))), .i (.mov 5 (qb false))]) (.seq (.seq (.ops [ql 6 2 2 5 true,ql 7 3 3 45 true, .i (.call 9 101 false [(.s 6),(.s 7)]), .i (.not 9 (.s 8))]) (.cond (.s 9) (.seq (.ops [.i (.mov 4 (.c (.val false [.nils]))), .i (.mov 5 (qb false))]) .ret) .skip)) (.seq (.ops [ql 10 3 3 45 true,ql 11 2 2 5 true,qf 12 3 0,ql 13 3 12 1 false, .i (.cvi 14 .u8 (.s 13)), .i (.bsl 15 5 1 1 [.int .u8 0] [(0,1,(.s 14))]), .i (.call 17 102 false [(.s 10),(.s 11),(.s 15)]), .i (.ext 17 (.s 16) 0), .i (.ext 18 (.s 16) 1),qm 4 17,qm 5 18]) .ret)))⟩
theorem Au:cd iF=some qq:=by kernel_rfl
theorem zH (l:ax) (m:aW) (hw:m.wc):VC cd iF (aJ [(true,l.c),(true,m.c)]) (fun rs _=>rs=a9 (aY l m) (om m::bN m)):=by
 have e0: [[D.int .u8 ((om m).toNat:Int)]]=bytes [om m]:=rfl
 refine aa Au rfl ?_
 simp(disch:=omega) [qq,ax.c,aW.c,VY]
 refine az (AN l m hw) ?_ (ha:=by first|rfl|(simp[ax.c,aW.c,VY] <;>repeat' constructor))
 simp(disch:=omega) [VY]
 refine ak (fun h1=> ?_) (fun h1=> ?_)
 case refine_2=>simp(disch:=omega) [h1,a9,VY]
 have hp:=sc h1
 simp(disch:=omega) [h1,xS hp,e0,VY]
 refine az ((mn l [om m] m hw (by simp)).re (bE hp)) ?_ (ha:=by first|rfl|(simp[ax.c,aW.c,VY] <;>repeat' constructor))
 simp(disch:=omega) [h1,a9,VY]
abbrev iL:Nat:=56
def qO:AF:=⟨2,5,[.tmp 4, .tmp 5],(.seq (.ops [.i (.lbox 2 (.s 0)), .i (.lbox 3 (.s 1)), .i (.mov 4 (.c (.val false [.nils]))), .i (.mov 5 (qb false))]) (.seq (.seq (.ops [ql 6 2 2 5 true,ql 7 3 3 45 true, .i (.call 9 91 false [(.s 6),(.s 7)]), .i (.not 9 (.s 8))]) (.cond (.s 9) (.seq (.ops [.i (.mov 4 (.c (.val false [.nils]))), .i (.mov 5 (qb false))]) .ret) .skip)) (.seq (.ops [ql 10 2 2 5 true,qf 11 3 0,ql 12 3 11 1 false, .i (.cvi 13 .u8 (.s 12)), .i (.bsl 14 5 1 1 [.int .u8 0] [(0,1,(.s 13))]),ql 15 3 3 45 true, .i (.call 17 92 false [(.s 10),(.s 14),(.s 15)]), .i (.ext 17 (.s 16) 0), .i (.ext 18 (.s 16) 1),qm 4 17,qm 5 18]) .ret)))⟩
theorem Aq:cd iL=some qO:=by kernel_rfl
theorem yg (l:ax) (m:aW) (hw:m.wc):VC cd iL (aJ [(true,l.c),(true,m.c)]) (fun rs _=>rs=a9 (aY l m) (om m::bN m)):=by
 have e0: [[D.int .u8 ((om m).toNat:Int)]]=bytes [om m]:=rfl
 refine aa Aq rfl ?_
 simp(disch:=omega) [qO,ax.c,aW.c,VY]
 refine az (AK l m hw) ?_ (ha:=by first|rfl|(simp[ax.c,aW.c,VY] <;>repeat' constructor))
 simp(disch:=omega) [VY]
 refine ak (fun h1=> ?_) (fun h1=> ?_)
 case refine_2=>simp(disch:=omega) [h1,a9,VY]
 have hp:=sc h1
 have hk:eb m.kind 1 7=true:=by
  have:=ie hp
  simp only[eb,decide_eq_true_eq]
  omega
 simp(disch:=omega) [h1,xS hp,e0,VY]
 refine az ((bh l [om m] m hw hk (by simp)).re (bE hp)) ?_ (ha:=by first|rfl|(simp[ax.c,aW.c,VY] <;>repeat' constructor))
 simp(disch:=omega) [h1,a9,VY]
theorem Io {l:ax} {m:aW} (h:aM l m=true):(bN m).length≤20000:=by
 unfold aM at h
 unfold bN
 split at h
 ·rename_i g;rw[if_pos g];have:=LB (CQ h);omega
 split at h
 ·rename_i g1 g;rw[if_neg g1,if_pos g];have:=CT (pF h);omega
 split at h
 ·rename_i g1 g2 g;rw[if_neg g1,if_neg g2,if_pos g];have:=gB (dD h);omega
 split at h
 ·rename_i g1 g2 g3 g
  rw[if_neg g1,if_neg g2,if_neg g3,if_pos g]
  have k1:=gB (dD (gz h))
  have k2:=oB h
  have k3:=j8 (nS h)
  have k4:=bS (n:=m.block.txs.length) (by omega)
  simp only[dN]at k3
  simp only[mz,List.length_append]
  omega
 split at h
 ·rename_i g1 g2 g3 g4 g
  rw[if_neg g1,if_neg g2,if_neg g3,if_neg g4,if_pos g]
  obtain⟨k1,k2,k3⟩:=yM h
  have k4:=pq k3
  have k5:=aA k2
  have k6:=bS (n:=m.tc.entries.length) (by omega)
  simp only[fM]at k4
  simp only[NK,List.length_append]
  omega
 split at h
 ·rename_i g1 g2 g3 g4 g5 g
  rw[if_neg g1,if_neg g2,if_neg g3,if_neg g4,if_neg g5,if_pos g]
  obtain⟨k1,k2,k3⟩:=mO h
  have k4:=j2 (fun e he=>dD (k3 e he))
  have k5:=CT (pF k2)
  have k6:=bS (n:=m.proof.heads.length) (by omega)
  simp only[dI]at k4
  simp only[oJ,List.length_append]
  omega
 split at h
 ·rename_i g1 g2 g3 g4 g5 g6 g
  rw[if_neg g1,if_neg g2,if_neg g3,if_neg g4,if_neg g5,if_neg g6]
  obtain⟨k1,k2,k3,k4,k5,k6⟩:=ss h
  have v1:=aA k1
  have v2:=aA k2
  have v3:=aA k3
  have v4:=pz (x:=m.incl.tx) (by omega)
  have v5:=gC k6 (Nat.le_refl _)
  rw[List.take_length]at v5
  simp only[wq,List.length_append]
  omega
 ·cases h
def fc (l:ax) (m:aW):Bytes:=if aY l m then om m::bN m else []
theorem zZ (l:ax) (m:aW):(fc l m).length≤20001:=by
 unfold fc
 split
 ·rename_i h
  have:=Io (sc h)
  simp only[List.length_cons]
  omega
 ·simp
end Go.Eng.F
namespace Go.Eng.F
def gv:Bytes→Nat→Nat→Nat×Nat×Nat
 | [],_,_=>(0,0,1)
 |c::r,k,n=>
  if(0 < k∧c.toNat=0)∨(k=8∧128≤c.toNat)then(0,0,2)
  else if c.toNat < 128 then(if n+c.toNat * 128 ^ k≤1152921504606846975 then(n+c.toNat * 128 ^ k,k+1,0)else(0,0,2))
  else gv r (k+1) (n+(c.toNat - 128) * 128 ^ k)
structure Rd where
 at_:Nat
 er:Nat
def getVar (b:Bytes) (a:Nat):Nat×Rd:=
 let x:=gv (b.drop a) 0 0
 if x.2.2=0 then(x.1,⟨a+x.2.1,0⟩)else(0,⟨0,x.2.2⟩)
def Gu (b:Bytes) (a n:Nat):Bytes×Rd:=if a+n≤b.length then((b.drop a).take n,⟨a+n,0⟩)else([],⟨0,1⟩)
def Mr (b:Bytes) (a m:Nat):Bytes×Rd:=
 let x:=getVar b a
 if x.2.er≠0 then([],⟨0,x.2.er⟩)else if m < x.1 then([],⟨0,3⟩)else Gu b x.2.at_ x.1
def Mz (b:Bytes) (a:Nat) (n:Int):Bytes×Rd:=
 let x:=Gu b a (Ln n).toNat
 if x.2.er≠0 then([],⟨0,x.2.er⟩)else if fv x.1 n then x else([],⟨0,4⟩)
def uD (b:Bytes) (r:Rd):Nat×Rd:=if r.er=0 then getVar b r.at_ else(0,r)
def rb (r:Rd) (bad:Bool) (c:Nat):Rd:=if r.er=0∧bad=true then⟨r.at_,c⟩else r
def su (b:Bytes) (r:Rd) (n:Int) (c:Nat):Nat×Rd:=((uD b r).1,rb (uD b r).2 (decide (n≤((uD b r).1:Int))) c)
def D8 (b:Bytes) (r:Rd) (n:Nat):Bytes×Rd:=if r.er=0 then Gu b r.at_ n else([],r)
def Nv (b:Bytes) (r:Rd) (m:Nat):Bytes×Rd:=if r.er=0 then Mr b r.at_ m else([],r)
def Rd.wf (b:Bytes) (r:Rd):Prop:=r.at_≤b.length∧r.er≤9
end Go.Eng.F
namespace Go.Eng.F
def LZ {α:Type} (f:Rd→α×Rd):Nat→Rd→List α×Rd
 |0,r=>([],r)
 |k+1,r=>((f r).1::(LZ f k (f r).2).1,(LZ f k (f r).2).2)
def HM {α:Type} (f:Rd→α×Rd):Nat→Rd→List α×Rd
 |0,r=>([],r)
 |k+1,r=>if r.er=0 then((f r).1::(HM f k (f r).2).1,(HM f k (f r).2).2)else([],r)
def NO (b:Bytes) (l:ax) (r:Rd):bF×Rd:=
 let v:=uD b r
 let h:=uD b v.2
 let k:=D8 b h.2 32
 let w:=su b k.2 l.n 5
 let t:=D8 b w.2 32
 (⟨v.1,h.1,k.1,w.1,t.1⟩,t.2)
def QG (b:Bytes) (l:ax) (r:Rd):Qc×Rd:=
 let v:=uD b r
 let h:=uD b v.2
 let k:=D8 b h.2 32
 if k.2.er=0 then
  let x:=Mz b k.2.at_ l.n
  let t:=LZ (fun r=>D8 b r 32) (bg x.1).length x.2
  (⟨v.1,h.1,k.1,x.1,t.1⟩,t.2)
 else(⟨v.1,h.1,k.1,[],[]⟩,k.2)
def HL (b:Bytes) (l:ax) (r:Rd):Head×Rd:=
 let v:=uD b r
 let h:=uD b v.2
 let p:=su b (rb h.2 (decide (h.1=0)) 5) l.n 5
 let pa:=D8 b p.2 32
 let ro:=D8 b pa.2 32
 let q:=QG b l ro.2
 (⟨v.1,h.1,p.1,pa.1,ro.1,q.1⟩,rb q.2 (!fits ⟨v.1,h.1,p.1,pa.1,ro.1,q.1⟩) 6)
def JL (b:Bytes) (l:ax) (r:Rd):Block×Rd:=
 let h:=HL b l r
 let n:=su b h.2 (l.txs+1) 3
 let x:=HM (fun r=>Nv b r l.tx.toNat) n.1 n.2
 (⟨h.1,x.1⟩,rb x.2 (decide (h.1.root≠bd x.1)) 7)
def Ki (b:Bytes) (l:ax) (view:Int):Nat→Int→Rd→List Entry×Rd
 |0,_,r=>([],r)
 |k+1,bf,r=>if r.er=0 then
   let w:=su b r l.n 5
   let h:=su b (rb w.2 (decide ((w.1:Int)≤bf)) 6) view 6
   let t:=D8 b h.2 32
   (⟨w.1,h.1,t.1⟩::(Ki b l view k w.1 t.2).1,(Ki b l view k w.1 t.2).2)
  else([],r)
def RE (b:Bytes) (l:ax) (r:Rd):Tc×Rd:=
 let v:=uD b r
 let n:=su b v.2 (l.n+1) 3
 let e:=Ki b l v.1 n.1 (-1) n.2
 (⟨v.1,e.1⟩,e.2)
def KU (b:Bytes) (l:ax) (r:Rd):Proof×Rd:=
 let n:=uD b r
 let h:=HM (HL b l) n.1 (rb (rb n.2 (decide (n.1 < 3)) 5) (decide (l.heads < (n.1:Int))) 3)
 let q:=QG b l h.2
 (⟨h.1,q.1⟩,rb q.2 (!uK ⟨h.1,q.1⟩) 6)
def Of (b:Bytes) (l:ax) (r:Rd):(Nat×Nat×Nat×Bytes)×Rd:=
 let h:=uD b r
 let n:=uD b h.2
 let a:=su b (rb (rb n.2 (decide (n.1=0)) 5) (decide (l.txs < (n.1:Int))) 3) n.1 5
 let t:=Nv b a.2 l.tx.toNat
 ((h.1,n.1,a.1,t.1),t.2)
def At (b:Bytes) (a:Nat) (s:Bytes):Prop:=∃t,b.drop a=s++t
theorem At.app {b:Bytes} {a:Nat} {s t:Bytes} (h:At b a (s++t)):At b a s∧At b (a+s.length) t:=by
 obtain⟨u,h⟩:=h
 refine⟨⟨t++u,by rw[h,List.append_assoc]⟩,u,?_⟩
 rw[←List.drop_drop,h,List.append_assoc,List.drop_left]
theorem At.len {b:Bytes} {a:Nat} {s:Bytes} (h:At b a s):a+s.length≤b.length∨s= []:=by
 obtain⟨u,h⟩:=h
 have h2:=congrArg List.length h
 simp only[List.length_drop,List.length_append]at h2
 by_cases hs:s= []
 ·exact .inr hs
 ·have:=List.length_pos_iff.2 hs
  exact .inl (by omega)
theorem At.take {b:Bytes} {a:Nat} {s:Bytes} (h:At b a s):(b.drop a).take s.length=s:=by
 obtain⟨u,h⟩:=h
 rw[h,List.take_left]
end Go.Eng.F
namespace Go.Eng.F
end Go.Eng.F
namespace Go.Eng.F
def bF.o (v:bF):List E:= [.p (.int .i64 v.view), .p (.int .i64 v.height), .o true (some (5,1)) (bytes v.block), .p (.int .i64 v.who), .o true (some (5,1)) (bytes v.tag)]
end Go.Eng.F
namespace Go.Eng.F
theorem vt {n:Int} (h:isNum n=true):ma n:=by
 have:=fg h
 exact⟨by omega,by omega⟩
end Go.Eng.F
namespace Go.Eng.F
def OI (n:Int):Prop:=0≤n∧n≤1152921504606846975
def Qc.rd (q:Qc):Prop:=(OI q.view∧OI q.height)∧q.block.length≤32∧q.bits.length≤2∧q.tags.length≤16∧∀t∈q.tags,t.length≤32
def Head.rd (h:Head):Prop:=(OI h.view∧OI h.height∧OI h.proposer)∧h.parent.length≤32∧h.root.length≤32∧h.qc.rd
end Go.Eng.F
namespace Go.Eng.F
def ax.rd (l:ax):Prop:=(1≤l.n∧l.n≤10)∧(0≤l.tx∧l.tx≤40)∧(0≤l.txs∧l.txs≤8)∧3≤l.heads∧l.heads≤5
theorem KH {l:ax} (h:l.ok=true):l.rd:=by
 simp only[ax.ok,eb,Bool.and_eq_true,decide_eq_true_eq]at h
 exact⟨h.1.1.1.1,h.1.1.1.2,h.1.1.2,h.2⟩
end Go.Eng.F
namespace Go.Eng.F
theorem OI.i64 {n:Int} (h:OI n):ma n:=⟨by have:=h.1;omega,by have:=h.2;omega⟩
theorem Qc.rd.wf {q:Qc} (h:q.rd):q.wf:=by
 obtain⟨⟨h1,h2⟩,h3,h4,h5,h6⟩:=h
 refine⟨h1.i64,h2.i64,?_,?_,?_⟩ <;>simp only[Sz] <;>omega
theorem Head.rd.wf {h:Head} (w:h.rd):h.wf:=by
 obtain⟨⟨h1,h2,h3⟩,h4,h5,h6⟩:=w
 refine⟨h1.i64,h2.i64,h3.i64,?_,?_,h6.wf⟩ <;>simp only[Sz] <;>omega
end Go.Eng.F
namespace Go.Eng.F
def Tc.o (t:Tc):List E:= [.p (.int .i64 t.view), .o true (some (135,3)) (lb t.entries)]
end Go.Eng.F
namespace Go.Eng.F
def NF (b:Bytes) (l:ax) (r:Rd):bn×Rd:=
 let i:=Of b l r
 if i.2.er=0 then
  let p:=LZ (fun r=>D8 b r 32) (cH i.1.2.2.1 i.1.2.1) i.2
  (⟨i.1.1,i.1.2.1,i.1.2.2.1,i.1.2.2.2,p.1⟩,p.2)
 else(⟨i.1.1,i.1.2.1,i.1.2.2.1,i.1.2.2.2,[]⟩,i.2)
end Go.Eng.F
namespace Go.Eng.F
end Go.Eng.F
namespace Go.Eng.F
def kinds:List ByteArray:= [ByteArray.empty,⟨#[118,111,116,101]⟩,⟨#[113,99]⟩,⟨#[104,101,97,100]⟩,⟨#[98,108,111,99,107]⟩,⟨#[116,99]⟩,⟨#[112,114,111,111,102]⟩,⟨#[105,110,99,108]⟩]
end Go.Eng.F
namespace Go.Eng.F
def aW.o (m:aW):List E:= [.p (.int .i64 m.kind), .p (.int .i64 m.vote.view), .p (.int .i64 m.vote.height), .o true (some (5,1)) (bytes m.vote.block), .p (.int .i64 m.vote.who), .o true (some (5,1)) (bytes m.vote.tag), .p (.int .i64 m.qc.view), .p (.int .i64 m.qc.height), .o true (some (5,1)) (bytes m.qc.block), .o true (some (5,1)) (bytes m.qc.bits), .o true (some (24,1)) (cS m.qc.tags), .p (.int .i64 m.head.view), .p (.int .i64 m.head.height), .p (.int .i64 m.head.proposer), .o true (some (5,1)) (bytes m.head.parent), .o true (some (5,1)) (bytes m.head.root), .p (.int .i64 m.head.qc.view), .p (.int .i64 m.head.qc.height), .o true (some (5,1)) (bytes m.head.qc.block), .o true (some (5,1)) (bytes m.head.qc.bits), .o true (some (24,1)) (cS m.head.qc.tags), .p (.int .i64 m.block.head.view), .p (.int .i64 m.block.head.height), .p (.int .i64 m.block.head.proposer), .o true (some (5,1)) (bytes m.block.head.parent), .o true (some (5,1)) (bytes m.block.head.root), .p (.int .i64 m.block.head.qc.view), .p (.int .i64 m.block.head.qc.height), .o true (some (5,1)) (bytes m.block.head.qc.block), .o true (some (5,1)) (bytes m.block.head.qc.bits), .o true (some (24,1)) (cS m.block.head.qc.tags), .o true (some (24,1)) (cS m.block.txs), .p (.int .i64 m.tc.view), .o true (some (135,3)) (lb m.tc.entries), .o true (some (64,10)) (gD m.proof.heads), .p (.int .i64 m.proof.qc.view), .p (.int .i64 m.proof.qc.height), .o true (some (5,1)) (bytes m.proof.qc.block), .o true (some (5,1)) (bytes m.proof.qc.bits), .o true (some (24,1)) (cS m.proof.qc.tags), .p (.int .i64 m.incl.height), .p (.int .i64 m.incl.n), .p (.int .i64 m.incl.idx), .o true (some (5,1)) (bytes m.incl.tx), .o true (some (24,1)) (cS m.incl.path)]
def F4 (b:Bytes) (m:aW) (r:Rd):aW×Nat:=if r.er≠0 then(cX,r.er)else if r.at_≠b.length then(cX,9)else(m,0)
def Ro (l:ax) (b:Bytes):Nat→aW×Nat
 |1=>F4 b {cX with kind:=1,vote:=(NO b l ⟨1,0⟩).1} (NO b l ⟨1,0⟩).2
 |2=>F4 b {cX with kind:=2,qc:=(QG b l ⟨1,0⟩).1} (QG b l ⟨1,0⟩).2
 |3=>F4 b {cX with kind:=3,head:=(HL b l ⟨1,0⟩).1} (HL b l ⟨1,0⟩).2
 |4=>F4 b {cX with kind:=4,block:=(JL b l ⟨1,0⟩).1} (JL b l ⟨1,0⟩).2
 |5=>F4 b {cX with kind:=5,tc:=(RE b l ⟨1,0⟩).1} (RE b l ⟨1,0⟩).2
 |6=>F4 b {cX with kind:=6,proof:=(KU b l ⟨1,0⟩).1} (KU b l ⟨1,0⟩).2
 |7=>F4 b {cX with kind:=7,incl:=(NF b l ⟨1,0⟩).1} (NF b l ⟨1,0⟩).2
 |_=>(cX,8)
def dec (l:ax) (b:Bytes):aW×Nat:=if l.ok=true then(match b[0]? with|none=>(cX,1)|some c=>Ro l b c.toNat)else(cX,5)
end Go.Eng.F
namespace Go.Eng.F
theorem H6.wc {q:Qc} (h:H6 q):q.wc:=by
 have h1:=fg h.view
 have h2:=fg h.height
 have h3:=h.block
 have h4:=h.bits
 have h5:=h.tags
 refine⟨⟨⟨by omega,by omega⟩,⟨by omega,by omega⟩,?_,?_,?_⟩,fun x hx=> ?_⟩ <;>unfold Sz
 ·omega
 ·omega
 ·omega
 ·have:=h.tag x hx;omega
end Go.Eng.F
namespace Go.Eng.F
end Go.Eng.F
namespace Go.Eng.F
structure Ev where
 kind:Int
 n:Int
 msg:aW
def Ev.c (e:Ev):List D:= .int .i64 e.kind:: .int .i64 e.n::e.msg.c
def PF (s:Bytes) (a n:Nat):Bytes:=(s.drop (a+8)).take (n - 8)
def Jj (k:Nat):List Ev:=if k=0 then []else [⟨1,k,cX⟩]
def Oq (l:ax) (d:Bytes):Ev:=if(dec l d).2=0 then⟨3,0,(dec l d).1⟩else⟨2,(dec l d).2,cX⟩
def Lb (l:ax) (s:Bytes) (cl:Bool):Nat→Nat→Nat→List Ev→List Ev×Nat×Nat
 |0,a,k,e=>(e,k,a)
 |g+1,a,k,e=>
  if a < s.length then
   if(xF l s a).1=1∧cl=false then(e,k,a)
   else if(xF l s a).1≠3 then Lb l s cl g (a+1) (k+1) e
   else Lb l s cl g (a+(xF l s a).2.toNat) 0 (e++(Jj k++ [Oq l (PF s a (xF l s a).2.toNat)]))
  else(e,k,a)
def Nz (l:ax) (s:Bytes) (cl:Bool) (k:Nat):List Ev×Nat×Nat:=
 let r:=Lb l s cl s.length 0 k []
 (r.1++(if cl=true then Jj r.2.1 else []),r.2)
end Go.Eng.F
namespace Go.Eng.F
def tail (l:ax) (s:Bytes):Nat×Nat:=if l.ok=true then((Nz l s false 0).2.1,s.length - (Nz l s false 0).2.2)else(0,0)
end Go.Eng.F
namespace Go.Eng.F
def cZ (n w:Nat):Bytes:=(List.range w).map fun i=>b8 ((n / 256 ^ i:Nat):Int)
theorem cY (n w:Nat):(cZ n w).length=w:=by simp[cZ]
theorem jW (n w:Nat):cZ n (w+1)=cZ n w++ [b8 ((n / 256 ^ w:Nat):Int)]:=by simp[cZ,List.range_succ]
theorem Py (n:Nat):((n:Int).fdiv (2 ^ min 8 IntKind.i64.bits))=((n / 256 ^ 1:Nat):Int):=by
 rw[show(2:Int) ^ min 8 IntKind.i64.bits=256 by decide,Int.fdiv_eq_ediv_of_nonneg _ (by decide)]
 show _=((n / 256:Nat):Int)
 omega
theorem Ib (n:Nat):((n:Int).fdiv (2 ^ min 16 IntKind.i64.bits))=((n / 256 ^ 2:Nat):Int):=by
 rw[show(2:Int) ^ min 16 IntKind.i64.bits=65536 by decide,Int.fdiv_eq_ediv_of_nonneg _ (by decide)]
 show _=((n / 65536:Nat):Int)
 omega
theorem Ia (n:Nat):((n:Int).fdiv (2 ^ min 24 IntKind.i64.bits))=((n / 256 ^ 3:Nat):Int):=by
 rw[show(2:Int) ^ min 24 IntKind.i64.bits=16777216 by decide,Int.fdiv_eq_ediv_of_nonneg _ (by decide)]
 show _=((n / 16777216:Nat):Int)
 omega
abbrev iP:Nat:=104
def iE:AF:=⟨3,6,[.tmp 6, .tmp 7],(.seq (.ops [.i (.mov 6 (.c (.val false [.nils]))), .i (.mov 7 (qb false))]) (.seq (.seq (.ops [qm 10 2, .i (.call 12 103 false [(.s 10),(qi 1),(qi 7)]), .i (.not 12 (.s 11)),qm 13 12, .g 13 false 15 (.mov 14 (.s 1)), .g 13 false 16 (.bin 15 .lss (.s 14) (qi 0)), .i (.pick 16 (.s 13) (qb true) (.s 15)),qm 17 16, .g 17 false 19 (.mov 18 (.s 1)), .g 17 false 20 (.mov 19 (.s 2)), .g 17 false 21 (.bin 20 .mul (qi 8) (.s 19)), .g 17 false 22 (.bin 21 .shl (qi 1) (.s 20)), .g 17 false 23 (.bin 22 .geq (.s 18) (.s 21)), .i (.pick 23 (.s 17) (qb true) (.s 22))]) (.cond (.s 23) (.seq (.ops [.i (.mov 6 (.c (.val false [.nils]))), .i (.mov 7 (qb false))]) .ret) .skip)) (.seq (.ops [qm 24 0,qk 26 47 24,qm 8 25]) (.seq (.seq (.ops [qm 26 2, .i (.mov 27 (qi 0))]) (.block 0 (.loop [38,37,36,35,34,33,32,31,30,29,28,9] (.seq (.ops [qd 28 .lss 27 26]) (.seq (.cond (.s 28) .skip (.exit 0)) (.seq (.block 1 (.seq (.ops [qm 29 27,qm 9 29]) (.ops [qm 30 8,qm 31 1,qm 32 9, .i (.bin 33 .mul (qi 8) (.s 32)),qd 34 .shr 31 33, .i (.cvi 35 .u8 (.s 34)), .i (.lsl 36 1 1 [.int .u8 0] [(0,1,(.s 35))]), .i (.app 37 5 1 1 (.s 30) (.s 36)),qm 8 37]))) (.ops [.i (.bin 38 .add (.s 27) (qi 1)),qm 27 38]))))))) (.seq (.ops [qm 39 8,qm 6 39, .i (.mov 7 (qb true))]) .ret)))))⟩
theorem rL:cd iP=some iE:=by kernel_rfl
theorem Dy (b:Bytes) (n:Nat) (hb:b.length≤1073741824) (hn:n < 65536):VC cd iP (aJ [(false,[.sl (bytes b)]),(false,[.int .i64 (n:Int)]),(false,[.int .i64 2])]) (fun rs _=>rs= [(false,[.o true (some (5,1)) (bytes (b++cZ n 2))]),(false,[.p (.bool true)])]):=by
 have n0:¬(n:Int) < 0:=by omega
 have n1:¬(65536:Int)≤(n:Int):=by omega
 have n2:¬65536≤n:=by omega
 have e0:IntKind.i64.wrap (2 ^ min 16 IntKind.i64.bits)=65536:=by decide
 refine aa rL rfl ?_
 simp(disch:=omega) [iE,VY]
 refine az (aQ 2 1 7) ?_
 simp(disch:=omega) [eb,n0,n1,n2,e0,VY]
 refine az (aH b (by omega)) ?_
 simp(disch:=omega) [VY]
 refine bM (σ:=Nat×Nat×Bytes) (f1:=_) (es0:=_) (by simp(disch:=omega) [VY];rfl) (by simp(disch:=omega) [VY];rfl) (fun p=> [(27, .val false [.int .i64 (p.1:Int)]),(8, .val false [.ow 221184 p.2.1])]) (fun p=> [(221184, .sl p.2.1 true true (some (5,1)) (bytes p.2.2))])
  (fun p g=>g+p.1=2∧p.2.2=b++cZ n p.1) (0,_,b) 2 (by simp(disch:=omega) [VY];rfl) (by simp(disch:=omega) [VY]) ⟨rfl,by simp[cZ]⟩ ?_
 rintro⟨i,v,x⟩ nx g ⟨hg,h5⟩ P hP
 simp only at hg h5
 subst h5
 have hcl:((b++cZ n i).length)≤2000000000:=by rw[List.length_append,cY];omega
 by_cases h6:i < 2
 ·have hi:i=0∨i=1:=by omega
  rcases hi with rfl|rfl
  ·simp(disch:=omega) [j0,cY,Py,Ib,Ia,e0,VY]
   have ef:cZ n 1=cZ n 0++ [b8 ((n:Int))]:=by simp[cZ]
   rw[←ef]
   exact hP (1,_,b++cZ n 1) (g - 1) _ _ (by omega) ⟨by simp only;omega,rfl⟩ (by simp(disch:=omega) [VY] <;>rfl) (by simp(disch:=omega) [VY])
  ·simp(disch:=omega) [j0,cY,Py,Ib,Ia,e0,VY]
   have ef:cZ n 2=cZ n 1++ [b8 ((n:Int) / 256)]:=by rw[jW n 1,show((n / 256 ^ 1:Nat):Int)=(n:Int) / 256 by show((n / 256:Nat):Int)=_;omega]
   rw[←ef]
   exact hP (2,_,b++cZ n 2) (g - 1) _ _ (by omega) ⟨by simp only;omega,rfl⟩ (by simp(disch:=omega) [VY] <;>rfl) (by simp(disch:=omega) [VY])
 ·obtain rfl:i=2:=by omega
  simp(disch:=omega) [VY]
theorem De (b:Bytes) (n:Nat) (hb:b.length≤1073741824) (hn:n < 4294967296):VC cd iP (aJ [(false,[.sl (bytes b)]),(false,[.int .i64 (n:Int)]),(false,[.int .i64 4])]) (fun rs _=>rs= [(false,[.o true (some (5,1)) (bytes (b++cZ n 4))]),(false,[.p (.bool true)])]):=by
 have n0:¬(n:Int) < 0:=by omega
 have n1:¬(4294967296:Int)≤(n:Int):=by omega
 have n2:¬4294967296≤n:=by omega
 have e0:IntKind.i64.wrap (2 ^ min 32 IntKind.i64.bits)=4294967296:=by decide
 refine aa rL rfl ?_
 simp(disch:=omega) [iE,VY]
 refine az (aQ 4 1 7) ?_
 simp(disch:=omega) [eb,n0,n1,n2,e0,VY]
 refine az (aH b (by omega)) ?_
 simp(disch:=omega) [VY]
 refine bM (σ:=Nat×Nat×Bytes) (f1:=_) (es0:=_) (by simp(disch:=omega) [VY];rfl) (by simp(disch:=omega) [VY];rfl) (fun p=> [(27, .val false [.int .i64 (p.1:Int)]),(8, .val false [.ow 221184 p.2.1])]) (fun p=> [(221184, .sl p.2.1 true true (some (5,1)) (bytes p.2.2))])
  (fun p g=>g+p.1=4∧p.2.2=b++cZ n p.1) (0,_,b) 4 (by simp(disch:=omega) [VY];rfl) (by simp(disch:=omega) [VY]) ⟨rfl,by simp[cZ]⟩ ?_
 rintro⟨i,v,x⟩ nx g ⟨hg,h5⟩ P hP
 simp only at hg h5
 subst h5
 have hcl:((b++cZ n i).length)≤2000000000:=by rw[List.length_append,cY];omega
 by_cases h6:i < 4
 ·have hi:i=0∨i=1∨i=2∨i=3:=by omega
  rcases hi with rfl|rfl|rfl|rfl
  ·simp(disch:=omega) [j0,cY,Py,Ib,Ia,e0,VY]
   have ef:cZ n 1=cZ n 0++ [b8 ((n:Int))]:=by simp[cZ]
   rw[←ef]
   exact hP (1,_,b++cZ n 1) (g - 1) _ _ (by omega) ⟨by simp only;omega,rfl⟩ (by simp(disch:=omega) [VY] <;>rfl) (by simp(disch:=omega) [VY])
  ·simp(disch:=omega) [j0,cY,Py,Ib,Ia,e0,VY]
   have ef:cZ n 2=cZ n 1++ [b8 ((n:Int) / 256)]:=by rw[jW n 1,show((n / 256 ^ 1:Nat):Int)=(n:Int) / 256 by show((n / 256:Nat):Int)=_;omega]
   rw[←ef]
   exact hP (2,_,b++cZ n 2) (g - 1) _ _ (by omega) ⟨by simp only;omega,rfl⟩ (by simp(disch:=omega) [VY] <;>rfl) (by simp(disch:=omega) [VY])
  ·simp(disch:=omega) [j0,cY,Py,Ib,Ia,e0,VY]
   have ef:cZ n 3=cZ n 2++ [b8 ((n:Int) / 65536)]:=by rw[jW n 2,show((n / 256 ^ 2:Nat):Int)=(n:Int) / 65536 by show((n / 65536:Nat):Int)=_;omega]
   rw[←ef]
   exact hP (3,_,b++cZ n 3) (g - 1) _ _ (by omega) ⟨by simp only;omega,rfl⟩ (by simp(disch:=omega) [VY] <;>rfl) (by simp(disch:=omega) [VY])
  ·simp(disch:=omega) [j0,cY,Py,Ib,Ia,e0,VY]
   have ef:cZ n 4=cZ n 3++ [b8 ((n:Int) / 16777216)]:=by rw[jW n 3,show((n / 256 ^ 3:Nat):Int)=(n:Int) / 16777216 by show((n / 16777216:Nat):Int)=_;omega]
   rw[←ef]
   exact hP (4,_,b++cZ n 4) (g - 1) _ _ (by omega) ⟨by simp only;omega,rfl⟩ (by simp(disch:=omega) [VY] <;>rfl) (by simp(disch:=omega) [VY])
 ·obtain rfl:i=4:=by omega
  simp(disch:=omega) [VY]
theorem Kk (b:Bytes):M5 b < 4294967296:=by
 have h:jJ (0 ^^^ 4294967295) b < 4294967296:=tz b (by decide)
 exact Nat.xor_lt_two_pow (n:=32) h (by decide)
def ga (b:Bytes):Bytes:= [181,70]++cZ b.length 2++cZ (M5 b) 4++b
def bD (l:ax) (b:Bytes):Bool:=l.ok && eb b.length 1 l.frame
def fY (l:ax) (b:Bytes):List (Bool×List E):= [(false,[.o true (some (5,1)) (bytes (if bD l b=true then ga b else []))]),(false,[.p (.bool (bD l b))])]
abbrev sY:Nat:=60
def ta:AF:=⟨2,6,[.tmp 4, .tmp 5],(.seq (.ops [.i (.lbox 2 (.s 0)), .i (.mov 4 (.c (.val false [.nils]))), .i (.mov 5 (qb false))]) (.seq (.seq (.ops [ql 8 2 2 5 true,qk 10 70 8, .i (.not 10 (.s 9)),qm 11 10, .g 11 false 13 (.mov 12 (.s 1)), .g 11 false 14 (.len 13 false (.s 12)), .g 11 false 15 (.fad 14 (.s 2) 3), .g 11 false 16 (.ldl 15 2 (.s 14) 1 false), .g 11 false 17 (.call 17 103 false [(.s 13),(qi 1),(.s 15)]), .g 11 false 18 (.not 17 (.s 16)), .i (.pick 18 (.s 11) (qb true) (.s 17))]) (.cond (.s 18) (.seq (.ops [.i (.mov 4 (.c (.val false [.nils]))), .i (.mov 5 (qb false))]) .ret) .skip)) (.seq (.ops [.i (.bsl 20 5 1 2 [.int .u8 0] [(0,1,(.c (.val false [.int .u8 181]))),(1,1,(.c (.val false [.int .u8 70])))]),qm 21 1,qn 22 21, .i (.call 24 104 false [(.s 20),(.s 22),(qi 2)]),qm 19 23, .i (.ext 24 (.s 19) 0), .i (.ext 25 (.s 19) 1),qm 6 24,qm 7 25]) (.seq (.ops [qm 27 6,qm 28 1,qk 30 105 28, .i (.call 31 104 false [(.s 27),(.s 29),(qi 4)]),qm 26 30, .i (.ext 31 (.s 26) 0), .i (.ext 32 (.s 26) 1),qm 6 31]) (.seq (.ops [qm 33 6,qm 34 1, .i (.app 35 5 1 1 (.s 33) (.s 34)),qm 4 35, .i (.mov 5 (qb true))]) .ret)))))⟩
theorem Dk:cd sY=some ta:=by kernel_rfl
theorem Aw (l:ax) (b:Bytes) (hb:b.length≤1073741824):VC cd sY (aJ [(true,l.c),(false,[.sl (bytes b)])]) (fun rs _=>rs=fY l b):=by
 refine VC.Jn ?_
 refine aa Dk rfl ?_
 simp(disch:=omega) [ta,ax.c,VZ]
 refine az (cM l) ?_ (ha:=by first|rfl|(simp[ax.c,VY] <;>repeat' constructor))
 simp(disch:=omega) [VZ]
 by_cases h1:l.ok=true
 case neg=>simp(disch:=omega) [h1,fY,bD,av,eX,gW,kl,VZ]
 simp(disch:=omega) [h1,VZ]
 refine az (aQ (b.length:Int) 1 l.frame) ?_
 by_cases h2:eb (b.length:Int) 1 l.frame=true
 case neg=>simp(disch:=omega) [h1,h2,fY,bD,av,eX,gW,kl,VZ]
 have hl:=KH h1
 have hf:=h1
 simp only[ax.ok,eb,Bool.and_eq_true,decide_eq_true_eq]at hf
 have h3:=fg h2
 simp(disch:=omega) [h2,VZ]
 refine az (Dy [181,70] b.length (by simp) (by omega)) ?_
 simp(disch:=omega) [VZ]
 refine az (FK b hb) ?_
 simp(disch:=omega) [VZ]
 refine az (De (181::70::cZ b.length 2) (M5 b) (by simp[cY]) (Kk b)) ?_
 have hr:fY l b= [(false,[.o true (some (5,1)) (bytes (ga b))]),(false,[.p (.bool true)])]:=by
  have:bD l b=true:=by rw[bD,h1,h2];rfl
  rw[fY,this];rfl
 rw[hr]
 simp(disch:=omega) [ga,cn,cY,eX,gW,kl,VZ]
end Go.Eng.F
namespace Go.Eng.F
end Go.Eng.F
namespace Go.Eng.F
def Lm (l:List aW):List (List D):=l.map aW.c
theorem Ho (l:List aW):(Lm l).length=l.length:=by simp[Lm]
end Go.Eng.F
namespace Go.Eng.F
theorem At.le {b:Bytes} {a:Nat} {s:Bytes} (h:At b a s) (h0:0 < s.length):a+s.length≤b.length:=by
 rcases h.len with h1|h1
 ·exact h1
 ·rw[h1]at h0;simp at h0
def Cut (b:Bytes) (a:Nat) (s:Bytes):Prop:=a≤b.length∧∃k,k < s.length∧b.drop a=s.take k
theorem Cut.app {b:Bytes} {a:Nat} {s t:Bytes} (h:Cut b a (s++t)):Cut b a s∨(At b a s∧Cut b (a+s.length) t):=by
 obtain⟨h0,k,hk,h⟩:=h
 by_cases hs:k < s.length
 ·exact .inl ⟨h0,k,hs,by rw[h,List.take_append_of_le_length (by omega)]⟩
 ·have e:b.drop a=s++t.take (k - s.length):=by rw[h,List.take_append,List.take_of_length_le (by omega)]
  have hl:=congrArg List.length e
  simp only[List.length_drop,List.length_append,List.length_take]at hl hk
  refine .inr ⟨⟨_,e⟩,by omega,k - s.length,by omega,?_⟩
  rw[←List.drop_drop,e,List.drop_left]
theorem Cut.nil {b:Bytes} {a:Nat} (h:Cut b a []):False:=by
 obtain⟨_,k,hk,_⟩:=h
 simp at hk
end Go.Eng.F
namespace Go.Eng.F
theorem At.join {b:Bytes} {a:Nat} {s t:Bytes} (h1:At b a s) (h2:At b (a+s.length) t):At b a (s++t):=by
 obtain⟨u,h1⟩:=h1
 obtain⟨w,h2⟩:=h2
 refine⟨w,?_⟩
 rw[←List.drop_drop,h1,List.drop_left]at h2
 rw[h1,h2,List.append_assoc]
def H8 (b:Bytes) (r:Rd) (s:Bytes) (r':Rd):Prop:=r.er=0∧At b r.at_ s∧r'=⟨r.at_+s.length,0⟩
theorem H8.nil {b:Bytes} {r:Rd} (h:r.er=0):H8 b r [] r:=⟨h,⟨b.drop r.at_,rfl⟩,by obtain⟨x,y⟩:=r;simp only at h;subst h;rfl⟩
theorem H8.join {b:Bytes} {r r1 r2:Rd} {s t:Bytes} (h1:H8 b r s r1) (h2:H8 b r1 t r2):H8 b r (s++t) r2:=by
 obtain⟨a1,a2,rfl⟩:=h1
 obtain⟨_,b2,rfl⟩:=h2
 exact⟨a1,a2.join b2,by simp only[List.length_append,Nat.add_assoc]⟩
theorem H8.er {b:Bytes} {r r1:Rd} {s:Bytes} (h:H8 b r s r1):r1.er=0:=by rw[h.2.2]
theorem H8.len {b:Bytes} {r r':Rd} {s t:Bytes} {n m:Nat} (h:H8 b r (s++(aV n++t)) r') (e:m=n):H8 b r (s++(aV m++t)) r':=by
 rw[e]
 exact h
end Go.Eng.F
namespace Go.Eng.F
theorem H8.rest {c:UInt8} {t s:Bytes} {r':Rd} (h:H8 (c::t) ⟨1,0⟩ s r') (ha:r'.at_=(c::t).length):t=s:=by
 obtain⟨_,⟨u,hu⟩,h2⟩:=h
 rw[h2]at ha
 simp only[List.length_cons]at ha
 simp only[List.drop_succ_cons,List.drop_zero]at hu
 have hl:=congrArg List.length hu
 rw[List.length_append]at hl
 have:u= []:=List.eq_nil_of_length_eq_zero (by omega)
 rw[this,List.append_nil]at hu
 exact hu
end Go.Eng.F
namespace Go.Eng.F
theorem Nc (i:Nat):Int.tdiv (i:Int) 256=((i / 256:Nat):Int):=by rw[Int.tdiv_eq_ediv_of_nonneg (by omega)];omega
theorem MT (i:Nat):Int.tmod (i:Int) 256=((i % 256:Nat):Int):=by rw[Int.tmod_eq_emod_of_nonneg (by omega)];omega
theorem NZ (n:Nat):b8 ((n % 256:Nat):Int)=b8 (n:Int):=by
 apply UInt8.toNat_inj.1
 have h1:=Cm ((n % 256:Nat):Int)
 have h2:=Cm (n:Int)
 have e:IntKind.u8.wrap ((n % 256:Nat):Int)=IntKind.u8.wrap (n:Int):=by simp[IntKind.wrap,IntKind.bits,IntKind.signed]
 rw[e,←h2]at h1
 omega
abbrev qX:Nat:=93
def rG:AF:=⟨3,6,[.tmp 6, .tmp 7],(.seq (.ops [.i (.mov 6 (.c (.val false [.nils]))), .i (.mov 7 (qb false))]) (.seq (.seq (.ops [qm 10 2, .i (.call 12 67 false [(.s 10),(qi 1),(qi 7)]), .i (.not 12 (.s 11)),qm 13 12, .g 13 false 15 (.mov 14 (.s 1)), .g 13 false 16 (.bin 15 .lss (.s 14) (qi 0)), .i (.pick 16 (.s 13) (qb true) (.s 15)),qm 17 16, .g 17 false 19 (.mov 18 (.s 1)), .g 17 false 20 (.mov 19 (.s 2)), .g 17 false 21 (.call 21 154 false [(.s 19)]), .g 17 false 22 (.bin 21 .geq (.s 18) (.s 20)), .i (.pick 22 (.s 17) (qb true) (.s 21))]) (.cond (.s 22) (.seq (.ops [.i (.mov 6 (.c (.val false [.nils]))), .i (.mov 7 (qb false))]) .ret) .skip)) (.seq (.ops [qm 23 0,qk 25 43 23,qm 8 24]) (.seq (.seq (.ops [.i (.mov 9 (qi 0))]) (.block 0 (.loop [37,36,35,34,33,32,31,30,29,28,27,26,25] (.seq (.seq (.ops [qm 25 9,qm 26 2,qd 27 .lss 25 26]) (.cond (.s 27) .skip (.exit 0))) (.seq (.block 1 (.seq (.ops [qm 30 8,qm 31 1, .i (.bin 32 .rem (.s 31) (qi 256)), .i (.cvi 33 .u8 (.s 32)), .i (.lsl 34 1 1 [.int .u8 0] [(0,1,(.s 33))]), .i (.app 35 5 1 1 (.s 30) (.s 34)),qm 8 35]) (.ops [qm 36 1, .i (.bin 37 .quo (.s 36) (qi 256)),qm 1 37]))) (.ops [qm 28 9, .i (.bin 29 .add (.s 28) (qi 1)),qm 9 29])))))) (.seq (.ops [qm 38 8,qm 6 38, .i (.mov 7 (qb true))]) .ret)))))⟩
theorem A6:cd qX=some rG:=by kernel_rfl
abbrev pT:Nat:=154
def iN:AF:=⟨1,3,[.tmp 2],(.seq (.ops [.i (.mov 2 (qi 0))]) (.seq (.ops [qm 3 0, .i (.bin 4 .mul (qi 8) (.s 3)), .i (.bin 5 .shl (qi 1) (.s 4)),qm 2 5]) .ret))⟩
theorem qR:cd pT=some iN:=by kernel_rfl
theorem ox (b:Bytes) (n w:Nat) (hb:b.length≤1073741824) (hw:w=2∨w=4) (hn:n < 256 ^ w):VC cd qX (aJ [(false,[.sl (bytes b)]),(false,[.int .i64 (n:Int)]),(false,[.int .i64 (w:Int)])]) (fun rs _=>rs= [(false,[.o true (some (5,1)) (bytes (b++cZ n w))]),(false,[.p (.bool true)])]):=by
 have w1:eb (w:Int) 1 7=true:=by simp only[eb,decide_eq_true_eq];omega
 have n0:¬(n:Int) < 0:=by omega
 have hw4:w≤4:=by omega
 have hW:256 ^ w≤4294967296:=by rcases hw with rfl|rfl <;>simp
 have ht:VC cd pT (aJ [(false,[.int .i64 (w:Int)])]) (fun rs _=>rs=it ((256 ^ w:Nat):Int)):=by
  rcases hw with rfl|rfl
  ·have e0:IntKind.i64.wrap (2 ^ min 16 IntKind.i64.bits)=65536:=by decide
   refine aa qR rfl ?_
   simp(disch:=omega) [iN,e0,VY]
  ·have e0:IntKind.i64.wrap (2 ^ min 32 IntKind.i64.bits)=4294967296:=by decide
   refine aa qR rfl ?_
   simp(disch:=omega) [iN,e0,VY]
 have n1:¬((256 ^ w:Nat):Int)≤(n:Int):=by omega
 have n2:¬256 ^ w≤n:=by omega
 clear hw
 generalize 256 ^ w=W at hn ht n1 n2 hW
 refine aa A6 rfl ?_
 simp(disch:=omega) [rG,VY]
 refine az (bq (w:Int) 1 7) ?_
 simp(disch:=omega) [w1,n0,n1,n2,VY]
 refine az (ht) ?_
 simp(disch:=omega) [w1,n0,n1,n2,VY]
 refine az (cv b (by omega)) ?_
 simp(disch:=omega) [VY]
 refine bM (σ:=Nat×Nat×Nat×Bytes) (f1:=_) (es0:=_) (by simp(disch:=omega) [VY];rfl) (by simp(disch:=omega) [VY];rfl) (fun p=> [(9, .val false [.int .i64 (p.1:Int)]),(1, .val false [.int .i64 (p.2.1:Int)]),(8, .val false [.ow 212992 p.2.2.1])]) (fun p=> [(212992, .sl p.2.2.1 true true (some (5,1)) (bytes p.2.2.2))])
  (fun p g=>g+p.1=w∧p.2.1=n / 256 ^ p.1∧p.2.2.2=b++cZ n p.1) (0,n,_,b) w (by simp(disch:=omega) [VY];rfl) (by simp(disch:=omega) [VY]) ⟨by simp,by simp,by simp[cZ]⟩ ?_
 rintro⟨i,q,v,x⟩ nx g ⟨hg,h4,h5⟩ P hP
 simp only at hg h4 h5
 have hq:q≤n:=by rw[h4];exact Nat.div_le_self _ _
 have hx:x.length≤1073741824+4:=by rw[h5,List.length_append,cY];omega
 simp(disch:=omega) [VY]
 refine ab (fun h6=> ?_) (fun h6=> ?_)
 ·have ef:x++ [b8 (q:Int)]=b++cZ n (i+1):=by rw[h5,jW,List.append_assoc,h4]
  have hd:q / 256=n / 256 ^ (i+1):=by rw[h4,Nat.div_div_eq_div_mul,Nat.pow_succ]
  have eq:bytes x++ [[.int .u8 (IntKind.u8.wrap ((q % 256:Nat):Int))]]=bytes (b++cZ n (i+1)):=by rw[j0,NZ,ef]
  have eq1:IntKind.u8.wrap ((q:Int).tmod 256)=IntKind.u8.wrap ((q % 256:Nat):Int):=by rw[MT]
  have eq2:IntKind.i64.wrap ((q:Int).tdiv 256)=((q / 256:Nat):Int):=by rw[Nc];exact au (by omega) (by omega)
  have eq3:IntKind.i64.wrap ((q:Int) / 256)=((q / 256:Nat):Int):=by rw[←Int.tdiv_eq_ediv_of_nonneg (by omega)];exact eq2
  have eq4:bytes x++ [[.int .u8 (IntKind.u8.wrap ((q:Int) % 256))]]=bytes (b++cZ n (i+1)):=by rw[←Int.tmod_eq_emod_of_nonneg (by omega),eq1];exact eq
  rw[←eq1]at eq
  generalize hr:q / 256=r at hd eq2 eq3
  simp(disch:=omega) [eq,eq2,eq3,eq4,VY]
  exact hP (i+1,r,_,b++cZ n (i+1)) (g - 1) _ _ (by omega) ⟨by simp only;omega,hd,rfl⟩ (by simp(disch:=omega) [VY] <;>rfl) (by simp(disch:=omega) [VY])
 ·obtain rfl:i=w:=by omega
  subst h5
  simp(disch:=omega) [VY]
end Go.Eng.F
namespace Go.Eng.F
abbrev tW:Nat:=57
def sK:AF:=⟨2,6,[.tmp 4, .tmp 5],(.seq (.ops [.i (.lbox 2 (.s 0)), .i (.mov 4 (.c (.val false [.nils]))), .i (.mov 5 (qb false))]) (.seq (.seq (.ops [ql 8 2 2 5 true,qk 10 66 8, .i (.not 10 (.s 9)),qm 11 10, .g 11 false 13 (.mov 12 (.s 1)), .g 11 false 14 (.len 13 false (.s 12)), .g 11 false 15 (.fad 14 (.s 2) 3), .g 11 false 16 (.ldl 15 2 (.s 14) 1 false), .g 11 false 17 (.call 17 67 false [(.s 13),(qi 1),(.s 15)]), .g 11 false 18 (.not 17 (.s 16)), .i (.pick 18 (.s 11) (qb true) (.s 17))]) (.cond (.s 18) (.seq (.ops [.i (.mov 4 (.c (.val false [.nils]))), .i (.mov 5 (qb false))]) .ret) .skip)) (.seq (.ops [.i (.bsl 20 5 1 2 [.int .u8 0] [(0,1,(.c (.val false [.int .u8 181]))),(1,1,(.c (.val false [.int .u8 70])))]),qm 21 1,qn 22 21, .i (.call 24 93 false [(.s 20),(.s 22),(qi 2)]),qm 19 23, .i (.ext 24 (.s 19) 0), .i (.ext 25 (.s 19) 1),qm 6 24,qm 7 25]) (.seq (.ops [qm 27 6,qm 28 1,qk 30 69 28, .i (.call 31 93 false [(.s 27),(.s 29),(qi 4)]),qm 26 30, .i (.ext 31 (.s 26) 0), .i (.ext 32 (.s 26) 1),qm 6 31]) (.seq (.ops [qm 33 6,qm 34 1, .i (.app 35 5 1 1 (.s 33) (.s 34)),qm 4 35, .i (.mov 5 (qb true))]) .ret)))))⟩
theorem Cu:cd tW=some sK:=by kernel_rfl
theorem Ba (l:ax) (b:Bytes) (hb:b.length≤1073741824):VC cd tW (aJ [(true,l.c),(false,[.sl (bytes b)])]) (fun rs _=>rs=fY l b):=by
 refine VC.Jn ?_
 refine aa Cu rfl ?_
 simp(disch:=omega) [sK,ax.c,VZ]
 refine az (bO l) ?_ (ha:=by first|rfl|(simp[ax.c,VY] <;>repeat' constructor))
 simp(disch:=omega) [VZ]
 by_cases h1:l.ok=true
 case neg=>simp(disch:=omega) [h1,fY,bD,av,eX,gW,kl,VZ]
 simp(disch:=omega) [h1,VZ]
 refine az (bq (b.length:Int) 1 l.frame) ?_
 by_cases h2:eb (b.length:Int) 1 l.frame=true
 case neg=>simp(disch:=omega) [h1,h2,fY,bD,av,eX,gW,kl,VZ]
 have hl:=KH h1
 have hf:=h1
 simp only[ax.ok,eb,Bool.and_eq_true,decide_eq_true_eq]at hf
 have h3:=fg h2
 simp(disch:=omega) [h2,VZ]
 refine az (ox [181,70] b.length 2 (by simp) (.inl rfl) (by simp;omega)) ?_
 simp(disch:=omega) [VZ]
 refine az (Eu b hb) ?_
 simp(disch:=omega) [VZ]
 refine az (ox (181::70::cZ b.length 2) (M5 b) 4 (by simp[cY]) (.inr rfl) (Kk b)) ?_
 have hr:fY l b= [(false,[.o true (some (5,1)) (bytes (ga b))]),(false,[.p (.bool true)])]:=by
  have:bD l b=true:=by rw[bD,h1,h2];rfl
  rw[fY,this];rfl
 rw[hr]
 simp(disch:=omega) [ga,cn,cY,eX,gW,kl,VZ]
end Go.Eng.F
namespace Go.Eng.F
end Go.Eng.F
