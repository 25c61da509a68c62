import Derived.Test.YtlhapfligolmcaaGreatGg
set_option maxRecDepth 100000
set_option linter.unusedSimpArgs false
set_option linter.unusedVariables false
namespace Go.Eng.F
theorem DR (b:Bytes):(pad b).length=b.length+1+zc b.length+8∧(pad b).length % 64=0:=by
 have h:=rk b.length
 have e:(pad b).length=b.length+1+zc b.length+8:=by simp[pad,kC];omega
 omega
def hs (b:Bytes):Nat→List Int
 |0=>init
 |n+1=>nS (hs b n) (((pad b).drop (64 * n)).take 64)
theorem r9 (b:Bytes):∀n,(hs b n).length=8
 |0=>rfl
 |n+1=>by simp[hs,nS]
theorem DF (b:Bytes):∀n,∀x∈hs b n,word x=true
 |0,x,hx=>by
  have h:∀x∈init,word x=true:=by decide
  exact h x hx
 |n+1,x,hx=>by
  simp only[hs,nS,List.mem_map]at hx
  obtain⟨i,_,rfl⟩:=hx
  exact ri _
def b8 (y:Int):UInt8:=UInt8.ofNat (IntKind.u8.wrap y).toNat
theorem Jt (y:Int):((b8 y).toNat:Int)=IntKind.u8.wrap y:=by
 obtain⟨h1,h2⟩:=Ii .u8 y
 have e1:IntKind.u8.min=0:=rfl
 have e2:IntKind.u8.max=255:=rfl
 unfold b8
 rw[UInt8.toNat_ofNat']
 omega
def w4 (x:Int):Bytes:= [b8 (x.fdiv (2 ^ min 24 IntKind.i64.bits)),b8 (x.fdiv (2 ^ min 16 IntKind.i64.bits)),b8 (x.fdiv (2 ^ min 8 IntKind.i64.bits)),b8 x]
theorem DN {l:List Int} {k:Nat} (h:k < l.length):bytes ((l.take (k+1)).flatMap w4)=bytes ((l.take k).flatMap w4)++ [[.int .u8 (IntKind.u8.wrap ((gi l k).fdiv (2 ^ min 24 IntKind.i64.bits)))],[.int .u8 (IntKind.u8.wrap ((gi l k).fdiv (2 ^ min 16 IntKind.i64.bits)))],[.int .u8 (IntKind.u8.wrap ((gi l k).fdiv (2 ^ min 8 IntKind.i64.bits)))],[.int .u8 (IntKind.u8.wrap (gi l k))]]:=by
 have e:gi l k=l[k]:=by simp[gi,h]
 rw[List.take_add_one,List.getElem?_eq_getElem h,e]
 simp only[List.flatMap_append,Option.toList_some,List.flatMap_cons,List.flatMap_nil,List.append_nil,bytes,List.map_append,w4,List.map_cons,List.map_nil,Jt]
theorem zj:∀(l:List Int) (k:Nat),k≤l.length→((l.take k).flatMap w4).length=4 * k
 |_,0,_=>by simp
 | [],k+1,h=>by simp at h
 |x::l,k+1,h=>by
  have:=zj l k (by simpa using h)
  simp only[List.take_succ_cons,List.flatMap_cons,List.length_append,this]
  simp only[w4,List.length_cons,List.length_nil]
  omega
def DB (b:Bytes):Bytes:=(hs b ((pad b).length / 64)).flatMap w4
abbrev vW:Nat:=130
def wy:AF:=⟨1,6,[.tmp 2],(.seq (.ops [.i (.mov 2 (.c (.val false [.nils])))]) (.seq (.ops [.i (.call 10 217 false []),qm 10 0,qk 12 218 10,qm 3 9,qm 4 11]) (.seq (.seq (.ops [.i (.mov 5 (qi 0))]) (.block 0 (.loop [24,23,22,21,20,19,18,17,16,15,14,13,12] (.seq (.seq (.ops [qm 12 5,qm 13 4,qn 14 13,qd 15 .lss 12 14]) (.cond (.s 15) .skip (.exit 0))) (.seq (.block 1 (.ops [qm 18 3,qm 19 4,qm 20 5,qm 21 5, .i (.bin 22 .add (.s 21) (qi 64)), .i (.ey 23 1 (.s 19) (some (.s 20)) (some (.s 22))), .i (.call 25 219 false [(.s 18),(.s 23)]),qm 3 24])) (.ops [qm 16 5, .i (.bin 17 .add (.s 16) (qi 64)),qm 5 17])))))) (.seq (.ops [.i (.bse 25),qm 6 25]) (.seq (.seq (.ops [qm 26 3,qn 27 26, .i (.mov 28 (qi 0))]) (.block 2 (.loop [46,45,44,43,42,41,40,39,38,37,36,35,34,33,32,31,30,29,8] (.seq (.ops [qd 29 .lss 28 27]) (.seq (.cond (.s 29) .skip (.exit 2)) (.seq (.block 3 (.seq (.ops [.i (.iad 30 (.s 26) (.s 28) 1), .i (.ldh 31 (.s 30) 1 false),qm 8 31]) (.ops [qm 32 6,qm 33 8, .i (.bin 34 .shr (.s 33) (.c (.val false [.int .u64 24]))), .i (.cvi 35 .u8 (.s 34)),qm 36 8, .i (.bin 37 .shr (.s 36) (.c (.val false [.int .u64 16]))), .i (.cvi 38 .u8 (.s 37)),qm 39 8, .i (.bin 40 .shr (.s 39) (.c (.val false [.int .u64 8]))), .i (.cvi 41 .u8 (.s 40)),qm 42 8, .i (.cvi 43 .u8 (.s 42)), .i (.lsl 44 1 4 [.int .u8 0] [(0,1,(.s 35)),(1,1,(.s 38)),(2,1,(.s 41)),(3,1,(.s 43))]), .i (.app 45 5 1 1 (.s 32) (.s 44)),qm 6 45]))) (.ops [.i (.bin 46 .add (.s 28) (qi 1)),qm 28 46]))))))) (.seq (.ops [qm 47 6,qm 2 47]) .ret))))))⟩
theorem Cv:cd vW=some wy:=by kernel_rfl
theorem nb (b:Bytes) (hb:b.length≤1073741824):VC cd vW (aJ [(false,[.sl (bytes b)])]) (fun rs _=>rs= [(false,[.o true (some (5,1)) (bytes (DB b))])]):=by
 have hp:=DR b
 have hz:=rk b.length
 refine aa Cv rfl ?_
 simp(disch:=omega) [wy,VY]
 refine ah (tW) rfl rfl ?_
 simp(disch:=omega) [VY]
 refine ah (wg b hb) rfl rfl ?_
 simp(disch:=omega) [VY]
 refine m9 (σ:=Nat×Nat) (f0:=_) (by simp(disch:=omega) [VY];rfl) ((dB.Mg (.ow 106496 2)).trans (dB.Lu (s:=3) (k:=90112) (k':=212992) (by simp(disch:=omega) [VY]) rfl (by omega))) (f1:=_) (es0:=_) (by simp(disch:=omega) [VY];rfl) (by simp(disch:=omega) [q9,gj,ib,St.put,VY];rfl) (fun p=> [(5, .val false [.int .i64 (64 * (p.1:Int))]),(3, .val false [.ow 212992 p.2])]) (fun p=> [(212992, .sl p.2 true true (some (3,1)) (ints (hs b p.1)))])
  (fun p g=>g+p.1=(pad b).length / 64) (0,_) ((pad b).length / 64) (by simp(disch:=omega) [q9,ib,St.put,VY];rfl) (by simp(disch:=omega) [hs,q9,gj,ib,St.put,VY]) (by omega) ?_
 rintro⟨k,v⟩ n g hg
 simp only at hg
 simp(disch:=omega) [an,VY]
 refine ab (fun h1=> ?_) (fun h1=> ?_)
 ·have hk:64 * k+64≤(pad b).length:=by omega
  have p1:(64:Int) * (k:Int)+64≤((pad b).length:Int):=by omega
  have p2:((64:Int) * (k:Int)).toNat=64 * k:=by omega
  have p3:(0:Int)≤64 * (k:Int):=by omega
  have p4:((64:Int) * (k:Int)+64 - 64 * (k:Int)).toNat=64:=by omega
  have p5:(64:Int) * (k:Int)≤64 * (k:Int)+64:=by omega
  have hx:((bytes (pad b)).drop (64 * k)).take 64=bytes (((pad b).drop (64 * k)).take 64):=by simp[bytes]
  simp(disch:=omega) [an,p1,p2,p3,p4,p5,hx,sM,VY]
  refine ay (sH (hs b k) (((pad b).drop (64 * k)).take 64) (r9 b k) (DF b k) (by simp;omega)) ?_
  simp(disch:=omega) [VY]
  exact⟨k+1,_,g - 1,by omega,by omega,⟨rfl,by omega⟩,rfl,rfl⟩
 have hk:k=(pad b).length / 64:=by omega
 subst hk
 have hl:=r9 b ((pad b).length / 64)
 simp(disch:=omega) [bz,hl,VY]
 refine aK (σ:=Nat×Nat) (f1:=_) (es0:=_) (by simp(disch:=omega) [VY];rfl) (by simp(disch:=omega) [VY];rfl) (fun p=> [(28, .val false [.int .i64 p.1]),(6, .val false [.ow 25 p.2])]) (fun p=> [(25, .sl p.2 true true (some (5,1)) (bytes (((hs b ((pad b).length / 64)).take p.1).flatMap w4)))])
  (fun p g=>g+p.1=8) (0,_) 8 (by simp(disch:=omega) [VY];rfl) (by simp(disch:=omega) [bytes,VY]) (by omega) ?_
 rintro⟨k,w⟩ n g hg
 simp only at hg
 simp(disch:=omega) [VY]
 refine ab (fun h2=> ?_) (fun h2=> ?_)
 ·have hk:k < 8:=by omega
  have e1:(ints (hs b ((pad b).length / 64))).length=8:=by rw[bz,hl]
  have e2:(bytes (((hs b ((pad b).length / 64)).take k).flatMap w4)).length=4 * k:=by rw[an];exact zj _ _ (by omega)
  simp(disch:=omega) [e1,e2,dO,VY]
  exact⟨k+1,_,g - 1,by omega,by omega,⟨by omega,rfl⟩,rfl,DN (by omega)⟩
 ·have hk:k=8:=by omega
  subst hk
  simp(disch:=omega) [VY]
  rw[List.take_of_length_le (by omega)]
  rfl
abbrev wF:Nat:=205
def vl:AF:=⟨1,6,[.tmp 2],(.seq (.ops [.i (.mov 2 (.c (.val false [.nils])))]) (.seq (.ops [.i (.call 10 257 false []),qm 3 9]) (.seq (.ops [qm 10 0,qk 12 258 10,qm 4 11]) (.seq (.seq (.ops [.i (.mov 5 (qi 0))]) (.block 0 (.loop [24,23,22,21,20,19,18,17,16,15,14,13,12] (.seq (.seq (.ops [qm 12 5,qm 13 4,qn 14 13,qd 15 .lss 12 14]) (.cond (.s 15) .skip (.exit 0))) (.seq (.block 1 (.ops [qm 18 3,qm 19 4,qm 20 5,qm 21 5, .i (.bin 22 .add (.s 21) (qi 64)), .i (.ey 23 1 (.s 19) (some (.s 20)) (some (.s 22))), .i (.call 25 259 false [(.s 18),(.s 23)]),qm 3 24])) (.ops [qm 16 5, .i (.bin 17 .add (.s 16) (qi 64)),qm 5 17])))))) (.seq (.ops [.i (.bse 25),qm 6 25]) (.seq (.seq (.ops [qm 26 3,qn 27 26, .i (.mov 28 (qi 0))]) (.block 2 (.loop [46,45,44,43,42,41,40,39,38,37,36,35,34,33,32,31,30,29,8] (.seq (.ops [qd 29 .lss 28 27]) (.seq (.cond (.s 29) .skip (.exit 2)) (.seq (.block 3 (.seq (.ops [.i (.iad 30 (.s 26) (.s 28) 1), .i (.ldh 31 (.s 30) 1 false),qm 8 31]) (.ops [qm 32 6,qm 33 8, .i (.bin 34 .shr (.s 33) (.c (.val false [.int .u64 24]))), .i (.cvi 35 .u8 (.s 34)),qm 36 8, .i (.bin 37 .shr (.s 36) (.c (.val false [.int .u64 16]))), .i (.cvi 38 .u8 (.s 37)),qm 39 8, .i (.bin 40 .shr (.s 39) (.c (.val false [.int .u64 8]))), .i (.cvi 41 .u8 (.s 40)),qm 42 8, .i (.cvi 43 .u8 (.s 42)), .i (.lsl 44 1 4 [.int .u8 0] [(0,1,(.s 35)),(1,1,(.s 38)),(2,1,(.s 41)),(3,1,(.s 43))]), .i (.app 45 5 1 1 (.s 32) (.s 44)),qm 6 45]))) (.ops [.i (.bin 46 .add (.s 28) (qi 1)),qm 28 46]))))))) (.seq (.ops [qm 47 6,qm 2 47]) .ret)))))))⟩
theorem C2:cd wF=some vl:=by kernel_rfl
theorem nn (b:Bytes) (hb:b.length≤1073741824):VC cd wF (aJ [(false,[.sl (bytes b)])]) (fun rs _=>rs= [(false,[.o true (some (5,1)) (bytes (DB b))])]):=by
 have hp:=DR b
 have hz:=rk b.length
 refine aa C2 rfl ?_
 simp(disch:=omega) [vl,VY]
 refine ah (tU) rfl rfl ?_
 simp(disch:=omega) [VY]
 refine ah (xb b hb) rfl rfl ?_
 simp(disch:=omega) [VY]
 refine m9 (σ:=Nat×Nat) (f0:=_) (by simp(disch:=omega) [VY];rfl) ((dB.Mg (.ow 106496 2)).trans (dB.Lu (s:=3) (k:=90112) (k':=212992) (by simp(disch:=omega) [VY]) rfl (by omega))) (f1:=_) (es0:=_) (by simp(disch:=omega) [VY];rfl) (by simp(disch:=omega) [q9,gj,ib,St.put,VY];rfl) (fun p=> [(5, .val false [.int .i64 (64 * (p.1:Int))]),(3, .val false [.ow 212992 p.2])]) (fun p=> [(212992, .sl p.2 true true (some (3,1)) (ints (hs b p.1)))])
  (fun p g=>g+p.1=(pad b).length / 64) (0,_) ((pad b).length / 64) (by simp(disch:=omega) [q9,ib,St.put,VY];rfl) (by simp(disch:=omega) [hs,q9,gj,ib,St.put,VY]) (by omega) ?_
 rintro⟨k,v⟩ n g hg
 simp only at hg
 simp(disch:=omega) [an,VY]
 refine ab (fun h1=> ?_) (fun h1=> ?_)
 ·have hk:64 * k+64≤(pad b).length:=by omega
  have p1:(64:Int) * (k:Int)+64≤((pad b).length:Int):=by omega
  have p2:((64:Int) * (k:Int)).toNat=64 * k:=by omega
  have p3:(0:Int)≤64 * (k:Int):=by omega
  have p4:((64:Int) * (k:Int)+64 - 64 * (k:Int)).toNat=64:=by omega
  have p5:(64:Int) * (k:Int)≤64 * (k:Int)+64:=by omega
  have hx:((bytes (pad b)).drop (64 * k)).take 64=bytes (((pad b).drop (64 * k)).take 64):=by simp[bytes]
  simp(disch:=omega) [an,p1,p2,p3,p4,p5,hx,sM,VY]
  refine ay (rO (hs b k) (((pad b).drop (64 * k)).take 64) (r9 b k) (DF b k) (by simp;omega)) ?_
  simp(disch:=omega) [VY]
  exact⟨k+1,_,g - 1,by omega,by omega,⟨rfl,by omega⟩,rfl,rfl⟩
 have hk:k=(pad b).length / 64:=by omega
 subst hk
 have hl:=r9 b ((pad b).length / 64)
 simp(disch:=omega) [bz,hl,VY]
 refine aK (σ:=Nat×Nat) (f1:=_) (es0:=_) (by simp(disch:=omega) [VY];rfl) (by simp(disch:=omega) [VY];rfl) (fun p=> [(28, .val false [.int .i64 p.1]),(6, .val false [.ow 25 p.2])]) (fun p=> [(25, .sl p.2 true true (some (5,1)) (bytes (((hs b ((pad b).length / 64)).take p.1).flatMap w4)))])
  (fun p g=>g+p.1=8) (0,_) 8 (by simp(disch:=omega) [VY];rfl) (by simp(disch:=omega) [bytes,VY]) (by omega) ?_
 rintro⟨k,w⟩ n g hg
 simp only at hg
 simp(disch:=omega) [VY]
 refine ab (fun h2=> ?_) (fun h2=> ?_)
 ·have hk:k < 8:=by omega
  have e1:(ints (hs b ((pad b).length / 64))).length=8:=by rw[bz,hl]
  have e2:(bytes (((hs b ((pad b).length / 64)).take k).flatMap w4)).length=4 * k:=by rw[an];exact zj _ _ (by omega)
  simp(disch:=omega) [e1,e2,dO,VY]
  exact⟨k+1,_,g - 1,by omega,by omega,⟨by omega,rfl⟩,rfl,DN (by omega)⟩
 ·have hk:k=8:=by omega
  subst hk
  simp(disch:=omega) [VY]
  rw[List.take_of_length_le (by omega)]
  rfl
end Go.Eng.F
namespace Go.Eng.F
abbrev js:Nat:=291
def jt:AF:=⟨1,3,[.tmp 2],(.seq (.ops [.i (.mov 2 (.c (.val false [.nils])))]) (.seq (.ops [.i (.bsl 3 5 1 1 [.int .u8 0] [(0,1,(.c (.val false [.int .u8 0])))]),qm 4 0, .i (.app 5 5 1 1 (.s 3) (.s 4)),qk 7 130 5,qm 2 6]) .ret))⟩
theorem uh:cd js=some jt:=by kernel_rfl
theorem s5 (x:Bytes) (hx:x.length≤1073741823):VC cd js (aJ [(false,[.sl (bytes x)])]) (fun rs _=>rs= [(false,[.o true (some (5,1)) (bytes (DB (0::x)))])]):=by
 have e: [[D.int .u8 0]]++bytes x=bytes (0::x):=rfl
 refine aa uh rfl ?_
 simp(disch:=omega) [jt,e,an,VY]
 refine ah (nb (0::x) (by simp;omega)) rfl rfl ?_
 simp(disch:=omega) [VY]
abbrev j2:Nat:=287
def jY:AF:=⟨1,3,[.tmp 2],(.seq (.ops [.i (.mov 2 (.c (.val false [.nils])))]) (.seq (.ops [.i (.bsl 3 5 1 1 [.int .u8 0] [(0,1,(.c (.val false [.int .u8 0])))]),qm 4 0, .i (.app 5 5 1 1 (.s 3) (.s 4)),qk 7 205 5,qm 2 6]) .ret))⟩
theorem t7:cd j2=some jY:=by kernel_rfl
theorem sF (x:Bytes) (hx:x.length≤1073741823):VC cd j2 (aJ [(false,[.sl (bytes x)])]) (fun rs _=>rs= [(false,[.o true (some (5,1)) (bytes (DB (0::x)))])]):=by
 have e: [[D.int .u8 0]]++bytes x=bytes (0::x):=rfl
 refine aa t7 rfl ?_
 simp(disch:=omega) [jY,e,an,VY]
 refine ah (nn (0::x) (by simp;omega)) rfl rfl ?_
 simp(disch:=omega) [VY]
abbrev jB:Nat:=293
def jv:AF:=⟨2,4,[.tmp 4],(.seq (.ops [.i (.mov 4 (.c (.val false [.nils])))]) (.seq (.ops [.i (.bsl 5 5 1 1 [.int .u8 0] [(0,1,(.c (.val false [.int .u8 1])))]),qm 6 0, .i (.app 7 5 1 1 (.s 5) (.s 6)),qm 8 1, .i (.app 9 5 1 1 (.s 7) (.s 8)),qk 11 130 9,qm 4 10]) .ret))⟩
theorem uU:cd jB=some jv:=by kernel_rfl
theorem rN (x y:Bytes) (hx:x.length≤1000) (hy:y.length≤1000):VC cd jB (aJ [(false,[.sl (bytes x)]),(false,[.sl (bytes y)])]) (fun rs _=>rs= [(false,[.o true (some (5,1)) (bytes (DB (1::x++y)))])]):=by
 have e: [[D.int .u8 1]]++bytes x=bytes (1::x):=rfl
 have e2:bytes (1::x)++bytes y=bytes (1::x++y):=by simp[bytes]
 refine aa uU rfl ?_
 simp(disch:=omega) [jv,e,e2,an,VY]
 refine ah (nb (1::x++y) (by simp;omega)) rfl rfl ?_
 simp(disch:=omega) [VY]
abbrev jK:Nat:=289
def jq:AF:=⟨2,4,[.tmp 4],(.seq (.ops [.i (.mov 4 (.c (.val false [.nils])))]) (.seq (.ops [.i (.bsl 6 5 1 1 [.int .u8 0] [(0,1,(.c (.val false [.int .u8 1])))]),qm 7 0, .i (.app 8 5 1 1 (.s 6) (.s 7)),qm 5 8]) (.seq (.ops [qm 9 5,qm 10 1, .i (.app 11 5 1 1 (.s 9) (.s 10)),qk 13 205 11,qm 4 12]) .ret)))⟩
theorem tZ:cd jK=some jq:=by kernel_rfl
theorem su (x y:Bytes) (hx:x.length≤1000) (hy:y.length≤1000):VC cd jK (aJ [(false,[.sl (bytes x)]),(false,[.sl (bytes y)])]) (fun rs _=>rs= [(false,[.o true (some (5,1)) (bytes (DB (1::x++y)))])]):=by
 have e: [[D.int .u8 1]]++bytes x=bytes (1::x):=rfl
 have e2:bytes (1::x)++bytes y=bytes (1::x++y):=by simp[bytes]
 refine aa tZ rfl ?_
 simp(disch:=omega) [jq,e,e2,an,VY]
 refine ah (nn (1::x++y) (by simp;omega)) rfl rfl ?_
 simp(disch:=omega) [VY]
def FY (n k:Nat):Nat:=if h:0 < k∧k < n - k then FY n (2 * k)else k
termination_by n - k
decreasing_by omega
def splitAt (n:Nat):Nat:=if n < 2 then 0 else FY n 1
abbrev lq:Nat:=292
def kU:AF:=⟨1,4,[.tmp 2],(.seq (.ops [.i (.mov 2 (qi 0))]) (.seq (.seq (.ops [qm 4 0, .i (.bin 5 .lss (.s 4) (qi 2))]) (.cond (.s 5) (.seq (.ops [.i (.mov 2 (qi 0))]) .ret) .skip)) (.seq (.ops [.i (.mov 3 (qi 1))]) (.seq (.block 0 (.loop [12,11,10,9,8,7,6] (.seq (.seq (.ops [qm 6 3,qm 7 0,qm 8 3,qd 9 .sub 7 8,qd 10 .lss 6 9]) (.cond (.s 10) .skip (.exit 0))) (.block 1 (.ops [qm 11 3, .i (.bin 12 .mul (.s 11) (qi 2)),qm 3 12]))))) (.seq (.ops [qm 13 3,qm 2 13]) .ret)))))⟩
theorem wP:cd lq=some kU:=by kernel_rfl
theorem jN (n:Nat) (hn:n≤1073741824):VC cd lq (aJ [(false,[.int .i64 (n:Int)])]) (fun rs _=>rs=it (splitAt n)):=by
 refine aa wP rfl ?_
 simp(disch:=omega) [kU,VY]
 refine ab (fun h1=> ?_) (fun h1=> ?_)
 ·have h2:n < 2:=by omega
  simp(disch:=omega) [splitAt,h2,VY]
 ·have h2:¬n < 2:=by omega
  simp(disch:=omega) [VY]
  refine aK (σ:=Nat) (f1:=_) (es0:=_) (by simp(disch:=omega) [VY];rfl) (by simp(disch:=omega) [VY];rfl) (fun k=> [(3, .val false [.int .i64 k])]) (fun _=> []) (fun k g=>g+k=n∧0 < k∧FY n k=splitAt n) 1 (n - 1) (by simp(disch:=omega) [VY]) (by simp(disch:=omega) [VY]) ⟨by omega,by omega,by rw[splitAt,if_neg h2]⟩ ?_
  rintro k v g ⟨hg,h0,hk⟩
  simp(disch:=omega) [VY]
  refine ab (fun h3=> ?_) (fun h3=> ?_)
  ·simp(disch:=omega) [VY]
   exact⟨2 * k,n - 2 * k,by omega,⟨by omega,by omega,by rw[←hk];conv=>rhs;rw[FY,dif_pos ⟨h0,by omega⟩]⟩,by omega⟩
  ·simp(disch:=omega) [VY]
   rw[FY,dif_neg (by omega)]at hk
   rw[hk]
abbrev mq:Nat:=288
def ng:AF:=⟨1,4,[.tmp 2],(.seq (.ops [.i (.mov 2 (qi 0))]) (.seq (.seq (.ops [qm 4 0, .i (.bin 5 .lss (.s 4) (qi 2))]) (.cond (.s 5) (.seq (.ops [.i (.mov 2 (qi 0))]) .ret) .skip)) (.seq (.ops [.i (.mov 3 (qi 1))]) (.seq (.block 0 (.loop [12,11,10,9,8,7,6] (.seq (.seq (.ops [qm 6 3,qm 7 0,qm 8 3,qd 9 .sub 7 8,qd 10 .lss 6 9]) (.cond (.s 10) .skip (.exit 0))) (.block 1 (.ops [qm 11 3, .i (.bin 12 .mul (qi 2) (.s 11)),qm 3 12]))))) (.seq (.ops [qm 13 3,qm 2 13]) .ret)))))⟩
theorem vj:cd mq=some ng:=by kernel_rfl
theorem jl (n:Nat) (hn:n≤1073741824):VC cd mq (aJ [(false,[.int .i64 (n:Int)])]) (fun rs _=>rs=it (splitAt n)):=by
 refine aa vj rfl ?_
 simp(disch:=omega) [ng,VY]
 refine ab (fun h1=> ?_) (fun h1=> ?_)
 ·have h2:n < 2:=by omega
  simp(disch:=omega) [splitAt,h2,VY]
 ·have h2:¬n < 2:=by omega
  simp(disch:=omega) [VY]
  refine aK (σ:=Nat) (f1:=_) (es0:=_) (by simp(disch:=omega) [VY];rfl) (by simp(disch:=omega) [VY];rfl) (fun k=> [(3, .val false [.int .i64 k])]) (fun _=> []) (fun k g=>g+k=n∧0 < k∧FY n k=splitAt n) 1 (n - 1) (by simp(disch:=omega) [VY]) (by simp(disch:=omega) [VY]) ⟨by omega,by omega,by rw[splitAt,if_neg h2]⟩ ?_
  rintro k v g ⟨hg,h0,hk⟩
  simp(disch:=omega) [VY]
  refine ab (fun h3=> ?_) (fun h3=> ?_)
  ·simp(disch:=omega) [VY]
   exact⟨2 * k,n - 2 * k,by omega,⟨by omega,by omega,by rw[←hk];conv=>rhs;rw[FY,dif_pos ⟨h0,by omega⟩]⟩,by omega⟩
  ·simp(disch:=omega) [VY]
   rw[FY,dif_neg (by omega)]at hk
   rw[hk]
theorem J6 (n:Nat):∀(g k:Nat),g=n - k→0 < k→k < n→k≤FY n k∧FY n k < n:=by
 intro g
 induction g using Nat.strongRecOn with
 |ind g ih=>
 intro k hg h0 hk
 rw[FY]
 split
 ·rename_i h
  have:=ih (n - 2 * k) (by omega) (2 * k) rfl (by omega) (by omega)
  omega
 ·omega
theorem dV {n:Nat} (h:2≤n):0 < splitAt n∧splitAt n < n:=by
 rw[splitAt,if_neg (by omega)]
 have:=J6 n _ 1 rfl (by omega) (by omega)
 omega
def bc (l:List Bytes):Bytes:=match l with
 | []=>DB []
 | [x]=>DB (0::x)
 |a::b::r=>DB (1::bc ((a::b::r).take (splitAt (a::b::r).length))++bc ((a::b::r).drop (splitAt (a::b::r).length)))
termination_by l.length
decreasing_by
 all_goals
  have:=dV (n:=(a::b::r).length) (by simp)
  simp only[List.length_take,List.length_drop,List.length_cons]at *
  omega
theorem zO (b:Bytes):(DB b).length=32:=by
 have h:=zj (hs b ((pad b).length / 64)) 8 (by rw[r9];omega)
 rw[List.take_of_length_le (by rw[r9];omega)]at h
 exact h
theorem rH:bc []=DB []:=by rw[bc]
theorem qE {l:List Bytes} (h:l.length=1):bc l=DB (0::l[0]):=by
 match l,h with
 | [x],_=>rw[bc];rfl
theorem oW {l:List Bytes} (h:2≤l.length):bc l=DB (1::bc (l.take (splitAt l.length))++bc (l.drop (splitAt l.length))):=by
 match l,h with
 |a::b::r,_=>rw[bc]
theorem fA (l:List Bytes):(bc l).length=32:=by
 match l with
 | []=>rw[bc];exact zO _
 | [x]=>rw[bc];exact zO _
 |a::b::r=>rw[bc];exact zO _
abbrev jL:Nat:=279
def jn:AF:=⟨1,5,[.tmp 2],(.seq (.ops [.i (.mov 2 (.c (.val false [.nils])))]) (.seq (.seq (.ops [qm 4 0,qn 5 4]) (.block 0 (.seq (.ops [.i (.bin 7 .eql (.s 5) (qi 0)),qm 6 7]) (.cond (.s 6) (.seq (.ops [.i (.call 9 130 false [(.c (.val false [.nils]))]),qm 2 8]) .ret) (.seq (.ops [.i (.bin 10 .eql (.s 5) (qi 1)),qm 9 10]) (.cond (.s 9) (.seq (.ops [qm 11 0, .i (.iad 12 (.s 11) (qi 0) 1), .i (.ldh 13 (.s 12) 1 false),qk 15 291 13,qm 2 14]) .ret) .skip)))))) (.seq (.ops [qm 15 0,qn 16 15,qk 18 292 16,qm 3 17]) (.seq (.ops [qm 18 0,qm 19 3, .i (.ey 20 1 (.s 18) none (some (.s 19))),qk 22 279 20,qm 22 0,qm 23 3, .i (.ey 24 1 (.s 22) (some (.s 23)) none),qk 26 279 24, .i (.call 27 293 false [(.s 21),(.s 25)]),qm 2 26]) .ret))))⟩
theorem uN:cd jL=some jn:=by kernel_rfl
theorem rU:∀(n:Nat) (l:List Bytes),l.length=n→l.length≤1073741824→(∀x∈l,x.length≤1073741823)→VC cd jL (aJ [(false,[.sl (cC l)])]) (fun rs _=>rs= [(false,[.o true (some (5,1)) (bytes (bc l))])]):=by
 intro n
 induction n using Nat.strongRecOn with
 |ind n ih=>
 intro l hn hl hx
 refine aa uN rfl ?_
 simp(disch:=omega) [jn,au,VY]
 refine ab (fun h1=> ?_) (fun h1=> ?_)
 ·have h2:l= []:=h1
  subst h2
  simp(disch:=omega) [VY]
  refine ah (nb [] (by simp)) rfl rfl ?_
  simp(disch:=omega) [rH,VY]
 ·have h0:0 < l.length:=List.length_pos_iff.2 h1
  simp(disch:=omega) [au,VY]
  refine ab (fun h2=> ?_) (fun h2=> ?_)
  ·have h3:0 < l.length:=by omega
   simp(disch:=omega) [cu h3,au,VY]
   refine ah (s5 l[0] (hx _ (List.getElem_mem h3))) rfl rfl ?_
   simp(disch:=omega) [VY]
   rw[qE (by omega)]
  ·have h3:2≤l.length:=by omega
   obtain⟨k1,k2⟩:=dV h3
   simp(disch:=omega) [au,VY]
   refine ah (jN l.length (by omega)) rfl rfl ?_
   have t1:(cC l).take (splitAt l.length)=cC (l.take (splitAt l.length)):=by simp[cC]
   have t2:(cC l).drop (splitAt l.length)=cC (l.drop (splitAt l.length)):=by simp[cC]
   have t3:((splitAt l.length:Nat):Int)≤(l.length:Int):=by omega
   have t4:splitAt l.length≤l.length:=by omega
   have t5:((l.length:Int) - (splitAt l.length:Int)).toNat=l.length - splitAt l.length:=by omega
   have t6:(cC (l.drop (splitAt l.length))).take (l.length - splitAt l.length)=cC (l.drop (splitAt l.length)):=List.take_of_length_le (by rw[au];simp)
   simp(disch:=omega) [au,vd,t1,t2,t3,t4,t5,t6,VY]
   refine ah (ih (splitAt l.length) (by omega) (l.take (splitAt l.length)) (by simp;omega) (by simp;omega) (fun x h=>hx x (List.mem_of_mem_take h))) rfl rfl ?_
   simp(disch:=omega) [au,vd,t1,t2,t3,t4,t5,t6,VY]
   refine ah (ih (l.length - splitAt l.length) (by omega) (l.drop (splitAt l.length)) (by simp) (by simp;omega) (fun x h=>hx x (List.mem_of_mem_drop h))) rfl rfl ?_
   simp(disch:=omega) [VY]
   refine ah (rN (bc (l.take (splitAt l.length))) (bc (l.drop (splitAt l.length))) (by rw[fA];omega) (by rw[fA];omega)) rfl rfl ?_
   simp(disch:=omega) [VY]
   rw[oW h3]
   rfl
abbrev ji:Nat:=275
def kb:AF:=⟨1,5,[.tmp 2],(.seq (.ops [.i (.mov 2 (.c (.val false [.nils])))]) (.seq (.seq (.ops [qm 4 0,qn 5 4, .i (.bin 6 .eql (.s 5) (qi 0))]) (.cond (.s 6) (.seq (.ops [.i (.call 8 205 false [(.c (.val false [.nils]))]),qm 2 7]) .ret) .skip)) (.seq (.seq (.ops [qm 8 0,qn 9 8, .i (.bin 10 .eql (.s 9) (qi 1))]) (.cond (.s 10) (.seq (.ops [qm 11 0, .i (.iad 12 (.s 11) (qi 0) 1), .i (.ldh 13 (.s 12) 1 false),qk 15 287 13,qm 2 14]) .ret) .skip)) (.seq (.ops [qm 15 0,qn 16 15,qk 18 288 16,qm 3 17]) (.seq (.ops [qm 18 0,qm 19 3, .i (.ey 20 1 (.s 18) none (some (.s 19))),qk 22 275 20,qm 22 0,qm 23 3, .i (.ey 24 1 (.s 22) (some (.s 23)) none),qk 26 275 24, .i (.call 27 289 false [(.s 21),(.s 25)]),qm 2 26]) .ret)))))⟩
theorem uP:cd ji=some kb:=by kernel_rfl
theorem sw:∀(n:Nat) (l:List Bytes),l.length=n→l.length≤1073741824→(∀x∈l,x.length≤1073741823)→VC cd ji (aJ [(false,[.sl (cC l)])]) (fun rs _=>rs= [(false,[.o true (some (5,1)) (bytes (bc l))])]):=by
 intro n
 induction n using Nat.strongRecOn with
 |ind n ih=>
 intro l hn hl hx
 refine aa uP rfl ?_
 simp(disch:=omega) [kb,au,VY]
 refine ab (fun h1=> ?_) (fun h1=> ?_)
 ·have h2:l= []:=h1
  subst h2
  simp(disch:=omega) [VY]
  refine ah (nn [] (by simp)) rfl rfl ?_
  simp(disch:=omega) [rH,VY]
 ·have h0:0 < l.length:=List.length_pos_iff.2 h1
  simp(disch:=omega) [au,VY]
  refine ab (fun h2=> ?_) (fun h2=> ?_)
  ·have h3:0 < l.length:=by omega
   simp(disch:=omega) [cu h3,au,VY]
   refine ah (sF l[0] (hx _ (List.getElem_mem h3))) rfl rfl ?_
   simp(disch:=omega) [VY]
   rw[qE (by omega)]
  ·have h3:2≤l.length:=by omega
   obtain⟨k1,k2⟩:=dV h3
   simp(disch:=omega) [au,VY]
   refine ah (jl l.length (by omega)) rfl rfl ?_
   have t1:(cC l).take (splitAt l.length)=cC (l.take (splitAt l.length)):=by simp[cC]
   have t2:(cC l).drop (splitAt l.length)=cC (l.drop (splitAt l.length)):=by simp[cC]
   have t3:((splitAt l.length:Nat):Int)≤(l.length:Int):=by omega
   have t4:splitAt l.length≤l.length:=by omega
   have t5:((l.length:Int) - (splitAt l.length:Int)).toNat=l.length - splitAt l.length:=by omega
   have t6:(cC (l.drop (splitAt l.length))).take (l.length - splitAt l.length)=cC (l.drop (splitAt l.length)):=List.take_of_length_le (by rw[au];simp)
   simp(disch:=omega) [au,vd,t1,t2,t3,t4,t5,t6,VY]
   refine ah (ih (splitAt l.length) (by omega) (l.take (splitAt l.length)) (by simp;omega) (by simp;omega) (fun x h=>hx x (List.mem_of_mem_take h))) rfl rfl ?_
   simp(disch:=omega) [au,vd,t1,t2,t3,t4,t5,t6,VY]
   refine ah (ih (l.length - splitAt l.length) (by omega) (l.drop (splitAt l.length)) (by simp) (by simp;omega) (fun x h=>hx x (List.mem_of_mem_drop h))) rfl rfl ?_
   simp(disch:=omega) [VY]
   refine ah (su (bc (l.take (splitAt l.length))) (bc (l.drop (splitAt l.length))) (by rw[fA];omega) (by rw[fA];omega)) rfl rfl ?_
   simp(disch:=omega) [VY]
   rw[oW h3]
   rfl
end Go.Eng.F
namespace Go.Eng.F
open Go.Eng.U (yJ cp TLimits dU TMsg fM)
def yy (l:aB) (t:List Bytes):Bool:=t.all fun x=>decide ((x.length:Int)≤l.tx)
theorem A4 {l:aB} {t:List Bytes} (h:∀x∈t.take t.length,(x.length:Int)≤l.tx):yy l t=true:=by
 rw[List.take_length]at h
 simpa[yy]using h
theorem Ci {l:aB} {t:List Bytes} {i:Nat} (hi:i < t.length) (h:l.tx < (t[i].length:Int)):yy l t=false:=by
 simp only[yy,List.all_eq_false]
 exact⟨t[i],List.getElem_mem hi,by simp;omega⟩
def bM (l:aB) (x:Block):Bool:=bP l x.head && decide ((x.txs.length:Int)≤l.txs) && yy l x.txs && decide (x.head.root=bc x.txs)
abbrev nf:Nat:=244
def mU:AF:=⟨2,6,[.tmp 4],(.seq (.ops [.i (.lbox 2 (.s 0)), .i (.lbox 3 (.s 1)), .i (.mov 4 (qb false))]) (.seq (.seq (.ops [qf 7 3 10,ql 8 3 7 1 false,qn 9 8, .i (.mov 10 (qi 0))]) (.block 0 (.loop [19,18,17,16,15,14,13,12,11,6] (.seq (.ops [qd 11 .lss 10 9]) (.seq (.cond (.s 11) .skip (.exit 0)) (.seq (.block 1 (.seq (.ops [.i (.iad 12 (.s 8) (.s 10) 1), .i (.ldh 13 (.s 12) 1 false),qm 6 13]) (.seq (.ops [qm 14 6,qn 15 14,qf 16 2 1,ql 17 2 16 1 false,qd 18 .gtr 15 17]) (.cond (.s 18) (.seq (.ops [.i (.mov 4 (qb false))]) .ret) .skip)))) (.ops [.i (.bin 19 .add (.s 10) (qi 1)),qm 10 19]))))))) (.seq (.ops [ql 20 2 2 5 true,qf 21 3 0,ql 22 3 21 10 true, .i (.call 24 140 false [(.s 20),(.s 22)]),qm 24 23, .g 24 true 26 (.fad 25 (.s 3) 10), .g 24 true 27 (.ldl 26 3 (.s 25) 1 false), .g 24 true 28 (.len 27 false (.s 26)), .g 24 true 29 (.fad 28 (.s 2) 2), .g 24 true 30 (.ldl 29 2 (.s 28) 1 false), .g 24 true 31 (.bin 30 .leq (.s 27) (.s 29)), .i (.pick 31 (.s 24) (.s 30) (qb false)),qm 32 31, .g 32 true 34 (.fad 33 (.s 3) 0), .g 32 true 35 (.fad 34 (.s 33) 4), .g 32 true 36 (.ldl 35 3 (.s 34) 1 false), .g 32 true 37 (.fad 36 (.s 3) 10), .g 32 true 38 (.ldl 37 3 (.s 36) 1 false), .g 32 true 39 (.call 39 279 false [(.s 37)]), .g 32 true 40 (.call 40 57 false [(.s 35),(.s 38)]), .i (.pick 40 (.s 32) (.s 39) (qb false)),qm 4 40]) .ret)))⟩
theorem wK:cd nf=some mU:=by kernel_rfl
theorem uM (l:aB) (x:Block) (hw:x.wc) (hx:∀t∈x.txs,t.length≤1073741823):VC cd nf (aJ [(true,l.c),(true,x.c)]) (fun rs _=>rs=bl (bM l x)):=by
 obtain⟨⟨w1,_⟩,w2,w3⟩:=hw
 simp only[Sz]at w2
 refine aa wK rfl ?_
 simp(disch:=omega) [mU,aB.c,Block.c,Head.c,au,VY]
 refine aK (σ:=Nat) (f1:=_) (es0:=_) (by simp(disch:=omega) [VY];rfl) (by simp(disch:=omega) [VY];rfl) (fun i=> [(10, .val false [.int .i64 i])]) (fun _=> []) (fun i g=>g+i=x.txs.length∧∀t∈x.txs.take i,(t.length:Int)≤l.tx) 0 x.txs.length (by simp(disch:=omega) [VY]) (by simp(disch:=omega) [VY]) ⟨by omega,by simp⟩ ?_
 rintro i n g ⟨hg,hi⟩
 simp(disch:=omega) [VY]
 refine ab (fun h1=> ?_) (fun h1=> ?_)
 ·have hix:i < x.txs.length:=by omega
  have w4:=hx _ (List.getElem_mem hix)
  simp(disch:=omega) [cu hix,an,VY]
  refine ab (fun h2=> ?_) (fun h2=> ?_)
  ·simp(disch:=omega) [VY]
   simp[bM,Ci hix (by omega)]
  ·simp(disch:=omega) [VY]
   exact⟨i+1,g - 1,by omega,⟨by omega,fN hi hix (by omega)⟩,by simp⟩
 ·have hl:i=x.txs.length:=by omega
  subst hl
  have ht:=A4 hi
  simp(disch:=omega) [VY]
  refine ah (fS l x.head w1) rfl rfl ?_
  simp(disch:=omega) [au,VY]
  refine ak (fun h2=> ?_) (fun h2=> ?_) <;>simp(disch:=omega) [h2,au,bM,VY]
  refine ab (fun h3=> ?_) (fun h3=> ?_) <;>simp(disch:=omega) [h2,h3,ht,au,VY]
  refine ah (rU _ x.txs rfl (by omega) hx) rfl rfl ?_
  simp(disch:=omega) [h2,h3,ht,VY]
  refine ay (aN x.head.root (bc x.txs)) ?_
  simp(disch:=omega) [h2,h3,ht,VY]
abbrev lb:Nat:=234
def mT:AF:=⟨2,6,[.tmp 4],(.seq (.ops [.i (.lbox 2 (.s 0)), .i (.lbox 3 (.s 1)), .i (.mov 4 (qb false))]) (.seq (.seq (.ops [ql 7 2 2 5 true,qf 8 3 0,ql 9 3 8 10 true, .i (.call 11 118 false [(.s 7),(.s 9)]), .i (.not 11 (.s 10)),qm 12 11, .g 12 false 14 (.fad 13 (.s 3) 10), .g 12 false 15 (.ldl 14 3 (.s 13) 1 false), .g 12 false 16 (.len 15 false (.s 14)), .g 12 false 17 (.fad 16 (.s 2) 2), .g 12 false 18 (.ldl 17 2 (.s 16) 1 false), .g 12 false 19 (.bin 18 .gtr (.s 15) (.s 17)), .i (.pick 19 (.s 12) (qb true) (.s 18))]) (.cond (.s 19) (.seq (.ops [.i (.mov 4 (qb false))]) .ret) .skip)) (.seq (.seq (.ops [qf 20 3 10,ql 21 3 20 1 false,qn 22 21, .i (.mov 23 (qi 0))]) (.block 0 (.loop [32,31,30,29,28,27,26,25,24,6] (.seq (.ops [qd 24 .lss 23 22]) (.seq (.cond (.s 24) .skip (.exit 0)) (.seq (.block 1 (.seq (.ops [.i (.iad 25 (.s 21) (.s 23) 1), .i (.ldh 26 (.s 25) 1 false),qm 6 26]) (.seq (.ops [qm 27 6,qn 28 27,qf 29 2 1,ql 30 2 29 1 false,qd 31 .gtr 28 30]) (.cond (.s 31) (.seq (.ops [.i (.mov 4 (qb false))]) .ret) .skip)))) (.ops [.i (.bin 32 .add (.s 23) (qi 1)),qm 23 32]))))))) (.seq (.ops [qf 33 3 0,qf 34 33 4,ql 35 3 34 1 false,qf 36 3 10,ql 37 3 36 1 false,qk 39 275 37, .i (.call 40 143 false [(.s 35),(.s 38)]),qm 4 39]) .ret))))⟩
theorem vu:cd lb=some mT:=by kernel_rfl
theorem uB (l:aB) (x:Block) (hw:x.wc) (hx:∀t∈x.txs,t.length≤1073741823):VC cd lb (aJ [(true,l.c),(true,x.c)]) (fun rs _=>rs=bl (bM l x)):=by
 obtain⟨⟨w1,_⟩,w2,w3⟩:=hw
 simp only[Sz]at w2
 refine aa vu rfl ?_
 simp(disch:=omega) [mT,aB.c,Block.c,Head.c,VY]
 refine ah (f7 l x.head w1) rfl rfl ?_
 simp(disch:=omega) [au,VY]
 refine ak (fun h2=> ?_) (fun h2=> ?_)
 case refine_2=>simp(disch:=omega) [h2,bM,VY]
 simp(disch:=omega) [h2,au,VY]
 refine ab (fun h3=> ?_) (fun h3=> ?_)
 ·simp(disch:=omega) [h2,h3,bM,show ¬(x.txs.length:Int)≤l.txs by omega,VY]
 simp(disch:=omega) [h2,h3,au,VY]
 refine aK (σ:=Nat) (f1:=_) (es0:=_) (by simp(disch:=omega) [VY];rfl) (by simp(disch:=omega) [VY];rfl) (fun i=> [(23, .val false [.int .i64 i])]) (fun _=> []) (fun i g=>g+i=x.txs.length∧∀t∈x.txs.take i,(t.length:Int)≤l.tx) 0 x.txs.length (by simp(disch:=omega) [VY]) (by simp(disch:=omega) [VY]) ⟨by omega,by simp⟩ ?_
 rintro i n g ⟨hg,hi⟩
 simp(disch:=omega) [VY]
 refine ab (fun h1=> ?_) (fun h1=> ?_)
 ·have hix:i < x.txs.length:=by omega
  have w4:=hx _ (List.getElem_mem hix)
  simp(disch:=omega) [cu hix,an,VY]
  refine ab (fun h4=> ?_) (fun h4=> ?_)
  ·simp(disch:=omega) [VY]
   simp[bM,Ci hix (by omega)]
  ·simp(disch:=omega) [VY]
   exact⟨i+1,g - 1,by omega,⟨by omega,fN hi hix (by omega)⟩,by simp⟩
 ·have hl:i=x.txs.length:=by omega
  subst hl
  have ht:=A4 hi
  simp(disch:=omega) [VY]
  refine ah (sw _ x.txs rfl (by omega) hx) rfl rfl ?_
  simp(disch:=omega) [h2,h3,ht,VY]
  refine ay (aP x.head.root (bc x.txs)) ?_
  simp(disch:=omega) [h2,h3,ht,bM,show(x.txs.length:Int)≤l.txs by omega,VY]
theorem mw {l:aB} {x:Block} (h:bM l x=true):x.txs.length≤8:=by
 simp only[bM,Bool.and_eq_true,decide_eq_true_eq]at h
 have h1:=h.1.1.1
 simp only[bP,Bool.and_eq_true]at h1
 have h2:=kL h1.1.1.1.1.1.1
 simp only[aB.ok,Bool.and_eq_true]at h2
 have h3:=ks h2.1.1.2
 omega
end Go.Eng.F
namespace Go.Eng.F
def aS (n:Nat):Bytes:=if n < 128 then [UInt8.ofNat n]else UInt8.ofNat (n % 128+128)::aS (n / 128)
termination_by n
decreasing_by omega
theorem u3 {n:Nat} (h:n < 128):aS n= [UInt8.ofNat n]:=by rw[aS,if_pos h]
theorem zZ {n:Nat} (h:¬n < 128):aS n=UInt8.ofNat (n % 128+128)::aS (n / 128):=by rw[aS,if_neg h]
theorem Bp:∀(k n:Nat),n < 128 ^ (k+1)→(aS n).length≤k+1
 |0,n,h=>by rw[u3 (by simpa using h)];simp
 |k+1,n,h=>by
  by_cases h1:n < 128
  ·rw[u3 h1];simp
  ·rw[zZ h1]
   have:=Bp k (n / 128) (by rw[Nat.div_lt_iff_lt_mul (by omega)];rw[Nat.pow_succ]at h;exact h)
   simp only[List.length_cons];omega
theorem bD {n:Nat} (h:n≤1152921504606846975):(aS n).length≤9:=Bp 8 n (by simp;omega)
theorem Ks {k:Nat} (h:k < 256):IntKind.u8.wrap (k:Int)=((UInt8.ofNat k).toNat:Int):=by
 simp only[UInt8.toNat_ofNat',IntKind.wrap,IntKind.bits,IntKind.signed]
 simp
def gp (b:Bytes) (n:Int):List (Bool×List E):=
 if isNum n then [(false,[.o true (some (5,1)) (bytes (b++aS n.toNat))]),(false,[.p (.bool true)])]else [(false,[.p .nils]),(false,[.p (.bool false)])]
theorem iw {n:Int} (h:isNum n=true):∃m:Nat,n=(m:Int)∧m≤1152921504606846975:=⟨n.toNat,by have:=ks h;omega⟩
abbrev gM:Nat:=278
def oX:AF:=⟨2,5,[.tmp 4, .tmp 5],(.seq (.ops [.i (.mov 4 (.c (.val false [.nils]))), .i (.mov 5 (qb false))]) (.seq (.seq (.ops [qm 7 1,qk 9 213 7, .i (.not 9 (.s 8))]) (.cond (.s 9) (.seq (.ops [.i (.mov 4 (.c (.val false [.nils]))), .i (.mov 5 (qb false))]) .ret) .skip)) (.seq (.ops [qm 10 0,qk 12 60 10,qm 6 11]) (.seq (.block 0 (.loop [22,21,20,19,18,17,16,15,14,13,12] (.seq (.seq (.ops [qm 12 1, .i (.bin 13 .geq (.s 12) (qi 128))]) (.cond (.s 13) .skip (.exit 0))) (.block 1 (.seq (.ops [qm 14 6,qm 15 1, .i (.bin 16 .rem (.s 15) (qi 128)), .i (.bin 17 .add (.s 16) (qi 128)), .i (.cvi 18 .u8 (.s 17)), .i (.lsl 19 1 1 [.int .u8 0] [(0,1,(.s 18))]), .i (.app 20 5 1 1 (.s 14) (.s 19)),qm 6 20]) (.ops [qm 21 1, .i (.bin 22 .quo (.s 21) (qi 128)),qm 1 22])))))) (.seq (.ops [qm 23 6,qm 24 1, .i (.cvi 25 .u8 (.s 24)), .i (.lsl 26 1 1 [.int .u8 0] [(0,1,(.s 25))]), .i (.app 27 5 1 1 (.s 23) (.s 26)),qm 4 27, .i (.mov 5 (qb true))]) .ret)))))⟩
theorem yf:cd gM=some oX:=by kernel_rfl
theorem vG (b:Bytes) (n:Int) (hb:b.length≤1073741824):VC cd gM (aJ [(false,[.sl (bytes b)]),(false,[.int .i64 n])]) (fun rs _=>rs=gp b n):=by
 refine aa yf rfl ?_
 simp(disch:=omega) [oX,VY]
 refine ah (ek n) rfl rfl ?_
 simp(disch:=omega) [VY]
 refine ak (fun h1=> ?_) (fun h1=> ?_)
 case refine_2=>simp(disch:=omega) [gp,h1,VY]
 simp(disch:=omega) [h1,VY]
 refine ah (aL b (by omega)) rfl rfl ?_
 obtain⟨m,rfl,hm⟩:=iw h1
 have hl:=bD hm
 simp(disch:=omega) [VY]
 refine aK (σ:=Nat×Bytes×Nat) (f1:=_) (es0:=_) (by simp(disch:=omega) [VY];rfl) (by simp(disch:=omega) [VY];rfl) (fun p=> [(1, .val false [.int .i64 (p.1:Int)]),(6, .val false [.ow 106496 p.2.2])]) (fun p=> [(106496, .sl p.2.2 true true (some (5,1)) (bytes p.2.1))])
  (fun p g=>g=p.1∧p.1≤m∧p.2.1++aS p.1=b++aS m) (m,b,_) m (by simp(disch:=omega) [VY];rfl) (by simp(disch:=omega) [VY]) ⟨rfl,Nat.le_refl _,rfl⟩ ?_
 rintro⟨k,a,v⟩ n g ⟨hg,hk,ha⟩
 simp only at hg hk ha
 have hla:a.length≤b.length+9:=by
  have:=congrArg List.length ha
  simp only[List.length_append]at this
  omega
 simp(disch:=omega) [VY]
 refine ab (fun h2=> ?_) (fun h2=> ?_)
 ·have e1:Int.tmod (k:Int) 128=(k:Int) % 128:=Int.tmod_eq_emod_of_nonneg (by omega)
  have e2:Int.tdiv (k:Int) 128=(k:Int) / 128:=Int.tdiv_eq_ediv_of_nonneg (by omega)
  have e3:IntKind.u8.wrap ((k:Int) % 128+128)=((UInt8.ofNat (k % 128+128)).toNat:Int):=by rw[←Ks (by omega)];congr 1
  have e4:bytes a++ [[.int .u8 ((UInt8.ofNat (k % 128+128)).toNat:Int)]]=bytes (a++ [UInt8.ofNat (k % 128+128)]):=by simp[bytes]
  simp(disch:=omega) [e1,e2,e3,e4,an,VY]
  refine⟨k / 128,a++ [UInt8.ofNat (k % 128+128)],_,k / 128,by omega,⟨rfl,by omega,?_⟩,⟨rfl,by omega⟩,rfl,by simp[bytes]⟩
  rw[←ha,zZ (n:=k) (by omega)]
  simp
 ·have e3:IntKind.u8.wrap (k:Int)=((UInt8.ofNat k).toNat:Int):=Ks (by omega)
  have e4:bytes a++ [[.int .u8 ((UInt8.ofNat k).toNat:Int)]]=bytes (a++ [UInt8.ofNat k]):=by simp[bytes]
  rw[u3 (n:=k) (by omega)]at ha
  simp(disch:=omega) [e3,e4,an,gp,h1,VY]
  rw[←ha]
  simp[bytes]
abbrev gL:Nat:=274
def oH:AF:=⟨2,5,[.tmp 4, .tmp 5],(.seq (.ops [.i (.mov 4 (.c (.val false [.nils]))), .i (.mov 5 (qb false))]) (.seq (.seq (.ops [qm 7 1,qk 9 201 7, .i (.not 9 (.s 8))]) (.cond (.s 9) (.seq (.ops [.i (.mov 4 (.c (.val false [.nils]))), .i (.mov 5 (qb false))]) .ret) .skip)) (.seq (.ops [qm 10 0,qk 12 115 10,qm 6 11]) (.seq (.block 0 (.loop [22,21,20,19,18,17,16,15,14,13,12] (.seq (.seq (.ops [qm 12 1, .i (.bin 13 .gtr (.s 12) (qi 127))]) (.cond (.s 13) .skip (.exit 0))) (.block 1 (.seq (.ops [qm 14 6,qm 15 1, .i (.bin 16 .rem (.s 15) (qi 128)), .i (.bin 17 .add (qi 128) (.s 16)), .i (.cvi 18 .u8 (.s 17)), .i (.lsl 19 1 1 [.int .u8 0] [(0,1,(.s 18))]), .i (.app 20 5 1 1 (.s 14) (.s 19)),qm 6 20]) (.ops [qm 21 1, .i (.bin 22 .quo (.s 21) (qi 128)),qm 1 22])))))) (.seq (.ops [qm 23 6,qm 24 1, .i (.cvi 25 .u8 (.s 24)), .i (.lsl 26 1 1 [.int .u8 0] [(0,1,(.s 25))]), .i (.app 27 5 1 1 (.s 23) (.s 26)),qm 4 27, .i (.mov 5 (qb true))]) .ret)))))⟩
theorem xF:cd gL=some oH:=by kernel_rfl
theorem vq (b:Bytes) (n:Int) (hb:b.length≤1073741824):VC cd gL (aJ [(false,[.sl (bytes b)]),(false,[.int .i64 n])]) (fun rs _=>rs=gp b n):=by
 refine aa xF rfl ?_
 simp(disch:=omega) [oH,VY]
 refine ah (d8 n) rfl rfl ?_
 simp(disch:=omega) [VY]
 refine ak (fun h1=> ?_) (fun h1=> ?_)
 case refine_2=>simp(disch:=omega) [gp,h1,VY]
 simp(disch:=omega) [h1,VY]
 refine ah (cq b (by omega)) rfl rfl ?_
 obtain⟨m,rfl,hm⟩:=iw h1
 have hl:=bD hm
 simp(disch:=omega) [VY]
 refine aK (σ:=Nat×Bytes×Nat) (f1:=_) (es0:=_) (by simp(disch:=omega) [VY];rfl) (by simp(disch:=omega) [VY];rfl) (fun p=> [(1, .val false [.int .i64 (p.1:Int)]),(6, .val false [.ow 106496 p.2.2])]) (fun p=> [(106496, .sl p.2.2 true true (some (5,1)) (bytes p.2.1))])
  (fun p g=>g=p.1∧p.1≤m∧p.2.1++aS p.1=b++aS m) (m,b,_) m (by simp(disch:=omega) [VY];rfl) (by simp(disch:=omega) [VY]) ⟨rfl,Nat.le_refl _,rfl⟩ ?_
 rintro⟨k,a,v⟩ n g ⟨hg,hk,ha⟩
 simp only at hg hk ha
 have hla:a.length≤b.length+9:=by
  have:=congrArg List.length ha
  simp only[List.length_append]at this
  omega
 simp(disch:=omega) [VY]
 refine ab (fun h2=> ?_) (fun h2=> ?_)
 ·have e1:Int.tmod (k:Int) 128=(k:Int) % 128:=Int.tmod_eq_emod_of_nonneg (by omega)
  have e2:Int.tdiv (k:Int) 128=(k:Int) / 128:=Int.tdiv_eq_ediv_of_nonneg (by omega)
  have e3:IntKind.u8.wrap (128+(k:Int) % 128)=((UInt8.ofNat (k % 128+128)).toNat:Int):=by rw[←Ks (by omega)];congr 1;omega
  have e4:bytes a++ [[.int .u8 ((UInt8.ofNat (k % 128+128)).toNat:Int)]]=bytes (a++ [UInt8.ofNat (k % 128+128)]):=by simp[bytes]
  simp(disch:=omega) [e1,e2,e3,e4,an,VY]
  refine⟨k / 128,a++ [UInt8.ofNat (k % 128+128)],_,k / 128,by omega,⟨rfl,by omega,?_⟩,⟨rfl,by omega⟩,rfl,by simp[bytes]⟩
  rw[←ha,zZ (n:=k) (by omega)]
  simp
 ·have e3:IntKind.u8.wrap (k:Int)=((UInt8.ofNat k).toNat:Int):=Ks (by omega)
  have e4:bytes a++ [[.int .u8 ((UInt8.ofNat k).toNat:Int)]]=bytes (a++ [UInt8.ofNat k]):=by simp[bytes]
  rw[u3 (n:=k) (by omega)]at ha
  simp(disch:=omega) [e3,e4,an,gp,h1,VY]
  rw[←ha]
  simp[bytes]
theorem eZ {n:Nat} (h:n≤1152921504606846975):isNum (n:Int)=true:=by simp[isNum,eA];omega
theorem oQ (b:Bytes) (n:Nat) (hn:n≤1152921504606846975) (hb:b.length≤1073741824):VC cd gM (aJ [(false,[.sl (bytes b)]),(false,[.int .i64 (n:Int)])]) (fun rs _=>rs= [(false,[.o true (some (5,1)) (bytes (b++aS n))]),(false,[.p (.bool true)])]):=
 (vG b n hb).mono fun rs ps h=>by rw[h,gp,if_pos (eZ hn)];rfl
theorem pj (b:Bytes) (n:Nat) (hn:n≤1152921504606846975) (hb:b.length≤1073741824):VC cd gL (aJ [(false,[.sl (bytes b)]),(false,[.int .i64 (n:Int)])]) (fun rs _=>rs= [(false,[.o true (some (5,1)) (bytes (b++aS n))]),(false,[.p (.bool true)])]):=
 (vq b n hb).mono fun rs ps h=>by rw[h,gp,if_pos (eZ hn)];rfl
abbrev oy:Nat:=233
def oc:AF:=⟨2,4,[.tmp 4],(.seq (.ops [.i (.mov 4 (.c (.val false [.nils])))]) (.seq (.ops [qm 8 0,qm 9 1, .i (.call 11 274 false [(.s 8),(.s 9)]),qm 7 10, .i (.ext 11 (.s 7) 0), .i (.ext 12 (.s 7) 1),qm 5 11,qm 6 12]) (.seq (.ops [qm 13 5,qm 4 13]) .ret)))⟩
theorem ym:cd oy=some oc:=by kernel_rfl
theorem bk (b:Bytes) (n:Int) (hn:isNum n=true) (hb:b.length≤1073741824):VC cd oy (aJ [(false,[.sl (bytes b)]),(false,[.int .i64 n])]) (fun rs _=>rs= [(false,[.o true (some (5,1)) (bytes (b++aS n.toNat))])]):=by
 obtain⟨m,rfl,hm⟩:=iw hn
 refine aa ym rfl ?_
 simp(disch:=omega) [oc,VY]
 refine ah (pj b m hm hb) rfl rfl ?_
 simp(disch:=omega) [VY]
abbrev gw:Nat:=241
def gl:AF:=⟨2,5,[],(.ops [qm 5 0,qm 6 0, .i (.nch 7 (.s 6)),qf 8 7 0, .i (.ldh 9 (.s 8) 1 false),qm 10 1, .i (.call 12 278 false [(.s 9),(.s 10)]),qm 4 11, .i (.ext 12 (.s 4) 0), .i (.ext 13 (.s 4) 1), .i (.nch 14 (.s 5)),qf 15 14 0, .i (.sth (.s 15) (.s 12) 1)])⟩
theorem qN:cd gw=some gl:=by kernel_rfl
theorem aH (b:Bytes) (n:Int) (hn:isNum n=true) (hb:b.length≤1073741824):VC cd gw (EG [] 228 [.o true (some (5,1)) (bytes b)] [(false,[.int .i64 n])]) (fun r p=>r= []∧p= [.pt 228 [.o true (some (5,1)) (bytes (b++aS n.toNat))]]):=by
 obtain⟨m,rfl,hm⟩:=iw hn
 refine nH qN rfl ?_
 simp(disch:=omega) [gl,VZ]
 refine ah (oQ b m hm hb) rfl rfl ?_
 simp(disch:=omega) [VZ]
abbrev gD:Nat:=242
def gG:AF:=⟨2,4,[],(.ops [qm 4 0,qm 5 0, .i (.nch 6 (.s 5)),qf 7 6 0, .i (.ldh 8 (.s 7) 1 false),qm 9 1, .i (.app 10 5 1 1 (.s 8) (.s 9)), .i (.nch 11 (.s 4)),qf 12 11 0, .i (.sth (.s 12) (.s 10) 1)])⟩
theorem rF:cd gD=some gG:=by kernel_rfl
theorem bK (b x:Bytes) (hx:x.length≤1073741824) (hb:b.length≤1073741824):VC cd gD (EG [] 228 [.o true (some (5,1)) (bytes b)] [(false,[.sl (bytes x)])]) (fun r p=>r= []∧p= [.pt 228 [.o true (some (5,1)) (bytes (b++x))]]):=by
 refine nH rF rfl ?_
 simp(disch:=omega) [gG,an,cN,VZ]
def EF (q:Qc):Bytes:=aS q.view.toNat++aS q.height.toNat++q.block++q.bits++q.tags.flatten
def dZ (h:Head):Bytes:=aS h.view.toNat++aS h.height.toNat++aS h.proposer.toNat++h.parent++h.root++EF h.qc
theorem aw {n:Int} (h:isNum n=true):(aS n.toNat).length≤9:=by
 obtain⟨m,rfl,hm⟩:=iw h
 simpa using bD hm
theorem Ie {n:Int} (h:1≤n∧n≤10):HK n≤2:=by unfold HK;split <;>omega
structure HG (q:Qc):Prop where
 view:isNum q.view=true
 height:isNum q.height=true
 block:q.block.length=32
 bits:q.bits.length≤2
 tags:q.tags.length≤16
 tag:∀t∈q.tags,t.length=32
theorem nv {l:aB} {q:Qc} (h:f5 l q=true):HG q:=by
 simp only[f5,Bool.and_eq_true,decide_eq_true_eq]at h
 obtain⟨⟨⟨⟨⟨⟨h0,h1⟩,h2⟩,h3⟩,h4⟩,h5⟩,h6⟩:=h
 simp only[fi,Bool.and_eq_true,decide_eq_true_eq]at h4
 have hb:=Ie (ks h4.1.1)
 have hl:=er q.bits
 refine⟨h1,h2,by simpa[hash]using h3,by omega,by omega,fun t ht=> ?_⟩
 simp only[hashes,List.all_eq_true]at h6
 simpa[hash]using h6 t ht
theorem fH {l:List Bytes} (h:∀t∈l,t.length=32) {i:Nat} (hi:i≤l.length):(l.take i).flatten.length=32 * i:=by
 induction i generalizing l with
 |zero=>simp
 |succ i ih=>
  cases l with
  |nil=>simp at hi
  |cons a l=>
   simp only[List.take_succ_cons,List.flatten_cons,List.length_append]
   rw[ih (fun t ht=>h t (by simp[ht])) (by simpa using hi),h a (by simp)]
   omega
theorem nA {l:List Bytes} {i:Nat} (h:i < l.length):(l.take (i+1)).flatten=(l.take i).flatten++l[i]:=by
 rw[List.take_add_one,List.getElem?_eq_getElem h,List.flatten_append]
 simp only[Option.toList_some,List.flatten_cons,List.flatten_nil,List.append_nil]
theorem AB {q:Qc} (h:HG q):(EF q).length≤600:=by
 have h1:=aw h.view
 have h2:=aw h.height
 have h3:=fH h.tag (Nat.le_refl _)
 rw[List.take_length]at h3
 have:=h.block
 have:=h.bits
 have:=h.tags
 simp only[EF,List.length_append]
 omega
abbrev hC:Nat:=243
def ik:AF:=⟨2,6,[],(.seq (.ops [.i (.lbox 3 (.s 1))]) (.seq (.ops [qm 6 0,qf 7 3 0,ql 8 3 7 1 false, .i (.call 10 241 false [(.s 6),(.s 8)])]) (.seq (.ops [qm 10 0,qf 11 3 1,ql 12 3 11 1 false, .i (.call 14 241 false [(.s 10),(.s 12)])]) (.seq (.ops [qm 14 0,qf 15 3 2,ql 16 3 15 1 false, .i (.call 18 242 false [(.s 14),(.s 16)])]) (.seq (.ops [qm 18 0,qf 19 3 3,ql 20 3 19 1 false, .i (.call 22 242 false [(.s 18),(.s 20)])]) (.seq (.ops [qf 22 3 4,ql 23 3 22 1 false,qn 24 23, .i (.mov 25 (qi 0))]) (.block 0 (.loop [32,31,30,29,28,27,26,5] (.seq (.ops [qd 26 .lss 25 24]) (.seq (.cond (.s 26) .skip (.exit 0)) (.seq (.block 1 (.seq (.ops [.i (.iad 27 (.s 23) (.s 25) 1), .i (.ldh 28 (.s 27) 1 false),qm 5 28]) (.ops [qm 29 0,qm 30 5, .i (.call 32 242 false [(.s 29),(.s 30)])]))) (.ops [.i (.bin 32 .add (.s 25) (qi 1)),qm 25 32]))))))))))))⟩
theorem s8:cd hC=some ik:=by kernel_rfl
theorem jf (b:Bytes) (q:Qc) (hq:HG q) (hb:b.length≤1000000000):VC cd hC (EG [] 228 [.o true (some (5,1)) (bytes b)] [(true,q.c)]) (fun r p=>r= []∧p= [.pt 228 [.o true (some (5,1)) (bytes (b++EF q))]]):=by
 have h1:=aw hq.view
 have h2:=aw hq.height
 have h4:=hq.block
 have h5:=hq.bits
 have h6:=hq.tags
 refine nH s8 rfl ?_
 simp(disch:=omega) [ik,Qc.c,VZ]
 refine oJ (aH _ q.view hq.view ?_) ?_
 ·(try simp only[List.length_append]);omega
 simp(disch:=omega) [VZ]
 refine oJ (aH _ q.height hq.height ?_) ?_
 ·(try simp only[List.length_append]);omega
 simp(disch:=omega) [VZ]
 refine oJ (bK _ q.block (by omega) ?_) ?_
 ·(try simp only[List.length_append]);omega
 simp(disch:=omega) [VZ]
 refine oJ (bK _ q.bits (by omega) ?_) ?_
 ·(try simp only[List.length_append]);omega
 simp(disch:=omega) [au,VZ]
 refine aK (σ:=Nat×Nat) (f1:=_) (es0:=_) (by simp(disch:=omega) [VZ];rfl) (by simp(disch:=omega) [VZ];rfl) (fun p=> [(25, .val false [.int .i64 (p.1:Int)])]) (fun p=> [(4096, .pt 0 228 [.ow 1099528404992 p.2]),(1099528404992, .sl p.2 true true (some (5,1)) (bytes (b++(aS q.view.toNat++(aS q.height.toNat++(q.block++(q.bits++(q.tags.take p.1).flatten)))))))])
  (fun p g=>g+p.1=q.tags.length) (0,14) q.tags.length (by simp(disch:=omega) [VZ]) (by simp(disch:=omega) [VZ]) (by omega) ?_
 rintro⟨i,v⟩ n g hg
 simp only at hg
 simp(disch:=omega) [VZ]
 refine ab (fun h7=> ?_) (fun h7=> ?_)
 ·have hi:i < q.tags.length:=by omega
  have hx:=hq.tag _ (List.getElem_mem hi)
  have hf:=fH hq.tag (i:=i) (by omega)
  simp(disch:=omega) [cu hi,VZ]
  refine oJ (bK _ q.tags[i] (by omega) ?_) ?_
  ·(try simp only[List.length_append]);omega
  simp(disch:=omega) [VZ]
  exact⟨i+1,_,g - 1,by omega,by omega,rfl,rfl,by rw[nA hi]⟩
 ·have hi:i=q.tags.length:=by omega
  subst hi
  rw[List.take_length]
  simp(disch:=omega) [EF,VZ]
def aU (ok:Bool) (b:Bytes):List (Bool×List E):=
 if ok then [(false,[.o true (some (5,1)) (bytes b)]),(false,[.p (.bool true)])]else [(false,[.p .nils]),(false,[.p (.bool false)])]
theorem bq {ok:Bool} {b:Bytes} (h:ok=true):aU ok b= [(false,[.o true (some (5,1)) (bytes b)]),(false,[.p (.bool true)])]:=by subst h;rfl
theorem b5 {ok:Bool} {b:Bytes} (h:ok=false):aU ok b= [(false,[.p .nils]),(false,[.p (.bool false)])]:=by subst h;rfl
theorem _root_.Go.Eng.VC.re {cd:Nat→Option AF} {g:Nat} {al:List (Bool×List E)} {rs rt:List (Bool×List E)} (h:VC cd g al (fun r _=>r=rs)) (e:rs=rt):VC cd g al (fun r _=>r=rt):=by subst e;exact h
abbrev qj:Nat:=168
def rI:AF:=⟨3,6,[.tmp 6, .tmp 7],(.seq (.ops [.i (.lbox 3 (.s 0)), .i (.lbox 5 (.s 2)), .i (.mov 6 (.c (.val false [.nils]))), .i (.mov 7 (qb false))]) (.seq (.seq (.ops [ql 11 3 3 5 true,ql 12 5 5 5 true, .i (.call 14 203 false [(.s 11),(.s 12)]), .i (.not 14 (.s 13))]) (.cond (.s 14) (.seq (.ops [.i (.mov 6 (.c (.val false [.nils]))), .i (.mov 7 (qb false))]) .ret) .skip)) (.seq (.ops [qm 15 1,qf 16 5 0,ql 17 5 16 1 false, .i (.call 19 233 false [(.s 15),(.s 17)]),qf 19 5 1,ql 20 5 19 1 false, .i (.call 22 233 false [(.s 18),(.s 20)]),qf 22 5 2,ql 23 5 22 1 false, .i (.app 24 5 1 1 (.s 21) (.s 23)),qm 8 24]) (.seq (.ops [qm 25 8,qf 26 5 3,ql 27 5 26 1 false, .i (.app 28 5 1 1 (.s 25) (.s 27)),qm 8 28]) (.seq (.seq (.ops [qf 29 5 4,ql 30 5 29 1 false,qn 31 30, .i (.mov 32 (qi 0))]) (.block 0 (.loop [39,38,37,36,35,34,33,10] (.seq (.ops [qd 33 .lss 32 31]) (.seq (.cond (.s 33) .skip (.exit 0)) (.seq (.block 1 (.seq (.ops [.i (.iad 34 (.s 30) (.s 32) 1), .i (.ldh 35 (.s 34) 1 false),qm 10 35]) (.ops [qm 36 8,qm 37 10, .i (.app 38 5 1 1 (.s 36) (.s 37)),qm 8 38]))) (.ops [.i (.bin 39 .add (.s 32) (qi 1)),qm 32 39]))))))) (.seq (.ops [qm 40 8,qm 6 40, .i (.mov 7 (qb true))]) .ret))))))⟩
theorem zi:cd qj=some rI:=by kernel_rfl
theorem eS (l:aB) (b:Bytes) (q:Qc) (hw:q.wf) (hb:b.length≤1000000000):VC cd qj (aJ [(true,l.c),(false,[.sl (bytes b)]),(true,q.c)]) (fun rs _=>rs=aU (f5 l q) (b++EF q)):=by
 refine aa zi rfl ?_
 simp(disch:=omega) [rI,Qc.c,aB.c,VY]
 refine ah (i3 l q hw) rfl rfl ?_
 simp(disch:=omega) [VY]
 refine ak (fun h0=> ?_) (fun h0=> ?_)
 case refine_2=>simp(disch:=omega) [h0,aU,VY]
 have hq:=nv h0
 have h1:=aw hq.view
 have h2:=aw hq.height
 have h4:=hq.block
 have h5:=hq.bits
 have h6:=hq.tags
 simp(disch:=omega) [h0,VY]
 refine ah (bk b q.view hq.view (by omega)) rfl rfl ?_
 simp(disch:=omega) [VY]
 refine ah (bk (b++aS q.view.toNat) q.height hq.height (by simp only[List.length_append];omega)) rfl rfl ?_
 simp(disch:=omega) [cN,an,VY]
 have e1:List.length b+(List.length (aS q.view.toNat)+(List.length (aS q.height.toNat)+List.length q.block))≤1073741824:=by omega
 simp(disch:=omega) [cN,an,au,VY]
 refine aK (σ:=Nat×Nat) (f1:=_) (es0:=_) (by simp(disch:=omega) [VY];rfl) (by simp(disch:=omega) [VY];rfl) (fun p=> [(32, .val false [.int .i64 (p.1:Int)]),(8, .val false [.ow 188416 p.2])]) (fun p=> [(188416, .sl p.2 true true (some (5,1)) (bytes (b++(aS q.view.toNat++(aS q.height.toNat++(q.block++(q.bits++(q.tags.take p.1).flatten)))))))])
  (fun p g=>g+p.1=q.tags.length) (0,_) q.tags.length (by simp(disch:=omega) [VY];rfl) (by simp(disch:=omega) [VY]) (by omega) ?_
 rintro⟨i,v⟩ n g hg
 simp only at hg
 simp(disch:=omega) [VY]
 refine ab (fun h7=> ?_) (fun h7=> ?_)
 ·have hi:i < q.tags.length:=by omega
  have hx:=hq.tag _ (List.getElem_mem hi)
  have hf:=fH hq.tag (i:=i) (by omega)
  simp(disch:=omega) [cu hi,cN,an,hf,VY]
  exact⟨i+1,_,g - 1,by omega,by omega,⟨by omega,rfl⟩,rfl,by rw[nA hi]⟩
 ·have hi:i=q.tags.length:=by omega
  subst hi
  rw[List.take_length]
  simp(disch:=omega) [EF,aU,h0,VY]
structure zB (h:Head):Prop where
 view:isNum h.view=true
 height:isNum h.height=true
 proposer:isNum h.proposer=true
 parent:h.parent.length=32
 root:h.root.length=32
 qc:HG h.qc
theorem sV {l:aB} {h:Head} (hk:bP l h=true):f5 l h.qc=true:=by
 simp only[bP,Bool.and_eq_true]at hk
 exact hk.1.1.1.1.1.1
theorem c9 {l:aB} {h:Head} (hk:bP l h=true):zB h:=by
 have hq:=sV hk
 have hn:=iZ (kL hq)
 simp only[bP,Bool.and_eq_true,decide_eq_true_eq]at hk
 obtain⟨⟨⟨⟨⟨⟨h0,h1⟩,h2⟩,h3⟩,h4⟩,h5⟩,h6⟩:=hk
 have h2':=ks h2
 have h3':=ks h3
 exact⟨h1,by simp[isNum,eA];omega,by simp[isNum,eA];omega,by simpa[hash]using h4,by simpa[hash]using h5,nv hq⟩
theorem fG {h:Head} (hs:zB h):(dZ h).length≤1000:=by
 have h1:=aw hs.view
 have h2:=aw hs.height
 have h3:=aw hs.proposer
 have h4:=hs.parent
 have h5:=hs.root
 have h6:=AB hs.qc
 simp only[dZ,List.length_append]
 omega
abbrev fY:Nat:=216
def fX:AF:=⟨2,5,[],(.seq (.ops [.i (.lbox 3 (.s 1))]) (.seq (.ops [qm 4 0,qf 5 3 0,ql 6 3 5 1 false, .i (.call 8 241 false [(.s 4),(.s 6)])]) (.seq (.ops [qm 8 0,qf 9 3 1,ql 10 3 9 1 false, .i (.call 12 241 false [(.s 8),(.s 10)])]) (.seq (.ops [qm 12 0,qf 13 3 2,ql 14 3 13 1 false, .i (.call 16 241 false [(.s 12),(.s 14)])]) (.seq (.ops [qm 16 0,qf 17 3 3,ql 18 3 17 1 false, .i (.call 20 242 false [(.s 16),(.s 18)])]) (.seq (.ops [qm 20 0,qf 21 3 4,ql 22 3 21 1 false, .i (.call 24 242 false [(.s 20),(.s 22)])]) (.ops [qm 24 0,qf 25 3 5,ql 26 3 25 5 true, .i (.call 28 243 false [(.s 24),(.s 26)])])))))))⟩
theorem pL:cd fY=some fX:=by kernel_rfl
theorem fU (b:Bytes) (h:Head) (hs:zB h) (hb:b.length≤900000000):VC cd fY (EG [] 228 [.o true (some (5,1)) (bytes b)] [(true,h.c)]) (fun r p=>r= []∧p= [.pt 228 [.o true (some (5,1)) (bytes (b++dZ h))]]):=by
 have h1:=aw hs.view
 have h2:=aw hs.height
 have h3:=aw hs.proposer
 have h4:=hs.parent
 have h5:=hs.root
 refine nH pL rfl ?_
 simp(disch:=omega) [fX,Head.c,VZ]
 refine oJ (aH _ h.view hs.view ?_) ?_
 ·(try simp only[List.length_append]);omega
 simp(disch:=omega) [VZ]
 refine oJ (aH _ h.height hs.height ?_) ?_
 ·(try simp only[List.length_append]);omega
 simp(disch:=omega) [VZ]
 refine oJ (aH _ h.proposer hs.proposer ?_) ?_
 ·(try simp only[List.length_append]);omega
 simp(disch:=omega) [VZ]
 refine oJ (bK _ h.parent (by omega) ?_) ?_
 ·(try simp only[List.length_append]);omega
 simp(disch:=omega) [VZ]
 refine oJ (bK _ h.root (by omega) ?_) ?_
 ·(try simp only[List.length_append]);omega
 simp(disch:=omega) [VZ]
 refine oJ (jf _ h.qc hs.qc ?_) ?_
 ·(try simp only[List.length_append]);omega
 simp(disch:=omega) [dZ,VZ]
abbrev kR:Nat:=129
def nk:AF:=⟨3,5,[.tmp 6, .tmp 7],(.seq (.ops [.i (.lbox 3 (.s 0)), .i (.lbox 5 (.s 2)), .i (.mov 6 (.c (.val false [.nils]))), .i (.mov 7 (qb false))]) (.seq (.seq (.ops [ql 9 3 3 5 true,ql 10 5 5 10 true, .i (.call 12 140 false [(.s 9),(.s 10)]), .i (.not 12 (.s 11))]) (.cond (.s 12) (.seq (.ops [.i (.mov 6 (.c (.val false [.nils]))), .i (.mov 7 (qb false))]) .ret) .skip)) (.seq (.ops [qm 13 1,qk 15 60 13, .i (.bld 15 [.nils] [(0,1,(.s 14))]), .i (.hbox 16 228 (.s 15)),qm 8 16]) (.seq (.ops [qm 17 8,ql 18 5 5 10 true, .i (.call 20 216 false [(.s 17),(.s 18)])]) (.seq (.ops [qm 20 8, .i (.nch 21 (.s 20)),qf 22 21 0, .i (.ldh 23 (.s 22) 1 false),qm 6 23, .i (.mov 7 (qb true))]) .ret)))))⟩
theorem vo:cd kR=some nk:=by kernel_rfl
theorem jH (l:aB) (b:Bytes) (h:Head) (hw:h.wf) (hb:b.length≤900000000):VC cd kR (aJ [(true,l.c),(false,[.sl (bytes b)]),(true,h.c)]) (fun rs _=>rs=aU (bP l h) (b++dZ h)):=by
 refine aa vo rfl ?_
 simp(disch:=omega) [nk,Head.c,aB.c,VY]
 refine ah (fS l h hw) rfl rfl ?_
 simp(disch:=omega) [VY]
 refine ak (fun h0=> ?_) (fun h0=> ?_)
 case refine_2=>simp(disch:=omega) [h0,aU,VY]
 have hs:=c9 h0
 simp(disch:=omega) [h0,VY]
 refine ah (aL b (by omega)) rfl rfl ?_
 simp(disch:=omega) [VZ]
 refine oJ (fU _ h hs ?_) ?_
 ·(try simp only[List.length_append]);omega
 simp(disch:=omega) [aU,h0,VZ]
abbrev mh:Nat:=169
def lF:AF:=⟨3,6,[.tmp 6, .tmp 7],(.seq (.ops [.i (.lbox 3 (.s 0)), .i (.lbox 5 (.s 2)), .i (.mov 6 (.c (.val false [.nils]))), .i (.mov 7 (qb false))]) (.seq (.seq (.ops [ql 9 3 3 5 true,ql 10 5 5 10 true, .i (.call 12 118 false [(.s 9),(.s 10)]), .i (.not 12 (.s 11))]) (.cond (.s 12) (.seq (.ops [.i (.mov 6 (.c (.val false [.nils]))), .i (.mov 7 (qb false))]) .ret) .skip)) (.seq (.ops [qm 13 1,qf 14 5 0,ql 15 5 14 1 false, .i (.call 17 233 false [(.s 13),(.s 15)]),qf 17 5 1,ql 18 5 17 1 false, .i (.call 20 233 false [(.s 16),(.s 18)]),qf 20 5 2,ql 21 5 20 1 false, .i (.call 23 233 false [(.s 19),(.s 21)]),qm 8 22]) (.seq (.ops [qm 23 8,qf 24 5 3,ql 25 5 24 1 false, .i (.app 26 5 1 1 (.s 23) (.s 25)),qf 27 5 4,ql 28 5 27 1 false, .i (.app 29 5 1 1 (.s 26) (.s 28)),qm 8 29]) (.seq (.ops [ql 30 3 3 5 true,qm 31 8,qf 32 5 5,ql 33 5 32 5 true, .i (.call 35 168 false [(.s 30),(.s 31),(.s 33)]), .i (.ext 35 (.s 34) 0), .i (.ext 36 (.s 34) 1),qm 6 35,qm 7 36]) .ret)))))⟩
theorem vi:cd mh=some lF:=by kernel_rfl
theorem dM (l:aB) (b:Bytes) (h:Head) (hw:h.wf) (hb:b.length≤900000000):VC cd mh (aJ [(true,l.c),(false,[.sl (bytes b)]),(true,h.c)]) (fun rs _=>rs=aU (bP l h) (b++dZ h)):=by
 refine aa vi rfl ?_
 simp(disch:=omega) [lF,Head.c,aB.c,VY]
 refine ah (f7 l h hw) rfl rfl ?_
 simp(disch:=omega) [VY]
 refine ak (fun h0=> ?_) (fun h0=> ?_)
 case refine_2=>simp(disch:=omega) [h0,aU,VY]
 have hs:=c9 h0
 have h1:=aw hs.view
 have h2:=aw hs.height
 have h3:=aw hs.proposer
 have h4:=hs.parent
 have h5:=hs.root
 simp(disch:=omega) [h0,VY]
 refine ah (bk b h.view hs.view (by omega)) rfl rfl ?_
 simp(disch:=omega) [VY]
 refine ah (bk (b++aS h.view.toNat) h.height hs.height (by simp only[List.length_append];omega)) rfl rfl ?_
 simp(disch:=omega) [VY]
 refine ah (bk (b++(aS h.view.toNat++aS h.height.toNat)) h.proposer hs.proposer (by simp only[List.length_append];omega)) rfl rfl ?_
 simp(disch:=omega) [cN,an,VY]
 refine ay ((eS l (b++(aS h.view.toNat++(aS h.height.toNat++(aS h.proposer.toNat++(h.parent++h.root))))) h.qc hw.2.2.2.2.2 (by simp only[List.length_append];omega)).re (bq (sV h0))) ?_
 simp(disch:=omega) [aU,h0,dZ,VY]
def KV (l:aB) (h:Head):Bytes:=if bP l h then DB (72::dZ h)else []
end Go.Eng.F
namespace Go.Eng.F
structure cw where
 l:aB
 heads:List Head
def cw.c (f:cw):List D:=f.l.c++ [.sl (f4 f.heads)]
def cw.wf (f:cw):Prop:=nD f.heads
def cw.wc (f:cw):Prop:=Sz f.heads.length∧∀h∈f.heads,h.wc
theorem cw.wc.wf {f:cw} (h:f.wc):f.wf:=⟨h.1,fun x hx=>(h.2 x hx).1⟩
def hh (l:aB) (hs:List Head) (i:Nat):Bytes:=match hs[i]? with|some h=>KV l h|none=> []
theorem aE:bytes []= []:=rfl
def cw.o (f:cw):List E:= [.p (.int .i64 f.l.n), .p (.int .i64 f.l.tx), .p (.int .i64 f.l.txs), .p (.int .i64 f.l.frame), .p (.int .i64 f.l.heads), .o true (some (40,10)) (f4 f.heads)]
end Go.Eng.F
namespace Go.Eng.F
end Go.Eng.F
namespace Go.Eng.F
open Go.Eng.U (yJ cp TLimits u7)
def cw.tv (f:cw):Tv:= .r [f.l.tv,tY f.heads]
theorem cw.enc (f:cw):enc u7 f.tv=f.c:=by simp only[cw.tv,nz,dS,bH,ck,aB.enc,cw.c,List.append_nil]
theorem cw.ex {v:Tv} (h:aF u7 v):∃q:cw,v=q.tv:=by
 obtain⟨vs,rfl,h⟩:=h.st
 obtain⟨v0,_,rfl,h0,h⟩:=h.step
 obtain⟨v1,_,rfl,h1,h⟩:=h.step
 obtain rfl:=h.fin
 obtain⟨n0,rfl⟩:=aB.ex h0
 obtain⟨n1,rfl⟩:=vg h1
 exact⟨⟨n0,n1⟩,rfl⟩
theorem cw.of {f:cw} (h:aF u7 f.tv) (hw:wt f.tv≤1048576):f.wc∧aF TLimits f.l.tv∧f.heads.length≤1048576:=by
 simp only[cw.tv,fc,cj]at h
 simp only[cw.tv,wt,cQ]at hw
 obtain⟨h0,h1,_⟩:=h
 have h5:=Ao h1 (by omega)
 have h6:f.heads.length≤wt (tY f.heads):=by unfold tY;rw[Fa,List.length_map];omega
 exact⟨⟨h5.1,h5.2⟩,fc.2 (fc.1 h0),by omega⟩
theorem zE {α:Type} {f:α→Tv} {B:Nat}:∀ {l:List α},(∀x∈l,wt (f x)≤B)→cQ (l.map f)≤l.length * B
 | [],_=>by simp[cQ]
 |a::l,h=>by
  have h1:=h a (by simp)
  have h2:=zE (l:=l) fun x hx=>h x (by simp[hx])
  simp only[List.map_cons,cQ,List.length_cons,Nat.succ_mul]
  omega
end Go.Eng.F
namespace Go.Eng.F
end Go.Eng.F
namespace Go.Eng.F
structure gK where
 skip:Int
 buf:Bytes
def gK.c (p:gK):List D:= [.int .i64 p.skip, .sl (bytes p.buf)]
end Go.Eng.F
namespace Go.Eng.F
structure dK where
 l:aB
 t:Table
 push:gK
 chain:List Head
def dK.c (x:dK):List D:= [.int .i64 x.l.n, .int .i64 x.l.tx, .int .i64 x.l.txs, .int .i64 x.l.frame, .int .i64 x.l.heads, .sl (rws x.t.rows), .int .i64 x.push.skip, .sl (bytes x.push.buf), .sl (f4 x.chain)]
def dK.wc (x:dK):Prop:=x.t.wf∧x.push.buf.length≤1073741824∧Sz x.chain.length∧∀h∈x.chain,h.wc
def ht (hs:List Head) (i:Nat):Int:=match hs[i]? with|some h=>h.height|none=>0
structure nW where
 l:aB
 t:Table
 x:dK
 own:List Head
def nW.c (d:nW):List D:= [.int .i64 d.l.n, .int .i64 d.l.tx, .int .i64 d.l.txs, .int .i64 d.l.frame, .int .i64 d.l.heads, .sl (rws d.t.rows), .int .i64 d.x.l.n, .int .i64 d.x.l.tx, .int .i64 d.x.l.txs, .int .i64 d.x.l.frame, .int .i64 d.x.l.heads, .sl (rws d.x.t.rows), .int .i64 d.x.push.skip, .sl (bytes d.x.push.buf), .sl (f4 d.x.chain), .sl (f4 d.own)]
def nW.wc (d:nW):Prop:=d.t.wf∧d.x.wc∧Sz d.own.length∧∀h∈d.own,h.wc
end Go.Eng.F
namespace Go.Eng.F
open Go.Eng.U (yJ cp TLimits gR tF mZ Ds)
def gK.wf (p:gK):Prop:=iq p.skip∧Sz p.buf.length
def gK.tv (x:gK):Tv:= .r [.i x.skip,yW x.buf]
theorem gK.enc (x:gK):enc tF x.tv=x.c:=by simp only[gK.tv,dS,bH,ck,cT,dG,eT,eL,cZ,eX,gK.c,List.cons_append,List.nil_append,List.append_assoc]
theorem gK.ex {v:Tv} (h:aF tF v):∃x:gK,v=x.tv:=by
 obtain⟨vs,rfl,h⟩:=h.st
 obtain⟨v0,_,rfl,h0,h⟩:=h.step
 obtain⟨v1,_,rfl,h1,h⟩:=h.step
 obtain rfl:=h.fin
 obtain⟨n0,rfl,_⟩:=h0.int
 obtain⟨n1,rfl⟩:=f9 h1
 exact⟨⟨n0,n1⟩,rfl⟩
theorem gK.of {x:gK} (h:aF tF x.tv) (hw:wt x.tv≤1048576):x.wf:=by
 simp only[gK.tv,fc,cj]at h
 simp only[gK.tv,wt,cQ]at hw
 obtain⟨h0,h1,_⟩:=h
 exact⟨du (ok_int.1 h0),oq (by omega)⟩
def dK.tv (x:dK):Tv:= .r [x.l.tv,x.t.tv,x.push.tv,tY x.chain]
theorem dK.enc (x:dK):enc mZ x.tv=x.c:=by simp only[dK.tv,nz,dS,bH,ck,aB.enc,Table.enc,gK.enc,dK.c,aB.c,Table.c,gK.c,List.cons_append,List.nil_append,List.append_nil]
theorem dK.ex {v:Tv} (h:aF mZ v):∃q:dK,v=q.tv:=by
 obtain⟨vs,rfl,h⟩:=h.st
 obtain⟨v0,_,rfl,h0,h⟩:=h.step
 obtain⟨v1,_,rfl,h1,h⟩:=h.step
 obtain⟨v2,_,rfl,h2,h⟩:=h.step
 obtain⟨v3,_,rfl,h3,h⟩:=h.step
 obtain rfl:=h.fin
 obtain⟨n0,rfl⟩:=aB.ex h0
 obtain⟨n1,rfl⟩:=Table.ex h1
 obtain⟨n2,rfl⟩:=gK.ex h2
 obtain⟨n3,rfl⟩:=vg h3
 exact⟨⟨n0,n1,n2,n3⟩,rfl⟩
theorem dK.of {x:dK} (h:aF mZ x.tv) (hw:wt x.tv≤1048576):x.wc:=by
 simp only[dK.tv,fc,cj]at h
 simp only[dK.tv,wt,cQ]at hw
 obtain⟨h0,h1,h2,h3,_⟩:=h
 have k1:=Table.of h1 (by omega)
 have k2:=gK.of h2 (by omega)
 have k3:=Ao h3 (by omega)
 exact⟨k1,k2.2,k3.1,k3.2⟩
def nW.tv (x:nW):Tv:= .r [x.l.tv,x.t.tv,x.x.tv,tY x.own]
theorem nW.enc (x:nW):enc Ds x.tv=x.c:=by simp only[nW.tv,nz,dS,bH,ck,aB.enc,Table.enc,dK.enc,nW.c,dK.c,aB.c,Table.c,List.cons_append,List.nil_append,List.append_nil]
theorem nW.ex {v:Tv} (h:aF Ds v):∃q:nW,v=q.tv:=by
 obtain⟨vs,rfl,h⟩:=h.st
 obtain⟨v0,_,rfl,h0,h⟩:=h.step
 obtain⟨v1,_,rfl,h1,h⟩:=h.step
 obtain⟨v2,_,rfl,h2,h⟩:=h.step
 obtain⟨v3,_,rfl,h3,h⟩:=h.step
 obtain rfl:=h.fin
 obtain⟨n0,rfl⟩:=aB.ex h0
 obtain⟨n1,rfl⟩:=Table.ex h1
 obtain⟨n2,rfl⟩:=dK.ex h2
 obtain⟨n3,rfl⟩:=vg h3
 exact⟨⟨n0,n1,n2,n3⟩,rfl⟩
theorem nW.of {x:nW} (h:aF Ds x.tv) (hw:wt x.tv≤1048576):x.wc:=by
 simp only[nW.tv,fc,cj]at h
 simp only[nW.tv,wt,cQ]at hw
 obtain⟨h0,h1,h2,h3,_⟩:=h
 have k1:=Table.of h1 (by omega)
 have k2:=dK.of h2 (by omega)
 have k3:=Ao h3 (by omega)
 exact⟨k1,k2,k3.1,k3.2⟩
end Go.Eng.F
namespace Go.Eng.F
theorem qp {b:Bytes} (h:hash b=true):b.length=32:=by simpa[hash]using h
theorem dq {n a b:Int} (h:eA n a b=true):a≤n∧n≤b:=by simpa[eA]using h
end Go.Eng.F
namespace Go.Eng.F
open Go.Eng.U (yJ cp TLimits gR tF mZ)
end Go.Eng.F
namespace Go.Eng.F
open Go.Eng.U (yJ cp TLimits gR dU)
end Go.Eng.F
namespace Go.Eng.F
structure bC where
 view:Int
 height:Int
 block:Bytes
 who:Int
 tag:Bytes
def bC.c (v:bC):List D:= [.int .i64 v.view, .int .i64 v.height, .sl (bytes v.block), .int .i64 v.who, .sl (bytes v.tag)]
def bC.wf (v:bC):Prop:=iq v.view∧iq v.height∧Sz v.block.length∧iq v.who∧Sz v.tag.length
def mz (a b:bC):Bool:=decide (a.view=b.view) && decide (a.height=b.height) && decide (a.block=b.block) && decide (a.who=b.who) && decide (a.tag=b.tag)
abbrev jZ:Nat:=183
def kh:AF:=⟨2,6,[.tmp 4],(.seq (.ops [.i (.lbox 2 (.s 0)), .i (.lbox 3 (.s 1)), .i (.mov 4 (qb false))]) (.seq (.ops [qf 5 2 0,ql 6 2 5 1 false,qf 7 3 0,ql 8 3 7 1 false,qd 9 .eql 6 8,qm 10 9, .g 10 true 12 (.fad 11 (.s 2) 1), .g 10 true 13 (.ldl 12 2 (.s 11) 1 false), .g 10 true 14 (.fad 13 (.s 3) 1), .g 10 true 15 (.ldl 14 3 (.s 13) 1 false), .g 10 true 16 (.bin 15 .eql (.s 12) (.s 14)), .i (.pick 16 (.s 10) (.s 15) (qb false)),qm 17 16, .g 17 true 19 (.fad 18 (.s 2) 3), .g 17 true 20 (.ldl 19 2 (.s 18) 1 false), .g 17 true 21 (.fad 20 (.s 3) 3), .g 17 true 22 (.ldl 21 3 (.s 20) 1 false), .g 17 true 23 (.bin 22 .eql (.s 19) (.s 21)), .i (.pick 23 (.s 17) (.s 22) (qb false)),qm 24 23, .g 24 true 26 (.fad 25 (.s 2) 2), .g 24 true 27 (.ldl 26 2 (.s 25) 1 false), .g 24 true 28 (.fad 27 (.s 3) 2), .g 24 true 29 (.ldl 28 3 (.s 27) 1 false), .g 24 true 30 (.call 30 57 false [(.s 26),(.s 28)]), .i (.pick 30 (.s 24) (.s 29) (qb false)),qm 31 30, .g 31 true 33 (.fad 32 (.s 2) 4), .g 31 true 34 (.ldl 33 2 (.s 32) 1 false), .g 31 true 35 (.fad 34 (.s 3) 4), .g 31 true 36 (.ldl 35 3 (.s 34) 1 false), .g 31 true 37 (.call 37 57 false [(.s 33),(.s 35)]), .i (.pick 37 (.s 31) (.s 36) (qb false)),qm 4 37]) .ret))⟩
theorem uo:cd jZ=some kh:=by kernel_rfl
theorem rW (a b:bC):VC cd jZ (aJ [(true,a.c),(true,b.c)]) (fun rs _=>rs=bl (mz a b)):=by
 refine aa uo rfl ?_
 simp(disch:=omega) [kh,bC.c,VY]
 refine ab (fun h1=> ?_) (fun h1=> ?_) <;>simp(disch:=omega) [h1,mz,VY]
 refine ab (fun h2=> ?_) (fun h2=> ?_) <;>simp(disch:=omega) [h1,h2,VY]
 refine ab (fun h3=> ?_) (fun h3=> ?_) <;>simp(disch:=omega) [h1,h2,h3,VY]
 refine ay (aN a.block b.block) ?_
 simp(disch:=omega) [h1,h2,h3,VY]
 refine ab (fun h4=> ?_) (fun h4=> ?_) <;>simp(disch:=omega) [h1,h2,h3,h4,VY]
 refine ay (aN a.tag b.tag) ?_
 simp(disch:=omega) [h1,h2,h3,h4,VY]
abbrev jM:Nat:=153
def kr:AF:=⟨2,6,[.tmp 4],(.seq (.ops [.i (.lbox 2 (.s 0)), .i (.lbox 3 (.s 1)), .i (.mov 4 (qb false))]) (.seq (.ops [qf 5 2 0,ql 6 2 5 1 false,qf 7 3 0,ql 8 3 7 1 false,qd 9 .eql 6 8,qm 10 9, .g 10 true 12 (.fad 11 (.s 2) 1), .g 10 true 13 (.ldl 12 2 (.s 11) 1 false), .g 10 true 14 (.fad 13 (.s 3) 1), .g 10 true 15 (.ldl 14 3 (.s 13) 1 false), .g 10 true 16 (.bin 15 .eql (.s 12) (.s 14)), .i (.pick 16 (.s 10) (.s 15) (qb false)),qm 17 16, .g 17 true 19 (.fad 18 (.s 2) 2), .g 17 true 20 (.ldl 19 2 (.s 18) 1 false), .g 17 true 21 (.fad 20 (.s 3) 2), .g 17 true 22 (.ldl 21 3 (.s 20) 1 false), .g 17 true 23 (.call 23 143 false [(.s 19),(.s 21)]), .i (.pick 23 (.s 17) (.s 22) (qb false)),qm 24 23, .g 24 true 26 (.fad 25 (.s 2) 3), .g 24 true 27 (.ldl 26 2 (.s 25) 1 false), .g 24 true 28 (.fad 27 (.s 3) 3), .g 24 true 29 (.ldl 28 3 (.s 27) 1 false), .g 24 true 30 (.bin 29 .eql (.s 26) (.s 28)), .i (.pick 30 (.s 24) (.s 29) (qb false)),qm 31 30, .g 31 true 33 (.fad 32 (.s 2) 4), .g 31 true 34 (.ldl 33 2 (.s 32) 1 false), .g 31 true 35 (.fad 34 (.s 3) 4), .g 31 true 36 (.ldl 35 3 (.s 34) 1 false), .g 31 true 37 (.call 37 143 false [(.s 33),(.s 35)]), .i (.pick 37 (.s 31) (.s 36) (qb false)),qm 4 37]) .ret))⟩
theorem uk:cd jM=some kr:=by kernel_rfl
theorem sN (a b:bC):VC cd jM (aJ [(true,a.c),(true,b.c)]) (fun rs _=>rs=bl (mz a b)):=by
 refine aa uk rfl ?_
 simp(disch:=omega) [kr,bC.c,VY]
 refine ab (fun h1=> ?_) (fun h1=> ?_) <;>simp(disch:=omega) [h1,mz,VY]
 refine ab (fun h2=> ?_) (fun h2=> ?_) <;>simp(disch:=omega) [h1,h2,VY]
 refine ay (aP a.block b.block) ?_
 simp(disch:=omega) [h1,h2,VY]
 refine ab (fun h3=> ?_) (fun h3=> ?_) <;>simp(disch:=omega) [h1,h2,h3,VY]
 refine ab (fun h4=> ?_) (fun h4=> ?_) <;>simp(disch:=omega) [h1,h2,h3,h4,VY]
 refine ay (aP a.tag b.tag) ?_
 simp(disch:=omega) [h1,h2,h3,h4,VY]
end Go.Eng.F
namespace Go.Eng.F
theorem xt {α:Type} {a b:List α} {i:Nat} (hd:∀j,j < i→a[j]? =b[j]?) (h:a[i]? =b[i]?):∀j,j < i+1→a[j]? =b[j]? :=fun j hj=>by
 rcases Nat.lt_or_ge j i with hl|hl
 ·exact hd j hl
 ·obtain rfl:j=i:=by omega
  exact h
theorem A3 {α:Type} {a b:List α} (hl:a.length=b.length) (hd:∀j,j < b.length→a[j]? =b[j]?):a=b:=by
 apply List.ext_getElem?
 intro j
 rcases Nat.lt_or_ge j b.length with h|h
 ·exact hd j h
 ·rw[List.getElem?_eq_none_iff.2 h,List.getElem?_eq_none_iff.2 (by omega)]
abbrev jw:Nat:=139
def kd:AF:=⟨2,5,[.tmp 4],(.seq (.ops [.i (.mov 4 (qb false))]) (.seq (.seq (.ops [qm 6 0,qn 7 6,qm 8 1,qn 9 8,qd 10 .neq 7 9]) (.cond (.s 10) (.seq (.ops [.i (.mov 4 (qb false))]) .ret) .skip)) (.seq (.seq (.ops [qm 11 0,qn 12 11, .i (.mov 13 (qi 0))]) (.block 0 (.loop [26,25,24,23,22,21,20,19,18,17,16,15,14,5] (.seq (.ops [qd 14 .lss 13 12]) (.seq (.cond (.s 14) .skip (.exit 0)) (.seq (.block 1 (.seq (.ops [qm 15 13,qm 5 15]) (.seq (.ops [qm 16 0,qm 17 5, .i (.iad 18 (.s 16) (.s 17) 1), .i (.ldh 19 (.s 18) 1 false),qm 20 1,qm 21 5, .i (.iad 22 (.s 20) (.s 21) 1), .i (.ldh 23 (.s 22) 1 false), .i (.call 25 57 false [(.s 19),(.s 23)]), .i (.not 25 (.s 24))]) (.cond (.s 25) (.seq (.ops [.i (.mov 4 (qb false))]) .ret) .skip)))) (.ops [.i (.bin 26 .add (.s 13) (qi 1)),qm 13 26]))))))) (.seq (.ops [.i (.mov 4 (qb true))]) .ret))))⟩
theorem uu:cd jw=some kd:=by kernel_rfl
theorem eG (a b:List Bytes) (ha:Sz a.length) (hb:Sz b.length):VC cd jw (aJ [(false,[.sl (cC a)]),(false,[.sl (cC b)])]) (fun rs _=>rs=bl (decide (a=b))):=by
 simp only[Sz]at ha hb
 refine aa uu rfl ?_
 simp(disch:=omega) [kd,au,VY]
 refine ab (fun h1=> ?_) (fun h1=> ?_)
 case refine_2=>
  have hn:¬a=b:=fun e=>h1 (by rw[e])
  simp(disch:=omega) [h1,hn,VY]
 simp(disch:=omega) [h1,au,VY]
 refine ef (σ:=Nat) (f1:=_) (es0:=_) (by simp(disch:=omega) [VY];rfl) (by simp(disch:=omega) [VY];rfl) (fun i=> [(13, .val false [.int .i64 (i:Int)])]) (fun _=> []) (fun i g=>g+i=b.length∧∀j,j < i→a[j]? =b[j]?) 0 b.length (by simp(disch:=omega) [h1,VY]) (by simp(disch:=omega) [VY]) ⟨by omega,fun j hj=>by omega⟩ ?_
 rintro i n g ⟨hg,hd⟩ P hP
 simp(disch:=omega) [h1,VY]
 refine ab (fun h2=> ?_) (fun h2=> ?_)
 ·have hi:i < a.length:=by omega
  have hj:i < b.length:=by omega
  simp(disch:=omega) [cu hi,cu hj,VY]
  refine ay (aN a[i] b[i]) ?_
  simp(disch:=omega) [VY]
  refine ab (fun h3=> ?_) (fun h3=> ?_)
  ·simp(disch:=omega) [h3,VY]
   exact hP (i+1) (g - 1) _ _ (by omega) ⟨by omega,xt hd (by simp[hi,hj,h3])⟩ (by simp(disch:=omega) [VY]) (by simp(disch:=omega) [VY])
  ·have hn:¬a=b:=fun e=>h3 (by subst e;rfl)
   simp(disch:=omega) [h3,hn,VY]
 ·have he:a=b:=A3 (by omega) (fun j hj=>hd j (by omega))
  simp(disch:=omega) [he,VY]
abbrev jz:Nat:=227
def j0:AF:=⟨2,5,[.tmp 4],(.seq (.ops [.i (.mov 4 (qb false))]) (.seq (.seq (.ops [qm 6 0,qn 7 6,qm 8 1,qn 9 8,qd 10 .neq 7 9]) (.cond (.s 10) (.seq (.ops [.i (.mov 4 (qb false))]) .ret) .skip)) (.seq (.seq (.ops [qm 11 0,qn 12 11, .i (.mov 13 (qi 0))]) (.block 0 (.loop [26,25,24,23,22,21,20,19,18,17,16,15,14,5] (.seq (.ops [qd 14 .lss 13 12]) (.seq (.cond (.s 14) .skip (.exit 0)) (.seq (.block 1 (.seq (.ops [qm 15 13,qm 5 15]) (.seq (.ops [qm 16 0,qm 17 5, .i (.iad 18 (.s 16) (.s 17) 1), .i (.ldh 19 (.s 18) 1 false),qm 20 1,qm 21 5, .i (.iad 22 (.s 20) (.s 21) 1), .i (.ldh 23 (.s 22) 1 false), .i (.call 25 143 false [(.s 19),(.s 23)]), .i (.not 25 (.s 24))]) (.cond (.s 25) (.seq (.ops [.i (.mov 4 (qb false))]) .ret) .skip)))) (.ops [.i (.bin 26 .add (.s 13) (qi 1)),qm 13 26]))))))) (.seq (.ops [.i (.mov 4 (qb true))]) .ret))))⟩
theorem ug:cd jz=some j0:=by kernel_rfl
theorem eQ (a b:List Bytes) (ha:Sz a.length) (hb:Sz b.length):VC cd jz (aJ [(false,[.sl (cC a)]),(false,[.sl (cC b)])]) (fun rs _=>rs=bl (decide (a=b))):=by
 simp only[Sz]at ha hb
 refine aa ug rfl ?_
 simp(disch:=omega) [j0,au,VY]
 refine ab (fun h1=> ?_) (fun h1=> ?_)
 case refine_2=>
  have hn:¬a=b:=fun e=>h1 (by rw[e])
  simp(disch:=omega) [h1,hn,VY]
 simp(disch:=omega) [h1,au,VY]
 refine ef (σ:=Nat) (f1:=_) (es0:=_) (by simp(disch:=omega) [VY];rfl) (by simp(disch:=omega) [VY];rfl) (fun i=> [(13, .val false [.int .i64 (i:Int)])]) (fun _=> []) (fun i g=>g+i=b.length∧∀j,j < i→a[j]? =b[j]?) 0 b.length (by simp(disch:=omega) [h1,VY]) (by simp(disch:=omega) [VY]) ⟨by omega,fun j hj=>by omega⟩ ?_
 rintro i n g ⟨hg,hd⟩ P hP
 simp(disch:=omega) [h1,VY]
 refine ab (fun h2=> ?_) (fun h2=> ?_)
 ·have hi:i < a.length:=by omega
  have hj:i < b.length:=by omega
  simp(disch:=omega) [cu hi,cu hj,VY]
  refine ay (aP a[i] b[i]) ?_
  simp(disch:=omega) [VY]
  refine ab (fun h3=> ?_) (fun h3=> ?_)
  ·simp(disch:=omega) [h3,VY]
   exact hP (i+1) (g - 1) _ _ (by omega) ⟨by omega,xt hd (by simp[hi,hj,h3])⟩ (by simp(disch:=omega) [VY]) (by simp(disch:=omega) [VY])
  ·have hn:¬a=b:=fun e=>h3 (by subst e;rfl)
   simp(disch:=omega) [h3,hn,VY]
 ·have he:a=b:=A3 (by omega) (fun j hj=>hd j (by omega))
  simp(disch:=omega) [he,VY]
def pM (a b:Qc):Bool:=decide (a.view=b.view) && decide (a.height=b.height) && decide (a.block=b.block) && decide (a.bits=b.bits) && decide (a.tags=b.tags)
abbrev oV:Nat:=59
def oC:AF:=⟨2,6,[.tmp 4],(.seq (.ops [.i (.lbox 2 (.s 0)), .i (.lbox 3 (.s 1)), .i (.mov 4 (qb false))]) (.seq (.ops [qf 5 2 0,ql 6 2 5 1 false,qf 7 3 0,ql 8 3 7 1 false,qd 9 .eql 6 8,qm 10 9, .g 10 true 12 (.fad 11 (.s 2) 1), .g 10 true 13 (.ldl 12 2 (.s 11) 1 false), .g 10 true 14 (.fad 13 (.s 3) 1), .g 10 true 15 (.ldl 14 3 (.s 13) 1 false), .g 10 true 16 (.bin 15 .eql (.s 12) (.s 14)), .i (.pick 16 (.s 10) (.s 15) (qb false)),qm 17 16, .g 17 true 19 (.fad 18 (.s 2) 2), .g 17 true 20 (.ldl 19 2 (.s 18) 1 false), .g 17 true 21 (.fad 20 (.s 3) 2), .g 17 true 22 (.ldl 21 3 (.s 20) 1 false), .g 17 true 23 (.call 23 57 false [(.s 19),(.s 21)]), .i (.pick 23 (.s 17) (.s 22) (qb false)),qm 24 23, .g 24 true 26 (.fad 25 (.s 2) 3), .g 24 true 27 (.ldl 26 2 (.s 25) 1 false), .g 24 true 28 (.fad 27 (.s 3) 3), .g 24 true 29 (.ldl 28 3 (.s 27) 1 false), .g 24 true 30 (.call 30 57 false [(.s 26),(.s 28)]), .i (.pick 30 (.s 24) (.s 29) (qb false)),qm 31 30, .g 31 true 33 (.fad 32 (.s 2) 4), .g 31 true 34 (.ldl 33 2 (.s 32) 1 false), .g 31 true 35 (.fad 34 (.s 3) 4), .g 31 true 36 (.ldl 35 3 (.s 34) 1 false), .g 31 true 37 (.call 37 139 false [(.s 33),(.s 35)]), .i (.pick 37 (.s 31) (.s 36) (qb false)),qm 4 37]) .ret))⟩
theorem xS:cd oV=some oC:=by kernel_rfl
theorem fQ (a b:Qc) (ha:a.wf) (hb:b.wf):VC cd oV (aJ [(true,a.c),(true,b.c)]) (fun rs _=>rs=bl (pM a b)):=by
 refine aa xS rfl ?_
 simp(disch:=omega) [oC,Qc.c,VY]
 refine ab (fun h1=> ?_) (fun h1=> ?_) <;>simp(disch:=omega) [h1,pM,VY]
 refine ab (fun h2=> ?_) (fun h2=> ?_) <;>simp(disch:=omega) [h1,h2,VY]
 refine ay (aN a.block b.block) ?_
 simp(disch:=omega) [h1,h2,VY]
 refine ab (fun h3=> ?_) (fun h3=> ?_) <;>simp(disch:=omega) [h1,h2,h3,VY]
 refine ay (aN a.bits b.bits) ?_
 simp(disch:=omega) [h1,h2,h3,VY]
 refine ab (fun h4=> ?_) (fun h4=> ?_) <;>simp(disch:=omega) [h1,h2,h3,h4,VY]
 refine ay (eG a.tags b.tags ha.2.2.2.2 hb.2.2.2.2) ?_
 simp(disch:=omega) [h1,h2,h3,h4,VY]
abbrev oM:Nat:=154
def py:AF:=⟨2,6,[.tmp 4],(.seq (.ops [.i (.lbox 2 (.s 0)), .i (.lbox 3 (.s 1)), .i (.mov 4 (qb false))]) (.seq (.ops [qf 5 2 0,ql 6 2 5 1 false,qf 7 3 0,ql 8 3 7 1 false,qd 9 .eql 6 8,qm 10 9, .g 10 true 12 (.fad 11 (.s 2) 1), .g 10 true 13 (.ldl 12 2 (.s 11) 1 false), .g 10 true 14 (.fad 13 (.s 3) 1), .g 10 true 15 (.ldl 14 3 (.s 13) 1 false), .g 10 true 16 (.bin 15 .eql (.s 12) (.s 14)), .i (.pick 16 (.s 10) (.s 15) (qb false)),qm 17 16, .g 17 true 19 (.fad 18 (.s 2) 2), .g 17 true 20 (.ldl 19 2 (.s 18) 1 false), .g 17 true 21 (.fad 20 (.s 3) 2), .g 17 true 22 (.ldl 21 3 (.s 20) 1 false), .g 17 true 23 (.call 23 143 false [(.s 19),(.s 21)]), .i (.pick 23 (.s 17) (.s 22) (qb false)),qm 24 23, .g 24 true 26 (.fad 25 (.s 2) 3), .g 24 true 27 (.ldl 26 2 (.s 25) 1 false), .g 24 true 28 (.fad 27 (.s 3) 3), .g 24 true 29 (.ldl 28 3 (.s 27) 1 false), .g 24 true 30 (.call 30 143 false [(.s 26),(.s 28)]), .i (.pick 30 (.s 24) (.s 29) (qb false)),qm 31 30, .g 31 true 33 (.fad 32 (.s 2) 4), .g 31 true 34 (.ldl 33 2 (.s 32) 1 false), .g 31 true 35 (.fad 34 (.s 3) 4), .g 31 true 36 (.ldl 35 3 (.s 34) 1 false), .g 31 true 37 (.call 37 227 false [(.s 33),(.s 35)]), .i (.pick 37 (.s 31) (.s 36) (qb false)),qm 4 37]) .ret))⟩
theorem xY:cd oM=some py:=by kernel_rfl
theorem fL (a b:Qc) (ha:a.wf) (hb:b.wf):VC cd oM (aJ [(true,a.c),(true,b.c)]) (fun rs _=>rs=bl (pM a b)):=by
 refine aa xY rfl ?_
 simp(disch:=omega) [py,Qc.c,VY]
 refine ab (fun h1=> ?_) (fun h1=> ?_) <;>simp(disch:=omega) [h1,pM,VY]
 refine ab (fun h2=> ?_) (fun h2=> ?_) <;>simp(disch:=omega) [h1,h2,VY]
 refine ay (aP a.block b.block) ?_
 simp(disch:=omega) [h1,h2,VY]
 refine ab (fun h3=> ?_) (fun h3=> ?_) <;>simp(disch:=omega) [h1,h2,h3,VY]
 refine ay (aP a.bits b.bits) ?_
 simp(disch:=omega) [h1,h2,h3,VY]
 refine ab (fun h4=> ?_) (fun h4=> ?_) <;>simp(disch:=omega) [h1,h2,h3,h4,VY]
 refine ay (eQ a.tags b.tags ha.2.2.2.2 hb.2.2.2.2) ?_
 simp(disch:=omega) [h1,h2,h3,h4,VY]
def eo (a b:Head):Bool:=decide (a.view=b.view) && decide (a.height=b.height) && decide (a.proposer=b.proposer) && decide (a.parent=b.parent) && decide (a.root=b.root) && pM a.qc b.qc
abbrev j5:Nat:=13
def jO:AF:=⟨2,6,[.tmp 4],(.seq (.ops [.i (.lbox 2 (.s 0)), .i (.lbox 3 (.s 1)), .i (.mov 4 (qb false))]) (.seq (.ops [qf 5 2 0,ql 6 2 5 1 false,qf 7 3 0,ql 8 3 7 1 false,qd 9 .eql 6 8,qm 10 9, .g 10 true 12 (.fad 11 (.s 2) 1), .g 10 true 13 (.ldl 12 2 (.s 11) 1 false), .g 10 true 14 (.fad 13 (.s 3) 1), .g 10 true 15 (.ldl 14 3 (.s 13) 1 false), .g 10 true 16 (.bin 15 .eql (.s 12) (.s 14)), .i (.pick 16 (.s 10) (.s 15) (qb false)),qm 17 16, .g 17 true 19 (.fad 18 (.s 2) 2), .g 17 true 20 (.ldl 19 2 (.s 18) 1 false), .g 17 true 21 (.fad 20 (.s 3) 2), .g 17 true 22 (.ldl 21 3 (.s 20) 1 false), .g 17 true 23 (.bin 22 .eql (.s 19) (.s 21)), .i (.pick 23 (.s 17) (.s 22) (qb false)),qm 24 23, .g 24 true 26 (.fad 25 (.s 2) 3), .g 24 true 27 (.ldl 26 2 (.s 25) 1 false), .g 24 true 28 (.fad 27 (.s 3) 3), .g 24 true 29 (.ldl 28 3 (.s 27) 1 false), .g 24 true 30 (.call 30 57 false [(.s 26),(.s 28)]), .i (.pick 30 (.s 24) (.s 29) (qb false)),qm 31 30, .g 31 true 33 (.fad 32 (.s 2) 4), .g 31 true 34 (.ldl 33 2 (.s 32) 1 false), .g 31 true 35 (.fad 34 (.s 3) 4), .g 31 true 36 (.ldl 35 3 (.s 34) 1 false), .g 31 true 37 (.call 37 57 false [(.s 33),(.s 35)]), .i (.pick 37 (.s 31) (.s 36) (qb false)),qm 38 37, .g 38 true 40 (.fad 39 (.s 2) 5), .g 38 true 41 (.ldl 40 2 (.s 39) 5 true), .g 38 true 42 (.fad 41 (.s 3) 5), .g 38 true 43 (.ldl 42 3 (.s 41) 5 true), .g 38 true 44 (.call 44 59 false [(.s 40),(.s 42)]), .i (.pick 44 (.s 38) (.s 43) (qb false)),qm 4 44]) .ret))⟩
theorem uz:cd j5=some jO:=by kernel_rfl
theorem eM (a b:Head) (ha:a.wf) (hb:b.wf):VC cd j5 (aJ [(true,a.c),(true,b.c)]) (fun rs _=>rs=bl (eo a b)):=by
 refine aa uz rfl ?_
 simp(disch:=omega) [jO,Head.c,VY]
 refine ab (fun h1=> ?_) (fun h1=> ?_) <;>simp(disch:=omega) [h1,eo,VY]
 refine ab (fun h2=> ?_) (fun h2=> ?_) <;>simp(disch:=omega) [h1,h2,VY]
 refine ab (fun h3=> ?_) (fun h3=> ?_) <;>simp(disch:=omega) [h1,h2,h3,VY]
 refine ay (aN a.parent b.parent) ?_
 simp(disch:=omega) [h1,h2,h3,VY]
 refine ab (fun h4=> ?_) (fun h4=> ?_) <;>simp(disch:=omega) [h1,h2,h3,h4,VY]
 refine ay (aN a.root b.root) ?_
 simp(disch:=omega) [h1,h2,h3,h4,VY]
 refine ab (fun h5=> ?_) (fun h5=> ?_) <;>simp(disch:=omega) [h1,h2,h3,h4,h5,VY]
 refine ay (fQ a.qc b.qc ha.2.2.2.2.2 hb.2.2.2.2.2) ?_ (ha:=by first|rfl|(simp[Qc.c,VY] <;>repeat' constructor))
 simp(disch:=omega) [h1,h2,h3,h4,h5,VY]
abbrev kz:Nat:=155
def jG:AF:=⟨2,6,[.tmp 4],(.seq (.ops [.i (.lbox 2 (.s 0)), .i (.lbox 3 (.s 1)), .i (.mov 4 (qb false))]) (.seq (.ops [qf 5 2 0,ql 6 2 5 1 false,qf 7 3 0,ql 8 3 7 1 false,qd 9 .eql 6 8,qm 10 9, .g 10 true 12 (.fad 11 (.s 2) 1), .g 10 true 13 (.ldl 12 2 (.s 11) 1 false), .g 10 true 14 (.fad 13 (.s 3) 1), .g 10 true 15 (.ldl 14 3 (.s 13) 1 false), .g 10 true 16 (.bin 15 .eql (.s 12) (.s 14)), .i (.pick 16 (.s 10) (.s 15) (qb false)),qm 17 16, .g 17 true 19 (.fad 18 (.s 2) 2), .g 17 true 20 (.ldl 19 2 (.s 18) 1 false), .g 17 true 21 (.fad 20 (.s 3) 2), .g 17 true 22 (.ldl 21 3 (.s 20) 1 false), .g 17 true 23 (.bin 22 .eql (.s 19) (.s 21)), .i (.pick 23 (.s 17) (.s 22) (qb false)),qm 24 23, .g 24 true 26 (.fad 25 (.s 2) 3), .g 24 true 27 (.ldl 26 2 (.s 25) 1 false), .g 24 true 28 (.fad 27 (.s 3) 3), .g 24 true 29 (.ldl 28 3 (.s 27) 1 false), .g 24 true 30 (.call 30 143 false [(.s 26),(.s 28)]), .i (.pick 30 (.s 24) (.s 29) (qb false)),qm 31 30, .g 31 true 33 (.fad 32 (.s 2) 4), .g 31 true 34 (.ldl 33 2 (.s 32) 1 false), .g 31 true 35 (.fad 34 (.s 3) 4), .g 31 true 36 (.ldl 35 3 (.s 34) 1 false), .g 31 true 37 (.call 37 143 false [(.s 33),(.s 35)]), .i (.pick 37 (.s 31) (.s 36) (qb false)),qm 38 37, .g 38 true 40 (.fad 39 (.s 2) 5), .g 38 true 41 (.ldl 40 2 (.s 39) 5 true), .g 38 true 42 (.fad 41 (.s 3) 5), .g 38 true 43 (.ldl 42 3 (.s 41) 5 true), .g 38 true 44 (.call 44 154 false [(.s 40),(.s 42)]), .i (.pick 44 (.s 38) (.s 43) (qb false)),qm 4 44]) .ret))⟩
theorem uq:cd kz=some jG:=by kernel_rfl
theorem eK (a b:Head) (ha:a.wf) (hb:b.wf):VC cd kz (aJ [(true,a.c),(true,b.c)]) (fun rs _=>rs=bl (eo a b)):=by
 refine aa uq rfl ?_
 simp(disch:=omega) [jG,Head.c,VY]
 refine ab (fun h1=> ?_) (fun h1=> ?_) <;>simp(disch:=omega) [h1,eo,VY]
 refine ab (fun h2=> ?_) (fun h2=> ?_) <;>simp(disch:=omega) [h1,h2,VY]
 refine ab (fun h3=> ?_) (fun h3=> ?_) <;>simp(disch:=omega) [h1,h2,h3,VY]
 refine ay (aP a.parent b.parent) ?_
 simp(disch:=omega) [h1,h2,h3,VY]
 refine ab (fun h4=> ?_) (fun h4=> ?_) <;>simp(disch:=omega) [h1,h2,h3,h4,VY]
 refine ay (aP a.root b.root) ?_
 simp(disch:=omega) [h1,h2,h3,h4,VY]
 refine ab (fun h5=> ?_) (fun h5=> ?_) <;>simp(disch:=omega) [h1,h2,h3,h4,h5,VY]
 refine ay (fL a.qc b.qc ha.2.2.2.2.2 hb.2.2.2.2.2) ?_ (ha:=by first|rfl|(simp[Qc.c,VY] <;>repeat' constructor))
 simp(disch:=omega) [h1,h2,h3,h4,h5,VY]
def iv (a b:Block):Bool:=eo a.head b.head && decide (a.txs=b.txs)
abbrev hK:Nat:=184
def hZ:AF:=⟨2,5,[.tmp 4],(.seq (.ops [.i (.lbox 2 (.s 0)), .i (.lbox 3 (.s 1)), .i (.mov 4 (qb false))]) (.seq (.ops [qf 5 2 0,ql 6 2 5 10 true,qf 7 3 0,ql 8 3 7 10 true, .i (.call 10 13 false [(.s 6),(.s 8)]),qm 10 9, .g 10 true 12 (.fad 11 (.s 2) 10), .g 10 true 13 (.ldl 12 2 (.s 11) 1 false), .g 10 true 14 (.fad 13 (.s 3) 10), .g 10 true 15 (.ldl 14 3 (.s 13) 1 false), .g 10 true 16 (.call 16 139 false [(.s 12),(.s 14)]), .i (.pick 16 (.s 10) (.s 15) (qb false)),qm 4 16]) .ret))⟩
theorem sn:cd hK=some hZ:=by kernel_rfl
theorem qv (a b:Block) (ha:a.wc) (hb:b.wc):VC cd hK (aJ [(true,a.c),(true,b.c)]) (fun rs _=>rs=bl (iv a b)):=by
 refine aa sn rfl ?_
 simp(disch:=omega) [hZ,Block.c,Head.c,VY]
 refine ay (eM a.head b.head ha.1.1 hb.1.1) ?_ (ha:=by first|rfl|(simp[Head.c,VY] <;>repeat' constructor))
 simp(disch:=omega) [VY]
 refine ak (fun h1=> ?_) (fun h1=> ?_) <;>simp(disch:=omega) [h1,iv,VY]
 refine ay (eG a.txs b.txs ha.2.1 hb.2.1) ?_
 simp(disch:=omega) [h1,VY]
abbrev hX:Nat:=156
def hH:AF:=⟨2,5,[.tmp 4],(.seq (.ops [.i (.lbox 2 (.s 0)), .i (.lbox 3 (.s 1)), .i (.mov 4 (qb false))]) (.seq (.ops [qf 5 2 0,ql 6 2 5 10 true,qf 7 3 0,ql 8 3 7 10 true, .i (.call 10 155 false [(.s 6),(.s 8)]),qm 10 9, .g 10 true 12 (.fad 11 (.s 2) 10), .g 10 true 13 (.ldl 12 2 (.s 11) 1 false), .g 10 true 14 (.fad 13 (.s 3) 10), .g 10 true 15 (.ldl 14 3 (.s 13) 1 false), .g 10 true 16 (.call 16 227 false [(.s 12),(.s 14)]), .i (.pick 16 (.s 10) (.s 15) (qb false)),qm 4 16]) .ret))⟩
theorem sk:cd hX=some hH:=by kernel_rfl
theorem qM (a b:Block) (ha:a.wc) (hb:b.wc):VC cd hX (aJ [(true,a.c),(true,b.c)]) (fun rs _=>rs=bl (iv a b)):=by
 refine aa sk rfl ?_
 simp(disch:=omega) [hH,Block.c,Head.c,VY]
 refine ay (eK a.head b.head ha.1.1 hb.1.1) ?_ (ha:=by first|rfl|(simp[Head.c,VY] <;>repeat' constructor))
 simp(disch:=omega) [VY]
 refine ak (fun h1=> ?_) (fun h1=> ?_) <;>simp(disch:=omega) [h1,iv,VY]
 refine ay (eQ a.txs b.txs ha.2.1 hb.2.1) ?_
 simp(disch:=omega) [h1,VY]
structure bg where
 height:Int
 n:Int
 idx:Int
 tx:Bytes
 path:List Bytes
def bg.c (x:bg):List D:= [.int .i64 x.height, .int .i64 x.n, .int .i64 x.idx, .sl (bytes x.tx), .sl (cC x.path)]
def bg.wc (x:bg):Prop:=iq x.height∧iq x.n∧iq x.idx∧Sz x.tx.length∧yp x.path
def bg.o (x:bg):List E:= [.p (.int .i64 x.height), .p (.int .i64 x.n), .p (.int .i64 x.idx), .o true (some (5,1)) (bytes x.tx), .o true (some (22,1)) (cC x.path)]
def la (a b:bg):Bool:=decide (a.height=b.height) && decide (a.n=b.n) && decide (a.idx=b.idx) && decide (a.tx=b.tx) && decide (a.path=b.path)
abbrev kx:Nat:=187
def ku:AF:=⟨2,6,[.tmp 4],(.seq (.ops [.i (.lbox 2 (.s 0)), .i (.lbox 3 (.s 1)), .i (.mov 4 (qb false))]) (.seq (.ops [qf 5 2 0,ql 6 2 5 1 false,qf 7 3 0,ql 8 3 7 1 false,qd 9 .eql 6 8,qm 10 9, .g 10 true 12 (.fad 11 (.s 2) 1), .g 10 true 13 (.ldl 12 2 (.s 11) 1 false), .g 10 true 14 (.fad 13 (.s 3) 1), .g 10 true 15 (.ldl 14 3 (.s 13) 1 false), .g 10 true 16 (.bin 15 .eql (.s 12) (.s 14)), .i (.pick 16 (.s 10) (.s 15) (qb false)),qm 17 16, .g 17 true 19 (.fad 18 (.s 2) 2), .g 17 true 20 (.ldl 19 2 (.s 18) 1 false), .g 17 true 21 (.fad 20 (.s 3) 2), .g 17 true 22 (.ldl 21 3 (.s 20) 1 false), .g 17 true 23 (.bin 22 .eql (.s 19) (.s 21)), .i (.pick 23 (.s 17) (.s 22) (qb false)),qm 24 23, .g 24 true 26 (.fad 25 (.s 2) 3), .g 24 true 27 (.ldl 26 2 (.s 25) 1 false), .g 24 true 28 (.fad 27 (.s 3) 3), .g 24 true 29 (.ldl 28 3 (.s 27) 1 false), .g 24 true 30 (.call 30 57 false [(.s 26),(.s 28)]), .i (.pick 30 (.s 24) (.s 29) (qb false)),qm 31 30, .g 31 true 33 (.fad 32 (.s 2) 4), .g 31 true 34 (.ldl 33 2 (.s 32) 1 false), .g 31 true 35 (.fad 34 (.s 3) 4), .g 31 true 36 (.ldl 35 3 (.s 34) 1 false), .g 31 true 37 (.call 37 139 false [(.s 33),(.s 35)]), .i (.pick 37 (.s 31) (.s 36) (qb false)),qm 4 37]) .ret))⟩
theorem uO:cd kx=some ku:=by kernel_rfl
theorem sI (a b:bg) (ha:a.wc) (hb:b.wc):VC cd kx (aJ [(true,a.c),(true,b.c)]) (fun rs _=>rs=bl (la a b)):=by
 refine aa uO rfl ?_
 simp(disch:=omega) [ku,bg.c,VY]
 refine ab (fun h1=> ?_) (fun h1=> ?_) <;>simp(disch:=omega) [h1,la,VY]
 refine ab (fun h2=> ?_) (fun h2=> ?_) <;>simp(disch:=omega) [h1,h2,VY]
 refine ab (fun h3=> ?_) (fun h3=> ?_) <;>simp(disch:=omega) [h1,h2,h3,VY]
 refine ay (aN a.tx b.tx) ?_
 simp(disch:=omega) [h1,h2,h3,VY]
 refine ab (fun h4=> ?_) (fun h4=> ?_) <;>simp(disch:=omega) [h1,h2,h3,h4,VY]
 refine ay (eG a.path b.path ha.2.2.2.2.1 hb.2.2.2.2.1) ?_
 simp(disch:=omega) [h1,h2,h3,h4,VY]
abbrev jT:Nat:=159
def km:AF:=⟨2,6,[.tmp 4],(.seq (.ops [.i (.lbox 2 (.s 0)), .i (.lbox 3 (.s 1)), .i (.mov 4 (qb false))]) (.seq (.ops [qf 5 2 0,ql 6 2 5 1 false,qf 7 3 0,ql 8 3 7 1 false,qd 9 .eql 6 8,qm 10 9, .g 10 true 12 (.fad 11 (.s 2) 1), .g 10 true 13 (.ldl 12 2 (.s 11) 1 false), .g 10 true 14 (.fad 13 (.s 3) 1), .g 10 true 15 (.ldl 14 3 (.s 13) 1 false), .g 10 true 16 (.bin 15 .eql (.s 12) (.s 14)), .i (.pick 16 (.s 10) (.s 15) (qb false)),qm 17 16, .g 17 true 19 (.fad 18 (.s 2) 2), .g 17 true 20 (.ldl 19 2 (.s 18) 1 false), .g 17 true 21 (.fad 20 (.s 3) 2), .g 17 true 22 (.ldl 21 3 (.s 20) 1 false), .g 17 true 23 (.bin 22 .eql (.s 19) (.s 21)), .i (.pick 23 (.s 17) (.s 22) (qb false)),qm 24 23, .g 24 true 26 (.fad 25 (.s 2) 3), .g 24 true 27 (.ldl 26 2 (.s 25) 1 false), .g 24 true 28 (.fad 27 (.s 3) 3), .g 24 true 29 (.ldl 28 3 (.s 27) 1 false), .g 24 true 30 (.call 30 143 false [(.s 26),(.s 28)]), .i (.pick 30 (.s 24) (.s 29) (qb false)),qm 31 30, .g 31 true 33 (.fad 32 (.s 2) 4), .g 31 true 34 (.ldl 33 2 (.s 32) 1 false), .g 31 true 35 (.fad 34 (.s 3) 4), .g 31 true 36 (.ldl 35 3 (.s 34) 1 false), .g 31 true 37 (.call 37 227 false [(.s 33),(.s 35)]), .i (.pick 37 (.s 31) (.s 36) (qb false)),qm 4 37]) .ret))⟩
theorem tX:cd jT=some km:=by kernel_rfl
theorem r8 (a b:bg) (ha:a.wc) (hb:b.wc):VC cd jT (aJ [(true,a.c),(true,b.c)]) (fun rs _=>rs=bl (la a b)):=by
 refine aa tX rfl ?_
 simp(disch:=omega) [km,bg.c,VY]
 refine ab (fun h1=> ?_) (fun h1=> ?_) <;>simp(disch:=omega) [h1,la,VY]
 refine ab (fun h2=> ?_) (fun h2=> ?_) <;>simp(disch:=omega) [h1,h2,VY]
 refine ab (fun h3=> ?_) (fun h3=> ?_) <;>simp(disch:=omega) [h1,h2,h3,VY]
 refine ay (aP a.tx b.tx) ?_
 simp(disch:=omega) [h1,h2,h3,VY]
 refine ab (fun h4=> ?_) (fun h4=> ?_) <;>simp(disch:=omega) [h1,h2,h3,h4,VY]
 refine ay (eQ a.path b.path ha.2.2.2.2.1 hb.2.2.2.2.1) ?_
 simp(disch:=omega) [h1,h2,h3,h4,VY]
abbrev f8:Nat:=253
def fP:AF:=⟨1,5,[.cell 2 5 true],(.seq (.ops [.i (.lbox 1 (.s 0)), .i (.lal 2 [.int .i64 0, .int .i64 0, .int .i64 0, .nils, .nils])]) (.seq (.ops [qf 3 1 0,ql 4 1 3 1 false,qf 5 1 1,ql 6 1 5 1 false,qf 7 1 2,ql 8 1 7 1 false,qf 9 1 3,ql 10 1 9 1 false,qk 12 60 10,qf 12 1 4,ql 13 1 12 1 false,qk 15 220 13, .i (.bld 15 [.int .i64 0, .int .i64 0, .int .i64 0, .nils, .nils] [(0,1,(.s 4)),(1,1,(.s 6)),(2,1,(.s 8)),(3,1,(.s 11)),(4,1,(.s 14))]),qs 2 2 15 5]) .ret))⟩
theorem pU:cd f8=some fP:=by kernel_rfl
theorem wo (x:bg) (hw:x.wc):VC cd f8 (aJ [(true,x.c)]) (fun rs _=>rs= [(true,x.o)]):=by
 have w:=hw.2.2.2.1
 simp only[Sz]at w
 refine aa pU rfl ?_
 simp(disch:=omega) [fP,bg.c,VY]
 refine ay (aL x.tx (by omega)) ?_
 simp(disch:=omega) [VY]
 refine ay (m7 x.path hw.2.2.2.2) ?_
 simp(disch:=omega) [bg.o,VY]
abbrev kF:Nat:=231
def lW:AF:=⟨1,5,[.cell 2 5 true],(.seq (.ops [.i (.lbox 1 (.s 0)), .i (.lal 2 [.int .i64 0, .int .i64 0, .int .i64 0, .nils, .nils])]) (.seq (.ops [qf 3 1 0,ql 4 1 3 1 false,qf 5 1 1,ql 6 1 5 1 false,qf 7 1 2,ql 8 1 7 1 false,qf 9 1 3,ql 10 1 9 1 false,qk 12 115 10,qf 12 1 4,ql 13 1 12 1 false,qk 15 225 13, .i (.bld 15 [.int .i64 0, .int .i64 0, .int .i64 0, .nils, .nils] [(0,1,(.s 4)),(1,1,(.s 6)),(2,1,(.s 8)),(3,1,(.s 11)),(4,1,(.s 14))]),qs 2 2 15 5]) .ret))⟩
theorem vD:cd kF=some lW:=by kernel_rfl
theorem CO (x:bg) (hw:x.wc):VC cd kF (aJ [(true,x.c)]) (fun rs _=>rs= [(true,x.o)]):=by
 have w:=hw.2.2.2.1
 simp only[Sz]at w
 refine aa vD rfl ?_
 simp(disch:=omega) [lW,bg.c,VY]
 refine ay (cq x.tx (by omega)) ?_
 simp(disch:=omega) [VY]
 refine ay (pW x.path hw.2.2.2.2) ?_
 simp(disch:=omega) [bg.o,VY]
def cL {α:Type} (f:α→α→Bool) (a b:List α):Bool:=decide (a.length=b.length) && (List.range b.length).all fun i=>match a[i]?,b[i]? with|some x,some y=>f x y|_,_=>false
theorem gB {α:Type} {f:α→α→Bool} {a b:List α} (h:¬a.length=b.length):cL f a b=false:=by unfold cL;rw[decide_eq_false h];rfl
theorem eO {α:Type} {f:α→α→Bool} {a b:List α} {i:Nat} (hi:i < a.length) (hj:i < b.length) (h:f a[i] b[i]=false):cL f a b=false:=by
 unfold cL
 rw[Bool.and_eq_false_iff]
 right
 rw[List.all_eq_false]
 exact⟨i,by simp[hj],by simp[hi,hj,h]⟩
theorem gF {α:Type} {f:α→α→Bool} {a b:List α} (hl:a.length=b.length) (h:∀i,i < b.length→(hi:i < a.length)→(hj:i < b.length)→f a[i] b[i]=true):cL f a b=true:=by
 unfold cL
 rw[Bool.and_eq_true,List.all_eq_true]
 refine⟨by simp[hl],fun i hi=> ?_⟩
 have hj:i < b.length:=by simpa using hi
 have hi2:i < a.length:=by omega
 simp[hi2,hj,h i hj hi2 hj]
theorem qX {α:Type} {f:α→α→Bool} {a b:List α} {i:Nat} (hd:∀j,j < i→(hi:j < a.length)→(hj:j < b.length)→f a[j] b[j]=true) {hi:i < a.length} {hj:i < b.length} (h:f a[i] b[i]=true):∀j,j < i+1→(hi:j < a.length)→(hj:j < b.length)→f a[j] b[j]=true:=fun j h2 hx hy=>by
 rcases Nat.lt_or_ge j i with hl|hl
 ·exact hd j hl hx hy
 ·obtain rfl:j=i:=by omega
  exact h
def dX (a b:List Head):Bool:=cL eo a b
def eH (a b:Proof):Bool:=dX a.heads b.heads && pM a.qc b.qc
abbrev iY:Nat:=249
def iR:AF:=⟨2,5,[.tmp 4],(.seq (.ops [.i (.mov 4 (qb false))]) (.seq (.seq (.ops [qm 6 0,qn 7 6,qm 8 1,qn 9 8,qd 10 .neq 7 9]) (.cond (.s 10) (.seq (.ops [.i (.mov 4 (qb false))]) .ret) .skip)) (.seq (.seq (.ops [qm 11 0,qn 12 11, .i (.mov 13 (qi 0))]) (.block 0 (.loop [26,25,24,23,22,21,20,19,18,17,16,15,14,5] (.seq (.ops [qd 14 .lss 13 12]) (.seq (.cond (.s 14) .skip (.exit 0)) (.seq (.block 1 (.seq (.ops [qm 15 13,qm 5 15]) (.seq (.ops [qm 16 0,qm 17 5, .i (.iad 18 (.s 16) (.s 17) 10), .i (.ldh 19 (.s 18) 10 true),qm 20 1,qm 21 5, .i (.iad 22 (.s 20) (.s 21) 10), .i (.ldh 23 (.s 22) 10 true), .i (.call 25 13 false [(.s 19),(.s 23)]), .i (.not 25 (.s 24))]) (.cond (.s 25) (.seq (.ops [.i (.mov 4 (qb false))]) .ret) .skip)))) (.ops [.i (.bin 26 .add (.s 13) (qi 1)),qm 13 26]))))))) (.seq (.ops [.i (.mov 4 (qb true))]) .ret))))⟩
theorem sK:cd iY=some iR:=by kernel_rfl
theorem qA (a b:List Head) (ha:nD a) (hb:nD b):VC cd iY (aJ [(false,[.sl (f4 a)]),(false,[.sl (f4 b)])]) (fun rs _=>rs=bl (dX a b)):=by
 obtain⟨w1,w2⟩:=ha
 obtain⟨w3,w4⟩:=hb
 simp only[Sz]at w1 w3
 refine aa sK rfl ?_
 simp(disch:=omega) [iR,b9,VY]
 refine ab (fun h1=> ?_) (fun h1=> ?_)
 case refine_2=>
  have hn:dX a b=false:=gB (fun e=>h1 (by omega))
  simp(disch:=omega) [h1,hn,VY]
 simp(disch:=omega) [h1,b9,VY]
 refine ef (σ:=Nat) (f1:=_) (es0:=_) (by simp(disch:=omega) [VY];rfl) (by simp(disch:=omega) [VY];rfl) (fun i=> [(13, .val false [.int .i64 (i:Int)])]) (fun _=> []) (fun i g=>g+i=b.length∧∀j,j < i→(hi:j < a.length)→(hj:j < b.length)→eo a[j] b[j]=true) 0 b.length (by simp(disch:=omega) [h1,VY]) (by simp(disch:=omega) [VY]) ⟨by omega,fun j hj=>by omega⟩ ?_
 rintro i n g ⟨hg,hd⟩ P hP
 simp(disch:=omega) [h1,VY]
 refine ab (fun h2=> ?_) (fun h2=> ?_)
 ·have hi:i < a.length:=by omega
  have hj:i < b.length:=by omega
  simp(disch:=omega) [dN hi,dN hj,Head.c,VY]
  refine ay (eM a[i] b[i] (w2 _ (List.getElem_mem hi)) (w4 _ (List.getElem_mem hj))) ?_ (ha:=by first|rfl|(simp[Head.c,VY] <;>repeat' constructor))
  simp(disch:=omega) [VY]
  refine ak (fun h3=> ?_) (fun h3=> ?_)
  ·simp(disch:=omega) [h3,VY]
   exact hP (i+1) (g - 1) _ _ (by omega) ⟨by omega,qX hd h3⟩ (by simp(disch:=omega) [VY]) (by simp(disch:=omega) [VY])
  ·simp(disch:=omega) [h3,show dX a b=false from eO hi hj h3,VY]
 ·have he:dX a b=true:=gF (by omega) (fun i h hi hj=>hd i (by omega) hi hj)
  simp(disch:=omega) [he,VY]
abbrev iI:Nat:=186
def gX:AF:=⟨2,5,[.tmp 4],(.seq (.ops [.i (.lbox 2 (.s 0)), .i (.lbox 3 (.s 1)), .i (.mov 4 (qb false))]) (.seq (.ops [qf 5 2 0,ql 6 2 5 1 false,qf 7 3 0,ql 8 3 7 1 false, .i (.call 10 249 false [(.s 6),(.s 8)]),qm 10 9, .g 10 true 12 (.fad 11 (.s 2) 1), .g 10 true 13 (.ldl 12 2 (.s 11) 5 true), .g 10 true 14 (.fad 13 (.s 3) 1), .g 10 true 15 (.ldl 14 3 (.s 13) 5 true), .g 10 true 16 (.call 16 59 false [(.s 12),(.s 14)]), .i (.pick 16 (.s 10) (.s 15) (qb false)),qm 4 16]) .ret))⟩
theorem rR:cd iI=some gX:=by kernel_rfl
theorem rD (a b:Proof) (ha:a.wf) (hb:b.wf):VC cd iI (aJ [(true,a.c),(true,b.c)]) (fun rs _=>rs=bl (eH a b)):=by
 refine aa rR rfl ?_
 simp(disch:=omega) [gX,Proof.c,VY]
 refine ay (qA a.heads b.heads ha.1 hb.1) ?_
 simp(disch:=omega) [VY]
 refine ak (fun h1=> ?_) (fun h1=> ?_) <;>simp(disch:=omega) [h1,eH,VY]
 refine ay (fQ a.qc b.qc ha.2 hb.2) ?_ (ha:=by first|rfl|(simp[Qc.c,VY] <;>repeat' constructor))
 simp(disch:=omega) [h1,VY]
abbrev ia:Nat:=158
def iQ:AF:=⟨2,6,[.tmp 4],(.seq (.ops [.i (.lbox 2 (.s 0)), .i (.lbox 3 (.s 1)), .i (.mov 4 (qb false))]) (.seq (.seq (.ops [qf 6 2 0,ql 7 2 6 1 false,qn 8 7,qf 9 3 0,ql 10 3 9 1 false,qn 11 10,qd 12 .neq 8 11]) (.cond (.s 12) (.seq (.ops [.i (.mov 4 (qb false))]) .ret) .skip)) (.seq (.seq (.ops [qf 13 2 0,ql 14 2 13 1 false,qn 15 14, .i (.mov 16 (qi 0))]) (.block 0 (.loop [31,30,29,28,27,26,25,24,23,22,21,20,19,18,17,5] (.seq (.ops [qd 17 .lss 16 15]) (.seq (.cond (.s 17) .skip (.exit 0)) (.seq (.block 1 (.seq (.ops [qm 18 16,qm 5 18]) (.seq (.ops [qf 19 2 0,ql 20 2 19 1 false,qm 21 5, .i (.iad 22 (.s 20) (.s 21) 10), .i (.ldh 23 (.s 22) 10 true),qf 24 3 0,ql 25 3 24 1 false,qm 26 5, .i (.iad 27 (.s 25) (.s 26) 10), .i (.ldh 28 (.s 27) 10 true), .i (.call 30 155 false [(.s 23),(.s 28)]), .i (.not 30 (.s 29))]) (.cond (.s 30) (.seq (.ops [.i (.mov 4 (qb false))]) .ret) .skip)))) (.ops [.i (.bin 31 .add (.s 16) (qi 1)),qm 16 31]))))))) (.seq (.ops [qf 32 2 1,ql 33 2 32 5 true,qf 34 3 1,ql 35 3 34 5 true, .i (.call 37 154 false [(.s 33),(.s 35)]),qm 4 36]) .ret))))⟩
theorem sW:cd ia=some iQ:=by kernel_rfl
theorem qU (a b:Proof) (ha:a.wf) (hb:b.wf):VC cd ia (aJ [(true,a.c),(true,b.c)]) (fun rs _=>rs=bl (eH a b)):=by
 obtain⟨⟨w1,w2⟩,wa⟩:=ha
 obtain⟨⟨w3,w4⟩,wb⟩:=hb
 simp only[Sz]at w1 w3
 refine aa sW rfl ?_
 simp(disch:=omega) [iQ,Proof.c,b9,VY]
 refine ab (fun h1=> ?_) (fun h1=> ?_)
 case refine_2=>
  have hn:dX a.heads b.heads=false:=gB (fun e=>h1 (by omega))
  simp(disch:=omega) [h1,hn,eH,VY]
 simp(disch:=omega) [h1,b9,VY]
 refine ef (σ:=Nat) (f1:=_) (es0:=_) (by simp(disch:=omega) [VY];rfl) (by simp(disch:=omega) [VY];rfl) (fun i=> [(16, .val false [.int .i64 (i:Int)])]) (fun _=> []) (fun i g=>g+i=b.heads.length∧∀j,j < i→(hi:j < a.heads.length)→(hj:j < b.heads.length)→eo a.heads[j] b.heads[j]=true) 0 b.heads.length (by simp(disch:=omega) [h1,VY]) (by simp(disch:=omega) [VY]) ⟨by omega,fun j hj=>by omega⟩ ?_
 rintro i n g ⟨hg,hd⟩ P hP
 simp(disch:=omega) [h1,VY]
 refine ab (fun h2=> ?_) (fun h2=> ?_)
 ·have hi:i < a.heads.length:=by omega
  have hj:i < b.heads.length:=by omega
  simp(disch:=omega) [dN hi,dN hj,Head.c,VY]
  refine ay (eK a.heads[i] b.heads[i] (w2 _ (List.getElem_mem hi)) (w4 _ (List.getElem_mem hj))) ?_ (ha:=by first|rfl|(simp[Head.c,VY] <;>repeat' constructor))
  simp(disch:=omega) [VY]
  refine ak (fun h3=> ?_) (fun h3=> ?_)
  ·simp(disch:=omega) [h3,VY]
   exact hP (i+1) (g - 1) _ _ (by omega) ⟨by omega,qX hd h3⟩ (by simp(disch:=omega) [VY]) (by simp(disch:=omega) [VY])
  ·simp(disch:=omega) [h3,show dX a.heads b.heads=false from eO hi hj h3,eH,VY]
 ·have he:dX a.heads b.heads=true:=gF (by omega) (fun i h hi hj=>hd i (by omega) hi hj)
  simp(disch:=omega) [VY]
  refine ay (fL a.qc b.qc wa wb) ?_ (ha:=by first|rfl|(simp[Qc.c,VY] <;>repeat' constructor))
  simp(disch:=omega) [he,eH,VY]
def cB (a b:Entry):Bool:=decide (a.who=b.who) && decide (a.high=b.high) && decide (a.tag=b.tag)
def eJ (a b:Tc):Bool:=decide (a.view=b.view) && cL cB a.entries b.entries
abbrev iU:Nat:=248
def gT:AF:=⟨2,5,[.tmp 4],(.seq (.ops [.i (.lbox 2 (.s 0)), .i (.lbox 3 (.s 1)), .i (.mov 4 (qb false))]) (.seq (.ops [qf 5 2 0,ql 6 2 5 1 false,qf 7 3 0,ql 8 3 7 1 false,qd 9 .eql 6 8,qm 10 9, .g 10 true 12 (.fad 11 (.s 2) 1), .g 10 true 13 (.ldl 12 2 (.s 11) 1 false), .g 10 true 14 (.fad 13 (.s 3) 1), .g 10 true 15 (.ldl 14 3 (.s 13) 1 false), .g 10 true 16 (.bin 15 .eql (.s 12) (.s 14)), .i (.pick 16 (.s 10) (.s 15) (qb false)),qm 17 16, .g 17 true 19 (.fad 18 (.s 2) 2), .g 17 true 20 (.ldl 19 2 (.s 18) 1 false), .g 17 true 21 (.fad 20 (.s 3) 2), .g 17 true 22 (.ldl 21 3 (.s 20) 1 false), .g 17 true 23 (.call 23 57 false [(.s 19),(.s 21)]), .i (.pick 23 (.s 17) (.s 22) (qb false)),qm 4 23]) .ret))⟩
theorem sY:cd iU=some gT:=by kernel_rfl
theorem qF (a b:Entry):VC cd iU (aJ [(true,a.c),(true,b.c)]) (fun rs _=>rs=bl (cB a b)):=by
 refine aa sY rfl ?_
 simp(disch:=omega) [gT,Entry.c,VY]
 refine ab (fun h1=> ?_) (fun h1=> ?_) <;>simp(disch:=omega) [h1,cB,VY]
 refine ab (fun h2=> ?_) (fun h2=> ?_) <;>simp(disch:=omega) [h1,h2,VY]
 refine ay (aN a.tag b.tag) ?_
 simp(disch:=omega) [h1,h2,VY]
abbrev oI:Nat:=185
def od:AF:=⟨2,6,[.tmp 4],(.seq (.ops [.i (.lbox 2 (.s 0)), .i (.lbox 3 (.s 1)), .i (.mov 4 (qb false))]) (.seq (.seq (.ops [qf 6 2 0,ql 7 2 6 1 false,qf 8 3 0,ql 9 3 8 1 false,qd 10 .neq 7 9,qm 11 10, .g 11 false 13 (.fad 12 (.s 2) 1), .g 11 false 14 (.ldl 13 2 (.s 12) 1 false), .g 11 false 15 (.len 14 false (.s 13)), .g 11 false 16 (.fad 15 (.s 3) 1), .g 11 false 17 (.ldl 16 3 (.s 15) 1 false), .g 11 false 18 (.len 17 false (.s 16)), .g 11 false 19 (.bin 18 .neq (.s 14) (.s 17)), .i (.pick 19 (.s 11) (qb true) (.s 18))]) (.cond (.s 19) (.seq (.ops [.i (.mov 4 (qb false))]) .ret) .skip)) (.seq (.seq (.ops [qf 20 2 1,ql 21 2 20 1 false,qn 22 21, .i (.mov 23 (qi 0))]) (.block 0 (.loop [38,37,36,35,34,33,32,31,30,29,28,27,26,25,24,5] (.seq (.ops [qd 24 .lss 23 22]) (.seq (.cond (.s 24) .skip (.exit 0)) (.seq (.block 1 (.seq (.ops [qm 25 23,qm 5 25]) (.seq (.ops [qf 26 2 1,ql 27 2 26 1 false,qm 28 5, .i (.iad 29 (.s 27) (.s 28) 3), .i (.ldh 30 (.s 29) 3 true),qf 31 3 1,ql 32 3 31 1 false,qm 33 5, .i (.iad 34 (.s 32) (.s 33) 3), .i (.ldh 35 (.s 34) 3 true), .i (.call 37 248 false [(.s 30),(.s 35)]), .i (.not 37 (.s 36))]) (.cond (.s 37) (.seq (.ops [.i (.mov 4 (qb false))]) .ret) .skip)))) (.ops [.i (.bin 38 .add (.s 23) (qi 1)),qm 23 38]))))))) (.seq (.ops [.i (.mov 4 (qb true))]) .ret))))⟩
theorem yj:cd oI=some od:=by kernel_rfl
theorem vw (a b:Tc) (ha:a.wf) (hb:b.wf):VC cd oI (aJ [(true,a.c),(true,b.c)]) (fun rs _=>rs=bl (eJ a b)):=by
 have w1:=ha.2.1
 have w3:=hb.2.1
 simp only[Sz]at w1 w3
 refine aa yj rfl ?_
 simp(disch:=omega) [od,Tc.c,bA,VY]
 refine ab (fun h0=> ?_) (fun h0=> ?_)
 case refine_2=>simp(disch:=omega) [h0,eJ,VY]
 simp(disch:=omega) [h0,bA,VY]
 refine ab (fun h1=> ?_) (fun h1=> ?_)
 case refine_2=>
  have hn:cL cB a.entries b.entries=false:=gB (fun e=>h1 (by omega))
  simp(disch:=omega) [h0,h1,hn,eJ,VY]
 simp(disch:=omega) [h0,h1,bA,VY]
 refine ef (σ:=Nat) (f1:=_) (es0:=_) (by simp(disch:=omega) [VY];rfl) (by simp(disch:=omega) [VY];rfl) (fun i=> [(23, .val false [.int .i64 (i:Int)])]) (fun _=> []) (fun i g=>g+i=b.entries.length∧∀j,j < i→(hi:j < a.entries.length)→(hj:j < b.entries.length)→cB a.entries[j] b.entries[j]=true) 0 b.entries.length (by simp(disch:=omega) [h1,VY]) (by simp(disch:=omega) [VY]) ⟨by omega,fun j hj=>by omega⟩ ?_
 rintro i n g ⟨hg,hd⟩ P hP
 simp(disch:=omega) [h1,VY]
 refine ab (fun h2=> ?_) (fun h2=> ?_)
 ·have hi:i < a.entries.length:=by omega
  have hj:i < b.entries.length:=by omega
  simp(disch:=omega) [dc hi,dc hj,VY]
  refine ay (qF a.entries[i] b.entries[i]) ?_ (ha:=by first|rfl|(simp[Entry.c,VY] <;>repeat' constructor))
  simp(disch:=omega) [VY]
  refine ak (fun h3=> ?_) (fun h3=> ?_)
  ·simp(disch:=omega) [h3,VY]
   exact hP (i+1) (g - 1) _ _ (by omega) ⟨by omega,qX hd h3⟩ (by simp(disch:=omega) [VY]) (by simp(disch:=omega) [VY])
  ·simp(disch:=omega) [h3,show cL cB a.entries b.entries=false from eO hi hj h3,eJ,h0,VY]
 ·have he:cL cB a.entries b.entries=true:=gF (by omega) (fun i h hi hj=>hd i (by omega) hi hj)
  simp(disch:=omega) [he,h0,eJ,VY]
abbrev pG:Nat:=157
def ox:AF:=⟨2,6,[.tmp 4],(.seq (.ops [.i (.lbox 2 (.s 0)), .i (.lbox 3 (.s 1)), .i (.mov 4 (qb false))]) (.seq (.seq (.ops [qf 8 2 0,ql 9 2 8 1 false,qf 10 3 0,ql 11 3 10 1 false,qd 12 .neq 9 11,qm 13 12, .g 13 false 15 (.fad 14 (.s 2) 1), .g 13 false 16 (.ldl 15 2 (.s 14) 1 false), .g 13 false 17 (.len 16 false (.s 15)), .g 13 false 18 (.fad 17 (.s 3) 1), .g 13 false 19 (.ldl 18 3 (.s 17) 1 false), .g 13 false 20 (.len 19 false (.s 18)), .g 13 false 21 (.bin 20 .neq (.s 16) (.s 19)), .i (.pick 21 (.s 13) (qb true) (.s 20))]) (.cond (.s 21) (.seq (.ops [.i (.mov 4 (qb false))]) .ret) .skip)) (.seq (.seq (.ops [qf 22 2 1,ql 23 2 22 1 false,qn 24 23, .i (.mov 25 (qi 0))]) (.block 0 (.loop [55,54,53,52,51,50,49,48,47,46,45,44,43,42,41,40,39,38,37,36,35,34,33,32,31,30,29,28,27,26,7,6,5] (.seq (.ops [qd 26 .lss 25 24]) (.seq (.cond (.s 26) .skip (.exit 0)) (.seq (.block 1 (.seq (.ops [qm 27 25, .i (.iad 28 (.s 23) (.s 25) 3), .i (.ldh 29 (.s 28) 3 true), .i (.lal 6 [.int .i64 0, .int .i64 0, .nils]),qm 5 27,qs 6 6 29 3]) (.seq (.ops [qf 30 3 1,ql 31 3 30 1 false,qm 32 5, .i (.iad 33 (.s 31) (.s 32) 3), .i (.ldh 34 (.s 33) 3 true), .i (.lal 7 [.int .i64 0, .int .i64 0, .nils]),qs 7 7 34 3]) (.seq (.ops [qf 35 6 0,ql 36 6 35 1 false,qf 37 7 0,ql 38 7 37 1 false,qd 39 .neq 36 38,qm 40 39, .g 40 false 42 (.fad 41 (.s 6) 1), .g 40 false 43 (.ldl 42 6 (.s 41) 1 false), .g 40 false 44 (.fad 43 (.s 7) 1), .g 40 false 45 (.ldl 44 7 (.s 43) 1 false), .g 40 false 46 (.bin 45 .neq (.s 42) (.s 44)), .i (.pick 46 (.s 40) (qb true) (.s 45)),qm 47 46, .g 47 false 49 (.fad 48 (.s 6) 2), .g 47 false 50 (.ldl 49 6 (.s 48) 1 false), .g 47 false 51 (.fad 50 (.s 7) 2), .g 47 false 52 (.ldl 51 7 (.s 50) 1 false), .g 47 false 53 (.call 53 143 false [(.s 49),(.s 51)]), .g 47 false 54 (.not 53 (.s 52)), .i (.pick 54 (.s 47) (qb true) (.s 53))]) (.cond (.s 54) (.seq (.ops [.i (.mov 4 (qb false))]) .ret) .skip))))) (.ops [.i (.bin 55 .add (.s 25) (qi 1)),qm 25 55]))))))) (.seq (.ops [.i (.mov 4 (qb true))]) .ret))))⟩
theorem yh:cd pG=some ox:=by kernel_rfl
theorem xa (a b:Tc) (ha:a.wf) (hb:b.wf):VC cd pG (aJ [(true,a.c),(true,b.c)]) (fun rs _=>rs=bl (eJ a b)):=by
 have w1:=ha.2.1
 have w3:=hb.2.1
 simp only[Sz]at w1 w3
 refine aa yh rfl ?_
 simp(disch:=omega) [ox,Tc.c,bA,VY]
 refine ab (fun h0=> ?_) (fun h0=> ?_)
 case refine_2=>simp(disch:=omega) [h0,eJ,VY]
 simp(disch:=omega) [h0,bA,VY]
 refine ab (fun h1=> ?_) (fun h1=> ?_)
 case refine_2=>
  have hn:cL cB a.entries b.entries=false:=gB (fun e=>h1 (by omega))
  simp(disch:=omega) [h0,h1,hn,eJ,VY]
 simp(disch:=omega) [h0,h1,bA,VY]
 refine ef (σ:=Nat) (f1:=_) (es0:=_) (by simp(disch:=omega) [VY];rfl) (by simp(disch:=omega) [VY];rfl) (fun i=> [(25, .val false [.int .i64 (i:Int)])]) (fun _=> []) (fun i g=>g+i=b.entries.length∧∀j,j < i→(hi:j < a.entries.length)→(hj:j < b.entries.length)→cB a.entries[j] b.entries[j]=true) 0 b.entries.length (by simp(disch:=omega) [h1,VY]) (by simp(disch:=omega) [VY]) ⟨by omega,fun j hj=>by omega⟩ ?_
 rintro i n g ⟨hg,hd⟩ P hP
 simp(disch:=omega) [h1,VY]
 refine ab (fun h2=> ?_) (fun h2=> ?_)
 ·have hi:i < a.entries.length:=by omega
  have hj:i < b.entries.length:=by omega
  simp(disch:=omega) [dc hi,dc hj,VY]
  refine ab (fun h3=> ?_) (fun h3=> ?_)
  case refine_2=>
   have hn:cL cB a.entries b.entries=false:=eO hi hj (by simp[cB,h3])
   simp(disch:=omega) [h3,hn,eJ,h0,VY]
  simp(disch:=omega) [h3,VY]
  refine ab (fun h4=> ?_) (fun h4=> ?_)
  case refine_2=>
   have hn:cL cB a.entries b.entries=false:=eO hi hj (by simp[cB,h4])
   simp(disch:=omega) [h3,h4,hn,eJ,h0,VY]
  simp(disch:=omega) [h3,h4,VY]
  refine ay (aP a.entries[i].tag b.entries[i].tag) ?_
  simp(disch:=omega) [h3,h4,VY]
  refine ab (fun h5=> ?_) (fun h5=> ?_)
  ·simp(disch:=omega) [h3,h4,h5,VY]
   exact hP (i+1) (g - 1) _ _ (by omega) ⟨by omega,qX hd (hi:=hi) (hj:=hj) (by simp[cB,h3,h4,h5])⟩ (by simp(disch:=omega) [VY]) (by simp(disch:=omega) [VY])
  ·have hn:cL cB a.entries b.entries=false:=eO hi hj (by simp[cB,h5])
   simp(disch:=omega) [h3,h4,h5,hn,eJ,h0,VY]
 ·have he:cL cB a.entries b.entries=true:=gF (by omega) (fun i h hi hj=>hd i (by omega) hi hj)
  simp(disch:=omega) [he,h0,eJ,VY]
end Go.Eng.F
