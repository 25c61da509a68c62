import Derived.Test.YtlhapfligolmcaaGreatGg
set_option maxRecDepth 100000
set_option linter.unusedSimpArgs false
set_option linter.unusedVariables false
namespace Go.Eng.F
theorem EA (b:Bytes):(pad b).length=b.length+1+zc b.length+8∧(pad b).length % 64=0:=by
 have h:=rM b.length
 have e:(pad b).length=b.length+1+zc b.length+8:=by simp[pad,ln];omega
 omega
def hs (b:Bytes):Nat→List Int
 |0=>init
 |n+1=>oR (hs b n) (((pad b).drop (64 * n)).take 64)
theorem tJ (b:Bytes):∀n,(hs b n).length=8
 |0=>rfl
 |n+1=>by simp[hs,oR]
theorem E8 (b:Bytes):∀n,∀x∈hs b n,word x=true
 |0,x,hx=>by
  have h:∀x∈init,word x=true:=by decide
  exact h x hx
 |n+1,x,hx=>by
  simp only[hs,oR,List.mem_map]at hx
  obtain⟨i,_,rfl⟩:=hx
  exact ri _
def b8 (y:Int):UInt8:=UInt8.ofNat (IntKind.u8.wrap y).toNat
theorem Ll (y:Int):((b8 y).toNat:Int)=IntKind.u8.wrap y:=by
 obtain⟨h1,h2⟩:=E9 .u8 y
 have e1:IntKind.u8.min=0:=rfl
 have e2:IntKind.u8.max=255:=rfl
 unfold b8
 rw[UInt8.toNat_ofNat']
 omega
def w4 (x:Int):Bytes:= [b8 (x.fdiv (2 ^ min 24 IntKind.i64.bits)),b8 (x.fdiv (2 ^ min 16 IntKind.i64.bits)),b8 (x.fdiv (2 ^ min 8 IntKind.i64.bits)),b8 x]
theorem EY {l:List Int} {k:Nat} (h:k < l.length):bytes ((l.take (k+1)).flatMap w4)=bytes ((l.take k).flatMap w4)++ [[.int .u8 (IntKind.u8.wrap ((gi l k).fdiv (2 ^ min 24 IntKind.i64.bits)))],[.int .u8 (IntKind.u8.wrap ((gi l k).fdiv (2 ^ min 16 IntKind.i64.bits)))],[.int .u8 (IntKind.u8.wrap ((gi l k).fdiv (2 ^ min 8 IntKind.i64.bits)))],[.int .u8 (IntKind.u8.wrap (gi l k))]]:=by
 have e:gi l k=l[k]:=by simp[gi,h]
 rw[List.take_add_one,List.getElem?_eq_getElem h,e]
 simp only[List.flatMap_append,Option.toList_some,List.flatMap_cons,List.flatMap_nil,List.append_nil,bytes,List.map_append,w4,List.map_cons,List.map_nil,Ll]
theorem Ap:∀(l:List Int) (k:Nat),k≤l.length→((l.take k).flatMap w4).length=4 * k
 |_,0,_=>by simp
 | [],k+1,h=>by simp at h
 |x::l,k+1,h=>by
  have:=Ap l k (by simpa using h)
  simp only[List.take_succ_cons,List.flatMap_cons,List.length_append,this]
  simp only[w4,List.length_cons,List.length_nil]
  omega
def EK (b:Bytes):Bytes:=(hs b ((pad b).length / 64)).flatMap w4
abbrev yv:Nat:=130
def wi:AF:=⟨1,6,[.tmp 2],(.seq (.ops [.i (.mov 2 (.c (.val false [.nils])))]) (.seq (.ops [.i (.call 10 217 false []),qm 10 0,qk 12 218 10,qm 3 9,qm 4 11]) (.seq (.seq (.ops [.i (.mov 5 (qi 0))]) (.block 0 (.loop [24,23,22,21,20,19,18,17,16,15,14,13,12] (.seq (.seq (.ops [qm 12 5,qm 13 4,qn 14 13,qd 15 .lss 12 14]) (.cond (.s 15) .skip (.exit 0))) (.seq (.block 1 (.ops [qm 18 3,qm 19 4,qm 20 5,qm 21 5, .i (.bin 22 .add (.s 21) (qi 64)), .i (.eV 23 1 (.s 19) (some (.s 20)) (some (.s 22))), .i (.call 25 219 false [(.s 18),(.s 23)]),qm 3 24])) (.ops [qm 16 5, .i (.bin 17 .add (.s 16) (qi 64)),qm 5 17])))))) (.seq (.ops [.i (.bse 25),qm 6 25]) (.seq (.seq (.ops [qm 26 3,qn 27 26, .i (.mov 28 (qi 0))]) (.block 2 (.loop [46,45,44,43,42,41,40,39,38,37,36,35,34,33,32,31,30,29,8] (.seq (.ops [qd 29 .lss 28 27]) (.seq (.cond (.s 29) .skip (.exit 2)) (.seq (.block 3 (.seq (.ops [.i (.iad 30 (.s 26) (.s 28) 1), .i (.ldh 31 (.s 30) 1 false),qm 8 31]) (.ops [qm 32 6,qm 33 8, .i (.bin 34 .shr (.s 33) (.c (.val false [.int .u64 24]))), .i (.cvi 35 .u8 (.s 34)),qm 36 8, .i (.bin 37 .shr (.s 36) (.c (.val false [.int .u64 16]))), .i (.cvi 38 .u8 (.s 37)),qm 39 8, .i (.bin 40 .shr (.s 39) (.c (.val false [.int .u64 8]))), .i (.cvi 41 .u8 (.s 40)),qm 42 8, .i (.cvi 43 .u8 (.s 42)), .i (.lsl 44 1 4 [.int .u8 0] [(0,1,(.s 35)),(1,1,(.s 38)),(2,1,(.s 41)),(3,1,(.s 43))]), .i (.app 45 5 1 1 (.s 32) (.s 44)),qm 6 45]))) (.ops [.i (.bin 46 .add (.s 28) (qi 1)),qm 28 46]))))))) (.seq (.ops [qm 47 6,qm 2 47]) .ret))))))⟩
theorem Dz:cd yv=some wi:=by kernel_rfl
theorem mN (b:Bytes) (hb:b.length≤1073741824):VC cd yv (aO [(false,[.sl (bytes b)])]) (fun rs _=>rs= [(false,[.o true (some (5,1)) (bytes (EK b))])]):=by
 have hp:=EA b
 have hz:=rM b.length
 refine aa Dz rfl ?_
 simp(disch:=omega) [wi,VY]
 refine ah (vL) rfl rfl ?_
 simp(disch:=omega) [VY]
 refine ah (yi b hb) rfl rfl ?_
 simp(disch:=omega) [VY]
 refine lK (σ:=Nat×Nat) (f0:=_) (by simp(disch:=omega) [VY];rfl) ((dV.NS (.ow 106496 2)).trans (dV.MU (s:=3) (k:=90112) (k':=212992) (by simp(disch:=omega) [VY]) rfl (by omega))) (f1:=_) (es0:=_) (by simp(disch:=omega) [VY];rfl) (by simp(disch:=omega) [rj,gZ,jf,St.put,VY];rfl) (fun p=> [(5, .val false [.int .i64 (64 * (p.1:Int))]),(3, .val false [.ow 212992 p.2])]) (fun p=> [(212992, .sl p.2 true true (some (3,1)) (ints (hs b p.1)))])
  (fun p g=>g+p.1=(pad b).length / 64) (0,_) ((pad b).length / 64) (by simp(disch:=omega) [rj,jf,St.put,VY];rfl) (by simp(disch:=omega) [hs,rj,gZ,jf,St.put,VY]) (by omega) ?_
 rintro⟨k,v⟩ n g hg
 simp only at hg
 simp(disch:=omega) [an,VY]
 refine ab (fun h1=> ?_) (fun h1=> ?_)
 ·have hk:64 * k+64≤(pad b).length:=by omega
  have p1:(64:Int) * (k:Int)+64≤((pad b).length:Int):=by omega
  have p2:((64:Int) * (k:Int)).toNat=64 * k:=by omega
  have p3:(0:Int)≤64 * (k:Int):=by omega
  have p4:((64:Int) * (k:Int)+64 - 64 * (k:Int)).toNat=64:=by omega
  have p5:(64:Int) * (k:Int)≤64 * (k:Int)+64:=by omega
  have hx:((bytes (pad b)).drop (64 * k)).take 64=bytes (((pad b).drop (64 * k)).take 64):=by simp[bytes]
  simp(disch:=omega) [an,p1,p2,p3,p4,p5,hx,tg,VY]
  refine aB (s9 (hs b k) (((pad b).drop (64 * k)).take 64) (tJ b k) (E8 b k) (by simp;omega)) ?_
  simp(disch:=omega) [VY]
  exact⟨k+1,_,g - 1,by omega,by omega,⟨rfl,by omega⟩,rfl,rfl⟩
 have hk:k=(pad b).length / 64:=by omega
 subst hk
 have hl:=tJ b ((pad b).length / 64)
 simp(disch:=omega) [bE,hl,VY]
 refine aP (σ:=Nat×Nat) (f1:=_) (es0:=_) (by simp(disch:=omega) [VY];rfl) (by simp(disch:=omega) [VY];rfl) (fun p=> [(28, .val false [.int .i64 p.1]),(6, .val false [.ow 25 p.2])]) (fun p=> [(25, .sl p.2 true true (some (5,1)) (bytes (((hs b ((pad b).length / 64)).take p.1).flatMap w4)))])
  (fun p g=>g+p.1=8) (0,_) 8 (by simp(disch:=omega) [VY];rfl) (by simp(disch:=omega) [bytes,VY]) (by omega) ?_
 rintro⟨k,w⟩ n g hg
 simp only at hg
 simp(disch:=omega) [VY]
 refine ab (fun h2=> ?_) (fun h2=> ?_)
 ·have hk:k < 8:=by omega
  have e1:(ints (hs b ((pad b).length / 64))).length=8:=by rw[bE,hl]
  have e2:(bytes (((hs b ((pad b).length / 64)).take k).flatMap w4)).length=4 * k:=by rw[an];exact Ap _ _ (by omega)
  simp(disch:=omega) [e1,e2,ej,VY]
  exact⟨k+1,_,g - 1,by omega,by omega,⟨by omega,rfl⟩,rfl,EY (by omega)⟩
 ·have hk:k=8:=by omega
  subst hk
  simp(disch:=omega) [VY]
  rw[List.take_of_length_le (by omega)]
  rfl
abbrev xv:Nat:=205
def xN:AF:=⟨1,6,[.tmp 2],(.seq (.ops [.i (.mov 2 (.c (.val false [.nils])))]) (.seq (.ops [.i (.call 10 257 false []),qm 3 9]) (.seq (.ops [qm 10 0,qk 12 258 10,qm 4 11]) (.seq (.seq (.ops [.i (.mov 5 (qi 0))]) (.block 0 (.loop [24,23,22,21,20,19,18,17,16,15,14,13,12] (.seq (.seq (.ops [qm 12 5,qm 13 4,qn 14 13,qd 15 .lss 12 14]) (.cond (.s 15) .skip (.exit 0))) (.seq (.block 1 (.ops [qm 18 3,qm 19 4,qm 20 5,qm 21 5, .i (.bin 22 .add (.s 21) (qi 64)), .i (.eV 23 1 (.s 19) (some (.s 20)) (some (.s 22))), .i (.call 25 259 false [(.s 18),(.s 23)]),qm 3 24])) (.ops [qm 16 5, .i (.bin 17 .add (.s 16) (qi 64)),qm 5 17])))))) (.seq (.ops [.i (.bse 25),qm 6 25]) (.seq (.seq (.ops [qm 26 3,qn 27 26, .i (.mov 28 (qi 0))]) (.block 2 (.loop [46,45,44,43,42,41,40,39,38,37,36,35,34,33,32,31,30,29,8] (.seq (.ops [qd 29 .lss 28 27]) (.seq (.cond (.s 29) .skip (.exit 2)) (.seq (.block 3 (.seq (.ops [.i (.iad 30 (.s 26) (.s 28) 1), .i (.ldh 31 (.s 30) 1 false),qm 8 31]) (.ops [qm 32 6,qm 33 8, .i (.bin 34 .shr (.s 33) (.c (.val false [.int .u64 24]))), .i (.cvi 35 .u8 (.s 34)),qm 36 8, .i (.bin 37 .shr (.s 36) (.c (.val false [.int .u64 16]))), .i (.cvi 38 .u8 (.s 37)),qm 39 8, .i (.bin 40 .shr (.s 39) (.c (.val false [.int .u64 8]))), .i (.cvi 41 .u8 (.s 40)),qm 42 8, .i (.cvi 43 .u8 (.s 42)), .i (.lsl 44 1 4 [.int .u8 0] [(0,1,(.s 35)),(1,1,(.s 38)),(2,1,(.s 41)),(3,1,(.s 43))]), .i (.app 45 5 1 1 (.s 32) (.s 44)),qm 6 45]))) (.ops [.i (.bin 46 .add (.s 28) (qi 1)),qm 28 46]))))))) (.seq (.ops [qm 47 6,qm 2 47]) .ret)))))))⟩
theorem DT:cd xv=some xN:=by kernel_rfl
theorem nV (b:Bytes) (hb:b.length≤1073741824):VC cd xv (aO [(false,[.sl (bytes b)])]) (fun rs _=>rs= [(false,[.o true (some (5,1)) (bytes (EK b))])]):=by
 have hp:=EA b
 have hz:=rM b.length
 refine aa DT rfl ?_
 simp(disch:=omega) [xN,VY]
 refine ah (vE) rfl rfl ?_
 simp(disch:=omega) [VY]
 refine ah (wU b hb) rfl rfl ?_
 simp(disch:=omega) [VY]
 refine lK (σ:=Nat×Nat) (f0:=_) (by simp(disch:=omega) [VY];rfl) ((dV.NS (.ow 106496 2)).trans (dV.MU (s:=3) (k:=90112) (k':=212992) (by simp(disch:=omega) [VY]) rfl (by omega))) (f1:=_) (es0:=_) (by simp(disch:=omega) [VY];rfl) (by simp(disch:=omega) [rj,gZ,jf,St.put,VY];rfl) (fun p=> [(5, .val false [.int .i64 (64 * (p.1:Int))]),(3, .val false [.ow 212992 p.2])]) (fun p=> [(212992, .sl p.2 true true (some (3,1)) (ints (hs b p.1)))])
  (fun p g=>g+p.1=(pad b).length / 64) (0,_) ((pad b).length / 64) (by simp(disch:=omega) [rj,jf,St.put,VY];rfl) (by simp(disch:=omega) [hs,rj,gZ,jf,St.put,VY]) (by omega) ?_
 rintro⟨k,v⟩ n g hg
 simp only at hg
 simp(disch:=omega) [an,VY]
 refine ab (fun h1=> ?_) (fun h1=> ?_)
 ·have hk:64 * k+64≤(pad b).length:=by omega
  have p1:(64:Int) * (k:Int)+64≤((pad b).length:Int):=by omega
  have p2:((64:Int) * (k:Int)).toNat=64 * k:=by omega
  have p3:(0:Int)≤64 * (k:Int):=by omega
  have p4:((64:Int) * (k:Int)+64 - 64 * (k:Int)).toNat=64:=by omega
  have p5:(64:Int) * (k:Int)≤64 * (k:Int)+64:=by omega
  have hx:((bytes (pad b)).drop (64 * k)).take 64=bytes (((pad b).drop (64 * k)).take 64):=by simp[bytes]
  simp(disch:=omega) [an,p1,p2,p3,p4,p5,hx,tg,VY]
  refine aB (tO (hs b k) (((pad b).drop (64 * k)).take 64) (tJ b k) (E8 b k) (by simp;omega)) ?_
  simp(disch:=omega) [VY]
  exact⟨k+1,_,g - 1,by omega,by omega,⟨rfl,by omega⟩,rfl,rfl⟩
 have hk:k=(pad b).length / 64:=by omega
 subst hk
 have hl:=tJ b ((pad b).length / 64)
 simp(disch:=omega) [bE,hl,VY]
 refine aP (σ:=Nat×Nat) (f1:=_) (es0:=_) (by simp(disch:=omega) [VY];rfl) (by simp(disch:=omega) [VY];rfl) (fun p=> [(28, .val false [.int .i64 p.1]),(6, .val false [.ow 25 p.2])]) (fun p=> [(25, .sl p.2 true true (some (5,1)) (bytes (((hs b ((pad b).length / 64)).take p.1).flatMap w4)))])
  (fun p g=>g+p.1=8) (0,_) 8 (by simp(disch:=omega) [VY];rfl) (by simp(disch:=omega) [bytes,VY]) (by omega) ?_
 rintro⟨k,w⟩ n g hg
 simp only at hg
 simp(disch:=omega) [VY]
 refine ab (fun h2=> ?_) (fun h2=> ?_)
 ·have hk:k < 8:=by omega
  have e1:(ints (hs b ((pad b).length / 64))).length=8:=by rw[bE,hl]
  have e2:(bytes (((hs b ((pad b).length / 64)).take k).flatMap w4)).length=4 * k:=by rw[an];exact Ap _ _ (by omega)
  simp(disch:=omega) [e1,e2,ej,VY]
  exact⟨k+1,_,g - 1,by omega,by omega,⟨by omega,rfl⟩,rfl,EY (by omega)⟩
 ·have hk:k=8:=by omega
  subst hk
  simp(disch:=omega) [VY]
  rw[List.take_of_length_le (by omega)]
  rfl
end Go.Eng.F
namespace Go.Eng.F
abbrev ka:Nat:=291
def j4:AF:=⟨1,3,[.tmp 2],(.seq (.ops [.i (.mov 2 (.c (.val false [.nils])))]) (.seq (.ops [.i (.bsl 3 5 1 1 [.int .u8 0] [(0,1,(.c (.val false [.int .u8 0])))]),qm 4 0, .i (.app 5 5 1 1 (.s 3) (.s 4)),qk 7 130 5,qm 2 6]) .ret))⟩
theorem vv:cd ka=some j4:=by kernel_rfl
theorem tl (x:Bytes) (hx:x.length≤1073741823):VC cd ka (aO [(false,[.sl (bytes x)])]) (fun rs _=>rs= [(false,[.o true (some (5,1)) (bytes (EK (0::x)))])]):=by
 have e: [[D.int .u8 0]]++bytes x=bytes (0::x):=rfl
 refine aa vv rfl ?_
 simp(disch:=omega) [j4,e,an,VY]
 refine ah (mN (0::x) (by simp;omega)) rfl rfl ?_
 simp(disch:=omega) [VY]
abbrev kb:Nat:=287
def ld:AF:=⟨1,3,[.tmp 2],(.seq (.ops [.i (.mov 2 (.c (.val false [.nils])))]) (.seq (.ops [.i (.bsl 3 5 1 1 [.int .u8 0] [(0,1,(.c (.val false [.int .u8 0])))]),qm 4 0, .i (.app 5 5 1 1 (.s 3) (.s 4)),qk 7 205 5,qm 2 6]) .ret))⟩
theorem u6:cd kb=some ld:=by kernel_rfl
theorem ti (x:Bytes) (hx:x.length≤1073741823):VC cd kb (aO [(false,[.sl (bytes x)])]) (fun rs _=>rs= [(false,[.o true (some (5,1)) (bytes (EK (0::x)))])]):=by
 have e: [[D.int .u8 0]]++bytes x=bytes (0::x):=rfl
 refine aa u6 rfl ?_
 simp(disch:=omega) [ld,e,an,VY]
 refine ah (nV (0::x) (by simp;omega)) rfl rfl ?_
 simp(disch:=omega) [VY]
abbrev j8:Nat:=293
def jW:AF:=⟨2,4,[.tmp 4],(.seq (.ops [.i (.mov 4 (.c (.val false [.nils])))]) (.seq (.ops [.i (.bsl 5 5 1 1 [.int .u8 0] [(0,1,(.c (.val false [.int .u8 1])))]),qm 6 0, .i (.app 7 5 1 1 (.s 5) (.s 6)),qm 8 1, .i (.app 9 5 1 1 (.s 7) (.s 8)),qk 11 130 9,qm 4 10]) .ret))⟩
theorem vA:cd j8=some jW:=by kernel_rfl
theorem sN (x y:Bytes) (hx:x.length≤1000) (hy:y.length≤1000):VC cd j8 (aO [(false,[.sl (bytes x)]),(false,[.sl (bytes y)])]) (fun rs _=>rs= [(false,[.o true (some (5,1)) (bytes (EK (1::x++y)))])]):=by
 have e: [[D.int .u8 1]]++bytes x=bytes (1::x):=rfl
 have e2:bytes (1::x)++bytes y=bytes (1::x++y):=by simp[bytes]
 refine aa vA rfl ?_
 simp(disch:=omega) [jW,e,e2,an,VY]
 refine ah (mN (1::x++y) (by simp;omega)) rfl rfl ?_
 simp(disch:=omega) [VY]
abbrev kM:Nat:=289
def kh:AF:=⟨2,4,[.tmp 4],(.seq (.ops [.i (.mov 4 (.c (.val false [.nils])))]) (.seq (.ops [.i (.bsl 6 5 1 1 [.int .u8 0] [(0,1,(.c (.val false [.int .u8 1])))]),qm 7 0, .i (.app 8 5 1 1 (.s 6) (.s 7)),qm 5 8]) (.seq (.ops [qm 9 5,qm 10 1, .i (.app 11 5 1 1 (.s 9) (.s 10)),qk 13 205 11,qm 4 12]) .ret)))⟩
theorem vn:cd kM=some kh:=by kernel_rfl
theorem ud (x y:Bytes) (hx:x.length≤1000) (hy:y.length≤1000):VC cd kM (aO [(false,[.sl (bytes x)]),(false,[.sl (bytes y)])]) (fun rs _=>rs= [(false,[.o true (some (5,1)) (bytes (EK (1::x++y)))])]):=by
 have e: [[D.int .u8 1]]++bytes x=bytes (1::x):=rfl
 have e2:bytes (1::x)++bytes y=bytes (1::x++y):=by simp[bytes]
 refine aa vn rfl ?_
 simp(disch:=omega) [kh,e,e2,an,VY]
 refine ah (nV (1::x++y) (by simp;omega)) rfl rfl ?_
 simp(disch:=omega) [VY]
def GO (n k:Nat):Nat:=if h:0 < k∧k < n - k then GO n (2 * k)else k
termination_by n - k
decreasing_by omega
def splitAt (n:Nat):Nat:=if n < 2 then 0 else GO n 1
abbrev mF:Nat:=292
def ly:AF:=⟨1,4,[.tmp 2],(.seq (.ops [.i (.mov 2 (qi 0))]) (.seq (.seq (.ops [qm 4 0, .i (.bin 5 .lss (.s 4) (qi 2))]) (.cond (.s 5) (.seq (.ops [.i (.mov 2 (qi 0))]) .ret) .skip)) (.seq (.ops [.i (.mov 3 (qi 1))]) (.seq (.block 0 (.loop [12,11,10,9,8,7,6] (.seq (.seq (.ops [qm 6 3,qm 7 0,qm 8 3,qd 9 .sub 7 8,qd 10 .lss 6 9]) (.cond (.s 10) .skip (.exit 0))) (.block 1 (.ops [qm 11 3, .i (.bin 12 .mul (.s 11) (qi 2)),qm 3 12]))))) (.seq (.ops [qm 13 3,qm 2 13]) .ret)))))⟩
theorem xA:cd mF=some ly:=by kernel_rfl
theorem kX (n:Nat) (hn:n≤1073741824):VC cd mF (aO [(false,[.int .i64 (n:Int)])]) (fun rs _=>rs=it (splitAt n)):=by
 refine aa xA rfl ?_
 simp(disch:=omega) [ly,VY]
 refine ab (fun h1=> ?_) (fun h1=> ?_)
 ·have h2:n < 2:=by omega
  simp(disch:=omega) [splitAt,h2,VY]
 ·have h2:¬n < 2:=by omega
  simp(disch:=omega) [VY]
  refine aP (σ:=Nat) (f1:=_) (es0:=_) (by simp(disch:=omega) [VY];rfl) (by simp(disch:=omega) [VY];rfl) (fun k=> [(3, .val false [.int .i64 k])]) (fun _=> []) (fun k g=>g+k=n∧0 < k∧GO n k=splitAt n) 1 (n - 1) (by simp(disch:=omega) [VY]) (by simp(disch:=omega) [VY]) ⟨by omega,by omega,by rw[splitAt,if_neg h2]⟩ ?_
  rintro k v g ⟨hg,h0,hk⟩
  simp(disch:=omega) [VY]
  refine ab (fun h3=> ?_) (fun h3=> ?_)
  ·simp(disch:=omega) [VY]
   exact⟨2 * k,n - 2 * k,by omega,⟨by omega,by omega,by rw[←hk];conv=>rhs;rw[GO,dif_pos ⟨h0,by omega⟩]⟩,by omega⟩
  ·simp(disch:=omega) [VY]
   rw[GO,dif_neg (by omega)]at hk
   rw[hk]
abbrev nq:Nat:=288
def mz:AF:=⟨1,4,[.tmp 2],(.seq (.ops [.i (.mov 2 (qi 0))]) (.seq (.seq (.ops [qm 4 0, .i (.bin 5 .lss (.s 4) (qi 2))]) (.cond (.s 5) (.seq (.ops [.i (.mov 2 (qi 0))]) .ret) .skip)) (.seq (.ops [.i (.mov 3 (qi 1))]) (.seq (.block 0 (.loop [12,11,10,9,8,7,6] (.seq (.seq (.ops [qm 6 3,qm 7 0,qm 8 3,qd 9 .sub 7 8,qd 10 .lss 6 9]) (.cond (.s 10) .skip (.exit 0))) (.block 1 (.ops [qm 11 3, .i (.bin 12 .mul (qi 2) (.s 11)),qm 3 12]))))) (.seq (.ops [qm 13 3,qm 2 13]) .ret)))))⟩
theorem xb:cd nq=some mz:=by kernel_rfl
theorem kU (n:Nat) (hn:n≤1073741824):VC cd nq (aO [(false,[.int .i64 (n:Int)])]) (fun rs _=>rs=it (splitAt n)):=by
 refine aa xb rfl ?_
 simp(disch:=omega) [mz,VY]
 refine ab (fun h1=> ?_) (fun h1=> ?_)
 ·have h2:n < 2:=by omega
  simp(disch:=omega) [splitAt,h2,VY]
 ·have h2:¬n < 2:=by omega
  simp(disch:=omega) [VY]
  refine aP (σ:=Nat) (f1:=_) (es0:=_) (by simp(disch:=omega) [VY];rfl) (by simp(disch:=omega) [VY];rfl) (fun k=> [(3, .val false [.int .i64 k])]) (fun _=> []) (fun k g=>g+k=n∧0 < k∧GO n k=splitAt n) 1 (n - 1) (by simp(disch:=omega) [VY]) (by simp(disch:=omega) [VY]) ⟨by omega,by omega,by rw[splitAt,if_neg h2]⟩ ?_
  rintro k v g ⟨hg,h0,hk⟩
  simp(disch:=omega) [VY]
  refine ab (fun h3=> ?_) (fun h3=> ?_)
  ·simp(disch:=omega) [VY]
   exact⟨2 * k,n - 2 * k,by omega,⟨by omega,by omega,by rw[←hk];conv=>rhs;rw[GO,dif_pos ⟨h0,by omega⟩]⟩,by omega⟩
  ·simp(disch:=omega) [VY]
   rw[GO,dif_neg (by omega)]at hk
   rw[hk]
theorem Lk (n:Nat):∀(g k:Nat),g=n - k→0 < k→k < n→k≤GO n k∧GO n k < n:=by
 intro g
 induction g using Nat.strongRecOn with
 |ind g ih=>
 intro k hg h0 hk
 rw[GO]
 split
 ·rename_i h
  have:=ih (n - 2 * k) (by omega) (2 * k) rfl (by omega) (by omega)
  omega
 ·omega
theorem eu {n:Nat} (h:2≤n):0 < splitAt n∧splitAt n < n:=by
 rw[splitAt,if_neg (by omega)]
 have:=Lk n _ 1 rfl (by omega) (by omega)
 omega
def bj (l:List Bytes):Bytes:=match l with
 | []=>EK []
 | [x]=>EK (0::x)
 |a::b::r=>EK (1::bj ((a::b::r).take (splitAt (a::b::r).length))++bj ((a::b::r).drop (splitAt (a::b::r).length)))
termination_by l.length
decreasing_by
 all_goals
  have:=eu (n:=(a::b::r).length) (by simp)
  simp only[List.length_take,List.length_drop,List.length_cons]at *
  omega
theorem Ai (b:Bytes):(EK b).length=32:=by
 have h:=Ap (hs b ((pad b).length / 64)) 8 (by rw[tJ];omega)
 rw[List.take_of_length_le (by rw[tJ];omega)]at h
 exact h
theorem sk:bj []=EK []:=by rw[bj]
theorem sf {l:List Bytes} (h:l.length=1):bj l=EK (0::l[0]):=by
 match l,h with
 | [x],_=>rw[bj];rfl
theorem pE {l:List Bytes} (h:2≤l.length):bj l=EK (1::bj (l.take (splitAt l.length))++bj (l.drop (splitAt l.length))):=by
 match l,h with
 |a::b::r,_=>rw[bj]
theorem gg (l:List Bytes):(bj l).length=32:=by
 match l with
 | []=>rw[bj];exact Ai _
 | [x]=>rw[bj];exact Ai _
 |a::b::r=>rw[bj];exact Ai _
abbrev jX:Nat:=279
def j5:AF:=⟨1,5,[.tmp 2],(.seq (.ops [.i (.mov 2 (.c (.val false [.nils])))]) (.seq (.seq (.ops [qm 4 0,qn 5 4]) (.block 0 (.seq (.ops [.i (.bin 7 .eql (.s 5) (qi 0)),qm 6 7]) (.cond (.s 6) (.seq (.ops [.i (.call 9 130 false [(.c (.val false [.nils]))]),qm 2 8]) .ret) (.seq (.ops [.i (.bin 10 .eql (.s 5) (qi 1)),qm 9 10]) (.cond (.s 9) (.seq (.ops [qm 11 0, .i (.iad 12 (.s 11) (qi 0) 1), .i (.ldh 13 (.s 12) 1 false),qk 15 291 13,qm 2 14]) .ret) .skip)))))) (.seq (.ops [qm 15 0,qn 16 15,qk 18 292 16,qm 3 17]) (.seq (.ops [qm 18 0,qm 19 3, .i (.eV 20 1 (.s 18) none (some (.s 19))),qk 22 279 20,qm 22 0,qm 23 3, .i (.eV 24 1 (.s 22) (some (.s 23)) none),qk 26 279 24, .i (.call 27 293 false [(.s 21),(.s 25)]),qm 2 26]) .ret))))⟩
theorem vK:cd jX=some j5:=by kernel_rfl
theorem tR:∀(n:Nat) (l:List Bytes),l.length=n→l.length≤1073741824→(∀x∈l,x.length≤1073741823)→VC cd jX (aO [(false,[.sl (cX l)])]) (fun rs _=>rs= [(false,[.o true (some (5,1)) (bytes (bj l))])]):=by
 intro n
 induction n using Nat.strongRecOn with
 |ind n ih=>
 intro l hn hl hx
 refine aa vK rfl ?_
 simp(disch:=omega) [j5,ay,VY]
 refine ab (fun h1=> ?_) (fun h1=> ?_)
 ·have h2:l= []:=h1
  subst h2
  simp(disch:=omega) [VY]
  refine ah (mN [] (by simp)) rfl rfl ?_
  simp(disch:=omega) [sk,VY]
 ·have h0:0 < l.length:=List.length_pos_iff.2 h1
  simp(disch:=omega) [ay,VY]
  refine ab (fun h2=> ?_) (fun h2=> ?_)
  ·have h3:0 < l.length:=by omega
   simp(disch:=omega) [cM h3,ay,VY]
   refine ah (tl l[0] (hx _ (List.getElem_mem h3))) rfl rfl ?_
   simp(disch:=omega) [VY]
   rw[sf (by omega)]
  ·have h3:2≤l.length:=by omega
   obtain⟨k1,k2⟩:=eu h3
   simp(disch:=omega) [ay,VY]
   refine ah (kX l.length (by omega)) rfl rfl ?_
   have t1:(cX l).take (splitAt l.length)=cX (l.take (splitAt l.length)):=by simp[cX]
   have t2:(cX l).drop (splitAt l.length)=cX (l.drop (splitAt l.length)):=by simp[cX]
   have t3:((splitAt l.length:Nat):Int)≤(l.length:Int):=by omega
   have t4:splitAt l.length≤l.length:=by omega
   have t5:((l.length:Int) - (splitAt l.length:Int)).toNat=l.length - splitAt l.length:=by omega
   have t6:(cX (l.drop (splitAt l.length))).take (l.length - splitAt l.length)=cX (l.drop (splitAt l.length)):=List.take_of_length_le (by rw[ay];simp)
   simp(disch:=omega) [ay,v9,t1,t2,t3,t4,t5,t6,VY]
   refine ah (ih (splitAt l.length) (by omega) (l.take (splitAt l.length)) (by simp;omega) (by simp;omega) (fun x h=>hx x (List.mem_of_mem_take h))) rfl rfl ?_
   simp(disch:=omega) [ay,v9,t1,t2,t3,t4,t5,t6,VY]
   refine ah (ih (l.length - splitAt l.length) (by omega) (l.drop (splitAt l.length)) (by simp) (by simp;omega) (fun x h=>hx x (List.mem_of_mem_drop h))) rfl rfl ?_
   simp(disch:=omega) [VY]
   refine ah (sN (bj (l.take (splitAt l.length))) (bj (l.drop (splitAt l.length))) (by rw[gg];omega) (by rw[gg];omega)) rfl rfl ?_
   simp(disch:=omega) [VY]
   rw[pE h3]
   rfl
abbrev lb:Nat:=275
def kL:AF:=⟨1,5,[.tmp 2],(.seq (.ops [.i (.mov 2 (.c (.val false [.nils])))]) (.seq (.seq (.ops [qm 4 0,qn 5 4, .i (.bin 6 .eql (.s 5) (qi 0))]) (.cond (.s 6) (.seq (.ops [.i (.call 8 205 false [(.c (.val false [.nils]))]),qm 2 7]) .ret) .skip)) (.seq (.seq (.ops [qm 8 0,qn 9 8, .i (.bin 10 .eql (.s 9) (qi 1))]) (.cond (.s 10) (.seq (.ops [qm 11 0, .i (.iad 12 (.s 11) (qi 0) 1), .i (.ldh 13 (.s 12) 1 false),qk 15 287 13,qm 2 14]) .ret) .skip)) (.seq (.ops [qm 15 0,qn 16 15,qk 18 288 16,qm 3 17]) (.seq (.ops [qm 18 0,qm 19 3, .i (.eV 20 1 (.s 18) none (some (.s 19))),qk 22 275 20,qm 22 0,qm 23 3, .i (.eV 24 1 (.s 22) (some (.s 23)) none),qk 26 275 24, .i (.call 27 289 false [(.s 21),(.s 25)]),qm 2 26]) .ret)))))⟩
theorem vN:cd lb=some kL:=by kernel_rfl
theorem sR:∀(n:Nat) (l:List Bytes),l.length=n→l.length≤1073741824→(∀x∈l,x.length≤1073741823)→VC cd lb (aO [(false,[.sl (cX l)])]) (fun rs _=>rs= [(false,[.o true (some (5,1)) (bytes (bj l))])]):=by
 intro n
 induction n using Nat.strongRecOn with
 |ind n ih=>
 intro l hn hl hx
 refine aa vN rfl ?_
 simp(disch:=omega) [kL,ay,VY]
 refine ab (fun h1=> ?_) (fun h1=> ?_)
 ·have h2:l= []:=h1
  subst h2
  simp(disch:=omega) [VY]
  refine ah (nV [] (by simp)) rfl rfl ?_
  simp(disch:=omega) [sk,VY]
 ·have h0:0 < l.length:=List.length_pos_iff.2 h1
  simp(disch:=omega) [ay,VY]
  refine ab (fun h2=> ?_) (fun h2=> ?_)
  ·have h3:0 < l.length:=by omega
   simp(disch:=omega) [cM h3,ay,VY]
   refine ah (ti l[0] (hx _ (List.getElem_mem h3))) rfl rfl ?_
   simp(disch:=omega) [VY]
   rw[sf (by omega)]
  ·have h3:2≤l.length:=by omega
   obtain⟨k1,k2⟩:=eu h3
   simp(disch:=omega) [ay,VY]
   refine ah (kU l.length (by omega)) rfl rfl ?_
   have t1:(cX l).take (splitAt l.length)=cX (l.take (splitAt l.length)):=by simp[cX]
   have t2:(cX l).drop (splitAt l.length)=cX (l.drop (splitAt l.length)):=by simp[cX]
   have t3:((splitAt l.length:Nat):Int)≤(l.length:Int):=by omega
   have t4:splitAt l.length≤l.length:=by omega
   have t5:((l.length:Int) - (splitAt l.length:Int)).toNat=l.length - splitAt l.length:=by omega
   have t6:(cX (l.drop (splitAt l.length))).take (l.length - splitAt l.length)=cX (l.drop (splitAt l.length)):=List.take_of_length_le (by rw[ay];simp)
   simp(disch:=omega) [ay,v9,t1,t2,t3,t4,t5,t6,VY]
   refine ah (ih (splitAt l.length) (by omega) (l.take (splitAt l.length)) (by simp;omega) (by simp;omega) (fun x h=>hx x (List.mem_of_mem_take h))) rfl rfl ?_
   simp(disch:=omega) [ay,v9,t1,t2,t3,t4,t5,t6,VY]
   refine ah (ih (l.length - splitAt l.length) (by omega) (l.drop (splitAt l.length)) (by simp) (by simp;omega) (fun x h=>hx x (List.mem_of_mem_drop h))) rfl rfl ?_
   simp(disch:=omega) [VY]
   refine ah (ud (bj (l.take (splitAt l.length))) (bj (l.drop (splitAt l.length))) (by rw[gg];omega) (by rw[gg];omega)) rfl rfl ?_
   simp(disch:=omega) [VY]
   rw[pE h3]
   rfl
end Go.Eng.F
namespace Go.Eng.F
open Go.Eng.U (fZ ao TLimits cj TMsg bL)
def zC (l:aF) (t:List Bytes):Bool:=t.all fun x=>decide ((x.length:Int)≤l.tx)
theorem CM {l:aF} {t:List Bytes} (h:∀x∈t.take t.length,(x.length:Int)≤l.tx):zC l t=true:=by
 rw[List.take_length]at h
 simpa[zC]using h
theorem BQ {l:aF} {t:List Bytes} {i:Nat} (hi:i < t.length) (h:l.tx < (t[i].length:Int)):zC l t=false:=by
 simp only[zC,List.all_eq_false]
 exact⟨t[i],List.getElem_mem hi,by simp;omega⟩
def bW (l:aF) (x:Block):Bool:=b5 l x.head && decide ((x.txs.length:Int)≤l.txs) && zC l x.txs && decide (x.head.root=bj x.txs)
abbrev nF:Nat:=244
def nG:AF:=⟨2,6,[.tmp 4],(.seq (.ops [.i (.lbox 2 (.s 0)), .i (.lbox 3 (.s 1)), .i (.mov 4 (qb false))]) (.seq (.seq (.ops [qf 7 3 10,ql 8 3 7 1 false,qn 9 8, .i (.mov 10 (qi 0))]) (.block 0 (.loop [19,18,17,16,15,14,13,12,11,6] (.seq (.ops [qd 11 .lss 10 9]) (.seq (.cond (.s 11) .skip (.exit 0)) (.seq (.block 1 (.seq (.ops [.i (.iad 12 (.s 8) (.s 10) 1), .i (.ldh 13 (.s 12) 1 false),qm 6 13]) (.seq (.ops [qm 14 6,qn 15 14,qf 16 2 1,ql 17 2 16 1 false,qd 18 .gtr 15 17]) (.cond (.s 18) (.seq (.ops [.i (.mov 4 (qb false))]) .ret) .skip)))) (.ops [.i (.bin 19 .add (.s 10) (qi 1)),qm 10 19]))))))) (.seq (.ops [ql 20 2 2 5 true,qf 21 3 0,ql 22 3 21 10 true, .i (.call 24 140 false [(.s 20),(.s 22)]),qm 24 23, .g 24 true 26 (.fad 25 (.s 3) 10), .g 24 true 27 (.ldl 26 3 (.s 25) 1 false), .g 24 true 28 (.len 27 false (.s 26)), .g 24 true 29 (.fad 28 (.s 2) 2), .g 24 true 30 (.ldl 29 2 (.s 28) 1 false), .g 24 true 31 (.bin 30 .leq (.s 27) (.s 29)), .i (.pick 31 (.s 24) (.s 30) (qb false)),qm 32 31, .g 32 true 34 (.fad 33 (.s 3) 0), .g 32 true 35 (.fad 34 (.s 33) 4), .g 32 true 36 (.ldl 35 3 (.s 34) 1 false), .g 32 true 37 (.fad 36 (.s 3) 10), .g 32 true 38 (.ldl 37 3 (.s 36) 1 false), .g 32 true 39 (.call 39 279 false [(.s 37)]), .g 32 true 40 (.call 40 57 false [(.s 35),(.s 38)]), .i (.pick 40 (.s 32) (.s 39) (qb false)),qm 4 40]) .ret)))⟩
theorem wE:cd nF=some nG:=by kernel_rfl
theorem vk (l:aF) (x:Block) (hw:x.wc) (hx:∀t∈x.txs,t.length≤1073741823):VC cd nF (aO [(true,l.c),(true,x.c)]) (fun rs _=>rs=bl (bW l x)):=by
 obtain⟨⟨w1,_⟩,w2,w3⟩:=hw
 simp only[Sz]at w2
 refine aa wE rfl ?_
 simp(disch:=omega) [nG,aF.c,Block.c,Head.c,ay,VY]
 refine aP (σ:=Nat) (f1:=_) (es0:=_) (by simp(disch:=omega) [VY];rfl) (by simp(disch:=omega) [VY];rfl) (fun i=> [(10, .val false [.int .i64 i])]) (fun _=> []) (fun i g=>g+i=x.txs.length∧∀t∈x.txs.take i,(t.length:Int)≤l.tx) 0 x.txs.length (by simp(disch:=omega) [VY]) (by simp(disch:=omega) [VY]) ⟨by omega,by simp⟩ ?_
 rintro i n g ⟨hg,hi⟩
 simp(disch:=omega) [VY]
 refine ab (fun h1=> ?_) (fun h1=> ?_)
 ·have hix:i < x.txs.length:=by omega
  have w4:=hx _ (List.getElem_mem hix)
  simp(disch:=omega) [cM hix,an,VY]
  refine ab (fun h2=> ?_) (fun h2=> ?_)
  ·simp(disch:=omega) [VY]
   simp[bW,BQ hix (by omega)]
  ·simp(disch:=omega) [VY]
   exact⟨i+1,g - 1,by omega,⟨by omega,gB hi hix (by omega)⟩,by simp⟩
 ·have hl:i=x.txs.length:=by omega
  subst hl
  have ht:=CM hi
  simp(disch:=omega) [VY]
  refine ah (gQ l x.head w1) rfl rfl ?_
  simp(disch:=omega) [ay,VY]
  refine ak (fun h2=> ?_) (fun h2=> ?_) <;>simp(disch:=omega) [h2,ay,bW,VY]
  refine ab (fun h3=> ?_) (fun h3=> ?_) <;>simp(disch:=omega) [h2,h3,ht,ay,VY]
  refine ah (tR _ x.txs rfl (by omega) hx) rfl rfl ?_
  simp(disch:=omega) [h2,h3,ht,VY]
  refine aB (aT x.head.root (bj x.txs)) ?_
  simp(disch:=omega) [h2,h3,ht,VY]
abbrev mj:Nat:=234
def mi:AF:=⟨2,6,[.tmp 4],(.seq (.ops [.i (.lbox 2 (.s 0)), .i (.lbox 3 (.s 1)), .i (.mov 4 (qb false))]) (.seq (.seq (.ops [ql 7 2 2 5 true,qf 8 3 0,ql 9 3 8 10 true, .i (.call 11 118 false [(.s 7),(.s 9)]), .i (.not 11 (.s 10)),qm 12 11, .g 12 false 14 (.fad 13 (.s 3) 10), .g 12 false 15 (.ldl 14 3 (.s 13) 1 false), .g 12 false 16 (.len 15 false (.s 14)), .g 12 false 17 (.fad 16 (.s 2) 2), .g 12 false 18 (.ldl 17 2 (.s 16) 1 false), .g 12 false 19 (.bin 18 .gtr (.s 15) (.s 17)), .i (.pick 19 (.s 12) (qb true) (.s 18))]) (.cond (.s 19) (.seq (.ops [.i (.mov 4 (qb false))]) .ret) .skip)) (.seq (.seq (.ops [qf 20 3 10,ql 21 3 20 1 false,qn 22 21, .i (.mov 23 (qi 0))]) (.block 0 (.loop [32,31,30,29,28,27,26,25,24,6] (.seq (.ops [qd 24 .lss 23 22]) (.seq (.cond (.s 24) .skip (.exit 0)) (.seq (.block 1 (.seq (.ops [.i (.iad 25 (.s 21) (.s 23) 1), .i (.ldh 26 (.s 25) 1 false),qm 6 26]) (.seq (.ops [qm 27 6,qn 28 27,qf 29 2 1,ql 30 2 29 1 false,qd 31 .gtr 28 30]) (.cond (.s 31) (.seq (.ops [.i (.mov 4 (qb false))]) .ret) .skip)))) (.ops [.i (.bin 32 .add (.s 23) (qi 1)),qm 23 32]))))))) (.seq (.ops [qf 33 3 0,qf 34 33 4,ql 35 3 34 1 false,qf 36 3 10,ql 37 3 36 1 false,qk 39 275 37, .i (.call 40 143 false [(.s 35),(.s 38)]),qm 4 39]) .ret))))⟩
theorem wL:cd mj=some mi:=by kernel_rfl
theorem vc (l:aF) (x:Block) (hw:x.wc) (hx:∀t∈x.txs,t.length≤1073741823):VC cd mj (aO [(true,l.c),(true,x.c)]) (fun rs _=>rs=bl (bW l x)):=by
 obtain⟨⟨w1,_⟩,w2,w3⟩:=hw
 simp only[Sz]at w2
 refine aa wL rfl ?_
 simp(disch:=omega) [mi,aF.c,Block.c,Head.c,VY]
 refine ah (gM l x.head w1) rfl rfl ?_
 simp(disch:=omega) [ay,VY]
 refine ak (fun h2=> ?_) (fun h2=> ?_)
 case refine_2=>simp(disch:=omega) [h2,bW,VY]
 simp(disch:=omega) [h2,ay,VY]
 refine ab (fun h3=> ?_) (fun h3=> ?_)
 ·simp(disch:=omega) [h2,h3,bW,show ¬(x.txs.length:Int)≤l.txs by omega,VY]
 simp(disch:=omega) [h2,h3,ay,VY]
 refine aP (σ:=Nat) (f1:=_) (es0:=_) (by simp(disch:=omega) [VY];rfl) (by simp(disch:=omega) [VY];rfl) (fun i=> [(23, .val false [.int .i64 i])]) (fun _=> []) (fun i g=>g+i=x.txs.length∧∀t∈x.txs.take i,(t.length:Int)≤l.tx) 0 x.txs.length (by simp(disch:=omega) [VY]) (by simp(disch:=omega) [VY]) ⟨by omega,by simp⟩ ?_
 rintro i n g ⟨hg,hi⟩
 simp(disch:=omega) [VY]
 refine ab (fun h1=> ?_) (fun h1=> ?_)
 ·have hix:i < x.txs.length:=by omega
  have w4:=hx _ (List.getElem_mem hix)
  simp(disch:=omega) [cM hix,an,VY]
  refine ab (fun h4=> ?_) (fun h4=> ?_)
  ·simp(disch:=omega) [VY]
   simp[bW,BQ hix (by omega)]
  ·simp(disch:=omega) [VY]
   exact⟨i+1,g - 1,by omega,⟨by omega,gB hi hix (by omega)⟩,by simp⟩
 ·have hl:i=x.txs.length:=by omega
  subst hl
  have ht:=CM hi
  simp(disch:=omega) [VY]
  refine ah (sR _ x.txs rfl (by omega) hx) rfl rfl ?_
  simp(disch:=omega) [h2,h3,ht,VY]
  refine aB (aS x.head.root (bj x.txs)) ?_
  simp(disch:=omega) [h2,h3,ht,bW,show(x.txs.length:Int)≤l.txs by omega,VY]
theorem lZ {l:aF} {x:Block} (h:bW l x=true):x.txs.length≤8:=by
 simp only[bW,Bool.and_eq_true,decide_eq_true_eq]at h
 have h1:=h.1.1.1
 simp only[b5,Bool.and_eq_true]at h1
 have h2:=na h1.1.1.1.1.1.1
 simp only[aF.ok,Bool.and_eq_true]at h2
 have h3:=j7 h2.1.1.2
 omega
end Go.Eng.F
namespace Go.Eng.F
def aW (n:Nat):Bytes:=if n < 128 then [UInt8.ofNat n]else UInt8.ofNat (n % 128+128)::aW (n / 128)
termination_by n
decreasing_by omega
theorem vT {n:Nat} (h:n < 128):aW n= [UInt8.ofNat n]:=by rw[aW,if_pos h]
theorem A6 {n:Nat} (h:¬n < 128):aW n=UInt8.ofNat (n % 128+128)::aW (n / 128):=by rw[aW,if_neg h]
theorem CP:∀(k n:Nat),n < 128 ^ (k+1)→(aW n).length≤k+1
 |0,n,h=>by rw[vT (by simpa using h)];simp
 |k+1,n,h=>by
  by_cases h1:n < 128
  ·rw[vT h1];simp
  ·rw[A6 h1]
   have:=CP k (n / 128) (by rw[Nat.div_lt_iff_lt_mul (by omega)];rw[Nat.pow_succ]at h;exact h)
   simp only[List.length_cons];omega
theorem bP {n:Nat} (h:n≤1152921504606846975):(aW n).length≤9:=CP 8 n (by simp;omega)
theorem L4 {k:Nat} (h:k < 256):IntKind.u8.wrap (k:Int)=((UInt8.ofNat k).toNat:Int):=by
 simp only[UInt8.toNat_ofNat',IntKind.wrap,IntKind.bits,IntKind.signed]
 simp
def ia (b:Bytes) (n:Int):List (Bool×List E):=
 if isNum n then [(false,[.o true (some (5,1)) (bytes (b++aW n.toNat))]),(false,[.p (.bool true)])]else [(false,[.p .nils]),(false,[.p (.bool false)])]
theorem iR {n:Int} (h:isNum n=true):∃m:Nat,n=(m:Int)∧m≤1152921504606846975:=⟨n.toNat,by have:=j7 h;omega⟩
abbrev iy:Nat:=278
def qE:AF:=⟨2,5,[.tmp 4, .tmp 5],(.seq (.ops [.i (.mov 4 (.c (.val false [.nils]))), .i (.mov 5 (qb false))]) (.seq (.seq (.ops [qm 7 1,qk 9 213 7, .i (.not 9 (.s 8))]) (.cond (.s 9) (.seq (.ops [.i (.mov 4 (.c (.val false [.nils]))), .i (.mov 5 (qb false))]) .ret) .skip)) (.seq (.ops [qm 10 0,qk 12 60 10,qm 6 11]) (.seq (.block 0 (.loop [22,21,20,19,18,17,16,15,14,13,12] (.seq (.seq (.ops [qm 12 1, .i (.bin 13 .geq (.s 12) (qi 128))]) (.cond (.s 13) .skip (.exit 0))) (.block 1 (.seq (.ops [qm 14 6,qm 15 1, .i (.bin 16 .rem (.s 15) (qi 128)), .i (.bin 17 .add (.s 16) (qi 128)), .i (.cvi 18 .u8 (.s 17)), .i (.lsl 19 1 1 [.int .u8 0] [(0,1,(.s 18))]), .i (.app 20 5 1 1 (.s 14) (.s 19)),qm 6 20]) (.ops [qm 21 1, .i (.bin 22 .quo (.s 21) (qi 128)),qm 1 22])))))) (.seq (.ops [qm 23 6,qm 24 1, .i (.cvi 25 .u8 (.s 24)), .i (.lsl 26 1 1 [.int .u8 0] [(0,1,(.s 25))]), .i (.app 27 5 1 1 (.s 23) (.s 26)),qm 4 27, .i (.mov 5 (qb true))]) .ret)))))⟩
theorem yZ:cd iy=some qE:=by kernel_rfl
theorem yc (b:Bytes) (n:Int) (hb:b.length≤1073741824):VC cd iy (aO [(false,[.sl (bytes b)]),(false,[.int .i64 n])]) (fun rs _=>rs=ia b n):=by
 refine aa yZ rfl ?_
 simp(disch:=omega) [qE,VY]
 refine ah (eS n) rfl rfl ?_
 simp(disch:=omega) [VY]
 refine ak (fun h1=> ?_) (fun h1=> ?_)
 case refine_2=>simp(disch:=omega) [ia,h1,VY]
 simp(disch:=omega) [h1,VY]
 refine ah (aR b (by omega)) rfl rfl ?_
 obtain⟨m,rfl,hm⟩:=iR h1
 have hl:=bP hm
 simp(disch:=omega) [VY]
 refine aP (σ:=Nat×Bytes×Nat) (f1:=_) (es0:=_) (by simp(disch:=omega) [VY];rfl) (by simp(disch:=omega) [VY];rfl) (fun p=> [(1, .val false [.int .i64 (p.1:Int)]),(6, .val false [.ow 106496 p.2.2])]) (fun p=> [(106496, .sl p.2.2 true true (some (5,1)) (bytes p.2.1))])
  (fun p g=>g=p.1∧p.1≤m∧p.2.1++aW p.1=b++aW m) (m,b,_) m (by simp(disch:=omega) [VY];rfl) (by simp(disch:=omega) [VY]) ⟨rfl,Nat.le_refl _,rfl⟩ ?_
 rintro⟨k,a,v⟩ n g ⟨hg,hk,ha⟩
 simp only at hg hk ha
 have hla:a.length≤b.length+9:=by
  have:=congrArg List.length ha
  simp only[List.length_append]at this
  omega
 simp(disch:=omega) [VY]
 refine ab (fun h2=> ?_) (fun h2=> ?_)
 ·have e1:Int.tmod (k:Int) 128=(k:Int) % 128:=Int.tmod_eq_emod_of_nonneg (by omega)
  have e2:Int.tdiv (k:Int) 128=(k:Int) / 128:=Int.tdiv_eq_ediv_of_nonneg (by omega)
  have e3:IntKind.u8.wrap ((k:Int) % 128+128)=((UInt8.ofNat (k % 128+128)).toNat:Int):=by rw[←L4 (by omega)];congr 1
  have e4:bytes a++ [[.int .u8 ((UInt8.ofNat (k % 128+128)).toNat:Int)]]=bytes (a++ [UInt8.ofNat (k % 128+128)]):=by simp[bytes]
  simp(disch:=omega) [e1,e2,e3,e4,an,VY]
  refine⟨k / 128,a++ [UInt8.ofNat (k % 128+128)],_,k / 128,by omega,⟨rfl,by omega,?_⟩,⟨rfl,by omega⟩,rfl,by simp[bytes]⟩
  rw[←ha,A6 (n:=k) (by omega)]
  simp
 ·have e3:IntKind.u8.wrap (k:Int)=((UInt8.ofNat k).toNat:Int):=L4 (by omega)
  have e4:bytes a++ [[.int .u8 ((UInt8.ofNat k).toNat:Int)]]=bytes (a++ [UInt8.ofNat k]):=by simp[bytes]
  rw[vT (n:=k) (by omega)]at ha
  simp(disch:=omega) [e3,e4,an,ia,h1,VY]
  rw[←ha]
  simp[bytes]
abbrev il:Nat:=274
def pL:AF:=⟨2,5,[.tmp 4, .tmp 5],(.seq (.ops [.i (.mov 4 (.c (.val false [.nils]))), .i (.mov 5 (qb false))]) (.seq (.seq (.ops [qm 7 1,qk 9 201 7, .i (.not 9 (.s 8))]) (.cond (.s 9) (.seq (.ops [.i (.mov 4 (.c (.val false [.nils]))), .i (.mov 5 (qb false))]) .ret) .skip)) (.seq (.ops [qm 10 0,qk 12 115 10,qm 6 11]) (.seq (.block 0 (.loop [22,21,20,19,18,17,16,15,14,13,12] (.seq (.seq (.ops [qm 12 1, .i (.bin 13 .gtr (.s 12) (qi 127))]) (.cond (.s 13) .skip (.exit 0))) (.block 1 (.seq (.ops [qm 14 6,qm 15 1, .i (.bin 16 .rem (.s 15) (qi 128)), .i (.bin 17 .add (qi 128) (.s 16)), .i (.cvi 18 .u8 (.s 17)), .i (.lsl 19 1 1 [.int .u8 0] [(0,1,(.s 18))]), .i (.app 20 5 1 1 (.s 14) (.s 19)),qm 6 20]) (.ops [qm 21 1, .i (.bin 22 .quo (.s 21) (qi 128)),qm 1 22])))))) (.seq (.ops [qm 23 6,qm 24 1, .i (.cvi 25 .u8 (.s 24)), .i (.lsl 26 1 1 [.int .u8 0] [(0,1,(.s 25))]), .i (.app 27 5 1 1 (.s 23) (.s 26)),qm 4 27, .i (.mov 5 (qb true))]) .ret)))))⟩
theorem y6:cd il=some pL:=by kernel_rfl
theorem wV (b:Bytes) (n:Int) (hb:b.length≤1073741824):VC cd il (aO [(false,[.sl (bytes b)]),(false,[.int .i64 n])]) (fun rs _=>rs=ia b n):=by
 refine aa y6 rfl ?_
 simp(disch:=omega) [pL,VY]
 refine ah (eB n) rfl rfl ?_
 simp(disch:=omega) [VY]
 refine ak (fun h1=> ?_) (fun h1=> ?_)
 case refine_2=>simp(disch:=omega) [ia,h1,VY]
 simp(disch:=omega) [h1,VY]
 refine ah (cH b (by omega)) rfl rfl ?_
 obtain⟨m,rfl,hm⟩:=iR h1
 have hl:=bP hm
 simp(disch:=omega) [VY]
 refine aP (σ:=Nat×Bytes×Nat) (f1:=_) (es0:=_) (by simp(disch:=omega) [VY];rfl) (by simp(disch:=omega) [VY];rfl) (fun p=> [(1, .val false [.int .i64 (p.1:Int)]),(6, .val false [.ow 106496 p.2.2])]) (fun p=> [(106496, .sl p.2.2 true true (some (5,1)) (bytes p.2.1))])
  (fun p g=>g=p.1∧p.1≤m∧p.2.1++aW p.1=b++aW m) (m,b,_) m (by simp(disch:=omega) [VY];rfl) (by simp(disch:=omega) [VY]) ⟨rfl,Nat.le_refl _,rfl⟩ ?_
 rintro⟨k,a,v⟩ n g ⟨hg,hk,ha⟩
 simp only at hg hk ha
 have hla:a.length≤b.length+9:=by
  have:=congrArg List.length ha
  simp only[List.length_append]at this
  omega
 simp(disch:=omega) [VY]
 refine ab (fun h2=> ?_) (fun h2=> ?_)
 ·have e1:Int.tmod (k:Int) 128=(k:Int) % 128:=Int.tmod_eq_emod_of_nonneg (by omega)
  have e2:Int.tdiv (k:Int) 128=(k:Int) / 128:=Int.tdiv_eq_ediv_of_nonneg (by omega)
  have e3:IntKind.u8.wrap (128+(k:Int) % 128)=((UInt8.ofNat (k % 128+128)).toNat:Int):=by rw[←L4 (by omega)];congr 1;omega
  have e4:bytes a++ [[.int .u8 ((UInt8.ofNat (k % 128+128)).toNat:Int)]]=bytes (a++ [UInt8.ofNat (k % 128+128)]):=by simp[bytes]
  simp(disch:=omega) [e1,e2,e3,e4,an,VY]
  refine⟨k / 128,a++ [UInt8.ofNat (k % 128+128)],_,k / 128,by omega,⟨rfl,by omega,?_⟩,⟨rfl,by omega⟩,rfl,by simp[bytes]⟩
  rw[←ha,A6 (n:=k) (by omega)]
  simp
 ·have e3:IntKind.u8.wrap (k:Int)=((UInt8.ofNat k).toNat:Int):=L4 (by omega)
  have e4:bytes a++ [[.int .u8 ((UInt8.ofNat k).toNat:Int)]]=bytes (a++ [UInt8.ofNat k]):=by simp[bytes]
  rw[vT (n:=k) (by omega)]at ha
  simp(disch:=omega) [e3,e4,an,ia,h1,VY]
  rw[←ha]
  simp[bytes]
theorem fK {n:Nat} (h:n≤1152921504606846975):isNum (n:Int)=true:=by simp[isNum,eW];omega
theorem qy (b:Bytes) (n:Nat) (hn:n≤1152921504606846975) (hb:b.length≤1073741824):VC cd iy (aO [(false,[.sl (bytes b)]),(false,[.int .i64 (n:Int)])]) (fun rs _=>rs= [(false,[.o true (some (5,1)) (bytes (b++aW n))]),(false,[.p (.bool true)])]):=
 (yc b n hb).mono fun rs ps h=>by rw[h,ia,if_pos (fK hn)];rfl
theorem qo (b:Bytes) (n:Nat) (hn:n≤1152921504606846975) (hb:b.length≤1073741824):VC cd il (aO [(false,[.sl (bytes b)]),(false,[.int .i64 (n:Int)])]) (fun rs _=>rs= [(false,[.o true (some (5,1)) (bytes (b++aW n))]),(false,[.p (.bool true)])]):=
 (wV b n hb).mono fun rs ps h=>by rw[h,ia,if_pos (fK hn)];rfl
abbrev qh:Nat:=233
def pV:AF:=⟨2,4,[.tmp 4],(.seq (.ops [.i (.mov 4 (.c (.val false [.nils])))]) (.seq (.ops [qm 8 0,qm 9 1, .i (.call 11 274 false [(.s 8),(.s 9)]),qm 7 10, .i (.ext 11 (.s 7) 0), .i (.ext 12 (.s 7) 1),qm 5 11,qm 6 12]) (.seq (.ops [qm 13 5,qm 4 13]) .ret)))⟩
theorem yP:cd qh=some pV:=by kernel_rfl
theorem bu (b:Bytes) (n:Int) (hn:isNum n=true) (hb:b.length≤1073741824):VC cd qh (aO [(false,[.sl (bytes b)]),(false,[.int .i64 n])]) (fun rs _=>rs= [(false,[.o true (some (5,1)) (bytes (b++aW n.toNat))])]):=by
 obtain⟨m,rfl,hm⟩:=iR hn
 refine aa yP rfl ?_
 simp(disch:=omega) [pV,VY]
 refine ah (qo b m hm hb) rfl rfl ?_
 simp(disch:=omega) [VY]
abbrev hU:Nat:=241
def hZ:AF:=⟨2,5,[],(.ops [qm 5 0,qm 6 0, .i (.nch 7 (.s 6)),qf 8 7 0, .i (.ldh 9 (.s 8) 1 false),qm 10 1, .i (.call 12 278 false [(.s 9),(.s 10)]),qm 4 11, .i (.ext 12 (.s 4) 0), .i (.ext 13 (.s 4) 1), .i (.nch 14 (.s 5)),qf 15 14 0, .i (.sth (.s 15) (.s 12) 1)])⟩
theorem rS:cd hU=some hZ:=by kernel_rfl
theorem aK (b:Bytes) (n:Int) (hn:isNum n=true) (hb:b.length≤1073741824):VC cd hU (F4 [] 228 [.o true (some (5,1)) (bytes b)] [(false,[.int .i64 n])]) (fun r p=>r= []∧p= [.pt 228 [.o true (some (5,1)) (bytes (b++aW n.toNat))]]):=by
 obtain⟨m,rfl,hm⟩:=iR hn
 refine oF rS rfl ?_
 simp(disch:=omega) [hZ,VZ]
 refine ah (qy b m hm hb) rfl rfl ?_
 simp(disch:=omega) [VZ]
abbrev hH:Nat:=242
def ij:AF:=⟨2,4,[],(.ops [qm 4 0,qm 5 0, .i (.nch 6 (.s 5)),qf 7 6 0, .i (.ldh 8 (.s 7) 1 false),qm 9 1, .i (.app 10 5 1 1 (.s 8) (.s 9)), .i (.nch 11 (.s 4)),qf 12 11 0, .i (.sth (.s 12) (.s 10) 1)])⟩
theorem rQ:cd hH=some ij:=by kernel_rfl
theorem bU (b x:Bytes) (hx:x.length≤1073741824) (hb:b.length≤1073741824):VC cd hH (F4 [] 228 [.o true (some (5,1)) (bytes b)] [(false,[.sl (bytes x)])]) (fun r p=>r= []∧p= [.pt 228 [.o true (some (5,1)) (bytes (b++x))]]):=by
 refine oF rQ rfl ?_
 simp(disch:=omega) [ij,an,db,VZ]
def F3 (q:Qc):Bytes:=aW q.view.toNat++aW q.height.toNat++q.block++q.bits++q.tags.flatten
def eA (h:Head):Bytes:=aW h.view.toNat++aW h.height.toNat++aW h.proposer.toNat++h.parent++h.root++F3 h.qc
theorem az {n:Int} (h:isNum n=true):(aW n.toNat).length≤9:=by
 obtain⟨m,rfl,hm⟩:=iR h
 simpa using bP hm
theorem Ii {n:Int} (h:1≤n∧n≤10):I3 n≤2:=by unfold I3;split <;>omega
structure Ju (q:Qc):Prop where
 view:isNum q.view=true
 height:isNum q.height=true
 block:q.block.length=32
 bits:q.bits.length≤2
 tags:q.tags.length≤16
 tag:∀t∈q.tags,t.length=32
theorem ov {l:aF} {q:Qc} (h:gJ l q=true):Ju q:=by
 simp only[gJ,Bool.and_eq_true,decide_eq_true_eq]at h
 obtain⟨⟨⟨⟨⟨⟨h0,h1⟩,h2⟩,h3⟩,h4⟩,h5⟩,h6⟩:=h
 simp only[fR,Bool.and_eq_true,decide_eq_true_eq]at h4
 have hb:=Ii (j7 h4.1.1)
 have hl:=eH q.bits
 refine⟨h1,h2,by simpa[hash]using h3,by omega,by omega,fun t ht=> ?_⟩
 simp only[hashes,List.all_eq_true]at h6
 simpa[hash]using h6 t ht
theorem gq {l:List Bytes} (h:∀t∈l,t.length=32) {i:Nat} (hi:i≤l.length):(l.take i).flatten.length=32 * i:=by
 induction i generalizing l with
 |zero=>simp
 |succ i ih=>
  cases l with
  |nil=>simp at hi
  |cons a l=>
   simp only[List.take_succ_cons,List.flatten_cons,List.length_append]
   rw[ih (fun t ht=>h t (by simp[ht])) (by simpa using hi),h a (by simp)]
   omega
theorem oE {l:List Bytes} {i:Nat} (h:i < l.length):(l.take (i+1)).flatten=(l.take i).flatten++l[i]:=by
 rw[List.take_add_one,List.getElem?_eq_getElem h,List.flatten_append]
 simp only[Option.toList_some,List.flatten_cons,List.flatten_nil,List.append_nil]
theorem Ac {q:Qc} (h:Ju q):(F3 q).length≤600:=by
 have h1:=az h.view
 have h2:=az h.height
 have h3:=gq h.tag (Nat.le_refl _)
 rw[List.take_length]at h3
 have:=h.block
 have:=h.bits
 have:=h.tags
 simp only[F3,List.length_append]
 omega
abbrev iT:Nat:=243
def iA:AF:=⟨2,6,[],(.seq (.ops [.i (.lbox 3 (.s 1))]) (.seq (.ops [qm 6 0,qf 7 3 0,ql 8 3 7 1 false, .i (.call 10 241 false [(.s 6),(.s 8)])]) (.seq (.ops [qm 10 0,qf 11 3 1,ql 12 3 11 1 false, .i (.call 14 241 false [(.s 10),(.s 12)])]) (.seq (.ops [qm 14 0,qf 15 3 2,ql 16 3 15 1 false, .i (.call 18 242 false [(.s 14),(.s 16)])]) (.seq (.ops [qm 18 0,qf 19 3 3,ql 20 3 19 1 false, .i (.call 22 242 false [(.s 18),(.s 20)])]) (.seq (.ops [qf 22 3 4,ql 23 3 22 1 false,qn 24 23, .i (.mov 25 (qi 0))]) (.block 0 (.loop [32,31,30,29,28,27,26,5] (.seq (.ops [qd 26 .lss 25 24]) (.seq (.cond (.s 26) .skip (.exit 0)) (.seq (.block 1 (.seq (.ops [.i (.iad 27 (.s 23) (.s 25) 1), .i (.ldh 28 (.s 27) 1 false),qm 5 28]) (.ops [qm 29 0,qm 30 5, .i (.call 32 242 false [(.s 29),(.s 30)])]))) (.ops [.i (.bin 32 .add (.s 25) (qi 1)),qm 25 32]))))))))))))⟩
theorem tu:cd iT=some iA:=by kernel_rfl
theorem jJ (b:Bytes) (q:Qc) (hq:Ju q) (hb:b.length≤1000000000):VC cd iT (F4 [] 228 [.o true (some (5,1)) (bytes b)] [(true,q.c)]) (fun r p=>r= []∧p= [.pt 228 [.o true (some (5,1)) (bytes (b++F3 q))]]):=by
 have h1:=az hq.view
 have h2:=az hq.height
 have h4:=hq.block
 have h5:=hq.bits
 have h6:=hq.tags
 refine oF tu rfl ?_
 simp(disch:=omega) [iA,Qc.c,VZ]
 refine pU (aK _ q.view hq.view ?_) ?_
 ·(try simp only[List.length_append]);omega
 simp(disch:=omega) [VZ]
 refine pU (aK _ q.height hq.height ?_) ?_
 ·(try simp only[List.length_append]);omega
 simp(disch:=omega) [VZ]
 refine pU (bU _ q.block (by omega) ?_) ?_
 ·(try simp only[List.length_append]);omega
 simp(disch:=omega) [VZ]
 refine pU (bU _ q.bits (by omega) ?_) ?_
 ·(try simp only[List.length_append]);omega
 simp(disch:=omega) [ay,VZ]
 refine aP (σ:=Nat×Nat) (f1:=_) (es0:=_) (by simp(disch:=omega) [VZ];rfl) (by simp(disch:=omega) [VZ];rfl) (fun p=> [(25, .val false [.int .i64 (p.1:Int)])]) (fun p=> [(4096, .pt 0 228 [.ow 1099528404992 p.2]),(1099528404992, .sl p.2 true true (some (5,1)) (bytes (b++(aW q.view.toNat++(aW q.height.toNat++(q.block++(q.bits++(q.tags.take p.1).flatten)))))))])
  (fun p g=>g+p.1=q.tags.length) (0,14) q.tags.length (by simp(disch:=omega) [VZ]) (by simp(disch:=omega) [VZ]) (by omega) ?_
 rintro⟨i,v⟩ n g hg
 simp only at hg
 simp(disch:=omega) [VZ]
 refine ab (fun h7=> ?_) (fun h7=> ?_)
 ·have hi:i < q.tags.length:=by omega
  have hx:=hq.tag _ (List.getElem_mem hi)
  have hf:=gq hq.tag (i:=i) (by omega)
  simp(disch:=omega) [cM hi,VZ]
  refine pU (bU _ q.tags[i] (by omega) ?_) ?_
  ·(try simp only[List.length_append]);omega
  simp(disch:=omega) [VZ]
  exact⟨i+1,_,g - 1,by omega,by omega,rfl,rfl,by rw[oE hi]⟩
 ·have hi:i=q.tags.length:=by omega
  subst hi
  rw[List.take_length]
  simp(disch:=omega) [F3,VZ]
def aY (ok:Bool) (b:Bytes):List (Bool×List E):=
 if ok then [(false,[.o true (some (5,1)) (bytes b)]),(false,[.p (.bool true)])]else [(false,[.p .nils]),(false,[.p (.bool false)])]
theorem bI {ok:Bool} {b:Bytes} (h:ok=true):aY ok b= [(false,[.o true (some (5,1)) (bytes b)]),(false,[.p (.bool true)])]:=by subst h;rfl
theorem cQ {ok:Bool} {b:Bytes} (h:ok=false):aY ok b= [(false,[.p .nils]),(false,[.p (.bool false)])]:=by subst h;rfl
theorem _root_.Go.Eng.VC.re {cd:Nat→Option AF} {g:Nat} {al:List (Bool×List E)} {rs rt:List (Bool×List E)} (h:VC cd g al (fun r _=>r=rs)) (e:rs=rt):VC cd g al (fun r _=>r=rt):=by subst e;exact h
abbrev sx:Nat:=168
def ss:AF:=⟨3,6,[.tmp 6, .tmp 7],(.seq (.ops [.i (.lbox 3 (.s 0)), .i (.lbox 5 (.s 2)), .i (.mov 6 (.c (.val false [.nils]))), .i (.mov 7 (qb false))]) (.seq (.seq (.ops [ql 11 3 3 5 true,ql 12 5 5 5 true, .i (.call 14 203 false [(.s 11),(.s 12)]), .i (.not 14 (.s 13))]) (.cond (.s 14) (.seq (.ops [.i (.mov 6 (.c (.val false [.nils]))), .i (.mov 7 (qb false))]) .ret) .skip)) (.seq (.ops [qm 15 1,qf 16 5 0,ql 17 5 16 1 false, .i (.call 19 233 false [(.s 15),(.s 17)]),qf 19 5 1,ql 20 5 19 1 false, .i (.call 22 233 false [(.s 18),(.s 20)]),qf 22 5 2,ql 23 5 22 1 false, .i (.app 24 5 1 1 (.s 21) (.s 23)),qm 8 24]) (.seq (.ops [qm 25 8,qf 26 5 3,ql 27 5 26 1 false, .i (.app 28 5 1 1 (.s 25) (.s 27)),qm 8 28]) (.seq (.seq (.ops [qf 29 5 4,ql 30 5 29 1 false,qn 31 30, .i (.mov 32 (qi 0))]) (.block 0 (.loop [39,38,37,36,35,34,33,10] (.seq (.ops [qd 33 .lss 32 31]) (.seq (.cond (.s 33) .skip (.exit 0)) (.seq (.block 1 (.seq (.ops [.i (.iad 34 (.s 30) (.s 32) 1), .i (.ldh 35 (.s 34) 1 false),qm 10 35]) (.ops [qm 36 8,qm 37 10, .i (.app 38 5 1 1 (.s 36) (.s 37)),qm 8 38]))) (.ops [.i (.bin 39 .add (.s 32) (qi 1)),qm 32 39]))))))) (.seq (.ops [qm 40 8,qm 6 40, .i (.mov 7 (qb true))]) .ret))))))⟩
theorem Bg:cd sx=some ss:=by kernel_rfl
theorem fy (l:aF) (b:Bytes) (q:Qc) (hw:q.wf) (hb:b.length≤1000000000):VC cd sx (aO [(true,l.c),(false,[.sl (bytes b)]),(true,q.c)]) (fun rs _=>rs=aY (gJ l q) (b++F3 q)):=by
 refine aa Bg rfl ?_
 simp(disch:=omega) [ss,Qc.c,aF.c,VY]
 refine ah (jO l q hw) rfl rfl ?_
 simp(disch:=omega) [VY]
 refine ak (fun h0=> ?_) (fun h0=> ?_)
 case refine_2=>simp(disch:=omega) [h0,aY,VY]
 have hq:=ov h0
 have h1:=az hq.view
 have h2:=az hq.height
 have h4:=hq.block
 have h5:=hq.bits
 have h6:=hq.tags
 simp(disch:=omega) [h0,VY]
 refine ah (bu b q.view hq.view (by omega)) rfl rfl ?_
 simp(disch:=omega) [VY]
 refine ah (bu (b++aW q.view.toNat) q.height hq.height (by simp only[List.length_append];omega)) rfl rfl ?_
 simp(disch:=omega) [db,an,VY]
 have e1:List.length b+(List.length (aW q.view.toNat)+(List.length (aW q.height.toNat)+List.length q.block))≤1073741824:=by omega
 simp(disch:=omega) [db,an,ay,VY]
 refine aP (σ:=Nat×Nat) (f1:=_) (es0:=_) (by simp(disch:=omega) [VY];rfl) (by simp(disch:=omega) [VY];rfl) (fun p=> [(32, .val false [.int .i64 (p.1:Int)]),(8, .val false [.ow 188416 p.2])]) (fun p=> [(188416, .sl p.2 true true (some (5,1)) (bytes (b++(aW q.view.toNat++(aW q.height.toNat++(q.block++(q.bits++(q.tags.take p.1).flatten)))))))])
  (fun p g=>g+p.1=q.tags.length) (0,_) q.tags.length (by simp(disch:=omega) [VY];rfl) (by simp(disch:=omega) [VY]) (by omega) ?_
 rintro⟨i,v⟩ n g hg
 simp only at hg
 simp(disch:=omega) [VY]
 refine ab (fun h7=> ?_) (fun h7=> ?_)
 ·have hi:i < q.tags.length:=by omega
  have hx:=hq.tag _ (List.getElem_mem hi)
  have hf:=gq hq.tag (i:=i) (by omega)
  simp(disch:=omega) [cM hi,db,an,hf,VY]
  exact⟨i+1,_,g - 1,by omega,by omega,⟨by omega,rfl⟩,rfl,by rw[oE hi]⟩
 ·have hi:i=q.tags.length:=by omega
  subst hi
  rw[List.take_length]
  simp(disch:=omega) [F3,aY,h0,VY]
structure Aj (h:Head):Prop where
 view:isNum h.view=true
 height:isNum h.height=true
 proposer:isNum h.proposer=true
 parent:h.parent.length=32
 root:h.root.length=32
 qc:Ju h.qc
theorem tk {l:aF} {h:Head} (hk:b5 l h=true):gJ l h.qc=true:=by
 simp only[b5,Bool.and_eq_true]at hk
 exact hk.1.1.1.1.1.1
theorem dz {l:aF} {h:Head} (hk:b5 l h=true):Aj h:=by
 have hq:=tk hk
 have hn:=iD (na hq)
 simp only[b5,Bool.and_eq_true,decide_eq_true_eq]at hk
 obtain⟨⟨⟨⟨⟨⟨h0,h1⟩,h2⟩,h3⟩,h4⟩,h5⟩,h6⟩:=hk
 have h2':=j7 h2
 have h3':=j7 h3
 exact⟨h1,by simp[isNum,eW];omega,by simp[isNum,eW];omega,by simpa[hash]using h4,by simpa[hash]using h5,ov hq⟩
theorem gl {h:Head} (hs:Aj h):(eA h).length≤1000:=by
 have h1:=az hs.view
 have h2:=az hs.height
 have h3:=az hs.proposer
 have h4:=hs.parent
 have h5:=hs.root
 have h6:=Ac hs.qc
 simp only[eA,List.length_append]
 omega
abbrev gx:Nat:=216
def gK:AF:=⟨2,5,[],(.seq (.ops [.i (.lbox 3 (.s 1))]) (.seq (.ops [qm 4 0,qf 5 3 0,ql 6 3 5 1 false, .i (.call 8 241 false [(.s 4),(.s 6)])]) (.seq (.ops [qm 8 0,qf 9 3 1,ql 10 3 9 1 false, .i (.call 12 241 false [(.s 8),(.s 10)])]) (.seq (.ops [qm 12 0,qf 13 3 2,ql 14 3 13 1 false, .i (.call 16 241 false [(.s 12),(.s 14)])]) (.seq (.ops [qm 16 0,qf 17 3 3,ql 18 3 17 1 false, .i (.call 20 242 false [(.s 16),(.s 18)])]) (.seq (.ops [qm 20 0,qf 21 3 4,ql 22 3 21 1 false, .i (.call 24 242 false [(.s 20),(.s 22)])]) (.ops [qm 24 0,qf 25 3 5,ql 26 3 25 5 true, .i (.call 28 243 false [(.s 24),(.s 26)])])))))))⟩
theorem qX:cd gx=some gK:=by kernel_rfl
theorem gD (b:Bytes) (h:Head) (hs:Aj h) (hb:b.length≤900000000):VC cd gx (F4 [] 228 [.o true (some (5,1)) (bytes b)] [(true,h.c)]) (fun r p=>r= []∧p= [.pt 228 [.o true (some (5,1)) (bytes (b++eA h))]]):=by
 have h1:=az hs.view
 have h2:=az hs.height
 have h3:=az hs.proposer
 have h4:=hs.parent
 have h5:=hs.root
 refine oF qX rfl ?_
 simp(disch:=omega) [gK,Head.c,VZ]
 refine pU (aK _ h.view hs.view ?_) ?_
 ·(try simp only[List.length_append]);omega
 simp(disch:=omega) [VZ]
 refine pU (aK _ h.height hs.height ?_) ?_
 ·(try simp only[List.length_append]);omega
 simp(disch:=omega) [VZ]
 refine pU (aK _ h.proposer hs.proposer ?_) ?_
 ·(try simp only[List.length_append]);omega
 simp(disch:=omega) [VZ]
 refine pU (bU _ h.parent (by omega) ?_) ?_
 ·(try simp only[List.length_append]);omega
 simp(disch:=omega) [VZ]
 refine pU (bU _ h.root (by omega) ?_) ?_
 ·(try simp only[List.length_append]);omega
 simp(disch:=omega) [VZ]
 refine pU (jJ _ h.qc hs.qc ?_) ?_
 ·(try simp only[List.length_append]);omega
 simp(disch:=omega) [eA,VZ]
abbrev nA:Nat:=129
def nK:AF:=⟨3,5,[.tmp 6, .tmp 7],(.seq (.ops [.i (.lbox 3 (.s 0)), .i (.lbox 5 (.s 2)), .i (.mov 6 (.c (.val false [.nils]))), .i (.mov 7 (qb false))]) (.seq (.seq (.ops [ql 9 3 3 5 true,ql 10 5 5 10 true, .i (.call 12 140 false [(.s 9),(.s 10)]), .i (.not 12 (.s 11))]) (.cond (.s 12) (.seq (.ops [.i (.mov 6 (.c (.val false [.nils]))), .i (.mov 7 (qb false))]) .ret) .skip)) (.seq (.ops [qm 13 1,qk 15 60 13, .i (.bld 15 [.nils] [(0,1,(.s 14))]), .i (.hbox 16 228 (.s 15)),qm 8 16]) (.seq (.ops [qm 17 8,ql 18 5 5 10 true, .i (.call 20 216 false [(.s 17),(.s 18)])]) (.seq (.ops [qm 20 8, .i (.nch 21 (.s 20)),qf 22 21 0, .i (.ldh 23 (.s 22) 1 false),qm 6 23, .i (.mov 7 (qb true))]) .ret)))))⟩
theorem yk:cd nA=some nK:=by kernel_rfl
theorem kF (l:aF) (b:Bytes) (h:Head) (hw:h.wf) (hb:b.length≤900000000):VC cd nA (aO [(true,l.c),(false,[.sl (bytes b)]),(true,h.c)]) (fun rs _=>rs=aY (b5 l h) (b++eA h)):=by
 refine aa yk rfl ?_
 simp(disch:=omega) [nK,Head.c,aF.c,VY]
 refine ah (gQ l h hw) rfl rfl ?_
 simp(disch:=omega) [VY]
 refine ak (fun h0=> ?_) (fun h0=> ?_)
 case refine_2=>simp(disch:=omega) [h0,aY,VY]
 have hs:=dz h0
 simp(disch:=omega) [h0,VY]
 refine ah (aR b (by omega)) rfl rfl ?_
 simp(disch:=omega) [VZ]
 refine pU (gD _ h hs ?_) ?_
 ·(try simp only[List.length_append]);omega
 simp(disch:=omega) [aY,h0,VZ]
abbrev lP:Nat:=169
def lX:AF:=⟨3,6,[.tmp 6, .tmp 7],(.seq (.ops [.i (.lbox 3 (.s 0)), .i (.lbox 5 (.s 2)), .i (.mov 6 (.c (.val false [.nils]))), .i (.mov 7 (qb false))]) (.seq (.seq (.ops [ql 9 3 3 5 true,ql 10 5 5 10 true, .i (.call 12 118 false [(.s 9),(.s 10)]), .i (.not 12 (.s 11))]) (.cond (.s 12) (.seq (.ops [.i (.mov 6 (.c (.val false [.nils]))), .i (.mov 7 (qb false))]) .ret) .skip)) (.seq (.ops [qm 13 1,qf 14 5 0,ql 15 5 14 1 false, .i (.call 17 233 false [(.s 13),(.s 15)]),qf 17 5 1,ql 18 5 17 1 false, .i (.call 20 233 false [(.s 16),(.s 18)]),qf 20 5 2,ql 21 5 20 1 false, .i (.call 23 233 false [(.s 19),(.s 21)]),qm 8 22]) (.seq (.ops [qm 23 8,qf 24 5 3,ql 25 5 24 1 false, .i (.app 26 5 1 1 (.s 23) (.s 25)),qf 27 5 4,ql 28 5 27 1 false, .i (.app 29 5 1 1 (.s 26) (.s 28)),qm 8 29]) (.seq (.ops [ql 30 3 3 5 true,qm 31 8,qf 32 5 5,ql 33 5 32 5 true, .i (.call 35 168 false [(.s 30),(.s 31),(.s 33)]), .i (.ext 35 (.s 34) 0), .i (.ext 36 (.s 34) 1),qm 6 35,qm 7 36]) .ret)))))⟩
theorem xK:cd lP=some lX:=by kernel_rfl
theorem ei (l:aF) (b:Bytes) (h:Head) (hw:h.wf) (hb:b.length≤900000000):VC cd lP (aO [(true,l.c),(false,[.sl (bytes b)]),(true,h.c)]) (fun rs _=>rs=aY (b5 l h) (b++eA h)):=by
 refine aa xK rfl ?_
 simp(disch:=omega) [lX,Head.c,aF.c,VY]
 refine ah (gM l h hw) rfl rfl ?_
 simp(disch:=omega) [VY]
 refine ak (fun h0=> ?_) (fun h0=> ?_)
 case refine_2=>simp(disch:=omega) [h0,aY,VY]
 have hs:=dz h0
 have h1:=az hs.view
 have h2:=az hs.height
 have h3:=az hs.proposer
 have h4:=hs.parent
 have h5:=hs.root
 simp(disch:=omega) [h0,VY]
 refine ah (bu b h.view hs.view (by omega)) rfl rfl ?_
 simp(disch:=omega) [VY]
 refine ah (bu (b++aW h.view.toNat) h.height hs.height (by simp only[List.length_append];omega)) rfl rfl ?_
 simp(disch:=omega) [VY]
 refine ah (bu (b++(aW h.view.toNat++aW h.height.toNat)) h.proposer hs.proposer (by simp only[List.length_append];omega)) rfl rfl ?_
 simp(disch:=omega) [db,an,VY]
 refine aB ((fy l (b++(aW h.view.toNat++(aW h.height.toNat++(aW h.proposer.toNat++(h.parent++h.root))))) h.qc hw.2.2.2.2.2 (by simp only[List.length_append];omega)).re (bI (tk h0))) ?_
 simp(disch:=omega) [aY,h0,eA,VY]
def Mj (l:aF) (h:Head):Bytes:=if b5 l h then EK (72::eA h)else []
end Go.Eng.F
namespace Go.Eng.F
structure cR where
 l:aF
 heads:List Head
def cR.c (f:cR):List D:=f.l.c++ [.sl (gH f.heads)]
def cR.wf (f:cR):Prop:=oo f.heads
def cR.wc (f:cR):Prop:=Sz f.heads.length∧∀h∈f.heads,h.wc
theorem cR.wc.wf {f:cR} (h:f.wc):f.wf:=⟨h.1,fun x hx=>(h.2 x hx).1⟩
def hh (l:aF) (hs:List Head) (i:Nat):Bytes:=match hs[i]? with|some h=>Mj l h|none=> []
theorem aG:bytes []= []:=rfl
def cR.o (f:cR):List E:= [.p (.int .i64 f.l.n), .p (.int .i64 f.l.tx), .p (.int .i64 f.l.txs), .p (.int .i64 f.l.frame), .p (.int .i64 f.l.heads), .o true (some (40,10)) (gH f.heads)]
end Go.Eng.F
namespace Go.Eng.F
end Go.Eng.F
namespace Go.Eng.F
open Go.Eng.U (fZ ao TLimits vQ)
def cR.tv (f:cR):Tv:= .r [f.l.tv,vI f.heads]
theorem cR.enc (f:cR):enc vQ f.tv=f.c:=by simp only[cR.tv,oC,ew,bN,cF,aF.enc,cR.c,List.append_nil]
theorem cR.ex {v:Tv} (h:aI vQ v):∃q:cR,v=q.tv:=by
 obtain⟨vs,rfl,h⟩:=h.st
 obtain⟨v0,_,rfl,h0,h⟩:=h.step
 obtain⟨v1,_,rfl,h1,h⟩:=h.step
 obtain rfl:=h.fin
 obtain⟨n0,rfl⟩:=aF.ex h0
 obtain⟨n1,rfl⟩:=vY h1
 exact⟨⟨n0,n1⟩,rfl⟩
theorem cR.of {f:cR} (h:aI vQ f.tv) (hw:wt f.tv≤1048576):f.wc∧aI TLimits f.l.tv∧f.heads.length≤1048576:=by
 simp only[cR.tv,fA,cC]at h
 simp only[cR.tv,wt,dg]at hw
 obtain⟨h0,h1,_⟩:=h
 have h5:=Av h1 (by omega)
 have h6:f.heads.length≤wt (vI f.heads):=by unfold vI;rw[HG,List.length_map];omega
 exact⟨⟨h5.1,h5.2⟩,fA.2 (fA.1 h0),by omega⟩
theorem Az {α:Type} {f:α→Tv} {B:Nat}:∀ {l:List α},(∀x∈l,wt (f x)≤B)→dg (l.map f)≤l.length * B
 | [],_=>by simp[dg]
 |a::l,h=>by
  have h1:=h a (by simp)
  have h2:=Az (l:=l) fun x hx=>h x (by simp[hx])
  simp only[List.map_cons,dg,List.length_cons,Nat.succ_mul]
  omega
end Go.Eng.F
namespace Go.Eng.F
end Go.Eng.F
namespace Go.Eng.F
structure iw where
 skip:Int
 buf:Bytes
def iw.c (p:iw):List D:= [.int .i64 p.skip, .sl (bytes p.buf)]
end Go.Eng.F
namespace Go.Eng.F
structure eh where
 l:aF
 t:Table
 push:iw
 chain:List Head
def eh.c (x:eh):List D:= [.int .i64 x.l.n, .int .i64 x.l.tx, .int .i64 x.l.txs, .int .i64 x.l.frame, .int .i64 x.l.heads, .sl (rws x.t.rows), .int .i64 x.push.skip, .sl (bytes x.push.buf), .sl (gH x.chain)]
def eh.wc (x:eh):Prop:=x.t.wf∧x.push.buf.length≤1073741824∧Sz x.chain.length∧∀h∈x.chain,h.wc
def ht (hs:List Head) (i:Nat):Int:=match hs[i]? with|some h=>h.height|none=>0
structure oI where
 l:aF
 t:Table
 x:eh
 own:List Head
def oI.c (d:oI):List D:= [.int .i64 d.l.n, .int .i64 d.l.tx, .int .i64 d.l.txs, .int .i64 d.l.frame, .int .i64 d.l.heads, .sl (rws d.t.rows), .int .i64 d.x.l.n, .int .i64 d.x.l.tx, .int .i64 d.x.l.txs, .int .i64 d.x.l.frame, .int .i64 d.x.l.heads, .sl (rws d.x.t.rows), .int .i64 d.x.push.skip, .sl (bytes d.x.push.buf), .sl (gH d.x.chain), .sl (gH d.own)]
def oI.wc (d:oI):Prop:=d.t.wf∧d.x.wc∧Sz d.own.length∧∀h∈d.own,h.wc
end Go.Eng.F
namespace Go.Eng.F
open Go.Eng.U (fZ ao TLimits iv uP m7 Ed)
def iw.wf (p:iw):Prop:=lN p.skip∧Sz p.buf.length
def iw.tv (x:iw):Tv:= .r [.i x.skip,q9 x.buf]
theorem iw.enc (x:iw):enc uP x.tv=x.c:=by simp only[iw.tv,ew,bN,cF,dE,du,fq,ep,dw,fB,iw.c,List.cons_append,List.nil_append,List.append_assoc]
theorem iw.ex {v:Tv} (h:aI uP v):∃x:iw,v=x.tv:=by
 obtain⟨vs,rfl,h⟩:=h.st
 obtain⟨v0,_,rfl,h0,h⟩:=h.step
 obtain⟨v1,_,rfl,h1,h⟩:=h.step
 obtain rfl:=h.fin
 obtain⟨n0,rfl,_⟩:=h0.int
 obtain⟨n1,rfl⟩:=gr h1
 exact⟨⟨n0,n1⟩,rfl⟩
theorem iw.of {x:iw} (h:aI uP x.tv) (hw:wt x.tv≤1048576):x.wf:=by
 simp only[iw.tv,fA,cC]at h
 simp only[iw.tv,wt,dg]at hw
 obtain⟨h0,h1,_⟩:=h
 exact⟨dJ (ok_int.1 h0),pP (by omega)⟩
def eh.tv (x:eh):Tv:= .r [x.l.tv,x.t.tv,x.push.tv,vI x.chain]
theorem eh.enc (x:eh):enc m7 x.tv=x.c:=by simp only[eh.tv,oC,ew,bN,cF,aF.enc,Table.enc,iw.enc,eh.c,aF.c,Table.c,iw.c,List.cons_append,List.nil_append,List.append_nil]
theorem eh.ex {v:Tv} (h:aI m7 v):∃q:eh,v=q.tv:=by
 obtain⟨vs,rfl,h⟩:=h.st
 obtain⟨v0,_,rfl,h0,h⟩:=h.step
 obtain⟨v1,_,rfl,h1,h⟩:=h.step
 obtain⟨v2,_,rfl,h2,h⟩:=h.step
 obtain⟨v3,_,rfl,h3,h⟩:=h.step
 obtain rfl:=h.fin
 obtain⟨n0,rfl⟩:=aF.ex h0
 obtain⟨n1,rfl⟩:=Table.ex h1
 obtain⟨n2,rfl⟩:=iw.ex h2
 obtain⟨n3,rfl⟩:=vY h3
 exact⟨⟨n0,n1,n2,n3⟩,rfl⟩
theorem eh.of {x:eh} (h:aI m7 x.tv) (hw:wt x.tv≤1048576):x.wc:=by
 simp only[eh.tv,fA,cC]at h
 simp only[eh.tv,wt,dg]at hw
 obtain⟨h0,h1,h2,h3,_⟩:=h
 have k1:=Table.of h1 (by omega)
 have k2:=iw.of h2 (by omega)
 have k3:=Av h3 (by omega)
 exact⟨k1,k2.2,k3.1,k3.2⟩
def oI.tv (x:oI):Tv:= .r [x.l.tv,x.t.tv,x.x.tv,vI x.own]
theorem oI.enc (x:oI):enc Ed x.tv=x.c:=by simp only[oI.tv,oC,ew,bN,cF,aF.enc,Table.enc,eh.enc,oI.c,eh.c,aF.c,Table.c,List.cons_append,List.nil_append,List.append_nil]
theorem oI.ex {v:Tv} (h:aI Ed v):∃q:oI,v=q.tv:=by
 obtain⟨vs,rfl,h⟩:=h.st
 obtain⟨v0,_,rfl,h0,h⟩:=h.step
 obtain⟨v1,_,rfl,h1,h⟩:=h.step
 obtain⟨v2,_,rfl,h2,h⟩:=h.step
 obtain⟨v3,_,rfl,h3,h⟩:=h.step
 obtain rfl:=h.fin
 obtain⟨n0,rfl⟩:=aF.ex h0
 obtain⟨n1,rfl⟩:=Table.ex h1
 obtain⟨n2,rfl⟩:=eh.ex h2
 obtain⟨n3,rfl⟩:=vY h3
 exact⟨⟨n0,n1,n2,n3⟩,rfl⟩
theorem oI.of {x:oI} (h:aI Ed x.tv) (hw:wt x.tv≤1048576):x.wc:=by
 simp only[oI.tv,fA,cC]at h
 simp only[oI.tv,wt,dg]at hw
 obtain⟨h0,h1,h2,h3,_⟩:=h
 have k1:=Table.of h1 (by omega)
 have k2:=eh.of h2 (by omega)
 have k3:=Av h3 (by omega)
 exact⟨k1,k2,k3.1,k3.2⟩
end Go.Eng.F
namespace Go.Eng.F
theorem rD {b:Bytes} (h:hash b=true):b.length=32:=by simpa[hash]using h
theorem dK {n a b:Int} (h:eW n a b=true):a≤n∧n≤b:=by simpa[eW]using h
end Go.Eng.F
namespace Go.Eng.F
open Go.Eng.U (fZ ao TLimits iv uP m7)
end Go.Eng.F
namespace Go.Eng.F
open Go.Eng.U (fZ ao TLimits iv cj)
end Go.Eng.F
namespace Go.Eng.F
structure bK where
 view:Int
 height:Int
 block:Bytes
 who:Int
 tag:Bytes
def bK.c (v:bK):List D:= [.int .i64 v.view, .int .i64 v.height, .sl (bytes v.block), .int .i64 v.who, .sl (bytes v.tag)]
def bK.wf (v:bK):Prop:=lN v.view∧lN v.height∧Sz v.block.length∧lN v.who∧Sz v.tag.length
def ng (a b:bK):Bool:=decide (a.view=b.view) && decide (a.height=b.height) && decide (a.block=b.block) && decide (a.who=b.who) && decide (a.tag=b.tag)
abbrev kN:Nat:=183
def j9:AF:=⟨2,6,[.tmp 4],(.seq (.ops [.i (.lbox 2 (.s 0)), .i (.lbox 3 (.s 1)), .i (.mov 4 (qb false))]) (.seq (.ops [qf 5 2 0,ql 6 2 5 1 false,qf 7 3 0,ql 8 3 7 1 false,qd 9 .eql 6 8,qm 10 9, .g 10 true 12 (.fad 11 (.s 2) 1), .g 10 true 13 (.ldl 12 2 (.s 11) 1 false), .g 10 true 14 (.fad 13 (.s 3) 1), .g 10 true 15 (.ldl 14 3 (.s 13) 1 false), .g 10 true 16 (.bin 15 .eql (.s 12) (.s 14)), .i (.pick 16 (.s 10) (.s 15) (qb false)),qm 17 16, .g 17 true 19 (.fad 18 (.s 2) 3), .g 17 true 20 (.ldl 19 2 (.s 18) 1 false), .g 17 true 21 (.fad 20 (.s 3) 3), .g 17 true 22 (.ldl 21 3 (.s 20) 1 false), .g 17 true 23 (.bin 22 .eql (.s 19) (.s 21)), .i (.pick 23 (.s 17) (.s 22) (qb false)),qm 24 23, .g 24 true 26 (.fad 25 (.s 2) 2), .g 24 true 27 (.ldl 26 2 (.s 25) 1 false), .g 24 true 28 (.fad 27 (.s 3) 2), .g 24 true 29 (.ldl 28 3 (.s 27) 1 false), .g 24 true 30 (.call 30 57 false [(.s 26),(.s 28)]), .i (.pick 30 (.s 24) (.s 29) (qb false)),qm 31 30, .g 31 true 33 (.fad 32 (.s 2) 4), .g 31 true 34 (.ldl 33 2 (.s 32) 1 false), .g 31 true 35 (.fad 34 (.s 3) 4), .g 31 true 36 (.ldl 35 3 (.s 34) 1 false), .g 31 true 37 (.call 37 57 false [(.s 33),(.s 35)]), .i (.pick 37 (.s 31) (.s 36) (qb false)),qm 4 37]) .ret))⟩
theorem vD:cd kN=some j9:=by kernel_rfl
theorem tw (a b:bK):VC cd kN (aO [(true,a.c),(true,b.c)]) (fun rs _=>rs=bl (ng a b)):=by
 refine aa vD rfl ?_
 simp(disch:=omega) [j9,bK.c,VY]
 refine ab (fun h1=> ?_) (fun h1=> ?_) <;>simp(disch:=omega) [h1,ng,VY]
 refine ab (fun h2=> ?_) (fun h2=> ?_) <;>simp(disch:=omega) [h1,h2,VY]
 refine ab (fun h3=> ?_) (fun h3=> ?_) <;>simp(disch:=omega) [h1,h2,h3,VY]
 refine aB (aT a.block b.block) ?_
 simp(disch:=omega) [h1,h2,h3,VY]
 refine ab (fun h4=> ?_) (fun h4=> ?_) <;>simp(disch:=omega) [h1,h2,h3,h4,VY]
 refine aB (aT a.tag b.tag) ?_
 simp(disch:=omega) [h1,h2,h3,h4,VY]
abbrev k9:Nat:=153
def kB:AF:=⟨2,6,[.tmp 4],(.seq (.ops [.i (.lbox 2 (.s 0)), .i (.lbox 3 (.s 1)), .i (.mov 4 (qb false))]) (.seq (.ops [qf 5 2 0,ql 6 2 5 1 false,qf 7 3 0,ql 8 3 7 1 false,qd 9 .eql 6 8,qm 10 9, .g 10 true 12 (.fad 11 (.s 2) 1), .g 10 true 13 (.ldl 12 2 (.s 11) 1 false), .g 10 true 14 (.fad 13 (.s 3) 1), .g 10 true 15 (.ldl 14 3 (.s 13) 1 false), .g 10 true 16 (.bin 15 .eql (.s 12) (.s 14)), .i (.pick 16 (.s 10) (.s 15) (qb false)),qm 17 16, .g 17 true 19 (.fad 18 (.s 2) 2), .g 17 true 20 (.ldl 19 2 (.s 18) 1 false), .g 17 true 21 (.fad 20 (.s 3) 2), .g 17 true 22 (.ldl 21 3 (.s 20) 1 false), .g 17 true 23 (.call 23 143 false [(.s 19),(.s 21)]), .i (.pick 23 (.s 17) (.s 22) (qb false)),qm 24 23, .g 24 true 26 (.fad 25 (.s 2) 3), .g 24 true 27 (.ldl 26 2 (.s 25) 1 false), .g 24 true 28 (.fad 27 (.s 3) 3), .g 24 true 29 (.ldl 28 3 (.s 27) 1 false), .g 24 true 30 (.bin 29 .eql (.s 26) (.s 28)), .i (.pick 30 (.s 24) (.s 29) (qb false)),qm 31 30, .g 31 true 33 (.fad 32 (.s 2) 4), .g 31 true 34 (.ldl 33 2 (.s 32) 1 false), .g 31 true 35 (.fad 34 (.s 3) 4), .g 31 true 36 (.ldl 35 3 (.s 34) 1 false), .g 31 true 37 (.call 37 143 false [(.s 33),(.s 35)]), .i (.pick 37 (.s 31) (.s 36) (qb false)),qm 4 37]) .ret))⟩
theorem vJ:cd k9=some kB:=by kernel_rfl
theorem uc (a b:bK):VC cd k9 (aO [(true,a.c),(true,b.c)]) (fun rs _=>rs=bl (ng a b)):=by
 refine aa vJ rfl ?_
 simp(disch:=omega) [kB,bK.c,VY]
 refine ab (fun h1=> ?_) (fun h1=> ?_) <;>simp(disch:=omega) [h1,ng,VY]
 refine ab (fun h2=> ?_) (fun h2=> ?_) <;>simp(disch:=omega) [h1,h2,VY]
 refine aB (aS a.block b.block) ?_
 simp(disch:=omega) [h1,h2,VY]
 refine ab (fun h3=> ?_) (fun h3=> ?_) <;>simp(disch:=omega) [h1,h2,h3,VY]
 refine ab (fun h4=> ?_) (fun h4=> ?_) <;>simp(disch:=omega) [h1,h2,h3,h4,VY]
 refine aB (aS a.tag b.tag) ?_
 simp(disch:=omega) [h1,h2,h3,h4,VY]
end Go.Eng.F
namespace Go.Eng.F
theorem xy {α:Type} {a b:List α} {i:Nat} (hd:∀j,j < i→a[j]? =b[j]?) (h:a[i]? =b[i]?):∀j,j < i+1→a[j]? =b[j]? :=fun j hj=>by
 rcases Nat.lt_or_ge j i with hl|hl
 ·exact hd j hl
 ·obtain rfl:j=i:=by omega
  exact h
theorem Cg {α:Type} {a b:List α} (hl:a.length=b.length) (hd:∀j,j < b.length→a[j]? =b[j]?):a=b:=by
 apply List.ext_getElem?
 intro j
 rcases Nat.lt_or_ge j b.length with h|h
 ·exact hd j h
 ·rw[List.getElem?_eq_none_iff.2 h,List.getElem?_eq_none_iff.2 (by omega)]
abbrev kC:Nat:=139
def kJ:AF:=⟨2,5,[.tmp 4],(.seq (.ops [.i (.mov 4 (qb false))]) (.seq (.seq (.ops [qm 6 0,qn 7 6,qm 8 1,qn 9 8,qd 10 .neq 7 9]) (.cond (.s 10) (.seq (.ops [.i (.mov 4 (qb false))]) .ret) .skip)) (.seq (.seq (.ops [qm 11 0,qn 12 11, .i (.mov 13 (qi 0))]) (.block 0 (.loop [26,25,24,23,22,21,20,19,18,17,16,15,14,5] (.seq (.ops [qd 14 .lss 13 12]) (.seq (.cond (.s 14) .skip (.exit 0)) (.seq (.block 1 (.seq (.ops [qm 15 13,qm 5 15]) (.seq (.ops [qm 16 0,qm 17 5, .i (.iad 18 (.s 16) (.s 17) 1), .i (.ldh 19 (.s 18) 1 false),qm 20 1,qm 21 5, .i (.iad 22 (.s 20) (.s 21) 1), .i (.ldh 23 (.s 22) 1 false), .i (.call 25 57 false [(.s 19),(.s 23)]), .i (.not 25 (.s 24))]) (.cond (.s 25) (.seq (.ops [.i (.mov 4 (qb false))]) .ret) .skip)))) (.ops [.i (.bin 26 .add (.s 13) (qi 1)),qm 13 26]))))))) (.seq (.ops [.i (.mov 4 (qb true))]) .ret))))⟩
theorem vP:cd kC=some kJ:=by kernel_rfl
theorem fm (a b:List Bytes) (ha:Sz a.length) (hb:Sz b.length):VC cd kC (aO [(false,[.sl (cX a)]),(false,[.sl (cX b)])]) (fun rs _=>rs=bl (decide (a=b))):=by
 simp only[Sz]at ha hb
 refine aa vP rfl ?_
 simp(disch:=omega) [kJ,ay,VY]
 refine ab (fun h1=> ?_) (fun h1=> ?_)
 case refine_2=>
  have hn:¬a=b:=fun e=>h1 (by rw[e])
  simp(disch:=omega) [h1,hn,VY]
 simp(disch:=omega) [h1,ay,VY]
 refine eO (σ:=Nat) (f1:=_) (es0:=_) (by simp(disch:=omega) [VY];rfl) (by simp(disch:=omega) [VY];rfl) (fun i=> [(13, .val false [.int .i64 (i:Int)])]) (fun _=> []) (fun i g=>g+i=b.length∧∀j,j < i→a[j]? =b[j]?) 0 b.length (by simp(disch:=omega) [h1,VY]) (by simp(disch:=omega) [VY]) ⟨by omega,fun j hj=>by omega⟩ ?_
 rintro i n g ⟨hg,hd⟩ P hP
 simp(disch:=omega) [h1,VY]
 refine ab (fun h2=> ?_) (fun h2=> ?_)
 ·have hi:i < a.length:=by omega
  have hj:i < b.length:=by omega
  simp(disch:=omega) [cM hi,cM hj,VY]
  refine aB (aT a[i] b[i]) ?_
  simp(disch:=omega) [VY]
  refine ab (fun h3=> ?_) (fun h3=> ?_)
  ·simp(disch:=omega) [h3,VY]
   exact hP (i+1) (g - 1) _ _ (by omega) ⟨by omega,xy hd (by simp[hi,hj,h3])⟩ (by simp(disch:=omega) [VY]) (by simp(disch:=omega) [VY])
  ·have hn:¬a=b:=fun e=>h3 (by subst e;rfl)
   simp(disch:=omega) [h3,hn,VY]
 ·have he:a=b:=Cg (by omega) (fun j hj=>hd j (by omega))
  simp(disch:=omega) [he,VY]
abbrev la:Nat:=227
def kH:AF:=⟨2,5,[.tmp 4],(.seq (.ops [.i (.mov 4 (qb false))]) (.seq (.seq (.ops [qm 6 0,qn 7 6,qm 8 1,qn 9 8,qd 10 .neq 7 9]) (.cond (.s 10) (.seq (.ops [.i (.mov 4 (qb false))]) .ret) .skip)) (.seq (.seq (.ops [qm 11 0,qn 12 11, .i (.mov 13 (qi 0))]) (.block 0 (.loop [26,25,24,23,22,21,20,19,18,17,16,15,14,5] (.seq (.ops [qd 14 .lss 13 12]) (.seq (.cond (.s 14) .skip (.exit 0)) (.seq (.block 1 (.seq (.ops [qm 15 13,qm 5 15]) (.seq (.ops [qm 16 0,qm 17 5, .i (.iad 18 (.s 16) (.s 17) 1), .i (.ldh 19 (.s 18) 1 false),qm 20 1,qm 21 5, .i (.iad 22 (.s 20) (.s 21) 1), .i (.ldh 23 (.s 22) 1 false), .i (.call 25 143 false [(.s 19),(.s 23)]), .i (.not 25 (.s 24))]) (.cond (.s 25) (.seq (.ops [.i (.mov 4 (qb false))]) .ret) .skip)))) (.ops [.i (.bin 26 .add (.s 13) (qi 1)),qm 13 26]))))))) (.seq (.ops [.i (.mov 4 (qb true))]) .ret))))⟩
theorem vH:cd la=some kH:=by kernel_rfl
theorem fh (a b:List Bytes) (ha:Sz a.length) (hb:Sz b.length):VC cd la (aO [(false,[.sl (cX a)]),(false,[.sl (cX b)])]) (fun rs _=>rs=bl (decide (a=b))):=by
 simp only[Sz]at ha hb
 refine aa vH rfl ?_
 simp(disch:=omega) [kH,ay,VY]
 refine ab (fun h1=> ?_) (fun h1=> ?_)
 case refine_2=>
  have hn:¬a=b:=fun e=>h1 (by rw[e])
  simp(disch:=omega) [h1,hn,VY]
 simp(disch:=omega) [h1,ay,VY]
 refine eO (σ:=Nat) (f1:=_) (es0:=_) (by simp(disch:=omega) [VY];rfl) (by simp(disch:=omega) [VY];rfl) (fun i=> [(13, .val false [.int .i64 (i:Int)])]) (fun _=> []) (fun i g=>g+i=b.length∧∀j,j < i→a[j]? =b[j]?) 0 b.length (by simp(disch:=omega) [h1,VY]) (by simp(disch:=omega) [VY]) ⟨by omega,fun j hj=>by omega⟩ ?_
 rintro i n g ⟨hg,hd⟩ P hP
 simp(disch:=omega) [h1,VY]
 refine ab (fun h2=> ?_) (fun h2=> ?_)
 ·have hi:i < a.length:=by omega
  have hj:i < b.length:=by omega
  simp(disch:=omega) [cM hi,cM hj,VY]
  refine aB (aS a[i] b[i]) ?_
  simp(disch:=omega) [VY]
  refine ab (fun h3=> ?_) (fun h3=> ?_)
  ·simp(disch:=omega) [h3,VY]
   exact hP (i+1) (g - 1) _ _ (by omega) ⟨by omega,xy hd (by simp[hi,hj,h3])⟩ (by simp(disch:=omega) [VY]) (by simp(disch:=omega) [VY])
  ·have hn:¬a=b:=fun e=>h3 (by subst e;rfl)
   simp(disch:=omega) [h3,hn,VY]
 ·have he:a=b:=Cg (by omega) (fun j hj=>hd j (by omega))
  simp(disch:=omega) [he,VY]
def qZ (a b:Qc):Bool:=decide (a.view=b.view) && decide (a.height=b.height) && decide (a.block=b.block) && decide (a.bits=b.bits) && decide (a.tags=b.tags)
abbrev pT:Nat:=59
def oU:AF:=⟨2,6,[.tmp 4],(.seq (.ops [.i (.lbox 2 (.s 0)), .i (.lbox 3 (.s 1)), .i (.mov 4 (qb false))]) (.seq (.ops [qf 5 2 0,ql 6 2 5 1 false,qf 7 3 0,ql 8 3 7 1 false,qd 9 .eql 6 8,qm 10 9, .g 10 true 12 (.fad 11 (.s 2) 1), .g 10 true 13 (.ldl 12 2 (.s 11) 1 false), .g 10 true 14 (.fad 13 (.s 3) 1), .g 10 true 15 (.ldl 14 3 (.s 13) 1 false), .g 10 true 16 (.bin 15 .eql (.s 12) (.s 14)), .i (.pick 16 (.s 10) (.s 15) (qb false)),qm 17 16, .g 17 true 19 (.fad 18 (.s 2) 2), .g 17 true 20 (.ldl 19 2 (.s 18) 1 false), .g 17 true 21 (.fad 20 (.s 3) 2), .g 17 true 22 (.ldl 21 3 (.s 20) 1 false), .g 17 true 23 (.call 23 57 false [(.s 19),(.s 21)]), .i (.pick 23 (.s 17) (.s 22) (qb false)),qm 24 23, .g 24 true 26 (.fad 25 (.s 2) 3), .g 24 true 27 (.ldl 26 2 (.s 25) 1 false), .g 24 true 28 (.fad 27 (.s 3) 3), .g 24 true 29 (.ldl 28 3 (.s 27) 1 false), .g 24 true 30 (.call 30 57 false [(.s 26),(.s 28)]), .i (.pick 30 (.s 24) (.s 29) (qb false)),qm 31 30, .g 31 true 33 (.fad 32 (.s 2) 4), .g 31 true 34 (.ldl 33 2 (.s 32) 1 false), .g 31 true 35 (.fad 34 (.s 3) 4), .g 31 true 36 (.ldl 35 3 (.s 34) 1 false), .g 31 true 37 (.call 37 139 false [(.s 33),(.s 35)]), .i (.pick 37 (.s 31) (.s 36) (qb false)),qm 4 37]) .ret))⟩
theorem y5:cd pT=some oU:=by kernel_rfl
theorem gI (a b:Qc) (ha:a.wf) (hb:b.wf):VC cd pT (aO [(true,a.c),(true,b.c)]) (fun rs _=>rs=bl (qZ a b)):=by
 refine aa y5 rfl ?_
 simp(disch:=omega) [oU,Qc.c,VY]
 refine ab (fun h1=> ?_) (fun h1=> ?_) <;>simp(disch:=omega) [h1,qZ,VY]
 refine ab (fun h2=> ?_) (fun h2=> ?_) <;>simp(disch:=omega) [h1,h2,VY]
 refine aB (aT a.block b.block) ?_
 simp(disch:=omega) [h1,h2,VY]
 refine ab (fun h3=> ?_) (fun h3=> ?_) <;>simp(disch:=omega) [h1,h2,h3,VY]
 refine aB (aT a.bits b.bits) ?_
 simp(disch:=omega) [h1,h2,h3,VY]
 refine ab (fun h4=> ?_) (fun h4=> ?_) <;>simp(disch:=omega) [h1,h2,h3,h4,VY]
 refine aB (fm a.tags b.tags ha.2.2.2.2 hb.2.2.2.2) ?_
 simp(disch:=omega) [h1,h2,h3,h4,VY]
abbrev pC:Nat:=154
def pS:AF:=⟨2,6,[.tmp 4],(.seq (.ops [.i (.lbox 2 (.s 0)), .i (.lbox 3 (.s 1)), .i (.mov 4 (qb false))]) (.seq (.ops [qf 5 2 0,ql 6 2 5 1 false,qf 7 3 0,ql 8 3 7 1 false,qd 9 .eql 6 8,qm 10 9, .g 10 true 12 (.fad 11 (.s 2) 1), .g 10 true 13 (.ldl 12 2 (.s 11) 1 false), .g 10 true 14 (.fad 13 (.s 3) 1), .g 10 true 15 (.ldl 14 3 (.s 13) 1 false), .g 10 true 16 (.bin 15 .eql (.s 12) (.s 14)), .i (.pick 16 (.s 10) (.s 15) (qb false)),qm 17 16, .g 17 true 19 (.fad 18 (.s 2) 2), .g 17 true 20 (.ldl 19 2 (.s 18) 1 false), .g 17 true 21 (.fad 20 (.s 3) 2), .g 17 true 22 (.ldl 21 3 (.s 20) 1 false), .g 17 true 23 (.call 23 143 false [(.s 19),(.s 21)]), .i (.pick 23 (.s 17) (.s 22) (qb false)),qm 24 23, .g 24 true 26 (.fad 25 (.s 2) 3), .g 24 true 27 (.ldl 26 2 (.s 25) 1 false), .g 24 true 28 (.fad 27 (.s 3) 3), .g 24 true 29 (.ldl 28 3 (.s 27) 1 false), .g 24 true 30 (.call 30 143 false [(.s 26),(.s 28)]), .i (.pick 30 (.s 24) (.s 29) (qb false)),qm 31 30, .g 31 true 33 (.fad 32 (.s 2) 4), .g 31 true 34 (.ldl 33 2 (.s 32) 1 false), .g 31 true 35 (.fad 34 (.s 3) 4), .g 31 true 36 (.ldl 35 3 (.s 34) 1 false), .g 31 true 37 (.call 37 227 false [(.s 33),(.s 35)]), .i (.pick 37 (.s 31) (.s 36) (qb false)),qm 4 37]) .ret))⟩
theorem yR:cd pC=some pS:=by kernel_rfl
theorem gS (a b:Qc) (ha:a.wf) (hb:b.wf):VC cd pC (aO [(true,a.c),(true,b.c)]) (fun rs _=>rs=bl (qZ a b)):=by
 refine aa yR rfl ?_
 simp(disch:=omega) [pS,Qc.c,VY]
 refine ab (fun h1=> ?_) (fun h1=> ?_) <;>simp(disch:=omega) [h1,qZ,VY]
 refine ab (fun h2=> ?_) (fun h2=> ?_) <;>simp(disch:=omega) [h1,h2,VY]
 refine aB (aS a.block b.block) ?_
 simp(disch:=omega) [h1,h2,VY]
 refine ab (fun h3=> ?_) (fun h3=> ?_) <;>simp(disch:=omega) [h1,h2,h3,VY]
 refine aB (aS a.bits b.bits) ?_
 simp(disch:=omega) [h1,h2,h3,VY]
 refine ab (fun h4=> ?_) (fun h4=> ?_) <;>simp(disch:=omega) [h1,h2,h3,h4,VY]
 refine aB (fh a.tags b.tags ha.2.2.2.2 hb.2.2.2.2) ?_
 simp(disch:=omega) [h1,h2,h3,h4,VY]
def eI (a b:Head):Bool:=decide (a.view=b.view) && decide (a.height=b.height) && decide (a.proposer=b.proposer) && decide (a.parent=b.parent) && decide (a.root=b.root) && qZ a.qc b.qc
abbrev kI:Nat:=13
def kq:AF:=⟨2,6,[.tmp 4],(.seq (.ops [.i (.lbox 2 (.s 0)), .i (.lbox 3 (.s 1)), .i (.mov 4 (qb false))]) (.seq (.ops [qf 5 2 0,ql 6 2 5 1 false,qf 7 3 0,ql 8 3 7 1 false,qd 9 .eql 6 8,qm 10 9, .g 10 true 12 (.fad 11 (.s 2) 1), .g 10 true 13 (.ldl 12 2 (.s 11) 1 false), .g 10 true 14 (.fad 13 (.s 3) 1), .g 10 true 15 (.ldl 14 3 (.s 13) 1 false), .g 10 true 16 (.bin 15 .eql (.s 12) (.s 14)), .i (.pick 16 (.s 10) (.s 15) (qb false)),qm 17 16, .g 17 true 19 (.fad 18 (.s 2) 2), .g 17 true 20 (.ldl 19 2 (.s 18) 1 false), .g 17 true 21 (.fad 20 (.s 3) 2), .g 17 true 22 (.ldl 21 3 (.s 20) 1 false), .g 17 true 23 (.bin 22 .eql (.s 19) (.s 21)), .i (.pick 23 (.s 17) (.s 22) (qb false)),qm 24 23, .g 24 true 26 (.fad 25 (.s 2) 3), .g 24 true 27 (.ldl 26 2 (.s 25) 1 false), .g 24 true 28 (.fad 27 (.s 3) 3), .g 24 true 29 (.ldl 28 3 (.s 27) 1 false), .g 24 true 30 (.call 30 57 false [(.s 26),(.s 28)]), .i (.pick 30 (.s 24) (.s 29) (qb false)),qm 31 30, .g 31 true 33 (.fad 32 (.s 2) 4), .g 31 true 34 (.ldl 33 2 (.s 32) 1 false), .g 31 true 35 (.fad 34 (.s 3) 4), .g 31 true 36 (.ldl 35 3 (.s 34) 1 false), .g 31 true 37 (.call 37 57 false [(.s 33),(.s 35)]), .i (.pick 37 (.s 31) (.s 36) (qb false)),qm 38 37, .g 38 true 40 (.fad 39 (.s 2) 5), .g 38 true 41 (.ldl 40 2 (.s 39) 5 true), .g 38 true 42 (.fad 41 (.s 3) 5), .g 38 true 43 (.ldl 42 3 (.s 41) 5 true), .g 38 true 44 (.call 44 59 false [(.s 40),(.s 42)]), .i (.pick 44 (.s 38) (.s 43) (qb false)),qm 4 44]) .ret))⟩
theorem vF:cd kI=some kq:=by kernel_rfl
theorem eZ (a b:Head) (ha:a.wf) (hb:b.wf):VC cd kI (aO [(true,a.c),(true,b.c)]) (fun rs _=>rs=bl (eI a b)):=by
 refine aa vF rfl ?_
 simp(disch:=omega) [kq,Head.c,VY]
 refine ab (fun h1=> ?_) (fun h1=> ?_) <;>simp(disch:=omega) [h1,eI,VY]
 refine ab (fun h2=> ?_) (fun h2=> ?_) <;>simp(disch:=omega) [h1,h2,VY]
 refine ab (fun h3=> ?_) (fun h3=> ?_) <;>simp(disch:=omega) [h1,h2,h3,VY]
 refine aB (aT a.parent b.parent) ?_
 simp(disch:=omega) [h1,h2,h3,VY]
 refine ab (fun h4=> ?_) (fun h4=> ?_) <;>simp(disch:=omega) [h1,h2,h3,h4,VY]
 refine aB (aT a.root b.root) ?_
 simp(disch:=omega) [h1,h2,h3,h4,VY]
 refine ab (fun h5=> ?_) (fun h5=> ?_) <;>simp(disch:=omega) [h1,h2,h3,h4,h5,VY]
 refine aB (gI a.qc b.qc ha.2.2.2.2.2 hb.2.2.2.2.2) ?_ (ha:=by first|rfl|(simp[Qc.c,VY] <;>repeat' constructor))
 simp(disch:=omega) [h1,h2,h3,h4,h5,VY]
abbrev kQ:Nat:=155
def j1:AF:=⟨2,6,[.tmp 4],(.seq (.ops [.i (.lbox 2 (.s 0)), .i (.lbox 3 (.s 1)), .i (.mov 4 (qb false))]) (.seq (.ops [qf 5 2 0,ql 6 2 5 1 false,qf 7 3 0,ql 8 3 7 1 false,qd 9 .eql 6 8,qm 10 9, .g 10 true 12 (.fad 11 (.s 2) 1), .g 10 true 13 (.ldl 12 2 (.s 11) 1 false), .g 10 true 14 (.fad 13 (.s 3) 1), .g 10 true 15 (.ldl 14 3 (.s 13) 1 false), .g 10 true 16 (.bin 15 .eql (.s 12) (.s 14)), .i (.pick 16 (.s 10) (.s 15) (qb false)),qm 17 16, .g 17 true 19 (.fad 18 (.s 2) 2), .g 17 true 20 (.ldl 19 2 (.s 18) 1 false), .g 17 true 21 (.fad 20 (.s 3) 2), .g 17 true 22 (.ldl 21 3 (.s 20) 1 false), .g 17 true 23 (.bin 22 .eql (.s 19) (.s 21)), .i (.pick 23 (.s 17) (.s 22) (qb false)),qm 24 23, .g 24 true 26 (.fad 25 (.s 2) 3), .g 24 true 27 (.ldl 26 2 (.s 25) 1 false), .g 24 true 28 (.fad 27 (.s 3) 3), .g 24 true 29 (.ldl 28 3 (.s 27) 1 false), .g 24 true 30 (.call 30 143 false [(.s 26),(.s 28)]), .i (.pick 30 (.s 24) (.s 29) (qb false)),qm 31 30, .g 31 true 33 (.fad 32 (.s 2) 4), .g 31 true 34 (.ldl 33 2 (.s 32) 1 false), .g 31 true 35 (.fad 34 (.s 3) 4), .g 31 true 36 (.ldl 35 3 (.s 34) 1 false), .g 31 true 37 (.call 37 143 false [(.s 33),(.s 35)]), .i (.pick 37 (.s 31) (.s 36) (qb false)),qm 38 37, .g 38 true 40 (.fad 39 (.s 2) 5), .g 38 true 41 (.ldl 40 2 (.s 39) 5 true), .g 38 true 42 (.fad 41 (.s 3) 5), .g 38 true 43 (.ldl 42 3 (.s 41) 5 true), .g 38 true 44 (.call 44 154 false [(.s 40),(.s 42)]), .i (.pick 44 (.s 38) (.s 43) (qb false)),qm 4 44]) .ret))⟩
theorem uU:cd kQ=some j1:=by kernel_rfl
theorem fb (a b:Head) (ha:a.wf) (hb:b.wf):VC cd kQ (aO [(true,a.c),(true,b.c)]) (fun rs _=>rs=bl (eI a b)):=by
 refine aa uU rfl ?_
 simp(disch:=omega) [j1,Head.c,VY]
 refine ab (fun h1=> ?_) (fun h1=> ?_) <;>simp(disch:=omega) [h1,eI,VY]
 refine ab (fun h2=> ?_) (fun h2=> ?_) <;>simp(disch:=omega) [h1,h2,VY]
 refine ab (fun h3=> ?_) (fun h3=> ?_) <;>simp(disch:=omega) [h1,h2,h3,VY]
 refine aB (aS a.parent b.parent) ?_
 simp(disch:=omega) [h1,h2,h3,VY]
 refine ab (fun h4=> ?_) (fun h4=> ?_) <;>simp(disch:=omega) [h1,h2,h3,h4,VY]
 refine aB (aS a.root b.root) ?_
 simp(disch:=omega) [h1,h2,h3,h4,VY]
 refine ab (fun h5=> ?_) (fun h5=> ?_) <;>simp(disch:=omega) [h1,h2,h3,h4,h5,VY]
 refine aB (gS a.qc b.qc ha.2.2.2.2.2 hb.2.2.2.2.2) ?_ (ha:=by first|rfl|(simp[Qc.c,VY] <;>repeat' constructor))
 simp(disch:=omega) [h1,h2,h3,h4,h5,VY]
def iH (a b:Block):Bool:=eI a.head b.head && decide (a.txs=b.txs)
abbrev iV:Nat:=184
def iM:AF:=⟨2,5,[.tmp 4],(.seq (.ops [.i (.lbox 2 (.s 0)), .i (.lbox 3 (.s 1)), .i (.mov 4 (qb false))]) (.seq (.ops [qf 5 2 0,ql 6 2 5 10 true,qf 7 3 0,ql 8 3 7 10 true, .i (.call 10 13 false [(.s 6),(.s 8)]),qm 10 9, .g 10 true 12 (.fad 11 (.s 2) 10), .g 10 true 13 (.ldl 12 2 (.s 11) 1 false), .g 10 true 14 (.fad 13 (.s 3) 10), .g 10 true 15 (.ldl 14 3 (.s 13) 1 false), .g 10 true 16 (.call 16 139 false [(.s 12),(.s 14)]), .i (.pick 16 (.s 10) (.s 15) (qb false)),qm 4 16]) .ret))⟩
theorem tt:cd iV=some iM:=by kernel_rfl
theorem rl (a b:Block) (ha:a.wc) (hb:b.wc):VC cd iV (aO [(true,a.c),(true,b.c)]) (fun rs _=>rs=bl (iH a b)):=by
 refine aa tt rfl ?_
 simp(disch:=omega) [iM,Block.c,Head.c,VY]
 refine aB (eZ a.head b.head ha.1.1 hb.1.1) ?_ (ha:=by first|rfl|(simp[Head.c,VY] <;>repeat' constructor))
 simp(disch:=omega) [VY]
 refine ak (fun h1=> ?_) (fun h1=> ?_) <;>simp(disch:=omega) [h1,iH,VY]
 refine aB (fm a.txs b.txs ha.2.1 hb.2.1) ?_
 simp(disch:=omega) [h1,VY]
abbrev iQ:Nat:=156
def iB:AF:=⟨2,5,[.tmp 4],(.seq (.ops [.i (.lbox 2 (.s 0)), .i (.lbox 3 (.s 1)), .i (.mov 4 (qb false))]) (.seq (.ops [qf 5 2 0,ql 6 2 5 10 true,qf 7 3 0,ql 8 3 7 10 true, .i (.call 10 155 false [(.s 6),(.s 8)]),qm 10 9, .g 10 true 12 (.fad 11 (.s 2) 10), .g 10 true 13 (.ldl 12 2 (.s 11) 1 false), .g 10 true 14 (.fad 13 (.s 3) 10), .g 10 true 15 (.ldl 14 3 (.s 13) 1 false), .g 10 true 16 (.call 16 227 false [(.s 12),(.s 14)]), .i (.pick 16 (.s 10) (.s 15) (qb false)),qm 4 16]) .ret))⟩
theorem tz:cd iQ=some iB:=by kernel_rfl
theorem rG (a b:Block) (ha:a.wc) (hb:b.wc):VC cd iQ (aO [(true,a.c),(true,b.c)]) (fun rs _=>rs=bl (iH a b)):=by
 refine aa tz rfl ?_
 simp(disch:=omega) [iB,Block.c,Head.c,VY]
 refine aB (fb a.head b.head ha.1.1 hb.1.1) ?_ (ha:=by first|rfl|(simp[Head.c,VY] <;>repeat' constructor))
 simp(disch:=omega) [VY]
 refine ak (fun h1=> ?_) (fun h1=> ?_) <;>simp(disch:=omega) [h1,iH,VY]
 refine aB (fh a.txs b.txs ha.2.1 hb.2.1) ?_
 simp(disch:=omega) [h1,VY]
structure bp where
 height:Int
 n:Int
 idx:Int
 tx:Bytes
 path:List Bytes
def bp.c (x:bp):List D:= [.int .i64 x.height, .int .i64 x.n, .int .i64 x.idx, .sl (bytes x.tx), .sl (cX x.path)]
def bp.wc (x:bp):Prop:=lN x.height∧lN x.n∧lN x.idx∧Sz x.tx.length∧zo x.path
def bp.o (x:bp):List E:= [.p (.int .i64 x.height), .p (.int .i64 x.n), .p (.int .i64 x.idx), .o true (some (5,1)) (bytes x.tx), .o true (some (22,1)) (cX x.path)]
def lY (a b:bp):Bool:=decide (a.height=b.height) && decide (a.n=b.n) && decide (a.idx=b.idx) && decide (a.tx=b.tx) && decide (a.path=b.path)
abbrev ks:Nat:=187
def j3:AF:=⟨2,6,[.tmp 4],(.seq (.ops [.i (.lbox 2 (.s 0)), .i (.lbox 3 (.s 1)), .i (.mov 4 (qb false))]) (.seq (.ops [qf 5 2 0,ql 6 2 5 1 false,qf 7 3 0,ql 8 3 7 1 false,qd 9 .eql 6 8,qm 10 9, .g 10 true 12 (.fad 11 (.s 2) 1), .g 10 true 13 (.ldl 12 2 (.s 11) 1 false), .g 10 true 14 (.fad 13 (.s 3) 1), .g 10 true 15 (.ldl 14 3 (.s 13) 1 false), .g 10 true 16 (.bin 15 .eql (.s 12) (.s 14)), .i (.pick 16 (.s 10) (.s 15) (qb false)),qm 17 16, .g 17 true 19 (.fad 18 (.s 2) 2), .g 17 true 20 (.ldl 19 2 (.s 18) 1 false), .g 17 true 21 (.fad 20 (.s 3) 2), .g 17 true 22 (.ldl 21 3 (.s 20) 1 false), .g 17 true 23 (.bin 22 .eql (.s 19) (.s 21)), .i (.pick 23 (.s 17) (.s 22) (qb false)),qm 24 23, .g 24 true 26 (.fad 25 (.s 2) 3), .g 24 true 27 (.ldl 26 2 (.s 25) 1 false), .g 24 true 28 (.fad 27 (.s 3) 3), .g 24 true 29 (.ldl 28 3 (.s 27) 1 false), .g 24 true 30 (.call 30 57 false [(.s 26),(.s 28)]), .i (.pick 30 (.s 24) (.s 29) (qb false)),qm 31 30, .g 31 true 33 (.fad 32 (.s 2) 4), .g 31 true 34 (.ldl 33 2 (.s 32) 1 false), .g 31 true 35 (.fad 34 (.s 3) 4), .g 31 true 36 (.ldl 35 3 (.s 34) 1 false), .g 31 true 37 (.call 37 139 false [(.s 33),(.s 35)]), .i (.pick 37 (.s 31) (.s 36) (qb false)),qm 4 37]) .ret))⟩
theorem vz:cd ks=some j3:=by kernel_rfl
theorem tI (a b:bp) (ha:a.wc) (hb:b.wc):VC cd ks (aO [(true,a.c),(true,b.c)]) (fun rs _=>rs=bl (lY a b)):=by
 refine aa vz rfl ?_
 simp(disch:=omega) [j3,bp.c,VY]
 refine ab (fun h1=> ?_) (fun h1=> ?_) <;>simp(disch:=omega) [h1,lY,VY]
 refine ab (fun h2=> ?_) (fun h2=> ?_) <;>simp(disch:=omega) [h1,h2,VY]
 refine ab (fun h3=> ?_) (fun h3=> ?_) <;>simp(disch:=omega) [h1,h2,h3,VY]
 refine aB (aT a.tx b.tx) ?_
 simp(disch:=omega) [h1,h2,h3,VY]
 refine ab (fun h4=> ?_) (fun h4=> ?_) <;>simp(disch:=omega) [h1,h2,h3,h4,VY]
 refine aB (fm a.path b.path ha.2.2.2.2.1 hb.2.2.2.2.1) ?_
 simp(disch:=omega) [h1,h2,h3,h4,VY]
abbrev ll:Nat:=159
def kc:AF:=⟨2,6,[.tmp 4],(.seq (.ops [.i (.lbox 2 (.s 0)), .i (.lbox 3 (.s 1)), .i (.mov 4 (qb false))]) (.seq (.ops [qf 5 2 0,ql 6 2 5 1 false,qf 7 3 0,ql 8 3 7 1 false,qd 9 .eql 6 8,qm 10 9, .g 10 true 12 (.fad 11 (.s 2) 1), .g 10 true 13 (.ldl 12 2 (.s 11) 1 false), .g 10 true 14 (.fad 13 (.s 3) 1), .g 10 true 15 (.ldl 14 3 (.s 13) 1 false), .g 10 true 16 (.bin 15 .eql (.s 12) (.s 14)), .i (.pick 16 (.s 10) (.s 15) (qb false)),qm 17 16, .g 17 true 19 (.fad 18 (.s 2) 2), .g 17 true 20 (.ldl 19 2 (.s 18) 1 false), .g 17 true 21 (.fad 20 (.s 3) 2), .g 17 true 22 (.ldl 21 3 (.s 20) 1 false), .g 17 true 23 (.bin 22 .eql (.s 19) (.s 21)), .i (.pick 23 (.s 17) (.s 22) (qb false)),qm 24 23, .g 24 true 26 (.fad 25 (.s 2) 3), .g 24 true 27 (.ldl 26 2 (.s 25) 1 false), .g 24 true 28 (.fad 27 (.s 3) 3), .g 24 true 29 (.ldl 28 3 (.s 27) 1 false), .g 24 true 30 (.call 30 143 false [(.s 26),(.s 28)]), .i (.pick 30 (.s 24) (.s 29) (qb false)),qm 31 30, .g 31 true 33 (.fad 32 (.s 2) 4), .g 31 true 34 (.ldl 33 2 (.s 32) 1 false), .g 31 true 35 (.fad 34 (.s 3) 4), .g 31 true 36 (.ldl 35 3 (.s 34) 1 false), .g 31 true 37 (.call 37 227 false [(.s 33),(.s 35)]), .i (.pick 37 (.s 31) (.s 36) (qb false)),qm 4 37]) .ret))⟩
theorem ve:cd ll=some kc:=by kernel_rfl
theorem tN (a b:bp) (ha:a.wc) (hb:b.wc):VC cd ll (aO [(true,a.c),(true,b.c)]) (fun rs _=>rs=bl (lY a b)):=by
 refine aa ve rfl ?_
 simp(disch:=omega) [kc,bp.c,VY]
 refine ab (fun h1=> ?_) (fun h1=> ?_) <;>simp(disch:=omega) [h1,lY,VY]
 refine ab (fun h2=> ?_) (fun h2=> ?_) <;>simp(disch:=omega) [h1,h2,VY]
 refine ab (fun h3=> ?_) (fun h3=> ?_) <;>simp(disch:=omega) [h1,h2,h3,VY]
 refine aB (aS a.tx b.tx) ?_
 simp(disch:=omega) [h1,h2,h3,VY]
 refine ab (fun h4=> ?_) (fun h4=> ?_) <;>simp(disch:=omega) [h1,h2,h3,h4,VY]
 refine aB (fh a.path b.path ha.2.2.2.2.1 hb.2.2.2.2.1) ?_
 simp(disch:=omega) [h1,h2,h3,h4,VY]
abbrev gC:Nat:=253
def gT:AF:=⟨1,5,[.cell 2 5 true],(.seq (.ops [.i (.lbox 1 (.s 0)), .i (.lal 2 [.int .i64 0, .int .i64 0, .int .i64 0, .nils, .nils])]) (.seq (.ops [qf 3 1 0,ql 4 1 3 1 false,qf 5 1 1,ql 6 1 5 1 false,qf 7 1 2,ql 8 1 7 1 false,qf 9 1 3,ql 10 1 9 1 false,qk 12 60 10,qf 12 1 4,ql 13 1 12 1 false,qk 15 220 13, .i (.bld 15 [.int .i64 0, .int .i64 0, .int .i64 0, .nils, .nils] [(0,1,(.s 4)),(1,1,(.s 6)),(2,1,(.s 8)),(3,1,(.s 11)),(4,1,(.s 14))]),qs 2 2 15 5]) .ret))⟩
theorem qK:cd gC=some gT:=by kernel_rfl
theorem xp (x:bp) (hw:x.wc):VC cd gC (aO [(true,x.c)]) (fun rs _=>rs= [(true,x.o)]):=by
 have w:=hw.2.2.2.1
 simp only[Sz]at w
 refine aa qK rfl ?_
 simp(disch:=omega) [gT,bp.c,VY]
 refine aB (aR x.tx (by omega)) ?_
 simp(disch:=omega) [VY]
 refine aB (ni x.path hw.2.2.2.2) ?_
 simp(disch:=omega) [bp.o,VY]
abbrev mh:Nat:=231
def mH:AF:=⟨1,5,[.cell 2 5 true],(.seq (.ops [.i (.lbox 1 (.s 0)), .i (.lal 2 [.int .i64 0, .int .i64 0, .int .i64 0, .nils, .nils])]) (.seq (.ops [qf 3 1 0,ql 4 1 3 1 false,qf 5 1 1,ql 6 1 5 1 false,qf 7 1 2,ql 8 1 7 1 false,qf 9 1 3,ql 10 1 9 1 false,qk 12 115 10,qf 12 1 4,ql 13 1 12 1 false,qk 15 225 13, .i (.bld 15 [.int .i64 0, .int .i64 0, .int .i64 0, .nils, .nils] [(0,1,(.s 4)),(1,1,(.s 6)),(2,1,(.s 8)),(3,1,(.s 11)),(4,1,(.s 14))]),qs 2 2 15 5]) .ret))⟩
theorem xo:cd mh=some mH:=by kernel_rfl
theorem Eb (x:bp) (hw:x.wc):VC cd mh (aO [(true,x.c)]) (fun rs _=>rs= [(true,x.o)]):=by
 have w:=hw.2.2.2.1
 simp only[Sz]at w
 refine aa xo rfl ?_
 simp(disch:=omega) [mH,bp.c,VY]
 refine aB (cH x.tx (by omega)) ?_
 simp(disch:=omega) [VY]
 refine aB (qU x.path hw.2.2.2.2) ?_
 simp(disch:=omega) [bp.o,VY]
def c9 {α:Type} (f:α→α→Bool) (a b:List α):Bool:=decide (a.length=b.length) && (List.range b.length).all fun i=>match a[i]?,b[i]? with|some x,some y=>f x y|_,_=>false
theorem ie {α:Type} {f:α→α→Bool} {a b:List α} (h:¬a.length=b.length):c9 f a b=false:=by unfold c9;rw[decide_eq_false h];rfl
theorem fk {α:Type} {f:α→α→Bool} {a b:List α} {i:Nat} (hi:i < a.length) (hj:i < b.length) (h:f a[i] b[i]=false):c9 f a b=false:=by
 unfold c9
 rw[Bool.and_eq_false_iff]
 right
 rw[List.all_eq_false]
 exact⟨i,by simp[hj],by simp[hi,hj,h]⟩
theorem hX {α:Type} {f:α→α→Bool} {a b:List α} (hl:a.length=b.length) (h:∀i,i < b.length→(hi:i < a.length)→(hj:i < b.length)→f a[i] b[i]=true):c9 f a b=true:=by
 unfold c9
 rw[Bool.and_eq_true,List.all_eq_true]
 refine⟨by simp[hl],fun i hi=> ?_⟩
 have hj:i < b.length:=by simpa using hi
 have hi2:i < a.length:=by omega
 simp[hi2,hj,h i hj hi2 hj]
theorem rL {α:Type} {f:α→α→Bool} {a b:List α} {i:Nat} (hd:∀j,j < i→(hi:j < a.length)→(hj:j < b.length)→f a[j] b[j]=true) {hi:i < a.length} {hj:i < b.length} (h:f a[i] b[i]=true):∀j,j < i+1→(hi:j < a.length)→(hj:j < b.length)→f a[j] b[j]=true:=fun j h2 hx hy=>by
 rcases Nat.lt_or_ge j i with hl|hl
 ·exact hd j hl hx hy
 ·obtain rfl:j=i:=by omega
  exact h
def eC (a b:List Head):Bool:=c9 eI a b
def fj (a b:Proof):Bool:=eC a.heads b.heads && qZ a.qc b.qc
abbrev iK:Nat:=249
def i6:AF:=⟨2,5,[.tmp 4],(.seq (.ops [.i (.mov 4 (qb false))]) (.seq (.seq (.ops [qm 6 0,qn 7 6,qm 8 1,qn 9 8,qd 10 .neq 7 9]) (.cond (.s 10) (.seq (.ops [.i (.mov 4 (qb false))]) .ret) .skip)) (.seq (.seq (.ops [qm 11 0,qn 12 11, .i (.mov 13 (qi 0))]) (.block 0 (.loop [26,25,24,23,22,21,20,19,18,17,16,15,14,5] (.seq (.ops [qd 14 .lss 13 12]) (.seq (.cond (.s 14) .skip (.exit 0)) (.seq (.block 1 (.seq (.ops [qm 15 13,qm 5 15]) (.seq (.ops [qm 16 0,qm 17 5, .i (.iad 18 (.s 16) (.s 17) 10), .i (.ldh 19 (.s 18) 10 true),qm 20 1,qm 21 5, .i (.iad 22 (.s 20) (.s 21) 10), .i (.ldh 23 (.s 22) 10 true), .i (.call 25 13 false [(.s 19),(.s 23)]), .i (.not 25 (.s 24))]) (.cond (.s 25) (.seq (.ops [.i (.mov 4 (qb false))]) .ret) .skip)))) (.ops [.i (.bin 26 .add (.s 13) (qi 1)),qm 13 26]))))))) (.seq (.ops [.i (.mov 4 (qb true))]) .ret))))⟩
theorem tE:cd iK=some i6:=by kernel_rfl
theorem rB (a b:List Head) (ha:oo a) (hb:oo b):VC cd iK (aO [(false,[.sl (gH a)]),(false,[.sl (gH b)])]) (fun rs _=>rs=bl (eC a b)):=by
 obtain⟨w1,w2⟩:=ha
 obtain⟨w3,w4⟩:=hb
 simp only[Sz]at w1 w3
 refine aa tE rfl ?_
 simp(disch:=omega) [i6,ct,VY]
 refine ab (fun h1=> ?_) (fun h1=> ?_)
 case refine_2=>
  have hn:eC a b=false:=ie (fun e=>h1 (by omega))
  simp(disch:=omega) [h1,hn,VY]
 simp(disch:=omega) [h1,ct,VY]
 refine eO (σ:=Nat) (f1:=_) (es0:=_) (by simp(disch:=omega) [VY];rfl) (by simp(disch:=omega) [VY];rfl) (fun i=> [(13, .val false [.int .i64 (i:Int)])]) (fun _=> []) (fun i g=>g+i=b.length∧∀j,j < i→(hi:j < a.length)→(hj:j < b.length)→eI a[j] b[j]=true) 0 b.length (by simp(disch:=omega) [h1,VY]) (by simp(disch:=omega) [VY]) ⟨by omega,fun j hj=>by omega⟩ ?_
 rintro i n g ⟨hg,hd⟩ P hP
 simp(disch:=omega) [h1,VY]
 refine ab (fun h2=> ?_) (fun h2=> ?_)
 ·have hi:i < a.length:=by omega
  have hj:i < b.length:=by omega
  simp(disch:=omega) [ek hi,ek hj,Head.c,VY]
  refine aB (eZ a[i] b[i] (w2 _ (List.getElem_mem hi)) (w4 _ (List.getElem_mem hj))) ?_ (ha:=by first|rfl|(simp[Head.c,VY] <;>repeat' constructor))
  simp(disch:=omega) [VY]
  refine ak (fun h3=> ?_) (fun h3=> ?_)
  ·simp(disch:=omega) [h3,VY]
   exact hP (i+1) (g - 1) _ _ (by omega) ⟨by omega,rL hd h3⟩ (by simp(disch:=omega) [VY]) (by simp(disch:=omega) [VY])
  ·simp(disch:=omega) [h3,show eC a b=false from fk hi hj h3,VY]
 ·have he:eC a b=true:=hX (by omega) (fun i h hi hj=>hd i (by omega) hi hj)
  simp(disch:=omega) [he,VY]
abbrev i5:Nat:=186
def jb:AF:=⟨2,5,[.tmp 4],(.seq (.ops [.i (.lbox 2 (.s 0)), .i (.lbox 3 (.s 1)), .i (.mov 4 (qb false))]) (.seq (.ops [qf 5 2 0,ql 6 2 5 1 false,qf 7 3 0,ql 8 3 7 1 false, .i (.call 10 249 false [(.s 6),(.s 8)]),qm 10 9, .g 10 true 12 (.fad 11 (.s 2) 1), .g 10 true 13 (.ldl 12 2 (.s 11) 5 true), .g 10 true 14 (.fad 13 (.s 3) 1), .g 10 true 15 (.ldl 14 3 (.s 13) 5 true), .g 10 true 16 (.call 16 59 false [(.s 12),(.s 14)]), .i (.pick 16 (.s 10) (.s 15) (qb false)),qm 4 16]) .ret))⟩
theorem tH:cd i5=some jb:=by kernel_rfl
theorem sj (a b:Proof) (ha:a.wf) (hb:b.wf):VC cd i5 (aO [(true,a.c),(true,b.c)]) (fun rs _=>rs=bl (fj a b)):=by
 refine aa tH rfl ?_
 simp(disch:=omega) [jb,Proof.c,VY]
 refine aB (rB a.heads b.heads ha.1 hb.1) ?_
 simp(disch:=omega) [VY]
 refine ak (fun h1=> ?_) (fun h1=> ?_) <;>simp(disch:=omega) [h1,fj,VY]
 refine aB (gI a.qc b.qc ha.2 hb.2) ?_ (ha:=by first|rfl|(simp[Qc.c,VY] <;>repeat' constructor))
 simp(disch:=omega) [h1,VY]
abbrev iO:Nat:=158
def jv:AF:=⟨2,6,[.tmp 4],(.seq (.ops [.i (.lbox 2 (.s 0)), .i (.lbox 3 (.s 1)), .i (.mov 4 (qb false))]) (.seq (.seq (.ops [qf 6 2 0,ql 7 2 6 1 false,qn 8 7,qf 9 3 0,ql 10 3 9 1 false,qn 11 10,qd 12 .neq 8 11]) (.cond (.s 12) (.seq (.ops [.i (.mov 4 (qb false))]) .ret) .skip)) (.seq (.seq (.ops [qf 13 2 0,ql 14 2 13 1 false,qn 15 14, .i (.mov 16 (qi 0))]) (.block 0 (.loop [31,30,29,28,27,26,25,24,23,22,21,20,19,18,17,5] (.seq (.ops [qd 17 .lss 16 15]) (.seq (.cond (.s 17) .skip (.exit 0)) (.seq (.block 1 (.seq (.ops [qm 18 16,qm 5 18]) (.seq (.ops [qf 19 2 0,ql 20 2 19 1 false,qm 21 5, .i (.iad 22 (.s 20) (.s 21) 10), .i (.ldh 23 (.s 22) 10 true),qf 24 3 0,ql 25 3 24 1 false,qm 26 5, .i (.iad 27 (.s 25) (.s 26) 10), .i (.ldh 28 (.s 27) 10 true), .i (.call 30 155 false [(.s 23),(.s 28)]), .i (.not 30 (.s 29))]) (.cond (.s 30) (.seq (.ops [.i (.mov 4 (qb false))]) .ret) .skip)))) (.ops [.i (.bin 31 .add (.s 16) (qi 1)),qm 16 31]))))))) (.seq (.ops [qf 32 2 1,ql 33 2 32 5 true,qf 34 3 1,ql 35 3 34 5 true, .i (.call 37 154 false [(.s 33),(.s 35)]),qm 4 36]) .ret))))⟩
theorem tQ:cd iO=some jv:=by kernel_rfl
theorem rK (a b:Proof) (ha:a.wf) (hb:b.wf):VC cd iO (aO [(true,a.c),(true,b.c)]) (fun rs _=>rs=bl (fj a b)):=by
 obtain⟨⟨w1,w2⟩,wa⟩:=ha
 obtain⟨⟨w3,w4⟩,wb⟩:=hb
 simp only[Sz]at w1 w3
 refine aa tQ rfl ?_
 simp(disch:=omega) [jv,Proof.c,ct,VY]
 refine ab (fun h1=> ?_) (fun h1=> ?_)
 case refine_2=>
  have hn:eC a.heads b.heads=false:=ie (fun e=>h1 (by omega))
  simp(disch:=omega) [h1,hn,fj,VY]
 simp(disch:=omega) [h1,ct,VY]
 refine eO (σ:=Nat) (f1:=_) (es0:=_) (by simp(disch:=omega) [VY];rfl) (by simp(disch:=omega) [VY];rfl) (fun i=> [(16, .val false [.int .i64 (i:Int)])]) (fun _=> []) (fun i g=>g+i=b.heads.length∧∀j,j < i→(hi:j < a.heads.length)→(hj:j < b.heads.length)→eI a.heads[j] b.heads[j]=true) 0 b.heads.length (by simp(disch:=omega) [h1,VY]) (by simp(disch:=omega) [VY]) ⟨by omega,fun j hj=>by omega⟩ ?_
 rintro i n g ⟨hg,hd⟩ P hP
 simp(disch:=omega) [h1,VY]
 refine ab (fun h2=> ?_) (fun h2=> ?_)
 ·have hi:i < a.heads.length:=by omega
  have hj:i < b.heads.length:=by omega
  simp(disch:=omega) [ek hi,ek hj,Head.c,VY]
  refine aB (fb a.heads[i] b.heads[i] (w2 _ (List.getElem_mem hi)) (w4 _ (List.getElem_mem hj))) ?_ (ha:=by first|rfl|(simp[Head.c,VY] <;>repeat' constructor))
  simp(disch:=omega) [VY]
  refine ak (fun h3=> ?_) (fun h3=> ?_)
  ·simp(disch:=omega) [h3,VY]
   exact hP (i+1) (g - 1) _ _ (by omega) ⟨by omega,rL hd h3⟩ (by simp(disch:=omega) [VY]) (by simp(disch:=omega) [VY])
  ·simp(disch:=omega) [h3,show eC a.heads b.heads=false from fk hi hj h3,fj,VY]
 ·have he:eC a.heads b.heads=true:=hX (by omega) (fun i h hi hj=>hd i (by omega) hi hj)
  simp(disch:=omega) [VY]
  refine aB (gS a.qc b.qc wa wb) ?_ (ha:=by first|rfl|(simp[Qc.c,VY] <;>repeat' constructor))
  simp(disch:=omega) [he,fj,VY]
def cV (a b:Entry):Bool:=decide (a.who=b.who) && decide (a.high=b.high) && decide (a.tag=b.tag)
def e8 (a b:Tc):Bool:=decide (a.view=b.view) && c9 cV a.entries b.entries
abbrev iZ:Nat:=248
def iG:AF:=⟨2,5,[.tmp 4],(.seq (.ops [.i (.lbox 2 (.s 0)), .i (.lbox 3 (.s 1)), .i (.mov 4 (qb false))]) (.seq (.ops [qf 5 2 0,ql 6 2 5 1 false,qf 7 3 0,ql 8 3 7 1 false,qd 9 .eql 6 8,qm 10 9, .g 10 true 12 (.fad 11 (.s 2) 1), .g 10 true 13 (.ldl 12 2 (.s 11) 1 false), .g 10 true 14 (.fad 13 (.s 3) 1), .g 10 true 15 (.ldl 14 3 (.s 13) 1 false), .g 10 true 16 (.bin 15 .eql (.s 12) (.s 14)), .i (.pick 16 (.s 10) (.s 15) (qb false)),qm 17 16, .g 17 true 19 (.fad 18 (.s 2) 2), .g 17 true 20 (.ldl 19 2 (.s 18) 1 false), .g 17 true 21 (.fad 20 (.s 3) 2), .g 17 true 22 (.ldl 21 3 (.s 20) 1 false), .g 17 true 23 (.call 23 57 false [(.s 19),(.s 21)]), .i (.pick 23 (.s 17) (.s 22) (qb false)),qm 4 23]) .ret))⟩
theorem tY:cd iZ=some iG:=by kernel_rfl
theorem rv (a b:Entry):VC cd iZ (aO [(true,a.c),(true,b.c)]) (fun rs _=>rs=bl (cV a b)):=by
 refine aa tY rfl ?_
 simp(disch:=omega) [iG,Entry.c,VY]
 refine ab (fun h1=> ?_) (fun h1=> ?_) <;>simp(disch:=omega) [h1,cV,VY]
 refine ab (fun h2=> ?_) (fun h2=> ?_) <;>simp(disch:=omega) [h1,h2,VY]
 refine aB (aT a.tag b.tag) ?_
 simp(disch:=omega) [h1,h2,VY]
abbrev oS:Nat:=185
def pO:AF:=⟨2,6,[.tmp 4],(.seq (.ops [.i (.lbox 2 (.s 0)), .i (.lbox 3 (.s 1)), .i (.mov 4 (qb false))]) (.seq (.seq (.ops [qf 6 2 0,ql 7 2 6 1 false,qf 8 3 0,ql 9 3 8 1 false,qd 10 .neq 7 9,qm 11 10, .g 11 false 13 (.fad 12 (.s 2) 1), .g 11 false 14 (.ldl 13 2 (.s 12) 1 false), .g 11 false 15 (.len 14 false (.s 13)), .g 11 false 16 (.fad 15 (.s 3) 1), .g 11 false 17 (.ldl 16 3 (.s 15) 1 false), .g 11 false 18 (.len 17 false (.s 16)), .g 11 false 19 (.bin 18 .neq (.s 14) (.s 17)), .i (.pick 19 (.s 11) (qb true) (.s 18))]) (.cond (.s 19) (.seq (.ops [.i (.mov 4 (qb false))]) .ret) .skip)) (.seq (.seq (.ops [qf 20 2 1,ql 21 2 20 1 false,qn 22 21, .i (.mov 23 (qi 0))]) (.block 0 (.loop [38,37,36,35,34,33,32,31,30,29,28,27,26,25,24,5] (.seq (.ops [qd 24 .lss 23 22]) (.seq (.cond (.s 24) .skip (.exit 0)) (.seq (.block 1 (.seq (.ops [qm 25 23,qm 5 25]) (.seq (.ops [qf 26 2 1,ql 27 2 26 1 false,qm 28 5, .i (.iad 29 (.s 27) (.s 28) 3), .i (.ldh 30 (.s 29) 3 true),qf 31 3 1,ql 32 3 31 1 false,qm 33 5, .i (.iad 34 (.s 32) (.s 33) 3), .i (.ldh 35 (.s 34) 3 true), .i (.call 37 248 false [(.s 30),(.s 35)]), .i (.not 37 (.s 36))]) (.cond (.s 37) (.seq (.ops [.i (.mov 4 (qb false))]) .ret) .skip)))) (.ops [.i (.bin 38 .add (.s 23) (qi 1)),qm 23 38]))))))) (.seq (.ops [.i (.mov 4 (qb true))]) .ret))))⟩
theorem yK:cd oS=some pO:=by kernel_rfl
theorem wh (a b:Tc) (ha:a.wf) (hb:b.wf):VC cd oS (aO [(true,a.c),(true,b.c)]) (fun rs _=>rs=bl (e8 a b)):=by
 have w1:=ha.2.1
 have w3:=hb.2.1
 simp only[Sz]at w1 w3
 refine aa yK rfl ?_
 simp(disch:=omega) [pO,Tc.c,bJ,VY]
 refine ab (fun h0=> ?_) (fun h0=> ?_)
 case refine_2=>simp(disch:=omega) [h0,e8,VY]
 simp(disch:=omega) [h0,bJ,VY]
 refine ab (fun h1=> ?_) (fun h1=> ?_)
 case refine_2=>
  have hn:c9 cV a.entries b.entries=false:=ie (fun e=>h1 (by omega))
  simp(disch:=omega) [h0,h1,hn,e8,VY]
 simp(disch:=omega) [h0,h1,bJ,VY]
 refine eO (σ:=Nat) (f1:=_) (es0:=_) (by simp(disch:=omega) [VY];rfl) (by simp(disch:=omega) [VY];rfl) (fun i=> [(23, .val false [.int .i64 (i:Int)])]) (fun _=> []) (fun i g=>g+i=b.entries.length∧∀j,j < i→(hi:j < a.entries.length)→(hj:j < b.entries.length)→cV a.entries[j] b.entries[j]=true) 0 b.entries.length (by simp(disch:=omega) [h1,VY]) (by simp(disch:=omega) [VY]) ⟨by omega,fun j hj=>by omega⟩ ?_
 rintro i n g ⟨hg,hd⟩ P hP
 simp(disch:=omega) [h1,VY]
 refine ab (fun h2=> ?_) (fun h2=> ?_)
 ·have hi:i < a.entries.length:=by omega
  have hj:i < b.entries.length:=by omega
  simp(disch:=omega) [dF hi,dF hj,VY]
  refine aB (rv a.entries[i] b.entries[i]) ?_ (ha:=by first|rfl|(simp[Entry.c,VY] <;>repeat' constructor))
  simp(disch:=omega) [VY]
  refine ak (fun h3=> ?_) (fun h3=> ?_)
  ·simp(disch:=omega) [h3,VY]
   exact hP (i+1) (g - 1) _ _ (by omega) ⟨by omega,rL hd h3⟩ (by simp(disch:=omega) [VY]) (by simp(disch:=omega) [VY])
  ·simp(disch:=omega) [h3,show c9 cV a.entries b.entries=false from fk hi hj h3,e8,h0,VY]
 ·have he:c9 cV a.entries b.entries=true:=hX (by omega) (fun i h hi hj=>hd i (by omega) hi hj)
  simp(disch:=omega) [he,h0,e8,VY]
abbrev pY:Nat:=157
def pB:AF:=⟨2,6,[.tmp 4],(.seq (.ops [.i (.lbox 2 (.s 0)), .i (.lbox 3 (.s 1)), .i (.mov 4 (qb false))]) (.seq (.seq (.ops [qf 8 2 0,ql 9 2 8 1 false,qf 10 3 0,ql 11 3 10 1 false,qd 12 .neq 9 11,qm 13 12, .g 13 false 15 (.fad 14 (.s 2) 1), .g 13 false 16 (.ldl 15 2 (.s 14) 1 false), .g 13 false 17 (.len 16 false (.s 15)), .g 13 false 18 (.fad 17 (.s 3) 1), .g 13 false 19 (.ldl 18 3 (.s 17) 1 false), .g 13 false 20 (.len 19 false (.s 18)), .g 13 false 21 (.bin 20 .neq (.s 16) (.s 19)), .i (.pick 21 (.s 13) (qb true) (.s 20))]) (.cond (.s 21) (.seq (.ops [.i (.mov 4 (qb false))]) .ret) .skip)) (.seq (.seq (.ops [qf 22 2 1,ql 23 2 22 1 false,qn 24 23, .i (.mov 25 (qi 0))]) (.block 0 (.loop [55,54,53,52,51,50,49,48,47,46,45,44,43,42,41,40,39,38,37,36,35,34,33,32,31,30,29,28,27,26,7,6,5] (.seq (.ops [qd 26 .lss 25 24]) (.seq (.cond (.s 26) .skip (.exit 0)) (.seq (.block 1 (.seq (.ops [qm 27 25, .i (.iad 28 (.s 23) (.s 25) 3), .i (.ldh 29 (.s 28) 3 true), .i (.lal 6 [.int .i64 0, .int .i64 0, .nils]),qm 5 27,qs 6 6 29 3]) (.seq (.ops [qf 30 3 1,ql 31 3 30 1 false,qm 32 5, .i (.iad 33 (.s 31) (.s 32) 3), .i (.ldh 34 (.s 33) 3 true), .i (.lal 7 [.int .i64 0, .int .i64 0, .nils]),qs 7 7 34 3]) (.seq (.ops [qf 35 6 0,ql 36 6 35 1 false,qf 37 7 0,ql 38 7 37 1 false,qd 39 .neq 36 38,qm 40 39, .g 40 false 42 (.fad 41 (.s 6) 1), .g 40 false 43 (.ldl 42 6 (.s 41) 1 false), .g 40 false 44 (.fad 43 (.s 7) 1), .g 40 false 45 (.ldl 44 7 (.s 43) 1 false), .g 40 false 46 (.bin 45 .neq (.s 42) (.s 44)), .i (.pick 46 (.s 40) (qb true) (.s 45)),qm 47 46, .g 47 false 49 (.fad 48 (.s 6) 2), .g 47 false 50 (.ldl 49 6 (.s 48) 1 false), .g 47 false 51 (.fad 50 (.s 7) 2), .g 47 false 52 (.ldl 51 7 (.s 50) 1 false), .g 47 false 53 (.call 53 143 false [(.s 49),(.s 51)]), .g 47 false 54 (.not 53 (.s 52)), .i (.pick 54 (.s 47) (qb true) (.s 53))]) (.cond (.s 54) (.seq (.ops [.i (.mov 4 (qb false))]) .ret) .skip))))) (.ops [.i (.bin 55 .add (.s 25) (qi 1)),qm 25 55]))))))) (.seq (.ops [.i (.mov 4 (qb true))]) .ret))))⟩
theorem y0:cd pY=some pB:=by kernel_rfl
theorem wy (a b:Tc) (ha:a.wf) (hb:b.wf):VC cd pY (aO [(true,a.c),(true,b.c)]) (fun rs _=>rs=bl (e8 a b)):=by
 have w1:=ha.2.1
 have w3:=hb.2.1
 simp only[Sz]at w1 w3
 refine aa y0 rfl ?_
 simp(disch:=omega) [pB,Tc.c,bJ,VY]
 refine ab (fun h0=> ?_) (fun h0=> ?_)
 case refine_2=>simp(disch:=omega) [h0,e8,VY]
 simp(disch:=omega) [h0,bJ,VY]
 refine ab (fun h1=> ?_) (fun h1=> ?_)
 case refine_2=>
  have hn:c9 cV a.entries b.entries=false:=ie (fun e=>h1 (by omega))
  simp(disch:=omega) [h0,h1,hn,e8,VY]
 simp(disch:=omega) [h0,h1,bJ,VY]
 refine eO (σ:=Nat) (f1:=_) (es0:=_) (by simp(disch:=omega) [VY];rfl) (by simp(disch:=omega) [VY];rfl) (fun i=> [(25, .val false [.int .i64 (i:Int)])]) (fun _=> []) (fun i g=>g+i=b.entries.length∧∀j,j < i→(hi:j < a.entries.length)→(hj:j < b.entries.length)→cV a.entries[j] b.entries[j]=true) 0 b.entries.length (by simp(disch:=omega) [h1,VY]) (by simp(disch:=omega) [VY]) ⟨by omega,fun j hj=>by omega⟩ ?_
 rintro i n g ⟨hg,hd⟩ P hP
 simp(disch:=omega) [h1,VY]
 refine ab (fun h2=> ?_) (fun h2=> ?_)
 ·have hi:i < a.entries.length:=by omega
  have hj:i < b.entries.length:=by omega
  simp(disch:=omega) [dF hi,dF hj,VY]
  refine ab (fun h3=> ?_) (fun h3=> ?_)
  case refine_2=>
   have hn:c9 cV a.entries b.entries=false:=fk hi hj (by simp[cV,h3])
   simp(disch:=omega) [h3,hn,e8,h0,VY]
  simp(disch:=omega) [h3,VY]
  refine ab (fun h4=> ?_) (fun h4=> ?_)
  case refine_2=>
   have hn:c9 cV a.entries b.entries=false:=fk hi hj (by simp[cV,h4])
   simp(disch:=omega) [h3,h4,hn,e8,h0,VY]
  simp(disch:=omega) [h3,h4,VY]
  refine aB (aS a.entries[i].tag b.entries[i].tag) ?_
  simp(disch:=omega) [h3,h4,VY]
  refine ab (fun h5=> ?_) (fun h5=> ?_)
  ·simp(disch:=omega) [h3,h4,h5,VY]
   exact hP (i+1) (g - 1) _ _ (by omega) ⟨by omega,rL hd (hi:=hi) (hj:=hj) (by simp[cV,h3,h4,h5])⟩ (by simp(disch:=omega) [VY]) (by simp(disch:=omega) [VY])
  ·have hn:c9 cV a.entries b.entries=false:=fk hi hj (by simp[cV,h5])
   simp(disch:=omega) [h3,h4,h5,hn,e8,h0,VY]
 ·have he:c9 cV a.entries b.entries=true:=hX (by omega) (fun i h hi hj=>hd i (by omega) hi hj)
  simp(disch:=omega) [he,h0,e8,VY]
end Go.Eng.F
