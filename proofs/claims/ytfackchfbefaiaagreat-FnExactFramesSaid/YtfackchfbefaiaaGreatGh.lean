import Derived.Test.YtfackchfbefaiaaGreatGe
import Derived.Test.YtfackchfbefaiaaGreatGf
import Derived.Test.YtfackchfbefaiaaGreatGg
set_option maxRecDepth 100000
set_option linter.unusedSimpArgs false
set_option linter.unusedVariables false
namespace Go.Eng.F
def aV (n:Nat):Bytes:=if n < 128 then [UInt8.ofNat n]else UInt8.ofNat (n % 128+128)::aV (n / 128)
termination_by n
decreasing_by omega
theorem xM {n:Nat} (h:n < 128):aV n= [UInt8.ofNat n]:=by rw[aV,if_pos h]
theorem Cb {n:Nat} (h:¬n < 128):aV n=UInt8.ofNat (n % 128+128)::aV (n / 128):=by rw[aV,if_neg h]
theorem Fa:∀(k n:Nat),n < 128 ^ (k+1)→(aV n).length≤k+1
 |0,n,h=>by rw[xM (by simpa using h)];simp
 |k+1,n,h=>by
  by_cases h1:n < 128
  ·rw[xM h1];simp
  ·rw[Cb h1]
   have:=Fa k (n / 128) (by rw[Nat.div_lt_iff_lt_mul (by omega)];rw[Nat.pow_succ]at h;exact h)
   simp only[List.length_cons];omega
theorem bS {n:Nat} (h:n≤1152921504606846975):(aV n).length≤9:=Fa 8 n (by simp;omega)
theorem Qx {k:Nat} (h:k < 256):IntKind.u8.wrap (k:Int)=((UInt8.ofNat k).toNat:Int):=by
 simp only[UInt8.toNat_ofNat',IntKind.wrap,IntKind.bits,IntKind.signed]
 simp
def iC (b:Bytes) (n:Int):List (Bool×List E):=
 if isNum n then [(false,[.o true (some (5,1)) (bytes (b++aV n.toNat))]),(false,[.p (.bool true)])]else [(false,[.p .nils]),(false,[.p (.bool false)])]
theorem jt {n:Int} (h:isNum n=true):∃m:Nat,n=(m:Int)∧m≤1152921504606846975:=⟨n.toNat,by have:=fg h;omega⟩
abbrev iQ:Nat:=296
def rK:AF:=⟨2,5,[.tmp 4, .tmp 5],(.seq (.ops [.i (.mov 4 (.c (.val false [.nils]))), .i (.mov 5 (qb false))]) (.seq (.seq (.ops [qm 7 1,qk 9 81 7, .i (.not 9 (.s 8))]) (.cond (.s 9) (.seq (.ops [.i (.mov 4 (.c (.val false [.nils]))), .i (.mov 5 (qb false))]) .ret) .skip)) (.seq (.ops [qm 10 0,qk 12 47 10,qm 6 11]) (.seq (.block 0 (.loop [22,21,20,19,18,17,16,15,14,13,12] (.seq (.seq (.ops [qm 12 1, .i (.bin 13 .geq (.s 12) (qi 128))]) (.cond (.s 13) .skip (.exit 0))) (.block 1 (.seq (.ops [qm 14 6,qm 15 1, .i (.bin 16 .rem (.s 15) (qi 128)), .i (.bin 17 .add (.s 16) (qi 128)), .i (.cvi 18 .u8 (.s 17)), .i (.lsl 19 1 1 [.int .u8 0] [(0,1,(.s 18))]), .i (.app 20 5 1 1 (.s 14) (.s 19)),qm 6 20]) (.ops [qm 21 1, .i (.bin 22 .quo (.s 21) (qi 128)),qm 1 22])))))) (.seq (.ops [qm 23 6,qm 24 1, .i (.cvi 25 .u8 (.s 24)), .i (.lsl 26 1 1 [.int .u8 0] [(0,1,(.s 25))]), .i (.app 27 5 1 1 (.s 23) (.s 26)),qm 4 27, .i (.mov 5 (qb true))]) .ret)))))⟩
theorem Bf:cd iQ=some rK:=by kernel_rfl
theorem zj (b:Bytes) (n:Int) (hb:b.length≤1073741824):VC cd iQ (aJ [(false,[.sl (bytes b)]),(false,[.int .i64 n])]) (fun rs _=>rs=iC b n):=by
 refine aa Bf rfl ?_
 simp(disch:=omega) [rK,VY]
 refine ah (fb n) rfl rfl ?_
 simp(disch:=omega) [VY]
 refine ak (fun h1=> ?_) (fun h1=> ?_)
 case refine_2=>simp(disch:=omega) [iC,h1,VY]
 simp(disch:=omega) [h1,VY]
 refine ah (aH b (by omega)) rfl rfl ?_
 obtain⟨m,rfl,hm⟩:=jt h1
 have hl:=bS hm
 simp(disch:=omega) [VY]
 refine aO (σ:=Nat×Bytes×Nat) (f1:=_) (es0:=_) (by simp(disch:=omega) [VY];rfl) (by simp(disch:=omega) [VY];rfl) (fun p=> [(1, .val false [.int .i64 (p.1:Int)]),(6, .val false [.ow 106496 p.2.2])]) (fun p=> [(106496, .sl p.2.2 true true (some (5,1)) (bytes p.2.1))])
  (fun p g=>g=p.1∧p.1≤m∧p.2.1++aV p.1=b++aV m) (m,b,_) m (by simp(disch:=omega) [VY];rfl) (by simp(disch:=omega) [VY]) ⟨rfl,Nat.le_refl _,rfl⟩ ?_
 rintro⟨k,a,v⟩ n g ⟨hg,hk,ha⟩
 simp only at hg hk ha
 have hla:a.length≤b.length+9:=by
  have:=congrArg List.length ha
  simp only[List.length_append]at this
  omega
 simp(disch:=omega) [VY]
 refine ab (fun h2=> ?_) (fun h2=> ?_)
 ·have e1:Int.tmod (k:Int) 128=(k:Int) % 128:=Int.tmod_eq_emod_of_nonneg (by omega)
  have e2:Int.tdiv (k:Int) 128=(k:Int) / 128:=Int.tdiv_eq_ediv_of_nonneg (by omega)
  have e3:IntKind.u8.wrap ((k:Int) % 128+128)=((UInt8.ofNat (k % 128+128)).toNat:Int):=by rw[←Qx (by omega)];congr 1
  have e4:bytes a++ [[.int .u8 ((UInt8.ofNat (k % 128+128)).toNat:Int)]]=bytes (a++ [UInt8.ofNat (k % 128+128)]):=by simp[bytes]
  simp(disch:=omega) [e1,e2,e3,e4,an,VY]
  refine⟨k / 128,a++ [UInt8.ofNat (k % 128+128)],_,k / 128,by omega,⟨rfl,by omega,?_⟩,⟨rfl,by omega⟩,rfl,by simp[bytes]⟩
  rw[←ha,Cb (n:=k) (by omega)]
  simp
 ·have e3:IntKind.u8.wrap (k:Int)=((UInt8.ofNat k).toNat:Int):=Qx (by omega)
  have e4:bytes a++ [[.int .u8 ((UInt8.ofNat k).toNat:Int)]]=bytes (a++ [UInt8.ofNat k]):=by simp[bytes]
  rw[xM (n:=k) (by omega)]at ha
  simp(disch:=omega) [e3,e4,an,iC,h1,VY]
  rw[←ha]
  simp[bytes]
abbrev iR:Nat:=287
def rm:AF:=⟨2,5,[.tmp 4, .tmp 5],(.seq (.ops [.i (.mov 4 (.c (.val false [.nils]))), .i (.mov 5 (qb false))]) (.seq (.seq (.ops [qm 7 1,qk 9 78 7, .i (.not 9 (.s 8))]) (.cond (.s 9) (.seq (.ops [.i (.mov 4 (.c (.val false [.nils]))), .i (.mov 5 (qb false))]) .ret) .skip)) (.seq (.ops [qm 10 0,qk 12 43 10,qm 6 11]) (.seq (.block 0 (.loop [22,21,20,19,18,17,16,15,14,13,12] (.seq (.seq (.ops [qm 12 1, .i (.bin 13 .gtr (.s 12) (qi 127))]) (.cond (.s 13) .skip (.exit 0))) (.block 1 (.seq (.ops [qm 14 6,qm 15 1, .i (.bin 16 .rem (.s 15) (qi 128)), .i (.bin 17 .add (qi 128) (.s 16)), .i (.cvi 18 .u8 (.s 17)), .i (.lsl 19 1 1 [.int .u8 0] [(0,1,(.s 18))]), .i (.app 20 5 1 1 (.s 14) (.s 19)),qm 6 20]) (.ops [qm 21 1, .i (.bin 22 .quo (.s 21) (qi 128)),qm 1 22])))))) (.seq (.ops [qm 23 6,qm 24 1, .i (.cvi 25 .u8 (.s 24)), .i (.lsl 26 1 1 [.int .u8 0] [(0,1,(.s 25))]), .i (.app 27 5 1 1 (.s 23) (.s 26)),qm 4 27, .i (.mov 5 (qb true))]) .ret)))))⟩
theorem Av:cd iR=some rm:=by kernel_rfl
theorem yq (b:Bytes) (n:Int) (hb:b.length≤1073741824):VC cd iR (aJ [(false,[.sl (bytes b)]),(false,[.int .i64 n])]) (fun rs _=>rs=iC b n):=by
 refine aa Av rfl ?_
 simp(disch:=omega) [rm,VY]
 refine ah (eJ n) rfl rfl ?_
 simp(disch:=omega) [VY]
 refine ak (fun h1=> ?_) (fun h1=> ?_)
 case refine_2=>simp(disch:=omega) [iC,h1,VY]
 simp(disch:=omega) [h1,VY]
 refine ah (cv b (by omega)) rfl rfl ?_
 obtain⟨m,rfl,hm⟩:=jt h1
 have hl:=bS hm
 simp(disch:=omega) [VY]
 refine aO (σ:=Nat×Bytes×Nat) (f1:=_) (es0:=_) (by simp(disch:=omega) [VY];rfl) (by simp(disch:=omega) [VY];rfl) (fun p=> [(1, .val false [.int .i64 (p.1:Int)]),(6, .val false [.ow 106496 p.2.2])]) (fun p=> [(106496, .sl p.2.2 true true (some (5,1)) (bytes p.2.1))])
  (fun p g=>g=p.1∧p.1≤m∧p.2.1++aV p.1=b++aV m) (m,b,_) m (by simp(disch:=omega) [VY];rfl) (by simp(disch:=omega) [VY]) ⟨rfl,Nat.le_refl _,rfl⟩ ?_
 rintro⟨k,a,v⟩ n g ⟨hg,hk,ha⟩
 simp only at hg hk ha
 have hla:a.length≤b.length+9:=by
  have:=congrArg List.length ha
  simp only[List.length_append]at this
  omega
 simp(disch:=omega) [VY]
 refine ab (fun h2=> ?_) (fun h2=> ?_)
 ·have e1:Int.tmod (k:Int) 128=(k:Int) % 128:=Int.tmod_eq_emod_of_nonneg (by omega)
  have e2:Int.tdiv (k:Int) 128=(k:Int) / 128:=Int.tdiv_eq_ediv_of_nonneg (by omega)
  have e3:IntKind.u8.wrap (128+(k:Int) % 128)=((UInt8.ofNat (k % 128+128)).toNat:Int):=by rw[←Qx (by omega)];congr 1;omega
  have e4:bytes a++ [[.int .u8 ((UInt8.ofNat (k % 128+128)).toNat:Int)]]=bytes (a++ [UInt8.ofNat (k % 128+128)]):=by simp[bytes]
  simp(disch:=omega) [e1,e2,e3,e4,an,VY]
  refine⟨k / 128,a++ [UInt8.ofNat (k % 128+128)],_,k / 128,by omega,⟨rfl,by omega,?_⟩,⟨rfl,by omega⟩,rfl,by simp[bytes]⟩
  rw[←ha,Cb (n:=k) (by omega)]
  simp
 ·have e3:IntKind.u8.wrap (k:Int)=((UInt8.ofNat k).toNat:Int):=Qx (by omega)
  have e4:bytes a++ [[.int .u8 ((UInt8.ofNat k).toNat:Int)]]=bytes (a++ [UInt8.ofNat k]):=by simp[bytes]
  rw[xM (n:=k) (by omega)]at ha
  simp(disch:=omega) [e3,e4,an,iC,h1,VY]
  rw[←ha]
  simp[bytes]
theorem fS {n:Nat} (h:n≤1152921504606846975):isNum (n:Int)=true:=by simp[isNum,eb];omega
theorem rM (b:Bytes) (n:Nat) (hn:n≤1152921504606846975) (hb:b.length≤1073741824):VC cd iQ (aJ [(false,[.sl (bytes b)]),(false,[.int .i64 (n:Int)])]) (fun rs _=>rs= [(false,[.o true (some (5,1)) (bytes (b++aV n))]),(false,[.p (.bool true)])]):=
 (zj b n hb).mono fun rs ps h=>by rw[h,iC,if_pos (fS hn)];rfl
theorem qD (b:Bytes) (n:Nat) (hn:n≤1152921504606846975) (hb:b.length≤1073741824):VC cd iR (aJ [(false,[.sl (bytes b)]),(false,[.int .i64 (n:Int)])]) (fun rs _=>rs= [(false,[.o true (some (5,1)) (bytes (b++aV n))]),(false,[.p (.bool true)])]):=
 (yq b n hb).mono fun rs ps h=>by rw[h,iC,if_pos (fS hn)];rfl
abbrev qN:Nat:=219
def ru:AF:=⟨2,4,[.tmp 4],(.seq (.ops [.i (.mov 4 (.c (.val false [.nils])))]) (.seq (.ops [qm 8 0,qm 9 1, .i (.call 11 287 false [(.s 8),(.s 9)]),qm 7 10, .i (.ext 11 (.s 7) 0), .i (.ext 12 (.s 7) 1),qm 5 11,qm 6 12]) (.seq (.ops [qm 13 5,qm 4 13]) .ret)))⟩
theorem AJ:cd qN=some ru:=by kernel_rfl
theorem bu (b:Bytes) (n:Int) (hn:isNum n=true) (hb:b.length≤1073741824):VC cd qN (aJ [(false,[.sl (bytes b)]),(false,[.int .i64 n])]) (fun rs _=>rs= [(false,[.o true (some (5,1)) (bytes (b++aV n.toNat))])]):=by
 obtain⟨m,rfl,hm⟩:=jt hn
 refine aa AJ rfl ?_
 simp(disch:=omega) [ru,VY]
 refine ah (qD b m hm hb) rfl rfl ?_
 simp(disch:=omega) [VY]
abbrev ir:Nat:=236
def ij:AF:=⟨2,5,[],(.ops [qm 5 0,qm 6 0, .i (.nch 7 (.s 6)),qf 8 7 0, .i (.ldh 9 (.s 8) 1 false),qm 10 1, .i (.call 12 296 false [(.s 9),(.s 10)]),qm 4 11, .i (.ext 12 (.s 4) 0), .i (.ext 13 (.s 4) 1), .i (.nch 14 (.s 5)),qf 15 14 0, .i (.sth (.s 15) (.s 12) 1)])⟩
theorem tk:cd ir=some ij:=by kernel_rfl
theorem aN (b:Bytes) (n:Int) (hn:isNum n=true) (hb:b.length≤1073741824):VC cd ir (IP [] 254 [.o true (some (5,1)) (bytes b)] [(false,[.int .i64 n])]) (fun r p=>r= []∧p= [.pt 254 [.o true (some (5,1)) (bytes (b++aV n.toNat))]]):=by
 obtain⟨m,rfl,hm⟩:=jt hn
 refine pA tk rfl ?_
 simp(disch:=omega) [ij,VZ]
 refine ah (rM b m hm hb) rfl rfl ?_
 simp(disch:=omega) [VZ]
abbrev iu:Nat:=237
def iv:AF:=⟨2,4,[],(.ops [qm 4 0,qm 5 0, .i (.nch 6 (.s 5)),qf 7 6 0, .i (.ldh 8 (.s 7) 1 false),qm 9 1, .i (.app 10 5 1 1 (.s 8) (.s 9)), .i (.nch 11 (.s 4)),qf 12 11 0, .i (.sth (.s 12) (.s 10) 1)])⟩
theorem tF:cd iu=some iv:=by kernel_rfl
theorem bW (b x:Bytes) (hx:x.length≤1073741824) (hb:b.length≤1073741824):VC cd iu (IP [] 254 [.o true (some (5,1)) (bytes b)] [(false,[.sl (bytes x)])]) (fun r p=>r= []∧p= [.pt 254 [.o true (some (5,1)) (bytes (b++x))]]):=by
 refine pA tF rfl ?_
 simp(disch:=omega) [iv,an,cn,VZ]
def IQ (q:Qc):Bytes:=aV q.view.toNat++aV q.height.toNat++q.block++q.bits++q.tags.flatten
def eH (h:Head):Bytes:=aV h.view.toNat++aV h.height.toNat++aV h.proposer.toNat++h.parent++h.root++IQ h.qc
theorem aA {n:Int} (h:isNum n=true):(aV n.toNat).length≤9:=by
 obtain⟨m,rfl,hm⟩:=jt h
 simpa using bS hm
theorem Ms {n:Int} (h:1≤n∧n≤10):Ln n≤2:=by unfold Ln;split <;>omega
structure H6 (q:Qc):Prop where
 view:isNum q.view=true
 height:isNum q.height=true
 block:q.block.length=32
 bits:q.bits.length≤2
 tags:q.tags.length≤16
 tag:∀t∈q.tags,t.length=32
theorem pF {l:ax} {q:Qc} (h:gU l q=true):H6 q:=by
 simp only[gU,Bool.and_eq_true,decide_eq_true_eq]at h
 obtain⟨⟨⟨⟨⟨⟨h0,h1⟩,h2⟩,h3⟩,h4⟩,h5⟩,h6⟩:=h
 simp only[fv,Bool.and_eq_true,decide_eq_true_eq]at h4
 have hb:=Ms (fg h4.1.1)
 have hl:=eS q.bits
 refine⟨h1,h2,by simpa[hash]using h3,by omega,by omega,fun t ht=> ?_⟩
 simp only[hashes,List.all_eq_true]at h6
 simpa[hash]using h6 t ht
theorem gC {l:List Bytes} (h:∀t∈l,t.length=32) {i:Nat} (hi:i≤l.length):(l.take i).flatten.length=32 * i:=by
 induction i generalizing l with
 |zero=>simp
 |succ i ih=>
  cases l with
  |nil=>simp at hi
  |cons a l=>
   simp only[List.take_succ_cons,List.flatten_cons,List.length_append]
   rw[ih (fun t ht=>h t (by simp[ht])) (by simpa using hi),h a (by simp)]
   omega
theorem pv {l:List Bytes} {i:Nat} (h:i < l.length):(l.take (i+1)).flatten=(l.take i).flatten++l[i]:=by
 rw[List.take_add_one,List.getElem?_eq_getElem h,List.flatten_append]
 simp only[Option.toList_some,List.flatten_cons,List.flatten_nil,List.append_nil]
theorem CT {q:Qc} (h:H6 q):(IQ q).length≤600:=by
 have h1:=aA h.view
 have h2:=aA h.height
 have h3:=gC h.tag (Nat.le_refl _)
 rw[List.take_length]at h3
 have:=h.block
 have:=h.bits
 have:=h.tags
 simp only[IQ,List.length_append]
 omega
abbrev iT:Nat:=239
def jV:AF:=⟨2,6,[],(.seq (.ops [.i (.lbox 3 (.s 1))]) (.seq (.ops [qm 6 0,qf 7 3 0,ql 8 3 7 1 false, .i (.call 10 236 false [(.s 6),(.s 8)])]) (.seq (.ops [qm 10 0,qf 11 3 1,ql 12 3 11 1 false, .i (.call 14 236 false [(.s 10),(.s 12)])]) (.seq (.ops [qm 14 0,qf 15 3 2,ql 16 3 15 1 false, .i (.call 18 237 false [(.s 14),(.s 16)])]) (.seq (.ops [qm 18 0,qf 19 3 3,ql 20 3 19 1 false, .i (.call 22 237 false [(.s 18),(.s 20)])]) (.seq (.ops [qf 22 3 4,ql 23 3 22 1 false,qn 24 23, .i (.mov 25 (qi 0))]) (.block 0 (.loop [32,31,30,29,28,27,26,5] (.seq (.ops [qd 26 .lss 25 24]) (.seq (.cond (.s 26) .skip (.exit 0)) (.seq (.block 1 (.seq (.ops [.i (.iad 27 (.s 23) (.s 25) 1), .i (.ldh 28 (.s 27) 1 false),qm 5 28]) (.ops [qm 29 0,qm 30 5, .i (.call 32 237 false [(.s 29),(.s 30)])]))) (.ops [.i (.bin 32 .add (.s 25) (qi 1)),qm 25 32]))))))))))))⟩
theorem vn:cd iT=some jV:=by kernel_rfl
theorem j6 (b:Bytes) (q:Qc) (hq:H6 q) (hb:b.length≤1000000000):VC cd iT (IP [] 254 [.o true (some (5,1)) (bytes b)] [(true,q.c)]) (fun r p=>r= []∧p= [.pt 254 [.o true (some (5,1)) (bytes (b++IQ q))]]):=by
 have h1:=aA hq.view
 have h2:=aA hq.height
 have h4:=hq.block
 have h5:=hq.bits
 have h6:=hq.tags
 refine pA vn rfl ?_
 simp(disch:=omega) [jV,Qc.c,VZ]
 refine pX (aN _ q.view hq.view ?_) ?_
 ·(try simp only[List.length_append]);omega
 simp(disch:=omega) [VZ]
 refine pX (aN _ q.height hq.height ?_) ?_
 ·(try simp only[List.length_append]);omega
 simp(disch:=omega) [VZ]
 refine pX (bW _ q.block (by omega) ?_) ?_
 ·(try simp only[List.length_append]);omega
 simp(disch:=omega) [VZ]
 refine pX (bW _ q.bits (by omega) ?_) ?_
 ·(try simp only[List.length_append]);omega
 simp(disch:=omega) [aw,VZ]
 refine aO (σ:=Nat×Nat) (f1:=_) (es0:=_) (by simp(disch:=omega) [VZ];rfl) (by simp(disch:=omega) [VZ];rfl) (fun p=> [(25, .val false [.int .i64 (p.1:Int)])]) (fun p=> [(4096, .pt 0 254 [.ow 1099528404992 p.2]),(1099528404992, .sl p.2 true true (some (5,1)) (bytes (b++(aV q.view.toNat++(aV q.height.toNat++(q.block++(q.bits++(q.tags.take p.1).flatten)))))))])
  (fun p g=>g+p.1=q.tags.length) (0,14) q.tags.length (by simp(disch:=omega) [VZ]) (by simp(disch:=omega) [VZ]) (by omega) ?_
 rintro⟨i,v⟩ n g hg
 simp only at hg
 simp(disch:=omega) [VZ]
 refine ab (fun h7=> ?_) (fun h7=> ?_)
 ·have hi:i < q.tags.length:=by omega
  have hx:=hq.tag _ (List.getElem_mem hi)
  have hf:=gC hq.tag (i:=i) (by omega)
  simp(disch:=omega) [cT hi,VZ]
  refine pX (bW _ q.tags[i] (by omega) ?_) ?_
  ·(try simp only[List.length_append]);omega
  simp(disch:=omega) [VZ]
  exact⟨i+1,_,g - 1,by omega,by omega,rfl,rfl,by rw[pv hi]⟩
 ·have hi:i=q.tags.length:=by omega
  subst hi
  rw[List.take_length]
  simp(disch:=omega) [IQ,VZ]
def a9 (ok:Bool) (b:Bytes):List (Bool×List E):=
 if ok then [(false,[.o true (some (5,1)) (bytes b)]),(false,[.p (.bool true)])]else [(false,[.p .nils]),(false,[.p (.bool false)])]
theorem bE {ok:Bool} {b:Bytes} (h:ok=true):a9 ok b= [(false,[.o true (some (5,1)) (bytes b)]),(false,[.p (.bool true)])]:=by subst h;rfl
theorem cG {ok:Bool} {b:Bytes} (h:ok=false):a9 ok b= [(false,[.p .nils]),(false,[.p (.bool false)])]:=by subst h;rfl
theorem _root_.Go.Eng.VC.re {cd:Nat→Option AF} {g:Nat} {al:List (Bool×List E)} {rs rt:List (Bool×List E)} (h:VC cd g al (fun r _=>r=rs)) (e:rs=rt):VC cd g al (fun r _=>r=rt):=by subst e;exact h
abbrev sJ:Nat:=148
def th:AF:=⟨3,6,[.tmp 6, .tmp 7],(.seq (.ops [.i (.lbox 3 (.s 0)), .i (.lbox 5 (.s 2)), .i (.mov 6 (.c (.val false [.nils]))), .i (.mov 7 (qb false))]) (.seq (.seq (.ops [ql 11 3 3 5 true,ql 12 5 5 5 true, .i (.call 14 220 false [(.s 11),(.s 12)]), .i (.not 14 (.s 13))]) (.cond (.s 14) (.seq (.ops [.i (.mov 6 (.c (.val false [.nils]))), .i (.mov 7 (qb false))]) .ret) .skip)) (.seq (.ops [qm 15 1,qf 16 5 0,ql 17 5 16 1 false, .i (.call 19 219 false [(.s 15),(.s 17)]),qf 19 5 1,ql 20 5 19 1 false, .i (.call 22 219 false [(.s 18),(.s 20)]),qf 22 5 2,ql 23 5 22 1 false, .i (.app 24 5 1 1 (.s 21) (.s 23)),qm 8 24]) (.seq (.ops [qm 25 8,qf 26 5 3,ql 27 5 26 1 false, .i (.app 28 5 1 1 (.s 25) (.s 27)),qm 8 28]) (.seq (.seq (.ops [qf 29 5 4,ql 30 5 29 1 false,qn 31 30, .i (.mov 32 (qi 0))]) (.block 0 (.loop [39,38,37,36,35,34,33,10] (.seq (.ops [qd 33 .lss 32 31]) (.seq (.cond (.s 33) .skip (.exit 0)) (.seq (.block 1 (.seq (.ops [.i (.iad 34 (.s 30) (.s 32) 1), .i (.ldh 35 (.s 34) 1 false),qm 10 35]) (.ops [qm 36 8,qm 37 10, .i (.app 38 5 1 1 (.s 36) (.s 37)),qm 8 38]))) (.ops [.i (.bin 39 .add (.s 32) (qi 1)),qm 32 39]))))))) (.seq (.ops [qm 40 8,qm 6 40, .i (.mov 7 (qb true))]) .ret))))))⟩
theorem C1:cd sJ=some th:=by kernel_rfl
theorem fL (l:ax) (b:Bytes) (q:Qc) (hw:q.wf) (hb:b.length≤1000000000):VC cd sJ (aJ [(true,l.c),(false,[.sl (bytes b)]),(true,q.c)]) (fun rs _=>rs=a9 (gU l q) (b++IQ q)):=by
 refine aa C1 rfl ?_
 simp(disch:=omega) [th,Qc.c,ax.c,VY]
 refine ah (j3 l q hw) rfl rfl ?_
 simp(disch:=omega) [VY]
 refine ak (fun h0=> ?_) (fun h0=> ?_)
 case refine_2=>simp(disch:=omega) [h0,a9,VY]
 have hq:=pF h0
 have h1:=aA hq.view
 have h2:=aA hq.height
 have h4:=hq.block
 have h5:=hq.bits
 have h6:=hq.tags
 simp(disch:=omega) [h0,VY]
 refine ah (bu b q.view hq.view (by omega)) rfl rfl ?_
 simp(disch:=omega) [VY]
 refine ah (bu (b++aV q.view.toNat) q.height hq.height (by simp only[List.length_append];omega)) rfl rfl ?_
 simp(disch:=omega) [cn,an,VY]
 have e1:List.length b+(List.length (aV q.view.toNat)+(List.length (aV q.height.toNat)+List.length q.block))≤1073741824:=by omega
 simp(disch:=omega) [cn,an,aw,VY]
 refine aO (σ:=Nat×Nat) (f1:=_) (es0:=_) (by simp(disch:=omega) [VY];rfl) (by simp(disch:=omega) [VY];rfl) (fun p=> [(32, .val false [.int .i64 (p.1:Int)]),(8, .val false [.ow 188416 p.2])]) (fun p=> [(188416, .sl p.2 true true (some (5,1)) (bytes (b++(aV q.view.toNat++(aV q.height.toNat++(q.block++(q.bits++(q.tags.take p.1).flatten)))))))])
  (fun p g=>g+p.1=q.tags.length) (0,_) q.tags.length (by simp(disch:=omega) [VY];rfl) (by simp(disch:=omega) [VY]) (by omega) ?_
 rintro⟨i,v⟩ n g hg
 simp only at hg
 simp(disch:=omega) [VY]
 refine ab (fun h7=> ?_) (fun h7=> ?_)
 ·have hi:i < q.tags.length:=by omega
  have hx:=hq.tag _ (List.getElem_mem hi)
  have hf:=gC hq.tag (i:=i) (by omega)
  simp(disch:=omega) [cT hi,cn,an,hf,VY]
  exact⟨i+1,_,g - 1,by omega,by omega,⟨by omega,rfl⟩,rfl,by rw[pv hi]⟩
 ·have hi:i=q.tags.length:=by omega
  subst hi
  rw[List.take_length]
  simp(disch:=omega) [IQ,a9,h0,VY]
structure CP (h:Head):Prop where
 view:isNum h.view=true
 height:isNum h.height=true
 proposer:isNum h.proposer=true
 parent:h.parent.length=32
 root:h.root.length=32
 qc:H6 h.qc
theorem u4 {l:ax} {h:Head} (hk:cf l h=true):gU l h.qc=true:=by
 simp only[cf,Bool.and_eq_true]at hk
 exact hk.1.1.1.1.1.1
theorem dD {l:ax} {h:Head} (hk:cf l h=true):CP h:=by
 have hq:=u4 hk
 have hn:=jU (m0 hq)
 simp only[cf,Bool.and_eq_true,decide_eq_true_eq]at hk
 obtain⟨⟨⟨⟨⟨⟨h0,h1⟩,h2⟩,h3⟩,h4⟩,h5⟩,h6⟩:=hk
 have h2':=fg h2
 have h3':=fg h3
 exact⟨h1,by simp[isNum,eb];omega,by simp[isNum,eb];omega,by simpa[hash]using h4,by simpa[hash]using h5,pF hq⟩
theorem gB {h:Head} (hs:CP h):(eH h).length≤1000:=by
 have h1:=aA hs.view
 have h2:=aA hs.height
 have h3:=aA hs.proposer
 have h4:=hs.parent
 have h5:=hs.root
 have h6:=CT hs.qc
 simp only[eH,List.length_append]
 omega
abbrev gI:Nat:=241
def gH:AF:=⟨2,5,[],(.seq (.ops [.i (.lbox 3 (.s 1))]) (.seq (.ops [qm 4 0,qf 5 3 0,ql 6 3 5 1 false, .i (.call 8 236 false [(.s 4),(.s 6)])]) (.seq (.ops [qm 8 0,qf 9 3 1,ql 10 3 9 1 false, .i (.call 12 236 false [(.s 8),(.s 10)])]) (.seq (.ops [qm 12 0,qf 13 3 2,ql 14 3 13 1 false, .i (.call 16 236 false [(.s 12),(.s 14)])]) (.seq (.ops [qm 16 0,qf 17 3 3,ql 18 3 17 1 false, .i (.call 20 237 false [(.s 16),(.s 18)])]) (.seq (.ops [qm 20 0,qf 21 3 4,ql 22 3 21 1 false, .i (.call 24 237 false [(.s 20),(.s 22)])]) (.ops [qm 24 0,qf 25 3 5,ql 26 3 25 5 true, .i (.call 28 239 false [(.s 24),(.s 26)])])))))))⟩
theorem sd:cd gI=some gH:=by kernel_rfl
theorem gS (b:Bytes) (h:Head) (hs:CP h) (hb:b.length≤900000000):VC cd gI (IP [] 254 [.o true (some (5,1)) (bytes b)] [(true,h.c)]) (fun r p=>r= []∧p= [.pt 254 [.o true (some (5,1)) (bytes (b++eH h))]]):=by
 have h1:=aA hs.view
 have h2:=aA hs.height
 have h3:=aA hs.proposer
 have h4:=hs.parent
 have h5:=hs.root
 refine pA sd rfl ?_
 simp(disch:=omega) [gH,Head.c,VZ]
 refine pX (aN _ h.view hs.view ?_) ?_
 ·(try simp only[List.length_append]);omega
 simp(disch:=omega) [VZ]
 refine pX (aN _ h.height hs.height ?_) ?_
 ·(try simp only[List.length_append]);omega
 simp(disch:=omega) [VZ]
 refine pX (aN _ h.proposer hs.proposer ?_) ?_
 ·(try simp only[List.length_append]);omega
 simp(disch:=omega) [VZ]
 refine pX (bW _ h.parent (by omega) ?_) ?_
 ·(try simp only[List.length_append]);omega
 simp(disch:=omega) [VZ]
 refine pX (bW _ h.root (by omega) ?_) ?_
 ·(try simp only[List.length_append]);omega
 simp(disch:=omega) [VZ]
 refine pX (j6 _ h.qc hs.qc ?_) ?_
 ·(try simp only[List.length_append]);omega
 simp(disch:=omega) [eH,VZ]
abbrev oC:Nat:=160
def mw:AF:=⟨3,5,[.tmp 6, .tmp 7],(.seq (.ops [.i (.lbox 3 (.s 0)), .i (.lbox 5 (.s 2)), .i (.mov 6 (.c (.val false [.nils]))), .i (.mov 7 (qb false))]) (.seq (.seq (.ops [ql 9 3 3 5 true,ql 10 5 5 10 true, .i (.call 12 240 false [(.s 9),(.s 10)]), .i (.not 12 (.s 11))]) (.cond (.s 12) (.seq (.ops [.i (.mov 6 (.c (.val false [.nils]))), .i (.mov 7 (qb false))]) .ret) .skip)) (.seq (.ops [qm 13 1,qk 15 47 13, .i (.bld 15 [.nils] [(0,1,(.s 14))]), .i (.hbox 16 254 (.s 15)),qm 8 16]) (.seq (.ops [qm 17 8,ql 18 5 5 10 true, .i (.call 20 241 false [(.s 17),(.s 18)])]) (.seq (.ops [qm 20 8, .i (.nch 21 (.s 20)),qf 22 21 0, .i (.ldh 23 (.s 22) 1 false),qm 6 23, .i (.mov 7 (qb true))]) .ret)))))⟩
theorem zP:cd oC=some mw:=by kernel_rfl
theorem kA (l:ax) (b:Bytes) (h:Head) (hw:h.wf) (hb:b.length≤900000000):VC cd oC (aJ [(true,l.c),(false,[.sl (bytes b)]),(true,h.c)]) (fun rs _=>rs=a9 (cf l h) (b++eH h)):=by
 refine aa zP rfl ?_
 simp(disch:=omega) [mw,Head.c,ax.c,VY]
 refine ah (gK l h hw) rfl rfl ?_
 simp(disch:=omega) [VY]
 refine ak (fun h0=> ?_) (fun h0=> ?_)
 case refine_2=>simp(disch:=omega) [h0,a9,VY]
 have hs:=dD h0
 simp(disch:=omega) [h0,VY]
 refine ah (aH b (by omega)) rfl rfl ?_
 simp(disch:=omega) [VZ]
 refine pX (gS _ h hs ?_) ?_
 ·(try simp only[List.length_append]);omega
 simp(disch:=omega) [a9,h0,VZ]
abbrev oS:Nat:=149
def oD:AF:=⟨3,6,[.tmp 6, .tmp 7],(.seq (.ops [.i (.lbox 3 (.s 0)), .i (.lbox 5 (.s 2)), .i (.mov 6 (.c (.val false [.nils]))), .i (.mov 7 (qb false))]) (.seq (.seq (.ops [ql 9 3 3 5 true,ql 10 5 5 10 true, .i (.call 12 221 false [(.s 9),(.s 10)]), .i (.not 12 (.s 11))]) (.cond (.s 12) (.seq (.ops [.i (.mov 6 (.c (.val false [.nils]))), .i (.mov 7 (qb false))]) .ret) .skip)) (.seq (.ops [qm 13 1,qf 14 5 0,ql 15 5 14 1 false, .i (.call 17 219 false [(.s 13),(.s 15)]),qf 17 5 1,ql 18 5 17 1 false, .i (.call 20 219 false [(.s 16),(.s 18)]),qf 20 5 2,ql 21 5 20 1 false, .i (.call 23 219 false [(.s 19),(.s 21)]),qm 8 22]) (.seq (.ops [qm 23 8,qf 24 5 3,ql 25 5 24 1 false, .i (.app 26 5 1 1 (.s 23) (.s 25)),qf 27 5 4,ql 28 5 27 1 false, .i (.app 29 5 1 1 (.s 26) (.s 28)),qm 8 29]) (.seq (.ops [ql 30 3 3 5 true,qm 31 8,qf 32 5 5,ql 33 5 32 5 true, .i (.call 35 148 false [(.s 30),(.s 31),(.s 33)]), .i (.ext 35 (.s 34) 0), .i (.ext 36 (.s 34) 1),qm 6 35,qm 7 36]) .ret)))))⟩
theorem yH:cd oS=some oD:=by kernel_rfl
theorem ey (l:ax) (b:Bytes) (h:Head) (hw:h.wf) (hb:b.length≤900000000):VC cd oS (aJ [(true,l.c),(false,[.sl (bytes b)]),(true,h.c)]) (fun rs _=>rs=a9 (cf l h) (b++eH h)):=by
 refine aa yH rfl ?_
 simp(disch:=omega) [oD,Head.c,ax.c,VY]
 refine ah (hU l h hw) rfl rfl ?_
 simp(disch:=omega) [VY]
 refine ak (fun h0=> ?_) (fun h0=> ?_)
 case refine_2=>simp(disch:=omega) [h0,a9,VY]
 have hs:=dD h0
 have h1:=aA hs.view
 have h2:=aA hs.height
 have h3:=aA hs.proposer
 have h4:=hs.parent
 have h5:=hs.root
 simp(disch:=omega) [h0,VY]
 refine ah (bu b h.view hs.view (by omega)) rfl rfl ?_
 simp(disch:=omega) [VY]
 refine ah (bu (b++aV h.view.toNat) h.height hs.height (by simp only[List.length_append];omega)) rfl rfl ?_
 simp(disch:=omega) [VY]
 refine ah (bu (b++(aV h.view.toNat++aV h.height.toNat)) h.proposer hs.proposer (by simp only[List.length_append];omega)) rfl rfl ?_
 simp(disch:=omega) [cn,an,VY]
 refine az ((fL l (b++(aV h.view.toNat++(aV h.height.toNat++(aV h.proposer.toNat++(h.parent++h.root))))) h.qc hw.2.2.2.2.2 (by simp only[List.length_append];omega)).re (bE (u4 h0))) ?_
 simp(disch:=omega) [a9,h0,eH,VY]
def PD (l:ax) (h:Head):Bytes:=if cf l h then Hx (72::eH h)else []
end Go.Eng.F
namespace Go.Eng.F
open Go.Eng.U (yQ cu TLimits dQ)
theorem dU {n:Int} (h:IntKind.i64.min≤n∧n≤IntKind.i64.max):ma n:=by
 have h1:IntKind.i64.min= -9223372036854775808:=rfl
 have h2:IntKind.i64.max=9223372036854775807:=rfl
 unfold ma
 omega
theorem H0:maxLen=9223372036854775807:=rfl
theorem dy (l:List Bytes):enc (.sl (.sl (.int .u8))) (vk l)= [.sl (cS l)]:=MI l
theorem du (k:IntKind) (n:Int):enc (.int k) (.i n)= [.int k n]:=rfl
theorem dJ (b:Bool):enc .bool (.b b)= [.bool b]:=rfl
theorem eg (ts:List Ty) (vs:List Tv):enc (.st ts) (.r vs)=tD ts vs:=rfl
theorem bK (t:Ty) (ts:List Ty) (v:Tv) (vs:List Tv):tD (t::ts) (v::vs)=enc t v++tD ts vs:=rfl
theorem cC:tD [] []= []:=rfl
theorem zz (t:Ty) (xs:List Tv):enc (.sl t) (.l xs)= [.sl (xs.map (enc t))]:=rfl
theorem cP {t:Ty} {ts:List Ty} {v:Tv} {vs:List Tv}:dH (t::ts) (v::vs)↔aG t v∧dH ts vs:=by simp only[dH]
theorem fP {ts:List Ty} {vs:List Tv}:aG (.st ts) (.r vs)↔dH ts vs:=by simp only[aG]
theorem ok_int {k:IntKind} {n:Int}:aG (.int k) (.i n)↔k.min≤n∧n≤k.max:=by simp only[aG]
theorem GU {t:Ty} {xs:List Tv}:aG (.sl t) (.l xs)↔xs.length≤maxLen∧∀x∈xs,aG t x:=by simp only[aG]
theorem ry {x:Bytes} (h:wt (ur x)≤1048576):Sz x.length:=by rw[HT]at h;unfold Sz;omega
theorem GG {l:List Bytes} (h:wt (vk l)≤1048576):Sz l.length∧∀x∈l,Sz x.length:=by
 obtain⟨h1,h2⟩:=KF l
 unfold Sz
 exact⟨by omega,fun x hx=>by have:=h2 x hx;omega⟩
theorem fQ (l:List Int):enc (.sl (.int .i64)) (NX l)= [.sl (l.map fun n=> [.int .i64 n])]:=by
 simp only[NX,zz,List.map_map]
 congr 2
theorem fG (s:ByteArray):enc .str (.s s)= [.str s]:=rfl
def ax.tv (l:ax):Tv:= .r [.i l.n, .i l.tx, .i l.txs, .i l.frame, .i l.heads]
theorem ax.enc (l:ax):enc TLimits l.tv=l.c:=rfl
theorem ax.ex {v:Tv} (h:aG TLimits v):∃l:ax,v=l.tv:=by
 obtain⟨vs,rfl,h⟩:=h.st
 obtain⟨v0,_,rfl,h0,h⟩:=h.step
 obtain⟨v1,_,rfl,h1,h⟩:=h.step
 obtain⟨v2,_,rfl,h2,h⟩:=h.step
 obtain⟨v3,_,rfl,h3,h⟩:=h.step
 obtain⟨v4,_,rfl,h4,h⟩:=h.step
 obtain rfl:=h.fin
 obtain⟨n0,rfl,_⟩:=h0.int
 obtain⟨n1,rfl,_⟩:=h1.int
 obtain⟨n2,rfl,_⟩:=h2.int
 obtain⟨n3,rfl,_⟩:=h3.int
 obtain⟨n4,rfl,_⟩:=h4.int
 exact⟨⟨n0,n1,n2,n3,n4⟩,rfl⟩
def Qc.tv (q:Qc):Tv:= .r [.i q.view, .i q.height,ur q.block,ur q.bits,vk q.tags]
theorem Qc.enc (q:Qc):enc yQ q.tv=q.c:=by simp only[Qc.tv,eg,bK,cC,du,eT,dy,Qc.c,List.cons_append,List.nil_append]
theorem Qc.ex {v:Tv} (h:aG yQ v):∃q:Qc,v=q.tv:=by
 obtain⟨vs,rfl,h⟩:=h.st
 obtain⟨v0,_,rfl,h0,h⟩:=h.step
 obtain⟨v1,_,rfl,h1,h⟩:=h.step
 obtain⟨v2,_,rfl,h2,h⟩:=h.step
 obtain⟨v3,_,rfl,h3,h⟩:=h.step
 obtain⟨v4,_,rfl,h4,h⟩:=h.step
 obtain rfl:=h.fin
 obtain⟨n0,rfl,_⟩:=h0.int
 obtain⟨n1,rfl,_⟩:=h1.int
 obtain⟨n2,rfl⟩:=hC h2
 obtain⟨n3,rfl⟩:=hC h3
 obtain⟨n4,rfl⟩:=CS h4
 exact⟨⟨n0,n1,n2,n3,n4⟩,rfl⟩
theorem Qc.of {q:Qc} (h:aG yQ q.tv) (hw:wt q.tv≤1048576):q.wc:=by
 simp only[Qc.tv,fP,cP,ok_int]at h
 simp only[Qc.tv,wt,dq]at hw
 obtain⟨h0,h1,_⟩:=h
 have h4:=GG (l:=q.tags) (by omega)
 exact⟨⟨dU h0,dU h1,ry (by omega),ry (by omega),h4.1⟩,h4.2⟩
theorem Qc.rs (q:Qc):Bm q.o (Go.Eng.enc yQ q.tv):=by
 rw[Qc.enc]
 simp only[Qc.o,Qc.c,Bm,D.leaf,and_self]
def Head.tv (h:Head):Tv:= .r [.i h.view, .i h.height, .i h.proposer,ur h.parent,ur h.root,h.qc.tv]
theorem Head.enc (h:Head):enc cu h.tv=h.c:=by simp only[Head.tv,Qc.enc,eg,bK,cC,du,eT,dy,Head.c,Qc.c,List.cons_append,List.nil_append]
theorem Head.ex {v:Tv} (h:aG cu v):∃q:Head,v=q.tv:=by
 obtain⟨vs,rfl,h⟩:=h.st
 obtain⟨v0,_,rfl,h0,h⟩:=h.step
 obtain⟨v1,_,rfl,h1,h⟩:=h.step
 obtain⟨v2,_,rfl,h2,h⟩:=h.step
 obtain⟨v3,_,rfl,h3,h⟩:=h.step
 obtain⟨v4,_,rfl,h4,h⟩:=h.step
 obtain⟨v5,_,rfl,h5,h⟩:=h.step
 obtain rfl:=h.fin
 obtain⟨n0,rfl,_⟩:=h0.int
 obtain⟨n1,rfl,_⟩:=h1.int
 obtain⟨n2,rfl,_⟩:=h2.int
 obtain⟨n3,rfl⟩:=hC h3
 obtain⟨n4,rfl⟩:=hC h4
 obtain⟨n5,rfl⟩:=Qc.ex h5
 exact⟨⟨n0,n1,n2,n3,n4,n5⟩,rfl⟩
theorem Head.of {q:Head} (h:aG cu q.tv) (hw:wt q.tv≤1048576):q.wc:=by
 simp only[Head.tv,fP,cP]at h
 simp only[Head.tv,wt,dq]at hw
 obtain⟨h0,h1,h2,_,_,h5,_⟩:=h
 have h4:=Qc.of h5 (by omega)
 exact⟨⟨dU (ok_int.1 h0),dU (ok_int.1 h1),dU (ok_int.1 h2),ry (by omega),ry (by omega),h4.1⟩,h4.2⟩
theorem Head.rs (q:Head):Bm q.o (Go.Eng.enc cu q.tv):=by
 rw[Head.enc]
 simp only[Head.o,Head.c,Bm,D.leaf,and_self]
def wR (l:List Head):Tv:= .l (l.map Head.tv)
theorem pD (l:List Head):enc (.sl cu) (wR l)= [.sl (gD l)]:=by
 simp only[wR,zz,List.map_map,gD]
 congr 2
 exact List.map_congr_left fun x _=>Head.enc x
theorem xB {v:Tv} (h:aG (.sl cu) v):∃l,v=wR l:=by
 obtain⟨xs,rfl,_,h2⟩:=h.sl
 obtain⟨ys,rfl⟩:=j5 (f:=Head.tv) (P:=aG cu) (fun v hv=>Head.ex hv) h2
 exact⟨ys,rfl⟩
theorem B8 {l:List Head} (h:aG (.sl cu) (wR l)) (hw:wt (wR l)≤1048576):Sz l.length∧∀x∈l,x.wc:=by
 unfold wR at h hw
 rw[GC]at hw
 have h2:=(GU.1 h).2
 simp only[List.length_map]at hw
 refine⟨by unfold Sz;omega,fun x hx=>Head.of (h2 _ (List.mem_map_of_mem hx)) ?_⟩
 have:=pw (f:=Head.tv) hx
 omega
def Proof.tv (p:Proof):Tv:= .r [wR p.heads,p.qc.tv]
theorem Proof.enc (p:Proof):enc dQ p.tv=p.c:=by simp only[Proof.tv,Qc.enc,pD,eg,bK,cC,du,Proof.c,Qc.c,List.cons_append,List.nil_append]
theorem Proof.ex {v:Tv} (h:aG dQ v):∃q:Proof,v=q.tv:=by
 obtain⟨vs,rfl,h⟩:=h.st
 obtain⟨v0,_,rfl,h0,h⟩:=h.step
 obtain⟨v1,_,rfl,h1,h⟩:=h.step
 obtain rfl:=h.fin
 obtain⟨n0,rfl⟩:=xB h0
 obtain⟨n1,rfl⟩:=Qc.ex h1
 exact⟨⟨n0,n1⟩,rfl⟩
theorem Proof.of {q:Proof} (h:aG dQ q.tv) (hw:wt q.tv≤1048576):q.wf∧(∀h∈q.heads,h.wc)∧q.qc.wc:=by
 simp only[Proof.tv,fP,cP]at h
 simp only[Proof.tv,wt,dq]at hw
 obtain⟨h0,h1,_⟩:=h
 have h4:=Qc.of h1 (by omega)
 have h5:=B8 h0 (by omega)
 exact⟨⟨⟨h5.1,fun h hh=>(h5.2 h hh).1⟩,h4.1⟩,h5.2,h4⟩
theorem _root_.Go.Eng.dO.QD {h:H} {T:Ty} {v:Tv} {al:List (Ty×Tv)} {ms:List (Bool×List C)} (ha:dO h ((T,v)::al) ms):aG T v∧∃mr,dO h al mr:=by
 obtain⟨cs,mr,rfl,⟨S,h1⟩,h2⟩:=ha
 exact⟨h1.ok,mr,h2⟩
def RJ (h:H) (ts:List (Ty×Tv)) (r:V) (h':H):Prop:=∃t css S,h'=h++t∧r=dY css∧HC h' ts css S∧dK h' S∧∀i∈S,h.length≤i
end Go.Eng.F
namespace Go.Eng.F
open Go.Eng.U (yQ cu TLimits dQ TMsg fw)
theorem Es {l:List Head} {i:Nat} (h:i < l.length):gD (l.take i)++ [l[i].c]=gD (l.take (i+1)):=by
 have e:gD (l.take (i+1))=gD (l.take i)++gD [l[i]]:=by
  rw[List.take_add_one,List.getElem?_eq_getElem h];exact List.map_append
 rw[e];rfl
abbrev jf:Nat:=316
def jP:AF:=⟨1,5,[.tmp 2],(.seq (.ops [.i (.mov 2 (.c (.val false [.nils])))]) (.seq (.ops [.i (.bse 6),qm 3 6]) (.seq (.seq (.ops [qm 7 0,qn 8 7, .i (.mov 9 (qi 0))]) (.block 0 (.loop [18,17,16,15,14,13,12,11,10,5] (.seq (.ops [qd 10 .lss 9 8]) (.seq (.cond (.s 10) .skip (.exit 0)) (.seq (.block 1 (.seq (.ops [.i (.iad 11 (.s 7) (.s 9) 10), .i (.ldh 12 (.s 11) 10 true), .i (.lal 5 qz),qs 5 5 12 10]) (.ops [qm 13 3,ql 14 5 5 10 true,qk 16 290 14, .i (.lsl 16 10 1 qz [(0,10,(.s 15))]), .i (.app 17 64 10 160 (.s 13) (.s 16)),qm 3 17]))) (.ops [.i (.bin 18 .add (.s 9) (qi 1)),qm 9 18]))))))) (.seq (.ops [qm 19 3,qm 2 19]) .ret))))⟩
theorem vx:cd jf=some jP:=by kernel_rfl
theorem C9 (l:List Head) (h0:Sz l.length) (hw:∀h∈l,h.wc):VC cd jf (aJ [(false,[.sl (gD l)])]) (fun rs _=>rs= [(false,[.o true (some (64,10)) (gD l)])]):=by
 simp only[Sz]at h0
 refine aa vx rfl ?_
 simp(disch:=omega) [jP,cL,VY]
 refine aO (σ:=Nat×Nat) (f1:=_) (es0:=_) (by simp(disch:=omega) [VY];rfl) (by simp(disch:=omega) [VY];rfl) (fun p=> [(9, .val false [.int .i64 p.1]),(3, .val false [.ow 6 p.2])]) (fun p=> [(6, .sl p.2 true true (some (64,10)) (gD (l.take p.1)))])
  (fun p g=>g+p.1=l.length) (0,1) l.length (by simp(disch:=omega) [VY]) (by simp(disch:=omega) [gD,VY]) (by omega) ?_
 rintro⟨i,v⟩ n g hg
 simp only at hg
 simp(disch:=omega) [VY]
 refine ab (fun h1=> ?_) (fun h1=> ?_)
 ·have hx:i < l.length:=by omega
  simp(disch:=omega) [ew hx,Head.c,VY]
  refine ah (hX l[i] (hw _ (List.getElem_mem hx))) rfl rfl ?_
  have hl:(gD (l.take i)).length=i:=by rw[cL];simp;omega
  have hs:=Es hx
  simp only[Head.c]at hs
  simp(disch:=omega) [hl,Head.o,hs,VY]
  exact⟨i+1,n+10,g - 1,by omega,by omega,⟨by omega,by omega⟩,by omega,rfl⟩
 ·simp(disch:=omega) [VY]
  have:i=l.length:=by omega
  subst this
  rw[List.take_length]
abbrev ks:Nat:=301
def kq:AF:=⟨1,5,[.tmp 2],(.seq (.ops [.i (.mov 2 (.c (.val false [.nils])))]) (.seq (.ops [.i (.bse 6),qm 3 6]) (.seq (.seq (.ops [qm 7 0,qn 8 7, .i (.mov 9 (qi 0))]) (.block 0 (.loop [18,17,16,15,14,13,12,11,10,5] (.seq (.ops [qd 10 .lss 9 8]) (.seq (.cond (.s 10) .skip (.exit 0)) (.seq (.block 1 (.seq (.ops [.i (.iad 11 (.s 7) (.s 9) 10), .i (.ldh 12 (.s 11) 10 true), .i (.lal 5 qz),qs 5 5 12 10]) (.ops [qm 13 3,ql 14 5 5 10 true,qk 16 252 14, .i (.lsl 16 10 1 qz [(0,10,(.s 15))]), .i (.app 17 64 10 160 (.s 13) (.s 16)),qm 3 17]))) (.ops [.i (.bin 18 .add (.s 9) (qi 1)),qm 9 18]))))))) (.seq (.ops [qm 19 3,qm 2 19]) .ret))))⟩
theorem xa:cd ks=some kq:=by kernel_rfl
theorem E4 (l:List Head) (h0:Sz l.length) (hw:∀h∈l,h.wc):VC cd ks (aJ [(false,[.sl (gD l)])]) (fun rs _=>rs= [(false,[.o true (some (64,10)) (gD l)])]):=by
 simp only[Sz]at h0
 refine aa xa rfl ?_
 simp(disch:=omega) [kq,cL,VY]
 refine aO (σ:=Nat×Nat) (f1:=_) (es0:=_) (by simp(disch:=omega) [VY];rfl) (by simp(disch:=omega) [VY];rfl) (fun p=> [(9, .val false [.int .i64 p.1]),(3, .val false [.ow 6 p.2])]) (fun p=> [(6, .sl p.2 true true (some (64,10)) (gD (l.take p.1)))])
  (fun p g=>g+p.1=l.length) (0,1) l.length (by simp(disch:=omega) [VY]) (by simp(disch:=omega) [gD,VY]) (by omega) ?_
 rintro⟨i,v⟩ n g hg
 simp only at hg
 simp(disch:=omega) [VY]
 refine ab (fun h1=> ?_) (fun h1=> ?_)
 ·have hx:i < l.length:=by omega
  simp(disch:=omega) [ew hx,Head.c,VY]
  refine ah (so l[i] (hw _ (List.getElem_mem hx))) rfl rfl ?_
  have hl:(gD (l.take i)).length=i:=by rw[cL];simp;omega
  have hs:=Es hx
  simp only[Head.c]at hs
  simp(disch:=omega) [hl,Head.o,hs,VY]
  exact⟨i+1,n+10,g - 1,by omega,by omega,⟨by omega,by omega⟩,by omega,rfl⟩
 ·simp(disch:=omega) [VY]
  have:i=l.length:=by omega
  subst this
  rw[List.take_length]
def Proof.wc (p:Proof):Prop:=p.wf∧(∀h∈p.heads,h.wc)∧p.qc.wc
def Proof.o (p:Proof):List E:= [.o true (some (64,10)) (gD p.heads), .p (.int .i64 p.qc.view), .p (.int .i64 p.qc.height), .o true (some (5,1)) (bytes p.qc.block), .o true (some (5,1)) (bytes p.qc.bits), .o true (some (24,1)) (cS p.qc.tags)]
abbrev gk:Nat:=293
def gh:AF:=⟨1,4,[.cell 2 6 true],(.seq (.ops [.i (.lbox 1 (.s 0)), .i (.lal 2 [.nils, .int .i64 0, .int .i64 0, .nils, .nils, .nils])]) (.seq (.ops [qf 3 1 0,ql 4 1 3 1 false,qk 6 316 4,qf 6 1 1,ql 7 1 6 5 true,qk 9 289 7, .i (.bld 9 [.nils, .int .i64 0, .int .i64 0, .nils, .nils, .nils] [(0,1,(.s 5)),(1,5,(.s 8))]),qs 2 2 9 6]) .ret))⟩
theorem pO:cd gk=some gh:=by kernel_rfl
theorem xj (p:Proof) (hw:p.wc):VC cd gk (aJ [(true,p.c)]) (fun rs _=>rs= [(true,p.o)]):=by
 refine aa pO rfl ?_
 simp(disch:=omega) [gh,Proof.c,VY]
 refine ah (C9 p.heads hw.1.1.1 hw.2.1) rfl rfl ?_
 simp(disch:=omega) [VY]
 refine ah (kn p.qc hw.2.2) rfl rfl ?_
 simp(disch:=omega) [Proof.o,Qc.o,VY]
abbrev mE:Nat:=258
def me:AF:=⟨1,4,[.cell 2 6 true],(.seq (.ops [.i (.lbox 1 (.s 0)), .i (.lal 2 [.nils, .int .i64 0, .int .i64 0, .nils, .nils, .nils])]) (.seq (.ops [qf 3 1 0,ql 4 1 3 1 false,qk 6 301 4,qf 6 1 1,ql 7 1 6 5 true,qk 9 250 7, .i (.bld 9 [.nils, .int .i64 0, .int .i64 0, .nils, .nils, .nils] [(0,1,(.s 5)),(1,5,(.s 8))]),qs 2 2 9 6]) .ret))⟩
theorem zt:cd mE=some me:=by kernel_rfl
theorem FT (p:Proof) (hw:p.wc):VC cd mE (aJ [(true,p.c)]) (fun rs _=>rs= [(true,p.o)]):=by
 refine aa zt rfl ?_
 simp(disch:=omega) [me,Proof.c,VY]
 refine ah (E4 p.heads hw.1.1.1 hw.2.1) rfl rfl ?_
 simp(disch:=omega) [VY]
 refine ah (sx p.qc hw.2.2) rfl rfl ?_
 simp(disch:=omega) [Proof.o,Qc.o,VY]
def ei (p:Proof):List (Bool×List E):= [(true,[.p (.int .i64 6), .p (.int .i64 0), .p (.int .i64 0), .p .nils, .p (.int .i64 0), .p .nils, .p (.int .i64 0), .p (.int .i64 0), .p .nils, .p .nils, .p .nils, .p (.int .i64 0), .p (.int .i64 0), .p (.int .i64 0), .p .nils, .p .nils, .p (.int .i64 0), .p (.int .i64 0), .p .nils, .p .nils, .p .nils, .p (.int .i64 0), .p (.int .i64 0), .p (.int .i64 0), .p .nils, .p .nils, .p (.int .i64 0), .p (.int .i64 0), .p .nils, .p .nils, .p .nils, .p .nils, .p (.int .i64 0), .p .nils, .o true (some (64,10)) (gD p.heads), .p (.int .i64 p.qc.view), .p (.int .i64 p.qc.height), .o true (some (5,1)) (bytes p.qc.block), .o true (some (5,1)) (bytes p.qc.bits), .o true (some (24,1)) (cS p.qc.tags), .p (.int .i64 0), .p (.int .i64 0), .p (.int .i64 0), .p .nils, .p .nils])]
abbrev oz:Nat:=233
def nY:AF:=⟨1,3,[.cell 2 45 true],(.seq (.ops [.i (.lbox 1 (.s 0)), .i (.lal 2 [.int .i64 0, .int .i64 0, .int .i64 0, .nils, .int .i64 0, .nils, .int .i64 0, .int .i64 0, .nils, .nils, .nils, .int .i64 0, .int .i64 0, .int .i64 0, .nils, .nils, .int .i64 0, .int .i64 0, .nils, .nils, .nils, .int .i64 0, .int .i64 0, .int .i64 0, .nils, .nils, .int .i64 0, .int .i64 0, .nils, .nils, .nils, .nils, .int .i64 0, .nils, .nils, .int .i64 0, .int .i64 0, .nils, .nils, .nils, .int .i64 0, .int .i64 0, .int .i64 0, .nils, .nils])]) (.seq (.ops [ql 3 1 1 6 true,qk 5 293 3, .i (.bld 5 [.int .i64 0, .int .i64 0, .int .i64 0, .nils, .int .i64 0, .nils, .int .i64 0, .int .i64 0, .nils, .nils, .nils, .int .i64 0, .int .i64 0, .int .i64 0, .nils, .nils, .int .i64 0, .int .i64 0, .nils, .nils, .nils, .int .i64 0, .int .i64 0, .int .i64 0, .nils, .nils, .int .i64 0, .int .i64 0, .nils, .nils, .nils, .nils, .int .i64 0, .nils, .nils, .int .i64 0, .int .i64 0, .nils, .nils, .nils, .int .i64 0, .int .i64 0, .int .i64 0, .nils, .nils] [(0,1,(qi 6)),(34,6,(.s 4))]),qs 2 2 5 45]) .ret))⟩
theorem zo:cd oz=some nY:=by kernel_rfl
theorem xb (p:Proof) (hw:p.wc):VC cd oz (aJ [(true,p.c)]) (fun rs _=>rs=ei p):=by
 refine aa zo rfl ?_
 simp(disch:=omega) [nY,Proof.c,VY]
 refine ah (xj p hw) rfl rfl ?_
 simp(disch:=omega) [ei,Proof.o,VY]
abbrev oW:Nat:=176
def nW:AF:=⟨1,3,[.cell 2 45 true],(.seq (.ops [.i (.lbox 1 (.s 0)), .i (.lal 2 [.int .i64 0, .int .i64 0, .int .i64 0, .nils, .int .i64 0, .nils, .int .i64 0, .int .i64 0, .nils, .nils, .nils, .int .i64 0, .int .i64 0, .int .i64 0, .nils, .nils, .int .i64 0, .int .i64 0, .nils, .nils, .nils, .int .i64 0, .int .i64 0, .int .i64 0, .nils, .nils, .int .i64 0, .int .i64 0, .nils, .nils, .nils, .nils, .int .i64 0, .nils, .nils, .int .i64 0, .int .i64 0, .nils, .nils, .nils, .int .i64 0, .int .i64 0, .int .i64 0, .nils, .nils])]) (.seq (.ops [ql 3 1 1 6 true,qk 5 258 3, .i (.bld 5 [.int .i64 0, .int .i64 0, .int .i64 0, .nils, .int .i64 0, .nils, .int .i64 0, .int .i64 0, .nils, .nils, .nils, .int .i64 0, .int .i64 0, .int .i64 0, .nils, .nils, .int .i64 0, .int .i64 0, .nils, .nils, .nils, .int .i64 0, .int .i64 0, .int .i64 0, .nils, .nils, .int .i64 0, .int .i64 0, .nils, .nils, .nils, .nils, .int .i64 0, .nils, .nils, .int .i64 0, .int .i64 0, .nils, .nils, .nils, .int .i64 0, .int .i64 0, .int .i64 0, .nils, .nils] [(0,1,(qi 6)),(34,6,(.s 4))]),qs 2 2 5 45]) .ret))⟩
theorem yB:cd oW=some nW:=by kernel_rfl
theorem xf (p:Proof) (hw:p.wc):VC cd oW (aJ [(true,p.c)]) (fun rs _=>rs=ei p):=by
 refine aa yB rfl ?_
 simp(disch:=omega) [nW,Proof.c,VY]
 refine ah (FT p hw) rfl rfl ?_
 simp(disch:=omega) [ei,Proof.o,VY]
theorem Proof.RK {q:Proof} (h:aG dQ q.tv) (hw:wt q.tv≤1048576):q.wc:=Proof.of h hw
structure Block where
 head:Head
 txs:List Bytes
def Block.c (x:Block):List D:=x.head.c++ [.sl (cS x.txs)]
def Block.wc (x:Block):Prop:=x.head.wc∧Bv x.txs
def Block.o (x:Block):List E:= [.p (.int .i64 x.head.view), .p (.int .i64 x.head.height), .p (.int .i64 x.head.proposer), .o true (some (5,1)) (bytes x.head.parent), .o true (some (5,1)) (bytes x.head.root), .p (.int .i64 x.head.qc.view), .p (.int .i64 x.head.qc.height), .o true (some (5,1)) (bytes x.head.qc.block), .o true (some (5,1)) (bytes x.head.qc.bits), .o true (some (24,1)) (cS x.head.qc.tags), .o true (some (24,1)) (cS x.txs)]
abbrev gl:Nat:=291
def gq:AF:=⟨1,4,[.cell 2 11 true],(.seq (.ops [.i (.lbox 1 (.s 0)), .i (.lal 2 [.int .i64 0, .int .i64 0, .int .i64 0, .nils, .nils, .int .i64 0, .int .i64 0, .nils, .nils, .nils, .nils])]) (.seq (.ops [qf 3 1 0,ql 4 1 3 10 true,qk 6 290 4,qf 6 1 10,ql 7 1 6 1 false,qk 9 315 7, .i (.bld 9 [.int .i64 0, .int .i64 0, .int .i64 0, .nils, .nils, .int .i64 0, .int .i64 0, .nils, .nils, .nils, .nils] [(0,10,(.s 5)),(10,1,(.s 8))]),qs 2 2 9 11]) .ret))⟩
theorem pM:cd gl=some gq:=by kernel_rfl
theorem xd (x:Block) (hw:x.wc):VC cd gl (aJ [(true,x.c)]) (fun rs _=>rs= [(true,x.o)]):=by
 refine aa pM rfl ?_
 simp(disch:=omega) [gq,Block.c,Head.c,List.cons_append,List.nil_append,VY]
 refine ah (hX x.head hw.1) rfl rfl ?_
 simp(disch:=omega) [Head.o,VY]
 refine ah (mC x.txs hw.2) rfl rfl ?_
 simp(disch:=omega) [Block.o,VY]
abbrev mG:Nat:=253
def oe:AF:=⟨1,4,[.cell 2 11 true],(.seq (.ops [.i (.lbox 1 (.s 0)), .i (.lal 2 [.int .i64 0, .int .i64 0, .int .i64 0, .nils, .nils, .int .i64 0, .int .i64 0, .nils, .nils, .nils, .nils])]) (.seq (.ops [qf 3 1 0,ql 4 1 3 10 true,qk 6 252 4,qf 6 1 10,ql 7 1 6 1 false,qk 9 299 7, .i (.bld 9 [.int .i64 0, .int .i64 0, .int .i64 0, .nils, .nils, .int .i64 0, .int .i64 0, .nils, .nils, .nils, .nils] [(0,10,(.s 5)),(10,1,(.s 8))]),qs 2 2 9 11]) .ret))⟩
theorem yF:cd mG=some oe:=by kernel_rfl
theorem FV (x:Block) (hw:x.wc):VC cd mG (aJ [(true,x.c)]) (fun rs _=>rs= [(true,x.o)]):=by
 refine aa yF rfl ?_
 simp(disch:=omega) [oe,Block.c,Head.c,List.cons_append,List.nil_append,VY]
 refine ah (so x.head hw.1) rfl rfl ?_
 simp(disch:=omega) [Head.o,VY]
 refine ah (rR x.txs hw.2) rfl rfl ?_
 simp(disch:=omega) [Block.o,VY]
def eo (x:Block):List (Bool×List E):= [(true,[.p (.int .i64 4), .p (.int .i64 0), .p (.int .i64 0), .p .nils, .p (.int .i64 0), .p .nils, .p (.int .i64 0), .p (.int .i64 0), .p .nils, .p .nils, .p .nils, .p (.int .i64 0), .p (.int .i64 0), .p (.int .i64 0), .p .nils, .p .nils, .p (.int .i64 0), .p (.int .i64 0), .p .nils, .p .nils, .p .nils, .p (.int .i64 x.head.view), .p (.int .i64 x.head.height), .p (.int .i64 x.head.proposer), .o true (some (5,1)) (bytes x.head.parent), .o true (some (5,1)) (bytes x.head.root), .p (.int .i64 x.head.qc.view), .p (.int .i64 x.head.qc.height), .o true (some (5,1)) (bytes x.head.qc.block), .o true (some (5,1)) (bytes x.head.qc.bits), .o true (some (24,1)) (cS x.head.qc.tags), .o true (some (24,1)) (cS x.txs), .p (.int .i64 0), .p .nils, .p .nils, .p (.int .i64 0), .p (.int .i64 0), .p .nils, .p .nils, .p .nils, .p (.int .i64 0), .p (.int .i64 0), .p (.int .i64 0), .p .nils, .p .nils])]
abbrev oO:Nat:=231
def mT:AF:=⟨1,3,[.cell 2 45 true],(.seq (.ops [.i (.lbox 1 (.s 0)), .i (.lal 2 [.int .i64 0, .int .i64 0, .int .i64 0, .nils, .int .i64 0, .nils, .int .i64 0, .int .i64 0, .nils, .nils, .nils, .int .i64 0, .int .i64 0, .int .i64 0, .nils, .nils, .int .i64 0, .int .i64 0, .nils, .nils, .nils, .int .i64 0, .int .i64 0, .int .i64 0, .nils, .nils, .int .i64 0, .int .i64 0, .nils, .nils, .nils, .nils, .int .i64 0, .nils, .nils, .int .i64 0, .int .i64 0, .nils, .nils, .nils, .int .i64 0, .int .i64 0, .int .i64 0, .nils, .nils])]) (.seq (.ops [ql 3 1 1 11 true,qk 5 291 3, .i (.bld 5 [.int .i64 0, .int .i64 0, .int .i64 0, .nils, .int .i64 0, .nils, .int .i64 0, .int .i64 0, .nils, .nils, .nils, .int .i64 0, .int .i64 0, .int .i64 0, .nils, .nils, .int .i64 0, .int .i64 0, .nils, .nils, .nils, .int .i64 0, .int .i64 0, .int .i64 0, .nils, .nils, .int .i64 0, .int .i64 0, .nils, .nils, .nils, .nils, .int .i64 0, .nils, .nils, .int .i64 0, .int .i64 0, .nils, .nils, .nils, .int .i64 0, .int .i64 0, .int .i64 0, .nils, .nils] [(0,1,(qi 4)),(21,11,(.s 4))]),qs 2 2 5 45]) .ret))⟩
theorem xR:cd oO=some mT:=by kernel_rfl
theorem xc (x:Block) (hw:x.wc):VC cd oO (aJ [(true,x.c)]) (fun rs _=>rs=eo x):=by
 refine aa xR rfl ?_
 simp(disch:=omega) [mT,Block.c,Head.c,List.cons_append,List.nil_append,VY]
 refine ah (xd x hw) rfl rfl ?_
 simp(disch:=omega) [eo,Block.o,VY]
abbrev nA:Nat:=172
def mj:AF:=⟨1,3,[.cell 2 45 true],(.seq (.ops [.i (.lbox 1 (.s 0)), .i (.lal 2 [.int .i64 0, .int .i64 0, .int .i64 0, .nils, .int .i64 0, .nils, .int .i64 0, .int .i64 0, .nils, .nils, .nils, .int .i64 0, .int .i64 0, .int .i64 0, .nils, .nils, .int .i64 0, .int .i64 0, .nils, .nils, .nils, .int .i64 0, .int .i64 0, .int .i64 0, .nils, .nils, .int .i64 0, .int .i64 0, .nils, .nils, .nils, .nils, .int .i64 0, .nils, .nils, .int .i64 0, .int .i64 0, .nils, .nils, .nils, .int .i64 0, .int .i64 0, .int .i64 0, .nils, .nils])]) (.seq (.ops [ql 3 1 1 11 true,qk 5 253 3, .i (.bld 5 [.int .i64 0, .int .i64 0, .int .i64 0, .nils, .int .i64 0, .nils, .int .i64 0, .int .i64 0, .nils, .nils, .nils, .int .i64 0, .int .i64 0, .int .i64 0, .nils, .nils, .int .i64 0, .int .i64 0, .nils, .nils, .nils, .int .i64 0, .int .i64 0, .int .i64 0, .nils, .nils, .int .i64 0, .int .i64 0, .nils, .nils, .nils, .nils, .int .i64 0, .nils, .nils, .int .i64 0, .int .i64 0, .nils, .nils, .nils, .int .i64 0, .int .i64 0, .int .i64 0, .nils, .nils] [(0,1,(qi 4)),(21,11,(.s 4))]),qs 2 2 5 45]) .ret))⟩
theorem zr:cd nA=some mj:=by kernel_rfl
theorem xm (x:Block) (hw:x.wc):VC cd nA (aJ [(true,x.c)]) (fun rs _=>rs=eo x):=by
 refine aa zr rfl ?_
 simp(disch:=omega) [mj,Block.c,Head.c,List.cons_append,List.nil_append,VY]
 refine ah (FV x hw) rfl rfl ?_
 simp(disch:=omega) [eo,Block.o,VY]
def Block.tv (x:Block):Tv:= .r [x.head.tv,vk x.txs]
theorem Block.enc (x:Block):enc fw x.tv=x.c:=by simp only[Block.tv,Head.enc,eg,bK,cC,du,dJ,fG,eT,dy,fQ,Block.c,Head.c,Head.c,Qc.c,List.cons_append,List.nil_append,List.append_assoc]
theorem Block.ex {v:Tv} (h:aG fw v):∃x:Block,v=x.tv:=by
 obtain⟨vs,rfl,h⟩:=h.st
 obtain⟨v0,_,rfl,h0,h⟩:=h.step
 obtain⟨v1,_,rfl,h1,h⟩:=h.step
 obtain rfl:=h.fin
 obtain⟨n0,rfl⟩:=Head.ex h0
 obtain⟨n1,rfl⟩:=CS h1
 exact⟨⟨n0,n1⟩,rfl⟩
theorem Block.of {x:Block} (h:aG fw x.tv) (hw:wt x.tv≤1048576):x.wc:=by
 simp only[Block.tv,fP,cP]at h
 simp only[Block.tv,wt,dq]at hw
 obtain⟨h0,h1,_⟩:=h
 exact⟨Head.of h0 (by omega),GG (by omega)⟩
theorem Block.RK {q:Block} (h:aG fw q.tv) (hw:wt q.tv≤1048576):q.wc:=Block.of h hw
end Go.Eng.F
namespace Go.Eng.F
structure cW where
 l:ax
 heads:List Head
def cW.c (f:cW):List D:=f.l.c++ [.sl (gD f.heads)]
def cW.wf (f:cW):Prop:=pE f.heads
def cW.wc (f:cW):Prop:=Sz f.heads.length∧∀h∈f.heads,h.wc
theorem cW.wc.wf {f:cW} (h:f.wc):f.wf:=⟨h.1,fun x hx=>(h.2 x hx).1⟩
def hh (l:ax) (hs:List Head) (i:Nat):Bytes:=match hs[i]? with|some h=>PD l h|none=> []
theorem av:bytes []= []:=rfl
def cW.o (f:cW):List E:= [.p (.int .i64 f.l.n), .p (.int .i64 f.l.tx), .p (.int .i64 f.l.txs), .p (.int .i64 f.l.frame), .p (.int .i64 f.l.heads), .o true (some (64,10)) (gD f.heads)]
end Go.Eng.F
namespace Go.Eng.F
open Go.Eng.U (yQ cu TLimits dQ AU iM ob tt)
structure Row where
 weight:Int
 key:Bytes
def Row.c (r:Row):List D:= [.int .i64 r.weight, .sl (bytes r.key)]
def Row.wf (r:Row):Prop:=ma r.weight∧Sz r.key.length
structure Table where
 rows:List Row
def rws (l:List Row):List (List D):=l.map Row.c
def Table.c (t:Table):List D:= [.sl (rws t.rows)]
def Table.wf (t:Table):Prop:=Sz t.rows.length∧∀r∈t.rows,r.wf
def Row.tv (x:Row):Tv:= .r [.i x.weight,ur x.key]
theorem Row.enc (x:Row):enc AU x.tv=x.c:=by simp only[Row.tv,eg,bK,cC,du,dJ,fG,eT,dy,fQ,Row.c,List.cons_append,List.nil_append,List.append_assoc]
theorem Row.ex {v:Tv} (h:aG AU v):∃x:Row,v=x.tv:=by
 obtain⟨vs,rfl,h⟩:=h.st
 obtain⟨v0,_,rfl,h0,h⟩:=h.step
 obtain⟨v1,_,rfl,h1,h⟩:=h.step
 obtain rfl:=h.fin
 obtain⟨n0,rfl,_⟩:=h0.int
 obtain⟨n1,rfl⟩:=hC h1
 exact⟨⟨n0,n1⟩,rfl⟩
theorem Row.of {x:Row} (h:aG AU x.tv) (hw:wt x.tv≤1048576):x.wf:=by
 simp only[Row.tv,fP,cP]at h
 simp only[Row.tv,wt,dq]at hw
 obtain⟨h0,h1,_⟩:=h
 exact⟨dU (ok_int.1 h0),ry (by omega)⟩
def F5 (l:List Row):Tv:= .l (l.map Row.tv)
theorem MS (l:List Row):enc (.sl AU) (F5 l)= [.sl (rws l)]:=by
 simp only[F5,zz,List.map_map,rws]
 congr 2
 exact List.map_congr_left fun x _=>Row.enc x
theorem L8 {v:Tv} (h:aG (.sl AU) v):∃l,v=F5 l:=by
 obtain⟨xs,rfl,_,h2⟩:=h.sl
 obtain⟨ys,rfl⟩:=j5 (f:=Row.tv) (P:=aG AU) (fun v hv=>Row.ex hv) h2
 exact⟨ys,rfl⟩
theorem Pq {l:List Row} (h:aG (.sl AU) (F5 l)) (hw:wt (F5 l)≤1048576):Sz l.length∧∀x∈l,x.wf:=by
 unfold F5 at h hw
 rw[GC]at hw
 have h2:=(GU.1 h).2
 simp only[List.length_map]at hw
 refine⟨by unfold Sz;omega,fun x hx=>Row.of (h2 _ (List.mem_map_of_mem hx)) ?_⟩
 have:=pw (f:=Row.tv) hx
 omega
def Table.tv (x:Table):Tv:= .r [F5 x.rows]
theorem Table.enc (x:Table):enc iM x.tv=x.c:=by simp only[Table.tv,MS,eg,bK,cC,du,dJ,fG,eT,dy,fQ,Table.c,List.cons_append,List.nil_append,List.append_assoc]
theorem Table.ex {v:Tv} (h:aG iM v):∃x:Table,v=x.tv:=by
 obtain⟨vs,rfl,h⟩:=h.st
 obtain⟨v0,_,rfl,h0,h⟩:=h.step
 obtain rfl:=h.fin
 obtain⟨n0,rfl⟩:=L8 h0
 exact⟨⟨n0⟩,rfl⟩
theorem Table.of {x:Table} (h:aG iM x.tv) (hw:wt x.tv≤1048576):x.wf:=by
 simp only[Table.tv,fP,cP]at h
 simp only[Table.tv,wt,dq]at hw
 obtain⟨h0,_⟩:=h
 exact Pq h0 (by omega)
end Go.Eng.F
namespace Go.Eng.F
theorem tu {b:Bytes} (h:hash b=true):b.length=32:=by simpa[hash]using h
theorem dP {n a b:Int} (h:eb n a b=true):a≤n∧n≤b:=by simpa[eb]using h
end Go.Eng.F
namespace Go.Eng.F
def ct (c:Nat):Nat:=if c % 2=1 then(c / 2) ^^^ 3988292384 else c / 2
def An:Nat→Nat→Nat
 |0,c=>c
 |n+1,c=>ct (An n c)
def jJ (c:Nat) (b:Bytes):Nat:=b.foldl (fun c x=>An 8 (c ^^^ x.toNat)) c
def s4 (c:Nat) (b:Bytes):Nat:=jJ (c ^^^ 4294967295) b ^^^ 4294967295
def M5 (b:Bytes):Nat:=s4 0 b
theorem PE {c:Nat} (h:c < 4294967296):ct c < 4294967296:=by
 unfold ct
 split
 ·exact Nat.xor_lt_two_pow (n:=32) (by omega) (by omega)
 ·omega
theorem CH {c:Nat} (h:c < 4294967296):∀n,An n c < 4294967296
 |0=>h
 |n+1=>PE (CH h n)
theorem B4 {a b:Nat} (ha:a < 4294967296) (hb:b < 4294967296):aF .xor .i64 (a:Int) (b:Int)=((a ^^^ b:Nat):Int):=by
 have h:=Nat.xor_lt_two_pow (n:=32) (x:=a) (y:=b) (by omega) (by omega)
 show IntKind.i64.wrap ((BitVec.ofInt 64 (a:Int) ^^^ BitVec.ofInt 64 (b:Int)).toNat:Int)=_
 rw[BitVec.toNat_xor,show BitVec.ofInt 64 (a:Int)=BitVec.ofNat 64 a from rfl,show BitVec.ofInt 64 (b:Int)=BitVec.ofNat 64 b from rfl,BitVec.toNat_ofNat,BitVec.toNat_ofNat,Nat.mod_eq_of_lt (by omega),Nat.mod_eq_of_lt (by omega)]
 exact au (by omega) (by omega)
theorem BT {x y:Int} {a b:Nat} (hx:x=(a:Int)) (hy:y=(b:Int)) (ha:a < 4294967296) (hb:b < 4294967296):aF .xor .i64 x y=((a ^^^ b:Nat):Int):=by
 rw[hx,hy]
 exact B4 ha hb
theorem uJ {a b:Nat} (ha:a < 4294967296) (hb:b < 4294967296):a ^^^ b < 4294967296:=Nat.xor_lt_two_pow (n:=32) (by omega) (by omega)
theorem Nh {c:Nat} (h:c < 4294967296):aF .and .i64 (c:Int) 1=((c % 2:Nat):Int):=by
 show IntKind.i64.wrap ((BitVec.ofInt 64 (c:Int) &&& BitVec.ofInt 64 1).toNat:Int)=_
 rw[BitVec.toNat_and,show BitVec.ofInt 64 (c:Int)=BitVec.ofNat 64 c from rfl,BitVec.toNat_ofNat,Nat.mod_eq_of_lt (by omega),show(BitVec.ofInt 64 1).toNat=2 ^ 1 - 1 from rfl,Nat.and_two_pow_sub_one_eq_mod]
 exact au (by omega) (by omega)
theorem Hb {c:Nat} (h:c < 4294967296):word (c:Int)=true:=by rw[sE];omega
abbrev qV:Nat:=182
def qB:AF:=⟨1,3,[.tmp 2],(.seq (.ops [.i (.mov 2 (qb false))]) (.seq (.ops [qm 3 0, .i (.call 5 67 false [(.s 3),(qi 0),(qi 4294967295)]),qm 2 4]) .ret))⟩
theorem AO:cd qV=some qB:=by kernel_rfl
theorem HX (x:Int):VC cd qV (aJ [(false,[.int .i64 x])]) (fun rs _=>rs=bl (word x)):=by
 refine aa AO rfl ?_
 simp(disch:=omega) [qB,VY]
 refine ah (bq _ _ _) rfl rfl ?_
 simp(disch:=omega) [word,VY]
abbrev nX:Nat:=183
def nP:AF:=⟨1,4,[.tmp 2],(.seq (.ops [.i (.mov 2 (qi 0))]) (.seq (.seq (.ops [qm 3 0, .i (.bin 4 .rem (.s 3) (qi 2)), .i (.bin 5 .eql (.s 4) (qi 1))]) (.cond (.s 5) (.seq (.ops [qm 6 0, .i (.bin 7 .quo (.s 6) (qi 2)), .i (.bin 8 .xor (.s 7) (qi 3988292384)),qm 2 8]) .ret) .skip)) (.seq (.ops [qm 9 0, .i (.bin 10 .quo (.s 9) (qi 2)),qm 2 10]) .ret)))⟩
theorem zE:cd nX=some nP:=by kernel_rfl
theorem F2 (c:Nat) (h:c < 4294967296):VC cd nX (aJ [(false,[.int .i64 (c:Int)])]) (fun rs _=>rs=it (ct c)):=by
 have e1:Int.tmod (c:Int) 2=(c:Int) % 2:=Int.tmod_eq_emod_of_nonneg (by omega)
 have e2:Int.tdiv (c:Int) 2=(c:Int) / 2:=Int.tdiv_eq_ediv_of_nonneg (by omega)
 have e3:aF .xor .i64 ((c:Int) / 2) 3988292384=((c / 2 ^^^ 3988292384:Nat):Int):=BT (by omega) rfl (by omega) (by omega)
 have e4:=uJ (a:=c / 2) (b:=3988292384) (by omega) (by omega)
 refine aa zE rfl ?_
 simp(disch:=omega) [nP,e1,VY]
 refine ab (fun h1=> ?_) (fun h1=> ?_)
 ·have:c % 2=1:=by omega
  simp(disch:=omega) [e2,e3,ct,this,VY]
 ·have:¬c % 2=1:=by omega
  simp(disch:=omega) [e2,ct,this,VY]
abbrev sA:Nat:=248
def sB:AF:=⟨1,5,[.tmp 2],(.seq (.ops [.i (.mov 2 (qi 0))]) (.seq (.seq (.ops [.i (.mov 4 (qi 0))]) (.block 0 (.loop [14,13,12,11,10,9,8,7,6,5,3] (.seq (.ops [.i (.bin 5 .lss (.s 4) (qi 8))]) (.seq (.cond (.s 5) .skip (.exit 0)) (.seq (.block 1 (.seq (.ops [qm 6 0, .i (.bin 7 .and (.s 6) (qi 1)),qm 3 7]) (.seq (.ops [qm 8 0, .i (.bin 9 .shr (.s 8) (.c (.val false [.int .u64 1]))),qm 0 9]) (.seq (.ops [qm 10 3, .i (.bin 11 .eql (.s 10) (qi 1))]) (.cond (.s 11) (.ops [qm 12 0, .i (.bin 13 .xor (.s 12) (qi 3988292384)),qm 0 13]) .skip))))) (.ops [.i (.bin 14 .add (.s 4) (qi 1)),qm 4 14]))))))) (.seq (.ops [qm 15 0,qm 2 15]) .ret)))⟩
theorem B5:cd sA=some sB:=by kernel_rfl
theorem JQ (c:Nat) (h:c < 4294967296):VC cd sA (aJ [(false,[.int .i64 (c:Int)])]) (fun rs _=>rs=it (An 8 c)):=by
 refine aa B5 rfl ?_
 simp(disch:=omega) [sB,VY]
 refine bM (σ:=Nat) (f1:=_) (es0:=_) (by simp(disch:=omega) [VY];rfl) (by simp(disch:=omega) [VY];rfl) (fun i=> [(0, .val false [.int .i64 (An i c:Int)]),(4, .val false [.int .i64 (i:Int)])]) (fun _=> []) (fun i g=>g+i=8) 0 8 (by simp(disch:=omega) [An,VY]) (by simp(disch:=omega) [VY]) (by omega) ?_
 rintro i n g hg P hP
 simp(disch:=omega) [VY]
 refine ab (fun h1=> ?_) (fun h1=> ?_)
 ·have hl:=CH h i
  have e0:aF .and .i64 (An i c:Int) 1=(An i c:Int) % 2:=(Nh hl).trans (by omega)
  have e1:Int.fdiv (An i c:Int) 2=(An i c:Int) / 2:=Int.fdiv_eq_ediv_of_nonneg _ (by omega)
  have e3:aF .xor .i64 ((An i c:Int) / 2) 3988292384=((An i c / 2 ^^^ 3988292384:Nat):Int):=BT (by omega) rfl (by omega) (by omega)
  simp(disch:=omega) [e0,e1,e3,IntKind.bits,VY]
  refine ab (fun h2=> ?_) (fun h2=> ?_)
  ·have h3:An i c % 2=1:=by omega
   simp(disch:=omega) [e3,VY]
   exact hP (i+1) (g - 1) _ _ (by omega) (by omega) (by simp(disch:=omega) [An,ct,h3,e3,VY]) (by simp(disch:=omega) [VY])
  ·have h3:¬An i c % 2=1:=by omega
   simp(disch:=omega) [VY]
   exact hP (i+1) (g - 1) _ _ (by omega) (by omega) (by simp(disch:=omega) [An,ct,h3,VY]) (by simp(disch:=omega) [VY])
 ·have:i=8:=by omega
  subst this
  simp(disch:=omega) [VY]
theorem tz (b:Bytes):∀ {c:Nat},c < 4294967296→jJ c b < 4294967296:=by
 unfold jJ
 induction b with
 |nil=>exact fun h=>h
 |cons x r ih=>
  refine fun {c} h=> ?_
  have hx:x.toNat < 4294967296:=by have:=Eg x;omega
  rw[List.foldl_cons]
  exact ih (CH (uJ h hx) 8)
theorem HU (b:Bytes) (x:UInt8) (c:Nat):jJ c (b++ [x])=An 8 (jJ c b ^^^ x.toNat):=by
 unfold jJ
 rw[List.foldl_append]
 rfl
theorem BU {b:Bytes} {i:Nat} (h:i < b.length) (c:Nat):jJ c (b.take (i+1))=An 8 (jJ c (b.take i) ^^^ b[i].toNat):=by
 rw[List.take_add_one,List.getElem?_eq_getElem h]
 exact HU _ _ _
abbrev mN:Nat:=165
def oh:AF:=⟨2,5,[.tmp 4],(.seq (.ops [.i (.mov 4 (qi 0))]) (.seq (.seq (.ops [qm 7 0,qk 9 247 7, .i (.not 9 (.s 8))]) (.cond (.s 9) (.seq (.ops [.i (.mov 4 (qi 0))]) .ret) .skip)) (.seq (.ops [qm 10 0, .i (.bin 11 .xor (.s 10) (qi 4294967295)),qm 0 11]) (.seq (.seq (.ops [qm 12 1,qn 13 12, .i (.mov 14 (qi 0))]) (.block 0 (.loop [23,22,21,20,19,18,17,16,15,6] (.seq (.ops [qd 15 .lss 14 13]) (.seq (.cond (.s 15) .skip (.exit 0)) (.seq (.block 1 (.seq (.ops [.i (.iad 16 (.s 12) (.s 14) 1), .i (.ldh 17 (.s 16) 1 false),qm 6 17]) (.ops [qm 18 0,qm 19 6, .i (.cvi 20 .i64 (.s 19)),qd 21 .xor 18 20,qk 23 248 21,qm 0 22]))) (.ops [.i (.bin 23 .add (.s 14) (qi 1)),qm 14 23]))))))) (.seq (.ops [qm 24 0, .i (.bin 25 .xor (.s 24) (qi 4294967295)),qm 4 25]) .ret)))))⟩
theorem zT:cd mN=some oh:=by kernel_rfl
theorem xA (c:Nat) (b:Bytes) (h:c < 4294967296) (hb:b.length≤1073741824):VC cd mN (aJ [(false,[.int .i64 (c:Int)]),(false,[.sl (bytes b)])]) (fun rs _=>rs=it (s4 c b)):=by
 have h0:=uJ (a:=c) (b:=4294967295) h (by omega)
 have e0:aF .xor .i64 (c:Int) 4294967295=((c ^^^ 4294967295:Nat):Int):=BT rfl rfl h (by omega)
 refine aa zT rfl ?_
 simp(disch:=omega) [oh,VY]
 refine ah (uU c) rfl rfl ?_
 simp(disch:=omega) [Hb h,e0,VY]
 refine bM (σ:=Nat) (f1:=_) (es0:=_) (by simp(disch:=omega) [VY];rfl) (by simp(disch:=omega) [VY];rfl) (fun i=> [(0, .val false [.int .i64 (jJ (c ^^^ 4294967295) (b.take i):Int)]),(14, .val false [.int .i64 (i:Int)])]) (fun _=> []) (fun i g=>g+i=b.length) 0 b.length (by simp(disch:=omega) [jJ,VY]) (by simp(disch:=omega) [VY]) (by omega) ?_
 rintro i n g hg P hP
 simp(disch:=omega) [VY]
 refine ab (fun h1=> ?_) (fun h1=> ?_)
 ·have hi:i < b.length:=by omega
  have hl:=tz (b.take i) h0
  have hx:=Eg b[i]
  have e1:=au (n:=(b[i].toNat:Int)) (by omega) (by omega)
  have e2:=B4 hl (b:=b[i].toNat) (by omega)
  simp(disch:=omega) [jN hi,e1,e2,VY]
  refine az (JQ (jJ (c ^^^ 4294967295) (b.take i) ^^^ b[i].toNat) (uJ hl (by omega))) ?_
  simp(disch:=omega) [VY]
  exact hP (i+1) (g - 1) _ _ (by omega) (by omega) (by simp(disch:=omega) [BU hi,VY]) (by simp(disch:=omega) [VY])
 ·have:i=b.length:=by omega
  subst this
  have hl:=tz b h0
  have e2:aF .xor .i64 (jJ (c ^^^ 4294967295) b:Int) 4294967295=((jJ (c ^^^ 4294967295) b ^^^ 4294967295:Nat):Int):=BT rfl rfl hl (by omega)
  simp(disch:=omega) [e2,s4,VY]
abbrev oM:Nat:=119
def nU:AF:=⟨2,6,[.tmp 4],(.seq (.ops [.i (.mov 4 (qi 0))]) (.seq (.seq (.ops [qm 9 0,qk 11 182 9, .i (.not 11 (.s 10))]) (.cond (.s 11) (.seq (.ops [.i (.mov 4 (qi 0))]) .ret) .skip)) (.seq (.ops [qm 12 0, .i (.bin 13 .xor (.s 12) (qi 4294967295)),qm 5 13]) (.seq (.seq (.ops [qm 14 1,qn 15 14, .i (.mov 16 (qi 0))]) (.block 0 (.loop [30,29,28,27,26,25,24,23,22,21,20,19,18,17,8,7] (.seq (.ops [qd 17 .lss 16 15]) (.seq (.cond (.s 17) .skip (.exit 0)) (.seq (.block 1 (.seq (.ops [.i (.iad 18 (.s 14) (.s 16) 1), .i (.ldh 19 (.s 18) 1 false),qm 7 19]) (.seq (.ops [qm 20 5,qm 21 7, .i (.cvi 22 .i64 (.s 21)),qd 23 .xor 20 22,qm 5 23]) (.seq (.ops [.i (.mov 8 (qi 0))]) (.block 2 (.loop [29,28,27,26,25,24] (.seq (.seq (.ops [qm 24 8, .i (.bin 25 .lss (.s 24) (qi 8))]) (.cond (.s 25) .skip (.exit 2))) (.seq (.block 3 (.ops [qm 28 5,qk 30 183 28,qm 5 29])) (.ops [qm 26 8, .i (.bin 27 .add (.s 26) (qi 1)),qm 8 27]))))))))) (.ops [.i (.bin 30 .add (.s 16) (qi 1)),qm 16 30]))))))) (.seq (.ops [qm 31 5, .i (.bin 32 .xor (.s 31) (qi 4294967295)),qm 4 32]) .ret)))))⟩
theorem y4:cd oM=some nU:=by kernel_rfl
theorem wT (c:Nat) (b:Bytes) (h:c < 4294967296) (hb:b.length≤1073741824):VC cd oM (aJ [(false,[.int .i64 (c:Int)]),(false,[.sl (bytes b)])]) (fun rs _=>rs=it (s4 c b)):=by
 have h0:=uJ (a:=c) (b:=4294967295) h (by omega)
 have e0:aF .xor .i64 (c:Int) 4294967295=((c ^^^ 4294967295:Nat):Int):=BT rfl rfl h (by omega)
 refine aa y4 rfl ?_
 simp(disch:=omega) [nU,VY]
 refine ah (HX c) rfl rfl ?_
 simp(disch:=omega) [Hb h,e0,VY]
 refine bM (σ:=Nat) (f1:=_) (es0:=_) (by simp(disch:=omega) [VY];rfl) (by simp(disch:=omega) [VY];rfl) (fun i=> [(5, .val false [.int .i64 (jJ (c ^^^ 4294967295) (b.take i):Int)]),(16, .val false [.int .i64 (i:Int)])]) (fun _=> []) (fun i g=>g+i=b.length) 0 b.length (by simp(disch:=omega) [jJ,VY]) (by simp(disch:=omega) [VY]) (by omega) ?_
 rintro i n g hg P hP
 simp(disch:=omega) [VY]
 refine ab (fun h1=> ?_) (fun h1=> ?_)
 ·have hi:i < b.length:=by omega
  have hl:=tz (b.take i) h0
  have hx:=Eg b[i]
  have e1:=au (n:=(b[i].toNat:Int)) (by omega) (by omega)
  have e2:=B4 hl (b:=b[i].toNat) (by omega)
  have hy:=uJ hl (b:=b[i].toNat) (by omega)
  simp(disch:=omega) [jN hi,e1,e2,VY]
  refine bM (σ:=Nat) (f1:=_) (es0:=_) (by simp(disch:=omega) [VY];rfl) (by simp(disch:=omega) [VY];rfl) (fun j=> [(5, .val false [.int .i64 (An j (jJ (c ^^^ 4294967295) (b.take i) ^^^ b[i].toNat):Int)]),(8, .val false [.int .i64 (j:Int)])]) (fun _=> []) (fun j g=>g+j=8) 0 8 (by simp(disch:=omega) [An,VY]) (by simp(disch:=omega) [VY]) (by omega) ?_
  rintro j n2 g2 hg2 P2 hP2
  simp(disch:=omega) [VY]
  refine ab (fun h2=> ?_) (fun h2=> ?_)
  ·simp(disch:=omega) [VY]
   refine az (F2 (An j (jJ (c ^^^ 4294967295) (b.take i) ^^^ b[i].toNat)) (CH hy j)) ?_
   simp(disch:=omega) [VY]
   exact hP2 (j+1) (g2 - 1) _ _ (by omega) (by omega) (by simp(disch:=omega) [An,VY]) (by simp(disch:=omega) [VY])
  ·have:j=8:=by omega
   subst this
   simp(disch:=omega) [VY]
   exact hP (i+1) (g - 1) _ _ (by omega) (by omega) (by simp(disch:=omega) [BU hi,VY]) (by simp(disch:=omega) [VY])
 ·have:i=b.length:=by omega
  subst this
  have hl:=tz b h0
  have e2:aF .xor .i64 (jJ (c ^^^ 4294967295) b:Int) 4294967295=((jJ (c ^^^ 4294967295) b ^^^ 4294967295:Nat):Int):=BT rfl rfl hl (by omega)
  simp(disch:=omega) [e2,s4,VY]
abbrev zI:Nat:=105
def yn:AF:=⟨1,3,[.tmp 2],(.seq (.ops [.i (.mov 2 (qi 0))]) (.seq (.ops [qm 3 0, .i (.call 5 165 false [(qi 0),(.s 3)]),qm 2 4]) .ret))⟩
theorem GM:cd zI=some yn:=by kernel_rfl
theorem FK (b:Bytes) (hb:b.length≤1073741824):VC cd zI (aJ [(false,[.sl (bytes b)])]) (fun rs _=>rs=it (M5 b)):=by
 refine aa GM rfl ?_
 simp(disch:=omega) [yn,VY]
 refine az (xA 0 b (by omega) hb) ?_
 simp(disch:=omega) [M5,VY]
abbrev zL:Nat:=69
def ye:AF:=⟨1,3,[.tmp 2],(.seq (.ops [.i (.mov 2 (qi 0))]) (.seq (.ops [qm 3 0, .i (.call 5 119 false [(qi 0),(.s 3)]),qm 2 4]) .ret))⟩
theorem F9:cd zL=some ye:=by kernel_rfl
theorem Eu (b:Bytes) (hb:b.length≤1073741824):VC cd zL (aJ [(false,[.sl (bytes b)])]) (fun rs _=>rs=it (M5 b)):=by
 refine aa F9 rfl ?_
 simp(disch:=omega) [ye,VY]
 refine az (wT 0 b (by omega) hb) ?_
 simp(disch:=omega) [M5,VY]
end Go.Eng.F
namespace Go.Eng.F
def Pk:Bytes→Nat
 | []=>0
 |x::r=>x.toNat+256 * Pk r
def Pu (s:Bytes) (a:Nat):Nat:=Pk ((s.drop (a+2)).take 2)
def Sg (s:Bytes) (a:Nat):Nat:=Pk ((s.drop (a+4)).take 4)
def Su (s:Bytes) (a:Nat):Bytes:=(s.drop (a+8)).take (Pu s a)
def xF (l:ax) (s:Bytes) (a:Nat):Int×Int:=
 if l.ok=true∧a < s.length then
  if(s.getD a 0).toNat=181 then
   if a+1 < s.length∧¬(s.getD (a+1) 0).toNat=70 then(0,0)else
   if s.length - a < 4 then(1,0)else if ¬eb (Pu s a) 1 l.frame=true then(0,0)else if s.length - a < 8+Pu s a then(1,8+Pu s a)else if Sg s a=M5 (Su s a)then(3,8+Pu s a)else(2,8+Pu s a)
  else(0,0)
 else(0,0)
structure iI where
 skip:Int
 buf:Bytes
def iI.c (p:iI):List D:= [.int .i64 p.skip, .sl (bytes p.buf)]
end Go.Eng.F
namespace Go.Eng.F
end Go.Eng.F
namespace Go.Eng.F
open Go.Eng.U (yQ cu TLimits xJ)
def cW.tv (f:cW):Tv:= .r [f.l.tv,wR f.heads]
theorem cW.enc (f:cW):enc xJ f.tv=f.c:=by simp only[cW.tv,pD,eg,bK,cC,ax.enc,cW.c,List.append_nil]
theorem cW.ex {v:Tv} (h:aG xJ v):∃q:cW,v=q.tv:=by
 obtain⟨vs,rfl,h⟩:=h.st
 obtain⟨v0,_,rfl,h0,h⟩:=h.step
 obtain⟨v1,_,rfl,h1,h⟩:=h.step
 obtain rfl:=h.fin
 obtain⟨n0,rfl⟩:=ax.ex h0
 obtain⟨n1,rfl⟩:=xB h1
 exact⟨⟨n0,n1⟩,rfl⟩
theorem cW.of {f:cW} (h:aG xJ f.tv) (hw:wt f.tv≤1048576):f.wc∧aG TLimits f.l.tv∧f.heads.length≤1048576:=by
 simp only[cW.tv,fP,cP]at h
 simp only[cW.tv,wt,dq]at hw
 obtain⟨h0,h1,_⟩:=h
 have h5:=B8 h1 (by omega)
 have h6:f.heads.length≤wt (wR f.heads):=by unfold wR;rw[GC,List.length_map];omega
 exact⟨⟨h5.1,h5.2⟩,fP.2 (fP.1 h0),by omega⟩
theorem C6 {α:Type} {f:α→Tv} {B:Nat}:∀ {l:List α},(∀x∈l,wt (f x)≤B)→dq (l.map f)≤l.length * B
 | [],_=>by simp[dq]
 |a::l,h=>by
  have h1:=h a (by simp)
  have h2:=C6 (l:=l) fun x hx=>h x (by simp[hx])
  simp only[List.map_cons,dq,List.length_cons,Nat.succ_mul]
  omega
end Go.Eng.F
namespace Go.Eng.F
structure et where
 l:ax
 t:Table
 push:iI
 chain:List Head
def et.c (x:et):List D:= [.int .i64 x.l.n, .int .i64 x.l.tx, .int .i64 x.l.txs, .int .i64 x.l.frame, .int .i64 x.l.heads, .sl (rws x.t.rows), .int .i64 x.push.skip, .sl (bytes x.push.buf), .sl (gD x.chain)]
def et.wc (x:et):Prop:=x.t.wf∧x.push.buf.length≤1073741824∧Sz x.chain.length∧∀h∈x.chain,h.wc
def ht (hs:List Head) (i:Nat):Int:=match hs[i]? with|some h=>h.height|none=>0
structure pR where
 l:ax
 t:Table
 x:et
 own:List Head
def pR.c (d:pR):List D:= [.int .i64 d.l.n, .int .i64 d.l.tx, .int .i64 d.l.txs, .int .i64 d.l.frame, .int .i64 d.l.heads, .sl (rws d.t.rows), .int .i64 d.x.l.n, .int .i64 d.x.l.tx, .int .i64 d.x.l.txs, .int .i64 d.x.l.frame, .int .i64 d.x.l.heads, .sl (rws d.x.t.rows), .int .i64 d.x.push.skip, .sl (bytes d.x.push.buf), .sl (gD d.x.chain), .sl (gD d.own)]
def pR.wc (d:pR):Prop:=d.t.wf∧d.x.wc∧Sz d.own.length∧∀h∈d.own,h.wc
end Go.Eng.F
namespace Go.Eng.F
open Go.Eng.U (yQ cu TLimits iM tt ob Hw)
def iI.wf (p:iI):Prop:=ma p.skip∧Sz p.buf.length
def iI.tv (x:iI):Tv:= .r [.i x.skip,ur x.buf]
theorem iI.enc (x:iI):enc tt x.tv=x.c:=by simp only[iI.tv,eg,bK,cC,du,dJ,fG,eT,dy,fQ,iI.c,List.cons_append,List.nil_append,List.append_assoc]
theorem iI.ex {v:Tv} (h:aG tt v):∃x:iI,v=x.tv:=by
 obtain⟨vs,rfl,h⟩:=h.st
 obtain⟨v0,_,rfl,h0,h⟩:=h.step
 obtain⟨v1,_,rfl,h1,h⟩:=h.step
 obtain rfl:=h.fin
 obtain⟨n0,rfl,_⟩:=h0.int
 obtain⟨n1,rfl⟩:=hC h1
 exact⟨⟨n0,n1⟩,rfl⟩
theorem iI.of {x:iI} (h:aG tt x.tv) (hw:wt x.tv≤1048576):x.wf:=by
 simp only[iI.tv,fP,cP]at h
 simp only[iI.tv,wt,dq]at hw
 obtain⟨h0,h1,_⟩:=h
 exact⟨dU (ok_int.1 h0),ry (by omega)⟩
def et.tv (x:et):Tv:= .r [x.l.tv,x.t.tv,x.push.tv,wR x.chain]
theorem et.enc (x:et):enc ob x.tv=x.c:=by simp only[et.tv,pD,eg,bK,cC,ax.enc,Table.enc,iI.enc,et.c,ax.c,Table.c,iI.c,List.cons_append,List.nil_append,List.append_nil]
theorem et.ex {v:Tv} (h:aG ob v):∃q:et,v=q.tv:=by
 obtain⟨vs,rfl,h⟩:=h.st
 obtain⟨v0,_,rfl,h0,h⟩:=h.step
 obtain⟨v1,_,rfl,h1,h⟩:=h.step
 obtain⟨v2,_,rfl,h2,h⟩:=h.step
 obtain⟨v3,_,rfl,h3,h⟩:=h.step
 obtain rfl:=h.fin
 obtain⟨n0,rfl⟩:=ax.ex h0
 obtain⟨n1,rfl⟩:=Table.ex h1
 obtain⟨n2,rfl⟩:=iI.ex h2
 obtain⟨n3,rfl⟩:=xB h3
 exact⟨⟨n0,n1,n2,n3⟩,rfl⟩
theorem et.of {x:et} (h:aG ob x.tv) (hw:wt x.tv≤1048576):x.wc:=by
 simp only[et.tv,fP,cP]at h
 simp only[et.tv,wt,dq]at hw
 obtain⟨h0,h1,h2,h3,_⟩:=h
 have k1:=Table.of h1 (by omega)
 have k2:=iI.of h2 (by omega)
 have k3:=B8 h3 (by omega)
 exact⟨k1,k2.2,k3.1,k3.2⟩
def pR.tv (x:pR):Tv:= .r [x.l.tv,x.t.tv,x.x.tv,wR x.own]
theorem pR.enc (x:pR):enc Hw x.tv=x.c:=by simp only[pR.tv,pD,eg,bK,cC,ax.enc,Table.enc,et.enc,pR.c,et.c,ax.c,Table.c,List.cons_append,List.nil_append,List.append_nil]
theorem pR.ex {v:Tv} (h:aG Hw v):∃q:pR,v=q.tv:=by
 obtain⟨vs,rfl,h⟩:=h.st
 obtain⟨v0,_,rfl,h0,h⟩:=h.step
 obtain⟨v1,_,rfl,h1,h⟩:=h.step
 obtain⟨v2,_,rfl,h2,h⟩:=h.step
 obtain⟨v3,_,rfl,h3,h⟩:=h.step
 obtain rfl:=h.fin
 obtain⟨n0,rfl⟩:=ax.ex h0
 obtain⟨n1,rfl⟩:=Table.ex h1
 obtain⟨n2,rfl⟩:=et.ex h2
 obtain⟨n3,rfl⟩:=xB h3
 exact⟨⟨n0,n1,n2,n3⟩,rfl⟩
theorem pR.of {x:pR} (h:aG Hw x.tv) (hw:wt x.tv≤1048576):x.wc:=by
 simp only[pR.tv,fP,cP]at h
 simp only[pR.tv,wt,dq]at hw
 obtain⟨h0,h1,h2,h3,_⟩:=h
 have k1:=Table.of h1 (by omega)
 have k2:=et.of h2 (by omega)
 have k3:=B8 h3 (by omega)
 exact⟨k1,k2,k3.1,k3.2⟩
end Go.Eng.F
namespace Go.Eng.F
open Go.Eng.U (yQ cu TLimits iM tt ob)
end Go.Eng.F
namespace Go.Eng.F
open Go.Eng.U (yQ cu TLimits iM dQ)
end Go.Eng.F
namespace Go.Eng.F
structure bF where
 view:Int
 height:Int
 block:Bytes
 who:Int
 tag:Bytes
def bF.c (v:bF):List D:= [.int .i64 v.view, .int .i64 v.height, .sl (bytes v.block), .int .i64 v.who, .sl (bytes v.tag)]
def bF.wf (v:bF):Prop:=ma v.view∧ma v.height∧Sz v.block.length∧ma v.who∧Sz v.tag.length
def nb (a b:bF):Bool:=decide (a.view=b.view) && decide (a.height=b.height) && decide (a.block=b.block) && decide (a.who=b.who) && decide (a.tag=b.tag)
abbrev lP:Nat:=71
def kK:AF:=⟨2,6,[.tmp 4],(.seq (.ops [.i (.lbox 2 (.s 0)), .i (.lbox 3 (.s 1)), .i (.mov 4 (qb false))]) (.seq (.ops [qf 5 2 0,ql 6 2 5 1 false,qf 7 3 0,ql 8 3 7 1 false,qd 9 .eql 6 8,qm 10 9, .g 10 true 12 (.fad 11 (.s 2) 1), .g 10 true 13 (.ldl 12 2 (.s 11) 1 false), .g 10 true 14 (.fad 13 (.s 3) 1), .g 10 true 15 (.ldl 14 3 (.s 13) 1 false), .g 10 true 16 (.bin 15 .eql (.s 12) (.s 14)), .i (.pick 16 (.s 10) (.s 15) (qb false)),qm 17 16, .g 17 true 19 (.fad 18 (.s 2) 3), .g 17 true 20 (.ldl 19 2 (.s 18) 1 false), .g 17 true 21 (.fad 20 (.s 3) 3), .g 17 true 22 (.ldl 21 3 (.s 20) 1 false), .g 17 true 23 (.bin 22 .eql (.s 19) (.s 21)), .i (.pick 23 (.s 17) (.s 22) (qb false)),qm 24 23, .g 24 true 26 (.fad 25 (.s 2) 2), .g 24 true 27 (.ldl 26 2 (.s 25) 1 false), .g 24 true 28 (.fad 27 (.s 3) 2), .g 24 true 29 (.ldl 28 3 (.s 27) 1 false), .g 24 true 30 (.call 30 120 false [(.s 26),(.s 28)]), .i (.pick 30 (.s 24) (.s 29) (qb false)),qm 31 30, .g 31 true 33 (.fad 32 (.s 2) 4), .g 31 true 34 (.ldl 33 2 (.s 32) 1 false), .g 31 true 35 (.fad 34 (.s 3) 4), .g 31 true 36 (.ldl 35 3 (.s 34) 1 false), .g 31 true 37 (.call 37 120 false [(.s 33),(.s 35)]), .i (.pick 37 (.s 31) (.s 36) (qb false)),qm 4 37]) .ret))⟩
theorem wL:cd lP=some kK:=by kernel_rfl
theorem vJ (a b:bF):VC cd lP (aJ [(true,a.c),(true,b.c)]) (fun rs _=>rs=bl (nb a b)):=by
 refine aa wL rfl ?_
 simp(disch:=omega) [kK,bF.c,VY]
 refine ab (fun h1=> ?_) (fun h1=> ?_) <;>simp(disch:=omega) [h1,nb,VY]
 refine ab (fun h2=> ?_) (fun h2=> ?_) <;>simp(disch:=omega) [h1,h2,VY]
 refine ab (fun h3=> ?_) (fun h3=> ?_) <;>simp(disch:=omega) [h1,h2,h3,VY]
 refine az (aU a.block b.block) ?_
 simp(disch:=omega) [h1,h2,h3,VY]
 refine ab (fun h4=> ?_) (fun h4=> ?_) <;>simp(disch:=omega) [h1,h2,h3,h4,VY]
 refine az (aU a.tag b.tag) ?_
 simp(disch:=omega) [h1,h2,h3,h4,VY]
abbrev lx:Nat:=211
def lL:AF:=⟨2,6,[.tmp 4],(.seq (.ops [.i (.lbox 2 (.s 0)), .i (.lbox 3 (.s 1)), .i (.mov 4 (qb false))]) (.seq (.ops [qf 5 2 0,ql 6 2 5 1 false,qf 7 3 0,ql 8 3 7 1 false,qd 9 .eql 6 8,qm 10 9, .g 10 true 12 (.fad 11 (.s 2) 1), .g 10 true 13 (.ldl 12 2 (.s 11) 1 false), .g 10 true 14 (.fad 13 (.s 3) 1), .g 10 true 15 (.ldl 14 3 (.s 13) 1 false), .g 10 true 16 (.bin 15 .eql (.s 12) (.s 14)), .i (.pick 16 (.s 10) (.s 15) (qb false)),qm 17 16, .g 17 true 19 (.fad 18 (.s 2) 2), .g 17 true 20 (.ldl 19 2 (.s 18) 1 false), .g 17 true 21 (.fad 20 (.s 3) 2), .g 17 true 22 (.ldl 21 3 (.s 20) 1 false), .g 17 true 23 (.call 23 190 false [(.s 19),(.s 21)]), .i (.pick 23 (.s 17) (.s 22) (qb false)),qm 24 23, .g 24 true 26 (.fad 25 (.s 2) 3), .g 24 true 27 (.ldl 26 2 (.s 25) 1 false), .g 24 true 28 (.fad 27 (.s 3) 3), .g 24 true 29 (.ldl 28 3 (.s 27) 1 false), .g 24 true 30 (.bin 29 .eql (.s 26) (.s 28)), .i (.pick 30 (.s 24) (.s 29) (qb false)),qm 31 30, .g 31 true 33 (.fad 32 (.s 2) 4), .g 31 true 34 (.ldl 33 2 (.s 32) 1 false), .g 31 true 35 (.fad 34 (.s 3) 4), .g 31 true 36 (.ldl 35 3 (.s 34) 1 false), .g 31 true 37 (.call 37 190 false [(.s 33),(.s 35)]), .i (.pick 37 (.s 31) (.s 36) (qb false)),qm 4 37]) .ret))⟩
theorem xr:cd lx=some lL:=by kernel_rfl
theorem vA (a b:bF):VC cd lx (aJ [(true,a.c),(true,b.c)]) (fun rs _=>rs=bl (nb a b)):=by
 refine aa xr rfl ?_
 simp(disch:=omega) [lL,bF.c,VY]
 refine ab (fun h1=> ?_) (fun h1=> ?_) <;>simp(disch:=omega) [h1,nb,VY]
 refine ab (fun h2=> ?_) (fun h2=> ?_) <;>simp(disch:=omega) [h1,h2,VY]
 refine az (aS a.block b.block) ?_
 simp(disch:=omega) [h1,h2,VY]
 refine ab (fun h3=> ?_) (fun h3=> ?_) <;>simp(disch:=omega) [h1,h2,h3,VY]
 refine ab (fun h4=> ?_) (fun h4=> ?_) <;>simp(disch:=omega) [h1,h2,h3,h4,VY]
 refine az (aS a.tag b.tag) ?_
 simp(disch:=omega) [h1,h2,h3,h4,VY]
end Go.Eng.F
namespace Go.Eng.F
def cur (b:Bytes) (i:Nat) (h:Int):List E0:= [.p (.sl (bytes b)), .p (.int .i64 (i:Int)), .p (.int .i64 h)]
theorem tm {N:Int} (h:0≤N) {n:Nat} (hn:n≠0):∃y:Nat,y < n∧N.tmod (n:Int)=(y:Int):=by
 obtain⟨m,rfl⟩:=Int.eq_ofNat_of_zero_le h
 exact⟨m % n,Nat.mod_lt _ (by omega),rfl⟩
theorem j0 (x:Bytes) (y:Int):bytes x++ [[.int .u8 (IntKind.u8.wrap y)]]=bytes (x++ [b8 y]):=by
 rw[←cn,←Cm]
 rfl
def ax.e (l:ax):List E:= [.p (.int .i64 l.n), .p (.int .i64 l.tx), .p (.int .i64 l.txs), .p (.int .i64 l.frame), .p (.int .i64 l.heads)]
end Go.Eng.F
namespace Go.Eng.F
end Go.Eng.F
namespace Go.Eng.F
open Go.Eng.U (yQ cu TLimits dQ TMsg fw)
def BP (l:ax) (t:List Bytes):Bool:=t.all fun x=>decide ((x.length:Int)≤l.tx)
theorem Ey {l:ax} {t:List Bytes} (h:∀x∈t.take t.length,(x.length:Int)≤l.tx):BP l t=true:=by
 rw[List.take_length]at h
 simpa[BP]using h
theorem FE {l:ax} {t:List Bytes} {i:Nat} (hi:i < t.length) (h:l.tx < (t[i].length:Int)):BP l t=false:=by
 simp only[BP,List.all_eq_false]
 exact⟨t[i],List.getElem_mem hi,by simp;omega⟩
def bZ (l:ax) (x:Block):Bool:=cf l x.head && decide ((x.txs.length:Int)≤l.txs) && BP l x.txs && decide (x.head.root=bd x.txs)
abbrev nN:Nat:=242
def oV:AF:=⟨2,6,[.tmp 4],(.seq (.ops [.i (.lbox 2 (.s 0)), .i (.lbox 3 (.s 1)), .i (.mov 4 (qb false))]) (.seq (.seq (.ops [qf 7 3 10,ql 8 3 7 1 false,qn 9 8, .i (.mov 10 (qi 0))]) (.block 0 (.loop [19,18,17,16,15,14,13,12,11,6] (.seq (.ops [qd 11 .lss 10 9]) (.seq (.cond (.s 11) .skip (.exit 0)) (.seq (.block 1 (.seq (.ops [.i (.iad 12 (.s 8) (.s 10) 1), .i (.ldh 13 (.s 12) 1 false),qm 6 13]) (.seq (.ops [qm 14 6,qn 15 14,qf 16 2 1,ql 17 2 16 1 false,qd 18 .gtr 15 17]) (.cond (.s 18) (.seq (.ops [.i (.mov 4 (qb false))]) .ret) .skip)))) (.ops [.i (.bin 19 .add (.s 10) (qi 1)),qm 10 19]))))))) (.seq (.ops [ql 20 2 2 5 true,qf 21 3 0,ql 22 3 21 10 true, .i (.call 24 240 false [(.s 20),(.s 22)]),qm 24 23, .g 24 true 26 (.fad 25 (.s 3) 10), .g 24 true 27 (.ldl 26 3 (.s 25) 1 false), .g 24 true 28 (.len 27 false (.s 26)), .g 24 true 29 (.fad 28 (.s 2) 2), .g 24 true 30 (.ldl 29 2 (.s 28) 1 false), .g 24 true 31 (.bin 30 .leq (.s 27) (.s 29)), .i (.pick 31 (.s 24) (.s 30) (qb false)),qm 32 31, .g 32 true 34 (.fad 33 (.s 3) 0), .g 32 true 35 (.fad 34 (.s 33) 4), .g 32 true 36 (.ldl 35 3 (.s 34) 1 false), .g 32 true 37 (.fad 36 (.s 3) 10), .g 32 true 38 (.ldl 37 3 (.s 36) 1 false), .g 32 true 39 (.call 39 282 false [(.s 37)]), .g 32 true 40 (.call 40 120 false [(.s 35),(.s 38)]), .i (.pick 40 (.s 32) (.s 39) (qb false)),qm 4 40]) .ret)))⟩
theorem y6:cd nN=some oV:=by kernel_rfl
theorem wW (l:ax) (x:Block) (hw:x.wc) (hx:∀t∈x.txs,t.length≤1073741823):VC cd nN (aJ [(true,l.c),(true,x.c)]) (fun rs _=>rs=bl (bZ l x)):=by
 obtain⟨⟨w1,_⟩,w2,w3⟩:=hw
 simp only[Sz]at w2
 refine aa y6 rfl ?_
 simp(disch:=omega) [oV,ax.c,Block.c,Head.c,aw,VY]
 refine aO (σ:=Nat) (f1:=_) (es0:=_) (by simp(disch:=omega) [VY];rfl) (by simp(disch:=omega) [VY];rfl) (fun i=> [(10, .val false [.int .i64 i])]) (fun _=> []) (fun i g=>g+i=x.txs.length∧∀t∈x.txs.take i,(t.length:Int)≤l.tx) 0 x.txs.length (by simp(disch:=omega) [VY]) (by simp(disch:=omega) [VY]) ⟨by omega,by simp⟩ ?_
 rintro i n g ⟨hg,hi⟩
 simp(disch:=omega) [VY]
 refine ab (fun h1=> ?_) (fun h1=> ?_)
 ·have hix:i < x.txs.length:=by omega
  have w4:=hx _ (List.getElem_mem hix)
  simp(disch:=omega) [cT hix,an,VY]
  refine ab (fun h2=> ?_) (fun h2=> ?_)
  ·simp(disch:=omega) [VY]
   simp[bZ,FE hix (by omega)]
  ·simp(disch:=omega) [VY]
   exact⟨i+1,g - 1,by omega,⟨by omega,gV hi hix (by omega)⟩,by simp⟩
 ·have hl:i=x.txs.length:=by omega
  subst hl
  have ht:=Ey hi
  simp(disch:=omega) [VY]
  refine ah (gK l x.head w1) rfl rfl ?_
  simp(disch:=omega) [aw,VY]
  refine ak (fun h2=> ?_) (fun h2=> ?_) <;>simp(disch:=omega) [h2,aw,bZ,VY]
  refine ab (fun h3=> ?_) (fun h3=> ?_) <;>simp(disch:=omega) [h2,h3,ht,aw,VY]
  refine ah (vv _ x.txs rfl (by omega) hx) rfl rfl ?_
  simp(disch:=omega) [h2,h3,ht,VY]
  refine az (aU x.head.root (bd x.txs)) ?_
  simp(disch:=omega) [h2,h3,ht,VY]
abbrev mS:Nat:=222
def oP:AF:=⟨2,6,[.tmp 4],(.seq (.ops [.i (.lbox 2 (.s 0)), .i (.lbox 3 (.s 1)), .i (.mov 4 (qb false))]) (.seq (.seq (.ops [ql 7 2 2 5 true,qf 8 3 0,ql 9 3 8 10 true, .i (.call 11 221 false [(.s 7),(.s 9)]), .i (.not 11 (.s 10)),qm 12 11, .g 12 false 14 (.fad 13 (.s 3) 10), .g 12 false 15 (.ldl 14 3 (.s 13) 1 false), .g 12 false 16 (.len 15 false (.s 14)), .g 12 false 17 (.fad 16 (.s 2) 2), .g 12 false 18 (.ldl 17 2 (.s 16) 1 false), .g 12 false 19 (.bin 18 .gtr (.s 15) (.s 17)), .i (.pick 19 (.s 12) (qb true) (.s 18))]) (.cond (.s 19) (.seq (.ops [.i (.mov 4 (qb false))]) .ret) .skip)) (.seq (.seq (.ops [qf 20 3 10,ql 21 3 20 1 false,qn 22 21, .i (.mov 23 (qi 0))]) (.block 0 (.loop [32,31,30,29,28,27,26,25,24,6] (.seq (.ops [qd 24 .lss 23 22]) (.seq (.cond (.s 24) .skip (.exit 0)) (.seq (.block 1 (.seq (.ops [.i (.iad 25 (.s 21) (.s 23) 1), .i (.ldh 26 (.s 25) 1 false),qm 6 26]) (.seq (.ops [qm 27 6,qn 28 27,qf 29 2 1,ql 30 2 29 1 false,qd 31 .gtr 28 30]) (.cond (.s 31) (.seq (.ops [.i (.mov 4 (qb false))]) .ret) .skip)))) (.ops [.i (.bin 32 .add (.s 23) (qi 1)),qm 23 32]))))))) (.seq (.ops [qf 33 3 0,qf 34 33 4,ql 35 3 34 1 false,qf 36 3 10,ql 37 3 36 1 false,qk 39 191 37, .i (.call 40 190 false [(.s 35),(.s 38)]),qm 4 39]) .ret))))⟩
theorem xT:cd mS=some oP:=by kernel_rfl
theorem wU (l:ax) (x:Block) (hw:x.wc) (hx:∀t∈x.txs,t.length≤1073741823):VC cd mS (aJ [(true,l.c),(true,x.c)]) (fun rs _=>rs=bl (bZ l x)):=by
 obtain⟨⟨w1,_⟩,w2,w3⟩:=hw
 simp only[Sz]at w2
 refine aa xT rfl ?_
 simp(disch:=omega) [oP,ax.c,Block.c,Head.c,VY]
 refine ah (hU l x.head w1) rfl rfl ?_
 simp(disch:=omega) [aw,VY]
 refine ak (fun h2=> ?_) (fun h2=> ?_)
 case refine_2=>simp(disch:=omega) [h2,bZ,VY]
 simp(disch:=omega) [h2,aw,VY]
 refine ab (fun h3=> ?_) (fun h3=> ?_)
 ·simp(disch:=omega) [h2,h3,bZ,show ¬(x.txs.length:Int)≤l.txs by omega,VY]
 simp(disch:=omega) [h2,h3,aw,VY]
 refine aO (σ:=Nat) (f1:=_) (es0:=_) (by simp(disch:=omega) [VY];rfl) (by simp(disch:=omega) [VY];rfl) (fun i=> [(23, .val false [.int .i64 i])]) (fun _=> []) (fun i g=>g+i=x.txs.length∧∀t∈x.txs.take i,(t.length:Int)≤l.tx) 0 x.txs.length (by simp(disch:=omega) [VY]) (by simp(disch:=omega) [VY]) ⟨by omega,by simp⟩ ?_
 rintro i n g ⟨hg,hi⟩
 simp(disch:=omega) [VY]
 refine ab (fun h1=> ?_) (fun h1=> ?_)
 ·have hix:i < x.txs.length:=by omega
  have w4:=hx _ (List.getElem_mem hix)
  simp(disch:=omega) [cT hix,an,VY]
  refine ab (fun h4=> ?_) (fun h4=> ?_)
  ·simp(disch:=omega) [VY]
   simp[bZ,FE hix (by omega)]
  ·simp(disch:=omega) [VY]
   exact⟨i+1,g - 1,by omega,⟨by omega,gV hi hix (by omega)⟩,by simp⟩
 ·have hl:i=x.txs.length:=by omega
  subst hl
  have ht:=Ey hi
  simp(disch:=omega) [VY]
  refine ah (uI _ x.txs rfl (by omega) hx) rfl rfl ?_
  simp(disch:=omega) [h2,h3,ht,VY]
  refine az (aS x.head.root (bd x.txs)) ?_
  simp(disch:=omega) [h2,h3,ht,bZ,show(x.txs.length:Int)≤l.txs by omega,VY]
theorem oB {l:ax} {x:Block} (h:bZ l x=true):x.txs.length≤8:=by
 simp only[bZ,Bool.and_eq_true,decide_eq_true_eq]at h
 have h1:=h.1.1.1
 simp only[cf,Bool.and_eq_true]at h1
 have h2:=m0 h1.1.1.1.1.1.1
 simp only[ax.ok,Bool.and_eq_true]at h2
 have h3:=fg h2.1.1.2
 omega
end Go.Eng.F
namespace Go.Eng.F
open Go.Eng.U (yQ cu TLimits dQ AU iM ob tt Jq ec TMsg)
structure Entry where
 who:Int
 high:Int
 tag:Bytes
def Entry.c (r:Entry):List D:= [.int .i64 r.who, .int .i64 r.high, .sl (bytes r.tag)]
def Entry.wf (r:Entry):Prop:=ma r.who∧ma r.high∧Sz r.tag.length
structure Tc where
 view:Int
 entries:List Entry
def lb (l:List Entry):List (List D):=l.map Entry.c
theorem bL (l:List Entry):(lb l).length=l.length:=by simp[lb]
theorem dF {l:List Entry} {i:Nat} (h:i < l.length):(lb l)[i]? =some [.int .i64 l[i].who, .int .i64 l[i].high, .sl (bytes l[i].tag)]:=by simp[lb,h,Entry.c]
theorem EI {l:List Entry} {i:Nat} (h:i < l.length):lb (l.take i)++ [[.int .i64 l[i].who, .int .i64 l[i].high, .sl (bytes l[i].tag)]]=lb (l.take (i+1)):=by
 have e:lb (l.take (i+1))=lb (l.take i)++lb [l[i]]:=by
  rw[List.take_add_one,List.getElem?_eq_getElem h];exact List.map_append
 rw[e];rfl
def Tc.c (t:Tc):List D:= [.int .i64 t.view, .sl (lb t.entries)]
def Tc.wf (t:Tc):Prop:=ma t.view∧Sz t.entries.length∧∀r∈t.entries,r.wf
abbrev jM:Nat:=292
def jE:AF:=⟨1,5,[.cell 2 2 true],(.seq (.ops [.i (.lbox 1 (.s 0)), .i (.lal 2 [.int .i64 0, .nils])]) (.seq (.ops [qf 6 1 0,ql 7 1 6 1 false, .i (.bld 8 [.int .i64 0, .nils] [(0,1,(.s 7))]), .i (.lal 3 [.int .i64 0, .nils]),qs 3 3 8 2]) (.seq (.seq (.ops [qf 9 1 1,ql 10 1 9 1 false,qn 11 10, .i (.mov 12 (qi 0))]) (.block 0 (.loop [29,28,27,26,25,24,23,22,21,20,19,18,17,16,15,14,13,5] (.seq (.ops [qd 13 .lss 12 11]) (.seq (.cond (.s 13) .skip (.exit 0)) (.seq (.block 1 (.seq (.ops [.i (.iad 14 (.s 10) (.s 12) 3), .i (.ldh 15 (.s 14) 3 true), .i (.lal 5 [.int .i64 0, .int .i64 0, .nils]),qs 5 5 15 3]) (.ops [qf 16 3 1,ql 17 3 16 1 false,qf 18 5 0,ql 19 5 18 1 false,qf 20 5 1,ql 21 5 20 1 false,qf 22 5 2,ql 23 5 22 1 false,qk 25 47 23, .i (.bld 25 [.int .i64 0, .int .i64 0, .nils] [(0,1,(.s 19)),(1,1,(.s 21)),(2,1,(.s 24))]), .i (.lsl 26 3 1 [.int .i64 0, .int .i64 0, .nils] [(0,3,(.s 25))]), .i (.app 27 135 3 40 (.s 17) (.s 26)),qf 28 3 1,qs 3 28 27 1]))) (.ops [.i (.bin 29 .add (.s 12) (qi 1)),qm 12 29]))))))) (.seq (.ops [ql 30 3 3 2 true,qs 2 2 30 2]) .ret))))⟩
theorem uM:cd jM=some jE:=by kernel_rfl
theorem Cj (t:Tc) (hw:t.wf):VC cd jM (aJ [(true,t.c)]) (fun rs _=>rs= [(true,[.p (.int .i64 t.view), .o true (some (135,3)) (lb t.entries)])]):=by
 obtain⟨w0,w1,w2⟩:=hw
 simp only[Sz]at w1
 refine aa uM rfl ?_
 simp(disch:=omega) [jE,Tc.c,bL,VY]
 refine oU (σ:=Nat×Nat) (f0:=_) (by simp(disch:=omega) [VY];rfl) (ed.PL (s:=3) (k:=3) (i:=1) rfl rfl) (f1:=_) (es0:=_) (by simp(disch:=omega) [VY];rfl) (by simp(disch:=omega) [VY];rfl) (fun p=> [(12, .val false [.int .i64 p.1]),(3, .box [.int .i64 t.view, .ow 3 p.2])]) (fun p=> [(3, .sl p.2 true true (some (135,3)) (lb (t.entries.take p.1)))])
  (fun p g=>g+p.1=t.entries.length) (0,_) t.entries.length (by simp(disch:=omega) [VY];rfl) (by simp(disch:=omega) [lb,VY]) (by omega) ?_
 rintro⟨i,v⟩ n g hg
 simp only at hg
 simp(disch:=omega) [VY]
 refine ab (fun h1=> ?_) (fun h1=> ?_)
 ·have hx:i < t.entries.length:=by omega
  have w3:=(w2 _ (List.getElem_mem hx)).2.2
  simp only[Sz]at w3
  simp(disch:=omega) [dF hx,VY]
  refine ah (aH t.entries[i].tag (by omega)) rfl rfl ?_
  have hl:(lb (t.entries.take i)).length=i:=by rw[bL];simp;omega
  simp(disch:=omega) [hl,EI hx,VY]
  exact⟨i+1,n+1,g - 1,by omega,by omega,⟨by omega,by omega⟩,by omega,rfl⟩
 ·simp(disch:=omega) [VY]
  have:i=t.entries.length:=by omega
  subst this
  rw[List.take_length]
abbrev ou:Nat:=256
def oN:AF:=⟨1,5,[.cell 2 2 true],(.seq (.ops [.i (.lbox 1 (.s 0)), .i (.lal 2 [.int .i64 0, .nils])]) (.seq (.ops [qf 6 1 0,ql 7 1 6 1 false, .i (.bld 8 [.int .i64 0, .nils] [(0,1,(.s 7))]), .i (.lal 3 [.int .i64 0, .nils]),qs 3 3 8 2]) (.seq (.seq (.ops [qf 9 1 1,ql 10 1 9 1 false,qn 11 10, .i (.mov 12 (qi 0))]) (.block 0 (.loop [29,28,27,26,25,24,23,22,21,20,19,18,17,16,15,14,13,5] (.seq (.ops [qd 13 .lss 12 11]) (.seq (.cond (.s 13) .skip (.exit 0)) (.seq (.block 1 (.seq (.ops [.i (.iad 14 (.s 10) (.s 12) 3), .i (.ldh 15 (.s 14) 3 true), .i (.lal 5 [.int .i64 0, .int .i64 0, .nils]),qs 5 5 15 3]) (.ops [qf 16 3 1,ql 17 3 16 1 false,qf 18 5 0,ql 19 5 18 1 false,qf 20 5 1,ql 21 5 20 1 false,qf 22 5 2,ql 23 5 22 1 false,qk 25 43 23, .i (.bld 25 [.int .i64 0, .int .i64 0, .nils] [(0,1,(.s 19)),(1,1,(.s 21)),(2,1,(.s 24))]), .i (.lsl 26 3 1 [.int .i64 0, .int .i64 0, .nils] [(0,3,(.s 25))]), .i (.app 27 135 3 40 (.s 17) (.s 26)),qf 28 3 1,qs 3 28 27 1]))) (.ops [.i (.bin 29 .add (.s 12) (qi 1)),qm 12 29]))))))) (.seq (.ops [ql 30 3 3 2 true,qs 2 2 30 2]) .ret))))⟩
theorem ya:cd ou=some oN:=by kernel_rfl
theorem Gr (t:Tc) (hw:t.wf):VC cd ou (aJ [(true,t.c)]) (fun rs _=>rs= [(true,[.p (.int .i64 t.view), .o true (some (135,3)) (lb t.entries)])]):=by
 obtain⟨w0,w1,w2⟩:=hw
 simp only[Sz]at w1
 refine aa ya rfl ?_
 simp(disch:=omega) [oN,Tc.c,bL,VY]
 refine oU (σ:=Nat×Nat) (f0:=_) (by simp(disch:=omega) [VY];rfl) (ed.PL (s:=3) (k:=3) (i:=1) rfl rfl) (f1:=_) (es0:=_) (by simp(disch:=omega) [VY];rfl) (by simp(disch:=omega) [VY];rfl) (fun p=> [(12, .val false [.int .i64 p.1]),(3, .box [.int .i64 t.view, .ow 3 p.2])]) (fun p=> [(3, .sl p.2 true true (some (135,3)) (lb (t.entries.take p.1)))])
  (fun p g=>g+p.1=t.entries.length) (0,_) t.entries.length (by simp(disch:=omega) [VY];rfl) (by simp(disch:=omega) [lb,VY]) (by omega) ?_
 rintro⟨i,v⟩ n g hg
 simp only at hg
 simp(disch:=omega) [VY]
 refine ab (fun h1=> ?_) (fun h1=> ?_)
 ·have hx:i < t.entries.length:=by omega
  have w3:=(w2 _ (List.getElem_mem hx)).2.2
  simp only[Sz]at w3
  simp(disch:=omega) [dF hx,VY]
  refine ah (cv t.entries[i].tag (by omega)) rfl rfl ?_
  have hl:(lb (t.entries.take i)).length=i:=by rw[bL];simp;omega
  simp(disch:=omega) [hl,EI hx,VY]
  exact⟨i+1,n+1,g - 1,by omega,by omega,⟨by omega,by omega⟩,by omega,rfl⟩
 ·simp(disch:=omega) [VY]
  have:i=t.entries.length:=by omega
  subst this
  rw[List.take_length]
def rJ (t:Tc):List (Bool×List E):= [(true,[.p (.int .i64 5), .p (.int .i64 0), .p (.int .i64 0), .p .nils, .p (.int .i64 0), .p .nils, .p (.int .i64 0), .p (.int .i64 0), .p .nils, .p .nils, .p .nils, .p (.int .i64 0), .p (.int .i64 0), .p (.int .i64 0), .p .nils, .p .nils, .p (.int .i64 0), .p (.int .i64 0), .p .nils, .p .nils, .p .nils, .p (.int .i64 0), .p (.int .i64 0), .p (.int .i64 0), .p .nils, .p .nils, .p (.int .i64 0), .p (.int .i64 0), .p .nils, .p .nils, .p .nils, .p .nils, .p (.int .i64 t.view), .o true (some (135,3)) (lb t.entries), .p .nils, .p (.int .i64 0), .p (.int .i64 0), .p .nils, .p .nils, .p .nils, .p (.int .i64 0), .p (.int .i64 0), .p (.int .i64 0), .p .nils, .p .nils])]
abbrev wj:Nat:=232
def vK:AF:=⟨1,3,[.cell 2 45 true],(.seq (.ops [.i (.lbox 1 (.s 0)), .i (.lal 2 [.int .i64 0, .int .i64 0, .int .i64 0, .nils, .int .i64 0, .nils, .int .i64 0, .int .i64 0, .nils, .nils, .nils, .int .i64 0, .int .i64 0, .int .i64 0, .nils, .nils, .int .i64 0, .int .i64 0, .nils, .nils, .nils, .int .i64 0, .int .i64 0, .int .i64 0, .nils, .nils, .int .i64 0, .int .i64 0, .nils, .nils, .nils, .nils, .int .i64 0, .nils, .nils, .int .i64 0, .int .i64 0, .nils, .nils, .nils, .int .i64 0, .int .i64 0, .int .i64 0, .nils, .nils])]) (.seq (.ops [ql 3 1 1 2 true,qk 5 292 3, .i (.bld 5 [.int .i64 0, .int .i64 0, .int .i64 0, .nils, .int .i64 0, .nils, .int .i64 0, .int .i64 0, .nils, .nils, .nils, .int .i64 0, .int .i64 0, .int .i64 0, .nils, .nils, .int .i64 0, .int .i64 0, .nils, .nils, .nils, .int .i64 0, .int .i64 0, .int .i64 0, .nils, .nils, .int .i64 0, .int .i64 0, .nils, .nils, .nils, .nils, .int .i64 0, .nils, .nils, .int .i64 0, .int .i64 0, .nils, .nils, .nils, .int .i64 0, .int .i64 0, .int .i64 0, .nils, .nils] [(0,1,(qi 5)),(32,2,(.s 4))]),qs 2 2 5 45]) .ret))⟩
theorem Fl:cd wj=some vK:=by kernel_rfl
theorem CO (t:Tc) (hw:t.wf):VC cd wj (aJ [(true,t.c)]) (fun rs _=>rs=rJ t):=by
 refine aa Fl rfl ?_
 simp(disch:=omega) [vK,Tc.c,VY]
 refine ah (Cj t hw) rfl rfl ?_
 simp(disch:=omega) [rJ,VY]
abbrev vR:Nat:=174
def vL:AF:=⟨1,3,[.cell 2 45 true],(.seq (.ops [.i (.lbox 1 (.s 0)), .i (.lal 2 [.int .i64 0, .int .i64 0, .int .i64 0, .nils, .int .i64 0, .nils, .int .i64 0, .int .i64 0, .nils, .nils, .nils, .int .i64 0, .int .i64 0, .int .i64 0, .nils, .nils, .int .i64 0, .int .i64 0, .nils, .nils, .nils, .int .i64 0, .int .i64 0, .int .i64 0, .nils, .nils, .int .i64 0, .int .i64 0, .nils, .nils, .nils, .nils, .int .i64 0, .nils, .nils, .int .i64 0, .int .i64 0, .nils, .nils, .nils, .int .i64 0, .int .i64 0, .int .i64 0, .nils, .nils])]) (.seq (.ops [ql 3 1 1 2 true,qk 5 256 3, .i (.bld 5 [.int .i64 0, .int .i64 0, .int .i64 0, .nils, .int .i64 0, .nils, .int .i64 0, .int .i64 0, .nils, .nils, .nils, .int .i64 0, .int .i64 0, .int .i64 0, .nils, .nils, .int .i64 0, .int .i64 0, .nils, .nils, .nils, .int .i64 0, .int .i64 0, .int .i64 0, .nils, .nils, .int .i64 0, .int .i64 0, .nils, .nils, .nils, .nils, .int .i64 0, .nils, .nils, .int .i64 0, .int .i64 0, .nils, .nils, .nils, .int .i64 0, .int .i64 0, .int .i64 0, .nils, .nils] [(0,1,(qi 5)),(32,2,(.s 4))]),qs 2 2 5 45]) .ret))⟩
theorem Fw:cd vR=some vL:=by kernel_rfl
theorem Cp (t:Tc) (hw:t.wf):VC cd vR (aJ [(true,t.c)]) (fun rs _=>rs=rJ t):=by
 refine aa Fw rfl ?_
 simp(disch:=omega) [vL,Tc.c,VY]
 refine ah (Gr t hw) rfl rfl ?_
 simp(disch:=omega) [rJ,VY]
def Entry.tv (x:Entry):Tv:= .r [.i x.who, .i x.high,ur x.tag]
theorem Entry.enc (x:Entry):enc ec x.tv=x.c:=by simp only[Entry.tv,eg,bK,cC,du,dJ,fG,eT,dy,fQ,Entry.c,List.cons_append,List.nil_append,List.append_assoc]
theorem Entry.ex {v:Tv} (h:aG ec v):∃x:Entry,v=x.tv:=by
 obtain⟨vs,rfl,h⟩:=h.st
 obtain⟨v0,_,rfl,h0,h⟩:=h.step
 obtain⟨v1,_,rfl,h1,h⟩:=h.step
 obtain⟨v2,_,rfl,h2,h⟩:=h.step
 obtain rfl:=h.fin
 obtain⟨n0,rfl,_⟩:=h0.int
 obtain⟨n1,rfl,_⟩:=h1.int
 obtain⟨n2,rfl⟩:=hC h2
 exact⟨⟨n0,n1,n2⟩,rfl⟩
theorem Entry.of {x:Entry} (h:aG ec x.tv) (hw:wt x.tv≤1048576):x.wf:=by
 simp only[Entry.tv,fP,cP]at h
 simp only[Entry.tv,wt,dq]at hw
 obtain⟨h0,h1,h2,_⟩:=h
 exact⟨dU (ok_int.1 h0),dU (ok_int.1 h1),ry (by omega)⟩
def Gp (l:List Entry):Tv:= .l (l.map Entry.tv)
theorem LS (l:List Entry):enc (.sl ec) (Gp l)= [.sl (lb l)]:=by
 simp only[Gp,zz,List.map_map,lb]
 congr 2
 exact List.map_congr_left fun x _=>Entry.enc x
theorem LN {v:Tv} (h:aG (.sl ec) v):∃l,v=Gp l:=by
 obtain⟨xs,rfl,_,h2⟩:=h.sl
 obtain⟨ys,rfl⟩:=j5 (f:=Entry.tv) (P:=aG ec) (fun v hv=>Entry.ex hv) h2
 exact⟨ys,rfl⟩
theorem N6 {l:List Entry} (h:aG (.sl ec) (Gp l)) (hw:wt (Gp l)≤1048576):Sz l.length∧∀x∈l,x.wf:=by
 unfold Gp at h hw
 rw[GC]at hw
 have h2:=(GU.1 h).2
 simp only[List.length_map]at hw
 refine⟨by unfold Sz;omega,fun x hx=>Entry.of (h2 _ (List.mem_map_of_mem hx)) ?_⟩
 have:=pw (f:=Entry.tv) hx
 omega
def Tc.tv (x:Tc):Tv:= .r [.i x.view,Gp x.entries]
theorem Tc.enc (x:Tc):enc Jq x.tv=x.c:=by simp only[Tc.tv,LS,eg,bK,cC,du,dJ,fG,eT,dy,fQ,Tc.c,List.cons_append,List.nil_append,List.append_assoc]
theorem Tc.ex {v:Tv} (h:aG Jq v):∃x:Tc,v=x.tv:=by
 obtain⟨vs,rfl,h⟩:=h.st
 obtain⟨v0,_,rfl,h0,h⟩:=h.step
 obtain⟨v1,_,rfl,h1,h⟩:=h.step
 obtain rfl:=h.fin
 obtain⟨n0,rfl,_⟩:=h0.int
 obtain⟨n1,rfl⟩:=LN h1
 exact⟨⟨n0,n1⟩,rfl⟩
theorem Tc.of {x:Tc} (h:aG Jq x.tv) (hw:wt x.tv≤1048576):x.wf:=by
 simp only[Tc.tv,fP,cP]at h
 simp only[Tc.tv,wt,dq]at hw
 obtain⟨h0,h1,_⟩:=h
 exact⟨dU (ok_int.1 h0),N6 h1 (by omega)⟩
end Go.Eng.F
namespace Go.Eng.F
theorem yG {α:Type} {a b:List α} {i:Nat} (hd:∀j,j < i→a[j]? =b[j]?) (h:a[i]? =b[i]?):∀j,j < i+1→a[j]? =b[j]? :=fun j hj=>by
 rcases Nat.lt_or_ge j i with hl|hl
 ·exact hd j hl
 ·obtain rfl:j=i:=by omega
  exact h
theorem Eh {α:Type} {a b:List α} (hl:a.length=b.length) (hd:∀j,j < b.length→a[j]? =b[j]?):a=b:=by
 apply List.ext_getElem?
 intro j
 rcases Nat.lt_or_ge j b.length with h|h
 ·exact hd j h
 ·rw[List.getElem?_eq_none_iff.2 h,List.getElem?_eq_none_iff.2 (by omega)]
abbrev ln:Nat:=121
def kP:AF:=⟨2,5,[.tmp 4],(.seq (.ops [.i (.mov 4 (qb false))]) (.seq (.seq (.ops [qm 6 0,qn 7 6,qm 8 1,qn 9 8,qd 10 .neq 7 9]) (.cond (.s 10) (.seq (.ops [.i (.mov 4 (qb false))]) .ret) .skip)) (.seq (.seq (.ops [qm 11 0,qn 12 11, .i (.mov 13 (qi 0))]) (.block 0 (.loop [26,25,24,23,22,21,20,19,18,17,16,15,14,5] (.seq (.ops [qd 14 .lss 13 12]) (.seq (.cond (.s 14) .skip (.exit 0)) (.seq (.block 1 (.seq (.ops [qm 15 13,qm 5 15]) (.seq (.ops [qm 16 0,qm 17 5, .i (.iad 18 (.s 16) (.s 17) 1), .i (.ldh 19 (.s 18) 1 false),qm 20 1,qm 21 5, .i (.iad 22 (.s 20) (.s 21) 1), .i (.ldh 23 (.s 22) 1 false), .i (.call 25 120 false [(.s 19),(.s 23)]), .i (.not 25 (.s 24))]) (.cond (.s 25) (.seq (.ops [.i (.mov 4 (qb false))]) .ret) .skip)))) (.ops [.i (.bin 26 .add (.s 13) (qi 1)),qm 13 26]))))))) (.seq (.ops [.i (.mov 4 (qb true))]) .ret))))⟩
theorem xx:cd ln=some kP:=by kernel_rfl
theorem fm (a b:List Bytes) (ha:Sz a.length) (hb:Sz b.length):VC cd ln (aJ [(false,[.sl (cS a)]),(false,[.sl (cS b)])]) (fun rs _=>rs=bl (decide (a=b))):=by
 simp only[Sz]at ha hb
 refine aa xx rfl ?_
 simp(disch:=omega) [kP,aw,VY]
 refine ab (fun h1=> ?_) (fun h1=> ?_)
 case refine_2=>
  have hn:¬a=b:=fun e=>h1 (by rw[e])
  simp(disch:=omega) [h1,hn,VY]
 simp(disch:=omega) [h1,aw,VY]
 refine bM (σ:=Nat) (f1:=_) (es0:=_) (by simp(disch:=omega) [VY];rfl) (by simp(disch:=omega) [VY];rfl) (fun i=> [(13, .val false [.int .i64 (i:Int)])]) (fun _=> []) (fun i g=>g+i=b.length∧∀j,j < i→a[j]? =b[j]?) 0 b.length (by simp(disch:=omega) [h1,VY]) (by simp(disch:=omega) [VY]) ⟨by omega,fun j hj=>by omega⟩ ?_
 rintro i n g ⟨hg,hd⟩ P hP
 simp(disch:=omega) [h1,VY]
 refine ab (fun h2=> ?_) (fun h2=> ?_)
 ·have hi:i < a.length:=by omega
  have hj:i < b.length:=by omega
  simp(disch:=omega) [cT hi,cT hj,VY]
  refine az (aU a[i] b[i]) ?_
  simp(disch:=omega) [VY]
  refine ab (fun h3=> ?_) (fun h3=> ?_)
  ·simp(disch:=omega) [h3,VY]
   exact hP (i+1) (g - 1) _ _ (by omega) ⟨by omega,yG hd (by simp[hi,hj,h3])⟩ (by simp(disch:=omega) [VY]) (by simp(disch:=omega) [VY])
  ·have hn:¬a=b:=fun e=>h3 (by subst e;rfl)
   simp(disch:=omega) [h3,hn,VY]
 ·have he:a=b:=Eh (by omega) (fun j hj=>hd j (by omega))
  simp(disch:=omega) [he,VY]
abbrev lK:Nat:=285
def ku:AF:=⟨2,5,[.tmp 4],(.seq (.ops [.i (.mov 4 (qb false))]) (.seq (.seq (.ops [qm 6 0,qn 7 6,qm 8 1,qn 9 8,qd 10 .neq 7 9]) (.cond (.s 10) (.seq (.ops [.i (.mov 4 (qb false))]) .ret) .skip)) (.seq (.seq (.ops [qm 11 0,qn 12 11, .i (.mov 13 (qi 0))]) (.block 0 (.loop [26,25,24,23,22,21,20,19,18,17,16,15,14,5] (.seq (.ops [qd 14 .lss 13 12]) (.seq (.cond (.s 14) .skip (.exit 0)) (.seq (.block 1 (.seq (.ops [qm 15 13,qm 5 15]) (.seq (.ops [qm 16 0,qm 17 5, .i (.iad 18 (.s 16) (.s 17) 1), .i (.ldh 19 (.s 18) 1 false),qm 20 1,qm 21 5, .i (.iad 22 (.s 20) (.s 21) 1), .i (.ldh 23 (.s 22) 1 false), .i (.call 25 190 false [(.s 19),(.s 23)]), .i (.not 25 (.s 24))]) (.cond (.s 25) (.seq (.ops [.i (.mov 4 (qb false))]) .ret) .skip)))) (.ops [.i (.bin 26 .add (.s 13) (qi 1)),qm 13 26]))))))) (.seq (.ops [.i (.mov 4 (qb true))]) .ret))))⟩
theorem xo:cd lK=some ku:=by kernel_rfl
theorem fu (a b:List Bytes) (ha:Sz a.length) (hb:Sz b.length):VC cd lK (aJ [(false,[.sl (cS a)]),(false,[.sl (cS b)])]) (fun rs _=>rs=bl (decide (a=b))):=by
 simp only[Sz]at ha hb
 refine aa xo rfl ?_
 simp(disch:=omega) [ku,aw,VY]
 refine ab (fun h1=> ?_) (fun h1=> ?_)
 case refine_2=>
  have hn:¬a=b:=fun e=>h1 (by rw[e])
  simp(disch:=omega) [h1,hn,VY]
 simp(disch:=omega) [h1,aw,VY]
 refine bM (σ:=Nat) (f1:=_) (es0:=_) (by simp(disch:=omega) [VY];rfl) (by simp(disch:=omega) [VY];rfl) (fun i=> [(13, .val false [.int .i64 (i:Int)])]) (fun _=> []) (fun i g=>g+i=b.length∧∀j,j < i→a[j]? =b[j]?) 0 b.length (by simp(disch:=omega) [h1,VY]) (by simp(disch:=omega) [VY]) ⟨by omega,fun j hj=>by omega⟩ ?_
 rintro i n g ⟨hg,hd⟩ P hP
 simp(disch:=omega) [h1,VY]
 refine ab (fun h2=> ?_) (fun h2=> ?_)
 ·have hi:i < a.length:=by omega
  have hj:i < b.length:=by omega
  simp(disch:=omega) [cT hi,cT hj,VY]
  refine az (aS a[i] b[i]) ?_
  simp(disch:=omega) [VY]
  refine ab (fun h3=> ?_) (fun h3=> ?_)
  ·simp(disch:=omega) [h3,VY]
   exact hP (i+1) (g - 1) _ _ (by omega) ⟨by omega,yG hd (by simp[hi,hj,h3])⟩ (by simp(disch:=omega) [VY]) (by simp(disch:=omega) [VY])
  ·have hn:¬a=b:=fun e=>h3 (by subst e;rfl)
   simp(disch:=omega) [h3,hn,VY]
 ·have he:a=b:=Eh (by omega) (fun j hj=>hd j (by omega))
  simp(disch:=omega) [he,VY]
def rT (a b:Qc):Bool:=decide (a.view=b.view) && decide (a.height=b.height) && decide (a.block=b.block) && decide (a.bits=b.bits) && decide (a.tags=b.tags)
abbrev qt:Nat:=72
def qu:AF:=⟨2,6,[.tmp 4],(.seq (.ops [.i (.lbox 2 (.s 0)), .i (.lbox 3 (.s 1)), .i (.mov 4 (qb false))]) (.seq (.ops [qf 5 2 0,ql 6 2 5 1 false,qf 7 3 0,ql 8 3 7 1 false,qd 9 .eql 6 8,qm 10 9, .g 10 true 12 (.fad 11 (.s 2) 1), .g 10 true 13 (.ldl 12 2 (.s 11) 1 false), .g 10 true 14 (.fad 13 (.s 3) 1), .g 10 true 15 (.ldl 14 3 (.s 13) 1 false), .g 10 true 16 (.bin 15 .eql (.s 12) (.s 14)), .i (.pick 16 (.s 10) (.s 15) (qb false)),qm 17 16, .g 17 true 19 (.fad 18 (.s 2) 2), .g 17 true 20 (.ldl 19 2 (.s 18) 1 false), .g 17 true 21 (.fad 20 (.s 3) 2), .g 17 true 22 (.ldl 21 3 (.s 20) 1 false), .g 17 true 23 (.call 23 120 false [(.s 19),(.s 21)]), .i (.pick 23 (.s 17) (.s 22) (qb false)),qm 24 23, .g 24 true 26 (.fad 25 (.s 2) 3), .g 24 true 27 (.ldl 26 2 (.s 25) 1 false), .g 24 true 28 (.fad 27 (.s 3) 3), .g 24 true 29 (.ldl 28 3 (.s 27) 1 false), .g 24 true 30 (.call 30 120 false [(.s 26),(.s 28)]), .i (.pick 30 (.s 24) (.s 29) (qb false)),qm 31 30, .g 31 true 33 (.fad 32 (.s 2) 4), .g 31 true 34 (.ldl 33 2 (.s 32) 1 false), .g 31 true 35 (.fad 34 (.s 3) 4), .g 31 true 36 (.ldl 35 3 (.s 34) 1 false), .g 31 true 37 (.call 37 121 false [(.s 33),(.s 35)]), .i (.pick 37 (.s 31) (.s 36) (qb false)),qm 4 37]) .ret))⟩
theorem As:cd qt=some qu:=by kernel_rfl
theorem gJ (a b:Qc) (ha:a.wf) (hb:b.wf):VC cd qt (aJ [(true,a.c),(true,b.c)]) (fun rs _=>rs=bl (rT a b)):=by
 refine aa As rfl ?_
 simp(disch:=omega) [qu,Qc.c,VY]
 refine ab (fun h1=> ?_) (fun h1=> ?_) <;>simp(disch:=omega) [h1,rT,VY]
 refine ab (fun h2=> ?_) (fun h2=> ?_) <;>simp(disch:=omega) [h1,h2,VY]
 refine az (aU a.block b.block) ?_
 simp(disch:=omega) [h1,h2,VY]
 refine ab (fun h3=> ?_) (fun h3=> ?_) <;>simp(disch:=omega) [h1,h2,h3,VY]
 refine az (aU a.bits b.bits) ?_
 simp(disch:=omega) [h1,h2,h3,VY]
 refine ab (fun h4=> ?_) (fun h4=> ?_) <;>simp(disch:=omega) [h1,h2,h3,h4,VY]
 refine az (fm a.tags b.tags ha.2.2.2.2 hb.2.2.2.2) ?_
 simp(disch:=omega) [h1,h2,h3,h4,VY]
abbrev rO:Nat:=212
def pU:AF:=⟨2,6,[.tmp 4],(.seq (.ops [.i (.lbox 2 (.s 0)), .i (.lbox 3 (.s 1)), .i (.mov 4 (qb false))]) (.seq (.ops [qf 5 2 0,ql 6 2 5 1 false,qf 7 3 0,ql 8 3 7 1 false,qd 9 .eql 6 8,qm 10 9, .g 10 true 12 (.fad 11 (.s 2) 1), .g 10 true 13 (.ldl 12 2 (.s 11) 1 false), .g 10 true 14 (.fad 13 (.s 3) 1), .g 10 true 15 (.ldl 14 3 (.s 13) 1 false), .g 10 true 16 (.bin 15 .eql (.s 12) (.s 14)), .i (.pick 16 (.s 10) (.s 15) (qb false)),qm 17 16, .g 17 true 19 (.fad 18 (.s 2) 2), .g 17 true 20 (.ldl 19 2 (.s 18) 1 false), .g 17 true 21 (.fad 20 (.s 3) 2), .g 17 true 22 (.ldl 21 3 (.s 20) 1 false), .g 17 true 23 (.call 23 190 false [(.s 19),(.s 21)]), .i (.pick 23 (.s 17) (.s 22) (qb false)),qm 24 23, .g 24 true 26 (.fad 25 (.s 2) 3), .g 24 true 27 (.ldl 26 2 (.s 25) 1 false), .g 24 true 28 (.fad 27 (.s 3) 3), .g 24 true 29 (.ldl 28 3 (.s 27) 1 false), .g 24 true 30 (.call 30 190 false [(.s 26),(.s 28)]), .i (.pick 30 (.s 24) (.s 29) (qb false)),qm 31 30, .g 31 true 33 (.fad 32 (.s 2) 4), .g 31 true 34 (.ldl 33 2 (.s 32) 1 false), .g 31 true 35 (.fad 34 (.s 3) 4), .g 31 true 36 (.ldl 35 3 (.s 34) 1 false), .g 31 true 37 (.call 37 285 false [(.s 33),(.s 35)]), .i (.pick 37 (.s 31) (.s 36) (qb false)),qm 4 37]) .ret))⟩
theorem Bb:cd rO=some pU:=by kernel_rfl
theorem hZ (a b:Qc) (ha:a.wf) (hb:b.wf):VC cd rO (aJ [(true,a.c),(true,b.c)]) (fun rs _=>rs=bl (rT a b)):=by
 refine aa Bb rfl ?_
 simp(disch:=omega) [pU,Qc.c,VY]
 refine ab (fun h1=> ?_) (fun h1=> ?_) <;>simp(disch:=omega) [h1,rT,VY]
 refine ab (fun h2=> ?_) (fun h2=> ?_) <;>simp(disch:=omega) [h1,h2,VY]
 refine az (aS a.block b.block) ?_
 simp(disch:=omega) [h1,h2,VY]
 refine ab (fun h3=> ?_) (fun h3=> ?_) <;>simp(disch:=omega) [h1,h2,h3,VY]
 refine az (aS a.bits b.bits) ?_
 simp(disch:=omega) [h1,h2,h3,VY]
 refine ab (fun h4=> ?_) (fun h4=> ?_) <;>simp(disch:=omega) [h1,h2,h3,h4,VY]
 refine az (fu a.tags b.tags ha.2.2.2.2 hb.2.2.2.2) ?_
 simp(disch:=omega) [h1,h2,h3,h4,VY]
def e9 (a b:Head):Bool:=decide (a.view=b.view) && decide (a.height=b.height) && decide (a.proposer=b.proposer) && decide (a.parent=b.parent) && decide (a.root=b.root) && rT a.qc b.qc
abbrev ly:Nat:=73
def kE:AF:=⟨2,6,[.tmp 4],(.seq (.ops [.i (.lbox 2 (.s 0)), .i (.lbox 3 (.s 1)), .i (.mov 4 (qb false))]) (.seq (.ops [qf 5 2 0,ql 6 2 5 1 false,qf 7 3 0,ql 8 3 7 1 false,qd 9 .eql 6 8,qm 10 9, .g 10 true 12 (.fad 11 (.s 2) 1), .g 10 true 13 (.ldl 12 2 (.s 11) 1 false), .g 10 true 14 (.fad 13 (.s 3) 1), .g 10 true 15 (.ldl 14 3 (.s 13) 1 false), .g 10 true 16 (.bin 15 .eql (.s 12) (.s 14)), .i (.pick 16 (.s 10) (.s 15) (qb false)),qm 17 16, .g 17 true 19 (.fad 18 (.s 2) 2), .g 17 true 20 (.ldl 19 2 (.s 18) 1 false), .g 17 true 21 (.fad 20 (.s 3) 2), .g 17 true 22 (.ldl 21 3 (.s 20) 1 false), .g 17 true 23 (.bin 22 .eql (.s 19) (.s 21)), .i (.pick 23 (.s 17) (.s 22) (qb false)),qm 24 23, .g 24 true 26 (.fad 25 (.s 2) 3), .g 24 true 27 (.ldl 26 2 (.s 25) 1 false), .g 24 true 28 (.fad 27 (.s 3) 3), .g 24 true 29 (.ldl 28 3 (.s 27) 1 false), .g 24 true 30 (.call 30 120 false [(.s 26),(.s 28)]), .i (.pick 30 (.s 24) (.s 29) (qb false)),qm 31 30, .g 31 true 33 (.fad 32 (.s 2) 4), .g 31 true 34 (.ldl 33 2 (.s 32) 1 false), .g 31 true 35 (.fad 34 (.s 3) 4), .g 31 true 36 (.ldl 35 3 (.s 34) 1 false), .g 31 true 37 (.call 37 120 false [(.s 33),(.s 35)]), .i (.pick 37 (.s 31) (.s 36) (qb false)),qm 38 37, .g 38 true 40 (.fad 39 (.s 2) 5), .g 38 true 41 (.ldl 40 2 (.s 39) 5 true), .g 38 true 42 (.fad 41 (.s 3) 5), .g 38 true 43 (.ldl 42 3 (.s 41) 5 true), .g 38 true 44 (.call 44 72 false [(.s 40),(.s 42)]), .i (.pick 44 (.s 38) (.s 43) (qb false)),qm 4 44]) .ret))⟩
theorem xu:cd ly=some kE:=by kernel_rfl
theorem fk (a b:Head) (ha:a.wf) (hb:b.wf):VC cd ly (aJ [(true,a.c),(true,b.c)]) (fun rs _=>rs=bl (e9 a b)):=by
 refine aa xu rfl ?_
 simp(disch:=omega) [kE,Head.c,VY]
 refine ab (fun h1=> ?_) (fun h1=> ?_) <;>simp(disch:=omega) [h1,e9,VY]
 refine ab (fun h2=> ?_) (fun h2=> ?_) <;>simp(disch:=omega) [h1,h2,VY]
 refine ab (fun h3=> ?_) (fun h3=> ?_) <;>simp(disch:=omega) [h1,h2,h3,VY]
 refine az (aU a.parent b.parent) ?_
 simp(disch:=omega) [h1,h2,h3,VY]
 refine ab (fun h4=> ?_) (fun h4=> ?_) <;>simp(disch:=omega) [h1,h2,h3,h4,VY]
 refine az (aU a.root b.root) ?_
 simp(disch:=omega) [h1,h2,h3,h4,VY]
 refine ab (fun h5=> ?_) (fun h5=> ?_) <;>simp(disch:=omega) [h1,h2,h3,h4,h5,VY]
 refine az (gJ a.qc b.qc ha.2.2.2.2.2 hb.2.2.2.2.2) ?_ (ha:=by first|rfl|(simp[Qc.c,VY] <;>repeat' constructor))
 simp(disch:=omega) [h1,h2,h3,h4,h5,VY]
abbrev lF:Nat:=213
def lC:AF:=⟨2,6,[.tmp 4],(.seq (.ops [.i (.lbox 2 (.s 0)), .i (.lbox 3 (.s 1)), .i (.mov 4 (qb false))]) (.seq (.ops [qf 5 2 0,ql 6 2 5 1 false,qf 7 3 0,ql 8 3 7 1 false,qd 9 .eql 6 8,qm 10 9, .g 10 true 12 (.fad 11 (.s 2) 1), .g 10 true 13 (.ldl 12 2 (.s 11) 1 false), .g 10 true 14 (.fad 13 (.s 3) 1), .g 10 true 15 (.ldl 14 3 (.s 13) 1 false), .g 10 true 16 (.bin 15 .eql (.s 12) (.s 14)), .i (.pick 16 (.s 10) (.s 15) (qb false)),qm 17 16, .g 17 true 19 (.fad 18 (.s 2) 2), .g 17 true 20 (.ldl 19 2 (.s 18) 1 false), .g 17 true 21 (.fad 20 (.s 3) 2), .g 17 true 22 (.ldl 21 3 (.s 20) 1 false), .g 17 true 23 (.bin 22 .eql (.s 19) (.s 21)), .i (.pick 23 (.s 17) (.s 22) (qb false)),qm 24 23, .g 24 true 26 (.fad 25 (.s 2) 3), .g 24 true 27 (.ldl 26 2 (.s 25) 1 false), .g 24 true 28 (.fad 27 (.s 3) 3), .g 24 true 29 (.ldl 28 3 (.s 27) 1 false), .g 24 true 30 (.call 30 190 false [(.s 26),(.s 28)]), .i (.pick 30 (.s 24) (.s 29) (qb false)),qm 31 30, .g 31 true 33 (.fad 32 (.s 2) 4), .g 31 true 34 (.ldl 33 2 (.s 32) 1 false), .g 31 true 35 (.fad 34 (.s 3) 4), .g 31 true 36 (.ldl 35 3 (.s 34) 1 false), .g 31 true 37 (.call 37 190 false [(.s 33),(.s 35)]), .i (.pick 37 (.s 31) (.s 36) (qb false)),qm 38 37, .g 38 true 40 (.fad 39 (.s 2) 5), .g 38 true 41 (.ldl 40 2 (.s 39) 5 true), .g 38 true 42 (.fad 41 (.s 3) 5), .g 38 true 43 (.ldl 42 3 (.s 41) 5 true), .g 38 true 44 (.call 44 212 false [(.s 40),(.s 42)]), .i (.pick 44 (.s 38) (.s 43) (qb false)),qm 4 44]) .ret))⟩
theorem w8:cd lF=some lC:=by kernel_rfl
theorem fx (a b:Head) (ha:a.wf) (hb:b.wf):VC cd lF (aJ [(true,a.c),(true,b.c)]) (fun rs _=>rs=bl (e9 a b)):=by
 refine aa w8 rfl ?_
 simp(disch:=omega) [lC,Head.c,VY]
 refine ab (fun h1=> ?_) (fun h1=> ?_) <;>simp(disch:=omega) [h1,e9,VY]
 refine ab (fun h2=> ?_) (fun h2=> ?_) <;>simp(disch:=omega) [h1,h2,VY]
 refine ab (fun h3=> ?_) (fun h3=> ?_) <;>simp(disch:=omega) [h1,h2,h3,VY]
 refine az (aS a.parent b.parent) ?_
 simp(disch:=omega) [h1,h2,h3,VY]
 refine ab (fun h4=> ?_) (fun h4=> ?_) <;>simp(disch:=omega) [h1,h2,h3,h4,VY]
 refine az (aS a.root b.root) ?_
 simp(disch:=omega) [h1,h2,h3,h4,VY]
 refine ab (fun h5=> ?_) (fun h5=> ?_) <;>simp(disch:=omega) [h1,h2,h3,h4,h5,VY]
 refine az (hZ a.qc b.qc ha.2.2.2.2.2 hb.2.2.2.2.2) ?_ (ha:=by first|rfl|(simp[Qc.c,VY] <;>repeat' constructor))
 simp(disch:=omega) [h1,h2,h3,h4,h5,VY]
def jT (a b:Block):Bool:=e9 a.head b.head && decide (a.txs=b.txs)
abbrev i6:Nat:=74
def iW:AF:=⟨2,5,[.tmp 4],(.seq (.ops [.i (.lbox 2 (.s 0)), .i (.lbox 3 (.s 1)), .i (.mov 4 (qb false))]) (.seq (.ops [qf 5 2 0,ql 6 2 5 10 true,qf 7 3 0,ql 8 3 7 10 true, .i (.call 10 73 false [(.s 6),(.s 8)]),qm 10 9, .g 10 true 12 (.fad 11 (.s 2) 10), .g 10 true 13 (.ldl 12 2 (.s 11) 1 false), .g 10 true 14 (.fad 13 (.s 3) 10), .g 10 true 15 (.ldl 14 3 (.s 13) 1 false), .g 10 true 16 (.call 16 121 false [(.s 12),(.s 14)]), .i (.pick 16 (.s 10) (.s 15) (qb false)),qm 4 16]) .ret))⟩
theorem uW:cd i6=some iW:=by kernel_rfl
theorem tN (a b:Block) (ha:a.wc) (hb:b.wc):VC cd i6 (aJ [(true,a.c),(true,b.c)]) (fun rs _=>rs=bl (jT a b)):=by
 refine aa uW rfl ?_
 simp(disch:=omega) [iW,Block.c,Head.c,VY]
 refine az (fk a.head b.head ha.1.1 hb.1.1) ?_ (ha:=by first|rfl|(simp[Head.c,VY] <;>repeat' constructor))
 simp(disch:=omega) [VY]
 refine ak (fun h1=> ?_) (fun h1=> ?_) <;>simp(disch:=omega) [h1,jT,VY]
 refine az (fm a.txs b.txs ha.2.1 hb.2.1) ?_
 simp(disch:=omega) [h1,VY]
abbrev jl:Nat:=214
def jq:AF:=⟨2,5,[.tmp 4],(.seq (.ops [.i (.lbox 2 (.s 0)), .i (.lbox 3 (.s 1)), .i (.mov 4 (qb false))]) (.seq (.ops [qf 5 2 0,ql 6 2 5 10 true,qf 7 3 0,ql 8 3 7 10 true, .i (.call 10 213 false [(.s 6),(.s 8)]),qm 10 9, .g 10 true 12 (.fad 11 (.s 2) 10), .g 10 true 13 (.ldl 12 2 (.s 11) 1 false), .g 10 true 14 (.fad 13 (.s 3) 10), .g 10 true 15 (.ldl 14 3 (.s 13) 1 false), .g 10 true 16 (.call 16 285 false [(.s 12),(.s 14)]), .i (.pick 16 (.s 10) (.s 15) (qb false)),qm 4 16]) .ret))⟩
theorem uB:cd jl=some jq:=by kernel_rfl
theorem tp (a b:Block) (ha:a.wc) (hb:b.wc):VC cd jl (aJ [(true,a.c),(true,b.c)]) (fun rs _=>rs=bl (jT a b)):=by
 refine aa uB rfl ?_
 simp(disch:=omega) [jq,Block.c,Head.c,VY]
 refine az (fx a.head b.head ha.1.1 hb.1.1) ?_ (ha:=by first|rfl|(simp[Head.c,VY] <;>repeat' constructor))
 simp(disch:=omega) [VY]
 refine ak (fun h1=> ?_) (fun h1=> ?_) <;>simp(disch:=omega) [h1,jT,VY]
 refine az (fu a.txs b.txs ha.2.1 hb.2.1) ?_
 simp(disch:=omega) [h1,VY]
structure bn where
 height:Int
 n:Int
 idx:Int
 tx:Bytes
 path:List Bytes
def bn.c (x:bn):List D:= [.int .i64 x.height, .int .i64 x.n, .int .i64 x.idx, .sl (bytes x.tx), .sl (cS x.path)]
def bn.wc (x:bn):Prop:=ma x.height∧ma x.n∧ma x.idx∧Sz x.tx.length∧Bv x.path
def bn.o (x:bn):List E:= [.p (.int .i64 x.height), .p (.int .i64 x.n), .p (.int .i64 x.idx), .o true (some (5,1)) (bytes x.tx), .o true (some (24,1)) (cS x.path)]
def nD (a b:bn):Bool:=decide (a.height=b.height) && decide (a.n=b.n) && decide (a.idx=b.idx) && decide (a.tx=b.tx) && decide (a.path=b.path)
abbrev kJ:Nat:=77
def lp:AF:=⟨2,6,[.tmp 4],(.seq (.ops [.i (.lbox 2 (.s 0)), .i (.lbox 3 (.s 1)), .i (.mov 4 (qb false))]) (.seq (.ops [qf 5 2 0,ql 6 2 5 1 false,qf 7 3 0,ql 8 3 7 1 false,qd 9 .eql 6 8,qm 10 9, .g 10 true 12 (.fad 11 (.s 2) 1), .g 10 true 13 (.ldl 12 2 (.s 11) 1 false), .g 10 true 14 (.fad 13 (.s 3) 1), .g 10 true 15 (.ldl 14 3 (.s 13) 1 false), .g 10 true 16 (.bin 15 .eql (.s 12) (.s 14)), .i (.pick 16 (.s 10) (.s 15) (qb false)),qm 17 16, .g 17 true 19 (.fad 18 (.s 2) 2), .g 17 true 20 (.ldl 19 2 (.s 18) 1 false), .g 17 true 21 (.fad 20 (.s 3) 2), .g 17 true 22 (.ldl 21 3 (.s 20) 1 false), .g 17 true 23 (.bin 22 .eql (.s 19) (.s 21)), .i (.pick 23 (.s 17) (.s 22) (qb false)),qm 24 23, .g 24 true 26 (.fad 25 (.s 2) 3), .g 24 true 27 (.ldl 26 2 (.s 25) 1 false), .g 24 true 28 (.fad 27 (.s 3) 3), .g 24 true 29 (.ldl 28 3 (.s 27) 1 false), .g 24 true 30 (.call 30 120 false [(.s 26),(.s 28)]), .i (.pick 30 (.s 24) (.s 29) (qb false)),qm 31 30, .g 31 true 33 (.fad 32 (.s 2) 4), .g 31 true 34 (.ldl 33 2 (.s 32) 1 false), .g 31 true 35 (.fad 34 (.s 3) 4), .g 31 true 36 (.ldl 35 3 (.s 34) 1 false), .g 31 true 37 (.call 37 121 false [(.s 33),(.s 35)]), .i (.pick 37 (.s 31) (.s 36) (qb false)),qm 4 37]) .ret))⟩
theorem xq:cd kJ=some lp:=by kernel_rfl
theorem uV (a b:bn) (ha:a.wc) (hb:b.wc):VC cd kJ (aJ [(true,a.c),(true,b.c)]) (fun rs _=>rs=bl (nD a b)):=by
 refine aa xq rfl ?_
 simp(disch:=omega) [lp,bn.c,VY]
 refine ab (fun h1=> ?_) (fun h1=> ?_) <;>simp(disch:=omega) [h1,nD,VY]
 refine ab (fun h2=> ?_) (fun h2=> ?_) <;>simp(disch:=omega) [h1,h2,VY]
 refine ab (fun h3=> ?_) (fun h3=> ?_) <;>simp(disch:=omega) [h1,h2,h3,VY]
 refine az (aU a.tx b.tx) ?_
 simp(disch:=omega) [h1,h2,h3,VY]
 refine ab (fun h4=> ?_) (fun h4=> ?_) <;>simp(disch:=omega) [h1,h2,h3,h4,VY]
 refine az (fm a.path b.path ha.2.2.2.2.1 hb.2.2.2.2.1) ?_
 simp(disch:=omega) [h1,h2,h3,h4,VY]
abbrev kD:Nat:=217
def lY:AF:=⟨2,6,[.tmp 4],(.seq (.ops [.i (.lbox 2 (.s 0)), .i (.lbox 3 (.s 1)), .i (.mov 4 (qb false))]) (.seq (.ops [qf 5 2 0,ql 6 2 5 1 false,qf 7 3 0,ql 8 3 7 1 false,qd 9 .eql 6 8,qm 10 9, .g 10 true 12 (.fad 11 (.s 2) 1), .g 10 true 13 (.ldl 12 2 (.s 11) 1 false), .g 10 true 14 (.fad 13 (.s 3) 1), .g 10 true 15 (.ldl 14 3 (.s 13) 1 false), .g 10 true 16 (.bin 15 .eql (.s 12) (.s 14)), .i (.pick 16 (.s 10) (.s 15) (qb false)),qm 17 16, .g 17 true 19 (.fad 18 (.s 2) 2), .g 17 true 20 (.ldl 19 2 (.s 18) 1 false), .g 17 true 21 (.fad 20 (.s 3) 2), .g 17 true 22 (.ldl 21 3 (.s 20) 1 false), .g 17 true 23 (.bin 22 .eql (.s 19) (.s 21)), .i (.pick 23 (.s 17) (.s 22) (qb false)),qm 24 23, .g 24 true 26 (.fad 25 (.s 2) 3), .g 24 true 27 (.ldl 26 2 (.s 25) 1 false), .g 24 true 28 (.fad 27 (.s 3) 3), .g 24 true 29 (.ldl 28 3 (.s 27) 1 false), .g 24 true 30 (.call 30 190 false [(.s 26),(.s 28)]), .i (.pick 30 (.s 24) (.s 29) (qb false)),qm 31 30, .g 31 true 33 (.fad 32 (.s 2) 4), .g 31 true 34 (.ldl 33 2 (.s 32) 1 false), .g 31 true 35 (.fad 34 (.s 3) 4), .g 31 true 36 (.ldl 35 3 (.s 34) 1 false), .g 31 true 37 (.call 37 285 false [(.s 33),(.s 35)]), .i (.pick 37 (.s 31) (.s 36) (qb false)),qm 4 37]) .ret))⟩
theorem wS:cd kD=some lY:=by kernel_rfl
theorem vz (a b:bn) (ha:a.wc) (hb:b.wc):VC cd kD (aJ [(true,a.c),(true,b.c)]) (fun rs _=>rs=bl (nD a b)):=by
 refine aa wS rfl ?_
 simp(disch:=omega) [lY,bn.c,VY]
 refine ab (fun h1=> ?_) (fun h1=> ?_) <;>simp(disch:=omega) [h1,nD,VY]
 refine ab (fun h2=> ?_) (fun h2=> ?_) <;>simp(disch:=omega) [h1,h2,VY]
 refine ab (fun h3=> ?_) (fun h3=> ?_) <;>simp(disch:=omega) [h1,h2,h3,VY]
 refine az (aS a.tx b.tx) ?_
 simp(disch:=omega) [h1,h2,h3,VY]
 refine ab (fun h4=> ?_) (fun h4=> ?_) <;>simp(disch:=omega) [h1,h2,h3,h4,VY]
 refine az (fu a.path b.path ha.2.2.2.2.1 hb.2.2.2.2.1) ?_
 simp(disch:=omega) [h1,h2,h3,h4,VY]
abbrev gT:Nat:=294
def gP:AF:=⟨1,5,[.cell 2 5 true],(.seq (.ops [.i (.lbox 1 (.s 0)), .i (.lal 2 [.int .i64 0, .int .i64 0, .int .i64 0, .nils, .nils])]) (.seq (.ops [qf 3 1 0,ql 4 1 3 1 false,qf 5 1 1,ql 6 1 5 1 false,qf 7 1 2,ql 8 1 7 1 false,qf 9 1 3,ql 10 1 9 1 false,qk 12 47 10,qf 12 1 4,ql 13 1 12 1 false,qk 15 315 13, .i (.bld 15 [.int .i64 0, .int .i64 0, .int .i64 0, .nils, .nils] [(0,1,(.s 4)),(1,1,(.s 6)),(2,1,(.s 8)),(3,1,(.s 11)),(4,1,(.s 14))]),qs 2 2 15 5]) .ret))⟩
theorem rX:cd gT=some gP:=by kernel_rfl
theorem yL (x:bn) (hw:x.wc):VC cd gT (aJ [(true,x.c)]) (fun rs _=>rs= [(true,x.o)]):=by
 have w:=hw.2.2.2.1
 simp only[Sz]at w
 refine aa rX rfl ?_
 simp(disch:=omega) [gP,bn.c,VY]
 refine az (aH x.tx (by omega)) ?_
 simp(disch:=omega) [VY]
 refine az (mC x.path hw.2.2.2.2) ?_
 simp(disch:=omega) [bn.o,VY]
abbrev nE:Nat:=261
def my:AF:=⟨1,5,[.cell 2 5 true],(.seq (.ops [.i (.lbox 1 (.s 0)), .i (.lal 2 [.int .i64 0, .int .i64 0, .int .i64 0, .nils, .nils])]) (.seq (.ops [qf 3 1 0,ql 4 1 3 1 false,qf 5 1 1,ql 6 1 5 1 false,qf 7 1 2,ql 8 1 7 1 false,qf 9 1 3,ql 10 1 9 1 false,qk 12 43 10,qf 12 1 4,ql 13 1 12 1 false,qk 15 299 13, .i (.bld 15 [.int .i64 0, .int .i64 0, .int .i64 0, .nils, .nils] [(0,1,(.s 4)),(1,1,(.s 6)),(2,1,(.s 8)),(3,1,(.s 11)),(4,1,(.s 14))]),qs 2 2 15 5]) .ret))⟩
theorem zC:cd nE=some my:=by kernel_rfl
theorem GA (x:bn) (hw:x.wc):VC cd nE (aJ [(true,x.c)]) (fun rs _=>rs= [(true,x.o)]):=by
 have w:=hw.2.2.2.1
 simp only[Sz]at w
 refine aa zC rfl ?_
 simp(disch:=omega) [my,bn.c,VY]
 refine az (cv x.tx (by omega)) ?_
 simp(disch:=omega) [VY]
 refine az (rR x.path hw.2.2.2.2) ?_
 simp(disch:=omega) [bn.o,VY]
def dh {α:Type} (f:α→α→Bool) (a b:List α):Bool:=decide (a.length=b.length) && (List.range b.length).all fun i=>match a[i]?,b[i]? with|some x,some y=>f x y|_,_=>false
theorem iw {α:Type} {f:α→α→Bool} {a b:List α} (h:¬a.length=b.length):dh f a b=false:=by unfold dh;rw[decide_eq_false h];rfl
theorem fi {α:Type} {f:α→α→Bool} {a b:List α} {i:Nat} (hi:i < a.length) (hj:i < b.length) (h:f a[i] b[i]=false):dh f a b=false:=by
 unfold dh
 rw[Bool.and_eq_false_iff]
 right
 rw[List.all_eq_false]
 exact⟨i,by simp[hj],by simp[hi,hj,h]⟩
theorem iz {α:Type} {f:α→α→Bool} {a b:List α} (hl:a.length=b.length) (h:∀i,i < b.length→(hi:i < a.length)→(hj:i < b.length)→f a[i] b[i]=true):dh f a b=true:=by
 unfold dh
 rw[Bool.and_eq_true,List.all_eq_true]
 refine⟨by simp[hl],fun i hi=> ?_⟩
 have hj:i < b.length:=by simpa using hi
 have hi2:i < a.length:=by omega
 simp[hi2,hj,h i hj hi2 hj]
theorem uk {α:Type} {f:α→α→Bool} {a b:List α} {i:Nat} (hd:∀j,j < i→(hi:j < a.length)→(hj:j < b.length)→f a[j] b[j]=true) {hi:i < a.length} {hj:i < b.length} (h:f a[i] b[i]=true):∀j,j < i+1→(hi:j < a.length)→(hj:j < b.length)→f a[j] b[j]=true:=fun j h2 hx hy=>by
 rcases Nat.lt_or_ge j i with hl|hl
 ·exact hd j hl hx hy
 ·obtain rfl:j=i:=by omega
  exact h
def eG (a b:List Head):Bool:=dh e9 a b
def fD (a b:Proof):Bool:=eG a.heads b.heads && rT a.qc b.qc
abbrev jw:Nat:=123
def i0:AF:=⟨2,5,[.tmp 4],(.seq (.ops [.i (.mov 4 (qb false))]) (.seq (.seq (.ops [qm 6 0,qn 7 6,qm 8 1,qn 9 8,qd 10 .neq 7 9]) (.cond (.s 10) (.seq (.ops [.i (.mov 4 (qb false))]) .ret) .skip)) (.seq (.seq (.ops [qm 11 0,qn 12 11, .i (.mov 13 (qi 0))]) (.block 0 (.loop [26,25,24,23,22,21,20,19,18,17,16,15,14,5] (.seq (.ops [qd 14 .lss 13 12]) (.seq (.cond (.s 14) .skip (.exit 0)) (.seq (.block 1 (.seq (.ops [qm 15 13,qm 5 15]) (.seq (.ops [qm 16 0,qm 17 5, .i (.iad 18 (.s 16) (.s 17) 10), .i (.ldh 19 (.s 18) 10 true),qm 20 1,qm 21 5, .i (.iad 22 (.s 20) (.s 21) 10), .i (.ldh 23 (.s 22) 10 true), .i (.call 25 73 false [(.s 19),(.s 23)]), .i (.not 25 (.s 24))]) (.cond (.s 25) (.seq (.ops [.i (.mov 4 (qb false))]) .ret) .skip)))) (.ops [.i (.bin 26 .add (.s 13) (qi 1)),qm 13 26]))))))) (.seq (.ops [.i (.mov 4 (qb true))]) .ret))))⟩
theorem uA:cd jw=some i0:=by kernel_rfl
theorem tM (a b:List Head) (ha:pE a) (hb:pE b):VC cd jw (aJ [(false,[.sl (gD a)]),(false,[.sl (gD b)])]) (fun rs _=>rs=bl (eG a b)):=by
 obtain⟨w1,w2⟩:=ha
 obtain⟨w3,w4⟩:=hb
 simp only[Sz]at w1 w3
 refine aa uA rfl ?_
 simp(disch:=omega) [i0,cL,VY]
 refine ab (fun h1=> ?_) (fun h1=> ?_)
 case refine_2=>
  have hn:eG a b=false:=iw (fun e=>h1 (by omega))
  simp(disch:=omega) [h1,hn,VY]
 simp(disch:=omega) [h1,cL,VY]
 refine bM (σ:=Nat) (f1:=_) (es0:=_) (by simp(disch:=omega) [VY];rfl) (by simp(disch:=omega) [VY];rfl) (fun i=> [(13, .val false [.int .i64 (i:Int)])]) (fun _=> []) (fun i g=>g+i=b.length∧∀j,j < i→(hi:j < a.length)→(hj:j < b.length)→e9 a[j] b[j]=true) 0 b.length (by simp(disch:=omega) [h1,VY]) (by simp(disch:=omega) [VY]) ⟨by omega,fun j hj=>by omega⟩ ?_
 rintro i n g ⟨hg,hd⟩ P hP
 simp(disch:=omega) [h1,VY]
 refine ab (fun h2=> ?_) (fun h2=> ?_)
 ·have hi:i < a.length:=by omega
  have hj:i < b.length:=by omega
  simp(disch:=omega) [ew hi,ew hj,Head.c,VY]
  refine az (fk a[i] b[i] (w2 _ (List.getElem_mem hi)) (w4 _ (List.getElem_mem hj))) ?_ (ha:=by first|rfl|(simp[Head.c,VY] <;>repeat' constructor))
  simp(disch:=omega) [VY]
  refine ak (fun h3=> ?_) (fun h3=> ?_)
  ·simp(disch:=omega) [h3,VY]
   exact hP (i+1) (g - 1) _ _ (by omega) ⟨by omega,uk hd h3⟩ (by simp(disch:=omega) [VY]) (by simp(disch:=omega) [VY])
  ·simp(disch:=omega) [h3,show eG a b=false from fi hi hj h3,VY]
 ·have he:eG a b=true:=iz (by omega) (fun i h hi hj=>hd i (by omega) hi hj)
  simp(disch:=omega) [he,VY]
abbrev jx:Nat:=76
def jX:AF:=⟨2,5,[.tmp 4],(.seq (.ops [.i (.lbox 2 (.s 0)), .i (.lbox 3 (.s 1)), .i (.mov 4 (qb false))]) (.seq (.ops [qf 5 2 0,ql 6 2 5 1 false,qf 7 3 0,ql 8 3 7 1 false, .i (.call 10 123 false [(.s 6),(.s 8)]),qm 10 9, .g 10 true 12 (.fad 11 (.s 2) 1), .g 10 true 13 (.ldl 12 2 (.s 11) 5 true), .g 10 true 14 (.fad 13 (.s 3) 1), .g 10 true 15 (.ldl 14 3 (.s 13) 5 true), .g 10 true 16 (.call 16 72 false [(.s 12),(.s 14)]), .i (.pick 16 (.s 10) (.s 15) (qb false)),qm 4 16]) .ret))⟩
theorem u5:cd jx=some jX:=by kernel_rfl
theorem tC (a b:Proof) (ha:a.wf) (hb:b.wf):VC cd jx (aJ [(true,a.c),(true,b.c)]) (fun rs _=>rs=bl (fD a b)):=by
 refine aa u5 rfl ?_
 simp(disch:=omega) [jX,Proof.c,VY]
 refine az (tM a.heads b.heads ha.1 hb.1) ?_
 simp(disch:=omega) [VY]
 refine ak (fun h1=> ?_) (fun h1=> ?_) <;>simp(disch:=omega) [h1,fD,VY]
 refine az (gJ a.qc b.qc ha.2 hb.2) ?_ (ha:=by first|rfl|(simp[Qc.c,VY] <;>repeat' constructor))
 simp(disch:=omega) [h1,VY]
abbrev js:Nat:=216
def jA:AF:=⟨2,6,[.tmp 4],(.seq (.ops [.i (.lbox 2 (.s 0)), .i (.lbox 3 (.s 1)), .i (.mov 4 (qb false))]) (.seq (.seq (.ops [qf 6 2 0,ql 7 2 6 1 false,qn 8 7,qf 9 3 0,ql 10 3 9 1 false,qn 11 10,qd 12 .neq 8 11]) (.cond (.s 12) (.seq (.ops [.i (.mov 4 (qb false))]) .ret) .skip)) (.seq (.seq (.ops [qf 13 2 0,ql 14 2 13 1 false,qn 15 14, .i (.mov 16 (qi 0))]) (.block 0 (.loop [31,30,29,28,27,26,25,24,23,22,21,20,19,18,17,5] (.seq (.ops [qd 17 .lss 16 15]) (.seq (.cond (.s 17) .skip (.exit 0)) (.seq (.block 1 (.seq (.ops [qm 18 16,qm 5 18]) (.seq (.ops [qf 19 2 0,ql 20 2 19 1 false,qm 21 5, .i (.iad 22 (.s 20) (.s 21) 10), .i (.ldh 23 (.s 22) 10 true),qf 24 3 0,ql 25 3 24 1 false,qm 26 5, .i (.iad 27 (.s 25) (.s 26) 10), .i (.ldh 28 (.s 27) 10 true), .i (.call 30 213 false [(.s 23),(.s 28)]), .i (.not 30 (.s 29))]) (.cond (.s 30) (.seq (.ops [.i (.mov 4 (qb false))]) .ret) .skip)))) (.ops [.i (.bin 31 .add (.s 16) (qi 1)),qm 16 31]))))))) (.seq (.ops [qf 32 2 1,ql 33 2 32 5 true,qf 34 3 1,ql 35 3 34 5 true, .i (.call 37 212 false [(.s 33),(.s 35)]),qm 4 36]) .ret))))⟩
theorem vi:cd js=some jA:=by kernel_rfl
theorem sZ (a b:Proof) (ha:a.wf) (hb:b.wf):VC cd js (aJ [(true,a.c),(true,b.c)]) (fun rs _=>rs=bl (fD a b)):=by
 obtain⟨⟨w1,w2⟩,wa⟩:=ha
 obtain⟨⟨w3,w4⟩,wb⟩:=hb
 simp only[Sz]at w1 w3
 refine aa vi rfl ?_
 simp(disch:=omega) [jA,Proof.c,cL,VY]
 refine ab (fun h1=> ?_) (fun h1=> ?_)
 case refine_2=>
  have hn:eG a.heads b.heads=false:=iw (fun e=>h1 (by omega))
  simp(disch:=omega) [h1,hn,fD,VY]
 simp(disch:=omega) [h1,cL,VY]
 refine bM (σ:=Nat) (f1:=_) (es0:=_) (by simp(disch:=omega) [VY];rfl) (by simp(disch:=omega) [VY];rfl) (fun i=> [(16, .val false [.int .i64 (i:Int)])]) (fun _=> []) (fun i g=>g+i=b.heads.length∧∀j,j < i→(hi:j < a.heads.length)→(hj:j < b.heads.length)→e9 a.heads[j] b.heads[j]=true) 0 b.heads.length (by simp(disch:=omega) [h1,VY]) (by simp(disch:=omega) [VY]) ⟨by omega,fun j hj=>by omega⟩ ?_
 rintro i n g ⟨hg,hd⟩ P hP
 simp(disch:=omega) [h1,VY]
 refine ab (fun h2=> ?_) (fun h2=> ?_)
 ·have hi:i < a.heads.length:=by omega
  have hj:i < b.heads.length:=by omega
  simp(disch:=omega) [ew hi,ew hj,Head.c,VY]
  refine az (fx a.heads[i] b.heads[i] (w2 _ (List.getElem_mem hi)) (w4 _ (List.getElem_mem hj))) ?_ (ha:=by first|rfl|(simp[Head.c,VY] <;>repeat' constructor))
  simp(disch:=omega) [VY]
  refine ak (fun h3=> ?_) (fun h3=> ?_)
  ·simp(disch:=omega) [h3,VY]
   exact hP (i+1) (g - 1) _ _ (by omega) ⟨by omega,uk hd h3⟩ (by simp(disch:=omega) [VY]) (by simp(disch:=omega) [VY])
  ·simp(disch:=omega) [h3,show eG a.heads b.heads=false from fi hi hj h3,fD,VY]
 ·have he:eG a.heads b.heads=true:=iz (by omega) (fun i h hi hj=>hd i (by omega) hi hj)
  simp(disch:=omega) [VY]
  refine az (hZ a.qc b.qc wa wb) ?_ (ha:=by first|rfl|(simp[Qc.c,VY] <;>repeat' constructor))
  simp(disch:=omega) [he,fD,VY]
def c7 (a b:Entry):Bool:=decide (a.who=b.who) && decide (a.high=b.high) && decide (a.tag=b.tag)
def fB (a b:Tc):Bool:=decide (a.view=b.view) && dh c7 a.entries b.entries
abbrev jm:Nat:=122
def i4:AF:=⟨2,5,[.tmp 4],(.seq (.ops [.i (.lbox 2 (.s 0)), .i (.lbox 3 (.s 1)), .i (.mov 4 (qb false))]) (.seq (.ops [qf 5 2 0,ql 6 2 5 1 false,qf 7 3 0,ql 8 3 7 1 false,qd 9 .eql 6 8,qm 10 9, .g 10 true 12 (.fad 11 (.s 2) 1), .g 10 true 13 (.ldl 12 2 (.s 11) 1 false), .g 10 true 14 (.fad 13 (.s 3) 1), .g 10 true 15 (.ldl 14 3 (.s 13) 1 false), .g 10 true 16 (.bin 15 .eql (.s 12) (.s 14)), .i (.pick 16 (.s 10) (.s 15) (qb false)),qm 17 16, .g 17 true 19 (.fad 18 (.s 2) 2), .g 17 true 20 (.ldl 19 2 (.s 18) 1 false), .g 17 true 21 (.fad 20 (.s 3) 2), .g 17 true 22 (.ldl 21 3 (.s 20) 1 false), .g 17 true 23 (.call 23 120 false [(.s 19),(.s 21)]), .i (.pick 23 (.s 17) (.s 22) (qb false)),qm 4 23]) .ret))⟩
theorem vh:cd jm=some i4:=by kernel_rfl
theorem sP (a b:Entry):VC cd jm (aJ [(true,a.c),(true,b.c)]) (fun rs _=>rs=bl (c7 a b)):=by
 refine aa vh rfl ?_
 simp(disch:=omega) [i4,Entry.c,VY]
 refine ab (fun h1=> ?_) (fun h1=> ?_) <;>simp(disch:=omega) [h1,c7,VY]
 refine ab (fun h2=> ?_) (fun h2=> ?_) <;>simp(disch:=omega) [h1,h2,VY]
 refine az (aU a.tag b.tag) ?_
 simp(disch:=omega) [h1,h2,VY]
abbrev qp:Nat:=75
def qy:AF:=⟨2,6,[.tmp 4],(.seq (.ops [.i (.lbox 2 (.s 0)), .i (.lbox 3 (.s 1)), .i (.mov 4 (qb false))]) (.seq (.seq (.ops [qf 6 2 0,ql 7 2 6 1 false,qf 8 3 0,ql 9 3 8 1 false,qd 10 .neq 7 9,qm 11 10, .g 11 false 13 (.fad 12 (.s 2) 1), .g 11 false 14 (.ldl 13 2 (.s 12) 1 false), .g 11 false 15 (.len 14 false (.s 13)), .g 11 false 16 (.fad 15 (.s 3) 1), .g 11 false 17 (.ldl 16 3 (.s 15) 1 false), .g 11 false 18 (.len 17 false (.s 16)), .g 11 false 19 (.bin 18 .neq (.s 14) (.s 17)), .i (.pick 19 (.s 11) (qb true) (.s 18))]) (.cond (.s 19) (.seq (.ops [.i (.mov 4 (qb false))]) .ret) .skip)) (.seq (.seq (.ops [qf 20 2 1,ql 21 2 20 1 false,qn 22 21, .i (.mov 23 (qi 0))]) (.block 0 (.loop [38,37,36,35,34,33,32,31,30,29,28,27,26,25,24,5] (.seq (.ops [qd 24 .lss 23 22]) (.seq (.cond (.s 24) .skip (.exit 0)) (.seq (.block 1 (.seq (.ops [qm 25 23,qm 5 25]) (.seq (.ops [qf 26 2 1,ql 27 2 26 1 false,qm 28 5, .i (.iad 29 (.s 27) (.s 28) 3), .i (.ldh 30 (.s 29) 3 true),qf 31 3 1,ql 32 3 31 1 false,qm 33 5, .i (.iad 34 (.s 32) (.s 33) 3), .i (.ldh 35 (.s 34) 3 true), .i (.call 37 122 false [(.s 30),(.s 35)]), .i (.not 37 (.s 36))]) (.cond (.s 37) (.seq (.ops [.i (.mov 4 (qb false))]) .ret) .skip)))) (.ops [.i (.bin 38 .add (.s 23) (qi 1)),qm 23 38]))))))) (.seq (.ops [.i (.mov 4 (qb true))]) .ret))))⟩
theorem AM:cd qp=some qy:=by kernel_rfl
theorem yP (a b:Tc) (ha:a.wf) (hb:b.wf):VC cd qp (aJ [(true,a.c),(true,b.c)]) (fun rs _=>rs=bl (fB a b)):=by
 have w1:=ha.2.1
 have w3:=hb.2.1
 simp only[Sz]at w1 w3
 refine aa AM rfl ?_
 simp(disch:=omega) [qy,Tc.c,bL,VY]
 refine ab (fun h0=> ?_) (fun h0=> ?_)
 case refine_2=>simp(disch:=omega) [h0,fB,VY]
 simp(disch:=omega) [h0,bL,VY]
 refine ab (fun h1=> ?_) (fun h1=> ?_)
 case refine_2=>
  have hn:dh c7 a.entries b.entries=false:=iw (fun e=>h1 (by omega))
  simp(disch:=omega) [h0,h1,hn,fB,VY]
 simp(disch:=omega) [h0,h1,bL,VY]
 refine bM (σ:=Nat) (f1:=_) (es0:=_) (by simp(disch:=omega) [VY];rfl) (by simp(disch:=omega) [VY];rfl) (fun i=> [(23, .val false [.int .i64 (i:Int)])]) (fun _=> []) (fun i g=>g+i=b.entries.length∧∀j,j < i→(hi:j < a.entries.length)→(hj:j < b.entries.length)→c7 a.entries[j] b.entries[j]=true) 0 b.entries.length (by simp(disch:=omega) [h1,VY]) (by simp(disch:=omega) [VY]) ⟨by omega,fun j hj=>by omega⟩ ?_
 rintro i n g ⟨hg,hd⟩ P hP
 simp(disch:=omega) [h1,VY]
 refine ab (fun h2=> ?_) (fun h2=> ?_)
 ·have hi:i < a.entries.length:=by omega
  have hj:i < b.entries.length:=by omega
  simp(disch:=omega) [dF hi,dF hj,VY]
  refine az (sP a.entries[i] b.entries[i]) ?_ (ha:=by first|rfl|(simp[Entry.c,VY] <;>repeat' constructor))
  simp(disch:=omega) [VY]
  refine ak (fun h3=> ?_) (fun h3=> ?_)
  ·simp(disch:=omega) [h3,VY]
   exact hP (i+1) (g - 1) _ _ (by omega) ⟨by omega,uk hd h3⟩ (by simp(disch:=omega) [VY]) (by simp(disch:=omega) [VY])
  ·simp(disch:=omega) [h3,show dh c7 a.entries b.entries=false from fi hi hj h3,fB,h0,VY]
 ·have he:dh c7 a.entries b.entries=true:=iz (by omega) (fun i h hi hj=>hd i (by omega) hi hj)
  simp(disch:=omega) [he,h0,fB,VY]
abbrev ri:Nat:=215
def ra:AF:=⟨2,6,[.tmp 4],(.seq (.ops [.i (.lbox 2 (.s 0)), .i (.lbox 3 (.s 1)), .i (.mov 4 (qb false))]) (.seq (.seq (.ops [qf 8 2 0,ql 9 2 8 1 false,qf 10 3 0,ql 11 3 10 1 false,qd 12 .neq 9 11,qm 13 12, .g 13 false 15 (.fad 14 (.s 2) 1), .g 13 false 16 (.ldl 15 2 (.s 14) 1 false), .g 13 false 17 (.len 16 false (.s 15)), .g 13 false 18 (.fad 17 (.s 3) 1), .g 13 false 19 (.ldl 18 3 (.s 17) 1 false), .g 13 false 20 (.len 19 false (.s 18)), .g 13 false 21 (.bin 20 .neq (.s 16) (.s 19)), .i (.pick 21 (.s 13) (qb true) (.s 20))]) (.cond (.s 21) (.seq (.ops [.i (.mov 4 (qb false))]) .ret) .skip)) (.seq (.seq (.ops [qf 22 2 1,ql 23 2 22 1 false,qn 24 23, .i (.mov 25 (qi 0))]) (.block 0 (.loop [55,54,53,52,51,50,49,48,47,46,45,44,43,42,41,40,39,38,37,36,35,34,33,32,31,30,29,28,27,26,7,6,5] (.seq (.ops [qd 26 .lss 25 24]) (.seq (.cond (.s 26) .skip (.exit 0)) (.seq (.block 1 (.seq (.ops [qm 27 25, .i (.iad 28 (.s 23) (.s 25) 3), .i (.ldh 29 (.s 28) 3 true), .i (.lal 6 [.int .i64 0, .int .i64 0, .nils]),qm 5 27,qs 6 6 29 3]) (.seq (.ops [qf 30 3 1,ql 31 3 30 1 false,qm 32 5, .i (.iad 33 (.s 31) (.s 32) 3), .i (.ldh 34 (.s 33) 3 true), .i (.lal 7 [.int .i64 0, .int .i64 0, .nils]),qs 7 7 34 3]) (.seq (.ops [qf 35 6 0,ql 36 6 35 1 false,qf 37 7 0,ql 38 7 37 1 false,qd 39 .neq 36 38,qm 40 39, .g 40 false 42 (.fad 41 (.s 6) 1), .g 40 false 43 (.ldl 42 6 (.s 41) 1 false), .g 40 false 44 (.fad 43 (.s 7) 1), .g 40 false 45 (.ldl 44 7 (.s 43) 1 false), .g 40 false 46 (.bin 45 .neq (.s 42) (.s 44)), .i (.pick 46 (.s 40) (qb true) (.s 45)),qm 47 46, .g 47 false 49 (.fad 48 (.s 6) 2), .g 47 false 50 (.ldl 49 6 (.s 48) 1 false), .g 47 false 51 (.fad 50 (.s 7) 2), .g 47 false 52 (.ldl 51 7 (.s 50) 1 false), .g 47 false 53 (.call 53 190 false [(.s 49),(.s 51)]), .g 47 false 54 (.not 53 (.s 52)), .i (.pick 54 (.s 47) (qb true) (.s 53))]) (.cond (.s 54) (.seq (.ops [.i (.mov 4 (qb false))]) .ret) .skip))))) (.ops [.i (.bin 55 .add (.s 25) (qi 1)),qm 25 55]))))))) (.seq (.ops [.i (.mov 4 (qb true))]) .ret))))⟩
theorem AQ:cd ri=some ra:=by kernel_rfl
theorem yw (a b:Tc) (ha:a.wf) (hb:b.wf):VC cd ri (aJ [(true,a.c),(true,b.c)]) (fun rs _=>rs=bl (fB a b)):=by
 have w1:=ha.2.1
 have w3:=hb.2.1
 simp only[Sz]at w1 w3
 refine aa AQ rfl ?_
 simp(disch:=omega) [ra,Tc.c,bL,VY]
 refine ab (fun h0=> ?_) (fun h0=> ?_)
 case refine_2=>simp(disch:=omega) [h0,fB,VY]
 simp(disch:=omega) [h0,bL,VY]
 refine ab (fun h1=> ?_) (fun h1=> ?_)
 case refine_2=>
  have hn:dh c7 a.entries b.entries=false:=iw (fun e=>h1 (by omega))
  simp(disch:=omega) [h0,h1,hn,fB,VY]
 simp(disch:=omega) [h0,h1,bL,VY]
 refine bM (σ:=Nat) (f1:=_) (es0:=_) (by simp(disch:=omega) [VY];rfl) (by simp(disch:=omega) [VY];rfl) (fun i=> [(25, .val false [.int .i64 (i:Int)])]) (fun _=> []) (fun i g=>g+i=b.entries.length∧∀j,j < i→(hi:j < a.entries.length)→(hj:j < b.entries.length)→c7 a.entries[j] b.entries[j]=true) 0 b.entries.length (by simp(disch:=omega) [h1,VY]) (by simp(disch:=omega) [VY]) ⟨by omega,fun j hj=>by omega⟩ ?_
 rintro i n g ⟨hg,hd⟩ P hP
 simp(disch:=omega) [h1,VY]
 refine ab (fun h2=> ?_) (fun h2=> ?_)
 ·have hi:i < a.entries.length:=by omega
  have hj:i < b.entries.length:=by omega
  simp(disch:=omega) [dF hi,dF hj,VY]
  refine ab (fun h3=> ?_) (fun h3=> ?_)
  case refine_2=>
   have hn:dh c7 a.entries b.entries=false:=fi hi hj (by simp[c7,h3])
   simp(disch:=omega) [h3,hn,fB,h0,VY]
  simp(disch:=omega) [h3,VY]
  refine ab (fun h4=> ?_) (fun h4=> ?_)
  case refine_2=>
   have hn:dh c7 a.entries b.entries=false:=fi hi hj (by simp[c7,h4])
   simp(disch:=omega) [h3,h4,hn,fB,h0,VY]
  simp(disch:=omega) [h3,h4,VY]
  refine az (aS a.entries[i].tag b.entries[i].tag) ?_
  simp(disch:=omega) [h3,h4,VY]
  refine ab (fun h5=> ?_) (fun h5=> ?_)
  ·simp(disch:=omega) [h3,h4,h5,VY]
   exact hP (i+1) (g - 1) _ _ (by omega) ⟨by omega,uk hd (hi:=hi) (hj:=hj) (by simp[c7,h3,h4,h5])⟩ (by simp(disch:=omega) [VY]) (by simp(disch:=omega) [VY])
  ·have hn:dh c7 a.entries b.entries=false:=fi hi hj (by simp[c7,h5])
   simp(disch:=omega) [h3,h4,h5,hn,fB,h0,VY]
 ·have he:dh c7 a.entries b.entries=true:=iz (by omega) (fun i h hi hj=>hd i (by omega) hi hj)
  simp(disch:=omega) [he,h0,fB,VY]
end Go.Eng.F
