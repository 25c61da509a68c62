import Derived.Test.YtlhapfligolmcaaGreatGg
set_option maxRecDepth 100000
set_option linter.unusedSimpArgs false
set_option linter.unusedVariables false
namespace Go.Eng.F
def cA (n:Nat):Bytes:=if n < 128 then [UInt8.ofNat n]else UInt8.ofNat (n % 128+128)::cA (n / 128)
termination_by n
decreasing_by omega
theorem rQ {n:Nat} (h:n < 128):cA n= [UInt8.ofNat n]:=by rw[cA,if_pos h]
theorem xh {n:Nat} (h:¬n < 128):cA n=UInt8.ofNat (n % 128+128)::cA (n / 128):=by rw[cA,if_neg h]
theorem yU:∀(k n:Nat),n < 128 ^ (k+1)→(cA n).length≤k+1
 |0,n,h=>by rw[rQ (by simpa using h)];simp
 |k+1,n,h=>by
  by_cases h1:n < 128
  ·rw[rQ h1];simp
  ·rw[xh h1]
   have:=yU k (n / 128) (by rw[Nat.div_lt_iff_lt_mul (by omega)];rw[Nat.pow_succ]at h;exact h)
   simp only[List.length_cons];omega
theorem dM {n:Nat} (h:n≤1152921504606846975):(cA n).length≤9:=yU 8 n (by simp;omega)
theorem H5 {k:Nat} (h:k < 256):IntKind.u8.wrap (k:Int)=((UInt8.ofNat k).toNat:Int):=by
 simp only[UInt8.toNat_ofNat',IntKind.wrap,IntKind.bits,IntKind.signed]
 simp
def dF (b:Bytes) (n:Int):List (Bool×List E):=
 if isNum n then [(false,[.o true (some (5,1)) (bytes (b++cA n.toNat))]),(false,[.p (.bool true)])]else [(false,[.p .nils]),(false,[.p (.bool false)])]
theorem gP {n:Int} (h:isNum n=true):∃m:Nat,n=(m:Int)∧m≤1152921504606846975:=⟨n.toNat,by have:=ie h;omega⟩
abbrev gm:Nat:=278
def mE:AF:=⟨2,5,[.tmp 4, .tmp 5],(.seq (.ops [.i (.mov 4 (.c (.val false [.nils]))), .i (.mov 5 (qb false))]) (.seq (.seq (.ops [qm 7 1,qk 9 213 7, .i (.not 9 (.s 8))]) (.cond (.s 9) (.seq (.ops [.i (.mov 4 (.c (.val false [.nils]))), .i (.mov 5 (qb false))]) .ret) .skip)) (.seq (.ops [qm 10 0,qk 12 60 10,qm 6 11]) (.seq (.block 0 (.loop [22,21,20,19,18,17,16,15,14,13,12] (.seq (.seq (.ops [qm 12 1, .i (.bin 13 .geq (.s 12) (qi 128))]) (.cond (.s 13) .skip (.exit 0))) (.block 1 (.seq (.ops [qm 14 6,qm 15 1, .i (.bin 16 .rem (.s 15) (qi 128)), .i (.bin 17 .add (.s 16) (qi 128)), .i (.cvi 18 .u8 (.s 17)), .i (.lsl 19 1 1 [.int .u8 0] [(0,1,(.s 18))]), .i (.app 20 5 1 1 (.s 14) (.s 19)),qm 6 20]) (.ops [qm 21 1, .i (.bin 22 .quo (.s 21) (qi 128)),qm 1 22])))))) (.seq (.ops [qm 23 6,qm 24 1, .i (.cvi 25 .u8 (.s 24)), .i (.lsl 26 1 1 [.int .u8 0] [(0,1,(.s 25))]), .i (.app 27 5 1 1 (.s 23) (.s 26)),qm 4 27, .i (.mov 5 (qb true))]) .ret)))))⟩
theorem uG:cd gm=some mE:=by kernel_rfl
theorem fo (b:Bytes) (n:Int) (hb:b.length≤1073741824):VC cd gm (bf [(false,[.sl (bytes b)]),(false,[.int .i64 n])]) (fun rs _=>rs=dF b n):=by
 refine aa uG rfl ?_
 simp(disch:=omega) [mE,VY]
 refine aj (oP n) rfl rfl ?_
 simp(disch:=omega) [VY]
 refine av (fun h1=> ?_) (fun h1=> ?_)
 case refine_2=>simp(disch:=omega) [dF,h1,VY]
 simp(disch:=omega) [h1,VY]
 refine aj (bm b (by omega)) rfl rfl ?_
 obtain⟨m,rfl,hm⟩:=gP h1
 have hl:=dM hm
 simp(disch:=omega) [VY]
 refine aI (σ:=Nat×Bytes×Nat) (f1:=_) (es0:=_) (by simp(disch:=omega) [VY];rfl) (by simp(disch:=omega) [VY];rfl) (fun p=> [(1, .val false [.int .i64 (p.1:Int)]),(6, .val false [.ow 106496 p.2.2])]) (fun p=> [(106496, .sl p.2.2 true true (some (5,1)) (bytes p.2.1))])
  (fun p g=>g=p.1∧p.1≤m∧p.2.1++cA p.1=b++cA m) (m,b,_) m (by simp(disch:=omega) [VY];rfl) (by simp(disch:=omega) [VY]) ⟨rfl,Nat.le_refl _,rfl⟩ ?_
 rintro⟨k,a,v⟩ n g ⟨hg,hk,ha⟩
 simp only at hg hk ha
 have hla:a.length≤b.length+9:=by
  have:=congrArg List.length ha
  simp only[List.length_append]at this
  omega
 simp(disch:=omega) [VY]
 refine ab (fun h2=> ?_) (fun h2=> ?_)
 ·have e1:Int.tmod (k:Int) 128=(k:Int) % 128:=Int.tmod_eq_emod_of_nonneg (by omega)
  have e2:Int.tdiv (k:Int) 128=(k:Int) / 128:=Int.tdiv_eq_ediv_of_nonneg (by omega)
  have e3:IntKind.u8.wrap ((k:Int) % 128+128)=((UInt8.ofNat (k % 128+128)).toNat:Int):=by rw[←H5 (by omega)];congr 1
  have e4:bytes a++ [[.int .u8 ((UInt8.ofNat (k % 128+128)).toNat:Int)]]=bytes (a++ [UInt8.ofNat (k % 128+128)]):=by simp[bytes]
  simp(disch:=omega) [e1,e2,e3,e4,an,VY]
  refine⟨k / 128,a++ [UInt8.ofNat (k % 128+128)],_,k / 128,by omega,⟨rfl,by omega,?_⟩,⟨rfl,by omega⟩,rfl,by simp[bytes]⟩
  rw[←ha,xh (n:=k) (by omega)]
  simp
 ·have e3:IntKind.u8.wrap (k:Int)=((UInt8.ofNat k).toNat:Int):=H5 (by omega)
  have e4:bytes a++ [[.int .u8 ((UInt8.ofNat k).toNat:Int)]]=bytes (a++ [UInt8.ofNat k]):=by simp[bytes]
  rw[rQ (n:=k) (by omega)]at ha
  simp(disch:=omega) [e3,e4,an,dF,h1,VY]
  rw[←ha]
  simp[bytes]
abbrev gl:Nat:=274
def mU:AF:=⟨2,5,[.tmp 4, .tmp 5],(.seq (.ops [.i (.mov 4 (.c (.val false [.nils]))), .i (.mov 5 (qb false))]) (.seq (.seq (.ops [qm 7 1,qk 9 201 7, .i (.not 9 (.s 8))]) (.cond (.s 9) (.seq (.ops [.i (.mov 4 (.c (.val false [.nils]))), .i (.mov 5 (qb false))]) .ret) .skip)) (.seq (.ops [qm 10 0,qk 12 115 10,qm 6 11]) (.seq (.block 0 (.loop [22,21,20,19,18,17,16,15,14,13,12] (.seq (.seq (.ops [qm 12 1, .i (.bin 13 .gtr (.s 12) (qi 127))]) (.cond (.s 13) .skip (.exit 0))) (.block 1 (.seq (.ops [qm 14 6,qm 15 1, .i (.bin 16 .rem (.s 15) (qi 128)), .i (.bin 17 .add (qi 128) (.s 16)), .i (.cvi 18 .u8 (.s 17)), .i (.lsl 19 1 1 [.int .u8 0] [(0,1,(.s 18))]), .i (.app 20 5 1 1 (.s 14) (.s 19)),qm 6 20]) (.ops [qm 21 1, .i (.bin 22 .quo (.s 21) (qi 128)),qm 1 22])))))) (.seq (.ops [qm 23 6,qm 24 1, .i (.cvi 25 .u8 (.s 24)), .i (.lsl 26 1 1 [.int .u8 0] [(0,1,(.s 25))]), .i (.app 27 5 1 1 (.s 23) (.s 26)),qm 4 27, .i (.mov 5 (qb true))]) .ret)))))⟩
theorem uL:cd gl=some mU:=by kernel_rfl
theorem tc (b:Bytes) (n:Int) (hb:b.length≤1073741824):VC cd gl (bf [(false,[.sl (bytes b)]),(false,[.int .i64 n])]) (fun rs _=>rs=dF b n):=by
 refine aa uL rfl ?_
 simp(disch:=omega) [mU,VY]
 refine aj (eX n) rfl rfl ?_
 simp(disch:=omega) [VY]
 refine av (fun h1=> ?_) (fun h1=> ?_)
 case refine_2=>simp(disch:=omega) [dF,h1,VY]
 simp(disch:=omega) [h1,VY]
 refine aj (bX b (by omega)) rfl rfl ?_
 obtain⟨m,rfl,hm⟩:=gP h1
 have hl:=dM hm
 simp(disch:=omega) [VY]
 refine aI (σ:=Nat×Bytes×Nat) (f1:=_) (es0:=_) (by simp(disch:=omega) [VY];rfl) (by simp(disch:=omega) [VY];rfl) (fun p=> [(1, .val false [.int .i64 (p.1:Int)]),(6, .val false [.ow 106496 p.2.2])]) (fun p=> [(106496, .sl p.2.2 true true (some (5,1)) (bytes p.2.1))])
  (fun p g=>g=p.1∧p.1≤m∧p.2.1++cA p.1=b++cA m) (m,b,_) m (by simp(disch:=omega) [VY];rfl) (by simp(disch:=omega) [VY]) ⟨rfl,Nat.le_refl _,rfl⟩ ?_
 rintro⟨k,a,v⟩ n g ⟨hg,hk,ha⟩
 simp only at hg hk ha
 have hla:a.length≤b.length+9:=by
  have:=congrArg List.length ha
  simp only[List.length_append]at this
  omega
 simp(disch:=omega) [VY]
 refine ab (fun h2=> ?_) (fun h2=> ?_)
 ·have e1:Int.tmod (k:Int) 128=(k:Int) % 128:=Int.tmod_eq_emod_of_nonneg (by omega)
  have e2:Int.tdiv (k:Int) 128=(k:Int) / 128:=Int.tdiv_eq_ediv_of_nonneg (by omega)
  have e3:IntKind.u8.wrap (128+(k:Int) % 128)=((UInt8.ofNat (k % 128+128)).toNat:Int):=by rw[←H5 (by omega)];congr 1;omega
  have e4:bytes a++ [[.int .u8 ((UInt8.ofNat (k % 128+128)).toNat:Int)]]=bytes (a++ [UInt8.ofNat (k % 128+128)]):=by simp[bytes]
  simp(disch:=omega) [e1,e2,e3,e4,an,VY]
  refine⟨k / 128,a++ [UInt8.ofNat (k % 128+128)],_,k / 128,by omega,⟨rfl,by omega,?_⟩,⟨rfl,by omega⟩,rfl,by simp[bytes]⟩
  rw[←ha,xh (n:=k) (by omega)]
  simp
 ·have e3:IntKind.u8.wrap (k:Int)=((UInt8.ofNat k).toNat:Int):=H5 (by omega)
  have e4:bytes a++ [[.int .u8 ((UInt8.ofNat k).toNat:Int)]]=bytes (a++ [UInt8.ofNat k]):=by simp[bytes]
  rw[rQ (n:=k) (by omega)]at ha
  simp(disch:=omega) [e3,e4,an,dF,h1,VY]
  rw[←ha]
  simp[bytes]
theorem yK {n:Nat} (h:n≤1152921504606846975):isNum (n:Int)=true:=by simp[isNum,ml];omega
theorem uE (b:Bytes) (n:Nat) (hn:n≤1152921504606846975) (hb:b.length≤1073741824):VC cd gm (bf [(false,[.sl (bytes b)]),(false,[.int .i64 (n:Int)])]) (fun rs _=>rs= [(false,[.o true (some (5,1)) (bytes (b++cA n))]),(false,[.p (.bool true)])]):=
 (fo b n hb).mono fun rs ps h=>by rw[h,dF,if_pos (yK hn)];rfl
theorem uI (b:Bytes) (n:Nat) (hn:n≤1152921504606846975) (hb:b.length≤1073741824):VC cd gl (bf [(false,[.sl (bytes b)]),(false,[.int .i64 (n:Int)])]) (fun rs _=>rs= [(false,[.o true (some (5,1)) (bytes (b++cA n))]),(false,[.p (.bool true)])]):=
 (tc b n hb).mono fun rs ps h=>by rw[h,dF,if_pos (yK hn)];rfl
abbrev mV:Nat:=233
def mT:AF:=⟨2,4,[.tmp 4],(.seq (.ops [.i (.mov 4 (.c (.val false [.nils])))]) (.seq (.ops [qm 8 0,qm 9 1, .i (.call 11 274 false [(.s 8),(.s 9)]),qm 7 10, .i (.ext 11 (.s 7) 0), .i (.ext 12 (.s 7) 1),qm 5 11,qm 6 12]) (.seq (.ops [qm 13 5,qm 4 13]) .ret)))⟩
theorem uF:cd mV=some mT:=by kernel_rfl
theorem ef (b:Bytes) (n:Int) (hn:isNum n=true) (hb:b.length≤1073741824):VC cd mV (bf [(false,[.sl (bytes b)]),(false,[.int .i64 n])]) (fun rs _=>rs= [(false,[.o true (some (5,1)) (bytes (b++cA n.toNat))])]):=by
 obtain⟨m,rfl,hm⟩:=gP hn
 refine aa uF rfl ?_
 simp(disch:=omega) [mT,VY]
 refine aj (uI b m hm hb) rfl rfl ?_
 simp(disch:=omega) [VY]
abbrev f7:Nat:=241
def fL:AF:=⟨2,5,[],(.ops [qm 5 0,qm 6 0, .i (.nch 7 (.s 6)),qf 8 7 0, .i (.ldh 9 (.s 8) 1 false),qm 10 1, .i (.call 12 278 false [(.s 9),(.s 10)]),qm 4 11, .i (.ext 12 (.s 4) 0), .i (.ext 13 (.s 4) 1), .i (.nch 14 (.s 5)),qf 15 14 0, .i (.sth (.s 15) (.s 12) 1)])⟩
theorem oa:cd f7=some fL:=by kernel_rfl
theorem dD (b:Bytes) (n:Int) (hn:isNum n=true) (hb:b.length≤1073741824):VC cd f7 (B5 [] 228 [.o true (some (5,1)) (bytes b)] [(false,[.int .i64 n])]) (fun r p=>r= []∧p= [.pt 228 [.o true (some (5,1)) (bytes (b++cA n.toNat))]]):=by
 obtain⟨m,rfl,hm⟩:=gP hn
 refine lI oa rfl ?_
 simp(disch:=omega) [fL,VZ]
 refine aj (uE b m hm hb) rfl rfl ?_
 simp(disch:=omega) [VZ]
abbrev fU:Nat:=242
def ga:AF:=⟨2,4,[],(.ops [qm 4 0,qm 5 0, .i (.nch 6 (.s 5)),qf 7 6 0, .i (.ldh 8 (.s 7) 1 false),qm 9 1, .i (.app 10 5 1 1 (.s 8) (.s 9)), .i (.nch 11 (.s 4)),qf 12 11 0, .i (.sth (.s 12) (.s 10) 1)])⟩
theorem ou:cd fU=some ga:=by kernel_rfl
theorem dw (b x:Bytes) (hx:x.length≤1073741824) (hb:b.length≤1073741824):VC cd fU (B5 [] 228 [.o true (some (5,1)) (bytes b)] [(false,[.sl (bytes x)])]) (fun r p=>r= []∧p= [.pt 228 [.o true (some (5,1)) (bytes (b++x))]]):=by
 refine lI ou rfl ?_
 simp(disch:=omega) [ga,an,bD,VZ]
def GZ (q:Qc):Bytes:=cA q.view.toNat++cA q.height.toNat++q.block++q.bits++q.tags.flatten
def fj (h:Head):Bytes:=cA h.view.toNat++cA h.height.toNat++cA h.proposer.toNat++h.parent++h.root++GZ h.qc
theorem bY {n:Int} (h:isNum n=true):(cA n.toNat).length≤9:=by
 obtain⟨m,rfl,hm⟩:=gP h
 simpa using dM hm
theorem FR {n:Int} (h:1≤n∧n≤10):D9 n≤2:=by unfold D9;split <;>omega
structure EF (q:Qc):Prop where
 view:isNum q.view=true
 height:isNum q.height=true
 block:q.block.length=32
 bits:q.bits.length≤2
 tags:q.tags.length≤16
 tag:∀t∈q.tags,t.length=32
theorem Ak {l:bA} {q:Qc} (h:ma l q=true):EF q:=by
 simp only[ma,Bool.and_eq_true,decide_eq_true_eq]at h
 obtain⟨⟨⟨⟨⟨⟨h0,h1⟩,h2⟩,h3⟩,h4⟩,h5⟩,h6⟩:=h
 simp only[cZ,Bool.and_eq_true,decide_eq_true_eq]at h4
 have hb:=FR (ie h4.1.1)
 have hl:=cL q.bits
 refine⟨h1,h2,by simpa[hash]using h3,by omega,by omega,fun t ht=> ?_⟩
 simp only[hashes,List.all_eq_true]at h6
 simpa[hash]using h6 t ht
theorem oZ {l:List Bytes} (h:∀t∈l,t.length=32) {i:Nat} (hi:i≤l.length):(l.take i).flatten.length=32 * i:=by
 induction i generalizing l with
 |zero=>simp
 |succ i ih=>
  cases l with
  |nil=>simp at hi
  |cons a l=>
   simp only[List.take_succ_cons,List.flatten_cons,List.length_append]
   rw[ih (fun t ht=>h t (by simp[ht])) (by simpa using hi),h a (by simp)]
   omega
theorem vn {l:List Bytes} {i:Nat} (h:i < l.length):(l.take (i+1)).flatten=(l.take i).flatten++l[i]:=by
 rw[List.take_add_one,List.getElem?_eq_getElem h,List.flatten_append]
 simp only[Option.toList_some,List.flatten_cons,List.flatten_nil,List.append_nil]
theorem Fp {q:Qc} (h:EF q):(GZ q).length≤600:=by
 have h1:=bY h.view
 have h2:=bY h.height
 have h3:=oZ h.tag (Nat.le_refl _)
 rw[List.take_length]at h3
 have:=h.block
 have:=h.bits
 have:=h.tags
 simp only[GZ,List.length_append]
 omega
abbrev hX:Nat:=243
def gr:AF:=⟨2,6,[],(.seq (.ops [.i (.lbox 3 (.s 1))]) (.seq (.ops [qm 6 0,qf 7 3 0,ql 8 3 7 1 false, .i (.call 10 241 false [(.s 6),(.s 8)])]) (.seq (.ops [qm 10 0,qf 11 3 1,ql 12 3 11 1 false, .i (.call 14 241 false [(.s 10),(.s 12)])]) (.seq (.ops [qm 14 0,qf 15 3 2,ql 16 3 15 1 false, .i (.call 18 242 false [(.s 14),(.s 16)])]) (.seq (.ops [qm 18 0,qf 19 3 3,ql 20 3 19 1 false, .i (.call 22 242 false [(.s 18),(.s 20)])]) (.seq (.ops [qf 22 3 4,ql 23 3 22 1 false,qn 24 23, .i (.mov 25 (qi 0))]) (.block 0 (.loop [32,31,30,29,28,27,26,5] (.seq (.ops [qd 26 .lss 25 24]) (.seq (.cond (.s 26) .skip (.exit 0)) (.seq (.block 1 (.seq (.ops [.i (.iad 27 (.s 23) (.s 25) 1), .i (.ldh 28 (.s 27) 1 false),qm 5 28]) (.ops [qm 29 0,qm 30 5, .i (.call 32 242 false [(.s 29),(.s 30)])]))) (.ops [.i (.bin 32 .add (.s 25) (qi 1)),qm 25 32]))))))))))))⟩
theorem qo:cd hX=some gr:=by kernel_rfl
theorem xn (b:Bytes) (q:Qc) (hq:EF q) (hb:b.length≤1000000000):VC cd hX (B5 [] 228 [.o true (some (5,1)) (bytes b)] [(true,q.c)]) (fun r p=>r= []∧p= [.pt 228 [.o true (some (5,1)) (bytes (b++GZ q))]]):=by
 have h1:=bY hq.view
 have h2:=bY hq.height
 have h4:=hq.block
 have h5:=hq.bits
 have h6:=hq.tags
 refine lI qo rfl ?_
 simp(disch:=omega) [gr,Qc.c,VZ]
 refine B8 (dD _ q.view hq.view ?_) ?_
 ·(try simp only[List.length_append]);omega
 simp(disch:=omega) [VZ]
 refine B8 (dD _ q.height hq.height ?_) ?_
 ·(try simp only[List.length_append]);omega
 simp(disch:=omega) [VZ]
 refine B8 (dw _ q.block (by omega) ?_) ?_
 ·(try simp only[List.length_append]);omega
 simp(disch:=omega) [VZ]
 refine B8 (dw _ q.bits (by omega) ?_) ?_
 ·(try simp only[List.length_append]);omega
 simp(disch:=omega) [bJ,VZ]
 refine aI (σ:=Nat×Nat) (f1:=_) (es0:=_) (by simp(disch:=omega) [VZ];rfl) (by simp(disch:=omega) [VZ];rfl) (fun p=> [(25, .val false [.int .i64 (p.1:Int)])]) (fun p=> [(4096, .pt 0 228 [.ow 1099528404992 p.2]),(1099528404992, .sl p.2 true true (some (5,1)) (bytes (b++(cA q.view.toNat++(cA q.height.toNat++(q.block++(q.bits++(q.tags.take p.1).flatten)))))))])
  (fun p g=>g+p.1=q.tags.length) (0,14) q.tags.length (by simp(disch:=omega) [VZ]) (by simp(disch:=omega) [VZ]) (by omega) ?_
 rintro⟨i,v⟩ n g hg
 simp only at hg
 simp(disch:=omega) [VZ]
 refine ab (fun h7=> ?_) (fun h7=> ?_)
 ·have hi:i < q.tags.length:=by omega
  have hx:=hq.tag _ (List.getElem_mem hi)
  have hf:=oZ hq.tag (i:=i) (by omega)
  simp(disch:=omega) [fB hi,VZ]
  refine B8 (dw _ q.tags[i] (by omega) ?_) ?_
  ·(try simp only[List.length_append]);omega
  simp(disch:=omega) [VZ]
  exact⟨i+1,_,g - 1,by omega,by omega,rfl,rfl,by rw[vn hi]⟩
 ·have hi:i=q.tags.length:=by omega
  subst hi
  rw[List.take_length]
  simp(disch:=omega) [GZ,VZ]
def tG (ok:Bool) (b:Bytes):List (Bool×List E):=
 if ok then [(false,[.o true (some (5,1)) (bytes b)]),(false,[.p (.bool true)])]else [(false,[.p .nils]),(false,[.p (.bool false)])]
theorem zS {ok:Bool} {b:Bytes} (h:ok=true):tG ok b= [(false,[.o true (some (5,1)) (bytes b)]),(false,[.p (.bool true)])]:=by subst h;rfl
theorem CP {ok:Bool} {b:Bytes} (h:ok=false):tG ok b= [(false,[.p .nils]),(false,[.p (.bool false)])]:=by subst h;rfl
theorem _root_.Go.Eng.VC.re {cd:Nat→Option AF} {g:Nat} {al:List (Bool×List E)} {rs rt:List (Bool×List E)} (h:VC cd g al (fun r _=>r=rs)) (e:rs=rt):VC cd g al (fun r _=>r=rt):=by subst e;exact h
abbrev oo:Nat:=168
def oy:AF:=⟨3,6,[.tmp 6, .tmp 7],(.seq (.ops [.i (.lbox 3 (.s 0)), .i (.lbox 5 (.s 2)), .i (.mov 6 (.c (.val false [.nils]))), .i (.mov 7 (qb false))]) (.seq (.seq (.ops [ql 11 3 3 5 true,ql 12 5 5 5 true, .i (.call 14 203 false [(.s 11),(.s 12)]), .i (.not 14 (.s 13))]) (.cond (.s 14) (.seq (.ops [.i (.mov 6 (.c (.val false [.nils]))), .i (.mov 7 (qb false))]) .ret) .skip)) (.seq (.ops [qm 15 1,qf 16 5 0,ql 17 5 16 1 false, .i (.call 19 233 false [(.s 15),(.s 17)]),qf 19 5 1,ql 20 5 19 1 false, .i (.call 22 233 false [(.s 18),(.s 20)]),qf 22 5 2,ql 23 5 22 1 false, .i (.app 24 5 1 1 (.s 21) (.s 23)),qm 8 24]) (.seq (.ops [qm 25 8,qf 26 5 3,ql 27 5 26 1 false, .i (.app 28 5 1 1 (.s 25) (.s 27)),qm 8 28]) (.seq (.seq (.ops [qf 29 5 4,ql 30 5 29 1 false,qn 31 30, .i (.mov 32 (qi 0))]) (.block 0 (.loop [39,38,37,36,35,34,33,10] (.seq (.ops [qd 33 .lss 32 31]) (.seq (.cond (.s 33) .skip (.exit 0)) (.seq (.block 1 (.seq (.ops [.i (.iad 34 (.s 30) (.s 32) 1), .i (.ldh 35 (.s 34) 1 false),qm 10 35]) (.ops [qm 36 8,qm 37 10, .i (.app 38 5 1 1 (.s 36) (.s 37)),qm 8 38]))) (.ops [.i (.bin 39 .add (.s 32) (qi 1)),qm 32 39]))))))) (.seq (.ops [qm 40 8,qm 6 40, .i (.mov 7 (qb true))]) .ret))))))⟩
theorem wS:cd oo=some oy:=by kernel_rfl
theorem uR (l:bA) (b:Bytes) (q:Qc) (hw:q.wf) (hb:b.length≤1000000000):VC cd oo (bf [(true,l.c),(false,[.sl (bytes b)]),(true,q.c)]) (fun rs _=>rs=tG (ma l q) (b++GZ q)):=by
 refine aa wS rfl ?_
 simp(disch:=omega) [oy,Qc.c,bA.c,VY]
 refine aj (iK l q hw) rfl rfl ?_
 simp(disch:=omega) [VY]
 refine av (fun h0=> ?_) (fun h0=> ?_)
 case refine_2=>simp(disch:=omega) [h0,tG,VY]
 have hq:=Ak h0
 have h1:=bY hq.view
 have h2:=bY hq.height
 have h4:=hq.block
 have h5:=hq.bits
 have h6:=hq.tags
 simp(disch:=omega) [h0,VY]
 refine aj (ef b q.view hq.view (by omega)) rfl rfl ?_
 simp(disch:=omega) [VY]
 refine aj (ef (b++cA q.view.toNat) q.height hq.height (by simp only[List.length_append];omega)) rfl rfl ?_
 simp(disch:=omega) [bD,an,VY]
 have e1:List.length b+(List.length (cA q.view.toNat)+(List.length (cA q.height.toNat)+List.length q.block))≤1073741824:=by omega
 simp(disch:=omega) [bD,an,bJ,VY]
 refine aI (σ:=Nat×Nat) (f1:=_) (es0:=_) (by simp(disch:=omega) [VY];rfl) (by simp(disch:=omega) [VY];rfl) (fun p=> [(32, .val false [.int .i64 (p.1:Int)]),(8, .val false [.ow 188416 p.2])]) (fun p=> [(188416, .sl p.2 true true (some (5,1)) (bytes (b++(cA q.view.toNat++(cA q.height.toNat++(q.block++(q.bits++(q.tags.take p.1).flatten)))))))])
  (fun p g=>g+p.1=q.tags.length) (0,_) q.tags.length (by simp(disch:=omega) [VY];rfl) (by simp(disch:=omega) [VY]) (by omega) ?_
 rintro⟨i,v⟩ n g hg
 simp only at hg
 simp(disch:=omega) [VY]
 refine ab (fun h7=> ?_) (fun h7=> ?_)
 ·have hi:i < q.tags.length:=by omega
  have hx:=hq.tag _ (List.getElem_mem hi)
  have hf:=oZ hq.tag (i:=i) (by omega)
  simp(disch:=omega) [fB hi,bD,an,hf,VY]
  exact⟨i+1,_,g - 1,by omega,by omega,⟨by omega,rfl⟩,rfl,by rw[vn hi]⟩
 ·have hi:i=q.tags.length:=by omega
  subst hi
  rw[List.take_length]
  simp(disch:=omega) [GZ,tG,h0,VY]
structure zn (h:Head):Prop where
 view:isNum h.view=true
 height:isNum h.height=true
 proposer:isNum h.proposer=true
 parent:h.parent.length=32
 root:h.root.length=32
 qc:EF h.qc
theorem vI {l:bA} {h:Head} (hk:bE l h=true):ma l h.qc=true:=by
 simp only[bE,Bool.and_eq_true]at hk
 exact hk.1.1.1.1.1.1
theorem lM {l:bA} {h:Head} (hk:bE l h=true):zn h:=by
 have hq:=vI hk
 have hn:=yl (xF hq)
 simp only[bE,Bool.and_eq_true,decide_eq_true_eq]at hk
 obtain⟨⟨⟨⟨⟨⟨h0,h1⟩,h2⟩,h3⟩,h4⟩,h5⟩,h6⟩:=hk
 have h2':=ie h2
 have h3':=ie h3
 exact⟨h1,by simp[isNum,ml];omega,by simp[isNum,ml];omega,by simpa[hash]using h4,by simpa[hash]using h5,Ak hq⟩
theorem vw {h:Head} (hs:zn h):(fj h).length≤1000:=by
 have h1:=bY hs.view
 have h2:=bY hs.height
 have h3:=bY hs.proposer
 have h4:=hs.parent
 have h5:=hs.root
 have h6:=Fp hs.qc
 simp only[fj,List.length_append]
 omega
abbrev eZ:Nat:=216
def fq:AF:=⟨2,5,[],(.seq (.ops [.i (.lbox 3 (.s 1))]) (.seq (.ops [qm 4 0,qf 5 3 0,ql 6 3 5 1 false, .i (.call 8 241 false [(.s 4),(.s 6)])]) (.seq (.ops [qm 8 0,qf 9 3 1,ql 10 3 9 1 false, .i (.call 12 241 false [(.s 8),(.s 10)])]) (.seq (.ops [qm 12 0,qf 13 3 2,ql 14 3 13 1 false, .i (.call 16 241 false [(.s 12),(.s 14)])]) (.seq (.ops [qm 16 0,qf 17 3 3,ql 18 3 17 1 false, .i (.call 20 242 false [(.s 16),(.s 18)])]) (.seq (.ops [qm 20 0,qf 21 3 4,ql 22 3 21 1 false, .i (.call 24 242 false [(.s 20),(.s 22)])]) (.ops [qm 24 0,qf 25 3 5,ql 26 3 25 5 true, .i (.call 28 243 false [(.s 24),(.s 26)])])))))))⟩
theorem nD:cd eZ=some fq:=by kernel_rfl
theorem sZ (b:Bytes) (h:Head) (hs:zn h) (hb:b.length≤900000000):VC cd eZ (B5 [] 228 [.o true (some (5,1)) (bytes b)] [(true,h.c)]) (fun r p=>r= []∧p= [.pt 228 [.o true (some (5,1)) (bytes (b++fj h))]]):=by
 have h1:=bY hs.view
 have h2:=bY hs.height
 have h3:=bY hs.proposer
 have h4:=hs.parent
 have h5:=hs.root
 refine lI nD rfl ?_
 simp(disch:=omega) [fq,Head.c,VZ]
 refine B8 (dD _ h.view hs.view ?_) ?_
 ·(try simp only[List.length_append]);omega
 simp(disch:=omega) [VZ]
 refine B8 (dD _ h.height hs.height ?_) ?_
 ·(try simp only[List.length_append]);omega
 simp(disch:=omega) [VZ]
 refine B8 (dD _ h.proposer hs.proposer ?_) ?_
 ·(try simp only[List.length_append]);omega
 simp(disch:=omega) [VZ]
 refine B8 (dw _ h.parent (by omega) ?_) ?_
 ·(try simp only[List.length_append]);omega
 simp(disch:=omega) [VZ]
 refine B8 (dw _ h.root (by omega) ?_) ?_
 ·(try simp only[List.length_append]);omega
 simp(disch:=omega) [VZ]
 refine B8 (xn _ h.qc hs.qc ?_) ?_
 ·(try simp only[List.length_append]);omega
 simp(disch:=omega) [fj,VZ]
abbrev kW:Nat:=129
def j8:AF:=⟨3,5,[.tmp 6, .tmp 7],(.seq (.ops [.i (.lbox 3 (.s 0)), .i (.lbox 5 (.s 2)), .i (.mov 6 (.c (.val false [.nils]))), .i (.mov 7 (qb false))]) (.seq (.seq (.ops [ql 9 3 3 5 true,ql 10 5 5 10 true, .i (.call 12 140 false [(.s 9),(.s 10)]), .i (.not 12 (.s 11))]) (.cond (.s 12) (.seq (.ops [.i (.mov 6 (.c (.val false [.nils]))), .i (.mov 7 (qb false))]) .ret) .skip)) (.seq (.ops [qm 13 1,qk 15 60 13, .i (.bld 15 [.nils] [(0,1,(.s 14))]), .i (.hbox 16 228 (.s 15)),qm 8 16]) (.seq (.ops [qm 17 8,ql 18 5 5 10 true, .i (.call 20 216 false [(.s 17),(.s 18)])]) (.seq (.ops [qm 20 8, .i (.nch 21 (.s 20)),qf 22 21 0, .i (.ldh 23 (.s 22) 1 false),qm 6 23, .i (.mov 7 (qb true))]) .ret)))))⟩
theorem tV:cd kW=some j8:=by kernel_rfl
theorem jB (l:bA) (b:Bytes) (h:Head) (hw:h.wf) (hb:b.length≤900000000):VC cd kW (bf [(true,l.c),(false,[.sl (bytes b)]),(true,h.c)]) (fun rs _=>rs=tG (bE l h) (b++fj h)):=by
 refine aa tV rfl ?_
 simp(disch:=omega) [j8,Head.c,bA.c,VY]
 refine aj (dX l h hw) rfl rfl ?_
 simp(disch:=omega) [VY]
 refine av (fun h0=> ?_) (fun h0=> ?_)
 case refine_2=>simp(disch:=omega) [h0,tG,VY]
 have hs:=lM h0
 simp(disch:=omega) [h0,VY]
 refine aj (bm b (by omega)) rfl rfl ?_
 simp(disch:=omega) [VZ]
 refine B8 (sZ _ h hs ?_) ?_
 ·(try simp only[List.length_append]);omega
 simp(disch:=omega) [tG,h0,VZ]
abbrev kN:Nat:=169
def ka:AF:=⟨3,6,[.tmp 6, .tmp 7],(.seq (.ops [.i (.lbox 3 (.s 0)), .i (.lbox 5 (.s 2)), .i (.mov 6 (.c (.val false [.nils]))), .i (.mov 7 (qb false))]) (.seq (.seq (.ops [ql 9 3 3 5 true,ql 10 5 5 10 true, .i (.call 12 118 false [(.s 9),(.s 10)]), .i (.not 12 (.s 11))]) (.cond (.s 12) (.seq (.ops [.i (.mov 6 (.c (.val false [.nils]))), .i (.mov 7 (qb false))]) .ret) .skip)) (.seq (.ops [qm 13 1,qf 14 5 0,ql 15 5 14 1 false, .i (.call 17 233 false [(.s 13),(.s 15)]),qf 17 5 1,ql 18 5 17 1 false, .i (.call 20 233 false [(.s 16),(.s 18)]),qf 20 5 2,ql 21 5 20 1 false, .i (.call 23 233 false [(.s 19),(.s 21)]),qm 8 22]) (.seq (.ops [qm 23 8,qf 24 5 3,ql 25 5 24 1 false, .i (.app 26 5 1 1 (.s 23) (.s 25)),qf 27 5 4,ql 28 5 27 1 false, .i (.app 29 5 1 1 (.s 26) (.s 28)),qm 8 29]) (.seq (.ops [ql 30 3 3 5 true,qm 31 8,qf 32 5 5,ql 33 5 32 5 true, .i (.call 35 168 false [(.s 30),(.s 31),(.s 33)]), .i (.ext 35 (.s 34) 0), .i (.ext 36 (.s 34) 1),qm 6 35,qm 7 36]) .ret)))))⟩
theorem tp:cd kN=some ka:=by kernel_rfl
theorem iT (l:bA) (b:Bytes) (h:Head) (hw:h.wf) (hb:b.length≤900000000):VC cd kN (bf [(true,l.c),(false,[.sl (bytes b)]),(true,h.c)]) (fun rs _=>rs=tG (bE l h) (b++fj h)):=by
 refine aa tp rfl ?_
 simp(disch:=omega) [ka,Head.c,bA.c,VY]
 refine aj (eb l h hw) rfl rfl ?_
 simp(disch:=omega) [VY]
 refine av (fun h0=> ?_) (fun h0=> ?_)
 case refine_2=>simp(disch:=omega) [h0,tG,VY]
 have hs:=lM h0
 have h1:=bY hs.view
 have h2:=bY hs.height
 have h3:=bY hs.proposer
 have h4:=hs.parent
 have h5:=hs.root
 simp(disch:=omega) [h0,VY]
 refine aj (ef b h.view hs.view (by omega)) rfl rfl ?_
 simp(disch:=omega) [VY]
 refine aj (ef (b++cA h.view.toNat) h.height hs.height (by simp only[List.length_append];omega)) rfl rfl ?_
 simp(disch:=omega) [VY]
 refine aj (ef (b++(cA h.view.toNat++cA h.height.toNat)) h.proposer hs.proposer (by simp only[List.length_append];omega)) rfl rfl ?_
 simp(disch:=omega) [bD,an,VY]
 refine bp ((uR l (b++(cA h.view.toNat++(cA h.height.toNat++(cA h.proposer.toNat++(h.parent++h.root))))) h.qc hw.2.2.2.2.2 (by simp only[List.length_append];omega)).re (zS (vI h0))) ?_
 simp(disch:=omega) [tG,h0,fj,VY]
def rW (l:bA) (h:Head):Bytes:=if bE l h then uV (72::fj h)else []
def gf (l:bA) (h:Head):List (Bool×List E):=if bE l h then [(false,[.o true (some (5,1)) (bytes (uV (72::fj h)))])]else [(false,[.p .nils])]
abbrev jI:Nat:=51
def jM:AF:=⟨2,5,[.tmp 4],(.seq (.ops [.i (.lbox 2 (.s 0)), .i (.lbox 3 (.s 1)), .i (.mov 4 (.c (.val false [.nils])))]) (.seq (.ops [ql 8 2 2 5 true, .i (.bsl 9 5 1 1 [.int .u8 0] [(0,1,(.c (.val false [.int .u8 72])))]),ql 10 3 3 10 true, .i (.call 12 129 false [(.s 8),(.s 9),(.s 10)]),qm 7 11, .i (.ext 12 (.s 7) 0), .i (.ext 13 (.s 7) 1),qm 5 12,qm 6 13]) (.seq (.seq (.ops [qm 14 6, .i (.not 15 (.s 14))]) (.cond (.s 15) (.seq (.ops [.i (.mov 4 (.c (.val false [.nils])))]) .ret) .skip)) (.seq (.ops [qm 16 5,qk 18 130 16,qm 4 17]) .ret))))⟩
theorem ra:cd jI=some jM:=by kernel_rfl
theorem cE (l:bA) (h:Head) (hw:h.wf):VC cd jI (bf [(true,l.c),(true,h.c)]) (fun rs _=>rs=gf l h):=by
 have e: [[D.int .u8 72]]=bytes [72]:=rfl
 refine aa ra rfl ?_
 simp(disch:=omega) [jM,Head.c,bA.c,e,VY]
 cases h0:bE l h with
 |false=>
  refine bp ((jB l [72] h hw (by simp)).re (CP h0)) ?_
  simp(disch:=omega) [gf,h0,VY]
 |true=>
  have hs:=vw (lM h0)
  refine bp ((jB l [72] h hw (by simp)).re (zS h0)) ?_
  simp(disch:=omega) [VY]
  refine bp (fI (72::fj h) (by simp;omega)) ?_
  simp(disch:=omega) [gf,h0,VY]
abbrev i9:Nat:=120
def jb:AF:=⟨2,5,[.tmp 4],(.seq (.ops [.i (.lbox 2 (.s 0)), .i (.lbox 3 (.s 1)), .i (.mov 4 (.c (.val false [.nils])))]) (.seq (.ops [ql 8 2 2 5 true, .i (.bsl 9 5 1 1 [.int .u8 0] [(0,1,(.c (.val false [.int .u8 72])))]),ql 10 3 3 10 true, .i (.call 12 169 false [(.s 8),(.s 9),(.s 10)]),qm 7 11, .i (.ext 12 (.s 7) 0), .i (.ext 13 (.s 7) 1),qm 5 12,qm 6 13]) (.seq (.seq (.ops [qm 14 6, .i (.not 15 (.s 14))]) (.cond (.s 15) (.seq (.ops [.i (.mov 4 (.c (.val false [.nils])))]) .ret) .skip)) (.seq (.ops [qm 16 5,qk 18 205 16,qm 4 17]) .ret))))⟩
theorem rr:cd i9=some jb:=by kernel_rfl
theorem ej (l:bA) (h:Head) (hw:h.wf):VC cd i9 (bf [(true,l.c),(true,h.c)]) (fun rs _=>rs=gf l h):=by
 have e: [[D.int .u8 72]]=bytes [72]:=rfl
 refine aa rr rfl ?_
 simp(disch:=omega) [jb,Head.c,bA.c,e,VY]
 cases h0:bE l h with
 |false=>
  refine bp ((iT l [72] h hw (by simp)).re (CP h0)) ?_
  simp(disch:=omega) [gf,h0,VY]
 |true=>
  have hs:=vw (lM h0)
  refine bp ((iT l [72] h hw (by simp)).re (zS h0)) ?_
  simp(disch:=omega) [VY]
  refine bp (fC (72::fj h) (by simp;omega)) ?_
  simp(disch:=omega) [gf,h0,VY]
end Go.Eng.F
namespace Go.Eng.F
theorem gI {l:bA} {h:Head} (e:bE l h=true):gf l h= [(false,[.o true (some (5,1)) (bytes (uV (72::fj h)))])]:=by unfold gf;rw[e];rfl
theorem yw {l:bA} {h:Head} (e:bE l h=false):gf l h= [(false,[.p .nils])]:=by unfold gf;rw[e];rfl
theorem AB {l:bA} {h:Head} (e:bE l h=true):rW l h=uV (72::fj h):=by unfold rW;rw[e];rfl
def fO (l:bA) (a b:Head):Bool:=bE l a && bE l b && decide (b.parent=rW l a) && decide (b.qc.view=a.view) && decide (b.qc.height=a.height)
abbrev nP:Nat:=61
def oC:AF:=⟨3,6,[.tmp 6],(.seq (.ops [.i (.lbox 3 (.s 0)), .i (.lbox 4 (.s 1)), .i (.lbox 5 (.s 2)), .i (.mov 6 (qb false))]) (.seq (.ops [ql 7 3 3 5 true,ql 8 4 4 10 true, .i (.call 10 140 false [(.s 7),(.s 8)]),qm 10 9, .g 10 true 12 (.ldl 11 3 (.s 3) 5 true), .g 10 true 13 (.ldl 12 5 (.s 5) 10 true), .g 10 true 14 (.call 14 140 false [(.s 11),(.s 12)]), .i (.pick 14 (.s 10) (.s 13) (qb false)),qm 15 14, .g 15 true 17 (.fad 16 (.s 5) 3), .g 15 true 18 (.ldl 17 5 (.s 16) 1 false), .g 15 true 19 (.ldl 18 3 (.s 3) 5 true), .g 15 true 20 (.ldl 19 4 (.s 4) 10 true), .g 15 true 21 (.call 21 51 false [(.s 18),(.s 19)]), .g 15 true 22 (.call 22 57 false [(.s 17),(.s 20)]), .i (.pick 22 (.s 15) (.s 21) (qb false)),qm 23 22, .g 23 true 25 (.fad 24 (.s 5) 5), .g 23 true 26 (.fad 25 (.s 24) 0), .g 23 true 27 (.ldl 26 5 (.s 25) 1 false), .g 23 true 28 (.fad 27 (.s 4) 0), .g 23 true 29 (.ldl 28 4 (.s 27) 1 false), .g 23 true 30 (.bin 29 .eql (.s 26) (.s 28)), .i (.pick 30 (.s 23) (.s 29) (qb false)),qm 31 30, .g 31 true 33 (.fad 32 (.s 5) 5), .g 31 true 34 (.fad 33 (.s 32) 1), .g 31 true 35 (.ldl 34 5 (.s 33) 1 false), .g 31 true 36 (.fad 35 (.s 4) 1), .g 31 true 37 (.ldl 36 4 (.s 35) 1 false), .g 31 true 38 (.bin 37 .eql (.s 34) (.s 36)), .i (.pick 38 (.s 31) (.s 37) (qb false)),qm 6 38]) .ret))⟩
theorem wA:cd nP=some oC:=by kernel_rfl
theorem uT (l:bA) (a b:Head) (ha:a.wf) (hb:b.wf):VC cd nP (bf [(true,l.c),(true,a.c),(true,b.c)]) (fun rs _=>rs=bl (fO l a b)):=by
 refine aa wA rfl ?_
 simp(disch:=omega) [oC,Head.c,bA.c,VY]
 refine bp (dX l a ha) ?_
 simp(disch:=omega) [VY]
 refine av (fun h1=> ?_) (fun h1=> ?_) <;>simp(disch:=omega) [h1,fO,VY]
 refine bp (dX l b hb) ?_
 simp(disch:=omega) [VY]
 refine av (fun h2=> ?_) (fun h2=> ?_) <;>simp(disch:=omega) [h1,h2,VY]
 refine bp ((cE l a ha).re (gI h1)) ?_
 simp(disch:=omega) [VY]
 refine bp (cn b.parent (uV (72::fj a))) ?_
 simp(disch:=omega) [VY]
 rw[AB h1]
 refine ab (fun h3=> ?_) (fun h3=> ?_) <;>simp(disch:=omega) [h1,h2,h3,VY]
 refine ab (fun h4=> ?_) (fun h4=> ?_) <;>simp(disch:=omega) [h1,h2,h3,h4,VY]
abbrev oF:Nat:=122
def nW:AF:=⟨3,6,[.tmp 6],(.seq (.ops [.i (.lbox 3 (.s 0)), .i (.lbox 4 (.s 1)), .i (.lbox 5 (.s 2)), .i (.mov 6 (qb false))]) (.seq (.ops [ql 7 3 3 5 true,ql 8 4 4 10 true, .i (.call 10 118 false [(.s 7),(.s 8)]),qm 10 9, .g 10 true 12 (.ldl 11 3 (.s 3) 5 true), .g 10 true 13 (.ldl 12 5 (.s 5) 10 true), .g 10 true 14 (.call 14 118 false [(.s 11),(.s 12)]), .i (.pick 14 (.s 10) (.s 13) (qb false)),qm 15 14, .g 15 true 17 (.fad 16 (.s 5) 3), .g 15 true 18 (.ldl 17 5 (.s 16) 1 false), .g 15 true 19 (.ldl 18 3 (.s 3) 5 true), .g 15 true 20 (.ldl 19 4 (.s 4) 10 true), .g 15 true 21 (.call 21 120 false [(.s 18),(.s 19)]), .g 15 true 22 (.call 22 143 false [(.s 17),(.s 20)]), .i (.pick 22 (.s 15) (.s 21) (qb false)),qm 23 22, .g 23 true 25 (.fad 24 (.s 5) 5), .g 23 true 26 (.fad 25 (.s 24) 0), .g 23 true 27 (.ldl 26 5 (.s 25) 1 false), .g 23 true 28 (.fad 27 (.s 4) 0), .g 23 true 29 (.ldl 28 4 (.s 27) 1 false), .g 23 true 30 (.bin 29 .eql (.s 26) (.s 28)), .i (.pick 30 (.s 23) (.s 29) (qb false)),qm 31 30, .g 31 true 33 (.fad 32 (.s 5) 5), .g 31 true 34 (.fad 33 (.s 32) 1), .g 31 true 35 (.ldl 34 5 (.s 33) 1 false), .g 31 true 36 (.fad 35 (.s 4) 1), .g 31 true 37 (.ldl 36 4 (.s 35) 1 false), .g 31 true 38 (.bin 37 .eql (.s 34) (.s 36)), .i (.pick 38 (.s 31) (.s 37) (qb false)),qm 6 38]) .ret))⟩
theorem wZ:cd oF=some nW:=by kernel_rfl
theorem uO (l:bA) (a b:Head) (ha:a.wf) (hb:b.wf):VC cd oF (bf [(true,l.c),(true,a.c),(true,b.c)]) (fun rs _=>rs=bl (fO l a b)):=by
 refine aa wZ rfl ?_
 simp(disch:=omega) [nW,Head.c,bA.c,VY]
 refine bp (eb l a ha) ?_
 simp(disch:=omega) [VY]
 refine av (fun h1=> ?_) (fun h1=> ?_) <;>simp(disch:=omega) [h1,fO,VY]
 refine bp (eb l b hb) ?_
 simp(disch:=omega) [VY]
 refine av (fun h2=> ?_) (fun h2=> ?_) <;>simp(disch:=omega) [h1,h2,VY]
 refine bp ((ej l a ha).re (gI h1)) ?_
 simp(disch:=omega) [VY]
 refine bp (cu b.parent (uV (72::fj a))) ?_
 simp(disch:=omega) [VY]
 rw[AB h1]
 refine ab (fun h3=> ?_) (fun h3=> ?_) <;>simp(disch:=omega) [h1,h2,h3,VY]
 refine ab (fun h4=> ?_) (fun h4=> ?_) <;>simp(disch:=omega) [h1,h2,h3,h4,VY]
structure ao where
 l:bA
 heads:List Head
def ao.c (f:ao):List D:=f.l.c++ [.sl (iO f.heads)]
def ao.wf (f:ao):Prop:=xb f.heads
def ao.wc (f:ao):Prop:=Sz f.heads.length∧∀h∈f.heads,h.wc
theorem ao.wc.wf {f:ao} (h:f.wc):f.wf:=⟨h.1,fun x hx=>(h.2 x hx).1⟩
def hh (l:bA) (hs:List Head) (i:Nat):Bytes:=match hs[i]? with|some h=>rW l h|none=> []
theorem wM {l:bA} {hs:List Head} {i:Nat} (h:i < hs.length):hh l hs i=rW l hs[i]:=by simp[hh,h]
def Ix (l:bA) (hs:List Head):Prop:=∀i,i < hs.length→∀j,j < i→hh l hs i≠hh l hs j
noncomputable def C0 (l:bA) (hs:List Head):Bool:= @decide (Ix l hs) (Classical.propDecidable _)
theorem DO {l:bA} {hs:List Head} (h:Ix l hs):C0 l hs=true:=by unfold C0;exact @decide_eq_true _ (Classical.propDecidable _) h
theorem DR {l:bA} {hs:List Head} {i j:Nat} (hi:i < hs.length) (hj:j < i) (h:hh l hs i=hh l hs j):C0 l hs=false:=by unfold C0;exact @decide_eq_false _ (Classical.propDecidable _) (fun hd=>hd i hi j hj h)
noncomputable def cC (f:ao):Bool:=f.l.ok && decide ((f.heads.length:Int)≤10) && lC f.l f.heads && C0 f.l f.heads
theorem yb (hs:List Head) (i:Nat):(iO hs).take i=iO (hs.take i):=by simp[iO]
theorem xZ {hs:List Head} {i j:Nat} (h:j < i) (hi:i < hs.length):(iO (hs.take i))[j]? =some hs[j].c:=by
 have:j < (hs.take i).length:=by simp;omega
 rw[da this]
 simp
theorem pH:bytes []= []:=rfl
theorem ne_next {l:bA} {hs:List Head} {i j:Nat} (h:∀b,b < j→hh l hs i≠hh l hs b) (hn:hh l hs i≠hh l hs j):∀b,b < j+1→hh l hs i≠hh l hs b:=fun b hb=>by
 rcases Nat.lt_or_ge b j with hl|hl
 ·exact h b hl
 ·obtain rfl:b=j:=by omega
  exact hn
theorem vG {l:bA} {hs:List Head} {i:Nat} (h:∀a,a < i→∀b,b < a→hh l hs a≠hh l hs b) (hn:∀b,b < i→hh l hs i≠hh l hs b):∀a,a < i+1→∀b,b < a→hh l hs a≠hh l hs b:=fun a ha b hb=>by
 rcases Nat.lt_or_ge a i with hl|hl
 ·exact h a hl b hb
 ·obtain rfl:a=i:=by omega
  exact hn b hb
theorem CD {α:Type} {l:List α} {i j:Nat} (h:j < l.length) (hj:j < i):l[j]∈l.take i:=by
 have:j < (l.take i).length:=by simp;omega
 have e:(l.take i)[j]=l[j]:=by simp
 rw[←e]
 exact List.getElem_mem this
abbrev jg:Nat:=71
def i5:AF:=⟨1,6,[.tmp 2],(.seq (.ops [.i (.lbox 1 (.s 0)), .i (.mov 2 (qb false))]) (.seq (.seq (.ops [qf 7 1 5,ql 8 1 7 1 false,qn 9 8, .i (.mov 10 (qi 0))]) (.block 0 (.loop [34,33,32,31,30,29,28,27,26,25,24,23,22,21,20,19,18,17,16,15,14,13,12,11,6,4,3] (.seq (.ops [qd 11 .lss 10 9]) (.seq (.cond (.s 11) .skip (.exit 0)) (.seq (.block 1 (.seq (.ops [qm 12 10, .i (.iad 13 (.s 8) (.s 10) 10), .i (.ldh 14 (.s 13) 10 true), .i (.lal 4 qz),qm 3 12,qs 4 4 14 10]) (.seq (.ops [qf 15 1 5,ql 16 1 15 1 false,qm 17 3, .i (.ee 18 10 (.s 16) none (some (.s 17))),qn 19 18, .i (.mov 20 (qi 0))]) (.block 2 (.loop [33,32,31,30,29,28,27,26,25,24,23,22,21,6] (.seq (.ops [qd 21 .lss 20 19]) (.seq (.cond (.s 21) .skip (.exit 2)) (.seq (.block 3 (.seq (.ops [.i (.iad 22 (.s 18) (.s 20) 10), .i (.ldh 23 (.s 22) 10 true), .i (.lal 6 qz),qs 6 6 23 10]) (.seq (.ops [qf 24 1 0,ql 25 1 24 5 true,ql 26 4 4 10 true, .i (.call 28 51 false [(.s 25),(.s 26)]),qf 28 1 0,ql 29 1 28 5 true,ql 30 6 6 10 true, .i (.call 32 51 false [(.s 29),(.s 30)]), .i (.call 33 57 false [(.s 27),(.s 31)])]) (.cond (.s 32) (.seq (.ops [.i (.mov 2 (qb false))]) .ret) .skip)))) (.ops [.i (.bin 33 .add (.s 20) (qi 1)),qm 20 33]))))))))) (.ops [.i (.bin 34 .add (.s 10) (qi 1)),qm 10 34]))))))) (.seq (.ops [qf 35 1 0,ql 36 1 35 5 true,qk 38 134 36,qm 38 37, .g 38 true 40 (.fad 39 (.s 1) 5), .g 38 true 41 (.ldl 40 1 (.s 39) 1 false), .g 38 true 42 (.len 41 false (.s 40)), .g 38 true 43 (.bin 42 .leq (.s 41) (qi 10)), .i (.pick 43 (.s 38) (.s 42) (qb false)),qm 44 43, .g 44 true 46 (.fad 45 (.s 1) 0), .g 44 true 47 (.ldl 46 1 (.s 45) 5 true), .g 44 true 48 (.fad 47 (.s 1) 5), .g 44 true 49 (.ldl 48 1 (.s 47) 1 false), .g 44 true 50 (.call 50 131 false [(.s 46),(.s 48)]), .i (.pick 50 (.s 44) (.s 49) (qb false)),qm 2 50]) .ret)))⟩
theorem qX:cd jg=some i5:=by kernel_rfl
theorem oY (f:ao) (hw:f.wf):VC cd jg (bf [(true,f.c)]) (fun rs _=>rs=bl (cC f)):=by
 obtain⟨w1,w2⟩:=hw
 simp only[Sz]at w1
 refine aa qX rfl ?_
 simp(disch:=omega) [i5,ao.c,bA.c,bb,VY]
 refine aI (σ:=Nat) (f1:=_) (es0:=_) (by simp(disch:=omega) [VY];rfl) (by simp(disch:=omega) [VY];rfl) (fun i=> [(10, .val false [.int .i64 (i:Int)])]) (fun _=> []) (fun i g=>g+i=f.heads.length∧∀a,a < i→∀b,b < a→hh f.l f.heads a≠hh f.l f.heads b) 0 f.heads.length (by simp(disch:=omega) [VY]) (by simp(disch:=omega) [VY]) ⟨by omega,fun a ha=>by omega⟩ ?_
 rintro i n g ⟨hg,hd⟩
 simp(disch:=omega) [VY]
 refine ab (fun h1=> ?_) (fun h1=> ?_)
 ·have hi:i < f.heads.length:=by omega
  have w3:=w2 _ (List.getElem_mem hi)
  have hle:i≤f.heads.length:=by omega
  simp(disch:=omega) [da hi,Head.c,bb,Av,yb,hle,VY]
  refine aI (σ:=Nat) (f1:=_) (es0:=_) (by simp(disch:=omega) [VY];rfl) (by simp(disch:=omega) [VY];rfl) (fun j=> [(20, .val false [.int .i64 (j:Int)])]) (fun _=> []) (fun j g=>g+j=i∧∀b,b < j→hh f.l f.heads i≠hh f.l f.heads b) 0 i (by simp(disch:=omega) [VY]) (by simp(disch:=omega) [VY]) ⟨by omega,fun b hb=>by omega⟩ ?_
  rintro j n2 g2 ⟨hg2,hd2⟩
  simp(disch:=omega) [VY]
  refine ab (fun h2=> ?_) (fun h2=> ?_)
  ·have hj:j < i:=by omega
   have hj2:j < f.heads.length:=by omega
   have w4:=w2 _ (List.getElem_mem hj2)
   simp(disch:=omega) [xZ hj hi,Head.c,VY]
   cases h3:bE f.l f.heads[i] <;>cases h4:bE f.l f.heads[j]
   all_goals
    first|refine bp ((cE f.l f.heads[i] w3).re (gI h3)) ?_|refine bp ((cE f.l f.heads[i] w3).re (yw h3)) ?_
    simp(disch:=omega) [VY]
    first|refine bp ((cE f.l f.heads[j] w4).re (gI h4)) ?_|refine bp ((cE f.l f.heads[j] w4).re (yw h4)) ?_
    simp(disch:=omega) [VY]
    refine bp (cn (hh f.l f.heads i) (hh f.l f.heads j)) ?_ (ha:=by first|rfl|(simp[wM hi,wM hj2,rW,h3,h4,pH,VY] <;>repeat' constructor))
    simp(disch:=omega) [VY]
    refine ab (fun h5=> ?_) (fun h5=> ?_)
    ·simp(disch:=omega) [cC,DR hi hj h5,VY]
    ·simp(disch:=omega) [VY]
     exact⟨j+1,g2 - 1,by omega,⟨by omega,ne_next hd2 h5⟩,by simp⟩
  ·have hj:j=i:=by omega
   subst hj
   simp(disch:=omega) [VY]
   exact⟨j+1,g - 1,by omega,⟨by omega,vG hd hd2⟩,by simp⟩
 ·have hi:i=f.heads.length:=by omega
  subst hi
  have h5:=DO hd
  simp(disch:=omega) [VY]
  refine aj (ek f.l) rfl rfl ?_
  simp(disch:=omega) [bb,VY]
  refine av (fun h2=> ?_) (fun h2=> ?_) <;>simp(disch:=omega) [h2,cC,h5,bb,VY]
  refine ab (fun h3=> ?_) (fun h3=> ?_) <;>simp(disch:=omega) [h2,h3,h5,bb,VY]
  refine bp (xL f.l f.heads ⟨w1,w2⟩) ?_
  simp(disch:=omega) [h2,h3,h5,VY]
abbrev i2:Nat:=66
def jl:AF:=⟨1,6,[.tmp 2],(.seq (.ops [.i (.lbox 1 (.s 0)), .i (.mov 2 (qb false))]) (.seq (.seq (.ops [qf 7 1 0,ql 8 1 7 5 true,qk 10 142 8, .i (.not 10 (.s 9)),qm 11 10, .g 11 false 13 (.fad 12 (.s 1) 5), .g 11 false 14 (.ldl 13 1 (.s 12) 1 false), .g 11 false 15 (.len 14 false (.s 13)), .g 11 false 16 (.bin 15 .gtr (.s 14) (qi 10)), .i (.pick 16 (.s 11) (qb true) (.s 15))]) (.cond (.s 16) (.seq (.ops [.i (.mov 2 (qb false))]) .ret) .skip)) (.seq (.seq (.ops [qf 17 1 5,ql 18 1 17 1 false,qn 19 18, .i (.mov 20 (qi 0))]) (.block 0 (.loop [49,48,47,46,45,44,43,42,41,40,39,38,37,36,35,34,33,32,31,30,29,28,27,26,25,24,23,22,21,6,4,3] (.seq (.ops [qd 21 .lss 20 19]) (.seq (.cond (.s 21) .skip (.exit 0)) (.seq (.block 1 (.seq (.ops [qm 22 20, .i (.iad 23 (.s 18) (.s 20) 10), .i (.ldh 24 (.s 23) 10 true), .i (.lal 4 qz),qm 3 22,qs 4 4 24 10]) (.seq (.seq (.ops [qf 25 1 0,ql 26 1 25 5 true,ql 27 4 4 10 true, .i (.call 29 118 false [(.s 26),(.s 27)]), .i (.not 29 (.s 28))]) (.cond (.s 29) (.seq (.ops [.i (.mov 2 (qb false))]) .ret) .skip)) (.seq (.ops [qf 30 1 5,ql 31 1 30 1 false,qm 32 3, .i (.ee 33 10 (.s 31) none (some (.s 32))),qn 34 33, .i (.mov 35 (qi 0))]) (.block 2 (.loop [48,47,46,45,44,43,42,41,40,39,38,37,36,6] (.seq (.ops [qd 36 .lss 35 34]) (.seq (.cond (.s 36) .skip (.exit 2)) (.seq (.block 3 (.seq (.ops [.i (.iad 37 (.s 33) (.s 35) 10), .i (.ldh 38 (.s 37) 10 true), .i (.lal 6 qz),qs 6 6 38 10]) (.seq (.ops [qf 39 1 0,ql 40 1 39 5 true,ql 41 6 6 10 true, .i (.call 43 120 false [(.s 40),(.s 41)]),qf 43 1 0,ql 44 1 43 5 true,ql 45 4 4 10 true, .i (.call 47 120 false [(.s 44),(.s 45)]), .i (.call 48 143 false [(.s 42),(.s 46)])]) (.cond (.s 47) (.seq (.ops [.i (.mov 2 (qb false))]) .ret) .skip)))) (.ops [.i (.bin 48 .add (.s 35) (qi 1)),qm 35 48])))))))))) (.ops [.i (.bin 49 .add (.s 20) (qi 1)),qm 20 49]))))))) (.seq (.ops [.i (.mov 2 (qb true))]) .ret))))⟩
theorem q9:cd i2=some jl:=by kernel_rfl
theorem hH (f:ao) (hw:f.wf):VC cd i2 (bf [(true,f.c)]) (fun rs _=>rs=bl (cC f)):=by
 obtain⟨w1,w2⟩:=hw
 simp only[Sz]at w1
 refine aa q9 rfl ?_
 simp(disch:=omega) [jl,ao.c,bA.c,bb,VY]
 refine aj (dm f.l) rfl rfl ?_
 simp(disch:=omega) [bb,VY]
 refine av (fun h2=> ?_) (fun h2=> ?_)
 case refine_2=>simp(disch:=omega) [h2,cC,VY]
 simp(disch:=omega) [h2,bb,VY]
 refine ab (fun h3=> ?_) (fun h3=> ?_)
 ·simp(disch:=omega) [h2,h3,cC,show ¬(f.heads.length:Int)≤10 by omega,VY]
 simp(disch:=omega) [h2,h3,bb,VY]
 refine aI (σ:=Nat) (f1:=_) (es0:=_) (by simp(disch:=omega) [VY];rfl) (by simp(disch:=omega) [VY];rfl) (fun i=> [(20, .val false [.int .i64 (i:Int)])]) (fun _=> []) (fun i g=>g+i=f.heads.length∧(∀x∈f.heads.take i,bE f.l x=true)∧∀a,a < i→∀b,b < a→hh f.l f.heads a≠hh f.l f.heads b) 0 f.heads.length (by simp(disch:=omega) [VY]) (by simp(disch:=omega) [VY]) ⟨by omega,by simp,fun a ha=>by omega⟩ ?_
 rintro i n g ⟨hg,hk,hd⟩
 simp(disch:=omega) [VY]
 refine ab (fun h1=> ?_) (fun h1=> ?_)
 ·have hi:i < f.heads.length:=by omega
  have w3:=w2 _ (List.getElem_mem hi)
  have hle:i≤f.heads.length:=by omega
  simp(disch:=omega) [da hi,Head.c,bb,VY]
  refine bp (eb f.l f.heads[i] w3) ?_
  simp(disch:=omega) [VY]
  refine av (fun h4=> ?_) (fun h4=> ?_)
  case refine_2=>simp(disch:=omega) [cC,sx hi h4,VY]
  simp(disch:=omega) [bb,Av,yb,hle,VY]
  refine aI (σ:=Nat) (f1:=_) (es0:=_) (by simp(disch:=omega) [VY];rfl) (by simp(disch:=omega) [VY];rfl) (fun j=> [(35, .val false [.int .i64 (j:Int)])]) (fun _=> []) (fun j g=>g+j=i∧∀b,b < j→hh f.l f.heads i≠hh f.l f.heads b) 0 i (by simp(disch:=omega) [VY]) (by simp(disch:=omega) [VY]) ⟨by omega,fun b hb=>by omega⟩ ?_
  rintro j n2 g2 ⟨hg2,hd2⟩
  simp(disch:=omega) [VY]
  refine ab (fun h5=> ?_) (fun h5=> ?_)
  ·have hj:j < i:=by omega
   have hj2:j < f.heads.length:=by omega
   have w4:=w2 _ (List.getElem_mem hj2)
   have h6:=hk _ (CD hj2 hj)
   simp(disch:=omega) [xZ hj hi,Head.c,VY]
   refine bp ((ej f.l f.heads[j] w4).re (gI h6)) ?_
   simp(disch:=omega) [VY]
   refine bp ((ej f.l f.heads[i] w3).re (gI h4)) ?_
   simp(disch:=omega) [VY]
   refine bp (cu (hh f.l f.heads j) (hh f.l f.heads i)) ?_ (ha:=by first|rfl|(simp[wM hi,wM hj2,rW,h4,h6,VY] <;>repeat' constructor))
   simp(disch:=omega) [VY]
   refine ab (fun h7=> ?_) (fun h7=> ?_)
   ·simp(disch:=omega) [cC,DR hi hj h7.symm,VY]
   ·simp(disch:=omega) [VY]
    exact⟨j+1,g2 - 1,by omega,⟨by omega,ne_next hd2 (fun e=>h7 e.symm)⟩,by simp⟩
  ·have hj:j=i:=by omega
   subst hj
   simp(disch:=omega) [VY]
   exact⟨j+1,g - 1,by omega,⟨by omega,aV hk hi h4,vG hd hd2⟩,by simp⟩
 ·have hi:i=f.heads.length:=by omega
  subst hi
  simp(disch:=omega) [cC,h2,DO hd,sX hk,show(f.heads.length:Int)≤10 by omega,VY]
def ao.o (f:ao):List E:= [.p (.int .i64 f.l.n), .p (.int .i64 f.l.tx), .p (.int .i64 f.l.txs), .p (.int .i64 f.l.frame), .p (.int .i64 f.l.heads), .o true (some (40,10)) (iO f.heads)]
theorem v9 (l:List Head) (h:Head):iO l++ [h.c]=iO (l++ [h]):=by simp[iO]
end Go.Eng.F
namespace Go.Eng.F
end Go.Eng.F
namespace Go.Eng.F
open Go.Eng.U (wv ak br TForest)
def ao.tv (f:ao):Tv:= .r [f.l.tv,fw f.heads]
theorem ao.enc (f:ao):enc TForest f.tv=f.c:=by simp only[ao.tv,f9,gh,cX,dA,bA.enc,ao.c,List.append_nil]
theorem ao.ex {v:Tv} (h:aG TForest v):∃q:ao,v=q.tv:=by
 obtain⟨vs,rfl,h⟩:=h.st
 obtain⟨v0,_,rfl,h0,h⟩:=h.step
 obtain⟨v1,_,rfl,h1,h⟩:=h.step
 obtain rfl:=h.fin
 obtain⟨n0,rfl⟩:=bA.ex h0
 obtain⟨n1,rfl⟩:=rN h1
 exact⟨⟨n0,n1⟩,rfl⟩
theorem ao.of {f:ao} (h:aG TForest f.tv) (hw:wt f.tv≤1048576):f.wc∧aG br f.l.tv∧f.heads.length≤1048576:=by
 simp only[ao.tv,dZ,bN]at h
 simp only[ao.tv,wt,cW]at hw
 obtain⟨h0,h1,_⟩:=h
 have h5:=wy h1 (by omega)
 have h6:f.heads.length≤wt (fw f.heads):=by unfold fw;rw[FA,List.length_map];omega
 exact⟨⟨h5.1,h5.2⟩,dZ.2 (dZ.1 h0),by omega⟩
theorem wB {α:Type} {f:α→Tv} {B:Nat}:∀ {l:List α},(∀x∈l,wt (f x)≤B)→cW (l.map f)≤l.length * B
 | [],_=>by simp[cW]
 |a::l,h=>by
  have h1:=h a (by simp)
  have h2:=wB (l:=l) fun x hx=>h x (by simp[hx])
  simp only[List.map_cons,cW,List.length_cons,Nat.succ_mul]
  omega
end Go.Eng.F
namespace Go.Eng.F
end Go.Eng.F
namespace Go.Eng.F
structure eS where
 skip:Int
 buf:Bytes
def eS.c (p:eS):List D:= [.int .i64 p.skip, .sl (bytes p.buf)]
end Go.Eng.F
namespace Go.Eng.F
structure dy where
 l:bA
 t:Table
 push:eS
 chain:List Head
def dy.c (x:dy):List D:= [.int .i64 x.l.n, .int .i64 x.l.tx, .int .i64 x.l.txs, .int .i64 x.l.frame, .int .i64 x.l.heads, .sl (rws x.t.rows), .int .i64 x.push.skip, .sl (bytes x.push.buf), .sl (iO x.chain)]
def dy.wc (x:dy):Prop:=x.t.wf∧x.push.buf.length≤1073741824∧Sz x.chain.length∧∀h∈x.chain,h.wc
def ht (hs:List Head) (i:Nat):Int:=match hs[i]? with|some h=>h.height|none=>0
structure lY where
 l:bA
 t:Table
 x:dy
 own:List Head
def lY.c (d:lY):List D:= [.int .i64 d.l.n, .int .i64 d.l.tx, .int .i64 d.l.txs, .int .i64 d.l.frame, .int .i64 d.l.heads, .sl (rws d.t.rows), .int .i64 d.x.l.n, .int .i64 d.x.l.tx, .int .i64 d.x.l.txs, .int .i64 d.x.l.frame, .int .i64 d.x.l.heads, .sl (rws d.x.t.rows), .int .i64 d.x.push.skip, .sl (bytes d.x.push.buf), .sl (iO d.x.chain), .sl (iO d.own)]
def lY.wc (d:lY):Prop:=d.t.wf∧d.x.wc∧Sz d.own.length∧∀h∈d.own,h.wc
end Go.Eng.F
namespace Go.Eng.F
open Go.Eng.U (wv ak br TTable qH nu Aa)
def eS.wf (p:eS):Prop:=tQ p.skip∧Sz p.buf.length
def eS.tv (x:eS):Tv:= .r [.i x.skip,xo x.buf]
theorem eS.enc (x:eS):enc qH x.tv=x.c:=by simp only[eS.tv,gh,cX,dA,eT,ia,lJ,iM,eH,oc,eS.c,List.cons_append,List.nil_append,List.append_assoc]
theorem eS.ex {v:Tv} (h:aG qH v):∃x:eS,v=x.tv:=by
 obtain⟨vs,rfl,h⟩:=h.st
 obtain⟨v0,_,rfl,h0,h⟩:=h.step
 obtain⟨v1,_,rfl,h1,h⟩:=h.step
 obtain rfl:=h.fin
 obtain⟨n0,rfl,_⟩:=h0.int
 obtain⟨n1,rfl⟩:=nz h1
 exact⟨⟨n0,n1⟩,rfl⟩
theorem eS.of {x:eS} (h:aG qH x.tv) (hw:wt x.tv≤1048576):x.wf:=by
 simp only[eS.tv,dZ,bN]at h
 simp only[eS.tv,wt,cW]at hw
 obtain⟨h0,h1,_⟩:=h
 exact⟨nB (ok_int.1 h0),vg (by omega)⟩
theorem eS.wf.tok {x:eS} (h:x.wf):aG qH x.tv:=by
 simp only[eS.tv,dZ,bN]
 obtain⟨h0,h1⟩:=h
 exact⟨nI h0,vC h1,iP.2 trivial⟩
def dy.tv (x:dy):Tv:= .r [x.l.tv,x.t.tv,x.push.tv,fw x.chain]
theorem dy.enc (x:dy):enc nu x.tv=x.c:=by simp only[dy.tv,f9,gh,cX,dA,bA.enc,Table.enc,eS.enc,dy.c,bA.c,Table.c,eS.c,List.cons_append,List.nil_append,List.append_nil]
theorem dy.ex {v:Tv} (h:aG nu v):∃q:dy,v=q.tv:=by
 obtain⟨vs,rfl,h⟩:=h.st
 obtain⟨v0,_,rfl,h0,h⟩:=h.step
 obtain⟨v1,_,rfl,h1,h⟩:=h.step
 obtain⟨v2,_,rfl,h2,h⟩:=h.step
 obtain⟨v3,_,rfl,h3,h⟩:=h.step
 obtain rfl:=h.fin
 obtain⟨n0,rfl⟩:=bA.ex h0
 obtain⟨n1,rfl⟩:=Table.ex h1
 obtain⟨n2,rfl⟩:=eS.ex h2
 obtain⟨n3,rfl⟩:=rN h3
 exact⟨⟨n0,n1,n2,n3⟩,rfl⟩
theorem dy.of {x:dy} (h:aG nu x.tv) (hw:wt x.tv≤1048576):x.wc:=by
 simp only[dy.tv,dZ,bN]at h
 simp only[dy.tv,wt,cW]at hw
 obtain⟨h0,h1,h2,h3,_⟩:=h
 have k1:=Table.of h1 (by omega)
 have k2:=eS.of h2 (by omega)
 have k3:=wy h3 (by omega)
 exact⟨k1,k2.2,k3.1,k3.2⟩
def lY.tv (x:lY):Tv:= .r [x.l.tv,x.t.tv,x.x.tv,fw x.own]
theorem lY.enc (x:lY):enc Aa x.tv=x.c:=by simp only[lY.tv,f9,gh,cX,dA,bA.enc,Table.enc,dy.enc,lY.c,dy.c,bA.c,Table.c,List.cons_append,List.nil_append,List.append_nil]
theorem lY.ex {v:Tv} (h:aG Aa v):∃q:lY,v=q.tv:=by
 obtain⟨vs,rfl,h⟩:=h.st
 obtain⟨v0,_,rfl,h0,h⟩:=h.step
 obtain⟨v1,_,rfl,h1,h⟩:=h.step
 obtain⟨v2,_,rfl,h2,h⟩:=h.step
 obtain⟨v3,_,rfl,h3,h⟩:=h.step
 obtain rfl:=h.fin
 obtain⟨n0,rfl⟩:=bA.ex h0
 obtain⟨n1,rfl⟩:=Table.ex h1
 obtain⟨n2,rfl⟩:=dy.ex h2
 obtain⟨n3,rfl⟩:=rN h3
 exact⟨⟨n0,n1,n2,n3⟩,rfl⟩
theorem lY.of {x:lY} (h:aG Aa x.tv) (hw:wt x.tv≤1048576):x.wc:=by
 simp only[lY.tv,dZ,bN]at h
 simp only[lY.tv,wt,cW]at hw
 obtain⟨h0,h1,h2,h3,_⟩:=h
 have k1:=Table.of h1 (by omega)
 have k2:=dy.of h2 (by omega)
 have k3:=wy h3 (by omega)
 exact⟨k1,k2,k3.1,k3.2⟩
end Go.Eng.F
namespace Go.Eng.F
theorem GD (a b:UInt8):aF .xor .u8 (a.toNat:Int) (b.toNat:Int)=((a ^^^ b).toNat:Int):=by
 have h1:=yy a
 have h2:=yy b
 have h3:=yy (a ^^^ b)
 show IntKind.u8.wrap ((BitVec.ofInt 8 (a.toNat:Int) ^^^ BitVec.ofInt 8 (b.toNat:Int)).toNat:Int)=_
 rw[BitVec.toNat_xor,show BitVec.ofInt 8 (a.toNat:Int)=BitVec.ofNat 8 a.toNat from rfl,show BitVec.ofInt 8 (b.toNat:Int)=BitVec.ofNat 8 b.toNat from rfl,BitVec.toNat_ofNat,BitVec.toNat_ofNat,Nat.mod_eq_of_lt (by omega),Nat.mod_eq_of_lt (by omega),←UInt8.toNat_xor]
 rw[H5 h3]
 simp
def rD (k:Bytes):Bytes:=if 64 < k.length then uV k else k
def aU (k:Bytes):Bytes:=rD k++List.replicate (64 - (rD k).length) 0
def bB (b:Bytes) (x:UInt8):Bytes:=b.map (· ^^^ x)
def HL (k b:Bytes):Bytes:=uV (bB (aU k) 92++uV (bB (aU k) 54++b))
theorem Dz (k:Bytes):(rD k).length≤64:=by
 unfold rD
 split
 ·rw[dG];omega
 ·omega
theorem su (k:Bytes):(aU k).length=64:=by have:=Dz k;simp[aU];omega
theorem b5 (b:Bytes) (x:UInt8):(bB b x).length=b.length:=by simp[bB]
theorem tq (n:Nat):List.replicate n [D.int .u8 0]=bytes (List.replicate n 0):=by simp[bytes]
theorem Bd {k:Bytes} (h:k.length≤64):(bytes k).take (min k.length 64)++(bytes (List.replicate 64 0)).drop (min k.length 64)=bytes (k++List.replicate (64 - k.length) 0):=by
 have h3:min k.length 64=k.length:=by omega
 rw[h3]
 rw[List.take_of_length_le (by rw[an];exact Nat.le_refl _)]
 simp[bytes, -List.reduceReplicate]
theorem vf (n:Nat):(bytes (List.replicate n 0)).length=n:=by simp[bytes]
theorem yT {n:Nat} (h:0 < n):(bytes (List.replicate n 0)).isEmpty=false:=by
 cases n with
 |zero=>omega
 |succ n=>rfl
abbrev mI:Nat:=264
def mu:AF:=⟨1,4,[.tmp 2],(.seq (.ops [.i (.mov 2 (.c (.val false [.nils])))]) (.seq (.seq (.ops [qm 4 0,qn 5 4, .i (.bin 6 .gtr (.s 5) (qi 64))]) (.cond (.s 6) (.ops [qm 7 0,qk 9 130 7,qm 0 8]) .skip)) (.seq (.ops [.i (.mks 9 5 1 1 [.int .u8 0] (qi 64)),qm 3 9]) (.seq (.ops [qm 10 3,qm 11 0, .i (.cpy 12 1 (.s 10) (.s 11))]) (.seq (.ops [qm 13 3,qm 2 13]) .ret)))))⟩
theorem uz:cd mI=some mu:=by kernel_rfl
theorem tE (k:Bytes) (hk:k.length≤1073741824):VC cd mI (bf [(false,[.sl (bytes k)])]) (fun rs _=>rs= [(false,[.o true (some (5,1)) (bytes (aU k))])]):=by
 refine aa uz rfl ?_
 simp(disch:=omega) [mu,VY]
 refine ab (fun h1=> ?_) (fun h1=> ?_)
 ·have h2:rD k=uV k:=by unfold rD;rw[if_pos (by omega)]
  have e:=Bd (k:=uV k) (by rw[dG];omega)
  simp(disch:=omega) [VY]
  refine bp (fI k hk) ?_
  rw[dG]at e
  simp(disch:=omega) [tq,an,vf,yT,dG, -List.reduceReplicate,VY]
  rw[show min 32 64=32 from rfl]at e
  rw[e,aU,h2,dG]
 ·have h2:rD k=k:=by unfold rD;rw[if_neg (by omega)]
  have e:=Bd (k:=k) (by omega)
  rw[Nat.min_eq_left (by omega)]at e
  simp(disch:=omega) [tq,an,vf,yT, -List.reduceReplicate,VY]
  rw[e,aU,h2]
abbrev m7:Nat:=284
def mK:AF:=⟨1,5,[.tmp 2],(.seq (.ops [.i (.mov 2 (.c (.val false [.nils])))]) (.seq (.ops [qm 4 0,qk 6 115 4,qm 3 5]) (.seq (.seq (.ops [qm 6 3,qn 7 6, .i (.bin 8 .gtr (.s 7) (qi 64))]) (.cond (.s 8) (.ops [qm 9 3,qk 11 205 9,qm 3 10]) .skip)) (.seq (.block 0 (.loop [16,15,14,13,12,11] (.seq (.seq (.ops [qm 11 3,qn 12 11, .i (.bin 13 .lss (.s 12) (qi 64))]) (.cond (.s 13) .skip (.exit 0))) (.block 1 (.ops [qm 14 3, .i (.lsl 15 1 1 [.int .u8 0] [(0,1,(.c (.val false [.int .u8 0])))]), .i (.app 16 5 1 1 (.s 14) (.s 15)),qm 3 16]))))) (.seq (.ops [qm 17 3,qm 2 17]) .ret)))))⟩
theorem uQ:cd m7=some mK:=by kernel_rfl
theorem tD (k:Bytes) (hk:k.length≤1073741824):VC cd m7 (bf [(false,[.sl (bytes k)])]) (fun rs _=>rs= [(false,[.o true (some (5,1)) (bytes (aU k))])]):=by
 refine aa uQ rfl ?_
 simp(disch:=omega) [mK,VY]
 refine bp (bX k (by omega)) ?_
 simp(disch:=omega) [an,VY]
 refine ab (fun h1=> ?_) (fun h1=> ?_)
 ·have h2:rD k=uV k:=by unfold rD;rw[if_pos (by omega)]
  simp(disch:=omega) [VY]
  refine bp (fC k hk) ?_
  simp(disch:=omega) [VY]
  refine kX (σ:=Nat×Nat) (f1:=_) (by simp(disch:=omega) [VY];rfl) (fun p=> [(3, .val false [.ow 98304 p.2])]) (fun p=> [(98304, .sl p.2 true true (some (5,1)) (bytes (uV k++List.replicate p.1 0)))]) (fun p g=>g+p.1=32) (0,_) 32 (by simp(disch:=omega) [VY];rfl) (by simp(disch:=omega) [VY]) (by omega) ?_
  rintro⟨j,v⟩ n g hg P hP
  simp only at hg
  have e0:bytes (uV k++List.replicate j 0)++ [[.int .u8 0]]=bytes (uV k++List.replicate (j+1) 0):=by simp[bytes,List.replicate_succ']
  have hl:(uV k++List.replicate j (0:UInt8)).length=32+j:=by simp[dG]
  simp(disch:=omega) [an,hl,VY]
  refine ab (fun h3=> ?_) (fun h3=> ?_)
  ·simp(disch:=omega) [e0,dG, -List.reduceReplicate,VY]
   exact hP (j+1,_) (g - 1) _ _ (by omega) (by simp only;omega) (by simp(disch:=omega) [VY];rfl) (by simp(disch:=omega) [VY])
  ·have hj:j=32:=by omega
   simp(disch:=omega) [aU,h2,dG,hj,VY]
 ·have h2:rD k=k:=by unfold rD;rw[if_neg (by omega)]
  simp(disch:=omega) [VY]
  refine kX (σ:=Nat×Nat) (f1:=_) (by simp(disch:=omega) [VY];rfl) (fun p=> [(3, .val false [.ow 57344 p.2])]) (fun p=> [(57344, .sl p.2 true true (some (5,1)) (bytes (k++List.replicate p.1 0)))]) (fun p g=>g+p.1=64 - k.length) (0,_) (64 - k.length) (by simp(disch:=omega) [VY];rfl) (by simp(disch:=omega) [VY]) (by omega) ?_
  rintro⟨j,v⟩ n g hg P hP
  simp only at hg
  have e0:bytes (k++List.replicate j 0)++ [[.int .u8 0]]=bytes (k++List.replicate (j+1) 0):=by simp[bytes,List.replicate_succ']
  have hl:(k++List.replicate j (0:UInt8)).length=k.length+j:=by simp
  simp(disch:=omega) [an,hl,VY]
  refine ab (fun h3=> ?_) (fun h3=> ?_)
  ·simp(disch:=omega) [e0, -List.reduceReplicate,VY]
   exact hP (j+1,_) (g - 1) _ _ (by omega) (by simp only;omega) (by simp(disch:=omega) [VY];rfl) (by simp(disch:=omega) [VY])
  ·have hj:j=64 - k.length:=by omega
   simp(disch:=omega) [aU,h2,hj,VY]
abbrev mJ:Nat:=265
def mD:AF:=⟨2,5,[.tmp 4],(.seq (.ops [.i (.mov 4 (.c (.val false [.nils])))]) (.seq (.ops [.i (.bse 8),qm 5 8]) (.seq (.seq (.ops [qm 9 0,qn 10 9, .i (.mov 11 (qi 0))]) (.block 0 (.loop [21,20,19,18,17,16,15,14,13,12,7] (.seq (.ops [qd 12 .lss 11 10]) (.seq (.cond (.s 12) .skip (.exit 0)) (.seq (.block 1 (.seq (.ops [.i (.iad 13 (.s 9) (.s 11) 1), .i (.ldh 14 (.s 13) 1 false),qm 7 14]) (.ops [qm 15 5,qm 16 7,qm 17 1,qd 18 .xor 16 17, .i (.lsl 19 1 1 [.int .u8 0] [(0,1,(.s 18))]), .i (.app 20 5 1 1 (.s 15) (.s 19)),qm 5 20]))) (.ops [.i (.bin 21 .add (.s 11) (qi 1)),qm 11 21]))))))) (.seq (.ops [qm 22 5,qm 4 22]) .ret))))⟩
theorem um:cd mJ=some mD:=by kernel_rfl
theorem kS (k:Bytes) (x:UInt8) (hk:k.length≤1073741824):VC cd mJ (bf [(false,[.sl (bytes k)]),(false,[.int .u8 (x.toNat:Int)])]) (fun rs _=>rs= [(false,[.o true (some (5,1)) (bytes (bB k x))])]):=by
 refine aa um rfl ?_
 simp(disch:=omega) [mD,an,VY]
 refine kX (σ:=Nat×Nat) (f1:=_) (by simp(disch:=omega) [VY];rfl) (fun p=> [(11, .val false [.int .i64 (p.1:Int)]),(5, .val false [.ow 8 p.2])]) (fun p=> [(8, .sl p.2 true true (some (5,1)) (bytes (bB (k.take p.1) x)))]) (fun p g=>g+p.1=k.length) (0,_) k.length (by simp(disch:=omega) [VY];rfl) (by simp(disch:=omega) [bB,pH,VY]) (by omega) ?_
 rintro⟨i,v⟩ n g hg P hP
 simp only at hg
 have hl:(bB (k.take i) x).length=i:=by rw[b5,List.length_take];omega
 simp(disch:=omega) [an,VY]
 refine ab (fun h1=> ?_) (fun h1=> ?_)
 ·have hi:i < k.length:=by omega
  have e:bytes (bB (k.take i) x)++ [[.int .u8 ((k[i].toNat ^^^ x.toNat:Nat):Int)]]=bytes (bB (k.take (i+1)) x):=by rw[←UInt8.toNat_xor,List.take_succ_eq_append_getElem hi];simp only[bB,bytes,List.map_append,List.map_cons,List.map_nil]
  simp(disch:=omega) [gR hi,GD,an,hl,e,VY]
  exact hP (i+1,_) (g - 1) _ _ (by omega) (by simp only;omega) (by simp(disch:=omega) [VY];rfl) (by simp(disch:=omega) [VY])
 ·have hi:i=k.length:=by omega
  subst hi
  simp(disch:=omega) [List.take_length,VY]
abbrev sQ:Nat:=212
def tX:AF:=⟨2,5,[.tmp 4],(.seq (.ops [.i (.mov 4 (.c (.val false [.nils])))]) (.seq (.ops [qm 6 0,qk 8 264 6,qm 5 7]) (.seq (.ops [qm 8 5, .i (.call 10 265 false [(.s 8),(.c (.val false [.int .u8 92]))]),qm 10 5, .i (.call 12 265 false [(.s 10),(.c (.val false [.int .u8 54]))]),qm 12 1, .i (.app 13 5 1 1 (.s 11) (.s 12)),qk 15 130 13, .i (.app 15 5 1 1 (.s 9) (.s 14)),qk 17 130 15,qm 4 16]) .ret)))⟩
theorem zx:cd sQ=some tX:=by kernel_rfl
theorem xC (k b:Bytes) (hk:k.length≤1073741824) (hb:b.length≤1073741760):VC cd sQ (bf [(false,[.sl (bytes k)]),(false,[.sl (bytes b)])]) (fun rs _=>rs= [(false,[.o true (some (5,1)) (bytes (HL k b))])]):=by
 have e9:((92:UInt8).toNat:Int)=92:=rfl
 have e5:((54:UInt8).toNat:Int)=54:=rfl
 have h1:=su k
 refine aa zx rfl ?_
 simp(disch:=omega) [tX,VY]
 refine bp (tE k hk) ?_
 simp(disch:=omega) [VY]
 refine bp (kS (aU k) 92 (by omega)) ?_ (ha:=by first|rfl|(simp[e9,VY] <;>repeat' constructor))
 simp(disch:=omega) [VY]
 refine bp (kS (aU k) 54 (by omega)) ?_ (ha:=by first|rfl|(simp[e5,VY] <;>repeat' constructor))
 simp(disch:=omega) [an,b5,h1,←bD,VY]
 refine bp (fI (bB (aU k) 54++b) (by rw[List.length_append,b5];omega)) ?_ (ha:=by first|rfl|(simp[←bD,VY] <;>repeat' constructor))
 simp(disch:=omega) [an,b5,h1,dG,←bD,VY]
 refine bp (fI (bB (aU k) 92++uV (bB (aU k) 54++b)) (by rw[List.length_append,b5,dG];omega)) ?_ (ha:=by first|rfl|(simp[←bD,VY] <;>repeat' constructor))
 simp(disch:=omega) [HL,VY]
abbrev s5:Nat:=262
def sP:AF:=⟨2,6,[.tmp 4],(.seq (.ops [.i (.mov 4 (.c (.val false [.nils])))]) (.seq (.ops [.i (.bse 9),qm 5 9]) (.seq (.ops [.i (.bse 10),qm 6 10]) (.seq (.seq (.ops [qm 11 0,qk 13 284 11,qn 13 12, .i (.mov 14 (qi 0))]) (.block 0 (.loop [28,27,26,25,24,23,22,21,20,19,18,17,16,15,8] (.seq (.ops [qd 15 .lss 14 13]) (.seq (.cond (.s 15) .skip (.exit 0)) (.seq (.block 1 (.seq (.ops [.i (.iad 16 (.s 12) (.s 14) 1), .i (.ldh 17 (.s 16) 1 false),qm 8 17]) (.seq (.ops [qm 18 5,qm 19 8, .i (.bin 20 .xor (.s 19) (.c (.val false [.int .u8 54]))), .i (.lsl 21 1 1 [.int .u8 0] [(0,1,(.s 20))]), .i (.app 22 5 1 1 (.s 18) (.s 21)),qm 5 22]) (.ops [qm 23 6,qm 24 8, .i (.bin 25 .xor (.s 24) (.c (.val false [.int .u8 92]))), .i (.lsl 26 1 1 [.int .u8 0] [(0,1,(.s 25))]), .i (.app 27 5 1 1 (.s 23) (.s 26)),qm 6 27])))) (.ops [.i (.bin 28 .add (.s 14) (qi 1)),qm 14 28]))))))) (.seq (.ops [qm 29 6,qm 30 5,qm 31 1, .i (.app 32 5 1 1 (.s 30) (.s 31)),qk 34 205 32, .i (.app 34 5 1 1 (.s 29) (.s 33)),qk 36 205 34,qm 4 35]) .ret)))))⟩
theorem zR:cd s5=some sP:=by kernel_rfl
theorem xX (k b:Bytes) (hk:k.length≤1073741824) (hb:b.length≤1073741760):VC cd s5 (bf [(false,[.sl (bytes k)]),(false,[.sl (bytes b)])]) (fun rs _=>rs= [(false,[.o true (some (5,1)) (bytes (HL k b))])]):=by
 have h1:=su k
 have c5:((54:UInt8).toNat)=54:=rfl
 have c9:((92:UInt8).toNat)=92:=rfl
 refine aa zR rfl ?_
 simp(disch:=omega) [sP,VY]
 refine bp (tD k hk) ?_
 simp(disch:=omega) [an,h1,VY]
 refine bo (σ:=Nat×Nat×Nat) (f1:=_) (es0:=_) (by simp(disch:=omega) [VY];rfl) (by simp(disch:=omega) [VY];rfl) (fun p=> [(14, .val false [.int .i64 (p.1:Int)]),(5, .val false [.ow 9 p.2.1]),(6, .val false [.ow 10 p.2.2])]) (fun p=> [(9, .sl p.2.1 true true (some (5,1)) (bytes (bB ((aU k).take p.1) 54))),(10, .sl p.2.2 true true (some (5,1)) (bytes (bB ((aU k).take p.1) 92)))]) (fun p g=>g+p.1=64) (0,_,_) 64 (by simp(disch:=omega) [VY];exact⟨rfl,rfl⟩) (by simp(disch:=omega) [bB,pH,VY]) (by omega) ?_
 rintro⟨i,v,w⟩ n g hg P hP
 simp only at hg
 have hl:(bB ((aU k).take i) 54).length=i:=by rw[b5,List.length_take];omega
 have hl2:(bB ((aU k).take i) 92).length=i:=by rw[b5,List.length_take];omega
 simp(disch:=omega) [an,VY]
 refine ab (fun h2=> ?_) (fun h2=> ?_)
 ·have hi:i < (aU k).length:=by omega
  have e5:bytes (bB ((aU k).take i) 54)++ [[.int .u8 (((aU k)[i].toNat ^^^ 54:Nat):Int)]]=bytes (bB ((aU k).take (i+1)) 54):=by rw[←c5,←UInt8.toNat_xor,List.take_succ_eq_append_getElem hi];simp only[bB,bytes,List.map_append,List.map_cons,List.map_nil]
  have e9:bytes (bB ((aU k).take i) 92)++ [[.int .u8 (((aU k)[i].toNat ^^^ 92:Nat):Int)]]=bytes (bB ((aU k).take (i+1)) 92):=by rw[←c9,←UInt8.toNat_xor,List.take_succ_eq_append_getElem hi];simp only[bB,bytes,List.map_append,List.map_cons,List.map_nil]
  have x5:aF .xor .u8 ((aU k)[i].toNat:Int) 54=(((aU k)[i].toNat ^^^ 54:Nat):Int):=by have x:=GD (aU k)[i] 54;rw[UInt8.toNat_xor,c5]at x;exact x
  have x9:aF .xor .u8 ((aU k)[i].toNat:Int) 92=(((aU k)[i].toNat ^^^ 92:Nat):Int):=by have x:=GD (aU k)[i] 92;rw[UInt8.toNat_xor,c9]at x;exact x
  simp(disch:=omega) [gR hi,x5,x9,an,hl,hl2,e5,e9,VY]
  exact hP (i+1,_,_) (g - 1) _ _ (by omega) (by simp only;omega) (by simp(disch:=omega) [VY];exact⟨rfl,rfl⟩) (by simp(disch:=omega) [VY])
 ·have hi:i=64:=by omega
  subst hi
  have ht:(aU k).take 64=aU k:=List.take_of_length_le (by omega)
  simp(disch:=omega) [ht,an,b5,h1,←bD,VY]
  refine bp (fC (bB (aU k) 54++b) (by rw[List.length_append,b5];omega)) ?_ (ha:=by first|rfl|(simp[←bD,VY] <;>repeat' constructor))
  simp(disch:=omega) [an,b5,h1,dG,←bD,VY]
  refine bp (fC (bB (aU k) 92++uV (bB (aU k) 54++b)) (by rw[List.length_append,b5,dG];omega)) ?_ (ha:=by first|rfl|(simp[←bD,VY] <;>repeat' constructor))
  simp(disch:=omega) [HL,VY]
def e8 (l:List Int):Bool:=l.all isNum
def fV (l:List Int):Bytes:=(l.map fun n=>cA n.toNat).flatten
theorem BQ {l:List Int} (h:∀x∈l.take l.length,isNum x=true):e8 l=true:=by
 rw[List.take_length]at h
 simpa[e8]using h
theorem Bo {l:List Int} {i:Nat} (hi:i < l.length) (h:isNum l[i]=false):e8 l=false:=by
 simp only[e8,List.all_eq_false]
 exact⟨l[i],List.getElem_mem hi,by simp[h]⟩
theorem pY:∀ {l:List Int},(∀x∈l,isNum x=true)→(fV l).length≤9 * l.length
 | [],_=>by simp[fV]
 |a::l,h=>by
  have h1:=pY (l:=l) fun x hx=>h x (by simp[hx])
  have h2:=dM (n:=a.toNat) (by have:=ie (h a (by simp));omega)
  simp only[fV,List.map_cons,List.flatten_cons,List.length_append,List.length_cons]at h1⊢
  omega
def fu (k:UInt8) (l:List Int):List (Bool×List E):=if e8 l then [(false,[.o true (some (5,1)) (bytes (k::fV l))])]else [(false,[.p .nils])]
theorem Bp {b:Bytes} {n:Int} (h:isNum n=true):dF b n= [(false,[.o true (some (5,1)) (bytes (b++cA n.toNat))]),(false,[.p (.bool true)])]:=by unfold dF;rw[if_pos h]
theorem BN {b:Bytes} {n:Int} (h:isNum n=false):dF b n= [(false,[.p .nils]),(false,[.p (.bool false)])]:=by unfold dF;rw[if_neg (by simp[h])]
abbrev kH:Nat:=263
def km:AF:=⟨2,5,[.tmp 4],(.seq (.ops [.i (.mov 4 (.c (.val false [.nils])))]) (.seq (.ops [qm 10 0, .i (.bsl 11 5 1 1 [.int .u8 0] [(0,1,(.s 10))]),qm 5 11]) (.seq (.seq (.ops [qm 12 1,qn 13 12, .i (.mov 14 (qi 0))]) (.block 0 (.loop [27,26,25,24,23,22,21,20,19,18,17,16,15,9,8,7] (.seq (.ops [qd 15 .lss 14 13]) (.seq (.cond (.s 15) .skip (.exit 0)) (.seq (.block 1 (.seq (.ops [.i (.iad 16 (.s 12) (.s 14) 1), .i (.ldh 17 (.s 16) 1 false),qm 7 17]) (.seq (.ops [qm 19 5,qm 20 7, .i (.call 22 278 false [(.s 19),(.s 20)]),qm 18 21, .i (.ext 22 (.s 18) 0), .i (.ext 23 (.s 18) 1),qm 8 22,qm 9 23]) (.seq (.seq (.ops [qm 24 9, .i (.not 25 (.s 24))]) (.cond (.s 25) (.seq (.ops [.i (.mov 4 (.c (.val false [.nils])))]) .ret) .skip)) (.ops [qm 26 8,qm 5 26]))))) (.ops [.i (.bin 27 .add (.s 14) (qi 1)),qm 14 27]))))))) (.seq (.ops [qm 28 5,qm 4 28]) .ret))))⟩
theorem tI:cd kH=some km:=by kernel_rfl
theorem rU (k:UInt8) (l:List Int) (hl:l.length≤1000):VC cd kH (bf [(false,[.int .u8 (k.toNat:Int)]),(false,[.sl (ints l)])]) (fun rs _=>rs=fu k l):=by
 have e0: [[D.int .u8 (k.toNat:Int)]]=bytes (k::fV (l.take 0)):=rfl
 refine aa tI rfl ?_
 simp(disch:=omega) [km,bh,VY]
 refine kX (σ:=Nat×Nat×Nat) (f1:=_) (by simp(disch:=omega) [VY];rfl) (fun p=> [(14, .val false [.int .i64 (p.1:Int)]),(5, .val false [.ow p.2.1 p.2.2])]) (fun p=> [(p.2.1, .sl p.2.2 true true (some (5,1)) (bytes (k::fV (l.take p.1))))]) (fun p g=>g+p.1=l.length∧(p.2.1=11∨p.2.1=188416)∧∀x∈l.take p.1,isNum x=true) (0,11,_) l.length (by simp(disch:=omega) [VY];rfl) (by simp(disch:=omega) [e0,VY]) ⟨by omega, .inl rfl,by simp⟩ ?_
 rintro⟨i,key,v⟩ n g ⟨hg,hk,hd⟩ P hP
 simp only at hg hk hd
 have hn:=pY hd
 have hl2:(l.take i).length≤l.length:=by rw[List.length_take];omega
 rcases hk with rfl|rfl
 all_goals
  simp(disch:=omega) [VY]
  refine ab (fun h1=> ?_) (fun h1=> ?_)
  ·have hi:i < l.length:=by omega
   have hgi:gi l i=l[i]:=by simp[gi,hi]
   simp(disch:=omega) [tR hi,hgi,VY]
   cases h2:isNum l[i]with
   |true=>
    have e1:k::(fV (l.take i)++cA l[i].toNat)=k::fV (l.take (i+1)):=by rw[List.take_succ_eq_append_getElem hi];simp only[fV,List.map_append,List.map_cons,List.map_nil,List.flatten_append,List.flatten_cons,List.flatten_nil,List.append_nil]
    refine bp ((fo (k::fV (l.take i)) l[i] (by rw[List.length_cons];omega)).re (Bp h2)) ?_
    simp(disch:=omega) [List.cons_append,e1,VY]
    exact hP (i+1,188416,_) (g - 1) _ _ (by omega) ⟨by simp only;omega, .inr rfl,aV hd hi h2⟩ (by simp(disch:=omega) [VY];rfl) (by simp(disch:=omega) [VY])
   |false=>
    refine bp ((fo (k::fV (l.take i)) l[i] (by rw[List.length_cons];omega)).re (BN h2)) ?_
    simp(disch:=omega) [fu,Bo hi h2,VY]
  ·have hi:i=l.length:=by omega
   subst hi
   simp(disch:=omega) [fu,BQ hd,List.take_length,VY]
def eK (v h:Int) (b:Bytes):Bool:=isNum v && isNum h && hash b
def fT (v h:Int) (b:Bytes):Bytes:=86::(cA v.toNat++(cA h.toNat++b))
def gg (v h:Int) (b:Bytes):List (Bool×List E):=if eK v h b then [(false,[.o true (some (5,1)) (bytes (fT v h b))])]else [(false,[.p .nils])]
theorem xt {v h:Int} {b:Bytes} (e:eK v h b=true):gg v h b= [(false,[.o true (some (5,1)) (bytes (fT v h b))])]:=by unfold gg;rw[if_pos e]
theorem yJ {v h:Int} {b:Bytes} (e:eK v h b=false):gg v h b= [(false,[.p .nils])]:=by unfold gg;rw[if_neg (by simp[e])]
theorem tP {b:Bytes} (h:hash b=true):b.length=32:=by simpa[hash]using h
theorem u6 {v h:Int} {b:Bytes} (e:eK v h b=true):(fT v h b).length≤51:=by
 simp only[eK,Bool.and_eq_true]at e
 have h1:=dM (n:=v.toNat) (by have:=ie e.1.1;omega)
 have h2:=dM (n:=h.toNat) (by have:=ie e.1.2;omega)
 have h3:=tP e.2
 simp only[fT,List.length_cons,List.length_append]
 omega
theorem zW {k:UInt8} {l:List Int} (h:e8 l=true):fu k l= [(false,[.o true (some (5,1)) (bytes (k::fV l))])]:=by unfold fu;rw[if_pos h]
theorem zz {k:UInt8} {l:List Int} (h:e8 l=false):fu k l= [(false,[.p .nils])]:=by unfold fu;rw[if_neg (by simp[h])]
theorem lx (a:UInt8) (l:Bytes):(bytes (a::l)= [])=False:=by simp[bytes]
abbrev gD:Nat:=211
def ib:AF:=⟨3,5,[.tmp 6],(.seq (.ops [.i (.mov 6 (.c (.val false [.nils])))]) (.seq (.ops [qm 8 0,qm 9 1, .i (.bsl 10 3 1 2 [.int .i64 0] [(0,1,(.s 8)),(1,1,(.s 9))]), .i (.call 12 263 false [(.c (.val false [.int .u8 86])),(.s 10)]),qm 7 11]) (.seq (.seq (.ops [qm 12 7, .i (.snil 13 false (.s 12)),qm 14 13, .g 14 false 16 (.mov 15 (.s 2)), .g 14 false 17 (.bsl 16 22 1 1 [.nils] [(0,1,(.s 15))]), .g 14 false 18 (.call 18 214 false [(.s 16)]), .g 14 false 19 (.not 18 (.s 17)), .i (.pick 19 (.s 14) (qb true) (.s 18))]) (.cond (.s 19) (.seq (.ops [.i (.mov 6 (.c (.val false [.nils])))]) .ret) .skip)) (.seq (.ops [qm 20 7,qm 21 2, .i (.app 22 5 1 1 (.s 20) (.s 21)),qm 6 22]) .ret))))⟩
theorem pz:cd gD=some ib:=by kernel_rfl
theorem fG (v h:Int) (b:Bytes):VC cd gD (bf [(false,[.int .i64 v]),(false,[.int .i64 h]),(false,[.sl (bytes b)])]) (fun rs _=>rs=gg v h b):=by
 have e0:((86:UInt8).toNat:Int)=86:=rfl
 refine aa pz rfl ?_
 simp(disch:=omega) [ib,VY]
 cases h1:e8 [v,h]with
 |false=>
  have h2:(isNum v && isNum h)=false:=by simpa[e8]using h1
  refine bp ((rU 86 [v,h] (by simp)).re (zz h1)) ?_ (ha:=by first|rfl|(simp[ints,e0,VY] <;>repeat' constructor))
  simp(disch:=omega) [gg,eK,h2,VY]
 |true=>
  have h2:isNum v=true∧isNum h=true:=by simpa[e8]using h1
  have h3:(fV [v,h]).length≤18:=by simpa using pY (l:= [v,h]) (by simpa[e8]using h1)
  refine bp ((rU 86 [v,h] (by simp)).re (zW h1)) ?_ (ha:=by first|rfl|(simp[ints,e0,VY] <;>repeat' constructor))
  simp(disch:=omega) [lx,VY]
  refine bp (eU [b] (by simp)) ?_ (ha:=by first|rfl|(simp[mn,VY] <;>repeat' constructor))
  simp(disch:=omega) [sd,lx,VY]
  refine av (fun h4=> ?_) (fun h4=> ?_)
  ·have h5:=tP h4
   simp(disch:=omega) [h4,lx,an,h5,gg,eK,h2.1,h2.2,VY]
   rw[bD]
   simp[fT,fV]
  ·simp(disch:=omega) [h4,gg,eK,lx,VY]
abbrev gQ:Nat:=261
def hF:AF:=⟨3,5,[.tmp 6],(.seq (.ops [.i (.mov 6 (.c (.val false [.nils])))]) (.seq (.seq (.ops [qm 7 0,qk 9 201 7, .i (.not 9 (.s 8)),qm 10 9, .g 10 false 12 (.mov 11 (.s 1)), .g 10 false 13 (.call 13 201 false [(.s 11)]), .g 10 false 14 (.not 13 (.s 12)), .i (.pick 14 (.s 10) (qb true) (.s 13)),qm 15 14, .g 15 false 17 (.mov 16 (.s 2)), .g 15 false 18 (.call 18 202 false [(.s 16)]), .g 15 false 19 (.not 18 (.s 17)), .i (.pick 19 (.s 15) (qb true) (.s 18))]) (.cond (.s 19) (.seq (.ops [.i (.mov 6 (.c (.val false [.nils])))]) .ret) .skip)) (.seq (.ops [.i (.bsl 20 5 1 1 [.int .u8 0] [(0,1,(.c (.val false [.int .u8 86])))]),qm 21 0, .i (.call 23 233 false [(.s 20),(.s 21)]),qm 23 1, .i (.call 25 233 false [(.s 22),(.s 23)]),qm 25 2, .i (.app 26 5 1 1 (.s 24) (.s 25)),qm 6 26]) .ret)))⟩
theorem pF:cd gQ=some hF:=by kernel_rfl
theorem fN (v h:Int) (b:Bytes):VC cd gQ (bf [(false,[.int .i64 v]),(false,[.int .i64 h]),(false,[.sl (bytes b)])]) (fun rs _=>rs=gg v h b):=by
 have e0: [[D.int .u8 86]]=bytes [86]:=rfl
 refine aa pF rfl ?_
 simp(disch:=omega) [hF,VY]
 refine bp (eX v) ?_
 simp(disch:=omega) [VY]
 refine av (fun h1=> ?_) (fun h1=> ?_) <;>simp(disch:=omega) [h1,gg,eK,VY]
 refine bp (eX h) ?_
 simp(disch:=omega) [h1,VY]
 refine av (fun h2=> ?_) (fun h2=> ?_) <;>simp(disch:=omega) [h1,h2,VY]
 refine bp (eY b) ?_
 simp(disch:=omega) [h1,h2,VY]
 refine av (fun h3=> ?_) (fun h3=> ?_) <;>simp(disch:=omega) [h1,h2,h3,VY]
 have h4:=dM (n:=v.toNat) (by have:=ie h1;omega)
 have h5:=dM (n:=h.toNat) (by have:=ie h2;omega)
 have h6:=tP h3
 refine bp (ef [86] v h1 (by simp)) ?_ (ha:=by first|rfl|(simp[e0,VY] <;>repeat' constructor))
 simp(disch:=omega) [h1,h2,h3,VY]
 refine bp (ef ([86]++cA v.toNat) h h2 (by simp;omega)) ?_
 simp(disch:=omega) [h1,h2,h3,VY]
 rw[bD]
 simp[fT]
def Ci (t:Table) (i:Nat):Bytes:=match t.rows[i]? with
 |some r=>r.key
 |none=> []
theorem u3 {t:Table} {i:Nat} (h:i < t.rows.length):Ci t i=t.rows[i].key:=by simp[Ci,h]
def iE (t:Table) (v h:Int) (b:Bytes) (w:Int):Bytes:=HL (Ci t w.toNat) (fT v h b)
def dQ (t:Table) (v h:Int) (b:Bytes) (w:Int):Bool:=bU t && eK v h b && ml w 0 ((t.rows.length:Int) - 1)
def fX (t:Table) (v h:Int) (b:Bytes) (w:Int):List (Bool×List E):=
 if dQ t v h b w then [(true,[.p (.int .i64 v), .p (.int .i64 h), .o true (some (5,1)) (bytes b), .p (.int .i64 w), .o true (some (5,1)) (bytes (iE t v h b w))]),(false,[.p (.bool true)])]
 else [(true,[.p (.int .i64 0), .p (.int .i64 0), .p .nils, .p (.int .i64 0), .p .nils]),(false,[.p (.bool false)])]
theorem vW {n a b:Int} (h:ml n a b=true):a≤n∧n≤b:=by simpa[ml]using h
abbrev jk:Nat:=127
def iW:AF:=⟨5,6,[.cell 10 5 true, .tmp 11],(.seq (.ops [.i (.lbox 5 (.s 0)), .i (.lal 10 [.int .i64 0, .int .i64 0, .nils, .int .i64 0, .nils]), .i (.mov 11 (qb false))]) (.seq (.ops [qm 13 1,qm 14 2,qm 15 3, .i (.call 17 211 false [(.s 13),(.s 14),(.s 15)]),qm 12 16]) (.seq (.seq (.ops [ql 17 5 5 1 true,qk 19 135 17, .i (.not 19 (.s 18)),qm 20 19, .g 20 false 22 (.mov 21 (.s 12)), .g 20 false 23 (.snil 22 false (.s 21)), .i (.pick 23 (.s 20) (qb true) (.s 22)),qm 24 23, .g 24 false 26 (.mov 25 (.s 4)), .g 24 false 27 (.fad 26 (.s 5) 0), .g 24 false 28 (.ldl 27 5 (.s 26) 1 false), .g 24 false 29 (.len 28 false (.s 27)), .g 24 false 30 (.bin 29 .sub (.s 28) (qi 1)), .g 24 false 31 (.call 31 62 false [(.s 25),(qi 0),(.s 29)]), .g 24 false 32 (.not 31 (.s 30)), .i (.pick 32 (.s 24) (qb true) (.s 31))]) (.cond (.s 32) (.seq (.ops [.i (.bld 33 [.int .i64 0, .int .i64 0, .nils, .int .i64 0, .nils] []),qs 10 10 33 5, .i (.mov 11 (qb false))]) .ret) .skip)) (.seq (.ops [qm 34 1,qm 35 2,qm 36 3, .i (.call 38 60 true [(.s 36)]),qm 38 4,qf 39 5 0,ql 40 5 39 1 false,qm 41 4, .i (.iad 42 (.s 40) (.s 41) 2),qf 43 42 1, .i (.ldh 44 (.s 43) 1 false),qm 45 12, .i (.call 47 212 true [(.s 44),(.s 45)]), .i (.bld 47 [.int .i64 0, .int .i64 0, .nils, .int .i64 0, .nils] [(0,1,(.s 34)),(1,1,(.s 35)),(2,1,(.s 37)),(3,1,(.s 38)),(4,1,(.s 46))]),qs 10 10 47 5, .i (.mov 11 (qb true))]) .ret))))⟩
theorem rn:cd jk=some iW:=by kernel_rfl
theorem gz (t:Table) (v h:Int) (b:Bytes) (w:Int) (ht:t.wf) (hb:Sz b.length):VC cd jk (bf [(true,t.c),(false,[.int .i64 v]),(false,[.int .i64 h]),(false,[.sl (bytes b)]),(false,[.int .i64 w])]) (fun rs _=>rs=fX t v h b w):=by
 have w1:=ht.1
 simp only[Sz]at hb w1
 refine aa rn rfl ?_
 simp(disch:=omega) [iW,Table.c,VY]
 cases h1:eK v h b with
 |false=>
  refine bp ((fG v h b).re (yJ h1)) ?_
  simp(disch:=omega) [VY]
  refine bp (ck t ht) ?_ (ha:=by first|rfl|(simp[Table.c,VY] <;>repeat' constructor))
  simp(disch:=omega) [VY]
  refine av (fun h2=> ?_) (fun h2=> ?_) <;>simp(disch:=omega) [h2,fX,dQ,h1,VY]
 |true=>
  have h9:=u6 h1
  refine bp ((fG v h b).re (xt h1)) ?_
  simp(disch:=omega) [VY]
  refine bp (ck t ht) ?_ (ha:=by first|rfl|(simp[Table.c,VY] <;>repeat' constructor))
  simp(disch:=omega) [VY]
  refine av (fun h2=> ?_) (fun h2=> ?_)
  case refine_2=>simp(disch:=omega) [h2,fX,dQ,h1,VY]
  simp(disch:=omega) [h2,cq,lx,fT,VY]
  refine bp (bz w 0 ((t.rows.length:Int) - 1)) ?_
  simp(disch:=omega) [h2,VY]
  refine av (fun h3=> ?_) (fun h3=> ?_)
  case refine_2=>simp(disch:=omega) [h2,h3,fX,dQ,h1,VY]
  obtain⟨hw1,hw2⟩:=vW h3
  obtain⟨i,rfl⟩:∃i:Nat,w=(i:Int):=⟨w.toNat,by omega⟩
  have hi:i < t.rows.length:=by omega
  have w3:=(ht.2 _ (List.getElem_mem hi)).2
  simp only[Sz]at w3
  simp(disch:=omega) [h2,h3,VY]
  refine bp (bm b (by omega)) ?_
  simp(disch:=omega) [h2,h3,cq,fP hi,VY]
  refine bp (xC t.rows[i].key (fT v h b) (by omega) (by omega)) ?_ (ha:=by first|rfl|(simp[fT,VY] <;>repeat' constructor))
  simp(disch:=omega) [h2,h3,fX,dQ,h1,iE,u3 hi,VY]
abbrev i3:Nat:=208
def jm:AF:=⟨5,6,[.cell 10 5 true, .tmp 11],(.seq (.ops [.i (.lbox 5 (.s 0)), .i (.lal 10 [.int .i64 0, .int .i64 0, .nils, .int .i64 0, .nils]), .i (.mov 11 (qb false))]) (.seq (.ops [qm 13 1,qm 14 2,qm 15 3, .i (.call 17 261 false [(.s 13),(.s 14),(.s 15)]),qm 12 16]) (.seq (.seq (.ops [ql 17 5 5 1 true,qk 19 200 17, .i (.not 19 (.s 18)),qm 20 19, .g 20 false 22 (.mov 21 (.s 12)), .g 20 false 23 (.len 22 false (.s 21)), .g 20 false 24 (.bin 23 .eql (.s 22) (qi 0)), .i (.pick 24 (.s 20) (qb true) (.s 23)),qm 25 24, .g 25 false 27 (.mov 26 (.s 4)), .g 25 false 28 (.fad 27 (.s 5) 0), .g 25 false 29 (.ldl 28 5 (.s 27) 1 false), .g 25 false 30 (.len 29 false (.s 28)), .g 25 false 31 (.bin 30 .sub (.s 29) (qi 1)), .g 25 false 32 (.call 32 152 false [(.s 26),(qi 0),(.s 30)]), .g 25 false 33 (.not 32 (.s 31)), .i (.pick 33 (.s 25) (qb true) (.s 32))]) (.cond (.s 33) (.seq (.ops [.i (.bld 34 [.int .i64 0, .int .i64 0, .nils, .int .i64 0, .nils] []),qs 10 10 34 5, .i (.mov 11 (qb false))]) .ret) .skip)) (.seq (.ops [qm 35 1,qm 36 2,qm 37 3, .i (.call 39 115 true [(.s 37)]),qm 39 4,qf 40 5 0,ql 41 5 40 1 false,qm 42 4, .i (.iad 43 (.s 41) (.s 42) 2),qf 44 43 1, .i (.ldh 45 (.s 44) 1 false),qm 46 12, .i (.call 48 262 true [(.s 45),(.s 46)]), .i (.bld 48 [.int .i64 0, .int .i64 0, .nils, .int .i64 0, .nils] [(0,1,(.s 35)),(1,1,(.s 36)),(2,1,(.s 38)),(3,1,(.s 39)),(4,1,(.s 47))]),qs 10 10 48 5, .i (.mov 11 (qb true))]) .ret))))⟩
theorem rh:cd i3=some jm:=by kernel_rfl
theorem iv (t:Table) (v h:Int) (b:Bytes) (w:Int) (ht:t.wf) (hb:Sz b.length):VC cd i3 (bf [(true,t.c),(false,[.int .i64 v]),(false,[.int .i64 h]),(false,[.sl (bytes b)]),(false,[.int .i64 w])]) (fun rs _=>rs=fX t v h b w):=by
 have w1:=ht.1
 simp only[Sz]at hb w1
 refine aa rh rfl ?_
 simp(disch:=omega) [jm,Table.c,VY]
 cases h1:eK v h b with
 |false=>
  refine bp ((fN v h b).re (yJ h1)) ?_
  simp(disch:=omega) [VY]
  refine bp (cj t ht) ?_ (ha:=by first|rfl|(simp[Table.c,VY] <;>repeat' constructor))
  simp(disch:=omega) [VY]
  refine av (fun h2=> ?_) (fun h2=> ?_) <;>simp(disch:=omega) [h2,fX,dQ,h1,VY]
 |true=>
  have h9:=u6 h1
  have h8:0 < (fT v h b).length:=by simp[fT]
  refine bp ((fN v h b).re (xt h1)) ?_
  simp(disch:=omega) [VY]
  refine bp (cj t ht) ?_ (ha:=by first|rfl|(simp[Table.c,VY] <;>repeat' constructor))
  simp(disch:=omega) [VY]
  refine av (fun h2=> ?_) (fun h2=> ?_)
  case refine_2=>simp(disch:=omega) [h2,fX,dQ,h1,VY]
  simp(disch:=omega) [h2,cq,an,VY]
  refine ab (fun h7=> ?_) (fun h7=> ?_)
  case refine_1=>exact absurd h7 (by simp[fT])
  simp(disch:=omega) [h2,h7,cq,an,VY]
  refine bp (cO w 0 ((t.rows.length:Int) - 1)) ?_
  simp(disch:=omega) [h2,VY]
  refine av (fun h3=> ?_) (fun h3=> ?_)
  case refine_2=>simp(disch:=omega) [h2,h3,h7,fX,dQ,h1,VY]
  obtain⟨hw1,hw2⟩:=vW h3
  obtain⟨i,rfl⟩:∃i:Nat,w=(i:Int):=⟨w.toNat,by omega⟩
  have hi:i < t.rows.length:=by omega
  have w3:=(ht.2 _ (List.getElem_mem hi)).2
  simp only[Sz]at w3
  simp(disch:=omega) [h2,h3,h7,VY]
  refine bp (bX b (by omega)) ?_
  simp(disch:=omega) [h2,h3,h7,cq,fP hi,VY]
  refine bp (xX t.rows[i].key (fT v h b) (by omega) (by omega)) ?_
  simp(disch:=omega) [h2,h3,h7,fX,dQ,h1,iE,u3 hi,VY]
end Go.Eng.F
namespace Go.Eng.F
open Go.Eng.U (wv ak br TTable qH nu)
end Go.Eng.F
namespace Go.Eng.F
open Go.Eng.U (wv ak br TTable iC)
theorem A5 {t:Table} {v h:Int} {b:Bytes} {w:Int} (e:dQ t v h b w=true):fX t v h b w= [(true,[.p (.int .i64 v), .p (.int .i64 h), .o true (some (5,1)) (bytes b), .p (.int .i64 w), .o true (some (5,1)) (bytes (iE t v h b w))]),(false,[.p (.bool true)])]:=by unfold fX;rw[if_pos e]
theorem Ax {t:Table} {v h:Int} {b:Bytes} {w:Int} (e:dQ t v h b w=false):fX t v h b w= [(true,[.p (.int .i64 0), .p (.int .i64 0), .p .nils, .p (.int .i64 0), .p .nils]),(false,[.p (.bool false)])]:=by unfold fX;rw[if_neg (by simp[e])]
theorem sK {bits:Bytes} {n:Int} (h:cZ bits n=true):bits.length≤2:=by
 simp only[cZ,Bool.and_eq_true,decide_eq_true_eq]at h
 have h1:=ie h.1.1
 have h2:=h.1.2
 rw[D9]at h2
 omega
end Go.Eng.F
namespace Go.Eng.F
structure eC where
 view:Int
 height:Int
 block:Bytes
 who:Int
 tag:Bytes
def eC.c (v:eC):List D:= [.int .i64 v.view, .int .i64 v.height, .sl (bytes v.block), .int .i64 v.who, .sl (bytes v.tag)]
def eC.wf (v:eC):Prop:=tQ v.view∧tQ v.height∧Sz v.block.length∧tQ v.who∧Sz v.tag.length
def zE (l:List eC):List (List D):=l.map eC.c
theorem lP (l:List eC):(zE l).length=l.length:=by simp[zE]
theorem Bb {l:List eC} {i:Nat} (h:i < l.length):(zE l)[i]? =some l[i].c:=by simp[zE,h]
def gW (a b:eC):Bool:=decide (a.view=b.view) && decide (a.height=b.height) && decide (a.block=b.block) && decide (a.who=b.who) && decide (a.tag=b.tag)
abbrev jG:Nat:=183
def iY:AF:=⟨2,6,[.tmp 4],(.seq (.ops [.i (.lbox 2 (.s 0)), .i (.lbox 3 (.s 1)), .i (.mov 4 (qb false))]) (.seq (.ops [qf 5 2 0,ql 6 2 5 1 false,qf 7 3 0,ql 8 3 7 1 false,qd 9 .eql 6 8,qm 10 9, .g 10 true 12 (.fad 11 (.s 2) 1), .g 10 true 13 (.ldl 12 2 (.s 11) 1 false), .g 10 true 14 (.fad 13 (.s 3) 1), .g 10 true 15 (.ldl 14 3 (.s 13) 1 false), .g 10 true 16 (.bin 15 .eql (.s 12) (.s 14)), .i (.pick 16 (.s 10) (.s 15) (qb false)),qm 17 16, .g 17 true 19 (.fad 18 (.s 2) 3), .g 17 true 20 (.ldl 19 2 (.s 18) 1 false), .g 17 true 21 (.fad 20 (.s 3) 3), .g 17 true 22 (.ldl 21 3 (.s 20) 1 false), .g 17 true 23 (.bin 22 .eql (.s 19) (.s 21)), .i (.pick 23 (.s 17) (.s 22) (qb false)),qm 24 23, .g 24 true 26 (.fad 25 (.s 2) 2), .g 24 true 27 (.ldl 26 2 (.s 25) 1 false), .g 24 true 28 (.fad 27 (.s 3) 2), .g 24 true 29 (.ldl 28 3 (.s 27) 1 false), .g 24 true 30 (.call 30 57 false [(.s 26),(.s 28)]), .i (.pick 30 (.s 24) (.s 29) (qb false)),qm 31 30, .g 31 true 33 (.fad 32 (.s 2) 4), .g 31 true 34 (.ldl 33 2 (.s 32) 1 false), .g 31 true 35 (.fad 34 (.s 3) 4), .g 31 true 36 (.ldl 35 3 (.s 34) 1 false), .g 31 true 37 (.call 37 57 false [(.s 33),(.s 35)]), .i (.pick 37 (.s 31) (.s 36) (qb false)),qm 4 37]) .ret))⟩
theorem ry:cd jG=some iY:=by kernel_rfl
theorem ph (a b:eC):VC cd jG (bf [(true,a.c),(true,b.c)]) (fun rs _=>rs=bl (gW a b)):=by
 refine aa ry rfl ?_
 simp(disch:=omega) [iY,eC.c,VY]
 refine ab (fun h1=> ?_) (fun h1=> ?_) <;>simp(disch:=omega) [h1,gW,VY]
 refine ab (fun h2=> ?_) (fun h2=> ?_) <;>simp(disch:=omega) [h1,h2,VY]
 refine ab (fun h3=> ?_) (fun h3=> ?_) <;>simp(disch:=omega) [h1,h2,h3,VY]
 refine bp (cn a.block b.block) ?_
 simp(disch:=omega) [h1,h2,h3,VY]
 refine ab (fun h4=> ?_) (fun h4=> ?_) <;>simp(disch:=omega) [h1,h2,h3,h4,VY]
 refine bp (cn a.tag b.tag) ?_
 simp(disch:=omega) [h1,h2,h3,h4,VY]
abbrev jF:Nat:=153
def jD:AF:=⟨2,6,[.tmp 4],(.seq (.ops [.i (.lbox 2 (.s 0)), .i (.lbox 3 (.s 1)), .i (.mov 4 (qb false))]) (.seq (.ops [qf 5 2 0,ql 6 2 5 1 false,qf 7 3 0,ql 8 3 7 1 false,qd 9 .eql 6 8,qm 10 9, .g 10 true 12 (.fad 11 (.s 2) 1), .g 10 true 13 (.ldl 12 2 (.s 11) 1 false), .g 10 true 14 (.fad 13 (.s 3) 1), .g 10 true 15 (.ldl 14 3 (.s 13) 1 false), .g 10 true 16 (.bin 15 .eql (.s 12) (.s 14)), .i (.pick 16 (.s 10) (.s 15) (qb false)),qm 17 16, .g 17 true 19 (.fad 18 (.s 2) 2), .g 17 true 20 (.ldl 19 2 (.s 18) 1 false), .g 17 true 21 (.fad 20 (.s 3) 2), .g 17 true 22 (.ldl 21 3 (.s 20) 1 false), .g 17 true 23 (.call 23 143 false [(.s 19),(.s 21)]), .i (.pick 23 (.s 17) (.s 22) (qb false)),qm 24 23, .g 24 true 26 (.fad 25 (.s 2) 3), .g 24 true 27 (.ldl 26 2 (.s 25) 1 false), .g 24 true 28 (.fad 27 (.s 3) 3), .g 24 true 29 (.ldl 28 3 (.s 27) 1 false), .g 24 true 30 (.bin 29 .eql (.s 26) (.s 28)), .i (.pick 30 (.s 24) (.s 29) (qb false)),qm 31 30, .g 31 true 33 (.fad 32 (.s 2) 4), .g 31 true 34 (.ldl 33 2 (.s 32) 1 false), .g 31 true 35 (.fad 34 (.s 3) 4), .g 31 true 36 (.ldl 35 3 (.s 34) 1 false), .g 31 true 37 (.call 37 143 false [(.s 33),(.s 35)]), .i (.pick 37 (.s 31) (.s 36) (qb false)),qm 4 37]) .ret))⟩
theorem qP:cd jF=some jD:=by kernel_rfl
theorem pL (a b:eC):VC cd jF (bf [(true,a.c),(true,b.c)]) (fun rs _=>rs=bl (gW a b)):=by
 refine aa qP rfl ?_
 simp(disch:=omega) [jD,eC.c,VY]
 refine ab (fun h1=> ?_) (fun h1=> ?_) <;>simp(disch:=omega) [h1,gW,VY]
 refine ab (fun h2=> ?_) (fun h2=> ?_) <;>simp(disch:=omega) [h1,h2,VY]
 refine bp (cu a.block b.block) ?_
 simp(disch:=omega) [h1,h2,VY]
 refine ab (fun h3=> ?_) (fun h3=> ?_) <;>simp(disch:=omega) [h1,h2,h3,VY]
 refine ab (fun h4=> ?_) (fun h4=> ?_) <;>simp(disch:=omega) [h1,h2,h3,h4,VY]
 refine bp (cu a.tag b.tag) ?_
 simp(disch:=omega) [h1,h2,h3,h4,VY]
def dh (t:Table) (v:eC):Bool:=dQ t v.view v.height v.block v.who && decide (v.tag=iE t v.view v.height v.block v.who)
abbrev ja:Nat:=137
def jA:AF:=⟨2,5,[.tmp 4],(.seq (.ops [.i (.lbox 2 (.s 0)), .i (.lbox 3 (.s 1)), .i (.mov 4 (qb false))]) (.seq (.ops [ql 8 2 2 1 true,qf 9 3 0,ql 10 3 9 1 false,qf 11 3 1,ql 12 3 11 1 false,qf 13 3 2,ql 14 3 13 1 false,qf 15 3 3,ql 16 3 15 1 false, .i (.call 18 127 false [(.s 8),(.s 10),(.s 12),(.s 14),(.s 16)]),qm 7 17, .i (.ext 18 (.s 7) 0), .i (.ext 19 (.s 7) 1), .i (.lal 5 [.int .i64 0, .int .i64 0, .nils, .int .i64 0, .nils]),qs 5 5 18 5,qm 6 19]) (.seq (.ops [qm 20 6,qm 21 20, .g 21 true 23 (.ldl 22 5 (.s 5) 5 true), .g 21 true 24 (.ldl 23 3 (.s 3) 5 true), .g 21 true 25 (.call 25 183 false [(.s 22),(.s 23)]), .i (.pick 25 (.s 21) (.s 24) (qb false)),qm 4 25]) .ret)))⟩
theorem qU:cd ja=some jA:=by kernel_rfl
theorem qg (t:Table) (v:eC) (ht:t.wf) (hv:v.wf):VC cd ja (bf [(true,t.c),(true,v.c)]) (fun rs _=>rs=bl (dh t v)):=by
 refine aa qU rfl ?_
 simp(disch:=omega) [jA,Table.c,eC.c,VY]
 cases h1:dQ t v.view v.height v.block v.who with
 |false=>
  refine bp ((gz t v.view v.height v.block v.who ht hv.2.2.1).re (Ax h1)) ?_ (ha:=by first|rfl|(simp[Table.c,VY] <;>repeat' constructor))
  simp(disch:=omega) [dh,h1,VY]
 |true=>
  refine bp ((gz t v.view v.height v.block v.who ht hv.2.2.1).re (A5 h1)) ?_ (ha:=by first|rfl|(simp[Table.c,VY] <;>repeat' constructor))
  simp(disch:=omega) [VY]
  refine bp (ph ⟨v.view,v.height,v.block,v.who,iE t v.view v.height v.block v.who⟩ v) ?_ (ha:=by first|rfl|(simp[eC.c,VY] <;>repeat' constructor))
  simp(disch:=omega) [dh,h1,gW,eq_comm (a:=v.tag),VY]
abbrev jq:Nat:=271
def jL:AF:=⟨2,5,[.tmp 4],(.seq (.ops [.i (.lbox 2 (.s 0)), .i (.lbox 3 (.s 1)), .i (.mov 4 (qb false))]) (.seq (.ops [ql 8 2 2 1 true,qf 9 3 0,ql 10 3 9 1 false,qf 11 3 1,ql 12 3 11 1 false,qf 13 3 2,ql 14 3 13 1 false,qf 15 3 3,ql 16 3 15 1 false, .i (.call 18 208 false [(.s 8),(.s 10),(.s 12),(.s 14),(.s 16)]),qm 7 17, .i (.ext 18 (.s 7) 0), .i (.ext 19 (.s 7) 1), .i (.lal 5 [.int .i64 0, .int .i64 0, .nils, .int .i64 0, .nils]),qs 5 5 18 5,qm 6 19]) (.seq (.ops [qm 20 6,qm 21 20, .g 21 true 23 (.ldl 22 3 (.s 3) 5 true), .g 21 true 24 (.ldl 23 5 (.s 5) 5 true), .g 21 true 25 (.call 25 153 false [(.s 22),(.s 23)]), .i (.pick 25 (.s 21) (.s 24) (qb false)),qm 4 25]) .ret)))⟩
theorem qO:cd jq=some jL:=by kernel_rfl
theorem pD (t:Table) (v:eC) (ht:t.wf) (hv:v.wf):VC cd jq (bf [(true,t.c),(true,v.c)]) (fun rs _=>rs=bl (dh t v)):=by
 refine aa qO rfl ?_
 simp(disch:=omega) [jL,Table.c,eC.c,VY]
 cases h1:dQ t v.view v.height v.block v.who with
 |false=>
  refine bp ((iv t v.view v.height v.block v.who ht hv.2.2.1).re (Ax h1)) ?_ (ha:=by first|rfl|(simp[Table.c,VY] <;>repeat' constructor))
  simp(disch:=omega) [dh,h1,VY]
 |true=>
  refine bp ((iv t v.view v.height v.block v.who ht hv.2.2.1).re (A5 h1)) ?_ (ha:=by first|rfl|(simp[Table.c,VY] <;>repeat' constructor))
  simp(disch:=omega) [VY]
  refine bp (pL v ⟨v.view,v.height,v.block,v.who,iE t v.view v.height v.block v.who⟩) ?_ (ha:=by first|rfl|(simp[eC.c,VY] <;>repeat' constructor))
  simp(disch:=omega) [dh,h1,gW,VY]
def FB (t:Table) (i:Nat):Int:=match t.rows[i]? with
 |some r=>r.weight
 |none=>0
theorem rL {t:Table} {i:Nat} (h:i < t.rows.length):FB t i=t.rows[i].weight:=by simp[FB,h]
def eI (t:Table) (l:List Nat):Int:=(l.map (FB t)).sum
def cT (t:Table) (bits:Bytes):Int:=if bU t && cZ bits t.rows.length then eI t (aq bits)else 0
def fZ (t:Table):Int:=if bU t then eI t (List.range t.rows.length)else 0
def fv (t:Table) (bits:Bytes):Bool:=bU t && decide (2 * fZ t < 3 * cT t bits)
theorem tz (t:Table) (a b:List Nat):eI t (a++b)=eI t a+eI t b:=by simp[eI]
theorem sw (t:Table) (i:Nat):eI t [i]=FB t i:=by simp[eI]
theorem BJ {t:Table} {l:List Nat} {i:Nat} (h:i < l.length):eI t (l.take (i+1))=eI t (l.take i)+FB t l[i]:=by rw[List.take_succ_eq_append_getElem h,tz,sw]
theorem yL {t:Table} (h:bU t=true) {i:Nat}:0≤FB t i∧FB t i≤1099511627776:=by
 unfold FB
 split
 ·rename_i r hr
  simp only[bU,Bool.and_eq_true,List.all_eq_true]at h
  have h1:=h.1 r (List.mem_of_getElem? hr)
  simp only[hG,Bool.and_eq_true]at h1
  have:=vW h1.1
  omega
 ·omega
theorem lH {t:Table} (h:bU t=true):∀(l:List Nat),0≤eI t l∧eI t l≤1099511627776 * (l.length:Int)
 | []=>by simp[eI]
 |i::l=>by
  have h1:=lH h l
  have h2:=yL h (i:=i)
  have h3:eI t (i::l)=FB t i+eI t l:=by simp[eI]
  rw[h3,List.length_cons]
  omega
theorem fF {t:Table} (h:bU t=true):1≤t.rows.length∧t.rows.length≤10:=by
 simp only[bU,Bool.and_eq_true]at h
 have:=vW h.2
 omega
theorem oq {p:Nat→Bool} {a b:Nat} (h:∀i,a≤i→p i=false) (hb:a≤b):(List.range b).filter p=(List.range a).filter p:=by
 obtain⟨k,rfl⟩:∃k,b=a+k:=⟨b - a,by omega⟩
 rw[List.range_add,List.filter_append]
 have:((List.range k).map (a+ ·)).filter p= []:=by
  rw[List.filter_eq_nil_iff]
  intro x hx
  obtain⟨j,_,rfl⟩:=List.mem_map.1 hx
  simp[h (a+j) (by omega)]
 rw[this,List.append_nil]
theorem sO {bits:Bytes} {n:Nat} (h:cZ bits n=true):(List.range n).filter (bx bits)=aq bits:=by
 have hout:∀i,8 * bits.length≤i→bx bits i=false:=fun i hi=>by
  have:bits[i / 8]? =none:=by rw[List.getElem?_eq_none_iff];omega
  simp[bx,this]
 simp only[cZ,Bool.and_eq_true,du,List.all_eq_true,decide_eq_true_eq]at h
 have hin:∀i,n≤i→bx bits i=false:=fun i hi=>by
  cases hb:bx bits i with
  |false=>rfl
  |true=>
   rcases Nat.lt_or_ge i (8 * bits.length)with hl|hl
   ·have:=h.2 i (by simp only[aq,List.mem_filter,List.mem_range];exact⟨hl,hb⟩)
    omega
   ·rw[hout i hl]at hb;cases hb
 unfold aq
 rcases Nat.le_total n (8 * bits.length)with hl|hl
 ·rw[oq hin hl]
 ·rw[oq hout hl]
def ot (t:Table) (i:Nat):Int:=if bU t then eI t (List.range i)else 0
theorem xI (t:Table):ot t t.rows.length=fZ t:=rfl
theorem vK (t:Table):ot t 0=0:=by unfold ot;split <;>rfl
theorem vJ {t:Table} (h:bU t=true) {i:Nat} (hi:i < t.rows.length):ot t i+t.rows[i].weight=ot t (i+1):=by
 unfold ot
 rw[if_pos h,if_pos h,List.range_succ,tz,sw,rL hi]
theorem Ee {t:Table} (h:bU t=false) (i:Nat):ot t (i+1)=ot t i:=by simp[ot,h]
theorem rJ (t:Table) (i:Nat):0≤ot t i∧ot t i≤1099511627776 * (i:Int):=by
 unfold ot
 split
 ·rename_i h
  have h1:=lH h (List.range i)
  rw[List.length_range]at h1
  exact h1
 ·omega
abbrev ln:Nat:=222
def kn:AF:=⟨1,5,[.tmp 2],(.seq (.ops [.i (.lbox 1 (.s 0)), .i (.mov 2 (qi 0))]) (.seq (.ops [.i (.mov 3 (qi 0))]) (.seq (.seq (.ops [qf 6 1 0,ql 7 1 6 1 false,qn 8 7, .i (.mov 9 (qi 0))]) (.block 0 (.loop [19,18,17,16,15,14,13,12,11,10,5] (.seq (.ops [qd 10 .lss 9 8]) (.seq (.cond (.s 10) .skip (.exit 0)) (.seq (.block 1 (.seq (.ops [.i (.iad 11 (.s 7) (.s 9) 2), .i (.ldh 12 (.s 11) 2 true), .i (.lal 5 [.int .i64 0, .nils]),qs 5 5 12 2]) (.seq (.ops [ql 13 1 1 1 true,qk 15 135 13]) (.cond (.s 14) (.ops [qm 15 3,qf 16 5 0,ql 17 5 16 1 false,qd 18 .add 15 17,qm 3 18]) .skip)))) (.ops [.i (.bin 19 .add (.s 9) (qi 1)),qm 9 19]))))))) (.seq (.ops [qm 20 3,qm 2 20]) .ret))))⟩
theorem sF:cd ln=some kn:=by kernel_rfl
theorem rz (t:Table) (ht:t.wf):VC cd ln (bf [(true,t.c)]) (fun rs _=>rs=it (fZ t)):=by
 have w1:=ht.1
 simp only[Sz]at w1
 refine aa sF rfl ?_
 simp(disch:=omega) [kn,Table.c,cq,VY]
 refine bo (σ:=Nat) (f1:=_) (es0:=_) (by simp(disch:=omega) [VY];rfl) (by simp(disch:=omega) [VY];rfl) (fun i=> [(9, .val false [.int .i64 (i:Int)]),(3, .val false [.int .i64 (ot t i)])]) (fun _=> []) (fun i g=>g+i=t.rows.length) 0 t.rows.length (by simp(disch:=omega) [vK,VY]) (by simp(disch:=omega) [VY]) (by omega) ?_
 rintro i n g hg P hP
 have h0:=rJ t i
 simp(disch:=omega) [VY]
 refine ab (fun h1=> ?_) (fun h1=> ?_)
 ·have hi:i < t.rows.length:=by omega
  simp(disch:=omega) [fP hi,VY]
  refine bp (ck t ht) ?_ (ha:=by first|rfl|(simp[Table.c,VY] <;>repeat' constructor))
  simp(disch:=omega) [VY]
  refine av (fun h2=> ?_) (fun h2=> ?_)
  ·have h3:=rJ t (i+1)
   have h4:=vJ h2 hi
   have h5:=fF h2
   simp(disch:=omega) [h2,h4,VY]
   exact hP (i+1) (g - 1) _ _ (by omega) (by omega) (by simp(disch:=omega) [VY]) (by simp(disch:=omega) [VY])
  ·simp(disch:=omega) [h2,VY]
   exact hP (i+1) (g - 1) _ _ (by omega) (by omega) (by simp(disch:=omega) [Ee h2,VY]) (by simp(disch:=omega) [VY])
 ·have hi:i=t.rows.length:=by omega
  subst hi
  simp(disch:=omega) [xI,VY]
abbrev kr:Nat:=286
def kQ:AF:=⟨1,5,[.tmp 2],(.seq (.ops [.i (.lbox 1 (.s 0)), .i (.mov 2 (qi 0))]) (.seq (.ops [.i (.mov 3 (qi 0))]) (.seq (.seq (.ops [ql 6 1 1 1 true,qk 8 200 6, .i (.not 8 (.s 7))]) (.cond (.s 8) (.seq (.ops [.i (.mov 2 (qi 0))]) .ret) .skip)) (.seq (.seq (.ops [qf 9 1 0,ql 10 1 9 1 false,qn 11 10, .i (.mov 12 (qi 0))]) (.block 0 (.loop [20,19,18,17,16,15,14,13,5] (.seq (.ops [qd 13 .lss 12 11]) (.seq (.cond (.s 13) .skip (.exit 0)) (.seq (.block 1 (.seq (.ops [.i (.iad 14 (.s 10) (.s 12) 2), .i (.ldh 15 (.s 14) 2 true), .i (.lal 5 [.int .i64 0, .nils]),qs 5 5 15 2]) (.ops [qm 16 3,qf 17 5 0,ql 18 5 17 1 false,qd 19 .add 16 18,qm 3 19]))) (.ops [.i (.bin 20 .add (.s 12) (qi 1)),qm 12 20]))))))) (.seq (.ops [qm 21 3,qm 2 21]) .ret)))))⟩
theorem s9:cd kr=some kQ:=by kernel_rfl
theorem rb (t:Table) (ht:t.wf):VC cd kr (bf [(true,t.c)]) (fun rs _=>rs=it (fZ t)):=by
 have w1:=ht.1
 simp only[Sz]at w1
 refine aa s9 rfl ?_
 simp(disch:=omega) [kQ,Table.c,VY]
 refine bp (cj t ht) ?_ (ha:=by first|rfl|(simp[Table.c,VY] <;>repeat' constructor))
 simp(disch:=omega) [VY]
 refine av (fun h1=> ?_) (fun h1=> ?_)
 case refine_2=>simp(disch:=omega) [h1,fZ,VY]
 simp(disch:=omega) [h1,cq,VY]
 have h5:=fF h1
 refine bo (σ:=Nat) (f1:=_) (es0:=_) (by simp(disch:=omega) [VY];rfl) (by simp(disch:=omega) [VY];rfl) (fun i=> [(12, .val false [.int .i64 (i:Int)]),(3, .val false [.int .i64 (ot t i)])]) (fun _=> []) (fun i g=>g+i=t.rows.length) 0 t.rows.length (by simp(disch:=omega) [vK,VY]) (by simp(disch:=omega) [VY]) (by omega) ?_
 rintro i n g hg P hP
 have h0:=rJ t i
 simp(disch:=omega) [VY]
 refine ab (fun h2=> ?_) (fun h2=> ?_)
 ·have hi:i < t.rows.length:=by omega
  have h3:=rJ t (i+1)
  have h4:=vJ h1 hi
  simp(disch:=omega) [fP hi,h4,VY]
  exact hP (i+1) (g - 1) _ _ (by omega) (by omega) (by simp(disch:=omega) [VY]) (by simp(disch:=omega) [VY])
 ·have hi:i=t.rows.length:=by omega
  subst hi
  simp(disch:=omega) [xI,VY]
abbrev jt:Nat:=221
def i6:AF:=⟨2,6,[.tmp 4],(.seq (.ops [.i (.lbox 2 (.s 0)), .i (.mov 4 (qi 0))]) (.seq (.ops [.i (.mov 5 (qi 0))]) (.seq (.seq (.ops [ql 8 2 2 1 true,qk 10 135 8, .i (.not 10 (.s 9)),qm 11 10, .g 11 false 13 (.mov 12 (.s 1)), .g 11 false 14 (.fad 13 (.s 2) 0), .g 11 false 15 (.ldl 14 2 (.s 13) 1 false), .g 11 false 16 (.len 15 false (.s 14)), .g 11 false 17 (.call 17 125 false [(.s 12),(.s 15)]), .g 11 false 18 (.not 17 (.s 16)), .i (.pick 18 (.s 11) (qb true) (.s 17))]) (.cond (.s 18) (.seq (.ops [.i (.mov 4 (qi 0))]) .ret) .skip)) (.seq (.seq (.ops [qm 19 1,qk 21 126 19,qn 21 20, .i (.mov 22 (qi 0))]) (.block 0 (.loop [34,33,32,31,30,29,28,27,26,25,24,23,7] (.seq (.ops [qd 23 .lss 22 21]) (.seq (.cond (.s 23) .skip (.exit 0)) (.seq (.block 1 (.seq (.ops [.i (.iad 24 (.s 20) (.s 22) 1), .i (.ldh 25 (.s 24) 1 false),qm 7 25]) (.ops [qm 26 5,qf 27 2 0,ql 28 2 27 1 false,qm 29 7, .i (.iad 30 (.s 28) (.s 29) 2),qf 31 30 0, .i (.ldh 32 (.s 31) 1 false),qd 33 .add 26 32,qm 5 33]))) (.ops [.i (.bin 34 .add (.s 22) (qi 1)),qm 22 34]))))))) (.seq (.ops [qm 35 5,qm 4 35]) .ret)))))⟩
theorem qV:cd jt=some i6:=by kernel_rfl
theorem qh (t:Table) (bits:Bytes) (ht:t.wf) (hb:Sz bits.length):VC cd jt (bf [(true,t.c),(false,[.sl (bytes bits)])]) (fun rs _=>rs=it (cT t bits)):=by
 have w1:=ht.1
 simp only[Sz]at w1 hb
 refine aa qV rfl ?_
 simp(disch:=omega) [i6,Table.c,VY]
 refine bp (ck t ht) ?_ (ha:=by first|rfl|(simp[Table.c,VY] <;>repeat' constructor))
 simp(disch:=omega) [VY]
 refine av (fun h1=> ?_) (fun h1=> ?_)
 case refine_2=>simp(disch:=omega) [h1,cT,VY]
 simp(disch:=omega) [h1,cq,VY]
 refine bp (jU bits t.rows.length (by omega) (by omega)) ?_
 simp(disch:=omega) [h1,VY]
 refine av (fun h2=> ?_) (fun h2=> ?_)
 case refine_2=>simp(disch:=omega) [h1,h2,cT,VY]
 simp(disch:=omega) [h1,h2,VY]
 refine bp (eh bits (by omega)) ?_
 simp(disch:=omega) [h1,h2,dT,VY]
 have h6:=cL bits
 have h7:=sK h2
 have hz:eI t []=0:=rfl
 refine bo (σ:=Nat) (f1:=_) (es0:=_) (by simp(disch:=omega) [VY];rfl) (by simp(disch:=omega) [VY];rfl) (fun i=> [(22, .val false [.int .i64 (i:Int)]),(5, .val false [.int .i64 (eI t ((aq bits).take i))])]) (fun _=> []) (fun i g=>g+i=(aq bits).length) 0 (aq bits).length (by simp(disch:=omega) [hz,VY]) (by simp(disch:=omega) [VY]) (by omega) ?_
 rintro i n g hg P hP
 simp(disch:=omega) [VY]
 refine ab (fun h3=> ?_) (fun h3=> ?_)
 ·have hi:i < (aq bits).length:=by omega
  have hin:(aq bits)[i] < t.rows.length:=by
   simp only[cZ,Bool.and_eq_true,du,List.all_eq_true,decide_eq_true_eq]at h2
   have:=h2.2 _ (List.getElem_mem hi)
   omega
  have h4:=BJ (t:=t) hi
  rw[rL hin]at h4
  have h8:=lH h1 ((aq bits).take (i+1))
  have h9:((aq bits).take (i+1)).length≤i+1:=List.length_take_le _ _
  simp(disch:=omega) [kC hi,cq,fP hin,←h4,VY]
  exact hP (i+1) (g - 1) _ _ (by omega) (by omega) (by simp(disch:=omega) [VY]) (by simp(disch:=omega) [VY])
 ·have hi:i=(aq bits).length:=by omega
  subst hi
  simp(disch:=omega) [cT,h1,h2,List.take_length,VY]
abbrev i1:Nat:=285
def iZ:AF:=⟨2,6,[.tmp 4],(.seq (.ops [.i (.lbox 2 (.s 0)), .i (.mov 4 (qi 0))]) (.seq (.ops [.i (.mov 5 (qi 0))]) (.seq (.seq (.ops [ql 8 2 2 1 true,qk 10 200 8, .i (.not 10 (.s 9)),qm 11 10, .g 11 false 13 (.mov 12 (.s 1)), .g 11 false 14 (.fad 13 (.s 2) 0), .g 11 false 15 (.ldl 14 2 (.s 13) 1 false), .g 11 false 16 (.len 15 false (.s 14)), .g 11 false 17 (.call 17 206 false [(.s 12),(.s 15)]), .g 11 false 18 (.not 17 (.s 16)), .i (.pick 18 (.s 11) (qb true) (.s 17))]) (.cond (.s 18) (.seq (.ops [.i (.mov 4 (qi 0))]) .ret) .skip)) (.seq (.seq (.ops [qf 19 2 0,ql 20 2 19 1 false,qn 21 20, .i (.mov 22 (qi 0))]) (.block 0 (.loop [34,33,32,31,30,29,28,27,26,25,24,23,7,6] (.seq (.ops [qd 23 .lss 22 21]) (.seq (.cond (.s 23) .skip (.exit 0)) (.seq (.block 1 (.seq (.ops [qm 24 22, .i (.iad 25 (.s 20) (.s 22) 2), .i (.ldh 26 (.s 25) 2 true), .i (.lal 7 [.int .i64 0, .nils]),qm 6 24,qs 7 7 26 2]) (.seq (.ops [qm 27 1,qm 28 6, .i (.call 30 260 false [(.s 27),(.s 28)])]) (.cond (.s 29) (.ops [qm 30 5,qf 31 7 0,ql 32 7 31 1 false,qd 33 .add 30 32,qm 5 33]) .skip)))) (.ops [.i (.bin 34 .add (.s 22) (qi 1)),qm 22 34]))))))) (.seq (.ops [qm 35 5,qm 4 35]) .ret)))))⟩
theorem qK:cd i1=some iZ:=by kernel_rfl
theorem pW (t:Table) (bits:Bytes) (ht:t.wf) (hb:Sz bits.length):VC cd i1 (bf [(true,t.c),(false,[.sl (bytes bits)])]) (fun rs _=>rs=it (cT t bits)):=by
 have w1:=ht.1
 simp only[Sz]at w1 hb
 refine aa qK rfl ?_
 simp(disch:=omega) [iZ,Table.c,VY]
 refine bp (cj t ht) ?_ (ha:=by first|rfl|(simp[Table.c,VY] <;>repeat' constructor))
 simp(disch:=omega) [VY]
 refine av (fun h1=> ?_) (fun h1=> ?_)
 case refine_2=>simp(disch:=omega) [h1,cT,VY]
 simp(disch:=omega) [h1,cq,VY]
 refine bp (lq bits t.rows.length (by omega) (by omega)) ?_
 simp(disch:=omega) [h1,VY]
 refine av (fun h2=> ?_) (fun h2=> ?_)
 case refine_2=>simp(disch:=omega) [h1,h2,cT,VY]
 simp(disch:=omega) [h1,h2,cq,VY]
 have h5:=fF h1
 have h7:=sK h2
 refine bo (σ:=Nat) (f1:=_) (es0:=_) (by simp(disch:=omega) [VY];rfl) (by simp(disch:=omega) [VY];rfl) (fun i=> [(22, .val false [.int .i64 (i:Int)]),(5, .val false [.int .i64 (eI t ((List.range i).filter (bx bits)))])]) (fun _=> []) (fun i g=>g+i=t.rows.length) 0 t.rows.length (by simp(disch:=omega) [show eI t []=0 from rfl,VY]) (by simp(disch:=omega) [VY]) (by omega) ?_
 rintro i n g hg P hP
 have h8:=lH h1 ((List.range i).filter (bx bits))
 have h9:((List.range i).filter (bx bits)).length≤i:=by have:=List.length_filter_le (bx bits) (List.range i);rw[List.length_range]at this;exact this
 simp(disch:=omega) [VY]
 refine ab (fun h3=> ?_) (fun h3=> ?_)
 ·have hi:i < t.rows.length:=by omega
  simp(disch:=omega) [fP hi,VY]
  refine bp (iV bits i (by omega) (by omega)) ?_
  simp(disch:=omega) [VY]
  refine av (fun h4=> ?_) (fun h4=> ?_)
  ·have hn:eI t ((List.range i).filter (bx bits))+t.rows[i].weight=eI t ((List.range (i+1)).filter (bx bits)):=by
    rw[List.range_succ,List.filter_append,tz,←rL hi]
    simp[h4,sw]
   have h10:=yL h1 (i:=i)
   rw[rL hi]at h10
   simp(disch:=omega) [h4,hn,VY]
   exact hP (i+1) (g - 1) _ _ (by omega) (by omega) (by simp(disch:=omega) [VY]) (by simp(disch:=omega) [VY])
  ·have hn:eI t ((List.range (i+1)).filter (bx bits))=eI t ((List.range i).filter (bx bits)):=by
    rw[List.range_succ,List.filter_append]
    simp[h4]
   simp(disch:=omega) [h4,VY]
   exact hP (i+1) (g - 1) _ _ (by omega) (by omega) (by simp(disch:=omega) [hn,VY]) (by simp(disch:=omega) [VY])
 ·have hi:i=t.rows.length:=by omega
  subst hi
  have:=sO h2
  simp(disch:=omega) [cT,h1,h2,this,VY]
theorem qE (t:Table) (bits:Bytes):0≤cT t bits∧cT t bits≤17592186044416:=by
 unfold cT
 split
 ·rename_i h
  simp only[Bool.and_eq_true]at h
  have h1:=lH h.1 (aq bits)
  have h2:=cL bits
  have h3:=sK h.2
  omega
 ·omega
theorem rV (t:Table):0≤fZ t∧fZ t≤10995116277760:=by
 unfold fZ
 split
 ·rename_i h
  have h1:=lH h (List.range t.rows.length)
  have h2:=fF h
  rw[List.length_range]at h1
  omega
 ·omega
abbrev iX:Nat:=138
def jE:AF:=⟨2,5,[.tmp 4],(.seq (.ops [.i (.lbox 2 (.s 0)), .i (.mov 4 (qb false))]) (.seq (.ops [ql 5 2 2 1 true,qk 7 135 5,qm 7 6, .g 7 true 9 (.ldl 8 2 (.s 2) 1 true), .g 7 true 10 (.mov 9 (.s 1)), .g 7 true 11 (.call 11 221 false [(.s 8),(.s 9)]), .g 7 true 12 (.bin 11 .mul (qi 3) (.s 10)), .g 7 true 13 (.ldl 12 2 (.s 2) 1 true), .g 7 true 14 (.call 14 222 false [(.s 12)]), .g 7 true 15 (.bin 14 .mul (qi 2) (.s 13)), .g 7 true 16 (.bin 15 .gtr (.s 11) (.s 14)), .i (.pick 16 (.s 7) (.s 15) (qb false)),qm 4 16]) .ret))⟩
theorem rE:cd iX=some jE:=by kernel_rfl
theorem pI (t:Table) (bits:Bytes) (ht:t.wf) (hb:Sz bits.length):VC cd iX (bf [(true,t.c),(false,[.sl (bytes bits)])]) (fun rs _=>rs=bl (fv t bits)):=by
 have h8:=qE t bits
 have h9:=rV t
 refine aa rE rfl ?_
 simp(disch:=omega) [jE,Table.c,VY]
 refine bp (ck t ht) ?_ (ha:=by first|rfl|(simp[Table.c,VY] <;>repeat' constructor))
 simp(disch:=omega) [VY]
 refine av (fun h1=> ?_) (fun h1=> ?_)
 case refine_2=>simp(disch:=omega) [h1,fv,VY]
 simp(disch:=omega) [h1,VY]
 refine bp (qh t bits ht hb) ?_ (ha:=by first|rfl|(simp[Table.c,VY] <;>repeat' constructor))
 simp(disch:=omega) [h1,VY]
 refine bp (rz t ht) ?_ (ha:=by first|rfl|(simp[Table.c,VY] <;>repeat' constructor))
 simp(disch:=omega) [h1,fv,VY]
abbrev jf:Nat:=272
def jx:AF:=⟨2,5,[.tmp 4],(.seq (.ops [.i (.lbox 2 (.s 0)), .i (.mov 4 (qb false))]) (.seq (.ops [ql 5 2 2 1 true,qk 7 200 5,qm 7 6, .g 7 true 9 (.ldl 8 2 (.s 2) 1 true), .g 7 true 10 (.mov 9 (.s 1)), .g 7 true 11 (.call 11 285 false [(.s 8),(.s 9)]), .g 7 true 12 (.bin 11 .mul (qi 3) (.s 10)), .g 7 true 13 (.ldl 12 2 (.s 2) 1 true), .g 7 true 14 (.call 14 286 false [(.s 12)]), .g 7 true 15 (.bin 14 .mul (qi 2) (.s 13)), .g 7 true 16 (.bin 15 .gtr (.s 11) (.s 14)), .i (.pick 16 (.s 7) (.s 15) (qb false)),qm 4 16]) .ret))⟩
theorem ri:cd jf=some jx:=by kernel_rfl
theorem pj (t:Table) (bits:Bytes) (ht:t.wf) (hb:Sz bits.length):VC cd jf (bf [(true,t.c),(false,[.sl (bytes bits)])]) (fun rs _=>rs=bl (fv t bits)):=by
 have h8:=qE t bits
 have h9:=rV t
 refine aa ri rfl ?_
 simp(disch:=omega) [jx,Table.c,VY]
 refine bp (cj t ht) ?_ (ha:=by first|rfl|(simp[Table.c,VY] <;>repeat' constructor))
 simp(disch:=omega) [VY]
 refine av (fun h1=> ?_) (fun h1=> ?_)
 case refine_2=>simp(disch:=omega) [h1,fv,VY]
 simp(disch:=omega) [h1,VY]
 refine bp (pW t bits ht hb) ?_ (ha:=by first|rfl|(simp[Table.c,VY] <;>repeat' constructor))
 simp(disch:=omega) [h1,VY]
 refine bp (rb t ht) ?_ (ha:=by first|rfl|(simp[Table.c,VY] <;>repeat' constructor))
 simp(disch:=omega) [h1,fv,VY]
def cc (q:Qc) (n:Nat):List eC:=(List.range n).map fun i=>⟨q.view,q.height,q.block,((aq q.bits)[i]?.getD 0:Nat),q.tags[i]?.getD []⟩
theorem cw (q:Qc) (n:Nat):(cc q n).length=n:=by simp[cc]
theorem qF {q:Qc} {i:Nat} (h1:i < (aq q.bits).length) (h2:i < q.tags.length):zE (cc q i)++ [[.int .i64 q.view, .int .i64 q.height, .sl (bytes q.block), .int .i64 ((aq q.bits)[i]:Int), .sl (bytes q.tags[i])]]=zE (cc q (i+1)):=by
 simp[cc,zE,List.range_succ,eC.c,h1,h2]
end Go.Eng.F
namespace Go.Eng.F
theorem vz {q:Qc} (hw:q.wc) (n:Nat):∀v∈cc q n,v.wf:=fun v hv=>by
 obtain⟨⟨w1,w2,w3,w4,w5⟩,w6⟩:=hw
 obtain⟨i,_,rfl⟩:=List.mem_map.1 hv
 refine⟨w1,w2,w3,?_,?_⟩
 ·have h1:((aq q.bits)[i]?.getD 0)≤8 * q.bits.length:=by
   cases h:(aq q.bits)[i]? with
   |none=>simp
   |some x=>
    have:=List.mem_of_getElem? h
    simp only[aq,List.mem_filter,List.mem_range]at this
    simp only[Option.getD_some]
    omega
  simp only[Sz]at w4
  simp only[tQ]
  omega
 ·cases h:q.tags[i]? with
  |none=>simp[Sz]
  |some x=>simpa using w6 x (List.mem_of_getElem? h)
abbrev ky:Nat:=136
def la:AF:=⟨1,6,[.tmp 2],(.seq (.ops [.i (.lbox 1 (.s 0)), .i (.mov 2 (.c (.val false [.nils])))]) (.seq (.seq (.ops [qf 6 1 4,ql 7 1 6 1 false,qn 8 7,qf 9 1 3,ql 10 1 9 1 false,qk 12 215 10,qd 12 .neq 8 11]) (.cond (.s 12) (.seq (.ops [.i (.mov 2 (.c (.val false [.nils])))]) .ret) .skip)) (.seq (.ops [.i (.bse 13),qm 3 13]) (.seq (.seq (.ops [qf 14 1 3,ql 15 1 14 1 false,qk 17 126 15,qn 17 16, .i (.mov 18 (qi 0))]) (.block 0 (.loop [41,40,39,38,37,36,35,34,33,32,31,30,29,28,27,26,25,24,23,22,21,20,19,5,4] (.seq (.ops [qd 19 .lss 18 17]) (.seq (.cond (.s 19) .skip (.exit 0)) (.seq (.block 1 (.seq (.ops [qm 20 18, .i (.iad 21 (.s 16) (.s 18) 1), .i (.ldh 22 (.s 21) 1 false),qm 4 20,qm 5 22]) (.ops [qm 23 3,qf 24 1 0,ql 25 1 24 1 false,qf 26 1 1,ql 27 1 26 1 false,qf 28 1 2,ql 29 1 28 1 false, .i (.call 31 60 true [(.s 29)]),qm 31 5,qf 32 1 4,ql 33 1 32 1 false,qm 34 4, .i (.iad 35 (.s 33) (.s 34) 1), .i (.ldh 36 (.s 35) 1 false), .i (.call 38 60 true [(.s 36)]), .i (.bld 38 [.int .i64 0, .int .i64 0, .nils, .int .i64 0, .nils] [(0,1,(.s 25)),(1,1,(.s 27)),(2,1,(.s 30)),(3,1,(.s 31)),(4,1,(.s 37))]), .i (.lsl 39 5 1 [.int .i64 0, .int .i64 0, .nils, .int .i64 0, .nils] [(0,5,(.s 38))]), .i (.app 40 87 5 72 (.s 23) (.s 39)),qm 3 40]))) (.ops [.i (.bin 41 .add (.s 18) (qi 1)),qm 18 41]))))))) (.seq (.ops [qm 42 3,qm 2 42]) .ret)))))⟩
theorem sB:cd ky=some la:=by kernel_rfl
theorem qZ (q:Qc) (hw:q.wc) (hl:q.tags.length=(aq q.bits).length):VC cd ky (bf [(true,q.c)]) (fun rs _=>rs= [(false,[.o true (some (87,5)) (zE (cc q q.tags.length))])]):=by
 obtain⟨⟨w1,w2,w3,w4,w5⟩,w6⟩:=hw
 simp only[Sz]at w3 w4 w5
 refine aa sB rfl ?_
 simp(disch:=omega) [la,Qc.c,bJ,VY]
 refine bp (fY q.bits (by omega)) ?_
 simp(disch:=omega) [hl,VY]
 refine bp (eh q.bits (by omega)) ?_
 simp(disch:=omega) [dT,VY]
 refine bo (σ:=Nat×Nat) (f1:=_) (es0:=_) (by simp(disch:=omega) [VY];rfl) (by simp(disch:=omega) [VY];rfl) (fun p=> [(18, .val false [.int .i64 (p.1:Int)]),(3, .val false [.ow 13 p.2])]) (fun p=> [(13, .sl p.2 true true (some (87,5)) (zE (cc q p.1)))]) (fun p g=>g+p.1=(aq q.bits).length) (0,_) (aq q.bits).length (by simp(disch:=omega) [VY];rfl) (by simp(disch:=omega) [cc,zE,VY]) (by omega) ?_
 rintro⟨i,v⟩ n g hg P hP
 simp only at hg
 have hn:(zE (cc q i)).length=i:=by rw[lP,cw]
 simp(disch:=omega) [VY]
 refine ab (fun h1=> ?_) (fun h1=> ?_)
 ·have hi:i < (aq q.bits).length:=by omega
  have hj:i < q.tags.length:=by omega
  have w7:=w6 _ (List.getElem_mem hj)
  simp only[Sz]at w7
  have hx:=qF hi hj
  simp(disch:=omega) [kC hi,VY]
  refine bp (bm q.block (by omega)) ?_
  simp(disch:=omega) [bJ,fB hj,VY]
  refine bp (bm q.tags[i] (by omega)) ?_
  simp(disch:=omega) [hn,hx,VY]
  exact hP (i+1,_) (g - 1) _ _ (by omega) (by simp only;omega) (by simp(disch:=omega) [VY];rfl) (by simp(disch:=omega) [VY])
 ·have hi:i=(aq q.bits).length:=by omega
  subst hi
  simp(disch:=omega) [VY]
abbrev kT:Nat:=270
def kK:AF:=⟨1,6,[.tmp 2],(.seq (.ops [.i (.lbox 1 (.s 0)), .i (.mov 2 (.c (.val false [.nils])))]) (.seq (.ops [.i (.bse 7),qm 3 7]) (.seq (.ops [qf 8 1 3,ql 9 1 8 1 false,qk 11 207 9,qm 4 10]) (.seq (.seq (.ops [qm 11 4,qn 12 11,qf 13 1 4,ql 14 1 13 1 false,qn 15 14,qd 16 .neq 12 15]) (.cond (.s 16) (.seq (.ops [qm 17 3,qm 2 17]) .ret) .skip)) (.seq (.seq (.ops [qm 18 4,qn 19 18, .i (.mov 20 (qi 0))]) (.block 0 (.loop [43,42,41,40,39,38,37,36,35,34,33,32,31,30,29,28,27,26,25,24,23,22,21,6,5] (.seq (.ops [qd 21 .lss 20 19]) (.seq (.cond (.s 21) .skip (.exit 0)) (.seq (.block 1 (.seq (.ops [qm 22 20, .i (.iad 23 (.s 18) (.s 20) 1), .i (.ldh 24 (.s 23) 1 false),qm 5 22,qm 6 24]) (.ops [qm 25 3,qf 26 1 0,ql 27 1 26 1 false,qf 28 1 1,ql 29 1 28 1 false,qf 30 1 2,ql 31 1 30 1 false, .i (.call 33 115 true [(.s 31)]),qm 33 6,qf 34 1 4,ql 35 1 34 1 false,qm 36 5, .i (.iad 37 (.s 35) (.s 36) 1), .i (.ldh 38 (.s 37) 1 false), .i (.call 40 115 true [(.s 38)]), .i (.bld 40 [.int .i64 0, .int .i64 0, .nils, .int .i64 0, .nils] [(0,1,(.s 27)),(1,1,(.s 29)),(2,1,(.s 32)),(3,1,(.s 33)),(4,1,(.s 39))]), .i (.lsl 41 5 1 [.int .i64 0, .int .i64 0, .nils, .int .i64 0, .nils] [(0,5,(.s 40))]), .i (.app 42 87 5 72 (.s 25) (.s 41)),qm 3 42]))) (.ops [.i (.bin 43 .add (.s 20) (qi 1)),qm 20 43]))))))) (.seq (.ops [qm 44 3,qm 2 44]) .ret))))))⟩
theorem s8:cd kT=some kK:=by kernel_rfl
theorem rA (q:Qc) (hw:q.wc) (hl:q.tags.length=(aq q.bits).length):VC cd kT (bf [(true,q.c)]) (fun rs _=>rs= [(false,[.o true (some (87,5)) (zE (cc q q.tags.length))])]):=by
 obtain⟨⟨w1,w2,w3,w4,w5⟩,w6⟩:=hw
 simp only[Sz]at w3 w4 w5
 refine aa s8 rfl ?_
 simp(disch:=omega) [kK,Qc.c,bJ,VY]
 refine bp (el q.bits (by omega)) ?_
 simp(disch:=omega) [dT,bJ,hl,VY]
 refine bo (σ:=Nat×Nat) (f1:=_) (es0:=_) (by simp(disch:=omega) [VY];rfl) (by simp(disch:=omega) [VY];rfl) (fun p=> [(20, .val false [.int .i64 (p.1:Int)]),(3, .val false [.ow 7 p.2])]) (fun p=> [(7, .sl p.2 true true (some (87,5)) (zE (cc q p.1)))]) (fun p g=>g+p.1=(aq q.bits).length) (0,_) (aq q.bits).length (by simp(disch:=omega) [VY];rfl) (by simp(disch:=omega) [cc,zE,VY]) (by omega) ?_
 rintro⟨i,v⟩ n g hg P hP
 simp only at hg
 have hn:(zE (cc q i)).length=i:=by rw[lP,cw]
 simp(disch:=omega) [VY]
 refine ab (fun h1=> ?_) (fun h1=> ?_)
 ·have hi:i < (aq q.bits).length:=by omega
  have hj:i < q.tags.length:=by omega
  have w7:=w6 _ (List.getElem_mem hj)
  simp only[Sz]at w7
  have hx:=qF hi hj
  simp(disch:=omega) [kC hi,VY]
  refine bp (bX q.block (by omega)) ?_
  simp(disch:=omega) [bJ,fB hj,VY]
  refine bp (bX q.tags[i] (by omega)) ?_
  simp(disch:=omega) [hn,hx,VY]
  exact hP (i+1,_) (g - 1) _ _ (by omega) (by simp only;omega) (by simp(disch:=omega) [VY];rfl) (by simp(disch:=omega) [VY])
 ·have hi:i=(aq q.bits).length:=by omega
  subst hi
  simp(disch:=omega) [VY]
def eM (l:bA) (t:Table) (q:Qc):Int:=if og l t && ma l q then(if(cc q q.tags.length).all (dh t)then(if fv t q.bits then 0 else 3)else 2)else 1
theorem CY {α:Type} {p:α→Bool} {l:List α} (h:∀x∈l.take l.length,p x=true):l.all p=true:=by
 rw[List.take_length]at h
 simpa using h
theorem Cm {α:Type} {p:α→Bool} {l:List α} {i:Nat} (hi:i < l.length) (h:p l[i]=false):l.all p=false:=by
 rw[List.all_eq_false]
 exact⟨l[i],List.getElem_mem hi,by simp[h]⟩
theorem vo {l:bA} {q:Qc} (h:ma l q=true):q.tags.length=(aq q.bits).length:=by
 simp only[ma,Bool.and_eq_true,decide_eq_true_eq]at h
 exact h.1.2
abbrev mM:Nat:=58
def nf:AF:=⟨3,6,[.tmp 6],(.seq (.ops [.i (.lbox 3 (.s 0)), .i (.lbox 4 (.s 1)), .i (.lbox 5 (.s 2)), .i (.mov 6 (qi 0))]) (.seq (.seq (.ops [ql 9 3 3 5 true,ql 10 4 4 1 true, .i (.call 12 55 false [(.s 9),(.s 10)]), .i (.not 12 (.s 11)),qm 13 12, .g 13 false 15 (.ldl 14 3 (.s 3) 5 true), .g 13 false 16 (.ldl 15 5 (.s 5) 5 true), .g 13 false 17 (.call 17 128 false [(.s 14),(.s 15)]), .g 13 false 18 (.not 17 (.s 16)), .i (.pick 18 (.s 13) (qb true) (.s 17))]) (.cond (.s 18) (.seq (.ops [.i (.mov 6 (qi 1))]) .ret) .skip)) (.seq (.seq (.ops [ql 19 5 5 5 true,qk 21 136 19,qn 21 20, .i (.mov 22 (qi 0))]) (.block 0 (.loop [30,29,28,27,26,25,24,23,8] (.seq (.ops [qd 23 .lss 22 21]) (.seq (.cond (.s 23) .skip (.exit 0)) (.seq (.block 1 (.seq (.ops [.i (.iad 24 (.s 20) (.s 22) 5), .i (.ldh 25 (.s 24) 5 true), .i (.lal 8 [.int .i64 0, .int .i64 0, .nils, .int .i64 0, .nils]),qs 8 8 25 5]) (.seq (.ops [ql 26 4 4 1 true,ql 27 8 8 5 true, .i (.call 29 137 false [(.s 26),(.s 27)]), .i (.not 29 (.s 28))]) (.cond (.s 29) (.seq (.ops [.i (.mov 6 (qi 2))]) .ret) .skip)))) (.ops [.i (.bin 30 .add (.s 22) (qi 1)),qm 22 30]))))))) (.seq (.seq (.ops [ql 31 4 4 1 true,qf 32 5 3,ql 33 5 32 1 false, .i (.call 35 138 false [(.s 31),(.s 33)]), .i (.not 35 (.s 34))]) (.cond (.s 35) (.seq (.ops [.i (.mov 6 (qi 3))]) .ret) .skip)) (.seq (.ops [.i (.mov 6 (qi 0))]) .ret)))))⟩
theorem uy:cd mM=some nf:=by kernel_rfl
theorem fe (l:bA) (t:Table) (q:Qc) (ht:t.wf) (hw:q.wc):VC cd mM (bf [(true,l.c),(true,t.c),(true,q.c)]) (fun rs _=>rs=it (eM l t q)):=by
 have w5:=hw.1.2.2.2.2
 simp only[Sz]at w5
 refine aa uy rfl ?_
 simp(disch:=omega) [nf,bA.c,Table.c,Qc.c,VY]
 refine bp (zV l t ht) ?_ (ha:=by first|rfl|(simp[bA.c,Table.c,VY] <;>repeat' constructor))
 simp(disch:=omega) [VY]
 refine av (fun h1=> ?_) (fun h1=> ?_)
 case refine_2=>simp(disch:=omega) [h1,eM,VY]
 simp(disch:=omega) [h1,VY]
 refine bp (oH l q hw.1) ?_ (ha:=by first|rfl|(simp[bA.c,Qc.c,VY] <;>repeat' constructor))
 simp(disch:=omega) [h1,VY]
 refine av (fun h2=> ?_) (fun h2=> ?_)
 case refine_2=>simp(disch:=omega) [h1,h2,eM,VY]
 simp(disch:=omega) [h1,h2,VY]
 refine bp (qZ q hw (vo h2)) ?_ (ha:=by first|rfl|(simp[Qc.c,VY] <;>repeat' constructor))
 simp(disch:=omega) [lP,cw,VY]
 refine bo (σ:=Nat) (f1:=_) (es0:=_) (by simp(disch:=omega) [VY];rfl) (by simp(disch:=omega) [VY];rfl) (fun i=> [(22, .val false [.int .i64 (i:Int)])]) (fun _=> []) (fun i g=>g+i=q.tags.length∧∀v∈(cc q q.tags.length).take i,dh t v=true) 0 q.tags.length (by simp(disch:=omega) [VY]) (by simp(disch:=omega) [VY]) ⟨by omega,by simp⟩ ?_
 rintro i n g ⟨hg,hd⟩ P hP
 simp(disch:=omega) [VY]
 refine ab (fun h3=> ?_) (fun h3=> ?_)
 ·have hi:i < (cc q q.tags.length).length:=by rw[cw];omega
  simp(disch:=omega) [lP,cw,Bb hi,eC.c,VY]
  refine bp (qg t (cc q q.tags.length)[i] ht (vz hw _ _ (List.getElem_mem hi))) ?_ (ha:=by first|rfl|(simp[Table.c,eC.c,VY] <;>repeat' constructor))
  simp(disch:=omega) [VY]
  refine av (fun h4=> ?_) (fun h4=> ?_)
  ·simp(disch:=omega) [h4,VY]
   exact hP (i+1) (g - 1) _ _ (by omega) ⟨by omega,aV hd hi h4⟩ (by simp(disch:=omega) [VY]) (by simp(disch:=omega) [VY])
  ·simp(disch:=omega) [h4,eM,h1,h2,Cm hi h4,VY]
 ·have hall:(cc q q.tags.length).all (dh t)=true:=CY (by rw[cw];rw[show i=q.tags.length by omega]at hd;exact hd)
  simp(disch:=omega) [VY]
  refine bp (pI t q.bits ht hw.1.2.2.2.1) ?_ (ha:=by first|rfl|(simp[Table.c,VY] <;>repeat' constructor))
  simp(disch:=omega) [VY]
  refine av (fun h5=> ?_) (fun h5=> ?_) <;>simp(disch:=omega) [h5,eM,h1,h2,hall,VY]
abbrev m8:Nat:=224
def mH:AF:=⟨3,6,[.tmp 6],(.seq (.ops [.i (.lbox 3 (.s 0)), .i (.lbox 4 (.s 1)), .i (.lbox 5 (.s 2)), .i (.mov 6 (qi 0))]) (.seq (.seq (.ops [ql 9 3 3 5 true,ql 10 4 4 1 true, .i (.call 12 117 false [(.s 9),(.s 10)]), .i (.not 12 (.s 11)),qm 13 12, .g 13 false 15 (.ldl 14 3 (.s 3) 5 true), .g 13 false 16 (.ldl 15 5 (.s 5) 5 true), .g 13 false 17 (.call 17 203 false [(.s 14),(.s 15)]), .g 13 false 18 (.not 17 (.s 16)), .i (.pick 18 (.s 13) (qb true) (.s 17))]) (.cond (.s 18) (.seq (.ops [.i (.mov 6 (qi 1))]) .ret) .skip)) (.seq (.seq (.ops [ql 19 5 5 5 true,qk 21 270 19,qn 21 20, .i (.mov 22 (qi 0))]) (.block 0 (.loop [30,29,28,27,26,25,24,23,8] (.seq (.ops [qd 23 .lss 22 21]) (.seq (.cond (.s 23) .skip (.exit 0)) (.seq (.block 1 (.seq (.ops [.i (.iad 24 (.s 20) (.s 22) 5), .i (.ldh 25 (.s 24) 5 true), .i (.lal 8 [.int .i64 0, .int .i64 0, .nils, .int .i64 0, .nils]),qs 8 8 25 5]) (.seq (.ops [ql 26 4 4 1 true,ql 27 8 8 5 true, .i (.call 29 271 false [(.s 26),(.s 27)]), .i (.not 29 (.s 28))]) (.cond (.s 29) (.seq (.ops [.i (.mov 6 (qi 2))]) .ret) .skip)))) (.ops [.i (.bin 30 .add (.s 22) (qi 1)),qm 22 30]))))))) (.seq (.seq (.ops [ql 31 4 4 1 true,qf 32 5 3,ql 33 5 32 1 false, .i (.call 35 272 false [(.s 31),(.s 33)]), .i (.not 35 (.s 34))]) (.cond (.s 35) (.seq (.ops [.i (.mov 6 (qi 3))]) .ret) .skip)) (.seq (.ops [.i (.mov 6 (qi 0))]) .ret)))))⟩
theorem ur:cd m8=some mH:=by kernel_rfl
theorem ug (l:bA) (t:Table) (q:Qc) (ht:t.wf) (hw:q.wc):VC cd m8 (bf [(true,l.c),(true,t.c),(true,q.c)]) (fun rs _=>rs=it (eM l t q)):=by
 have w5:=hw.1.2.2.2.2
 simp only[Sz]at w5
 refine aa ur rfl ?_
 simp(disch:=omega) [mH,bA.c,Table.c,Qc.c,VY]
 refine bp (zH l t ht) ?_ (ha:=by first|rfl|(simp[bA.c,Table.c,VY] <;>repeat' constructor))
 simp(disch:=omega) [VY]
 refine av (fun h1=> ?_) (fun h1=> ?_)
 case refine_2=>simp(disch:=omega) [h1,eM,VY]
 simp(disch:=omega) [h1,VY]
 refine bp (iK l q hw.1) ?_ (ha:=by first|rfl|(simp[bA.c,Qc.c,VY] <;>repeat' constructor))
 simp(disch:=omega) [h1,VY]
 refine av (fun h2=> ?_) (fun h2=> ?_)
 case refine_2=>simp(disch:=omega) [h1,h2,eM,VY]
 simp(disch:=omega) [h1,h2,VY]
 refine bp (rA q hw (vo h2)) ?_ (ha:=by first|rfl|(simp[Qc.c,VY] <;>repeat' constructor))
 simp(disch:=omega) [lP,cw,VY]
 refine bo (σ:=Nat) (f1:=_) (es0:=_) (by simp(disch:=omega) [VY];rfl) (by simp(disch:=omega) [VY];rfl) (fun i=> [(22, .val false [.int .i64 (i:Int)])]) (fun _=> []) (fun i g=>g+i=q.tags.length∧∀v∈(cc q q.tags.length).take i,dh t v=true) 0 q.tags.length (by simp(disch:=omega) [VY]) (by simp(disch:=omega) [VY]) ⟨by omega,by simp⟩ ?_
 rintro i n g ⟨hg,hd⟩ P hP
 simp(disch:=omega) [VY]
 refine ab (fun h3=> ?_) (fun h3=> ?_)
 ·have hi:i < (cc q q.tags.length).length:=by rw[cw];omega
  simp(disch:=omega) [lP,cw,Bb hi,eC.c,VY]
  refine bp (pD t (cc q q.tags.length)[i] ht (vz hw _ _ (List.getElem_mem hi))) ?_ (ha:=by first|rfl|(simp[Table.c,eC.c,VY] <;>repeat' constructor))
  simp(disch:=omega) [VY]
  refine av (fun h4=> ?_) (fun h4=> ?_)
  ·simp(disch:=omega) [h4,VY]
   exact hP (i+1) (g - 1) _ _ (by omega) ⟨by omega,aV hd hi h4⟩ (by simp(disch:=omega) [VY]) (by simp(disch:=omega) [VY])
  ·simp(disch:=omega) [h4,eM,h1,h2,Cm hi h4,VY]
 ·have hall:(cc q q.tags.length).all (dh t)=true:=CY (by rw[cw];rw[show i=q.tags.length by omega]at hd;exact hd)
  simp(disch:=omega) [VY]
  refine bp (pj t q.bits ht hw.1.2.2.2.1) ?_ (ha:=by first|rfl|(simp[Table.c,VY] <;>repeat' constructor))
  simp(disch:=omega) [VY]
  refine av (fun h5=> ?_) (fun h5=> ?_) <;>simp(disch:=omega) [h5,eM,h1,h2,hall,VY]
def kids (f:ao) (a:Head):List Head:=f.heads.filter (fO f.l a)
theorem BC {f:ao} {a:Head} {i:Nat} (hi:i < f.heads.length):(f.heads.take (i+1)).filter (fO f.l a)=(f.heads.take i).filter (fO f.l a)++(if fO f.l a f.heads[i]then [f.heads[i]]else []):=by
 rw[List.take_succ_eq_append_getElem hi,List.filter_append]
 cases h:fO f.l a f.heads[i] <;>simp[h]
abbrev f8:Nat:=147
def fS:AF:=⟨2,5,[.tmp 4],(.seq (.ops [.i (.lbox 2 (.s 0)), .i (.lbox 3 (.s 1)), .i (.mov 4 (.c (.val false [.nils])))]) (.seq (.ops [.i (.bse 8),qm 5 8]) (.seq (.seq (.ops [qf 9 2 5,ql 10 2 9 1 false,qn 11 10, .i (.mov 12 (qi 0))]) (.block 0 (.loop [25,24,23,22,21,20,19,18,17,16,15,14,13,7] (.seq (.ops [qd 13 .lss 12 11]) (.seq (.cond (.s 13) .skip (.exit 0)) (.seq (.block 1 (.seq (.ops [.i (.iad 14 (.s 10) (.s 12) 10), .i (.ldh 15 (.s 14) 10 true), .i (.lal 7 qz),qs 7 7 15 10]) (.seq (.ops [qf 16 2 0,ql 17 2 16 5 true,ql 18 3 3 10 true,ql 19 7 7 10 true, .i (.call 21 61 false [(.s 17),(.s 18),(.s 19)])]) (.cond (.s 20) (.ops [qm 21 5,ql 22 7 7 10 true, .i (.lsl 23 10 1 qz [(0,10,(.s 22))]), .i (.app 24 40 10 160 (.s 21) (.s 23)),qm 5 24]) .skip)))) (.ops [.i (.bin 25 .add (.s 12) (qi 1)),qm 12 25]))))))) (.seq (.ops [qm 26 5,qm 4 26]) .ret))))⟩
theorem oJ:cd f8=some fS:=by kernel_rfl
theorem gj (f:ao) (a:Head) (hw:f.wc) (ha:a.wf):VC cd f8 (bf [(true,f.c),(true,a.c)]) (fun rs _=>rs= [(false,[.o false (some (40,10)) (iO (kids f a))])]):=by
 have w1:=hw.1
 have w2:=hw.2
 simp only[Sz]at w1
 refine aa oJ rfl ?_
 simp(disch:=omega) [fS,ao.c,bA.c,Head.c,bb,VY]
 refine bo (σ:=Nat×Nat) (f1:=_) (es0:=_) (by simp(disch:=omega) [VY];rfl) (by simp(disch:=omega) [VY];rfl) (fun p=> [(12, .val false [.int .i64 (p.1:Int)]),(5, .val false [.ow 8 p.2])]) (fun p=> [(8, .sl p.2 true false (some (40,10)) (iO ((f.heads.take p.1).filter (fO f.l a))))]) (fun p g=>g+p.1=f.heads.length) (0,_) f.heads.length (by simp(disch:=omega) [VY];rfl) (by simp(disch:=omega) [iO,VY]) (by omega) ?_
 rintro⟨i,v⟩ n g hg P hP
 simp only at hg
 simp(disch:=omega) [VY]
 refine ab (fun h1=> ?_) (fun h1=> ?_)
 ·have hi:i < f.heads.length:=by omega
  have hn:=BC (a:=a) hi
  simp(disch:=omega) [da hi,Head.c,VY]
  refine bp (uT f.l a f.heads[i] ha (w2 _ (List.getElem_mem hi)).1) ?_ (ha:=by first|rfl|(simp[bA.c,Head.c,VY] <;>repeat' constructor))
  simp(disch:=omega) [VY]
  refine av (fun h2=> ?_) (fun h2=> ?_)
  ·rw[h2]at hn
   simp only[if_true]at hn
   have hk:(iO ((f.heads.take i).filter (fO f.l a))).length≤i:=by
    rw[bb]
    have:=List.length_filter_le (fO f.l a) (f.heads.take i)
    rw[List.length_take]at this
    omega
   have he:=v9 ((f.heads.take i).filter (fO f.l a)) f.heads[i]
   rw[←hn]at he
   simp only[Head.c]at he
   simp(disch:=omega) [h2,he,VY]
   exact hP (i+1,_) (g - 1) _ _ (by omega) (by simp only;omega) (by simp(disch:=omega) [VY];rfl) (by simp(disch:=omega) [VY])
  ·rw[h2]at hn
   simp only[Bool.false_eq_true,if_false,List.append_nil]at hn
   simp(disch:=omega) [h2,VY]
   exact hP (i+1,_) (g - 1) _ _ (by omega) (by simp only;omega) (by simp(disch:=omega) [VY];rfl) (by simp(disch:=omega) [hn,VY])
 ·have hi:i=f.heads.length:=by omega
  subst hi
  simp(disch:=omega) [kids,List.take_length,VY]
def Am (f:ao) (t:Table) (h:Head):Prop:=eM f.l t h.qc=0
def over (a:Head):Int:=IntKind.i64.wrap (a.view+1)
def S3 (f:ao) (t:Table) (b c d:Head):Prop:=Am f t b∧Am f t c∧Am f t d
def S2 (f:ao) (t:Table) (a b c:Head):Prop:=b.view=over a∧c.view=over b∧∃d∈kids f c,S3 f t b c d
def S1 (f:ao) (t:Table) (a b:Head):Prop:=∃c∈kids f b,S2 f t a b c
def FI (f:ao) (t:Table) (a:Head):Prop:=∃b∈kids f a,S1 f t a b
noncomputable def settled (f:ao) (t:Table) (a:Head):Bool:= @decide (FI f t a) (Classical.propDecidable _)
theorem vE {f:ao} {t:Table} {a:Head} (h:FI f t a):settled f t a=true:=by unfold settled;exact @decide_eq_true _ (Classical.propDecidable _) h
theorem u7 {f:ao} {t:Table} {a:Head} (h:¬FI f t a):settled f t a=false:=by unfold settled;exact @decide_eq_false _ (Classical.propDecidable _) h
theorem lT {α:Type} {p:α→Prop} {l:List α} (h:∀x∈l.take l.length,¬p x):¬∃x∈l,p x:=fun⟨x,hx,hp⟩=>by
 rw[List.take_length]at h
 exact h x hx hp
theorem D2 {f:ao} {a b:Head} (h:b∈kids f a):b∈f.heads:=(List.mem_filter.1 h).1
theorem DM (f:ao) (a:Head):(kids f a).length≤f.heads.length:=List.length_filter_le _ _
abbrev ij:Nat:=72
def gH:AF:=⟨3,7,[.tmp 6],(.seq (.ops [.i (.lbox 3 (.s 0)), .i (.lbox 4 (.s 1)), .i (.lbox 5 (.s 2)), .i (.mov 6 (qb false))]) (.seq (.seq (.ops [ql 13 3 3 6 true,ql 14 5 5 10 true, .i (.call 16 147 false [(.s 13),(.s 14)]),qn 16 15, .i (.mov 17 (qi 0))]) (.block 0 (.loop [78,77,76,75,74,73,72,71,70,69,68,67,66,65,64,63,62,61,60,59,58,57,56,55,54,53,52,51,50,49,48,47,46,45,44,43,42,41,40,39,38,37,36,35,34,33,32,31,30,29,28,27,26,25,24,23,22,21,20,19,18,12,10,8] (.seq (.ops [qd 18 .lss 17 16]) (.seq (.cond (.s 18) .skip (.exit 0)) (.seq (.block 1 (.seq (.ops [.i (.iad 19 (.s 15) (.s 17) 10), .i (.ldh 20 (.s 19) 10 true), .i (.lal 8 qz),qs 8 8 20 10]) (.seq (.ops [ql 21 3 3 6 true,ql 22 8 8 10 true, .i (.call 24 147 false [(.s 21),(.s 22)]),qn 24 23, .i (.mov 25 (qi 0))]) (.block 2 (.loop [77,76,75,74,73,72,71,70,69,68,67,66,65,64,63,62,61,60,59,58,57,56,55,54,53,52,51,50,49,48,47,46,45,44,43,42,41,40,39,38,37,36,35,34,33,32,31,30,29,28,27,26,12,10] (.seq (.ops [qd 26 .lss 25 24]) (.seq (.cond (.s 26) .skip (.exit 2)) (.seq (.block 3 (.seq (.ops [.i (.iad 27 (.s 23) (.s 25) 10), .i (.ldh 28 (.s 27) 10 true), .i (.lal 10 qz),qs 10 10 28 10]) (.seq (.seq (.ops [qf 29 8 0,ql 30 8 29 1 false,qf 31 5 0,ql 32 5 31 1 false, .i (.bin 33 .add (.s 32) (qi 1)),qd 34 .neq 30 33,qm 35 34, .g 35 false 37 (.fad 36 (.s 10) 0), .g 35 false 38 (.ldl 37 10 (.s 36) 1 false), .g 35 false 39 (.fad 38 (.s 8) 0), .g 35 false 40 (.ldl 39 8 (.s 38) 1 false), .g 35 false 41 (.bin 40 .add (.s 39) (qi 1)), .g 35 false 42 (.bin 41 .neq (.s 37) (.s 40)), .i (.pick 42 (.s 35) (qb true) (.s 41))]) (.cond (.s 42) (.exit 3) .skip)) (.seq (.ops [ql 43 3 3 6 true,ql 44 10 10 10 true, .i (.call 46 147 false [(.s 43),(.s 44)]),qn 46 45, .i (.mov 47 (qi 0))]) (.block 4 (.loop [76,75,74,73,72,71,70,69,68,67,66,65,64,63,62,61,60,59,58,57,56,55,54,53,52,51,50,49,48,12] (.seq (.ops [qd 48 .lss 47 46]) (.seq (.cond (.s 48) .skip (.exit 4)) (.seq (.block 5 (.seq (.ops [.i (.iad 49 (.s 45) (.s 47) 10), .i (.ldh 50 (.s 49) 10 true), .i (.lal 12 qz),qs 12 12 50 10]) (.seq (.ops [qf 51 3 0,ql 52 3 51 5 true,ql 53 4 4 1 true,qf 54 8 5,ql 55 8 54 5 true, .i (.call 57 58 false [(.s 52),(.s 53),(.s 55)]), .i (.bin 57 .eql (.s 56) (qi 0)),qm 58 57, .g 58 true 60 (.fad 59 (.s 3) 0), .g 58 true 61 (.ldl 60 3 (.s 59) 5 true), .g 58 true 62 (.ldl 61 4 (.s 4) 1 true), .g 58 true 63 (.fad 62 (.s 10) 5), .g 58 true 64 (.ldl 63 10 (.s 62) 5 true), .g 58 true 65 (.call 65 58 false [(.s 60),(.s 61),(.s 63)]), .g 58 true 66 (.bin 65 .eql (.s 64) (qi 0)), .i (.pick 66 (.s 58) (.s 65) (qb false)),qm 67 66, .g 67 true 69 (.fad 68 (.s 3) 0), .g 67 true 70 (.ldl 69 3 (.s 68) 5 true), .g 67 true 71 (.ldl 70 4 (.s 4) 1 true), .g 67 true 72 (.fad 71 (.s 12) 5), .g 67 true 73 (.ldl 72 12 (.s 71) 5 true), .g 67 true 74 (.call 74 58 false [(.s 69),(.s 70),(.s 72)]), .g 67 true 75 (.bin 74 .eql (.s 73) (qi 0)), .i (.pick 75 (.s 67) (.s 74) (qb false))]) (.cond (.s 75) (.seq (.ops [.i (.mov 6 (qb true))]) .ret) .skip)))) (.ops [.i (.bin 76 .add (.s 47) (qi 1)),qm 47 76])))))))))) (.ops [.i (.bin 77 .add (.s 25) (qi 1)),qm 25 77]))))))))) (.ops [.i (.bin 78 .add (.s 17) (qi 1)),qm 17 78]))))))) (.seq (.ops [.i (.mov 6 (qb false))]) .ret)))⟩
theorem pN:cd ij=some gH:=by kernel_rfl
theorem wQ (f:ao) (t:Table) (a:Head) (hw:f.wc) (ht:t.wf) (ha:a.wf):VC cd ij (bf [(true,f.c),(true,t.c),(true,a.c)]) (fun rs _=>rs=bl (settled f t a)):=by
 have w1:=hw.1
 have w2:=hw.2
 have wk:∀x y,y∈kids f x→y.wc:=fun x y h=>w2 y (D2 h)
 have wl:∀x,(kids f x).length≤1073741824:=fun x=>by have:=DM f x;simp only[Sz]at w1;omega
 have l1:=wl a
 refine aa pN rfl ?_
 simp(disch:=omega) [gH,ao.c,bA.c,Table.c,Head.c,VY]
 refine I6 (gj f a hw ha) ?_ (ha:=by first|rfl|(simp[ao.c,bA.c,Head.c,VY] <;>repeat' constructor))
 simp(disch:=omega) [bb,VY]
 refine bo (σ:=Nat) (f1:=_) (es0:=_) (by simp(disch:=omega) [VY];rfl) (by simp(disch:=omega) [VY];rfl) (fun i=> [(17, .val false [.int .i64 (i:Int)])]) (fun _=> []) (fun i g=>g+i=(kids f a).length∧∀b∈(kids f a).take i,¬S1 f t a b) 0 (kids f a).length (by simp(disch:=omega) [VY]) (by simp(disch:=omega) [VY]) ⟨by omega,by simp⟩ ?_
 rintro i n g ⟨hg,hd⟩ P hP
 simp(disch:=omega) [VY]
 refine ab (fun h1=> ?_) (fun h1=> ?_)
 case refine_2=>
  have hi:i=(kids f a).length:=by omega
  subst hi
  have:=u7 (lT hd)
  simp(disch:=omega) [this,VY]
 have hi:i < (kids f a).length:=by omega
 have mb:=List.getElem_mem hi
 generalize hb:(kids f a)[i]=b at mb
 have wb:=wk _ _ mb
 have l2:=wl b
 simp(disch:=omega) [bb,da hi,hb,Head.c,VY]
 refine I6 (gj f b hw wb.1) ?_ (ha:=by first|rfl|(simp[ao.c,bA.c,Head.c,VY] <;>repeat' constructor))
 simp(disch:=omega) [bb,VY]
 refine bo (σ:=Nat) (f1:=_) (es0:=_) (by simp(disch:=omega) [VY];rfl) (by simp(disch:=omega) [VY];rfl) (fun j=> [(25, .val false [.int .i64 (j:Int)])]) (fun _=> []) (fun j g=>g+j=(kids f b).length∧∀c∈(kids f b).take j,¬S2 f t a b c) 0 (kids f b).length (by simp(disch:=omega) [VY]) (by simp(disch:=omega) [VY]) ⟨by omega,by simp⟩ ?_
 rintro j n2 g2 ⟨hg2,hd2⟩ P2 hP2
 simp(disch:=omega) [VY]
 refine ab (fun h2=> ?_) (fun h2=> ?_)
 case refine_2=>
  have hj:j=(kids f b).length:=by omega
  subst hj
  have:=lT hd2
  simp(disch:=omega) [VY]
  exact hP (i+1) (g - 1) _ _ (by omega) ⟨by omega,aV (p:=fun b=>¬S1 f t a b) hd hi (by rw[hb];exact this)⟩ (by simp(disch:=omega) [VY]) (by simp(disch:=omega) [VY])
 have hj:j < (kids f b).length:=by omega
 have mc:=List.getElem_mem hj
 generalize hc:(kids f b)[j]=c at mc
 have wc:=wk _ _ mc
 have l3:=wl c
 simp(disch:=omega) [bb,da hj,hc,Head.c,VY]
 refine ab (fun h3=> ?_) (fun h3=> ?_)
 case refine_2=>
  have hn:¬S2 f t a b c:=fun h=>h3 h.1
  simp(disch:=omega) [h3,VY]
  exact hP2 (j+1) (g2 - 1) _ _ (by omega) ⟨by omega,aV (p:=fun c=>¬S2 f t a b c) hd2 hj (by rw[hc];exact hn)⟩ (by simp(disch:=omega) [VY]) (by simp(disch:=omega) [VY])
 simp(disch:=omega) [h3,VY]
 refine ab (fun h4=> ?_) (fun h4=> ?_)
 case refine_2=>
  have hn:¬S2 f t a b c:=fun h=>h4 (by rw[show c.view=over b from h.2.1,over,show b.view=over a from h.1,over])
  simp(disch:=omega) [h3,h4,VY]
  exact hP2 (j+1) (g2 - 1) _ _ (by omega) ⟨by omega,aV (p:=fun c=>¬S2 f t a b c) hd2 hj (by rw[hc];exact hn)⟩ (by simp(disch:=omega) [h3,VY]) (by simp(disch:=omega) [VY])
 have hv:b.view=over a:=h3
 have hv2:c.view=over b:=by rw[over,hv,over];exact h4
 simp(disch:=omega) [h3,h4,VY]
 refine I6 (gj f c hw wc.1) ?_ (ha:=by first|rfl|(simp[ao.c,bA.c,Head.c,h4,VY] <;>repeat' constructor))
 simp(disch:=omega) [bb,VY]
 refine bo (σ:=Nat) (f1:=_) (es0:=_) (by simp(disch:=omega) [VY];rfl) (by simp(disch:=omega) [VY];rfl) (fun k=> [(47, .val false [.int .i64 (k:Int)])]) (fun _=> []) (fun k g=>g+k=(kids f c).length∧∀d∈(kids f c).take k,¬S3 f t b c d) 0 (kids f c).length (by simp(disch:=omega) [VY]) (by simp(disch:=omega) [VY]) ⟨by omega,by simp⟩ ?_
 rintro k n3 g3 ⟨hg3,hd3⟩ P3 hP3
 simp(disch:=omega) [VY]
 refine ab (fun h5=> ?_) (fun h5=> ?_)
 case refine_2=>
  have hk:k=(kids f c).length:=by omega
  subst hk
  have hn:¬S2 f t a b c:=fun h=>lT hd3 h.2.2
  simp(disch:=omega) [VY]
  exact hP2 (j+1) (g2 - 1) _ _ (by omega) ⟨by omega,aV (p:=fun c=>¬S2 f t a b c) hd2 hj (by rw[hc];exact hn)⟩ (by simp(disch:=omega) [h3,VY]) (by simp(disch:=omega) [VY])
 have hk:k < (kids f c).length:=by omega
 have md:=List.getElem_mem hk
 generalize hdd:(kids f c)[k]=d at md
 have wd:=wk _ _ md
 simp(disch:=omega) [bb,da hk,hdd,Head.c,VY]
 refine bp (fe f.l t b.qc ht ⟨wb.1.2.2.2.2.2,wb.2⟩) ?_ (ha:=by first|rfl|(simp[bA.c,Table.c,Qc.c,VY] <;>repeat' constructor))
 simp(disch:=omega) [VY]
 refine ab (fun q1=> ?_) (fun q1=> ?_)
 case refine_2=>
  have hn:¬S3 f t b c d:=fun h=>q1 h.1
  simp(disch:=omega) [q1,VY]
  exact hP3 (k+1) (g3 - 1) _ _ (by omega) ⟨by omega,aV (p:=fun d=>¬S3 f t b c d) hd3 hk (by rw[hdd];exact hn)⟩ (by simp(disch:=omega) [VY]) (by simp(disch:=omega) [VY])
 simp(disch:=omega) [q1,VY]
 refine bp (fe f.l t c.qc ht ⟨wc.1.2.2.2.2.2,wc.2⟩) ?_ (ha:=by first|rfl|(simp[bA.c,Table.c,Qc.c,VY] <;>repeat' constructor))
 simp(disch:=omega) [q1,VY]
 refine ab (fun q2=> ?_) (fun q2=> ?_)
 case refine_2=>
  have hn:¬S3 f t b c d:=fun h=>q2 h.2.1
  simp(disch:=omega) [q1,q2,VY]
  exact hP3 (k+1) (g3 - 1) _ _ (by omega) ⟨by omega,aV (p:=fun d=>¬S3 f t b c d) hd3 hk (by rw[hdd];exact hn)⟩ (by simp(disch:=omega) [h3,VY]) (by simp(disch:=omega) [VY])
 simp(disch:=omega) [q1,q2,VY]
 refine bp (fe f.l t d.qc ht ⟨wd.1.2.2.2.2.2,wd.2⟩) ?_ (ha:=by first|rfl|(simp[bA.c,Table.c,Qc.c,VY] <;>repeat' constructor))
 simp(disch:=omega) [q1,q2,VY]
 refine ab (fun q3=> ?_) (fun q3=> ?_)
 case refine_2=>
  have hn:¬S3 f t b c d:=fun h=>q3 h.2.2
  simp(disch:=omega) [q1,q2,q3,VY]
  exact hP3 (k+1) (g3 - 1) _ _ (by omega) ⟨by omega,aV (p:=fun d=>¬S3 f t b c d) hd3 hk (by rw[hdd];exact hn)⟩ (by simp(disch:=omega) [h3,VY]) (by simp(disch:=omega) [VY])
 have:=vE (f:=f) (t:=t) (a:=a) ⟨b,mb,c,mc,hv,hv2,d,md,q1,q2,q3⟩
 simp(disch:=omega) [q1,q2,q3,this,VY]
def nx (f:ao) (t:Table) (a b:Head):Bool:=fO f.l a b && decide (eM f.l t b.qc=0)
abbrev j9:Nat:=144
def lr:AF:=⟨4,5,[.tmp 8],(.seq (.ops [.i (.lbox 4 (.s 0)), .i (.lbox 5 (.s 1)), .i (.lbox 6 (.s 2)), .i (.lbox 7 (.s 3)), .i (.mov 8 (qb false))]) (.seq (.ops [qf 9 4 0,ql 10 4 9 5 true,ql 11 6 6 10 true,ql 12 7 7 10 true, .i (.call 14 122 false [(.s 10),(.s 11),(.s 12)]),qm 14 13, .g 14 true 16 (.fad 15 (.s 4) 0), .g 14 true 17 (.ldl 16 4 (.s 15) 5 true), .g 14 true 18 (.ldl 17 5 (.s 5) 1 true), .g 14 true 19 (.fad 18 (.s 7) 5), .g 14 true 20 (.ldl 19 7 (.s 18) 5 true), .g 14 true 21 (.call 21 224 false [(.s 16),(.s 17),(.s 19)]), .g 14 true 22 (.bin 21 .eql (.s 20) (qi 0)), .i (.pick 22 (.s 14) (.s 21) (qb false)),qm 8 22]) .ret))⟩
theorem rZ:cd j9=some lr:=by kernel_rfl
theorem nv (f:ao) (t:Table) (a b:Head) (ht:t.wf) (ha:a.wc) (hb:b.wc):VC cd j9 (bf [(true,f.c),(true,t.c),(true,a.c),(true,b.c)]) (fun rs _=>rs=bl (nx f t a b)):=by
 refine aa rZ rfl ?_
 simp(disch:=omega) [lr,ao.c,bA.c,Table.c,Head.c,VY]
 refine bp (uO f.l a b ha.1 hb.1) ?_ (ha:=by first|rfl|(simp[bA.c,Head.c,VY] <;>repeat' constructor))
 simp(disch:=omega) [VY]
 refine av (fun h1=> ?_) (fun h1=> ?_) <;>simp(disch:=omega) [h1,nx,VY]
 refine bp (ug f.l t b.qc ht ⟨hb.1.2.2.2.2.2,hb.2⟩) ?_ (ha:=by first|rfl|(simp[bA.c,Table.c,Qc.c,VY] <;>repeat' constructor))
 simp(disch:=omega) [h1,nx,VY]
noncomputable def cp (f:ao) (t:Table) (l:List Head):List Head:=l.filter (settled f t)
theorem mQ {f:ao} {t:Table} {l:List Head} {i:Nat} (hi:i < l.length):cp f t (l.take (i+1))=cp f t (l.take i)++(if settled f t l[i]then [l[i]]else []):=by
 unfold cp
 rw[List.take_succ_eq_append_getElem hi,List.filter_append]
 cases h:settled f t l[i] <;>simp[h]
theorem iN (f:ao) (t:Table) (l:List Head):(cp f t l).length≤l.length:=List.length_filter_le _ _
noncomputable def aH (f:ao) (t:Table):List Head:=if cC f then cp f t f.heads else []
abbrev fh:Nat:=21
def lA:AF:=⟨2,5,[.tmp 4],(.seq (.ops [.i (.lbox 2 (.s 0)), .i (.lbox 3 (.s 1)), .i (.mov 4 (.c (.val false [.nils])))]) (.seq (.seq (.ops [ql 8 2 2 6 true,qk 10 71 8, .i (.not 10 (.s 9))]) (.cond (.s 10) (.seq (.ops [.i (.mov 4 (.c (.val false [.nils])))]) .ret) .skip)) (.seq (.ops [.i (.bse 11),qm 5 11]) (.seq (.seq (.ops [qf 12 2 5,ql 13 2 12 1 false,qn 14 13, .i (.mov 15 (qi 0))]) (.block 0 (.loop [28,27,26,25,24,23,22,21,20,19,18,17,16,7] (.seq (.ops [qd 16 .lss 15 14]) (.seq (.cond (.s 16) .skip (.exit 0)) (.seq (.block 1 (.seq (.ops [.i (.iad 17 (.s 13) (.s 15) 10), .i (.ldh 18 (.s 17) 10 true), .i (.lal 7 qz),qs 7 7 18 10]) (.seq (.ops [ql 19 2 2 6 true,ql 20 3 3 1 true,ql 21 7 7 10 true, .i (.call 23 72 false [(.s 19),(.s 20),(.s 21)])]) (.cond (.s 22) (.ops [qm 23 5,ql 24 7 7 10 true,qk 26 54 24, .i (.lsl 26 10 1 qz [(0,10,(.s 25))]), .i (.app 27 40 10 160 (.s 23) (.s 26)),qm 5 27]) .skip)))) (.ops [.i (.bin 28 .add (.s 15) (qi 1)),qm 15 28]))))))) (.seq (.ops [qm 29 5,qm 4 29]) .ret)))))⟩
theorem sg:cd fh=some lA:=by kernel_rfl
theorem rC (f:ao) (t:Table) (hw:f.wc) (ht:t.wf):VC cd fh (bf [(true,f.c),(true,t.c)]) (fun rs _=>rs=if cC f then [(false,[.o true (some (40,10)) (iO (aH f t))])]else [(false,[.p .nils])]):=by
 have w1:=hw.1
 have w2:=hw.2
 simp only[Sz]at w1
 refine aa sg rfl ?_
 simp(disch:=omega) [lA,ao.c,bA.c,Table.c,VY]
 refine bp (oY f hw.wf) ?_ (ha:=by first|rfl|(simp[ao.c,bA.c,VY] <;>repeat' constructor))
 simp(disch:=omega) [VY]
 refine av (fun h0=> ?_) (fun h0=> ?_)
 case refine_2=>simp(disch:=omega) [h0,VY]
 simp(disch:=omega) [h0,bb,VY]
 refine bo (σ:=Nat×Nat) (f1:=_) (es0:=_) (by simp(disch:=omega) [VY];rfl) (by simp(disch:=omega) [VY];rfl) (fun p=> [(15, .val false [.int .i64 (p.1:Int)]),(5, .val false [.ow 11 p.2])]) (fun p=> [(11, .sl p.2 true true (some (40,10)) (iO (cp f t (f.heads.take p.1))))]) (fun p g=>g+p.1=f.heads.length) (0,_) f.heads.length (by simp(disch:=omega) [VY];rfl) (by simp(disch:=omega) [iO,cp,VY]) (by omega) ?_
 rintro⟨i,v⟩ n g hg P hP
 simp only at hg
 simp(disch:=omega) [VY]
 refine ab (fun h1=> ?_) (fun h1=> ?_)
 ·have hi:i < f.heads.length:=by omega
  have wi:=w2 _ (List.getElem_mem hi)
  have hn:=mQ (f:=f) (t:=t) hi
  simp(disch:=omega) [da hi,Head.c,VY]
  refine bp (wQ f t f.heads[i] hw ht wi.1) ?_ (ha:=by first|rfl|(simp[ao.c,bA.c,Table.c,Head.c,VY] <;>repeat' constructor))
  simp(disch:=omega) [VY]
  refine av (fun h2=> ?_) (fun h2=> ?_)
  ·rw[h2]at hn
   simp only[if_true]at hn
   have hk:(iO (cp f t (f.heads.take i))).length≤i:=by
    rw[bb]
    have:=iN f t (f.heads.take i)
    rw[List.length_take]at this
    omega
   have he:=v9 (cp f t (f.heads.take i)) f.heads[i]
   rw[←hn]at he
   simp only[Head.c]at he
   simp(disch:=omega) [h2,VY]
   refine bp (tY f.heads[i] wi) ?_ (ha:=by first|rfl|(simp[Head.c,VY] <;>repeat' constructor))
   simp(disch:=omega) [h2,Head.o,he,VY]
   exact hP (i+1,_) (g - 1) _ _ (by omega) (by simp only;omega) (by simp(disch:=omega) [VY];rfl) (by simp(disch:=omega) [VY])
  ·rw[h2]at hn
   simp only[Bool.false_eq_true,if_false,List.append_nil]at hn
   simp(disch:=omega) [h2,VY]
   exact hP (i+1,_) (g - 1) _ _ (by omega) (by simp only;omega) (by simp(disch:=omega) [VY];rfl) (by simp(disch:=omega) [hn,VY])
 ·have hi:i=f.heads.length:=by omega
  subst hi
  simp(disch:=omega) [aH,h0,List.take_length,VY]
def N1 (f:ao) (t:Table) (a b:Head):Prop:=nx f t a b=true
def T2 (f:ao) (t:Table) (b c:Head):Prop:=c.view=over b∧N1 f t b c∧∃d∈f.heads,N1 f t c d
def T1 (f:ao) (t:Table) (a b:Head):Prop:=b.view=over a∧N1 f t a b∧∃c∈f.heads,T2 f t b c
theorem yH (f:ao) (t:Table) (a:Head):FI f t a↔∃b∈f.heads,T1 f t a b:=by
 constructor
 ·rintro⟨b,hb,c,hc,h1,h2,d,hd,q1,q2,q3⟩
  obtain⟨mb,lb⟩:=List.mem_filter.1 hb
  obtain⟨mc,lc⟩:=List.mem_filter.1 hc
  obtain⟨md,ld⟩:=List.mem_filter.1 hd
  unfold Am at q1 q2 q3
  exact⟨b,mb,h1,by simp[N1,nx,lb,q1],c,mc,h2,by simp[N1,nx,lc,q2],d,md,by simp[N1,nx,ld,q3]⟩
 ·rintro⟨b,mb,h1,n1,c,mc,h2,n2,d,md,n3⟩
  simp only[N1,nx,Bool.and_eq_true,decide_eq_true_eq]at n1 n2 n3
  exact⟨b,List.mem_filter.2 ⟨mb,n1.1⟩,c,List.mem_filter.2 ⟨mc,n2.1⟩,h1,h2,d,List.mem_filter.2 ⟨md,n3.1⟩,n1.2,n2.2,n3.2⟩
abbrev fQ:Nat:=67
def fH:AF:=⟨3,7,[.tmp 6],(.seq (.ops [.i (.lbox 3 (.s 0)), .i (.lbox 4 (.s 1)), .i (.lbox 5 (.s 2)), .i (.mov 6 (qb false))]) (.seq (.seq (.ops [qf 13 3 5,ql 14 3 13 1 false,qn 15 14, .i (.mov 16 (qi 0))]) (.block 0 (.loop [69,68,67,66,65,64,63,62,61,60,59,58,57,56,55,54,53,52,51,50,49,48,47,46,45,44,43,42,41,40,39,38,37,36,35,34,33,32,31,30,29,28,27,26,25,24,23,22,21,20,19,18,17,12,10,8] (.seq (.ops [qd 17 .lss 16 15]) (.seq (.cond (.s 17) .skip (.exit 0)) (.seq (.block 1 (.seq (.ops [.i (.iad 18 (.s 14) (.s 16) 10), .i (.ldh 19 (.s 18) 10 true), .i (.lal 8 qz),qs 8 8 19 10]) (.seq (.seq (.ops [qf 20 8 0,ql 21 8 20 1 false,qf 22 5 0,ql 23 5 22 1 false, .i (.bin 24 .add (.s 23) (qi 1)),qd 25 .neq 21 24,qm 26 25, .g 26 false 28 (.ldl 27 3 (.s 3) 6 true), .g 26 false 29 (.ldl 28 4 (.s 4) 1 true), .g 26 false 30 (.ldl 29 5 (.s 5) 10 true), .g 26 false 31 (.ldl 30 8 (.s 8) 10 true), .g 26 false 32 (.call 32 144 false [(.s 27),(.s 28),(.s 29),(.s 30)]), .g 26 false 33 (.not 32 (.s 31)), .i (.pick 33 (.s 26) (qb true) (.s 32))]) (.cond (.s 33) (.exit 1) .skip)) (.seq (.ops [qf 34 3 5,ql 35 3 34 1 false,qn 36 35, .i (.mov 37 (qi 0))]) (.block 2 (.loop [68,67,66,65,64,63,62,61,60,59,58,57,56,55,54,53,52,51,50,49,48,47,46,45,44,43,42,41,40,39,38,12,10] (.seq (.ops [qd 38 .lss 37 36]) (.seq (.cond (.s 38) .skip (.exit 2)) (.seq (.block 3 (.seq (.ops [.i (.iad 39 (.s 35) (.s 37) 10), .i (.ldh 40 (.s 39) 10 true), .i (.lal 10 qz),qs 10 10 40 10]) (.seq (.seq (.ops [qf 41 10 0,ql 42 10 41 1 false,qf 43 8 0,ql 44 8 43 1 false, .i (.bin 45 .add (.s 44) (qi 1)),qd 46 .neq 42 45,qm 47 46, .g 47 false 49 (.ldl 48 3 (.s 3) 6 true), .g 47 false 50 (.ldl 49 4 (.s 4) 1 true), .g 47 false 51 (.ldl 50 8 (.s 8) 10 true), .g 47 false 52 (.ldl 51 10 (.s 10) 10 true), .g 47 false 53 (.call 53 144 false [(.s 48),(.s 49),(.s 50),(.s 51)]), .g 47 false 54 (.not 53 (.s 52)), .i (.pick 54 (.s 47) (qb true) (.s 53))]) (.cond (.s 54) (.exit 3) .skip)) (.seq (.ops [qf 55 3 5,ql 56 3 55 1 false,qn 57 56, .i (.mov 58 (qi 0))]) (.block 4 (.loop [67,66,65,64,63,62,61,60,59,12] (.seq (.ops [qd 59 .lss 58 57]) (.seq (.cond (.s 59) .skip (.exit 4)) (.seq (.block 5 (.seq (.ops [.i (.iad 60 (.s 56) (.s 58) 10), .i (.ldh 61 (.s 60) 10 true), .i (.lal 12 qz),qs 12 12 61 10]) (.seq (.ops [ql 62 3 3 6 true,ql 63 4 4 1 true,ql 64 10 10 10 true,ql 65 12 12 10 true, .i (.call 67 144 false [(.s 62),(.s 63),(.s 64),(.s 65)])]) (.cond (.s 66) (.seq (.ops [.i (.mov 6 (qb true))]) .ret) .skip)))) (.ops [.i (.bin 67 .add (.s 58) (qi 1)),qm 58 67])))))))))) (.ops [.i (.bin 68 .add (.s 37) (qi 1)),qm 37 68])))))))))) (.ops [.i (.bin 69 .add (.s 16) (qi 1)),qm 16 69]))))))) (.seq (.ops [.i (.mov 6 (qb false))]) .ret)))⟩
theorem nN:cd fQ=some fH:=by kernel_rfl
theorem uJ (f:ao) (t:Table) (a:Head) (hw:f.wc) (ht:t.wf) (ha:a.wc):VC cd fQ (bf [(true,f.c),(true,t.c),(true,a.c)]) (fun rs _=>rs=bl (settled f t a)):=by
 have w1:=hw.1
 have w2:=hw.2
 simp only[Sz]at w1
 refine aa nN rfl ?_
 simp(disch:=omega) [fH,ao.c,bA.c,Table.c,Head.c,bb,VY]
 refine bo (σ:=Nat) (f1:=_) (es0:=_) (by simp(disch:=omega) [VY];rfl) (by simp(disch:=omega) [VY];rfl) (fun i=> [(16, .val false [.int .i64 (i:Int)])]) (fun _=> []) (fun i g=>g+i=f.heads.length∧∀b∈f.heads.take i,¬T1 f t a b) 0 f.heads.length (by simp(disch:=omega) [VY]) (by simp(disch:=omega) [VY]) ⟨by omega,by simp⟩ ?_
 rintro i n g ⟨hg,hd⟩ P hP
 simp(disch:=omega) [VY]
 refine ab (fun h1=> ?_) (fun h1=> ?_)
 case refine_2=>
  have hi:i=f.heads.length:=by omega
  subst hi
  have:=u7 (fun h=>lT hd ((yH f t a).1 h))
  simp(disch:=omega) [this,VY]
 have hi:i < f.heads.length:=by omega
 have mb:=List.getElem_mem hi
 generalize hb:f.heads[i]=b at mb
 have wb:=w2 _ mb
 simp(disch:=omega) [da hi,hb,Head.c,VY]
 refine ab (fun h3=> ?_) (fun h3=> ?_)
 case refine_2=>
  have hn:¬T1 f t a b:=fun h=>h3 h.1
  simp(disch:=omega) [h3,VY]
  exact hP (i+1) (g - 1) _ _ (by omega) ⟨by omega,aV (p:=fun b=>¬T1 f t a b) hd hi (by rw[hb];exact hn)⟩ (by simp(disch:=omega) [VY]) (by simp(disch:=omega) [VY])
 have hv:b.view=over a:=h3
 simp(disch:=omega) [h3,VY]
 refine bp (nv f t a b ht ha wb) ?_ (ha:=by first|rfl|(simp[ao.c,bA.c,Table.c,Head.c,h3,VY] <;>repeat' constructor))
 cases h4:nx f t a b
 case false=>
  have hn:¬T1 f t a b:=fun h=>by have:=h.2.1;unfold N1 at this;rw[h4]at this;cases this
  simp(disch:=omega) [h3,VY]
  exact hP (i+1) (g - 1) _ _ (by omega) ⟨by omega,aV (p:=fun b=>¬T1 f t a b) hd hi (by rw[hb];exact hn)⟩ (by simp(disch:=omega) [h3,VY]) (by simp(disch:=omega) [VY])
 simp(disch:=omega) [h3,bb,VY]
 refine bo (σ:=Nat) (f1:=_) (es0:=_) (by simp(disch:=omega) [VY];rfl) (by simp(disch:=omega) [VY];rfl) (fun j=> [(37, .val false [.int .i64 (j:Int)])]) (fun _=> []) (fun j g=>g+j=f.heads.length∧∀c∈f.heads.take j,¬T2 f t b c) 0 f.heads.length (by simp(disch:=omega) [VY]) (by simp(disch:=omega) [VY]) ⟨by omega,by simp⟩ ?_
 rintro j n2 g2 ⟨hg2,hd2⟩ P2 hP2
 simp(disch:=omega) [VY]
 refine ab (fun h2=> ?_) (fun h2=> ?_)
 case refine_2=>
  have hj:j=f.heads.length:=by omega
  subst hj
  have hn:¬T1 f t a b:=fun h=>lT hd2 h.2.2
  simp(disch:=omega) [VY]
  exact hP (i+1) (g - 1) _ _ (by omega) ⟨by omega,aV (p:=fun b=>¬T1 f t a b) hd hi (by rw[hb];exact hn)⟩ (by simp(disch:=omega) [h3,VY]) (by simp(disch:=omega) [VY])
 have hj:j < f.heads.length:=by omega
 have mc:=List.getElem_mem hj
 generalize hc:f.heads[j]=c at mc
 have wc:=w2 _ mc
 simp(disch:=omega) [da hj,hc,Head.c,VY]
 refine ab (fun h5=> ?_) (fun h5=> ?_)
 case refine_2=>
  have hn:¬T2 f t b c:=fun h=>h5 (by rw[show c.view=over b from h.1,over,hv,over])
  simp(disch:=omega) [h3,h5,VY]
  exact hP2 (j+1) (g2 - 1) _ _ (by omega) ⟨by omega,aV (p:=fun c=>¬T2 f t b c) hd2 hj (by rw[hc];exact hn)⟩ (by simp(disch:=omega) [h3,VY]) (by simp(disch:=omega) [VY])
 have hv2:c.view=over b:=by rw[over,hv,over];exact h5
 simp(disch:=omega) [h3,h5,VY]
 refine bp (nv f t b c ht wb wc) ?_ (ha:=by first|rfl|(simp[ao.c,bA.c,Table.c,Head.c,h3,h5,VY] <;>repeat' constructor))
 cases h6:nx f t b c
 case false=>
  have hn:¬T2 f t b c:=fun h=>by have:=h.2.1;unfold N1 at this;rw[h6]at this;cases this
  simp(disch:=omega) [h3,h5,VY]
  exact hP2 (j+1) (g2 - 1) _ _ (by omega) ⟨by omega,aV (p:=fun c=>¬T2 f t b c) hd2 hj (by rw[hc];exact hn)⟩ (by simp(disch:=omega) [h3,VY]) (by simp(disch:=omega) [VY])
 simp(disch:=omega) [h3,h5,bb,VY]
 refine bo (σ:=Nat) (f1:=_) (es0:=_) (by simp(disch:=omega) [VY];rfl) (by simp(disch:=omega) [VY];rfl) (fun k=> [(58, .val false [.int .i64 (k:Int)])]) (fun _=> []) (fun k g=>g+k=f.heads.length∧∀d∈f.heads.take k,¬N1 f t c d) 0 f.heads.length (by simp(disch:=omega) [VY]) (by simp(disch:=omega) [VY]) ⟨by omega,by simp⟩ ?_
 rintro k n3 g3 ⟨hg3,hd3⟩ P3 hP3
 simp(disch:=omega) [VY]
 refine ab (fun h7=> ?_) (fun h7=> ?_)
 case refine_2=>
  have hk:k=f.heads.length:=by omega
  subst hk
  have hn:¬T2 f t b c:=fun h=>lT hd3 h.2.2
  simp(disch:=omega) [VY]
  exact hP2 (j+1) (g2 - 1) _ _ (by omega) ⟨by omega,aV (p:=fun c=>¬T2 f t b c) hd2 hj (by rw[hc];exact hn)⟩ (by simp(disch:=omega) [h3,VY]) (by simp(disch:=omega) [VY])
 have hk:k < f.heads.length:=by omega
 have md:=List.getElem_mem hk
 generalize hdd:f.heads[k]=d at md
 have wd:=w2 _ md
 simp(disch:=omega) [da hk,hdd,Head.c,VY]
 refine bp (nv f t c d ht wc wd) ?_ (ha:=by first|rfl|(simp[ao.c,bA.c,Table.c,Head.c,h5,VY] <;>repeat' constructor))
 cases h8:nx f t c d
 case false=>
  have hn:¬N1 f t c d:=fun h=>by unfold N1 at h;rw[h8]at h;cases h
  simp(disch:=omega) [VY]
  exact hP3 (k+1) (g3 - 1) _ _ (by omega) ⟨by omega,aV (p:=fun d=>¬N1 f t c d) hd3 hk (by rw[hdd];exact hn)⟩ (by simp(disch:=omega) [h3,VY]) (by simp(disch:=omega) [VY])
 have:=vE (f:=f) (t:=t) (a:=a) ((yH f t a).2 ⟨b,mb,hv,h4,c,mc,hv2,h6,d,md,h8⟩)
 simp(disch:=omega) [this,VY]
end Go.Eng.F
namespace Go.Eng.F
open Go.Eng.U (wv ak br TForest TTable)
abbrev fk:Nat:=18
def kV:AF:=⟨2,5,[.tmp 4],(.seq (.ops [.i (.lbox 2 (.s 0)), .i (.lbox 3 (.s 1)), .i (.mov 4 (.c (.val false [.nils])))]) (.seq (.ops [.i (.bse 8),qm 5 8]) (.seq (.seq (.ops [qf 9 2 5,ql 10 2 9 1 false,qn 11 10, .i (.mov 12 (qi 0))]) (.block 0 (.loop [29,28,27,26,25,24,23,22,21,20,19,18,17,16,15,14,13,7] (.seq (.ops [qd 13 .lss 12 11]) (.seq (.cond (.s 13) .skip (.exit 0)) (.seq (.block 1 (.seq (.ops [.i (.iad 14 (.s 10) (.s 12) 10), .i (.ldh 15 (.s 14) 10 true), .i (.lal 7 qz),qs 7 7 15 10]) (.seq (.ops [ql 16 2 2 6 true,qk 18 66 16,qm 18 17, .g 18 true 20 (.ldl 19 2 (.s 2) 6 true), .g 18 true 21 (.ldl 20 3 (.s 3) 1 true), .g 18 true 22 (.ldl 21 7 (.s 7) 10 true), .g 18 true 23 (.call 23 67 false [(.s 19),(.s 20),(.s 21)]), .i (.pick 23 (.s 18) (.s 22) (qb false))]) (.cond (.s 23) (.ops [qm 24 5,ql 25 7 7 10 true,qk 27 68 25, .i (.lsl 27 10 1 qz [(0,10,(.s 26))]), .i (.app 28 40 10 160 (.s 24) (.s 27)),qm 5 28]) .skip)))) (.ops [.i (.bin 29 .add (.s 12) (qi 1)),qm 12 29]))))))) (.seq (.ops [qm 30 5,qm 4 30]) .ret))))⟩
theorem tJ:cd fk=some kV:=by kernel_rfl
theorem rF (f:ao) (t:Table) (hw:f.wc) (ht:t.wf):VC cd fk (bf [(true,f.c),(true,t.c)]) (fun rs _=>rs= [(false,[.o true (some (40,10)) (iO (aH f t))])]):=by
 have w1:=hw.1
 have w2:=hw.2
 simp only[Sz]at w1
 refine aa tJ rfl ?_
 simp(disch:=omega) [kV,ao.c,bA.c,Table.c,bb,VY]
 cases h0:cC f
 ·refine bo (σ:=Nat×Nat) (f1:=_) (es0:=_) (by simp(disch:=omega) [VY];rfl) (by simp(disch:=omega) [VY];rfl) (fun p=> [(12, .val false [.int .i64 (p.1:Int)]),(5, .val false [.ow 8 p.2])]) (fun p=> [(8, .sl p.2 true true (some (40,10)) [])]) (fun p g=>g+p.1=f.heads.length) (0,_) f.heads.length (by simp(disch:=omega) [VY];rfl) (by simp(disch:=omega) [VY]) (by omega) ?_
  rintro⟨i,v⟩ n g hg P hP
  simp only at hg
  simp(disch:=omega) [VY]
  refine ab (fun h1=> ?_) (fun h1=> ?_)
  ·have hi:i < f.heads.length:=by omega
   simp(disch:=omega) [da hi,Head.c,VY]
   refine bp (hH f hw.wf) ?_ (ha:=by first|rfl|(simp[ao.c,bA.c,VY] <;>repeat' constructor))
   simp(disch:=omega) [h0,VY]
   exact hP (i+1,_) (g - 1) _ _ (by omega) (by simp only;omega) (by simp(disch:=omega) [VY];rfl) (by simp(disch:=omega) [VY])
  ·simp(disch:=omega) [aH,h0,iO,VY]
 ·refine bo (σ:=Nat×Nat) (f1:=_) (es0:=_) (by simp(disch:=omega) [VY];rfl) (by simp(disch:=omega) [VY];rfl) (fun p=> [(12, .val false [.int .i64 (p.1:Int)]),(5, .val false [.ow 8 p.2])]) (fun p=> [(8, .sl p.2 true true (some (40,10)) (iO (cp f t (f.heads.take p.1))))]) (fun p g=>g+p.1=f.heads.length) (0,_) f.heads.length (by simp(disch:=omega) [VY];rfl) (by simp(disch:=omega) [iO,cp,VY]) (by omega) ?_
  rintro⟨i,v⟩ n g hg P hP
  simp only at hg
  simp(disch:=omega) [VY]
  refine ab (fun h1=> ?_) (fun h1=> ?_)
  ·have hi:i < f.heads.length:=by omega
   have wi:=w2 _ (List.getElem_mem hi)
   have hn:=mQ (f:=f) (t:=t) hi
   simp(disch:=omega) [da hi,Head.c,VY]
   refine bp (hH f hw.wf) ?_ (ha:=by first|rfl|(simp[ao.c,bA.c,VY] <;>repeat' constructor))
   simp(disch:=omega) [h0,VY]
   refine bp (uJ f t f.heads[i] hw ht wi) ?_ (ha:=by first|rfl|(simp[ao.c,bA.c,Table.c,Head.c,VY] <;>repeat' constructor))
   simp(disch:=omega) [h0,VY]
   refine av (fun h2=> ?_) (fun h2=> ?_)
   ·rw[h2]at hn
    simp only[if_true]at hn
    have hk:(iO (cp f t (f.heads.take i))).length≤i:=by
     rw[bb]
     have:=iN f t (f.heads.take i)
     rw[List.length_take]at this
     omega
    have he:=v9 (cp f t (f.heads.take i)) f.heads[i]
    rw[←hn]at he
    simp only[Head.c]at he
    simp(disch:=omega) [h2,VY]
    refine bp (zG f.heads[i] wi) ?_ (ha:=by first|rfl|(simp[Head.c,VY] <;>repeat' constructor))
    simp(disch:=omega) [h2,Head.o,he,VY]
    exact hP (i+1,_) (g - 1) _ _ (by omega) (by simp only;omega) (by simp(disch:=omega) [VY];rfl) (by simp(disch:=omega) [VY])
   ·rw[h2]at hn
    simp only[Bool.false_eq_true,if_false,List.append_nil]at hn
    simp(disch:=omega) [h2,VY]
    exact hP (i+1,_) (g - 1) _ _ (by omega) (by simp only;omega) (by simp(disch:=omega) [VY];rfl) (by simp(disch:=omega) [hn,VY])
  ·have hi:i=f.heads.length:=by omega
   subst hi
   simp(disch:=omega) [aH,h0,List.take_length,VY]
theorem sf {f:ao} {t:Table} {h:Head} (hh:h∈aH f t):h∈f.heads:=by
 unfold aH at hh
 split at hh
 ·exact(List.mem_filter.1 hh).1
 ·cases hh
theorem kP (f:ao) (t:Table):(aH f t).length≤f.heads.length:=by
 unfold aH
 split
 ·exact iN f t f.heads
 ·simp
theorem s6 {α:Type} {f:α→Tv} {p:α→Bool}:∀(l:List α),cW ((l.filter p).map f)≤cW (l.map f)
 | []=>by simp[cW]
 |a::l=>by
  have:=s6 (f:=f) (p:=p) l
  rw[List.filter_cons]
  split <;>simp only[List.map_cons,cW] <;>omega
theorem ze (f:ao) (t:Table):wt (fw (aH f t))≤wt f.tv:=by
 have h1:=kP f t
 have h2:cW ((aH f t).map Head.tv)≤cW (f.heads.map Head.tv):=by
  unfold aH cp
  split
  ·exact s6 _
  ·simp[cW]
 simp only[ao.tv,fw,wt,cW,List.length_map]
 omega
theorem nh {f:ao} {t:Table} (hw:f.wc):FV [(false,[.o true (some (40,10)) (iO (aH f t))])] [(.sl ak,fw (aH f t))]:=by
 have h1:=kP f t
 have w1:=hw.1
 exact⟨rfl,by simp only[f9,vy,and_self],tN (by simp only[Sz]at w1⊢;omega) (fun h hh=>hw.2 h (sf hh)),trivial⟩
theorem qJ {f:ao} {t:Table} (hw:f.wc):FV (if cC f then [(false,[.o true (some (40,10)) (iO (aH f t))])]else [(false,[.p .nils])]) [(.sl ak,fw (aH f t))]:=by
 split
 ·exact nh hw
 ·rename_i h0
  have h2:aH f t= []:=by simp[aH,h0]
  rw[h2]
  exact⟨rfl,by simp only[f9,vy,iO,List.map_nil,and_self],tN (by simp[Sz]) (fun h hh=>by cases hh),trivial⟩
theorem jC {h0:H} {f:ao} {t:Table} {ms:List (Bool×List C)} (ha:df h0 [(TForest,f.tv),(TTable,t.tv)] ms) (hp0:wt f.tv≤1048576) (hp1:wt t.tv≤1048576):
 WC cd fh ms h0 (Jy h0 [(.sl ak,fw (aH f t))]):=by
 obtain⟨k0,mr0,ha0⟩:=df.IL ha
 obtain⟨k1,mr1,ha1⟩:=df.IL ha0
 obtain⟨w1,w2,w3⟩:=ao.of k0 hp0
 have w4:=Table.of k1 hp1
 have hc:=rC f t w1 w4
 have e:yS [(TForest,f.tv),(TTable,t.tv)]= [(true,f.c),(true,t.c)]:=by simp only[yS,List.map,bA.enc,Head.enc,Qc.enc,eH,iM,eT,ia,lJ,f9,ao.enc,Table.enc,Ty.agg]
 rw[←e]at hc
 exact hc.wc ha fun rs q=>by rw[q];exact(by first|exact nh w1|exact qJ w1)
theorem rl {h0:H} {f:ao} {t:Table} {ms:List (Bool×List C)} (ha:df h0 [(TForest,f.tv),(TTable,t.tv)] ms) (hp0:wt f.tv≤1048576) (hp1:wt t.tv≤1048576):
 WC cd fk ms h0 (Jy h0 [(.sl ak,fw (aH f t))]):=by
 obtain⟨k0,mr0,ha0⟩:=df.IL ha
 obtain⟨k1,mr1,ha1⟩:=df.IL ha0
 obtain⟨w1,w2,w3⟩:=ao.of k0 hp0
 have w4:=Table.of k1 hp1
 have hc:=rF f t w1 w4
 have e:yS [(TForest,f.tv),(TTable,t.tv)]= [(true,f.c),(true,t.c)]:=by simp only[yS,List.map,bA.enc,Head.enc,Qc.enc,eH,iM,eT,ia,lJ,f9,ao.enc,Table.enc,Ty.agg]
 rw[←e]at hc
 exact hc.wc ha fun rs q=>by rw[q];exact(by first|exact nh w1|exact qJ w1)
end Go.Eng.F
