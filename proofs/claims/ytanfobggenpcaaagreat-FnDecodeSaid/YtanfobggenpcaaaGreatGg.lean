import Derived.Test.YtanfobggenpcaaaGreatGd
import Derived.Test.YtanfobggenpcaaaGreatGe
import Derived.Test.YtanfobggenpcaaaGreatGf
set_option maxRecDepth 100000
set_option linter.unusedSimpArgs false
set_option linter.unusedVariables false
namespace Go.Eng.F
def aI (n:Nat):Bytes:=if n < 128 then [UInt8.ofNat n]else UInt8.ofNat (n % 128+128)::aI (n / 128)
termination_by n
decreasing_by omega
theorem sA {n:Nat} (h:n < 128):aI n= [UInt8.ofNat n]:=by rw[aI,if_pos h]
theorem ss {n:Nat} (h:¬n < 128):aI n=UInt8.ofNat (n % 128+128)::aI (n / 128):=by rw[aI,if_neg h]
theorem Hu:∀(k n:Nat),n < 128 ^ (k+1)→(aI n).length≤k+1
 |0,n,h=>by rw[sA (by simpa using h)];simp
 |k+1,n,h=>by
  by_cases h1:n < 128
  ·rw[sA h1];simp
  ·rw[ss h1]
   have:=Hu k (n / 128) (by rw[Nat.div_lt_iff_lt_mul (by omega)];rw[Nat.pow_succ]at h;exact h)
   simp only[List.length_cons];omega
theorem b5 {n:Nat} (h:n≤1152921504606846975):(aI n).length≤9:=Hu 8 n (by simp;omega)
theorem HR (n:Nat):0 < (aI n).length:=by
 rw[aI];split <;>simp
theorem Qo {k:Nat} (h:k < 256):IntKind.u8.wrap (k:Int)=((UInt8.ofNat k).toNat:Int):=by
 simp only[UInt8.toNat_ofNat',IntKind.wrap,IntKind.bits,IntKind.signed]
 simp
def jC (b:Bytes) (n:Int):List (Bool×List E):=
 if isNum n then [(false,[.o true (some (5,1)) (bytes (b++aI n.toNat))]),(false,[.p (.bool true)])]else [(false,[.p .nils]),(false,[.p (.bool false)])]
theorem j0 {n:Int} (h:isNum n=true):∃m:Nat,n=(m:Int)∧m≤1152921504606846975:=⟨n.toNat,by have:=c7 h;omega⟩
abbrev jO:Nat:=164
def uA:AF:=⟨2,5,[.tmp 4, .tmp 5],(.seq (.ops [.i (.mov 4 (.c (.val false [.nils]))), .i (.mov 5 (qb false))]) (.seq (.seq (.ops [qm 7 1,qk 9 129 7, .i (.not 9 (.s 8))]) (.cond (.s 9) (.seq (.ops [.i (.mov 4 (.c (.val false [.nils]))), .i (.mov 5 (qb false))]) .ret) .skip)) (.seq (.ops [qm 10 0,qk 12 93 10,qm 6 11]) (.seq (.block 0 (.loop [22,21,20,19,18,17,16,15,14,13,12] (.seq (.seq (.ops [qm 12 1, .i (.bin 13 .geq (.s 12) (qi 128))]) (.cond (.s 13) .skip (.exit 0))) (.block 1 (.seq (.ops [qm 14 6,qm 15 1, .i (.bin 16 .rem (.s 15) (qi 128)), .i (.bin 17 .add (.s 16) (qi 128)), .i (.cvi 18 .u8 (.s 17)), .i (.lsl 19 1 1 [.int .u8 0] [(0,1,(.s 18))]), .i (.app 20 5 1 1 (.s 14) (.s 19)),qm 6 20]) (.ops [qm 21 1, .i (.bin 22 .quo (.s 21) (qi 128)),qm 1 22])))))) (.seq (.ops [qm 23 6,qm 24 1, .i (.cvi 25 .u8 (.s 24)), .i (.lsl 26 1 1 [.int .u8 0] [(0,1,(.s 25))]), .i (.app 27 5 1 1 (.s 23) (.s 26)),qm 4 27, .i (.mov 5 (qb true))]) .ret)))))⟩
theorem DP:cd jO=some uA:=by kernel_rfl
theorem Ax (b:Bytes) (n:Int) (hb:b.length≤1073741824):VC cd jO (aE [(false,[.sl (bytes b)]),(false,[.int .i64 n])]) (fun rs _=>rs=jC b n):=by
 refine aa DP rfl ?_
 simp(disch:=omega) [uA,VY]
 refine ae (eJ n) rfl rfl ?_
 simp(disch:=omega) [VY]
 refine an (fun h1=> ?_) (fun h1=> ?_)
 case refine_2=>simp(disch:=omega) [jC,h1,VY]
 simp(disch:=omega) [h1,VY]
 refine ae (aO b (by omega)) rfl rfl ?_
 obtain⟨m,rfl,hm⟩:=j0 h1
 have hl:=b5 hm
 simp(disch:=omega) [VY]
 refine aU (σ:=Nat×Bytes×Nat) (f1:=_) (es0:=_) (by simp(disch:=omega) [VY];rfl) (by simp(disch:=omega) [VY];rfl) (fun p=> [(1, .val false [.int .i64 (p.1:Int)]),(6, .val false [.ow 106496 p.2.2])]) (fun p=> [(106496, .sl p.2.2 true true (some (5,1)) (bytes p.2.1))])
  (fun p g=>g=p.1∧p.1≤m∧p.2.1++aI p.1=b++aI m) (m,b,_) m (by simp(disch:=omega) [VY];rfl) (by simp(disch:=omega) [VY]) ⟨rfl,Nat.le_refl _,rfl⟩ ?_
 rintro⟨k,a,v⟩ n g ⟨hg,hk,ha⟩
 simp only at hg hk ha
 have hla:a.length≤b.length+9:=by
  have:=congrArg List.length ha
  simp only[List.length_append]at this
  omega
 simp(disch:=omega) [VY]
 refine ab (fun h2=> ?_) (fun h2=> ?_)
 ·have e1:Int.tmod (k:Int) 128=(k:Int) % 128:=Int.tmod_eq_emod_of_nonneg (by omega)
  have e2:Int.tdiv (k:Int) 128=(k:Int) / 128:=Int.tdiv_eq_ediv_of_nonneg (by omega)
  have e3:IntKind.u8.wrap ((k:Int) % 128+128)=((UInt8.ofNat (k % 128+128)).toNat:Int):=by rw[←Qo (by omega)];congr 1
  have e4:bytes a++ [[.int .u8 ((UInt8.ofNat (k % 128+128)).toNat:Int)]]=bytes (a++ [UInt8.ofNat (k % 128+128)]):=by simp[bytes]
  simp(disch:=omega) [e1,e2,e3,e4,ak,VY]
  refine⟨k / 128,a++ [UInt8.ofNat (k % 128+128)],_,k / 128,by omega,⟨rfl,by omega,?_⟩,⟨rfl,by omega⟩,rfl,by simp[bytes]⟩
  rw[←ha,ss (n:=k) (by omega)]
  simp
 ·have e3:IntKind.u8.wrap (k:Int)=((UInt8.ofNat k).toNat:Int):=Qo (by omega)
  have e4:bytes a++ [[.int .u8 ((UInt8.ofNat k).toNat:Int)]]=bytes (a++ [UInt8.ofNat k]):=by simp[bytes]
  rw[sA (n:=k) (by omega)]at ha
  simp(disch:=omega) [e3,e4,ak,jC,h1,VY]
  rw[←ha]
  simp[bytes]
abbrev jU:Nat:=338
def uy:AF:=⟨2,5,[.tmp 4, .tmp 5],(.seq (.ops [.i (.mov 4 (.c (.val false [.nils]))), .i (.mov 5 (qb false))]) (.seq (.seq (.ops [qm 7 1,qk 9 211 7, .i (.not 9 (.s 8))]) (.cond (.s 9) (.seq (.ops [.i (.mov 4 (.c (.val false [.nils]))), .i (.mov 5 (qb false))]) .ret) .skip)) (.seq (.ops [qm 10 0,qk 12 143 10,qm 6 11]) (.seq (.block 0 (.loop [22,21,20,19,18,17,16,15,14,13,12] (.seq (.seq (.ops [qm 12 1, .i (.bin 13 .gtr (.s 12) (qi 127))]) (.cond (.s 13) .skip (.exit 0))) (.block 1 (.seq (.ops [qm 14 6,qm 15 1, .i (.bin 16 .rem (.s 15) (qi 128)), .i (.bin 17 .add (qi 128) (.s 16)), .i (.cvi 18 .u8 (.s 17)), .i (.lsl 19 1 1 [.int .u8 0] [(0,1,(.s 18))]), .i (.app 20 5 1 1 (.s 14) (.s 19)),qm 6 20]) (.ops [qm 21 1, .i (.bin 22 .quo (.s 21) (qi 128)),qm 1 22])))))) (.seq (.ops [qm 23 6,qm 24 1, .i (.cvi 25 .u8 (.s 24)), .i (.lsl 26 1 1 [.int .u8 0] [(0,1,(.s 25))]), .i (.app 27 5 1 1 (.s 23) (.s 26)),qm 4 27, .i (.mov 5 (qb true))]) .ret)))))⟩
theorem Dv:cd jU=some uy:=by kernel_rfl
theorem Cd (b:Bytes) (n:Int) (hb:b.length≤1073741824):VC cd jU (aE [(false,[.sl (bytes b)]),(false,[.int .i64 n])]) (fun rs _=>rs=jC b n):=by
 refine aa Dv rfl ?_
 simp(disch:=omega) [uy,VY]
 refine ae (fh n) rfl rfl ?_
 simp(disch:=omega) [VY]
 refine an (fun h1=> ?_) (fun h1=> ?_)
 case refine_2=>simp(disch:=omega) [jC,h1,VY]
 simp(disch:=omega) [h1,VY]
 refine ae (ck b (by omega)) rfl rfl ?_
 obtain⟨m,rfl,hm⟩:=j0 h1
 have hl:=b5 hm
 simp(disch:=omega) [VY]
 refine aU (σ:=Nat×Bytes×Nat) (f1:=_) (es0:=_) (by simp(disch:=omega) [VY];rfl) (by simp(disch:=omega) [VY];rfl) (fun p=> [(1, .val false [.int .i64 (p.1:Int)]),(6, .val false [.ow 106496 p.2.2])]) (fun p=> [(106496, .sl p.2.2 true true (some (5,1)) (bytes p.2.1))])
  (fun p g=>g=p.1∧p.1≤m∧p.2.1++aI p.1=b++aI m) (m,b,_) m (by simp(disch:=omega) [VY];rfl) (by simp(disch:=omega) [VY]) ⟨rfl,Nat.le_refl _,rfl⟩ ?_
 rintro⟨k,a,v⟩ n g ⟨hg,hk,ha⟩
 simp only at hg hk ha
 have hla:a.length≤b.length+9:=by
  have:=congrArg List.length ha
  simp only[List.length_append]at this
  omega
 simp(disch:=omega) [VY]
 refine ab (fun h2=> ?_) (fun h2=> ?_)
 ·have e1:Int.tmod (k:Int) 128=(k:Int) % 128:=Int.tmod_eq_emod_of_nonneg (by omega)
  have e2:Int.tdiv (k:Int) 128=(k:Int) / 128:=Int.tdiv_eq_ediv_of_nonneg (by omega)
  have e3:IntKind.u8.wrap (128+(k:Int) % 128)=((UInt8.ofNat (k % 128+128)).toNat:Int):=by rw[←Qo (by omega)];congr 1;omega
  have e4:bytes a++ [[.int .u8 ((UInt8.ofNat (k % 128+128)).toNat:Int)]]=bytes (a++ [UInt8.ofNat (k % 128+128)]):=by simp[bytes]
  simp(disch:=omega) [e1,e2,e3,e4,ak,VY]
  refine⟨k / 128,a++ [UInt8.ofNat (k % 128+128)],_,k / 128,by omega,⟨rfl,by omega,?_⟩,⟨rfl,by omega⟩,rfl,by simp[bytes]⟩
  rw[←ha,ss (n:=k) (by omega)]
  simp
 ·have e3:IntKind.u8.wrap (k:Int)=((UInt8.ofNat k).toNat:Int):=Qo (by omega)
  have e4:bytes a++ [[.int .u8 ((UInt8.ofNat k).toNat:Int)]]=bytes (a++ [UInt8.ofNat k]):=by simp[bytes]
  rw[sA (n:=k) (by omega)]at ha
  simp(disch:=omega) [e3,e4,ak,jC,h1,VY]
  rw[←ha]
  simp[bytes]
theorem gK {n:Nat} (h:n≤1152921504606846975):isNum (n:Int)=true:=by simp[isNum,dK];omega
theorem uH (b:Bytes) (n:Nat) (hn:n≤1152921504606846975) (hb:b.length≤1073741824):VC cd jO (aE [(false,[.sl (bytes b)]),(false,[.int .i64 (n:Int)])]) (fun rs _=>rs= [(false,[.o true (some (5,1)) (bytes (b++aI n))]),(false,[.p (.bool true)])]):=
 (Ax b n hb).mono fun rs ps h=>by rw[h,jC,if_pos (gK hn)];rfl
theorem uq (b:Bytes) (n:Nat) (hn:n≤1152921504606846975) (hb:b.length≤1073741824):VC cd jU (aE [(false,[.sl (bytes b)]),(false,[.int .i64 (n:Int)])]) (fun rs _=>rs= [(false,[.o true (some (5,1)) (bytes (b++aI n))]),(false,[.p (.bool true)])]):=
 (Cd b n hb).mono fun rs ps h=>by rw[h,jC,if_pos (gK hn)];rfl
abbrev tu:Nat:=308
def ti:AF:=⟨2,4,[.tmp 4],(.seq (.ops [.i (.mov 4 (.c (.val false [.nils])))]) (.seq (.ops [qm 8 0,qm 9 1, .i (.call 11 338 false [(.s 8),(.s 9)]),qm 7 10, .i (.ext 11 (.s 7) 0), .i (.ext 12 (.s 7) 1),qm 5 11,qm 6 12]) (.seq (.ops [qm 13 5,qm 4 13]) .ret)))⟩
theorem De:cd tu=some ti:=by kernel_rfl
theorem bQ (b:Bytes) (n:Int) (hn:isNum n=true) (hb:b.length≤1073741824):VC cd tu (aE [(false,[.sl (bytes b)]),(false,[.int .i64 n])]) (fun rs _=>rs= [(false,[.o true (some (5,1)) (bytes (b++aI n.toNat))])]):=by
 obtain⟨m,rfl,hm⟩:=j0 hn
 refine aa De rfl ?_
 simp(disch:=omega) [ti,VY]
 refine ae (uq b m hm hb) rfl rfl ?_
 simp(disch:=omega) [VY]
abbrev jE:Nat:=99
def js:AF:=⟨2,5,[],(.ops [qm 5 0,qm 6 0, .i (.nch 7 (.s 6)),qf 8 7 0, .i (.ldh 9 (.s 8) 1 false),qm 10 1, .i (.call 12 164 false [(.s 9),(.s 10)]),qm 4 11, .i (.ext 12 (.s 4) 0), .i (.ext 13 (.s 4) 1), .i (.nch 14 (.s 5)),qf 15 14 0, .i (.sth (.s 15) (.s 12) 1)])⟩
theorem wD:cd jE=some js:=by kernel_rfl
theorem aP (b:Bytes) (n:Int) (hn:isNum n=true) (hb:b.length≤1073741824):VC cd jE (ja [] 146 [.o true (some (5,1)) (bytes b)] [(false,[.int .i64 n])]) (fun r p=>r= []∧p= [.pt 146 [.o true (some (5,1)) (bytes (b++aI n.toNat))]]):=by
 obtain⟨m,rfl,hm⟩:=j0 hn
 refine aw wD rfl ?_
 simp(disch:=omega) [js,VZ]
 refine ae (uH b m hm hb) rfl rfl ?_
 simp(disch:=omega) [VZ]
abbrev ju:Nat:=100
def jr:AF:=⟨2,4,[],(.ops [qm 4 0,qm 5 0, .i (.nch 6 (.s 5)),qf 7 6 0, .i (.ldh 8 (.s 7) 1 false),qm 9 1, .i (.app 10 5 1 1 (.s 8) (.s 9)), .i (.nch 11 (.s 4)),qf 12 11 0, .i (.sth (.s 12) (.s 10) 1)])⟩
theorem wG:cd ju=some jr:=by kernel_rfl
theorem cv (b x:Bytes) (hx:x.length≤1073741824) (hb:b.length≤1073741824):VC cd ju (ja [] 146 [.o true (some (5,1)) (bytes b)] [(false,[.sl (bytes x)])]) (fun r p=>r= []∧p= [.pt 146 [.o true (some (5,1)) (bytes (b++x))]]):=by
 refine aw wG rfl ?_
 simp(disch:=omega) [jr,ak,dh,VZ]
def GF (q:Qc):Bytes:=aI q.view.toNat++aI q.height.toNat++q.block++q.bits++q.tags.flatten
def c5 (h:Head):Bytes:=aI h.view.toNat++aI h.height.toNat++aI h.proposer.toNat++h.parent++h.root++GF h.qc
theorem ay {n:Int} (h:isNum n=true):(aI n.toNat).length≤9:=by
 obtain⟨m,rfl,hm⟩:=j0 h
 simpa using b5 hm
theorem xk {n:Int} (h:1≤n∧n≤10):tJ n≤2:=by unfold tJ;split <;>omega
structure I4 (q:Qc):Prop where
 view:isNum q.view=true
 height:isNum q.height=true
 block:q.block.length=32
 bits:q.bits.length≤2
 tags:q.tags.length≤16
 tag:∀t∈q.tags,t.length=32
theorem jA {l:ah} {q:Qc} (h:eB l q=true):I4 q:=by
 simp only[eB,Bool.and_eq_true,decide_eq_true_eq]at h
 obtain⟨⟨⟨⟨⟨⟨h0,h1⟩,h2⟩,h3⟩,h4⟩,h5⟩,h6⟩:=h
 simp only[dv,Bool.and_eq_true,decide_eq_true_eq]at h4
 have hb:=xk (c7 h4.1.1)
 have hl:=dt q.bits
 refine⟨h1,h2,by simpa[hash]using h3,by omega,by omega,fun t ht=> ?_⟩
 simp only[hashes,List.all_eq_true]at h6
 simpa[hash]using h6 t ht
theorem ik {l:List Bytes} (h:∀t∈l,t.length=32) {i:Nat} (hi:i≤l.length):(l.take i).flatten.length=32 * i:=by
 induction i generalizing l with
 |zero=>simp
 |succ i ih=>
  cases l with
  |nil=>simp at hi
  |cons a l=>
   simp only[List.take_succ_cons,List.flatten_cons,List.length_append]
   rw[ih (fun t ht=>h t (by simp[ht])) (by simpa using hi),h a (by simp)]
   omega
theorem sB {l:List Bytes} {i:Nat} (h:i < l.length):(l.take (i+1)).flatten=(l.take i).flatten++l[i]:=by
 rw[List.take_add_one,List.getElem?_eq_getElem h,List.flatten_append]
 simp only[Option.toList_some,List.flatten_cons,List.flatten_nil,List.append_nil]
theorem Gl {q:Qc} (h:I4 q):(GF q).length≤600:=by
 have h1:=ay h.view
 have h2:=ay h.height
 have h3:=ik h.tag (Nat.le_refl _)
 rw[List.take_length]at h3
 have:=h.block
 have:=h.bits
 have:=h.tags
 simp only[GF,List.length_append]
 omega
abbrev jZ:Nat:=104
def la:AF:=⟨2,6,[],(.seq (.ops [.i (.lbox 3 (.s 1))]) (.seq (.ops [qm 6 0,qf 7 3 0,ql 8 3 7 1 false, .i (.call 10 99 false [(.s 6),(.s 8)])]) (.seq (.ops [qm 10 0,qf 11 3 1,ql 12 3 11 1 false, .i (.call 14 99 false [(.s 10),(.s 12)])]) (.seq (.ops [qm 14 0,qf 15 3 2,ql 16 3 15 1 false, .i (.call 18 100 false [(.s 14),(.s 16)])]) (.seq (.ops [qm 18 0,qf 19 3 3,ql 20 3 19 1 false, .i (.call 22 100 false [(.s 18),(.s 20)])]) (.seq (.ops [qf 22 3 4,ql 23 3 22 1 false,qn 24 23, .i (.mov 25 (qi 0))]) (.block 0 (.loop [32,31,30,29,28,27,26,5] (.seq (.ops [qd 26 .lss 25 24]) (.seq (.cond (.s 26) .skip (.exit 0)) (.seq (.block 1 (.seq (.ops [.i (.iad 27 (.s 23) (.s 25) 1), .i (.ldh 28 (.s 27) 1 false),qm 5 28]) (.ops [qm 29 0,qm 30 5, .i (.call 32 100 false [(.s 29),(.s 30)])]))) (.ops [.i (.bin 32 .add (.s 25) (qi 1)),qm 25 32]))))))))))))⟩
theorem xG:cd jZ=some la:=by kernel_rfl
theorem lJ (b:Bytes) (q:Qc) (hq:I4 q) (hb:b.length≤1000000000):VC cd jZ (ja [] 146 [.o true (some (5,1)) (bytes b)] [(true,q.c)]) (fun r p=>r= []∧p= [.pt 146 [.o true (some (5,1)) (bytes (b++GF q))]]):=by
 have h1:=ay hq.view
 have h2:=ay hq.height
 have h4:=hq.block
 have h5:=hq.bits
 have h6:=hq.tags
 refine aw xG rfl ?_
 simp(disch:=omega) [la,Qc.c,VZ]
 refine du (aP _ q.view hq.view ?_) ?_
 ·(try simp only[List.length_append]);omega
 simp(disch:=omega) [VZ]
 refine du (aP _ q.height hq.height ?_) ?_
 ·(try simp only[List.length_append]);omega
 simp(disch:=omega) [VZ]
 refine du (cv _ q.block (by omega) ?_) ?_
 ·(try simp only[List.length_append]);omega
 simp(disch:=omega) [VZ]
 refine du (cv _ q.bits (by omega) ?_) ?_
 ·(try simp only[List.length_append]);omega
 simp(disch:=omega) [ao,VZ]
 refine aU (σ:=Nat×Nat) (f1:=_) (es0:=_) (by simp(disch:=omega) [VZ];rfl) (by simp(disch:=omega) [VZ];rfl) (fun p=> [(25, .val false [.int .i64 (p.1:Int)])]) (fun p=> [(4096, .pt 0 146 [.ow 1099528404992 p.2]),(1099528404992, .sl p.2 true true (some (5,1)) (bytes (b++(aI q.view.toNat++(aI q.height.toNat++(q.block++(q.bits++(q.tags.take p.1).flatten)))))))])
  (fun p g=>g+p.1=q.tags.length) (0,14) q.tags.length (by simp(disch:=omega) [VZ]) (by simp(disch:=omega) [VZ]) (by omega) ?_
 rintro⟨i,v⟩ n g hg
 simp only at hg
 simp(disch:=omega) [VZ]
 refine ab (fun h7=> ?_) (fun h7=> ?_)
 ·have hi:i < q.tags.length:=by omega
  have hx:=hq.tag _ (List.getElem_mem hi)
  have hf:=ik hq.tag (i:=i) (by omega)
  simp(disch:=omega) [db hi,VZ]
  refine du (cv _ q.tags[i] (by omega) ?_) ?_
  ·(try simp only[List.length_append]);omega
  simp(disch:=omega) [VZ]
  exact⟨i+1,_,g - 1,by omega,by omega,rfl,rfl,by rw[sB hi]⟩
 ·have hi:i=q.tags.length:=by omega
  subst hi
  rw[List.take_length]
  simp(disch:=omega) [GF,VZ]
def bu (ok:Bool) (b:Bytes):List (Bool×List E):=
 if ok then [(false,[.o true (some (5,1)) (bytes b)]),(false,[.p (.bool true)])]else [(false,[.p .nils]),(false,[.p (.bool false)])]
theorem bW {ok:Bool} {b:Bytes} (h:ok=true):bu ok b= [(false,[.o true (some (5,1)) (bytes b)]),(false,[.p (.bool true)])]:=by subst h;rfl
theorem cV {ok:Bool} {b:Bytes} (h:ok=false):bu ok b= [(false,[.p .nils]),(false,[.p (.bool false)])]:=by subst h;rfl
theorem _root_.Go.Eng.VC.re {cd:Nat→Option AF} {g:Nat} {al:List (Bool×List E)} {rs rt:List (Bool×List E)} (h:VC cd g al (fun r _=>r=rs)) (e:rs=rt):VC cd g al (fun r _=>r=rt):=by subst e;exact h
abbrev wT:Nat:=258
def vQ:AF:=⟨3,6,[.tmp 6, .tmp 7],(.seq (.ops [.i (.lbox 3 (.s 0)), .i (.lbox 5 (.s 2)), .i (.mov 6 (.c (.val false [.nils]))), .i (.mov 7 (qb false))]) (.seq (.seq (.ops [ql 11 3 3 5 true,ql 12 5 5 5 true, .i (.call 14 309 false [(.s 11),(.s 12)]), .i (.not 14 (.s 13))]) (.cond (.s 14) (.seq (.ops [.i (.mov 6 (.c (.val false [.nils]))), .i (.mov 7 (qb false))]) .ret) .skip)) (.seq (.ops [qm 15 1,qf 16 5 0,ql 17 5 16 1 false, .i (.call 19 308 false [(.s 15),(.s 17)]),qf 19 5 1,ql 20 5 19 1 false, .i (.call 22 308 false [(.s 18),(.s 20)]),qf 22 5 2,ql 23 5 22 1 false, .i (.app 24 5 1 1 (.s 21) (.s 23)),qm 8 24]) (.seq (.ops [qm 25 8,qf 26 5 3,ql 27 5 26 1 false, .i (.app 28 5 1 1 (.s 25) (.s 27)),qm 8 28]) (.seq (.seq (.ops [qf 29 5 4,ql 30 5 29 1 false,qn 31 30, .i (.mov 32 (qi 0))]) (.block 0 (.loop [39,38,37,36,35,34,33,10] (.seq (.ops [qd 33 .lss 32 31]) (.seq (.cond (.s 33) .skip (.exit 0)) (.seq (.block 1 (.seq (.ops [.i (.iad 34 (.s 30) (.s 32) 1), .i (.ldh 35 (.s 34) 1 false),qm 10 35]) (.ops [qm 36 8,qm 37 10, .i (.app 38 5 1 1 (.s 36) (.s 37)),qm 8 38]))) (.ops [.i (.bin 39 .add (.s 32) (qi 1)),qm 32 39]))))))) (.seq (.ops [qm 40 8,qm 6 40, .i (.mov 7 (qb true))]) .ret))))))⟩
theorem Fh:cd wT=some vQ:=by kernel_rfl
theorem gA (l:ah) (b:Bytes) (q:Qc) (hw:q.wf) (hb:b.length≤1000000000):VC cd wT (aE [(true,l.c),(false,[.sl (bytes b)]),(true,q.c)]) (fun rs _=>rs=bu (eB l q) (b++GF q)):=by
 refine aa Fh rfl ?_
 simp(disch:=omega) [vQ,Qc.c,ah.c,VY]
 refine ae (lM l q hw) rfl rfl ?_
 simp(disch:=omega) [VY]
 refine an (fun h0=> ?_) (fun h0=> ?_)
 case refine_2=>simp(disch:=omega) [h0,bu,VY]
 have hq:=jA h0
 have h1:=ay hq.view
 have h2:=ay hq.height
 have h4:=hq.block
 have h5:=hq.bits
 have h6:=hq.tags
 simp(disch:=omega) [h0,VY]
 refine ae (bQ b q.view hq.view (by omega)) rfl rfl ?_
 simp(disch:=omega) [VY]
 refine ae (bQ (b++aI q.view.toNat) q.height hq.height (by simp only[List.length_append];omega)) rfl rfl ?_
 simp(disch:=omega) [dh,ak,VY]
 have e1:List.length b+(List.length (aI q.view.toNat)+(List.length (aI q.height.toNat)+List.length q.block))≤1073741824:=by omega
 simp(disch:=omega) [dh,ak,ao,VY]
 refine aU (σ:=Nat×Nat) (f1:=_) (es0:=_) (by simp(disch:=omega) [VY];rfl) (by simp(disch:=omega) [VY];rfl) (fun p=> [(32, .val false [.int .i64 (p.1:Int)]),(8, .val false [.ow 188416 p.2])]) (fun p=> [(188416, .sl p.2 true true (some (5,1)) (bytes (b++(aI q.view.toNat++(aI q.height.toNat++(q.block++(q.bits++(q.tags.take p.1).flatten)))))))])
  (fun p g=>g+p.1=q.tags.length) (0,_) q.tags.length (by simp(disch:=omega) [VY];rfl) (by simp(disch:=omega) [VY]) (by omega) ?_
 rintro⟨i,v⟩ n g hg
 simp only at hg
 simp(disch:=omega) [VY]
 refine ab (fun h7=> ?_) (fun h7=> ?_)
 ·have hi:i < q.tags.length:=by omega
  have hx:=hq.tag _ (List.getElem_mem hi)
  have hf:=ik hq.tag (i:=i) (by omega)
  simp(disch:=omega) [db hi,dh,ak,hf,VY]
  exact⟨i+1,_,g - 1,by omega,by omega,⟨by omega,rfl⟩,rfl,by rw[sB hi]⟩
 ·have hi:i=q.tags.length:=by omega
  subst hi
  rw[List.take_length]
  simp(disch:=omega) [GF,bu,h0,VY]
structure Fo (h:Head):Prop where
 view:isNum h.view=true
 height:isNum h.height=true
 proposer:isNum h.proposer=true
 parent:h.parent.length=32
 root:h.root.length=32
 qc:I4 h.qc
theorem yp {l:ah} {h:Head} (hk:bx l h=true):eB l h.qc=true:=by
 simp only[bx,Bool.and_eq_true]at hk
 exact hk.1.1.1.1.1.1
theorem dH {l:ah} {h:Head} (hk:bx l h=true):Fo h:=by
 have hq:=yp hk
 have hn:=jD (iE hq)
 simp only[bx,Bool.and_eq_true,decide_eq_true_eq]at hk
 obtain⟨⟨⟨⟨⟨⟨h0,h1⟩,h2⟩,h3⟩,h4⟩,h5⟩,h6⟩:=hk
 have h2':=c7 h2
 have h3':=c7 h3
 exact⟨h1,by simp[isNum,dK];omega,by simp[isNum,dK];omega,by simpa[hash]using h4,by simpa[hash]using h5,jA hq⟩
theorem gk {h:Head} (hs:Fo h):(c5 h).length≤1000:=by
 have h1:=ay hs.view
 have h2:=ay hs.height
 have h3:=ay hs.proposer
 have h4:=hs.parent
 have h5:=hs.root
 have h6:=Gl hs.qc
 simp only[c5,List.length_append]
 omega
abbrev iK:Nat:=109
def iR:AF:=⟨2,5,[],(.seq (.ops [.i (.lbox 3 (.s 1))]) (.seq (.ops [qm 4 0,qf 5 3 0,ql 6 3 5 1 false, .i (.call 8 99 false [(.s 4),(.s 6)])]) (.seq (.ops [qm 8 0,qf 9 3 1,ql 10 3 9 1 false, .i (.call 12 99 false [(.s 8),(.s 10)])]) (.seq (.ops [qm 12 0,qf 13 3 2,ql 14 3 13 1 false, .i (.call 16 99 false [(.s 12),(.s 14)])]) (.seq (.ops [qm 16 0,qf 17 3 3,ql 18 3 17 1 false, .i (.call 20 100 false [(.s 16),(.s 18)])]) (.seq (.ops [qm 20 0,qf 21 3 4,ql 22 3 21 1 false, .i (.call 24 100 false [(.s 20),(.s 22)])]) (.ops [qm 24 0,qf 25 3 5,ql 26 3 25 5 true, .i (.call 28 104 false [(.s 24),(.s 26)])])))))))⟩
theorem vk:cd iK=some iR:=by kernel_rfl
theorem iu (b:Bytes) (h:Head) (hs:Fo h) (hb:b.length≤900000000):VC cd iK (ja [] 146 [.o true (some (5,1)) (bytes b)] [(true,h.c)]) (fun r p=>r= []∧p= [.pt 146 [.o true (some (5,1)) (bytes (b++c5 h))]]):=by
 have h1:=ay hs.view
 have h2:=ay hs.height
 have h3:=ay hs.proposer
 have h4:=hs.parent
 have h5:=hs.root
 refine aw vk rfl ?_
 simp(disch:=omega) [iR,Head.c,VZ]
 refine du (aP _ h.view hs.view ?_) ?_
 ·(try simp only[List.length_append]);omega
 simp(disch:=omega) [VZ]
 refine du (aP _ h.height hs.height ?_) ?_
 ·(try simp only[List.length_append]);omega
 simp(disch:=omega) [VZ]
 refine du (aP _ h.proposer hs.proposer ?_) ?_
 ·(try simp only[List.length_append]);omega
 simp(disch:=omega) [VZ]
 refine du (cv _ h.parent (by omega) ?_) ?_
 ·(try simp only[List.length_append]);omega
 simp(disch:=omega) [VZ]
 refine du (cv _ h.root (by omega) ?_) ?_
 ·(try simp only[List.length_append]);omega
 simp(disch:=omega) [VZ]
 refine du (lJ _ h.qc hs.qc ?_) ?_
 ·(try simp only[List.length_append]);omega
 simp(disch:=omega) [c5,VZ]
abbrev oO:Nat:=30
def qp:AF:=⟨3,5,[.tmp 6, .tmp 7],(.seq (.ops [.i (.lbox 3 (.s 0)), .i (.lbox 5 (.s 2)), .i (.mov 6 (.c (.val false [.nils]))), .i (.mov 7 (qb false))]) (.seq (.seq (.ops [ql 9 3 3 5 true,ql 10 5 5 10 true, .i (.call 12 108 false [(.s 9),(.s 10)]), .i (.not 12 (.s 11))]) (.cond (.s 12) (.seq (.ops [.i (.mov 6 (.c (.val false [.nils]))), .i (.mov 7 (qb false))]) .ret) .skip)) (.seq (.ops [qm 13 1,qk 15 93 13, .i (.bld 15 [.nils] [(0,1,(.s 14))]), .i (.hbox 16 146 (.s 15)),qm 8 16]) (.seq (.ops [qm 17 8,ql 18 5 5 10 true, .i (.call 20 109 false [(.s 17),(.s 18)])]) (.seq (.ops [qm 20 8, .i (.nch 21 (.s 20)),qf 22 21 0, .i (.ldh 23 (.s 22) 1 false),qm 6 23, .i (.mov 7 (qb true))]) .ret)))))⟩
theorem Bp:cd oO=some qp:=by kernel_rfl
theorem mD (l:ah) (b:Bytes) (h:Head) (hw:h.wf) (hb:b.length≤900000000):VC cd oO (aE [(true,l.c),(false,[.sl (bytes b)]),(true,h.c)]) (fun rs _=>rs=bu (bx l h) (b++c5 h)):=by
 refine aa Bp rfl ?_
 simp(disch:=omega) [qp,Head.c,ah.c,VY]
 refine ae (iG l h hw) rfl rfl ?_
 simp(disch:=omega) [VY]
 refine an (fun h0=> ?_) (fun h0=> ?_)
 case refine_2=>simp(disch:=omega) [h0,bu,VY]
 have hs:=dH h0
 simp(disch:=omega) [h0,VY]
 refine ae (aO b (by omega)) rfl rfl ?_
 simp(disch:=omega) [VZ]
 refine du (iu _ h hs ?_) ?_
 ·(try simp only[List.length_append]);omega
 simp(disch:=omega) [bu,h0,VZ]
abbrev qo:Nat:=259
def oM:AF:=⟨3,6,[.tmp 6, .tmp 7],(.seq (.ops [.i (.lbox 3 (.s 0)), .i (.lbox 5 (.s 2)), .i (.mov 6 (.c (.val false [.nils]))), .i (.mov 7 (qb false))]) (.seq (.seq (.ops [ql 9 3 3 5 true,ql 10 5 5 10 true, .i (.call 12 310 false [(.s 9),(.s 10)]), .i (.not 12 (.s 11))]) (.cond (.s 12) (.seq (.ops [.i (.mov 6 (.c (.val false [.nils]))), .i (.mov 7 (qb false))]) .ret) .skip)) (.seq (.ops [qm 13 1,qf 14 5 0,ql 15 5 14 1 false, .i (.call 17 308 false [(.s 13),(.s 15)]),qf 17 5 1,ql 18 5 17 1 false, .i (.call 20 308 false [(.s 16),(.s 18)]),qf 20 5 2,ql 21 5 20 1 false, .i (.call 23 308 false [(.s 19),(.s 21)]),qm 8 22]) (.seq (.ops [qm 23 8,qf 24 5 3,ql 25 5 24 1 false, .i (.app 26 5 1 1 (.s 23) (.s 25)),qf 27 5 4,ql 28 5 27 1 false, .i (.app 29 5 1 1 (.s 26) (.s 28)),qm 8 29]) (.seq (.ops [ql 30 3 3 5 true,qm 31 8,qf 32 5 5,ql 33 5 32 5 true, .i (.call 35 258 false [(.s 30),(.s 31),(.s 33)]), .i (.ext 35 (.s 34) 0), .i (.ext 36 (.s 34) 1),qm 6 35,qm 7 36]) .ret)))))⟩
theorem BP:cd qo=some oM:=by kernel_rfl
theorem dg (l:ah) (b:Bytes) (h:Head) (hw:h.wf) (hb:b.length≤900000000):VC cd qo (aE [(true,l.c),(false,[.sl (bytes b)]),(true,h.c)]) (fun rs _=>rs=bu (bx l h) (b++c5 h)):=by
 refine aa BP rfl ?_
 simp(disch:=omega) [oM,Head.c,ah.c,VY]
 refine ae (iW l h hw) rfl rfl ?_
 simp(disch:=omega) [VY]
 refine an (fun h0=> ?_) (fun h0=> ?_)
 case refine_2=>simp(disch:=omega) [h0,bu,VY]
 have hs:=dH h0
 have h1:=ay hs.view
 have h2:=ay hs.height
 have h3:=ay hs.proposer
 have h4:=hs.parent
 have h5:=hs.root
 simp(disch:=omega) [h0,VY]
 refine ae (bQ b h.view hs.view (by omega)) rfl rfl ?_
 simp(disch:=omega) [VY]
 refine ae (bQ (b++aI h.view.toNat) h.height hs.height (by simp only[List.length_append];omega)) rfl rfl ?_
 simp(disch:=omega) [VY]
 refine ae (bQ (b++(aI h.view.toNat++aI h.height.toNat)) h.proposer hs.proposer (by simp only[List.length_append];omega)) rfl rfl ?_
 simp(disch:=omega) [dh,ak,VY]
 refine aq ((gA l (b++(aI h.view.toNat++(aI h.height.toNat++(aI h.proposer.toNat++(h.parent++h.root))))) h.qc hw.2.2.2.2.2 (by simp only[List.length_append];omega)).re (bW (yp h0))) ?_
 simp(disch:=omega) [bu,h0,c5,VY]
def nT (l:ah) (h:Head):Bytes:=if bx l h then I6 (72::c5 h)else []
def Ft (l:ah) (h:Head):List (Bool×List E):=if bx l h then [(false,[.o true (some (5,1)) (bytes (I6 (72::c5 h)))])]else [(false,[.p .nils])]
abbrev gS:Nat:=274
def mB:AF:=⟨2,5,[.tmp 4],(.seq (.ops [.i (.lbox 2 (.s 0)), .i (.lbox 3 (.s 1)), .i (.mov 4 (.c (.val false [.nils])))]) (.seq (.ops [ql 8 2 2 5 true, .i (.bsl 9 5 1 1 [.int .u8 0] [(0,1,(.c (.val false [.int .u8 72])))]),ql 10 3 3 10 true, .i (.call 12 259 false [(.s 8),(.s 9),(.s 10)]),qm 7 11, .i (.ext 12 (.s 7) 0), .i (.ext 13 (.s 7) 1),qm 5 12,qm 6 13]) (.seq (.seq (.ops [qm 14 6, .i (.not 15 (.s 14))]) (.cond (.s 15) (.seq (.ops [.i (.mov 4 (.c (.val false [.nils])))]) .ret) .skip)) (.seq (.ops [qm 16 5,qk 18 321 16,qm 4 17]) .ret))))⟩
theorem Ab:cd gS=some mB:=by kernel_rfl
theorem yx (l:ah) (h:Head) (hw:h.wf):VC cd gS (aE [(true,l.c),(true,h.c)]) (fun rs _=>rs=Ft l h):=by
 have e: [[D.int .u8 72]]=bytes [72]:=rfl
 refine aa Ab rfl ?_
 simp(disch:=omega) [mB,Head.c,ah.c,e,VY]
 cases h0:bx l h with
 |false=>
  refine aq ((dg l [72] h hw (by simp)).re (cV h0)) ?_
  simp(disch:=omega) [Ft,h0,VY]
 |true=>
  have hs:=gk (dH h0)
  refine aq ((dg l [72] h hw (by simp)).re (bW h0)) ?_
  simp(disch:=omega) [VY]
  refine aq (jh (72::c5 h) (by simp;omega)) ?_
  simp(disch:=omega) [Ft,h0,VY]
end Go.Eng.F
namespace Go.Eng.F
open Go.Eng.U (Hw dT dr gU)
theorem dY {n:Int} (h:IntKind.i64.min≤n∧n≤IntKind.i64.max):lx n:=by
 have h1:IntKind.i64.min= -9223372036854775808:=rfl
 have h2:IntKind.i64.max=9223372036854775807:=rfl
 unfold lx
 omega
theorem eK (l:List Bytes):enc (.sl (.sl (.int .u8))) (yw l)= [.sl (bE l)]:=Nj l
theorem eT (k:IntKind) (n:Int):enc (.int k) (.i n)= [.int k n]:=rfl
theorem fH (b:Bool):enc .bool (.b b)= [.bool b]:=rfl
theorem fg (ts:List Ty) (vs:List Tv):enc (.st ts) (.r vs)=wq ts vs:=rfl
theorem cp (t:Ty) (ts:List Ty) (v:Tv) (vs:List Tv):wq (t::ts) (v::vs)=enc t v++wq ts vs:=rfl
theorem c4:wq [] []= []:=rfl
theorem F0 (t:Ty) (xs:List Tv):enc (.sl t) (.l xs)= [.sl (xs.map (enc t))]:=rfl
theorem cZ {t:Ty} {ts:List Ty} {v:Tv} {vs:List Tv}:dZ (t::ts) (v::vs)↔aS t v∧dZ ts vs:=by simp only[dZ]
theorem gG {ts:List Ty} {vs:List Tv}:aS (.st ts) (.r vs)↔dZ ts vs:=by simp only[aS]
theorem ok_int {k:IntKind} {n:Int}:aS (.int k) (.i n)↔k.min≤n∧n≤k.max:=by simp only[aS]
theorem Mg {t:Ty} {xs:List Tv}:aS (.sl t) (.l xs)↔xs.length≤maxLen∧∀x∈xs,aS t x:=by simp only[aS]
theorem ux {x:Bytes} (h:wt (C5 x)≤1048576):Sz x.length:=by rw[L7]at h;unfold Sz;omega
theorem Jb {l:List Bytes} (h:wt (yw l)≤1048576):Sz l.length∧∀x∈l,Sz x.length:=by
 obtain⟨h1,h2⟩:=MC l
 unfold Sz
 exact⟨by omega,fun x hx=>by have:=h2 x hx;omega⟩
theorem gJ (l:List Int):enc (.sl (.int .i64)) (OE l)= [.sl (l.map fun n=> [.int .i64 n])]:=by
 simp only[OE,F0,List.map_map]
 congr 2
theorem jB (s:ByteArray):enc .str (.s s)= [.str s]:=rfl
def ah.tv (l:ah):Tv:= .r [.i l.n, .i l.tx, .i l.txs, .i l.frame, .i l.heads]
theorem ah.enc (l:ah):enc dr l.tv=l.c:=rfl
theorem ah.ex {v:Tv} (h:aS dr v):∃l:ah,v=l.tv:=by
 obtain⟨vs,rfl,h⟩:=h.st
 obtain⟨v0,_,rfl,h0,h⟩:=h.step
 obtain⟨v1,_,rfl,h1,h⟩:=h.step
 obtain⟨v2,_,rfl,h2,h⟩:=h.step
 obtain⟨v3,_,rfl,h3,h⟩:=h.step
 obtain⟨v4,_,rfl,h4,h⟩:=h.step
 obtain rfl:=h.fin
 obtain⟨n0,rfl,_⟩:=h0.int
 obtain⟨n1,rfl,_⟩:=h1.int
 obtain⟨n2,rfl,_⟩:=h2.int
 obtain⟨n3,rfl,_⟩:=h3.int
 obtain⟨n4,rfl,_⟩:=h4.int
 exact⟨⟨n0,n1,n2,n3,n4⟩,rfl⟩
def Qc.tv (q:Qc):Tv:= .r [.i q.view, .i q.height,C5 q.block,C5 q.bits,yw q.tags]
theorem Qc.enc (q:Qc):enc Hw q.tv=q.c:=by simp only[Qc.tv,fg,cp,c4,eT,gT,eK,Qc.c,List.cons_append,List.nil_append]
theorem Qc.ex {v:Tv} (h:aS Hw v):∃q:Qc,v=q.tv:=by
 obtain⟨vs,rfl,h⟩:=h.st
 obtain⟨v0,_,rfl,h0,h⟩:=h.step
 obtain⟨v1,_,rfl,h1,h⟩:=h.step
 obtain⟨v2,_,rfl,h2,h⟩:=h.step
 obtain⟨v3,_,rfl,h3,h⟩:=h.step
 obtain⟨v4,_,rfl,h4,h⟩:=h.step
 obtain rfl:=h.fin
 obtain⟨n0,rfl,_⟩:=h0.int
 obtain⟨n1,rfl,_⟩:=h1.int
 obtain⟨n2,rfl⟩:=gR h2
 obtain⟨n3,rfl⟩:=gR h3
 obtain⟨n4,rfl⟩:=Fv h4
 exact⟨⟨n0,n1,n2,n3,n4⟩,rfl⟩
theorem Qc.of {q:Qc} (h:aS Hw q.tv) (hw:wt q.tv≤1048576):q.wc:=by
 simp only[Qc.tv,gG,cZ,ok_int]at h
 simp only[Qc.tv,wt,z3]at hw
 obtain⟨h0,h1,_⟩:=h
 have h4:=Jb (l:=q.tags) (by omega)
 exact⟨⟨dY h0,dY h1,ux (by omega),ux (by omega),h4.1⟩,h4.2⟩
theorem Qc.rs (q:Qc):Fx q.o (Go.Eng.enc Hw q.tv):=by
 rw[Qc.enc]
 simp only[Qc.o,Qc.c,Fx,D.leaf,and_self]
def Head.tv (h:Head):Tv:= .r [.i h.view, .i h.height, .i h.proposer,C5 h.parent,C5 h.root,h.qc.tv]
theorem Head.enc (h:Head):enc dT h.tv=h.c:=by simp only[Head.tv,Qc.enc,fg,cp,c4,eT,gT,eK,Head.c,Qc.c,List.cons_append,List.nil_append]
theorem Head.ex {v:Tv} (h:aS dT v):∃q:Head,v=q.tv:=by
 obtain⟨vs,rfl,h⟩:=h.st
 obtain⟨v0,_,rfl,h0,h⟩:=h.step
 obtain⟨v1,_,rfl,h1,h⟩:=h.step
 obtain⟨v2,_,rfl,h2,h⟩:=h.step
 obtain⟨v3,_,rfl,h3,h⟩:=h.step
 obtain⟨v4,_,rfl,h4,h⟩:=h.step
 obtain⟨v5,_,rfl,h5,h⟩:=h.step
 obtain rfl:=h.fin
 obtain⟨n0,rfl,_⟩:=h0.int
 obtain⟨n1,rfl,_⟩:=h1.int
 obtain⟨n2,rfl,_⟩:=h2.int
 obtain⟨n3,rfl⟩:=gR h3
 obtain⟨n4,rfl⟩:=gR h4
 obtain⟨n5,rfl⟩:=Qc.ex h5
 exact⟨⟨n0,n1,n2,n3,n4,n5⟩,rfl⟩
theorem Head.of {q:Head} (h:aS dT q.tv) (hw:wt q.tv≤1048576):q.wc:=by
 simp only[Head.tv,gG,cZ]at h
 simp only[Head.tv,wt,z3]at hw
 obtain⟨h0,h1,h2,_,_,h5,_⟩:=h
 have h4:=Qc.of h5 (by omega)
 exact⟨⟨dY (ok_int.1 h0),dY (ok_int.1 h1),dY (ok_int.1 h2),ux (by omega),ux (by omega),h4.1⟩,h4.2⟩
theorem Head.rs (q:Head):Fx q.o (Go.Eng.enc dT q.tv):=by
 rw[Head.enc]
 simp only[Head.o,Head.c,Fx,D.leaf,and_self]
def zC (l:List Head):Tv:= .l (l.map Head.tv)
theorem Ae (l:List Head):enc (.sl dT) (zC l)= [.sl (eF l)]:=by
 simp only[zC,F0,List.map_map,eF]
 congr 2
 exact List.map_congr_left fun x _=>Head.enc x
theorem Ap {v:Tv} (h:aS (.sl dT) v):∃l,v=zC l:=by
 obtain⟨xs,rfl,_,h2⟩:=h.sl
 obtain⟨ys,rfl⟩:=sI (f:=Head.tv) (P:=aS dT) (fun v hv=>Head.ex hv) h2
 exact⟨ys,rfl⟩
theorem E6 {l:List Head} (h:aS (.sl dT) (zC l)) (hw:wt (zC l)≤1048576):Sz l.length∧∀x∈l,x.wc:=by
 unfold zC at h hw
 rw[L5]at hw
 have h2:=(Mg.1 h).2
 simp only[List.length_map]at hw
 refine⟨by unfold Sz;omega,fun x hx=>Head.of (h2 _ (List.mem_map_of_mem hx)) ?_⟩
 have:=vZ (f:=Head.tv) hx
 omega
def Proof.tv (p:Proof):Tv:= .r [zC p.heads,p.qc.tv]
theorem Proof.enc (p:Proof):enc gU p.tv=p.c:=by simp only[Proof.tv,Qc.enc,Ae,fg,cp,c4,eT,Proof.c,Qc.c,List.cons_append,List.nil_append]
theorem Proof.ex {v:Tv} (h:aS gU v):∃q:Proof,v=q.tv:=by
 obtain⟨vs,rfl,h⟩:=h.st
 obtain⟨v0,_,rfl,h0,h⟩:=h.step
 obtain⟨v1,_,rfl,h1,h⟩:=h.step
 obtain rfl:=h.fin
 obtain⟨n0,rfl⟩:=Ap h0
 obtain⟨n1,rfl⟩:=Qc.ex h1
 exact⟨⟨n0,n1⟩,rfl⟩
theorem Proof.of {q:Proof} (h:aS gU q.tv) (hw:wt q.tv≤1048576):q.wf∧(∀h∈q.heads,h.wc)∧q.qc.wc:=by
 simp only[Proof.tv,gG,cZ]at h
 simp only[Proof.tv,wt,z3]at hw
 obtain⟨h0,h1,_⟩:=h
 have h4:=Qc.of h1 (by omega)
 have h5:=E6 h0 (by omega)
 exact⟨⟨⟨h5.1,fun h hh=>(h5.2 h hh).1⟩,h4.1⟩,h5.2,h4⟩
end Go.Eng.F
namespace Go.Eng.F
open Go.Eng.U (Hw dT dr gU HB rT)
theorem HS {l:List Head} {i:Nat} (h:i < l.length):eF (l.take i)++ [l[i].c]=eF (l.take (i+1)):=by
 have e:eF (l.take (i+1))=eF (l.take i)++eF [l[i]]:=by
  rw[List.take_add_one,List.getElem?_eq_getElem h];exact List.map_append
 rw[e];rfl
abbrev kq:Nat:=278
def ku:AF:=⟨1,5,[.tmp 2],(.seq (.ops [.i (.mov 2 (.c (.val false [.nils])))]) (.seq (.ops [.i (.bse 6),qm 3 6]) (.seq (.seq (.ops [qm 7 0,qn 8 7, .i (.mov 9 (qi 0))]) (.block 0 (.loop [18,17,16,15,14,13,12,11,10,5] (.seq (.ops [qd 10 .lss 9 8]) (.seq (.cond (.s 10) .skip (.exit 0)) (.seq (.block 1 (.seq (.ops [.i (.iad 11 (.s 7) (.s 9) 10), .i (.ldh 12 (.s 11) 10 true), .i (.lal 5 qz),qs 5 5 12 10]) (.ops [qm 13 3,ql 14 5 5 10 true,qk 16 205 14, .i (.lsl 16 10 1 qz [(0,10,(.s 15))]), .i (.app 17 45 10 160 (.s 13) (.s 16)),qm 3 17]))) (.ops [.i (.bin 18 .add (.s 9) (qi 1)),qm 9 18]))))))) (.seq (.ops [qm 19 3,qm 2 19]) .ret))))⟩
theorem yb:cd kq=some ku:=by kernel_rfl
theorem FL (l:List Head) (h0:Sz l.length) (hw:∀h∈l,h.wc):VC cd kq (aE [(false,[.sl (eF l)])]) (fun rs _=>rs= [(false,[.o true (some (45,10)) (eF l)])]):=by
 simp only[Sz]at h0
 refine aa yb rfl ?_
 simp(disch:=omega) [ku,cf,VY]
 refine aU (σ:=Nat×Nat) (f1:=_) (es0:=_) (by simp(disch:=omega) [VY];rfl) (by simp(disch:=omega) [VY];rfl) (fun p=> [(9, .val false [.int .i64 p.1]),(3, .val false [.ow 6 p.2])]) (fun p=> [(6, .sl p.2 true true (some (45,10)) (eF (l.take p.1)))])
  (fun p g=>g+p.1=l.length) (0,1) l.length (by simp(disch:=omega) [VY]) (by simp(disch:=omega) [eF,VY]) (by omega) ?_
 rintro⟨i,v⟩ n g hg
 simp only at hg
 simp(disch:=omega) [VY]
 refine ab (fun h1=> ?_) (fun h1=> ?_)
 ·have hx:i < l.length:=by omega
  simp(disch:=omega) [eP hx,Head.c,VY]
  refine ae (iH l[i] (hw _ (List.getElem_mem hx))) rfl rfl ?_
  have hl:(eF (l.take i)).length=i:=by rw[cf];simp;omega
  have hs:=HS hx
  simp only[Head.c]at hs
  simp(disch:=omega) [hl,Head.o,hs,VY]
  exact⟨i+1,n+10,g - 1,by omega,by omega,⟨by omega,by omega⟩,by omega,rfl⟩
 ·simp(disch:=omega) [VY]
  have:i=l.length:=by omega
  subst this
  rw[List.take_length]
abbrev mP:Nat:=320
def mz:AF:=⟨1,5,[.tmp 2],(.seq (.ops [.i (.mov 2 (.c (.val false [.nils])))]) (.seq (.ops [.i (.bse 6),qm 3 6]) (.seq (.seq (.ops [qm 7 0,qn 8 7, .i (.mov 9 (qi 0))]) (.block 0 (.loop [18,17,16,15,14,13,12,11,10,5] (.seq (.ops [qd 10 .lss 9 8]) (.seq (.cond (.s 10) .skip (.exit 0)) (.seq (.block 1 (.seq (.ops [.i (.iad 11 (.s 7) (.s 9) 10), .i (.ldh 12 (.s 11) 10 true), .i (.lal 5 qz),qs 5 5 12 10]) (.ops [qm 13 3,ql 14 5 5 10 true,qk 16 267 14, .i (.lsl 16 10 1 qz [(0,10,(.s 15))]), .i (.app 17 45 10 160 (.s 13) (.s 16)),qm 3 17]))) (.ops [.i (.bin 18 .add (.s 9) (qi 1)),qm 9 18]))))))) (.seq (.ops [qm 19 3,qm 2 19]) .ret))))⟩
theorem Aa:cd mP=some mz:=by kernel_rfl
theorem HD (l:List Head) (h0:Sz l.length) (hw:∀h∈l,h.wc):VC cd mP (aE [(false,[.sl (eF l)])]) (fun rs _=>rs= [(false,[.o true (some (45,10)) (eF l)])]):=by
 simp only[Sz]at h0
 refine aa Aa rfl ?_
 simp(disch:=omega) [mz,cf,VY]
 refine aU (σ:=Nat×Nat) (f1:=_) (es0:=_) (by simp(disch:=omega) [VY];rfl) (by simp(disch:=omega) [VY];rfl) (fun p=> [(9, .val false [.int .i64 p.1]),(3, .val false [.ow 6 p.2])]) (fun p=> [(6, .sl p.2 true true (some (45,10)) (eF (l.take p.1)))])
  (fun p g=>g+p.1=l.length) (0,1) l.length (by simp(disch:=omega) [VY]) (by simp(disch:=omega) [eF,VY]) (by omega) ?_
 rintro⟨i,v⟩ n g hg
 simp only at hg
 simp(disch:=omega) [VY]
 refine ab (fun h1=> ?_) (fun h1=> ?_)
 ·have hx:i < l.length:=by omega
  simp(disch:=omega) [eP hx,Head.c,VY]
  refine ae (l5 l[i] (hw _ (List.getElem_mem hx))) rfl rfl ?_
  have hl:(eF (l.take i)).length=i:=by rw[cf];simp;omega
  have hs:=HS hx
  simp only[Head.c]at hs
  simp(disch:=omega) [hl,Head.o,hs,VY]
  exact⟨i+1,n+10,g - 1,by omega,by omega,⟨by omega,by omega⟩,by omega,rfl⟩
 ·simp(disch:=omega) [VY]
  have:i=l.length:=by omega
  subst this
  rw[List.take_length]
def Proof.wc (p:Proof):Prop:=p.wf∧(∀h∈p.heads,h.wc)∧p.qc.wc
def Proof.o (p:Proof):List E:= [.o true (some (45,10)) (eF p.heads), .p (.int .i64 p.qc.view), .p (.int .i64 p.qc.height), .o true (some (5,1)) (bytes p.qc.block), .o true (some (5,1)) (bytes p.qc.bits), .o true (some (22,1)) (bE p.qc.tags)]
abbrev hM:Nat:=208
def g9:AF:=⟨1,4,[.cell 2 6 true],(.seq (.ops [.i (.lbox 1 (.s 0)), .i (.lal 2 [.nils, .int .i64 0, .int .i64 0, .nils, .nils, .nils])]) (.seq (.ops [qf 3 1 0,ql 4 1 3 1 false,qk 6 278 4,qf 6 1 1,ql 7 1 6 5 true,qk 9 204 7, .i (.bld 9 [.nils, .int .i64 0, .int .i64 0, .nils, .nils, .nils] [(0,1,(.s 5)),(1,5,(.s 8))]),qs 2 2 9 6]) .ret))⟩
theorem sW:cd hM=some g9:=by kernel_rfl
theorem zu (p:Proof) (hw:p.wc):VC cd hM (aE [(true,p.c)]) (fun rs _=>rs= [(true,p.o)]):=by
 refine aa sW rfl ?_
 simp(disch:=omega) [g9,Proof.c,VY]
 refine ae (FL p.heads hw.1.1.1 hw.2.1) rfl rfl ?_
 simp(disch:=omega) [VY]
 refine ae (l6 p.qc hw.2.2) rfl rfl ?_
 simp(disch:=omega) [Proof.o,Qc.o,VY]
abbrev o6:Nat:=272
def qY:AF:=⟨1,4,[.cell 2 6 true],(.seq (.ops [.i (.lbox 1 (.s 0)), .i (.lal 2 [.nils, .int .i64 0, .int .i64 0, .nils, .nils, .nils])]) (.seq (.ops [qf 3 1 0,ql 4 1 3 1 false,qk 6 320 4,qf 6 1 1,ql 7 1 6 5 true,qk 9 264 7, .i (.bld 9 [.nils, .int .i64 0, .int .i64 0, .nils, .nils, .nils] [(0,1,(.s 5)),(1,5,(.s 8))]),qs 2 2 9 6]) .ret))⟩
theorem Co:cd o6=some qY:=by kernel_rfl
theorem I5 (p:Proof) (hw:p.wc):VC cd o6 (aE [(true,p.c)]) (fun rs _=>rs= [(true,p.o)]):=by
 refine aa Co rfl ?_
 simp(disch:=omega) [qY,Proof.c,VY]
 refine ae (HD p.heads hw.1.1.1 hw.2.1) rfl rfl ?_
 simp(disch:=omega) [VY]
 refine ae (vd p.qc hw.2.2) rfl rfl ?_
 simp(disch:=omega) [Proof.o,Qc.o,VY]
def dX (p:Proof):List (Bool×List E):= [(true,[.p (.int .i64 6), .p (.int .i64 0), .p (.int .i64 0), .p .nils, .p (.int .i64 0), .p .nils, .p (.int .i64 0), .p (.int .i64 0), .p .nils, .p .nils, .p .nils, .p (.int .i64 0), .p (.int .i64 0), .p (.int .i64 0), .p .nils, .p .nils, .p (.int .i64 0), .p (.int .i64 0), .p .nils, .p .nils, .p .nils, .p (.int .i64 0), .p (.int .i64 0), .p (.int .i64 0), .p .nils, .p .nils, .p (.int .i64 0), .p (.int .i64 0), .p .nils, .p .nils, .p .nils, .p .nils, .p (.int .i64 0), .p .nils, .o true (some (45,10)) (eF p.heads), .p (.int .i64 p.qc.view), .p (.int .i64 p.qc.height), .o true (some (5,1)) (bytes p.qc.block), .o true (some (5,1)) (bytes p.qc.bits), .o true (some (22,1)) (bE p.qc.tags), .p (.int .i64 0), .p (.int .i64 0), .p (.int .i64 0), .p .nils, .p .nils])]
abbrev sj:Nat:=201
def pz:AF:=⟨1,3,[.cell 2 45 true],(.seq (.ops [.i (.lbox 1 (.s 0)), .i (.lal 2 [.int .i64 0, .int .i64 0, .int .i64 0, .nils, .int .i64 0, .nils, .int .i64 0, .int .i64 0, .nils, .nils, .nils, .int .i64 0, .int .i64 0, .int .i64 0, .nils, .nils, .int .i64 0, .int .i64 0, .nils, .nils, .nils, .int .i64 0, .int .i64 0, .int .i64 0, .nils, .nils, .int .i64 0, .int .i64 0, .nils, .nils, .nils, .nils, .int .i64 0, .nils, .nils, .int .i64 0, .int .i64 0, .nils, .nils, .nils, .int .i64 0, .int .i64 0, .int .i64 0, .nils, .nils])]) (.seq (.ops [ql 3 1 1 6 true,qk 5 208 3, .i (.bld 5 [.int .i64 0, .int .i64 0, .int .i64 0, .nils, .int .i64 0, .nils, .int .i64 0, .int .i64 0, .nils, .nils, .nils, .int .i64 0, .int .i64 0, .int .i64 0, .nils, .nils, .int .i64 0, .int .i64 0, .nils, .nils, .nils, .int .i64 0, .int .i64 0, .int .i64 0, .nils, .nils, .int .i64 0, .int .i64 0, .nils, .nils, .nils, .nils, .int .i64 0, .nils, .nils, .int .i64 0, .int .i64 0, .nils, .nils, .nils, .int .i64 0, .int .i64 0, .int .i64 0, .nils, .nils] [(0,1,(qi 6)),(34,6,(.s 4))]),qs 2 2 5 45]) .ret))⟩
theorem B7:cd sj=some pz:=by kernel_rfl
theorem zW (p:Proof) (hw:p.wc):VC cd sj (aE [(true,p.c)]) (fun rs _=>rs=dX p):=by
 refine aa B7 rfl ?_
 simp(disch:=omega) [pz,Proof.c,VY]
 refine ae (zu p hw) rfl rfl ?_
 simp(disch:=omega) [dX,Proof.o,VY]
abbrev rW:Nat:=192
def qh:AF:=⟨1,3,[.cell 2 45 true],(.seq (.ops [.i (.lbox 1 (.s 0)), .i (.lal 2 [.int .i64 0, .int .i64 0, .int .i64 0, .nils, .int .i64 0, .nils, .int .i64 0, .int .i64 0, .nils, .nils, .nils, .int .i64 0, .int .i64 0, .int .i64 0, .nils, .nils, .int .i64 0, .int .i64 0, .nils, .nils, .nils, .int .i64 0, .int .i64 0, .int .i64 0, .nils, .nils, .int .i64 0, .int .i64 0, .nils, .nils, .nils, .nils, .int .i64 0, .nils, .nils, .int .i64 0, .int .i64 0, .nils, .nils, .nils, .int .i64 0, .int .i64 0, .int .i64 0, .nils, .nils])]) (.seq (.ops [ql 3 1 1 6 true,qk 5 272 3, .i (.bld 5 [.int .i64 0, .int .i64 0, .int .i64 0, .nils, .int .i64 0, .nils, .int .i64 0, .int .i64 0, .nils, .nils, .nils, .int .i64 0, .int .i64 0, .int .i64 0, .nils, .nils, .int .i64 0, .int .i64 0, .nils, .nils, .nils, .int .i64 0, .int .i64 0, .int .i64 0, .nils, .nils, .int .i64 0, .int .i64 0, .nils, .nils, .nils, .nils, .int .i64 0, .nils, .nils, .int .i64 0, .int .i64 0, .nils, .nils, .nils, .int .i64 0, .int .i64 0, .int .i64 0, .nils, .nils] [(0,1,(qi 6)),(34,6,(.s 4))]),qs 2 2 5 45]) .ret))⟩
theorem AB:cd rW=some qh:=by kernel_rfl
theorem na (p:Proof) (hw:p.wc):VC cd rW (aE [(true,p.c)]) (fun rs _=>rs=dX p):=by
 refine aa AB rfl ?_
 simp(disch:=omega) [qh,Proof.c,VY]
 refine ae (I5 p hw) rfl rfl ?_
 simp(disch:=omega) [dX,Proof.o,VY]
theorem Proof.Rz {q:Proof} (h:aS gU q.tv) (hw:wt q.tv≤1048576):q.wc:=Proof.of h hw
structure Block where
 head:Head
 txs:List Bytes
def Block.c (x:Block):List D:=x.head.c++ [.sl (bE x.txs)]
def Block.wc (x:Block):Prop:=x.head.wc∧mH x.txs
def Block.o (x:Block):List E:= [.p (.int .i64 x.head.view), .p (.int .i64 x.head.height), .p (.int .i64 x.head.proposer), .o true (some (5,1)) (bytes x.head.parent), .o true (some (5,1)) (bytes x.head.root), .p (.int .i64 x.head.qc.view), .p (.int .i64 x.head.qc.height), .o true (some (5,1)) (bytes x.head.qc.block), .o true (some (5,1)) (bytes x.head.qc.bits), .o true (some (22,1)) (bE x.head.qc.tags), .o true (some (22,1)) (bE x.txs)]
abbrev hC:Nat:=206
def hQ:AF:=⟨1,4,[.cell 2 11 true],(.seq (.ops [.i (.lbox 1 (.s 0)), .i (.lal 2 [.int .i64 0, .int .i64 0, .int .i64 0, .nils, .nils, .int .i64 0, .int .i64 0, .nils, .nils, .nils, .nils])]) (.seq (.ops [qf 3 1 0,ql 4 1 3 10 true,qk 6 205 4,qf 6 1 10,ql 7 1 6 1 false,qk 9 277 7, .i (.bld 9 [.int .i64 0, .int .i64 0, .int .i64 0, .nils, .nils, .int .i64 0, .int .i64 0, .nils, .nils, .nils, .nils] [(0,10,(.s 5)),(10,1,(.s 8))]),qs 2 2 9 11]) .ret))⟩
theorem sM:cd hC=some hQ:=by kernel_rfl
theorem zG (x:Block) (hw:x.wc):VC cd hC (aE [(true,x.c)]) (fun rs _=>rs= [(true,x.o)]):=by
 refine aa sM rfl ?_
 simp(disch:=omega) [hQ,Block.c,Head.c,List.cons_append,List.nil_append,VY]
 refine ae (iH x.head hw.1) rfl rfl ?_
 simp(disch:=omega) [Head.o,VY]
 refine ae (ra x.txs hw.2) rfl rfl ?_
 simp(disch:=omega) [Block.o,VY]
abbrev pO:Nat:=268
def pg:AF:=⟨1,4,[.cell 2 11 true],(.seq (.ops [.i (.lbox 1 (.s 0)), .i (.lal 2 [.int .i64 0, .int .i64 0, .int .i64 0, .nils, .nils, .int .i64 0, .int .i64 0, .nils, .nils, .nils, .nils])]) (.seq (.ops [qf 3 1 0,ql 4 1 3 10 true,qk 6 267 4,qf 6 1 10,ql 7 1 6 1 false,qk 9 316 7, .i (.bld 9 [.int .i64 0, .int .i64 0, .int .i64 0, .nils, .nils, .int .i64 0, .int .i64 0, .nils, .nils, .nils, .nils] [(0,10,(.s 5)),(10,1,(.s 8))]),qs 2 2 9 11]) .ret))⟩
theorem AY:cd pO=some pg:=by kernel_rfl
theorem IL (x:Block) (hw:x.wc):VC cd pO (aE [(true,x.c)]) (fun rs _=>rs= [(true,x.o)]):=by
 refine aa AY rfl ?_
 simp(disch:=omega) [pg,Block.c,Head.c,List.cons_append,List.nil_append,VY]
 refine ae (l5 x.head hw.1) rfl rfl ?_
 simp(disch:=omega) [Head.o,VY]
 refine ae (lO x.txs hw.2) rfl rfl ?_
 simp(disch:=omega) [Block.o,VY]
def ee (x:Block):List (Bool×List E):= [(true,[.p (.int .i64 4), .p (.int .i64 0), .p (.int .i64 0), .p .nils, .p (.int .i64 0), .p .nils, .p (.int .i64 0), .p (.int .i64 0), .p .nils, .p .nils, .p .nils, .p (.int .i64 0), .p (.int .i64 0), .p (.int .i64 0), .p .nils, .p .nils, .p (.int .i64 0), .p (.int .i64 0), .p .nils, .p .nils, .p .nils, .p (.int .i64 x.head.view), .p (.int .i64 x.head.height), .p (.int .i64 x.head.proposer), .o true (some (5,1)) (bytes x.head.parent), .o true (some (5,1)) (bytes x.head.root), .p (.int .i64 x.head.qc.view), .p (.int .i64 x.head.qc.height), .o true (some (5,1)) (bytes x.head.qc.block), .o true (some (5,1)) (bytes x.head.qc.bits), .o true (some (22,1)) (bE x.head.qc.tags), .o true (some (22,1)) (bE x.txs), .p (.int .i64 0), .p .nils, .p .nils, .p (.int .i64 0), .p (.int .i64 0), .p .nils, .p .nils, .p .nils, .p (.int .i64 0), .p (.int .i64 0), .p (.int .i64 0), .p .nils, .p .nils])]
abbrev rC:Nat:=199
def oB:AF:=⟨1,3,[.cell 2 45 true],(.seq (.ops [.i (.lbox 1 (.s 0)), .i (.lal 2 [.int .i64 0, .int .i64 0, .int .i64 0, .nils, .int .i64 0, .nils, .int .i64 0, .int .i64 0, .nils, .nils, .nils, .int .i64 0, .int .i64 0, .int .i64 0, .nils, .nils, .int .i64 0, .int .i64 0, .nils, .nils, .nils, .int .i64 0, .int .i64 0, .int .i64 0, .nils, .nils, .int .i64 0, .int .i64 0, .nils, .nils, .nils, .nils, .int .i64 0, .nils, .nils, .int .i64 0, .int .i64 0, .nils, .nils, .nils, .int .i64 0, .int .i64 0, .int .i64 0, .nils, .nils])]) (.seq (.ops [ql 3 1 1 11 true,qk 5 206 3, .i (.bld 5 [.int .i64 0, .int .i64 0, .int .i64 0, .nils, .int .i64 0, .nils, .int .i64 0, .int .i64 0, .nils, .nils, .nils, .int .i64 0, .int .i64 0, .int .i64 0, .nils, .nils, .int .i64 0, .int .i64 0, .nils, .nils, .nils, .int .i64 0, .int .i64 0, .int .i64 0, .nils, .nils, .int .i64 0, .int .i64 0, .nils, .nils, .nils, .nils, .int .i64 0, .nils, .nils, .int .i64 0, .int .i64 0, .nils, .nils, .nils, .int .i64 0, .int .i64 0, .int .i64 0, .nils, .nils] [(0,1,(qi 4)),(21,11,(.s 4))]),qs 2 2 5 45]) .ret))⟩
theorem BE:cd rC=some oB:=by kernel_rfl
theorem zo (x:Block) (hw:x.wc):VC cd rC (aE [(true,x.c)]) (fun rs _=>rs=ee x):=by
 refine aa BE rfl ?_
 simp(disch:=omega) [oB,Block.c,Head.c,List.cons_append,List.nil_append,VY]
 refine ae (zG x hw) rfl rfl ?_
 simp(disch:=omega) [ee,Block.o,VY]
abbrev ry:Nat:=188
def qS:AF:=⟨1,3,[.cell 2 45 true],(.seq (.ops [.i (.lbox 1 (.s 0)), .i (.lal 2 [.int .i64 0, .int .i64 0, .int .i64 0, .nils, .int .i64 0, .nils, .int .i64 0, .int .i64 0, .nils, .nils, .nils, .int .i64 0, .int .i64 0, .int .i64 0, .nils, .nils, .int .i64 0, .int .i64 0, .nils, .nils, .nils, .int .i64 0, .int .i64 0, .int .i64 0, .nils, .nils, .int .i64 0, .int .i64 0, .nils, .nils, .nils, .nils, .int .i64 0, .nils, .nils, .int .i64 0, .int .i64 0, .nils, .nils, .nils, .int .i64 0, .int .i64 0, .int .i64 0, .nils, .nils])]) (.seq (.ops [ql 3 1 1 11 true,qk 5 268 3, .i (.bld 5 [.int .i64 0, .int .i64 0, .int .i64 0, .nils, .int .i64 0, .nils, .int .i64 0, .int .i64 0, .nils, .nils, .nils, .int .i64 0, .int .i64 0, .int .i64 0, .nils, .nils, .int .i64 0, .int .i64 0, .nils, .nils, .nils, .int .i64 0, .int .i64 0, .int .i64 0, .nils, .nils, .int .i64 0, .int .i64 0, .nils, .nils, .nils, .nils, .int .i64 0, .nils, .nils, .int .i64 0, .int .i64 0, .nils, .nils, .nils, .int .i64 0, .int .i64 0, .int .i64 0, .nils, .nils] [(0,1,(qi 4)),(21,11,(.s 4))]),qs 2 2 5 45]) .ret))⟩
theorem BL:cd ry=some qS:=by kernel_rfl
theorem nF (x:Block) (hw:x.wc):VC cd ry (aE [(true,x.c)]) (fun rs _=>rs=ee x):=by
 refine aa BL rfl ?_
 simp(disch:=omega) [qS,Block.c,Head.c,List.cons_append,List.nil_append,VY]
 refine ae (IL x hw) rfl rfl ?_
 simp(disch:=omega) [ee,Block.o,VY]
def Block.tv (x:Block):Tv:= .r [x.head.tv,yw x.txs]
theorem Block.enc (x:Block):enc rT x.tv=x.c:=by simp only[Block.tv,Head.enc,fg,cp,c4,eT,fH,jB,gT,eK,gJ,Block.c,Head.c,Head.c,Qc.c,List.cons_append,List.nil_append,List.append_assoc]
theorem Block.ex {v:Tv} (h:aS rT v):∃x:Block,v=x.tv:=by
 obtain⟨vs,rfl,h⟩:=h.st
 obtain⟨v0,_,rfl,h0,h⟩:=h.step
 obtain⟨v1,_,rfl,h1,h⟩:=h.step
 obtain rfl:=h.fin
 obtain⟨n0,rfl⟩:=Head.ex h0
 obtain⟨n1,rfl⟩:=Fv h1
 exact⟨⟨n0,n1⟩,rfl⟩
theorem Block.of {x:Block} (h:aS rT x.tv) (hw:wt x.tv≤1048576):x.wc:=by
 simp only[Block.tv,gG,cZ]at h
 simp only[Block.tv,wt,z3]at hw
 obtain⟨h0,h1,_⟩:=h
 exact⟨Head.of h0 (by omega),Jb (by omega)⟩
theorem Block.Rz {q:Block} (h:aS rT q.tv) (hw:wt q.tv≤1048576):q.wc:=Block.of h hw
end Go.Eng.F
namespace Go.Eng.F
structure df where
 l:ah
 heads:List Head
def df.c (f:df):List D:=f.l.c++ [.sl (eF f.heads)]
def df.wf (f:df):Prop:=sr f.heads
def df.wc (f:df):Prop:=Sz f.heads.length∧∀h∈f.heads,h.wc
theorem df.wc.wf {f:df} (h:f.wc):f.wf:=⟨h.1,fun x hx=>(h.2 x hx).1⟩
def hh (l:ah) (hs:List Head) (i:Nat):Bytes:=match hs[i]? with|some h=>nT l h|none=> []
theorem ag:bytes []= []:=rfl
def df.o (f:df):List E:= [.p (.int .i64 f.l.n), .p (.int .i64 f.l.tx), .p (.int .i64 f.l.txs), .p (.int .i64 f.l.frame), .p (.int .i64 f.l.heads), .o true (some (45,10)) (eF f.heads)]
end Go.Eng.F
namespace Go.Eng.F
open Go.Eng.U (Hw dT dr gU Dd jQ po yD)
structure Row where
 weight:Int
 key:Bytes
def Row.c (r:Row):List D:= [.int .i64 r.weight, .sl (bytes r.key)]
def Row.wf (r:Row):Prop:=lx r.weight∧Sz r.key.length
structure Table where
 rows:List Row
def rws (l:List Row):List (List D):=l.map Row.c
def Table.c (t:Table):List D:= [.sl (rws t.rows)]
def Table.wf (t:Table):Prop:=Sz t.rows.length∧∀r∈t.rows,r.wf
def Row.tv (x:Row):Tv:= .r [.i x.weight,C5 x.key]
theorem Row.enc (x:Row):enc Dd x.tv=x.c:=by simp only[Row.tv,fg,cp,c4,eT,fH,jB,gT,eK,gJ,Row.c,List.cons_append,List.nil_append,List.append_assoc]
theorem Row.ex {v:Tv} (h:aS Dd v):∃x:Row,v=x.tv:=by
 obtain⟨vs,rfl,h⟩:=h.st
 obtain⟨v0,_,rfl,h0,h⟩:=h.step
 obtain⟨v1,_,rfl,h1,h⟩:=h.step
 obtain rfl:=h.fin
 obtain⟨n0,rfl,_⟩:=h0.int
 obtain⟨n1,rfl⟩:=gR h1
 exact⟨⟨n0,n1⟩,rfl⟩
theorem Row.of {x:Row} (h:aS Dd x.tv) (hw:wt x.tv≤1048576):x.wf:=by
 simp only[Row.tv,gG,cZ]at h
 simp only[Row.tv,wt,z3]at hw
 obtain⟨h0,h1,_⟩:=h
 exact⟨dY (ok_int.1 h0),ux (by omega)⟩
def II (l:List Row):Tv:= .l (l.map Row.tv)
theorem Nz (l:List Row):enc (.sl Dd) (II l)= [.sl (rws l)]:=by
 simp only[II,F0,List.map_map,rws]
 congr 2
 exact List.map_congr_left fun x _=>Row.enc x
theorem ND {v:Tv} (h:aS (.sl Dd) v):∃l,v=II l:=by
 obtain⟨xs,rfl,_,h2⟩:=h.sl
 obtain⟨ys,rfl⟩:=sI (f:=Row.tv) (P:=aS Dd) (fun v hv=>Row.ex hv) h2
 exact⟨ys,rfl⟩
theorem Pa {l:List Row} (h:aS (.sl Dd) (II l)) (hw:wt (II l)≤1048576):Sz l.length∧∀x∈l,x.wf:=by
 unfold II at h hw
 rw[L5]at hw
 have h2:=(Mg.1 h).2
 simp only[List.length_map]at hw
 refine⟨by unfold Sz;omega,fun x hx=>Row.of (h2 _ (List.mem_map_of_mem hx)) ?_⟩
 have:=vZ (f:=Row.tv) hx
 omega
def Table.tv (x:Table):Tv:= .r [II x.rows]
theorem Table.enc (x:Table):enc jQ x.tv=x.c:=by simp only[Table.tv,Nz,fg,cp,c4,eT,fH,jB,gT,eK,gJ,Table.c,List.cons_append,List.nil_append,List.append_assoc]
theorem Table.ex {v:Tv} (h:aS jQ v):∃x:Table,v=x.tv:=by
 obtain⟨vs,rfl,h⟩:=h.st
 obtain⟨v0,_,rfl,h0,h⟩:=h.step
 obtain rfl:=h.fin
 obtain⟨n0,rfl⟩:=ND h0
 exact⟨⟨n0⟩,rfl⟩
theorem Table.of {x:Table} (h:aS jQ x.tv) (hw:wt x.tv≤1048576):x.wf:=by
 simp only[Table.tv,gG,cZ]at h
 simp only[Table.tv,wt,z3]at hw
 obtain⟨h0,_⟩:=h
 exact Pa h0 (by omega)
end Go.Eng.F
namespace Go.Eng.F
theorem AH (n:Nat):List.replicate n [D.int .u8 0]=bytes (List.replicate n 0):=by simp[bytes]
theorem gB {b:Bytes} (h:hash b=true):b.length=32:=by simpa[hash]using h
theorem ec {n a b:Int} (h:dK n a b=true):a≤n∧n≤b:=by simpa[dK]using h
end Go.Eng.F
namespace Go.Eng.F
def ct (c:Nat):Nat:=if c % 2=1 then(c / 2) ^^^ 3988292384 else c / 2
def RB:Nat→Nat→Nat
 |0,c=>c
 |n+1,c=>ct (RB n c)
def Rb (c:Nat) (b:Bytes):Nat:=b.foldl (fun c x=>RB 8 (c ^^^ x.toNat)) c
def N1 (c:Nat) (b:Bytes):Nat:=Rb (c ^^^ 4294967295) b ^^^ 4294967295
def RL (b:Bytes):Nat:=N1 0 b
end Go.Eng.F
namespace Go.Eng.F
def PQ:Bytes→Nat
 | []=>0
 |x::r=>x.toNat+256 * PQ r
abbrev jL:Nat:=248
def jX:AF:=⟨3,6,[.tmp 6, .tmp 7, .tmp 8],(.seq (.ops [.i (.mov 6 (.c (.val false [.nils]))), .i (.mov 7 (qi 0)), .i (.mov 8 (qi 0))]) (.seq (.seq (.ops [qm 9 1,qm 10 0,qn 11 10, .i (.call 13 158 false [(.s 9),(qi 0),(.s 11)]), .i (.not 13 (.s 12)),qm 14 13, .g 14 false 16 (.mov 15 (.s 2)), .g 14 false 17 (.mov 16 (.s 0)), .g 14 false 18 (.len 17 false (.s 16)), .g 14 false 19 (.mov 18 (.s 1)), .g 14 false 20 (.bin 19 .sub (.s 17) (.s 18)), .g 14 false 21 (.call 21 158 false [(.s 15),(qi 0),(.s 19)]), .g 14 false 22 (.not 21 (.s 20)), .i (.pick 22 (.s 14) (qb true) (.s 21))]) (.cond (.s 22) (.seq (.ops [.i (.mov 6 (.c (.val false [.nils]))), .i (.mov 7 (qi 0)), .i (.mov 8 (qi 1))]) .ret) .skip)) (.seq (.ops [qm 23 0,qm 24 1,qm 25 1,qm 26 2,qd 27 .add 25 26, .i (.fV 28 1 (.s 23) (some (.s 24)) (some (.s 27))),qk 30 93 28,qm 30 1,qm 31 2,qd 32 .add 30 31,qm 6 29,qm 7 32, .i (.mov 8 (qi 0))]) .ret)))⟩
theorem tW:cd jL=some jX:=by kernel_rfl
theorem Cs (b:Bytes) (a n:Nat) (h:a+n≤b.length) (hb:b.length≤1073741824):VC cd jL (aE [(false,[.sl (bytes b)]),(false,[.int .i64 (a:Int)]),(false,[.int .i64 (n:Int)])]) (fun rs _=>rs= [(false,[.o true (some (5,1)) (bytes ((b.drop a).take n))]),(false,[.p (.int .i64 ((a+n:Nat):Int))]),(false,[.p (.int .i64 0)])]):=by
 have e1:dK (a:Int) 0 (b.length:Int)=true:=by simp[dK];omega
 have e2:dK (n:Int) 0 ((b.length:Int) - (a:Int))=true:=by simp[dK];omega
 have e3:((bytes b).drop a).take n=bytes ((b.drop a).take n):=by simp[bytes]
 have e4:((a:Int)+(n:Int) - (a:Int)).toNat=n:=by omega
 have e5:(a:Int)+(n:Int)≤(b.length:Int):=by omega
 have e6:(a:Int)≤(a:Int)+(n:Int):=by omega
 refine aa tW rfl ?_
 simp(disch:=omega) [jX,VY]
 refine ae (aH _ _ _) rfl rfl ?_
 simp(disch:=omega) [e1,VY]
 refine ae (aH _ _ _) rfl rfl ?_
 simp(disch:=omega) [e2,e3,e4,e5,e6,VY]
 refine aq (aO ((b.drop a).take n) (by simp;omega)) ?_
 simp(disch:=omega) [VY]
def P8 (s:Bytes) (a:Nat):Nat:=PQ ((s.drop (a+2)).take 2)
def RK (s:Bytes) (a:Nat):Nat:=PQ ((s.drop (a+4)).take 4)
def RQ (s:Bytes) (a:Nat):Bytes:=(s.drop (a+8)).take (P8 s a)
def Ag (l:ah) (s:Bytes) (a:Nat):Int×Int:=
 if l.ok=true∧a < s.length then
  if(s.getD a 0).toNat=181 then
   if a+1 < s.length∧¬(s.getD (a+1) 0).toNat=70 then(0,0)else
   if s.length - a < 4 then(1,0)else if ¬dK (P8 s a) 1 l.frame=true then(0,0)else if s.length - a < 8+P8 s a then(1,8+P8 s a)else if RK s a=RL (RQ s a)then(3,8+P8 s a)else(2,8+P8 s a)
  else(0,0)
 else(0,0)
structure jT where
 skip:Int
 buf:Bytes
def jT.c (p:jT):List D:= [.int .i64 p.skip, .sl (bytes p.buf)]
end Go.Eng.F
namespace Go.Eng.F
end Go.Eng.F
namespace Go.Eng.F
open Go.Eng.U (Hw dT dr Al)
def df.tv (f:df):Tv:= .r [f.l.tv,zC f.heads]
theorem df.enc (f:df):enc Al f.tv=f.c:=by simp only[df.tv,Ae,fg,cp,c4,ah.enc,df.c,List.append_nil]
theorem df.ex {v:Tv} (h:aS Al v):∃q:df,v=q.tv:=by
 obtain⟨vs,rfl,h⟩:=h.st
 obtain⟨v0,_,rfl,h0,h⟩:=h.step
 obtain⟨v1,_,rfl,h1,h⟩:=h.step
 obtain rfl:=h.fin
 obtain⟨n0,rfl⟩:=ah.ex h0
 obtain⟨n1,rfl⟩:=Ap h1
 exact⟨⟨n0,n1⟩,rfl⟩
theorem df.of {f:df} (h:aS Al f.tv) (hw:wt f.tv≤1048576):f.wc∧aS dr f.l.tv∧f.heads.length≤1048576:=by
 simp only[df.tv,gG,cZ]at h
 simp only[df.tv,wt,z3]at hw
 obtain⟨h0,h1,_⟩:=h
 have h5:=E6 h1 (by omega)
 have h6:f.heads.length≤wt (zC f.heads):=by unfold zC;rw[L5,List.length_map];omega
 exact⟨⟨h5.1,h5.2⟩,gG.2 (gG.1 h0),by omega⟩
theorem Qa (b:Bool):OQ (bl b) [(.bool, .b b)]:=⟨rfl,by simp only[fH,Fx,D.leaf,and_self],trivial,trivial⟩
end Go.Eng.F
namespace Go.Eng.F
structure eM where
 l:ah
 t:Table
 push:jT
 chain:List Head
def eM.c (x:eM):List D:= [.int .i64 x.l.n, .int .i64 x.l.tx, .int .i64 x.l.txs, .int .i64 x.l.frame, .int .i64 x.l.heads, .sl (rws x.t.rows), .int .i64 x.push.skip, .sl (bytes x.push.buf), .sl (eF x.chain)]
def eM.wc (x:eM):Prop:=x.t.wf∧x.push.buf.length≤1073741824∧Sz x.chain.length∧∀h∈x.chain,h.wc
def ht (hs:List Head) (i:Nat):Int:=match hs[i]? with|some h=>h.height|none=>0
structure sX where
 l:ah
 t:Table
 x:eM
 own:List Head
def sX.c (d:sX):List D:= [.int .i64 d.l.n, .int .i64 d.l.tx, .int .i64 d.l.txs, .int .i64 d.l.frame, .int .i64 d.l.heads, .sl (rws d.t.rows), .int .i64 d.x.l.n, .int .i64 d.x.l.tx, .int .i64 d.x.l.txs, .int .i64 d.x.l.frame, .int .i64 d.x.l.heads, .sl (rws d.x.t.rows), .int .i64 d.x.push.skip, .sl (bytes d.x.push.buf), .sl (eF d.x.chain), .sl (eF d.own)]
def sX.wc (d:sX):Prop:=d.t.wf∧d.x.wc∧Sz d.own.length∧∀h∈d.own,h.wc
end Go.Eng.F
namespace Go.Eng.F
open Go.Eng.U (Hw dT dr jQ yD po J5)
def jT.wf (p:jT):Prop:=lx p.skip∧Sz p.buf.length
def jT.tv (x:jT):Tv:= .r [.i x.skip,C5 x.buf]
theorem jT.enc (x:jT):enc yD x.tv=x.c:=by simp only[jT.tv,fg,cp,c4,eT,fH,jB,gT,eK,gJ,jT.c,List.cons_append,List.nil_append,List.append_assoc]
theorem jT.ex {v:Tv} (h:aS yD v):∃x:jT,v=x.tv:=by
 obtain⟨vs,rfl,h⟩:=h.st
 obtain⟨v0,_,rfl,h0,h⟩:=h.step
 obtain⟨v1,_,rfl,h1,h⟩:=h.step
 obtain rfl:=h.fin
 obtain⟨n0,rfl,_⟩:=h0.int
 obtain⟨n1,rfl⟩:=gR h1
 exact⟨⟨n0,n1⟩,rfl⟩
theorem jT.of {x:jT} (h:aS yD x.tv) (hw:wt x.tv≤1048576):x.wf:=by
 simp only[jT.tv,gG,cZ]at h
 simp only[jT.tv,wt,z3]at hw
 obtain⟨h0,h1,_⟩:=h
 exact⟨dY (ok_int.1 h0),ux (by omega)⟩
def eM.tv (x:eM):Tv:= .r [x.l.tv,x.t.tv,x.push.tv,zC x.chain]
theorem eM.enc (x:eM):enc po x.tv=x.c:=by simp only[eM.tv,Ae,fg,cp,c4,ah.enc,Table.enc,jT.enc,eM.c,ah.c,Table.c,jT.c,List.cons_append,List.nil_append,List.append_nil]
theorem eM.ex {v:Tv} (h:aS po v):∃q:eM,v=q.tv:=by
 obtain⟨vs,rfl,h⟩:=h.st
 obtain⟨v0,_,rfl,h0,h⟩:=h.step
 obtain⟨v1,_,rfl,h1,h⟩:=h.step
 obtain⟨v2,_,rfl,h2,h⟩:=h.step
 obtain⟨v3,_,rfl,h3,h⟩:=h.step
 obtain rfl:=h.fin
 obtain⟨n0,rfl⟩:=ah.ex h0
 obtain⟨n1,rfl⟩:=Table.ex h1
 obtain⟨n2,rfl⟩:=jT.ex h2
 obtain⟨n3,rfl⟩:=Ap h3
 exact⟨⟨n0,n1,n2,n3⟩,rfl⟩
theorem eM.of {x:eM} (h:aS po x.tv) (hw:wt x.tv≤1048576):x.wc:=by
 simp only[eM.tv,gG,cZ]at h
 simp only[eM.tv,wt,z3]at hw
 obtain⟨h0,h1,h2,h3,_⟩:=h
 have k1:=Table.of h1 (by omega)
 have k2:=jT.of h2 (by omega)
 have k3:=E6 h3 (by omega)
 exact⟨k1,k2.2,k3.1,k3.2⟩
def sX.tv (x:sX):Tv:= .r [x.l.tv,x.t.tv,x.x.tv,zC x.own]
theorem sX.enc (x:sX):enc J5 x.tv=x.c:=by simp only[sX.tv,Ae,fg,cp,c4,ah.enc,Table.enc,eM.enc,sX.c,eM.c,ah.c,Table.c,List.cons_append,List.nil_append,List.append_nil]
theorem sX.ex {v:Tv} (h:aS J5 v):∃q:sX,v=q.tv:=by
 obtain⟨vs,rfl,h⟩:=h.st
 obtain⟨v0,_,rfl,h0,h⟩:=h.step
 obtain⟨v1,_,rfl,h1,h⟩:=h.step
 obtain⟨v2,_,rfl,h2,h⟩:=h.step
 obtain⟨v3,_,rfl,h3,h⟩:=h.step
 obtain rfl:=h.fin
 obtain⟨n0,rfl⟩:=ah.ex h0
 obtain⟨n1,rfl⟩:=Table.ex h1
 obtain⟨n2,rfl⟩:=eM.ex h2
 obtain⟨n3,rfl⟩:=Ap h3
 exact⟨⟨n0,n1,n2,n3⟩,rfl⟩
theorem sX.of {x:sX} (h:aS J5 x.tv) (hw:wt x.tv≤1048576):x.wc:=by
 simp only[sX.tv,gG,cZ]at h
 simp only[sX.tv,wt,z3]at hw
 obtain⟨h0,h1,h2,h3,_⟩:=h
 have k1:=Table.of h1 (by omega)
 have k2:=eM.of h2 (by omega)
 have k3:=E6 h3 (by omega)
 exact⟨k1,k2,k3.1,k3.2⟩
end Go.Eng.F
namespace Go.Eng.F
open Go.Eng.U (Hw dT dr jQ yD po)
end Go.Eng.F
namespace Go.Eng.F
open Go.Eng.U (Hw dT dr jQ gU)
theorem dI {cd:Nat→Option AF} {pd:List (Nat×Nat)} {R:List RV} {Q:List (Bool×List E)→List E→Prop} {k:List VK} {f:UT} {st:St} {ds:List Nat} {b:AC} {σ:Type} (f0:UT) (hf:cw f ds=f0) {f2:UT} {st2:St} (hw:de f0 st f2 st2) (f1:UT) (es0:List (Nat×En)) (h2:f2=f1) (he:OG st2.es=es0)
 (om:σ→List (Nat×U)) (ue:σ→List (Nat×En)) (J:σ→Nat→Prop) (s0:σ) (g0:Nat) (hu:f1=bU f1 (om s0)) (hs:lU st2 (F3 es0 (ue s0))) (h0:J s0 g0)
 (round:∀s n g,J s g→∀P:UT→St→Prop,(∀(s':σ) (g':Nat) (f':UT) (st':St),g' < g→J s' g'→cw f' ds=bU f1 (om s')→lU st' (F3 es0 (ue s'))→P f' st')→VX cd pd R Q (.c b:: .stop P::k) (bU f1 (om s)) ⟨n,F3 es0 (ue s)⟩):
 VX cd pd R Q (.c (.loop ds b)::k) f st:=
 kO f0 hf hw f1 es0 h2 he om ue J s0 g0 hu hs h0 fun s n g h=>round s n g h _ fun s' g' f' st' a b c d=>⟨s',g',a,b,c,d⟩
theorem Lg {bits:Bytes} {n:Int} (h:dv bits n=true):bits.length≤2:=by
 simp only[dv,Bool.and_eq_true,decide_eq_true_eq]at h
 have h1:=c7 h.1.1
 have h2:=h.1.2
 rw[tJ]at h2
 omega
theorem Qq (n:Int):lx (IntKind.i64.wrap n):=by
 simp only[lx,IntKind.wrap,IntKind.bits,IntKind.signed]
 simp
 omega
end Go.Eng.F
namespace Go.Eng.F
structure bb where
 view:Int
 height:Int
 block:Bytes
 who:Int
 tag:Bytes
def bb.c (v:bb):List D:= [.int .i64 v.view, .int .i64 v.height, .sl (bytes v.block), .int .i64 v.who, .sl (bytes v.tag)]
def bb.wf (v:bb):Prop:=lx v.view∧lx v.height∧Sz v.block.length∧lx v.who∧Sz v.tag.length
def ir (a b:bb):Bool:=decide (a.view=b.view) && decide (a.height=b.height) && decide (a.block=b.block) && decide (a.who=b.who) && decide (a.tag=b.tag)
abbrev nj:Nat:=26
def nu:AF:=⟨2,6,[.tmp 4],(.seq (.ops [.i (.lbox 2 (.s 0)), .i (.lbox 3 (.s 1)), .i (.mov 4 (qb false))]) (.seq (.ops [qf 5 2 0,ql 6 2 5 1 false,qf 7 3 0,ql 8 3 7 1 false,qd 9 .eql 6 8,qm 10 9, .g 10 true 12 (.fad 11 (.s 2) 1), .g 10 true 13 (.ldl 12 2 (.s 11) 1 false), .g 10 true 14 (.fad 13 (.s 3) 1), .g 10 true 15 (.ldl 14 3 (.s 13) 1 false), .g 10 true 16 (.bin 15 .eql (.s 12) (.s 14)), .i (.pick 16 (.s 10) (.s 15) (qb false)),qm 17 16, .g 17 true 19 (.fad 18 (.s 2) 3), .g 17 true 20 (.ldl 19 2 (.s 18) 1 false), .g 17 true 21 (.fad 20 (.s 3) 3), .g 17 true 22 (.ldl 21 3 (.s 20) 1 false), .g 17 true 23 (.bin 22 .eql (.s 19) (.s 21)), .i (.pick 23 (.s 17) (.s 22) (qb false)),qm 24 23, .g 24 true 26 (.fad 25 (.s 2) 2), .g 24 true 27 (.ldl 26 2 (.s 25) 1 false), .g 24 true 28 (.fad 27 (.s 3) 2), .g 24 true 29 (.ldl 28 3 (.s 27) 1 false), .g 24 true 30 (.call 30 21 false [(.s 26),(.s 28)]), .i (.pick 30 (.s 24) (.s 29) (qb false)),qm 31 30, .g 31 true 33 (.fad 32 (.s 2) 4), .g 31 true 34 (.ldl 33 2 (.s 32) 1 false), .g 31 true 35 (.fad 34 (.s 3) 4), .g 31 true 36 (.ldl 35 3 (.s 34) 1 false), .g 31 true 37 (.call 37 21 false [(.s 33),(.s 35)]), .i (.pick 37 (.s 31) (.s 36) (qb false)),qm 4 37]) .ret))⟩
theorem zI:cd nj=some nu:=by kernel_rfl
theorem xt (a b:bb):VC cd nj (aE [(true,a.c),(true,b.c)]) (fun rs _=>rs=bl (ir a b)):=by
 refine aa zI rfl ?_
 simp(disch:=omega) [nu,bb.c,VY]
 refine ab (fun h1=> ?_) (fun h1=> ?_) <;>simp(disch:=omega) [h1,ir,VY]
 refine ab (fun h2=> ?_) (fun h2=> ?_) <;>simp(disch:=omega) [h1,h2,VY]
 refine ab (fun h3=> ?_) (fun h3=> ?_) <;>simp(disch:=omega) [h1,h2,h3,VY]
 refine aq (aL a.block b.block) ?_
 simp(disch:=omega) [h1,h2,h3,VY]
 refine ab (fun h4=> ?_) (fun h4=> ?_) <;>simp(disch:=omega) [h1,h2,h3,h4,VY]
 refine aq (aL a.tag b.tag) ?_
 simp(disch:=omega) [h1,h2,h3,h4,VY]
abbrev m9:Nat:=298
def nA:AF:=⟨2,6,[.tmp 4],(.seq (.ops [.i (.lbox 2 (.s 0)), .i (.lbox 3 (.s 1)), .i (.mov 4 (qb false))]) (.seq (.ops [qf 5 2 0,ql 6 2 5 1 false,qf 7 3 0,ql 8 3 7 1 false,qd 9 .eql 6 8,qm 10 9, .g 10 true 12 (.fad 11 (.s 2) 1), .g 10 true 13 (.ldl 12 2 (.s 11) 1 false), .g 10 true 14 (.fad 13 (.s 3) 1), .g 10 true 15 (.ldl 14 3 (.s 13) 1 false), .g 10 true 16 (.bin 15 .eql (.s 12) (.s 14)), .i (.pick 16 (.s 10) (.s 15) (qb false)),qm 17 16, .g 17 true 19 (.fad 18 (.s 2) 2), .g 17 true 20 (.ldl 19 2 (.s 18) 1 false), .g 17 true 21 (.fad 20 (.s 3) 2), .g 17 true 22 (.ldl 21 3 (.s 20) 1 false), .g 17 true 23 (.call 23 329 false [(.s 19),(.s 21)]), .i (.pick 23 (.s 17) (.s 22) (qb false)),qm 24 23, .g 24 true 26 (.fad 25 (.s 2) 3), .g 24 true 27 (.ldl 26 2 (.s 25) 1 false), .g 24 true 28 (.fad 27 (.s 3) 3), .g 24 true 29 (.ldl 28 3 (.s 27) 1 false), .g 24 true 30 (.bin 29 .eql (.s 26) (.s 28)), .i (.pick 30 (.s 24) (.s 29) (qb false)),qm 31 30, .g 31 true 33 (.fad 32 (.s 2) 4), .g 31 true 34 (.ldl 33 2 (.s 32) 1 false), .g 31 true 35 (.fad 34 (.s 3) 4), .g 31 true 36 (.ldl 35 3 (.s 34) 1 false), .g 31 true 37 (.call 37 329 false [(.s 33),(.s 35)]), .i (.pick 37 (.s 31) (.s 36) (qb false)),qm 4 37]) .ret))⟩
theorem zH:cd m9=some nA:=by kernel_rfl
theorem xE (a b:bb):VC cd m9 (aE [(true,a.c),(true,b.c)]) (fun rs _=>rs=bl (ir a b)):=by
 refine aa zH rfl ?_
 simp(disch:=omega) [nA,bb.c,VY]
 refine ab (fun h1=> ?_) (fun h1=> ?_) <;>simp(disch:=omega) [h1,ir,VY]
 refine ab (fun h2=> ?_) (fun h2=> ?_) <;>simp(disch:=omega) [h1,h2,VY]
 refine aq (a9 a.block b.block) ?_
 simp(disch:=omega) [h1,h2,VY]
 refine ab (fun h3=> ?_) (fun h3=> ?_) <;>simp(disch:=omega) [h1,h2,h3,VY]
 refine ab (fun h4=> ?_) (fun h4=> ?_) <;>simp(disch:=omega) [h1,h2,h3,h4,VY]
 refine aq (a9 a.tag b.tag) ?_
 simp(disch:=omega) [h1,h2,h3,h4,VY]
end Go.Eng.F
namespace Go.Eng.F
def cur (b:Bytes) (i:Nat) (h:Int):List E0:= [.p (.sl (bytes b)), .p (.int .i64 (i:Int)), .p (.int .i64 h)]
theorem Gz (k v ty:Nat) (xs:List E0) (r:List E):aM k v (.pt ty xs::r)=(.pt k v 0::(aM (k+(1+xs.length)) (v+(1+xs.length)) r).1,(k, .pt v ty (aQ (k+1) (v+1) xs).1)::((aQ (k+1) (v+1) xs).2++(aM (k+(1+xs.length)) (v+(1+xs.length)) r).2)):=rfl
def K4 (x:Int):Nat:=(BitVec.ofInt 64 x &&& BitVec.ofInt 64 255).toNat
theorem Gv (x:Int):K4 x < 256:=by
 have:K4 x≤255:=by
  unfold K4
  rw[BitVec.toNat_and]
  exact Nat.and_le_right
 omega
theorem K8 (x:Int):aN .and .i64 x 255=((K4 x:Nat):Int):=by
 have h:=Gv x
 show IntKind.i64.wrap ((K4 x:Nat):Int)=_
 exact GG (by omega) (by omega)
abbrev tA:Nat:=88
def tp:AF:=⟨1,6,[.tmp 2],(.seq (.ops [.i (.mov 2 (.c (.val false [.nilp])))]) (.seq (.ops [qm 5 0,qn 6 5, .i (.bin 7 .add (qi 1611) (.s 6)),qm 3 7]) (.seq (.seq (.ops [.i (.mov 4 (qi 0))]) (.block 0 (.loop [27,26,25,24,23,22,21,20,19,18,17,16,15,14,13,12,11,10,9,8] (.seq (.seq (.ops [qm 8 4,qm 9 0,qn 10 9,qd 11 .lss 8 10,qm 12 11, .g 12 true 14 (.mov 13 (.s 4)), .g 12 true 15 (.bin 14 .lss (.s 13) (qi 4000)), .i (.pick 15 (.s 12) (.s 14) (qb false))]) (.cond (.s 15) .skip (.exit 0))) (.seq (.block 1 (.ops [qm 18 3, .i (.bin 19 .mul (.s 18) (qi 37)),qm 20 0,qm 21 4, .i (.iad 22 (.s 20) (.s 21) 1), .i (.ldh 23 (.s 22) 1 false), .i (.cvi 24 .i64 (.s 23)),qd 25 .add 19 24, .i (.bin 26 .add (.s 25) (qi 7)), .i (.bin 27 .and (.s 26) (qi 1073741823)),qm 3 27])) (.ops [qm 16 4, .i (.bin 17 .add (.s 16) (qi 1)),qm 4 17])))))) (.seq (.ops [qm 28 0,qm 29 3, .i (.bld 30 [.nils, .int .i64 0, .int .i64 0] [(0,1,(.s 28)),(2,1,(.s 29))]), .i (.hbox 31 133 (.s 30)),qm 2 31]) .ret))))⟩
theorem Dm:cd tA=some tp:=by kernel_rfl
theorem ye (b:Bytes) (hb:b.length≤1073741824):VC cd tA (aE [(false,[.sl (bytes b)])]) (fun r _=>∃h:Int,True∧r= [(false,[.pt 133 (cur b 0 h)])]):=by
 refine aa Dm rfl ?_
 simp(disch:=omega) [tp,VY]
 refine cY (σ:=Nat×Int) (f1:=_) (es0:=_) (by simp(disch:=omega) [VY];rfl) (by simp(disch:=omega) [VY];rfl) (fun p=> [(4, .val false [.int .i64 (p.1:Int)]),(3, .val false [.int .i64 p.2])]) (fun _=> []) (fun p g=>g+p.1=b.length) (0,_) b.length (by simp(disch:=omega) [VY];rfl) (by simp(disch:=omega) [VY]) (by omega) ?_
 rintro⟨i,h⟩ n g hg P hP
 simp only at hg
 simp(disch:=omega) [VY]
 refine ab (fun h1=> ?_) (fun h1=> ?_)
 ·have hi:i < b.length:=by omega
  simp(disch:=omega) [h1,VY]
  refine ab (fun h2=> ?_) (fun h2=> ?_)
  ·simp(disch:=omega) [di hi,VY]
   exact hP (i+1,_) (g - 1) _ _ (by omega) (by simp only;omega) (by simp(disch:=omega) [VY];rfl) (by simp(disch:=omega) [VY])
  ·simp(disch:=omega) [cur,VY]
 ·simp(disch:=omega) [h1,cur,VY]
abbrev pk:Nat:=162
def qM:AF:=⟨1,6,[.tmp 2],(.seq (.ops [.i (.mov 2 (qi 0))]) (.seq (.ops [qm 4 0,qm 5 0, .i (.nch 6 (.s 5)),qf 7 6 2, .i (.ldh 8 (.s 7) 1 false), .i (.bin 9 .mul (.s 8) (qi 6364136223846793005)), .i (.bin 10 .add (.s 9) (qi 1442695040888963407)), .i (.nch 11 (.s 4)),qf 12 11 2, .i (.sth (.s 12) (.s 10) 1)]) (.seq (.ops [qm 13 0, .i (.nch 14 (.s 13)),qf 15 14 2, .i (.ldh 16 (.s 15) 1 false), .i (.bin 17 .shr (.s 16) (.c (.val false [.int .u64 33]))),qm 18 0, .i (.nch 19 (.s 18)),qf 20 19 2, .i (.ldh 21 (.s 20) 1 false), .i (.bin 22 .shr (.s 21) (.c (.val false [.int .u64 45]))),qd 23 .xor 17 22, .i (.bin 24 .and (.s 23) (qi 255)),qm 3 24]) (.seq (.seq (.ops [qm 25 0, .i (.nch 26 (.s 25)),qf 27 26 1, .i (.ldh 28 (.s 27) 1 false),qm 29 0, .i (.nch 30 (.s 29)),qf 31 30 0, .i (.ldh 32 (.s 31) 1 false),qn 33 32,qd 34 .lss 28 33]) (.cond (.s 34) (.seq (.ops [qm 35 3,qm 36 0, .i (.nch 37 (.s 36)),qf 38 37 0, .i (.ldh 39 (.s 38) 1 false),qm 40 0, .i (.nch 41 (.s 40)),qf 42 41 1, .i (.ldh 43 (.s 42) 1 false), .i (.iad 44 (.s 39) (.s 43) 1), .i (.ldh 45 (.s 44) 1 false), .i (.cvi 46 .i64 (.s 45)),qd 47 .add 35 46, .i (.bin 48 .and (.s 47) (qi 255)),qm 3 48]) (.ops [qm 49 0,qm 50 0, .i (.nch 51 (.s 50)),qf 52 51 1, .i (.ldh 53 (.s 52) 1 false), .i (.bin 54 .add (.s 53) (qi 1)), .i (.nch 55 (.s 49)),qf 56 55 1, .i (.sth (.s 56) (.s 54) 1)])) .skip)) (.seq (.ops [qm 57 3,qm 2 57]) .ret)))))⟩
theorem BH:cd pk=some qM:=by kernel_rfl
theorem eX (b:Bytes) (i:Nat) (h:Int) (hi:i≤b.length) (hb:b.length≤1073741824):VC cd pk (ja [] 133 (cur b i h) []) (fun r p=>∃x:Nat×Nat×Int,(x.1 < 256∧x.2.1≤b.length)∧r=it x.1∧p= [.pt 133 (cur b x.2.1 x.2.2)]):=by
 refine aw BH rfl ?_
 simp(disch:=omega) [qM,cur,K8,VZ]
 refine ab (fun h1=> ?_) (fun h1=> ?_)
 ·simp(disch:=omega) [di h1,K8,VZ]
  refine⟨_,i+1,⟨Gv _,by omega⟩,rfl,by simp⟩
 ·simp(disch:=omega) [VZ]
  refine⟨_,i,⟨Gv _,hi⟩,rfl,rfl⟩
theorem tm {N:Int} (h:0≤N) {n:Nat} (hn:n≠0):∃y:Nat,y < n∧N.tmod (n:Int)=(y:Int):=by
 obtain⟨m,rfl⟩:=Int.eq_ofNat_of_zero_le h
 exact⟨m % n,Nat.mod_lt _ (by omega),rfl⟩
abbrev mn:Nat:=97
def mZ:AF:=⟨2,6,[.tmp 4],(.seq (.ops [.i (.mov 4 (qi 0))]) (.seq (.seq (.ops [qm 9 1, .i (.bin 10 .leq (.s 9) (qi 0))]) (.cond (.s 10) (.seq (.ops [.i (.mov 4 (qi 0))]) .ret) .skip)) (.seq (.seq (.ops [qm 11 1, .i (.bin 12 .leq (.s 11) (qi 256))]) (.cond (.s 12) (.seq (.ops [qm 13 0,qk 15 162 13,qm 15 1,qd 16 .rem 14 15,qm 4 16]) .ret) .skip)) (.seq (.ops [qm 17 0,qk 19 162 17,qm 5 18]) (.seq (.ops [qm 19 0,qk 21 162 19,qm 6 20]) (.seq (.ops [qm 21 0,qk 23 162 21,qm 7 22]) (.seq (.ops [qm 23 0,qk 25 162 23,qm 8 24]) (.seq (.ops [qm 25 5, .i (.bin 26 .mul (.s 25) (qi 16777216)),qm 27 6, .i (.bin 28 .mul (.s 27) (qi 65536)),qd 29 .add 26 28,qm 30 7, .i (.bin 31 .mul (.s 30) (qi 256)),qd 32 .add 29 31,qm 33 8,qd 34 .add 32 33,qm 35 1,qd 36 .rem 34 35,qm 4 36]) .ret))))))))⟩
theorem ze:cd mn=some mZ:=by kernel_rfl
theorem aD (b:Bytes) (i:Nat) (h:Int) (n:Nat) (hn:n≤4294967296) (hi:i≤b.length) (hb:b.length≤1073741824):VC cd mn (ja [] 133 (cur b i h) [(false,[.int .i64 (n:Int)])]) (fun r p=>∃x:Nat×Nat×Int,((x.1 < n∨x.1=0)∧x.2.1≤b.length)∧r=it x.1∧p= [.pt 133 (cur b x.2.1 x.2.2)]):=by
 refine aw ze rfl ?_
 simp(disch:=omega) [mZ,cur,VZ]
 refine ab (fun h1=> ?_) (fun h1=> ?_)
 ·have h2:n=0:=by omega
  subst h2
  simp(disch:=omega) [VZ]
  exact⟨0,i,⟨rfl,hi⟩,rfl,rfl⟩
 simp(disch:=omega) [VZ]
 refine ab (fun h2=> ?_) (fun h2=> ?_)
 ·simp(disch:=omega) [VZ]
  refine dN (eX b i h hi hb) ?_
  rintro⟨x,i',h'⟩ ⟨h3,h4⟩
  simp only at h3 h4
  obtain⟨y,hy,e⟩:=tm (N:=(x:Int)) (by omega) h1
  simp(disch:=omega) [cur,e,h1,VZ]
  exact⟨y,i',⟨.inl hy,h4⟩,rfl,rfl⟩
 ·simp(disch:=omega) [VZ]
  refine dN (eX b i h hi hb) ?_
  rintro⟨x,i1,h1'⟩ ⟨h3,h4⟩
  simp(disch:=omega) [cur,VZ]
  simp only at h3 h4
  refine dN (eX b i1 h1' h4 hb) ?_
  rintro⟨y,i2,h2'⟩ ⟨h5,h6⟩
  simp(disch:=omega) [cur,VZ]
  simp only at h5 h6
  refine dN (eX b i2 h2' h6 hb) ?_
  rintro⟨z,i3,h3'⟩ ⟨h7,h8⟩
  simp(disch:=omega) [cur,VZ]
  simp only at h7 h8
  refine dN (eX b i3 h3' h8 hb) ?_
  rintro⟨w,i4,h4'⟩ ⟨h9,h10⟩
  simp only at h9 h10
  obtain⟨q,hq,e⟩:=tm (N:=(x:Int) * 16777216+y * 65536+z * 256+w) (by omega) h1
  simp(disch:=omega) [cur,e,h1,VZ]
  exact⟨q,i4,⟨.inl hq,h10⟩,rfl,rfl⟩
abbrev qR:Nat:=135
def rv:AF:=⟨2,4,[.tmp 4],(.seq (.ops [.i (.mov 4 (qb false))]) (.seq (.ops [qm 5 0,qm 6 1, .i (.call 8 97 false [(.s 5),(.s 6)]), .i (.bin 8 .eql (.s 7) (qi 0)),qm 4 8]) .ret))⟩
theorem AD:cd qR=some rv:=by kernel_rfl
theorem Bs (b:Bytes) (i:Nat) (h:Int) (n:Nat) (hn:n≤4294967296) (hi:i≤b.length) (hb:b.length≤1073741824):VC cd qR (ja [] 133 (cur b i h) [(false,[.int .i64 (n:Int)])]) (fun r p=>∃x:Bool×Nat×Int,x.2.1≤b.length∧r=bl x.1∧p= [.pt 133 (cur b x.2.1 x.2.2)]):=by
 refine aw AD rfl ?_
 simp(disch:=omega) [rv,cur,VZ]
 refine dN (aD b i h n hn hi hb) ?_
 rintro⟨x,i',h'⟩ ⟨h3,h4⟩
 simp only at h3 h4
 simp(disch:=omega) [cur,VZ]
 by_cases hx:x=0
 ·exact .inr ⟨i',h4,hx,rfl⟩
 ·exact .inl ⟨i',h4,hx,rfl⟩
abbrev oT:Nat:=155
def pX:AF:=⟨2,4,[.tmp 4],(.seq (.ops [.i (.mov 4 (qi 0))]) (.seq (.ops [qm 5 1,qm 6 0,qm 7 1,qn 8 7, .i (.call 10 97 false [(.s 6),(.s 8)]), .i (.iad 10 (.s 5) (.s 9) 1), .i (.ldh 11 (.s 10) 1 false),qm 4 11]) .ret))⟩
theorem Cp:cd oT=some pX:=by kernel_rfl
theorem iM (b:Bytes) (i:Nat) (h:Int) (l:List Int) (hl:l≠ []) (hl2:l.length≤4294967296) (hi:i≤b.length) (hb:b.length≤1073741824):VC cd oT (ja [] 133 (cur b i h) [(false,[.sl (ints l)])]) (fun r p=>∃x:Int×Nat×Int,(x.1∈l∧x.2.1≤b.length)∧r=it x.1∧p= [.pt 133 (cur b x.2.1 x.2.2)]):=by
 have hp:0 < l.length:=List.length_pos_iff.2 hl
 refine aw Cp rfl ?_
 simp(disch:=omega) [pX,cur,bP,VZ]
 refine dN (aD b i h l.length hl2 hi hb) ?_
 rintro⟨x,i',h'⟩ ⟨h3,h4⟩
 simp only at h3 h4
 have hx:x < l.length:=by omega
 simp(disch:=omega) [cur,BJ hx,VZ]
 exact⟨gi l x,i',⟨u4 hx,h4⟩,rfl,rfl⟩
theorem NH (x:Bytes) (y:Int):bytes x++ [[.int .u8 (IntKind.u8.wrap y)]]=bytes (x++ [b8 y]):=by
 rw[←dh,←I0]
 rfl
abbrev mg:Nat:=138
def nq:AF:=⟨2,5,[.tmp 4],(.seq (.ops [.i (.mov 4 (.c (.val false [.nils])))]) (.seq (.ops [.i (.bse 7),qm 5 7]) (.seq (.seq (.ops [qm 8 0,qm 9 1, .i (.bin 10 .add (.s 9) (qi 1)), .i (.call 12 97 false [(.s 8),(.s 10)]),qm 6 11]) (.block 0 (.loop [21,20,19,18,17,16,15,14,13,12] (.seq (.seq (.ops [qm 12 6, .i (.bin 13 .gtr (.s 12) (qi 0))]) (.cond (.s 13) .skip (.exit 0))) (.seq (.block 1 (.ops [qm 16 5,qm 17 0,qk 19 162 17, .i (.cvi 19 .u8 (.s 18)), .i (.lsl 20 1 1 [.int .u8 0] [(0,1,(.s 19))]), .i (.app 21 5 1 1 (.s 16) (.s 20)),qm 5 21])) (.ops [qm 14 6, .i (.bin 15 .sub (.s 14) (qi 1)),qm 6 15])))))) (.seq (.ops [qm 22 5,qm 4 22]) .ret))))⟩
theorem zK:cd mg=some nq:=by kernel_rfl
theorem jd (b:Bytes) (i:Nat) (h:Int) (m:Nat) (hm:m≤1000000) (hi:i≤b.length) (hb:b.length≤1073741824):VC cd mg (ja [] 133 (cur b i h) [(false,[.int .i64 (m:Int)])]) (fun r p=>∃x:Bytes×Nat×Int,(x.1.length≤m∧x.2.1≤b.length)∧r= [(false,[.o true (some (5,1)) (bytes x.1)])]∧p= [.pt 133 (cur b x.2.1 x.2.2)]):=by
 refine aw zK rfl ?_
 simp(disch:=omega) [nq,cur,VZ]
 refine dN (aD b i h (m+1) (by omega) hi hb) ?_
 rintro⟨k,i',h'⟩ ⟨h3,h4⟩
 simp only at h3 h4
 have hk:k≤m:=by omega
 simp(disch:=omega) [cur,VZ]
 refine cY (σ:=Nat×Nat×Nat×Int×Bytes) (f1:=_) (es0:=_) (by simp(disch:=omega) [VZ];rfl) (by simp(disch:=omega) [VZ];rfl) (fun p=> [(6, .val false [.int .i64 (p.1:Int)]),(5, .val false [.ow 7 p.2.1])]) (fun p=> [(4096, .pt 0 133 [.sl (bytes b), .int .i64 (p.2.2.1:Int), .int .i64 p.2.2.2.1]),(7, .sl p.2.1 true true (some (5,1)) (bytes p.2.2.2.2))])
  (fun p g=>g=p.1∧p.2.2.1≤b.length∧p.2.2.2.2.length+p.1≤m) (k,_,i',h',[]) k (by simp(disch:=omega) [VZ];rfl) (by simp(disch:=omega) [bytes,VZ]) ⟨rfl,h4,by simpa using hk⟩ ?_
 rintro⟨n,v,i2,h2,x⟩ nx g ⟨hg,h5,h6⟩ P hP
 simp only at hg h5 h6
 simp(disch:=omega) [VZ]
 refine ab (fun h7=> ?_) (fun h7=> ?_)
 ·simp(disch:=omega) [VZ]
  refine dN (eX b i2 h2 h5 hb) ?_
  rintro⟨y,i3,h3'⟩ ⟨h8,h9⟩
  simp only at h8 h9
  have e1:IntKind.i64.wrap ((n:Int) - 1)=((n - 1:Nat):Int):=by rw[GG (by omega) (by omega)];omega
  simp(disch:=omega) [cur,NH,e1,VZ]
  exact hP (n - 1,_,i3,h3',x++ [b8 y]) (g - 1) _ _ (by omega) ⟨by omega,h9,by simp;omega⟩ (by simp(disch:=omega) [VZ];rfl) (by simp(disch:=omega) [VZ])
 ·simp(disch:=omega) [cur,VZ]
  exact⟨x,i2,⟨by omega,h5⟩,rfl,rfl⟩
theorem u6 (x:Bytes) (j:Nat) (y:Int):(bytes x).set j [.int .u8 (IntKind.u8.wrap y)]=bytes (x.set j (b8 y)):=by
 rw[←I0]
 simp[bytes,List.map_set]
def Q3:Bytes:=List.replicate 32 0
theorem Pe:List.replicate 32 [D.int .u8 0]=bytes Q3:=AH 32
abbrev qy:Nat:=242
def pw:AF:=⟨1,5,[.tmp 2],(.seq (.ops [.i (.mov 2 (.c (.val false [.nils])))]) (.seq (.ops [.i (.mks 4 5 1 1 [.int .u8 0] (qi 32)),qm 3 4]) (.seq (.ops [qm 5 3,qm 6 0, .i (.call 8 97 false [(.s 6),(qi 3)]), .i (.cvi 8 .u8 (.s 7)), .i (.iad 9 (.s 5) (qi 0) 1), .i (.sth (.s 9) (.s 8) 1)]) (.seq (.ops [qm 10 3,qm 11 0,qk 13 162 11, .i (.cvi 13 .u8 (.s 12)), .i (.iad 14 (.s 10) (qi 31) 1), .i (.sth (.s 14) (.s 13) 1)]) (.seq (.ops [qm 15 3,qm 2 15]) .ret)))))⟩
theorem Bn:cd qy=some pw:=by kernel_rfl
theorem c8 (b:Bytes) (i:Nat) (h:Int) (hi:i≤b.length) (hb:b.length≤1073741824):VC cd qy (ja [] 133 (cur b i h) []) (fun r p=>∃x:Bytes×Nat×Int,(x.1.length=32∧x.2.1≤b.length)∧r= [(false,[.o true (some (5,1)) (bytes x.1)])]∧p= [.pt 133 (cur b x.2.1 x.2.2)]):=by
 have hz:Q3.length=32:=rfl
 refine aw Bn rfl ?_
 simp(disch:=omega) [pw,cur,Pe,VZ]
 refine dN (aD b i h 3 (by omega) hi hb) ?_
 rintro⟨k,i',h'⟩ ⟨h3,h4⟩
 simp only at h3 h4
 simp(disch:=omega) [cur,di,u6,VZ]
 have hz1:(Q3.set 0 (b8 (k:Int))).length=32:=by simp[hz]
 generalize Q3.set 0 (b8 (k:Int))=z1 at hz1⊢
 refine dN (eX b i' h' h4 hb) ?_
 rintro⟨y,i2,h2⟩ ⟨h5,h6⟩
 simp only at h5 h6
 simp(disch:=omega) [cur,di,u6,VZ]
 exact⟨z1.set 31 (b8 y),i2,⟨by simp[hz1],h6⟩,rfl,rfl⟩
def ah.e (l:ah):List E:= [.p (.int .i64 l.n), .p (.int .i64 l.tx), .p (.int .i64 l.txs), .p (.int .i64 l.frame), .p (.int .i64 l.heads)]
theorem Mz {l:ah} (h1:1≤l.n∧l.n≤10) (h2:0≤l.tx∧l.tx≤40) (h3:0≤l.txs∧l.txs≤8) (h4:1≤l.frame∧l.frame≤4000) (h5:3≤l.heads∧l.heads≤5):l.ok=true:=by
 simp[ah.ok,dK,h1,h2,h3,h4,h5]
abbrev qT:Nat:=89
def o9:AF:=⟨1,5,[.cell 2 5 true],(.seq (.ops [.i (.lal 2 [.int .i64 0, .int .i64 0, .int .i64 0, .int .i64 0, .int .i64 0])]) (.seq (.ops [qm 3 0, .i (.bsl 4 3 1 7 [.int .i64 0] [(0,1,(qi 1)),(1,1,(qi 3)),(2,1,(qi 4)),(3,1,(qi 4)),(4,1,(qi 7)),(5,1,(qi 9)),(6,1,(qi 10))]), .i (.call 6 155 false [(.s 3),(.s 4)]),qm 6 0, .i (.bsl 7 3 1 4 [.int .i64 0] [(0,1,(qi 0)),(1,1,(qi 4)),(2,1,(qi 8)),(3,1,(qi 40))]), .i (.call 9 155 false [(.s 6),(.s 7)]),qm 9 0, .i (.bsl 10 3 1 3 [.int .i64 0] [(0,1,(qi 0)),(1,1,(qi 3)),(2,1,(qi 8))]), .i (.call 12 155 false [(.s 9),(.s 10)]),qm 12 0, .i (.bsl 13 3 1 4 [.int .i64 0] [(0,1,(qi 4000)),(1,1,(qi 4000)),(2,1,(qi 300)),(3,1,(qi 60))]), .i (.call 15 155 false [(.s 12),(.s 13)]),qm 15 0, .i (.call 17 97 false [(.s 15),(qi 3)]), .i (.bin 17 .add (qi 3) (.s 16)), .i (.bld 18 [.int .i64 0, .int .i64 0, .int .i64 0, .int .i64 0, .int .i64 0] [(0,1,(.s 5)),(1,1,(.s 8)),(2,1,(.s 11)),(3,1,(.s 14)),(4,1,(.s 17))]),qs 2 2 18 5]) .ret))⟩
theorem Bo:cd qT=some o9:=by kernel_rfl
theorem Jf (b:Bytes) (i:Nat) (h:Int) (hi:i≤b.length) (hb:b.length≤1073741824):VC cd qT (ja [] 133 (cur b i h) []) (fun r p=>∃x:ah×Nat×Int,(x.1.ok=true∧x.2.1≤b.length)∧r= [(true,x.1.e)]∧p= [.pt 133 (cur b x.2.1 x.2.2)]):=by
 refine aw Bo rfl ?_
 simp(disch:=omega) [o9,cur,VZ]
 refine dN (iM b i h [1,3,4,4,7,9,10] (by simp) (by simp) hi hb) ?_
 rintro⟨k1,i1,h1⟩ ⟨g1,j1⟩
 simp only at g1 j1
 simp(disch:=omega) [cur,VZ]
 refine dN (iM b i1 h1 [0,4,8,40] (by simp) (by simp) j1 hb) ?_
 rintro⟨k2,i2,h2⟩ ⟨g2,j2⟩
 simp only at g2 j2
 simp(disch:=omega) [cur,VZ]
 refine dN (iM b i2 h2 [0,3,8] (by simp) (by simp) j2 hb) ?_
 rintro⟨k3,i3,h3⟩ ⟨g3,j3⟩
 simp only at g3 j3
 simp(disch:=omega) [cur,VZ]
 refine dN (iM b i3 h3 [4000,4000,300,60] (by simp) (by simp) j3 hb) ?_
 rintro⟨k4,i4,h4⟩ ⟨g4,j4⟩
 simp only at g4 j4
 simp(disch:=omega) [cur,VZ]
 refine dN (aD b i4 h4 3 (by omega) j4 hb) ?_
 rintro⟨k5,i5,h5⟩ ⟨g5,j5⟩
 simp only at g5 j5
 simp(disch:=omega) [cur,VZ]
 simp only[List.mem_cons,List.not_mem_nil,or_false]at g1 g2 g3 g4
 exact⟨⟨k1,k2,k3,k4,3+k5⟩,i5,⟨Mz (by simp only;omega) (by simp only;omega) (by simp only;omega) (by simp only;omega) (by simp only;omega),j5⟩,rfl,rfl⟩
end Go.Eng.F
namespace Go.Eng.F
theorem lF (l:List Bytes) (x:Bytes):bE l++ [[.sl (bytes x)]]=bE (l++ [x]):=by simp[bE]
abbrev jk:Nat:=14
def jv:AF:=⟨1,5,[.cell 2 5 true],(.seq (.ops [.i (.lal 2 [.int .i64 0, .int .i64 0, .int .i64 0, .int .i64 0, .int .i64 0])]) (.seq (.ops [qm 5 0,qk 7 88 5,qm 3 6]) (.seq (.ops [qm 7 3,qm 8 3, .i (.nch 9 (.s 8)),qf 10 9 2, .i (.ldh 11 (.s 10) 1 false), .i (.bin 12 .add (.s 11) (qi 5)), .i (.nch 13 (.s 7)),qf 14 13 2, .i (.sth (.s 14) (.s 12) 1)]) (.seq (.ops [qm 15 3,qk 17 89 15, .i (.lal 4 [.int .i64 0, .int .i64 0, .int .i64 0, .int .i64 0, .int .i64 0]),qs 4 4 16 5]) (.seq (.ops [qf 17 4 3, .i (.stl 4 (.s 17) (qi 4000) 1)]) (.seq (.ops [ql 18 4 4 5 true,qs 2 2 18 5]) .ret))))))⟩
theorem vB:cd jk=some jv:=by kernel_rfl
theorem C8 (b:Bytes) (hb:b.length≤1073741824):VC cd jk (aE [(false,[.sl (bytes b)])]) (fun r _=>∃x:ah,(x.ok=true∧x.frame=4000)∧r= [(true,x.e)]):=by
 refine aa vB rfl ?_
 simp(disch:=omega) [jv,VY]
 refine Ro (ye b hb) ?_
 intro h _
 simp(disch:=omega) [cur,Gz,VZ]
 refine dN (Jf b 0 _ (Nat.zero_le _) hb) ?_ (n1:=by intro _;simp(disch:=omega) [ah.e,VZ]) (n3:=by intro _;simp(disch:=omega) [ah.e,VZ])
 rintro⟨l,i1,h1⟩ ⟨g1,j1⟩
 simp only at g1 j1
 simp(disch:=omega) [cur,ah.e,VZ]
 simp only[ah.ok,dK,Bool.and_eq_true,decide_eq_true_eq]at g1
 exact⟨⟨l.n,l.tx,l.txs,4000,l.heads⟩,⟨Mz g1.1.1.1.1 g1.1.1.1.2 g1.1.1.2 (by simp only;omega) g1.2,rfl⟩,rfl,rfl,rfl,rfl,rfl⟩
end Go.Eng.F
namespace Go.Eng.F
open Go.Eng.U (Hw dT dr gU HB rT)
def Cm (l:ah) (t:List Bytes):Bool:=t.all fun x=>decide ((x.length:Int)≤l.tx)
theorem Hp {l:ah} {t:List Bytes} (h:∀x∈t.take t.length,(x.length:Int)≤l.tx):Cm l t=true:=by
 rw[List.take_length]at h
 simpa[Cm]using h
theorem H9 {l:ah} {t:List Bytes} {i:Nat} (hi:i < t.length) (h:l.tx < (t[i].length:Int)):Cm l t=false:=by
 simp only[Cm,List.all_eq_false]
 exact⟨t[i],List.getElem_mem hi,by simp;omega⟩
def bo (l:ah) (x:Block):Bool:=bx l x.head && decide ((x.txs.length:Int)≤l.txs) && Cm l x.txs && decide (x.head.root=aX x.txs)
abbrev rK:Nat:=113
def pM:AF:=⟨2,6,[.tmp 4],(.seq (.ops [.i (.lbox 2 (.s 0)), .i (.lbox 3 (.s 1)), .i (.mov 4 (qb false))]) (.seq (.seq (.ops [qf 7 3 10,ql 8 3 7 1 false,qn 9 8, .i (.mov 10 (qi 0))]) (.block 0 (.loop [19,18,17,16,15,14,13,12,11,6] (.seq (.ops [qd 11 .lss 10 9]) (.seq (.cond (.s 11) .skip (.exit 0)) (.seq (.block 1 (.seq (.ops [.i (.iad 12 (.s 8) (.s 10) 1), .i (.ldh 13 (.s 12) 1 false),qm 6 13]) (.seq (.ops [qm 14 6,qn 15 14,qf 16 2 1,ql 17 2 16 1 false,qd 18 .gtr 15 17]) (.cond (.s 18) (.seq (.ops [.i (.mov 4 (qb false))]) .ret) .skip)))) (.ops [.i (.bin 19 .add (.s 10) (qi 1)),qm 10 19]))))))) (.seq (.ops [ql 20 2 2 5 true,qf 21 3 0,ql 22 3 21 10 true, .i (.call 24 108 false [(.s 20),(.s 22)]),qm 24 23, .g 24 true 26 (.fad 25 (.s 3) 10), .g 24 true 27 (.ldl 26 3 (.s 25) 1 false), .g 24 true 28 (.len 27 false (.s 26)), .g 24 true 29 (.fad 28 (.s 2) 2), .g 24 true 30 (.ldl 29 2 (.s 28) 1 false), .g 24 true 31 (.bin 30 .leq (.s 27) (.s 29)), .i (.pick 31 (.s 24) (.s 30) (qb false)),qm 32 31, .g 32 true 34 (.fad 33 (.s 3) 0), .g 32 true 35 (.fad 34 (.s 33) 4), .g 32 true 36 (.ldl 35 3 (.s 34) 1 false), .g 32 true 37 (.fad 36 (.s 3) 10), .g 32 true 38 (.ldl 37 3 (.s 36) 1 false), .g 32 true 39 (.call 39 176 false [(.s 37)]), .g 32 true 40 (.call 40 21 false [(.s 35),(.s 38)]), .i (.pick 40 (.s 32) (.s 39) (qb false)),qm 4 40]) .ret)))⟩
theorem AV:cd rK=some pM:=by kernel_rfl
theorem y8 (l:ah) (x:Block) (hw:x.wc) (hx:∀t∈x.txs,t.length≤1073741823):VC cd rK (aE [(true,l.c),(true,x.c)]) (fun rs _=>rs=bl (bo l x)):=by
 obtain⟨⟨w1,_⟩,w2,w3⟩:=hw
 simp only[Sz]at w2
 refine aa AV rfl ?_
 simp(disch:=omega) [pM,ah.c,Block.c,Head.c,ao,VY]
 refine aU (σ:=Nat) (f1:=_) (es0:=_) (by simp(disch:=omega) [VY];rfl) (by simp(disch:=omega) [VY];rfl) (fun i=> [(10, .val false [.int .i64 i])]) (fun _=> []) (fun i g=>g+i=x.txs.length∧∀t∈x.txs.take i,(t.length:Int)≤l.tx) 0 x.txs.length (by simp(disch:=omega) [VY]) (by simp(disch:=omega) [VY]) ⟨by omega,by simp⟩ ?_
 rintro i n g ⟨hg,hi⟩
 simp(disch:=omega) [VY]
 refine ab (fun h1=> ?_) (fun h1=> ?_)
 ·have hix:i < x.txs.length:=by omega
  have w4:=hx _ (List.getElem_mem hix)
  simp(disch:=omega) [db hix,ak,VY]
  refine ab (fun h2=> ?_) (fun h2=> ?_)
  ·simp(disch:=omega) [VY]
   simp[bo,H9 hix (by omega)]
  ·simp(disch:=omega) [VY]
   exact⟨i+1,g - 1,by omega,⟨by omega,iL hi hix (by omega)⟩,by simp⟩
 ·have hl:i=x.txs.length:=by omega
  subst hl
  have ht:=Hp hi
  simp(disch:=omega) [VY]
  refine ae (iG l x.head w1) rfl rfl ?_
  simp(disch:=omega) [ao,VY]
  refine an (fun h2=> ?_) (fun h2=> ?_) <;>simp(disch:=omega) [h2,ao,bo,VY]
  refine ab (fun h3=> ?_) (fun h3=> ?_) <;>simp(disch:=omega) [h2,h3,ht,ao,VY]
  refine ae (kL _ x.txs rfl (by omega) hx) rfl rfl ?_
  simp(disch:=omega) [h2,h3,ht,VY]
  refine aq (aL x.head.root (aX x.txs)) ?_
  simp(disch:=omega) [h2,h3,ht,VY]
abbrev oF:Nat:=311
def rF:AF:=⟨2,6,[.tmp 4],(.seq (.ops [.i (.lbox 2 (.s 0)), .i (.lbox 3 (.s 1)), .i (.mov 4 (qb false))]) (.seq (.seq (.ops [ql 7 2 2 5 true,qf 8 3 0,ql 9 3 8 10 true, .i (.call 11 310 false [(.s 7),(.s 9)]), .i (.not 11 (.s 10)),qm 12 11, .g 12 false 14 (.fad 13 (.s 3) 10), .g 12 false 15 (.ldl 14 3 (.s 13) 1 false), .g 12 false 16 (.len 15 false (.s 14)), .g 12 false 17 (.fad 16 (.s 2) 2), .g 12 false 18 (.ldl 17 2 (.s 16) 1 false), .g 12 false 19 (.bin 18 .gtr (.s 15) (.s 17)), .i (.pick 19 (.s 12) (qb true) (.s 18))]) (.cond (.s 19) (.seq (.ops [.i (.mov 4 (qb false))]) .ret) .skip)) (.seq (.seq (.ops [qf 20 3 10,ql 21 3 20 1 false,qn 22 21, .i (.mov 23 (qi 0))]) (.block 0 (.loop [32,31,30,29,28,27,26,25,24,6] (.seq (.ops [qd 24 .lss 23 22]) (.seq (.cond (.s 24) .skip (.exit 0)) (.seq (.block 1 (.seq (.ops [.i (.iad 25 (.s 21) (.s 23) 1), .i (.ldh 26 (.s 25) 1 false),qm 6 26]) (.seq (.ops [qm 27 6,qn 28 27,qf 29 2 1,ql 30 2 29 1 false,qd 31 .gtr 28 30]) (.cond (.s 31) (.seq (.ops [.i (.mov 4 (qb false))]) .ret) .skip)))) (.ops [.i (.bin 32 .add (.s 23) (qi 1)),qm 23 32]))))))) (.seq (.ops [qf 33 3 0,qf 34 33 4,ql 35 3 34 1 false,qf 36 3 10,ql 37 3 36 1 false,qk 39 319 37, .i (.call 40 329 false [(.s 35),(.s 38)]),qm 4 39]) .ret))))⟩
theorem BD:cd oF=some rF:=by kernel_rfl
theorem nV (l:ah) (x:Block) (hw:x.wc) (hx:∀t∈x.txs,t.length≤1073741823):VC cd oF (aE [(true,l.c),(true,x.c)]) (fun rs _=>rs=bl (bo l x)):=by
 obtain⟨⟨w1,_⟩,w2,w3⟩:=hw
 simp only[Sz]at w2
 refine aa BD rfl ?_
 simp(disch:=omega) [rF,ah.c,Block.c,Head.c,VY]
 refine ae (iW l x.head w1) rfl rfl ?_
 simp(disch:=omega) [ao,VY]
 refine an (fun h2=> ?_) (fun h2=> ?_)
 case refine_2=>simp(disch:=omega) [h2,bo,VY]
 simp(disch:=omega) [h2,ao,VY]
 refine ab (fun h3=> ?_) (fun h3=> ?_)
 ·simp(disch:=omega) [h2,h3,bo,show ¬(x.txs.length:Int)≤l.txs by omega,VY]
 simp(disch:=omega) [h2,h3,ao,VY]
 refine aU (σ:=Nat) (f1:=_) (es0:=_) (by simp(disch:=omega) [VY];rfl) (by simp(disch:=omega) [VY];rfl) (fun i=> [(23, .val false [.int .i64 i])]) (fun _=> []) (fun i g=>g+i=x.txs.length∧∀t∈x.txs.take i,(t.length:Int)≤l.tx) 0 x.txs.length (by simp(disch:=omega) [VY]) (by simp(disch:=omega) [VY]) ⟨by omega,by simp⟩ ?_
 rintro i n g ⟨hg,hi⟩
 simp(disch:=omega) [VY]
 refine ab (fun h1=> ?_) (fun h1=> ?_)
 ·have hix:i < x.txs.length:=by omega
  have w4:=hx _ (List.getElem_mem hix)
  simp(disch:=omega) [db hix,ak,VY]
  refine ab (fun h4=> ?_) (fun h4=> ?_)
  ·simp(disch:=omega) [VY]
   simp[bo,H9 hix (by omega)]
  ·simp(disch:=omega) [VY]
   exact⟨i+1,g - 1,by omega,⟨by omega,iL hi hix (by omega)⟩,by simp⟩
 ·have hl:i=x.txs.length:=by omega
  subst hl
  have ht:=Hp hi
  simp(disch:=omega) [VY]
  refine ae (ks _ x.txs rfl (by omega) hx) rfl rfl ?_
  simp(disch:=omega) [h2,h3,ht,VY]
  refine aq (a9 x.head.root (aX x.txs)) ?_
  simp(disch:=omega) [h2,h3,ht,bo,show(x.txs.length:Int)≤l.txs by omega,VY]
def fv (h:Head) (t:List Bytes):Block:=⟨⟨h.view,h.height,h.proposer,h.parent,aX t,h.qc⟩,t⟩
def BK (l:ah) (h:Head) (t:List Bytes):List (Bool×List E):=
 if bo l (fv h t)then [(true,[.p (.int .i64 h.view), .p (.int .i64 h.height), .p (.int .i64 h.proposer), .o true (some (5,1)) (bytes h.parent), .o true (some (5,1)) (bytes (aX t)), .p (.int .i64 h.qc.view), .p (.int .i64 h.qc.height), .o true (some (5,1)) (bytes h.qc.block), .o true (some (5,1)) (bytes h.qc.bits), .o true (some (22,1)) (bE h.qc.tags), .o true (some (22,1)) (bE t)]),(false,[.p (.bool true)])]
 else [(true,[.p (.int .i64 0), .p (.int .i64 0), .p (.int .i64 0), .p .nils, .p .nils, .p (.int .i64 0), .p (.int .i64 0), .p .nils, .p .nils, .p .nils, .p .nils]),(false,[.p (.bool false)])]
theorem qt {l:ah} {x:Block} (h:bo l x=true):x.txs.length≤8:=by
 simp only[bo,Bool.and_eq_true,decide_eq_true_eq]at h
 have h1:=h.1.1.1
 simp only[bx,Bool.and_eq_true]at h1
 have h2:=iE h1.1.1.1.1.1.1
 simp only[ah.ok,Bool.and_eq_true]at h2
 have h3:=c7 h2.1.1.2
 omega
theorem y4 {h:Head} {t:List Bytes} (hw:h.wc) (ht:mH t):(fv h t).wc:=by
 obtain⟨⟨w1,w2,w3,w4,w5,w6⟩,w7⟩:=hw
 exact⟨⟨⟨w1,w2,w3,w4,by show(aX t).length≤_;rw[fK];omega,w6⟩,w7⟩,ht⟩
abbrev ix:Nat:=269
def pj:AF:=⟨3,5,[.cell 6 11 true, .tmp 7],(.seq (.ops [.i (.lbox 3 (.s 0)), .i (.lbox 4 (.s 1)), .i (.lal 6 [.int .i64 0, .int .i64 0, .int .i64 0, .nils, .nils, .int .i64 0, .int .i64 0, .nils, .nils, .nils, .nils]), .i (.mov 7 (qb false))]) (.seq (.ops [ql 9 4 4 10 true,qk 11 267 9,qm 11 2,qk 13 316 11, .i (.bld 13 [.int .i64 0, .int .i64 0, .int .i64 0, .nils, .nils, .int .i64 0, .int .i64 0, .nils, .nils, .nils, .nils] [(0,10,(.s 10)),(10,1,(.s 12))]), .i (.lal 8 [.int .i64 0, .int .i64 0, .int .i64 0, .nils, .nils, .int .i64 0, .int .i64 0, .nils, .nils, .nils, .nils]),qs 8 8 13 11]) (.seq (.ops [qm 14 2,qk 16 319 14,qf 16 8 0,qf 17 16 4,qs 8 17 15 1]) (.seq (.seq (.ops [ql 18 3 3 5 true,ql 19 8 8 11 true, .i (.call 21 311 false [(.s 18),(.s 19)]), .i (.not 21 (.s 20))]) (.cond (.s 21) (.seq (.ops [.i (.bld 22 [.int .i64 0, .int .i64 0, .int .i64 0, .nils, .nils, .int .i64 0, .int .i64 0, .nils, .nils, .nils, .nils] []),qs 6 6 22 11, .i (.mov 7 (qb false))]) .ret) .skip)) (.seq (.ops [ql 23 8 8 11 true,qs 6 6 23 11, .i (.mov 7 (qb true))]) .ret)))))⟩
theorem AA:cd ix=some pj:=by kernel_rfl
theorem zA (l:ah) (h:Head) (t:List Bytes) (hw:h.wc) (ht:mH t) (hx:∀x∈t,x.length≤1073741823):VC cd ix (aE [(true,l.c),(true,h.c),(false,[.sl (bE t)])]) (fun rs _=>rs=BK l h t):=by
 have hl:=ht.1
 simp only[Sz]at hl
 refine aa AA rfl ?_
 simp(disch:=omega) [pj,ah.c,Head.c,VY]
 refine ae (l5 h hw) rfl rfl ?_
 simp(disch:=omega) [Head.o,VY]
 refine ae (lO t ht) rfl rfl ?_
 simp(disch:=omega) [VY]
 refine ae (ks _ t rfl (by omega) hx) rfl rfl ?_
 simp(disch:=omega) [VY]
 have hq:=y4 hw ht
 refine aq (nV l (fv h t) hq hx) ?_
 simp(disch:=omega) [VY]
 refine an (fun h1=> ?_) (fun h1=> ?_) <;>simp(disch:=omega) [h1,BK,VY]
end Go.Eng.F
namespace Go.Eng.F
open Go.Eng.U (Hw dT dr gU Dd jQ po yD P7 lZ HB)
structure Entry where
 who:Int
 high:Int
 tag:Bytes
def Entry.c (r:Entry):List D:= [.int .i64 r.who, .int .i64 r.high, .sl (bytes r.tag)]
def Entry.wf (r:Entry):Prop:=lx r.who∧lx r.high∧Sz r.tag.length
structure Tc where
 view:Int
 entries:List Entry
def il (l:List Entry):List (List D):=l.map Entry.c
theorem bT (l:List Entry):(il l).length=l.length:=by simp[il]
theorem dW {l:List Entry} {i:Nat} (h:i < l.length):(il l)[i]? =some [.int .i64 l[i].who, .int .i64 l[i].high, .sl (bytes l[i].tag)]:=by simp[il,h,Entry.c]
theorem HC {l:List Entry} {i:Nat} (h:i < l.length):il (l.take i)++ [[.int .i64 l[i].who, .int .i64 l[i].high, .sl (bytes l[i].tag)]]=il (l.take (i+1)):=by
 have e:il (l.take (i+1))=il (l.take i)++il [l[i]]:=by
  rw[List.take_add_one,List.getElem?_eq_getElem h];exact List.map_append
 rw[e];rfl
def Tc.c (t:Tc):List D:= [.int .i64 t.view, .sl (il t.entries)]
def Tc.wf (t:Tc):Prop:=lx t.view∧Sz t.entries.length∧∀r∈t.entries,r.wf
abbrev kS:Nat:=207
def ke:AF:=⟨1,5,[.cell 2 2 true],(.seq (.ops [.i (.lbox 1 (.s 0)), .i (.lal 2 [.int .i64 0, .nils])]) (.seq (.ops [qf 6 1 0,ql 7 1 6 1 false, .i (.bld 8 [.int .i64 0, .nils] [(0,1,(.s 7))]), .i (.lal 3 [.int .i64 0, .nils]),qs 3 3 8 2]) (.seq (.seq (.ops [qf 9 1 1,ql 10 1 9 1 false,qn 11 10, .i (.mov 12 (qi 0))]) (.block 0 (.loop [29,28,27,26,25,24,23,22,21,20,19,18,17,16,15,14,13,5] (.seq (.ops [qd 13 .lss 12 11]) (.seq (.cond (.s 13) .skip (.exit 0)) (.seq (.block 1 (.seq (.ops [.i (.iad 14 (.s 10) (.s 12) 3), .i (.ldh 15 (.s 14) 3 true), .i (.lal 5 [.int .i64 0, .int .i64 0, .nils]),qs 5 5 15 3]) (.ops [qf 16 3 1,ql 17 3 16 1 false,qf 18 5 0,ql 19 5 18 1 false,qf 20 5 1,ql 21 5 20 1 false,qf 22 5 2,ql 23 5 22 1 false,qk 25 93 23, .i (.bld 25 [.int .i64 0, .int .i64 0, .nils] [(0,1,(.s 19)),(1,1,(.s 21)),(2,1,(.s 24))]), .i (.lsl 26 3 1 [.int .i64 0, .int .i64 0, .nils] [(0,3,(.s 25))]), .i (.app 27 165 3 40 (.s 17) (.s 26)),qf 28 3 1,qs 3 28 27 1]))) (.ops [.i (.bin 29 .add (.s 12) (qi 1)),qm 12 29]))))))) (.seq (.ops [ql 30 3 3 2 true,qs 2 2 30 2]) .ret))))⟩
theorem x9:cd kS=some ke:=by kernel_rfl
theorem Gi (t:Tc) (hw:t.wf):VC cd kS (aE [(true,t.c)]) (fun rs _=>rs= [(true,[.p (.int .i64 t.view), .o true (some (165,3)) (il t.entries)])]):=by
 obtain⟨w0,w1,w2⟩:=hw
 simp only[Sz]at w1
 refine aa x9 rfl ?_
 simp(disch:=omega) [ke,Tc.c,bT,VY]
 refine kO (σ:=Nat×Nat) (f0:=_) (by simp(disch:=omega) [VY];rfl) (de.x7 (s:=3) (k:=3) (i:=1) rfl rfl) (f1:=_) (es0:=_) (by simp(disch:=omega) [VY];rfl) (by simp(disch:=omega) [VY];rfl) (fun p=> [(12, .val false [.int .i64 p.1]),(3, .box [.int .i64 t.view, .ow 3 p.2])]) (fun p=> [(3, .sl p.2 true true (some (165,3)) (il (t.entries.take p.1)))])
  (fun p g=>g+p.1=t.entries.length) (0,_) t.entries.length (by simp(disch:=omega) [VY];rfl) (by simp(disch:=omega) [il,VY]) (by omega) ?_
 rintro⟨i,v⟩ n g hg
 simp only at hg
 simp(disch:=omega) [VY]
 refine ab (fun h1=> ?_) (fun h1=> ?_)
 ·have hx:i < t.entries.length:=by omega
  have w3:=(w2 _ (List.getElem_mem hx)).2.2
  simp only[Sz]at w3
  simp(disch:=omega) [dW hx,VY]
  refine ae (aO t.entries[i].tag (by omega)) rfl rfl ?_
  have hl:(il (t.entries.take i)).length=i:=by rw[bT];simp;omega
  simp(disch:=omega) [hl,HC hx,VY]
  exact⟨i+1,n+1,g - 1,by omega,by omega,⟨by omega,by omega⟩,by omega,rfl⟩
 ·simp(disch:=omega) [VY]
  have:i=t.entries.length:=by omega
  subst this
  rw[List.take_length]
abbrev pJ:Nat:=271
def oV:AF:=⟨1,5,[.cell 2 2 true],(.seq (.ops [.i (.lbox 1 (.s 0)), .i (.lal 2 [.int .i64 0, .nils])]) (.seq (.ops [qf 6 1 0,ql 7 1 6 1 false, .i (.bld 8 [.int .i64 0, .nils] [(0,1,(.s 7))]), .i (.lal 3 [.int .i64 0, .nils]),qs 3 3 8 2]) (.seq (.seq (.ops [qf 9 1 1,ql 10 1 9 1 false,qn 11 10, .i (.mov 12 (qi 0))]) (.block 0 (.loop [29,28,27,26,25,24,23,22,21,20,19,18,17,16,15,14,13,5] (.seq (.ops [qd 13 .lss 12 11]) (.seq (.cond (.s 13) .skip (.exit 0)) (.seq (.block 1 (.seq (.ops [.i (.iad 14 (.s 10) (.s 12) 3), .i (.ldh 15 (.s 14) 3 true), .i (.lal 5 [.int .i64 0, .int .i64 0, .nils]),qs 5 5 15 3]) (.ops [qf 16 3 1,ql 17 3 16 1 false,qf 18 5 0,ql 19 5 18 1 false,qf 20 5 1,ql 21 5 20 1 false,qf 22 5 2,ql 23 5 22 1 false,qk 25 143 23, .i (.bld 25 [.int .i64 0, .int .i64 0, .nils] [(0,1,(.s 19)),(1,1,(.s 21)),(2,1,(.s 24))]), .i (.lsl 26 3 1 [.int .i64 0, .int .i64 0, .nils] [(0,3,(.s 25))]), .i (.app 27 165 3 40 (.s 17) (.s 26)),qf 28 3 1,qs 3 28 27 1]))) (.ops [.i (.bin 29 .add (.s 12) (qi 1)),qm 12 29]))))))) (.seq (.ops [ql 30 3 3 2 true,qs 2 2 30 2]) .ret))))⟩
theorem B4:cd pJ=some oV:=by kernel_rfl
theorem IK (t:Tc) (hw:t.wf):VC cd pJ (aE [(true,t.c)]) (fun rs _=>rs= [(true,[.p (.int .i64 t.view), .o true (some (165,3)) (il t.entries)])]):=by
 obtain⟨w0,w1,w2⟩:=hw
 simp only[Sz]at w1
 refine aa B4 rfl ?_
 simp(disch:=omega) [oV,Tc.c,bT,VY]
 refine kO (σ:=Nat×Nat) (f0:=_) (by simp(disch:=omega) [VY];rfl) (de.x7 (s:=3) (k:=3) (i:=1) rfl rfl) (f1:=_) (es0:=_) (by simp(disch:=omega) [VY];rfl) (by simp(disch:=omega) [VY];rfl) (fun p=> [(12, .val false [.int .i64 p.1]),(3, .box [.int .i64 t.view, .ow 3 p.2])]) (fun p=> [(3, .sl p.2 true true (some (165,3)) (il (t.entries.take p.1)))])
  (fun p g=>g+p.1=t.entries.length) (0,_) t.entries.length (by simp(disch:=omega) [VY];rfl) (by simp(disch:=omega) [il,VY]) (by omega) ?_
 rintro⟨i,v⟩ n g hg
 simp only at hg
 simp(disch:=omega) [VY]
 refine ab (fun h1=> ?_) (fun h1=> ?_)
 ·have hx:i < t.entries.length:=by omega
  have w3:=(w2 _ (List.getElem_mem hx)).2.2
  simp only[Sz]at w3
  simp(disch:=omega) [dW hx,VY]
  refine ae (ck t.entries[i].tag (by omega)) rfl rfl ?_
  have hl:(il (t.entries.take i)).length=i:=by rw[bT];simp;omega
  simp(disch:=omega) [hl,HC hx,VY]
  exact⟨i+1,n+1,g - 1,by omega,by omega,⟨by omega,by omega⟩,by omega,rfl⟩
 ·simp(disch:=omega) [VY]
  have:i=t.entries.length:=by omega
  subst this
  rw[List.take_length]
def qZ (t:Tc):List (Bool×List E):= [(true,[.p (.int .i64 5), .p (.int .i64 0), .p (.int .i64 0), .p .nils, .p (.int .i64 0), .p .nils, .p (.int .i64 0), .p (.int .i64 0), .p .nils, .p .nils, .p .nils, .p (.int .i64 0), .p (.int .i64 0), .p (.int .i64 0), .p .nils, .p .nils, .p (.int .i64 0), .p (.int .i64 0), .p .nils, .p .nils, .p .nils, .p (.int .i64 0), .p (.int .i64 0), .p (.int .i64 0), .p .nils, .p .nils, .p (.int .i64 0), .p (.int .i64 0), .p .nils, .p .nils, .p .nils, .p .nils, .p (.int .i64 t.view), .o true (some (165,3)) (il t.entries), .p .nils, .p (.int .i64 0), .p (.int .i64 0), .p .nils, .p .nils, .p .nils, .p (.int .i64 0), .p (.int .i64 0), .p (.int .i64 0), .p .nils, .p .nils])]
abbrev yY:Nat:=200
def yL:AF:=⟨1,3,[.cell 2 45 true],(.seq (.ops [.i (.lbox 1 (.s 0)), .i (.lal 2 [.int .i64 0, .int .i64 0, .int .i64 0, .nils, .int .i64 0, .nils, .int .i64 0, .int .i64 0, .nils, .nils, .nils, .int .i64 0, .int .i64 0, .int .i64 0, .nils, .nils, .int .i64 0, .int .i64 0, .nils, .nils, .nils, .int .i64 0, .int .i64 0, .int .i64 0, .nils, .nils, .int .i64 0, .int .i64 0, .nils, .nils, .nils, .nils, .int .i64 0, .nils, .nils, .int .i64 0, .int .i64 0, .nils, .nils, .nils, .int .i64 0, .int .i64 0, .int .i64 0, .nils, .nils])]) (.seq (.ops [ql 3 1 1 2 true,qk 5 207 3, .i (.bld 5 [.int .i64 0, .int .i64 0, .int .i64 0, .nils, .int .i64 0, .nils, .int .i64 0, .int .i64 0, .nils, .nils, .nils, .int .i64 0, .int .i64 0, .int .i64 0, .nils, .nils, .int .i64 0, .int .i64 0, .nils, .nils, .nils, .int .i64 0, .int .i64 0, .int .i64 0, .nils, .nils, .int .i64 0, .int .i64 0, .nils, .nils, .nils, .nils, .int .i64 0, .nils, .nils, .int .i64 0, .int .i64 0, .nils, .nils, .nils, .int .i64 0, .int .i64 0, .int .i64 0, .nils, .nils] [(0,1,(qi 5)),(32,2,(.s 4))]),qs 2 2 5 45]) .ret))⟩
theorem Hl:cd yY=some yL:=by kernel_rfl
theorem FJ (t:Tc) (hw:t.wf):VC cd yY (aE [(true,t.c)]) (fun rs _=>rs=qZ t):=by
 refine aa Hl rfl ?_
 simp(disch:=omega) [yL,Tc.c,VY]
 refine ae (Gi t hw) rfl rfl ?_
 simp(disch:=omega) [qZ,VY]
abbrev yN:Nat:=190
def yy:AF:=⟨1,3,[.cell 2 45 true],(.seq (.ops [.i (.lbox 1 (.s 0)), .i (.lal 2 [.int .i64 0, .int .i64 0, .int .i64 0, .nils, .int .i64 0, .nils, .int .i64 0, .int .i64 0, .nils, .nils, .nils, .int .i64 0, .int .i64 0, .int .i64 0, .nils, .nils, .int .i64 0, .int .i64 0, .nils, .nils, .nils, .int .i64 0, .int .i64 0, .int .i64 0, .nils, .nils, .int .i64 0, .int .i64 0, .nils, .nils, .nils, .nils, .int .i64 0, .nils, .nils, .int .i64 0, .int .i64 0, .nils, .nils, .nils, .int .i64 0, .int .i64 0, .int .i64 0, .nils, .nils])]) (.seq (.ops [ql 3 1 1 2 true,qk 5 271 3, .i (.bld 5 [.int .i64 0, .int .i64 0, .int .i64 0, .nils, .int .i64 0, .nils, .int .i64 0, .int .i64 0, .nils, .nils, .nils, .int .i64 0, .int .i64 0, .int .i64 0, .nils, .nils, .int .i64 0, .int .i64 0, .nils, .nils, .nils, .int .i64 0, .int .i64 0, .int .i64 0, .nils, .nils, .int .i64 0, .int .i64 0, .nils, .nils, .nils, .nils, .int .i64 0, .nils, .nils, .int .i64 0, .int .i64 0, .nils, .nils, .nils, .int .i64 0, .int .i64 0, .int .i64 0, .nils, .nils] [(0,1,(qi 5)),(32,2,(.s 4))]),qs 2 2 5 45]) .ret))⟩
theorem GI:cd yN=some yy:=by kernel_rfl
theorem xg (t:Tc) (hw:t.wf):VC cd yN (aE [(true,t.c)]) (fun rs _=>rs=qZ t):=by
 refine aa GI rfl ?_
 simp(disch:=omega) [yy,Tc.c,VY]
 refine ae (IK t hw) rfl rfl ?_
 simp(disch:=omega) [qZ,VY]
def Entry.tv (x:Entry):Tv:= .r [.i x.who, .i x.high,C5 x.tag]
theorem Entry.enc (x:Entry):enc lZ x.tv=x.c:=by simp only[Entry.tv,fg,cp,c4,eT,fH,jB,gT,eK,gJ,Entry.c,List.cons_append,List.nil_append,List.append_assoc]
theorem Entry.ex {v:Tv} (h:aS lZ v):∃x:Entry,v=x.tv:=by
 obtain⟨vs,rfl,h⟩:=h.st
 obtain⟨v0,_,rfl,h0,h⟩:=h.step
 obtain⟨v1,_,rfl,h1,h⟩:=h.step
 obtain⟨v2,_,rfl,h2,h⟩:=h.step
 obtain rfl:=h.fin
 obtain⟨n0,rfl,_⟩:=h0.int
 obtain⟨n1,rfl,_⟩:=h1.int
 obtain⟨n2,rfl⟩:=gR h2
 exact⟨⟨n0,n1,n2⟩,rfl⟩
theorem Entry.of {x:Entry} (h:aS lZ x.tv) (hw:wt x.tv≤1048576):x.wf:=by
 simp only[Entry.tv,gG,cZ]at h
 simp only[Entry.tv,wt,z3]at hw
 obtain⟨h0,h1,h2,_⟩:=h
 exact⟨dY (ok_int.1 h0),dY (ok_int.1 h1),ux (by omega)⟩
def Jj (l:List Entry):Tv:= .l (l.map Entry.tv)
theorem Ok (l:List Entry):enc (.sl lZ) (Jj l)= [.sl (il l)]:=by
 simp only[Jj,F0,List.map_map,il]
 congr 2
 exact List.map_congr_left fun x _=>Entry.enc x
theorem N0 {v:Tv} (h:aS (.sl lZ) v):∃l,v=Jj l:=by
 obtain⟨xs,rfl,_,h2⟩:=h.sl
 obtain⟨ys,rfl⟩:=sI (f:=Entry.tv) (P:=aS lZ) (fun v hv=>Entry.ex hv) h2
 exact⟨ys,rfl⟩
theorem OO {l:List Entry} (h:aS (.sl lZ) (Jj l)) (hw:wt (Jj l)≤1048576):Sz l.length∧∀x∈l,x.wf:=by
 unfold Jj at h hw
 rw[L5]at hw
 have h2:=(Mg.1 h).2
 simp only[List.length_map]at hw
 refine⟨by unfold Sz;omega,fun x hx=>Entry.of (h2 _ (List.mem_map_of_mem hx)) ?_⟩
 have:=vZ (f:=Entry.tv) hx
 omega
def Tc.tv (x:Tc):Tv:= .r [.i x.view,Jj x.entries]
theorem Tc.enc (x:Tc):enc P7 x.tv=x.c:=by simp only[Tc.tv,Ok,fg,cp,c4,eT,fH,jB,gT,eK,gJ,Tc.c,List.cons_append,List.nil_append,List.append_assoc]
theorem Tc.ex {v:Tv} (h:aS P7 v):∃x:Tc,v=x.tv:=by
 obtain⟨vs,rfl,h⟩:=h.st
 obtain⟨v0,_,rfl,h0,h⟩:=h.step
 obtain⟨v1,_,rfl,h1,h⟩:=h.step
 obtain rfl:=h.fin
 obtain⟨n0,rfl,_⟩:=h0.int
 obtain⟨n1,rfl⟩:=N0 h1
 exact⟨⟨n0,n1⟩,rfl⟩
theorem Tc.of {x:Tc} (h:aS P7 x.tv) (hw:wt x.tv≤1048576):x.wf:=by
 simp only[Tc.tv,gG,cZ]at h
 simp only[Tc.tv,wt,z3]at hw
 obtain⟨h0,h1,_⟩:=h
 exact⟨dY (ok_int.1 h0),OO h1 (by omega)⟩
end Go.Eng.F
namespace Go.Eng.F
theorem B3 {α:Type} {a b:List α} {i:Nat} (hd:∀j,j < i→a[j]? =b[j]?) (h:a[i]? =b[i]?):∀j,j < i+1→a[j]? =b[j]? :=fun j hj=>by
 rcases Nat.lt_or_ge j i with hl|hl
 ·exact hd j hl
 ·obtain rfl:j=i:=by omega
  exact h
theorem GL {α:Type} {a b:List α} (hl:a.length=b.length) (hd:∀j,j < b.length→a[j]? =b[j]?):a=b:=by
 apply List.ext_getElem?
 intro j
 rcases Nat.lt_or_ge j b.length with h|h
 ·exact hd j h
 ·rw[List.getElem?_eq_none_iff.2 h,List.getElem?_eq_none_iff.2 (by omega)]
abbrev mS:Nat:=107
def ml:AF:=⟨2,5,[.tmp 4],(.seq (.ops [.i (.mov 4 (qb false))]) (.seq (.seq (.ops [qm 6 0,qn 7 6,qm 8 1,qn 9 8,qd 10 .neq 7 9]) (.cond (.s 10) (.seq (.ops [.i (.mov 4 (qb false))]) .ret) .skip)) (.seq (.seq (.ops [qm 11 0,qn 12 11, .i (.mov 13 (qi 0))]) (.block 0 (.loop [26,25,24,23,22,21,20,19,18,17,16,15,14,5] (.seq (.ops [qd 14 .lss 13 12]) (.seq (.cond (.s 14) .skip (.exit 0)) (.seq (.block 1 (.seq (.ops [qm 15 13,qm 5 15]) (.seq (.ops [qm 16 0,qm 17 5, .i (.iad 18 (.s 16) (.s 17) 1), .i (.ldh 19 (.s 18) 1 false),qm 20 1,qm 21 5, .i (.iad 22 (.s 20) (.s 21) 1), .i (.ldh 23 (.s 22) 1 false), .i (.call 25 21 false [(.s 19),(.s 23)]), .i (.not 25 (.s 24))]) (.cond (.s 25) (.seq (.ops [.i (.mov 4 (qb false))]) .ret) .skip)))) (.ops [.i (.bin 26 .add (.s 13) (qi 1)),qm 13 26]))))))) (.seq (.ops [.i (.mov 4 (qb true))]) .ret))))⟩
theorem zU:cd mS=some ml:=by kernel_rfl
theorem gm (a b:List Bytes) (ha:Sz a.length) (hb:Sz b.length):VC cd mS (aE [(false,[.sl (bE a)]),(false,[.sl (bE b)])]) (fun rs _=>rs=bl (decide (a=b))):=by
 simp only[Sz]at ha hb
 refine aa zU rfl ?_
 simp(disch:=omega) [ml,ao,VY]
 refine ab (fun h1=> ?_) (fun h1=> ?_)
 case refine_2=>
  have hn:¬a=b:=fun e=>h1 (by rw[e])
  simp(disch:=omega) [h1,hn,VY]
 simp(disch:=omega) [h1,ao,VY]
 refine cY (σ:=Nat) (f1:=_) (es0:=_) (by simp(disch:=omega) [VY];rfl) (by simp(disch:=omega) [VY];rfl) (fun i=> [(13, .val false [.int .i64 (i:Int)])]) (fun _=> []) (fun i g=>g+i=b.length∧∀j,j < i→a[j]? =b[j]?) 0 b.length (by simp(disch:=omega) [h1,VY]) (by simp(disch:=omega) [VY]) ⟨by omega,fun j hj=>by omega⟩ ?_
 rintro i n g ⟨hg,hd⟩ P hP
 simp(disch:=omega) [h1,VY]
 refine ab (fun h2=> ?_) (fun h2=> ?_)
 ·have hi:i < a.length:=by omega
  have hj:i < b.length:=by omega
  simp(disch:=omega) [db hi,db hj,VY]
  refine aq (aL a[i] b[i]) ?_
  simp(disch:=omega) [VY]
  refine ab (fun h3=> ?_) (fun h3=> ?_)
  ·simp(disch:=omega) [h3,VY]
   exact hP (i+1) (g - 1) _ _ (by omega) ⟨by omega,B3 hd (by simp[hi,hj,h3])⟩ (by simp(disch:=omega) [VY]) (by simp(disch:=omega) [VY])
  ·have hn:¬a=b:=fun e=>h3 (by subst e;rfl)
   simp(disch:=omega) [h3,hn,VY]
 ·have he:a=b:=GL (by omega) (fun j hj=>hd j (by omega))
  simp(disch:=omega) [he,VY]
abbrev mh:Nat:=336
def nR:AF:=⟨2,5,[.tmp 4],(.seq (.ops [.i (.mov 4 (qb false))]) (.seq (.seq (.ops [qm 6 0,qn 7 6,qm 8 1,qn 9 8,qd 10 .neq 7 9]) (.cond (.s 10) (.seq (.ops [.i (.mov 4 (qb false))]) .ret) .skip)) (.seq (.seq (.ops [qm 11 0,qn 12 11, .i (.mov 13 (qi 0))]) (.block 0 (.loop [26,25,24,23,22,21,20,19,18,17,16,15,14,5] (.seq (.ops [qd 14 .lss 13 12]) (.seq (.cond (.s 14) .skip (.exit 0)) (.seq (.block 1 (.seq (.ops [qm 15 13,qm 5 15]) (.seq (.ops [qm 16 0,qm 17 5, .i (.iad 18 (.s 16) (.s 17) 1), .i (.ldh 19 (.s 18) 1 false),qm 20 1,qm 21 5, .i (.iad 22 (.s 20) (.s 21) 1), .i (.ldh 23 (.s 22) 1 false), .i (.call 25 329 false [(.s 19),(.s 23)]), .i (.not 25 (.s 24))]) (.cond (.s 25) (.seq (.ops [.i (.mov 4 (qb false))]) .ret) .skip)))) (.ops [.i (.bin 26 .add (.s 13) (qi 1)),qm 13 26]))))))) (.seq (.ops [.i (.mov 4 (qb true))]) .ret))))⟩
theorem zh:cd mh=some nR:=by kernel_rfl
theorem gp (a b:List Bytes) (ha:Sz a.length) (hb:Sz b.length):VC cd mh (aE [(false,[.sl (bE a)]),(false,[.sl (bE b)])]) (fun rs _=>rs=bl (decide (a=b))):=by
 simp only[Sz]at ha hb
 refine aa zh rfl ?_
 simp(disch:=omega) [nR,ao,VY]
 refine ab (fun h1=> ?_) (fun h1=> ?_)
 case refine_2=>
  have hn:¬a=b:=fun e=>h1 (by rw[e])
  simp(disch:=omega) [h1,hn,VY]
 simp(disch:=omega) [h1,ao,VY]
 refine cY (σ:=Nat) (f1:=_) (es0:=_) (by simp(disch:=omega) [VY];rfl) (by simp(disch:=omega) [VY];rfl) (fun i=> [(13, .val false [.int .i64 (i:Int)])]) (fun _=> []) (fun i g=>g+i=b.length∧∀j,j < i→a[j]? =b[j]?) 0 b.length (by simp(disch:=omega) [h1,VY]) (by simp(disch:=omega) [VY]) ⟨by omega,fun j hj=>by omega⟩ ?_
 rintro i n g ⟨hg,hd⟩ P hP
 simp(disch:=omega) [h1,VY]
 refine ab (fun h2=> ?_) (fun h2=> ?_)
 ·have hi:i < a.length:=by omega
  have hj:i < b.length:=by omega
  simp(disch:=omega) [db hi,db hj,VY]
  refine aq (a9 a[i] b[i]) ?_
  simp(disch:=omega) [VY]
  refine ab (fun h3=> ?_) (fun h3=> ?_)
  ·simp(disch:=omega) [h3,VY]
   exact hP (i+1) (g - 1) _ _ (by omega) ⟨by omega,B3 hd (by simp[hi,hj,h3])⟩ (by simp(disch:=omega) [VY]) (by simp(disch:=omega) [VY])
  ·have hn:¬a=b:=fun e=>h3 (by subst e;rfl)
   simp(disch:=omega) [h3,hn,VY]
 ·have he:a=b:=GL (by omega) (fun j hj=>hd j (by omega))
  simp(disch:=omega) [he,VY]
def lK (a b:Qc):Bool:=decide (a.view=b.view) && decide (a.height=b.height) && decide (a.block=b.block) && decide (a.bits=b.bits) && decide (a.tags=b.tags)
abbrev ug:Nat:=29
def uJ:AF:=⟨2,6,[.tmp 4],(.seq (.ops [.i (.lbox 2 (.s 0)), .i (.lbox 3 (.s 1)), .i (.mov 4 (qb false))]) (.seq (.ops [qf 5 2 0,ql 6 2 5 1 false,qf 7 3 0,ql 8 3 7 1 false,qd 9 .eql 6 8,qm 10 9, .g 10 true 12 (.fad 11 (.s 2) 1), .g 10 true 13 (.ldl 12 2 (.s 11) 1 false), .g 10 true 14 (.fad 13 (.s 3) 1), .g 10 true 15 (.ldl 14 3 (.s 13) 1 false), .g 10 true 16 (.bin 15 .eql (.s 12) (.s 14)), .i (.pick 16 (.s 10) (.s 15) (qb false)),qm 17 16, .g 17 true 19 (.fad 18 (.s 2) 2), .g 17 true 20 (.ldl 19 2 (.s 18) 1 false), .g 17 true 21 (.fad 20 (.s 3) 2), .g 17 true 22 (.ldl 21 3 (.s 20) 1 false), .g 17 true 23 (.call 23 21 false [(.s 19),(.s 21)]), .i (.pick 23 (.s 17) (.s 22) (qb false)),qm 24 23, .g 24 true 26 (.fad 25 (.s 2) 3), .g 24 true 27 (.ldl 26 2 (.s 25) 1 false), .g 24 true 28 (.fad 27 (.s 3) 3), .g 24 true 29 (.ldl 28 3 (.s 27) 1 false), .g 24 true 30 (.call 30 21 false [(.s 26),(.s 28)]), .i (.pick 30 (.s 24) (.s 29) (qb false)),qm 31 30, .g 31 true 33 (.fad 32 (.s 2) 4), .g 31 true 34 (.ldl 33 2 (.s 32) 1 false), .g 31 true 35 (.fad 34 (.s 3) 4), .g 31 true 36 (.ldl 35 3 (.s 34) 1 false), .g 31 true 37 (.call 37 107 false [(.s 33),(.s 35)]), .i (.pick 37 (.s 31) (.s 36) (qb false)),qm 4 37]) .ret))⟩
theorem DX:cd ug=some uJ:=by kernel_rfl
theorem iI (a b:Qc) (ha:a.wf) (hb:b.wf):VC cd ug (aE [(true,a.c),(true,b.c)]) (fun rs _=>rs=bl (lK a b)):=by
 refine aa DX rfl ?_
 simp(disch:=omega) [uJ,Qc.c,VY]
 refine ab (fun h1=> ?_) (fun h1=> ?_) <;>simp(disch:=omega) [h1,lK,VY]
 refine ab (fun h2=> ?_) (fun h2=> ?_) <;>simp(disch:=omega) [h1,h2,VY]
 refine aq (aL a.block b.block) ?_
 simp(disch:=omega) [h1,h2,VY]
 refine ab (fun h3=> ?_) (fun h3=> ?_) <;>simp(disch:=omega) [h1,h2,h3,VY]
 refine aq (aL a.bits b.bits) ?_
 simp(disch:=omega) [h1,h2,h3,VY]
 refine ab (fun h4=> ?_) (fun h4=> ?_) <;>simp(disch:=omega) [h1,h2,h3,h4,VY]
 refine aq (gm a.tags b.tags ha.2.2.2.2 hb.2.2.2.2) ?_
 simp(disch:=omega) [h1,h2,h3,h4,VY]
abbrev tw:Nat:=299
def tG:AF:=⟨2,6,[.tmp 4],(.seq (.ops [.i (.lbox 2 (.s 0)), .i (.lbox 3 (.s 1)), .i (.mov 4 (qb false))]) (.seq (.ops [qf 5 2 0,ql 6 2 5 1 false,qf 7 3 0,ql 8 3 7 1 false,qd 9 .eql 6 8,qm 10 9, .g 10 true 12 (.fad 11 (.s 2) 1), .g 10 true 13 (.ldl 12 2 (.s 11) 1 false), .g 10 true 14 (.fad 13 (.s 3) 1), .g 10 true 15 (.ldl 14 3 (.s 13) 1 false), .g 10 true 16 (.bin 15 .eql (.s 12) (.s 14)), .i (.pick 16 (.s 10) (.s 15) (qb false)),qm 17 16, .g 17 true 19 (.fad 18 (.s 2) 2), .g 17 true 20 (.ldl 19 2 (.s 18) 1 false), .g 17 true 21 (.fad 20 (.s 3) 2), .g 17 true 22 (.ldl 21 3 (.s 20) 1 false), .g 17 true 23 (.call 23 329 false [(.s 19),(.s 21)]), .i (.pick 23 (.s 17) (.s 22) (qb false)),qm 24 23, .g 24 true 26 (.fad 25 (.s 2) 3), .g 24 true 27 (.ldl 26 2 (.s 25) 1 false), .g 24 true 28 (.fad 27 (.s 3) 3), .g 24 true 29 (.ldl 28 3 (.s 27) 1 false), .g 24 true 30 (.call 30 329 false [(.s 26),(.s 28)]), .i (.pick 30 (.s 24) (.s 29) (qb false)),qm 31 30, .g 31 true 33 (.fad 32 (.s 2) 4), .g 31 true 34 (.ldl 33 2 (.s 32) 1 false), .g 31 true 35 (.fad 34 (.s 3) 4), .g 31 true 36 (.ldl 35 3 (.s 34) 1 false), .g 31 true 37 (.call 37 336 false [(.s 33),(.s 35)]), .i (.pick 37 (.s 31) (.s 36) (qb false)),qm 4 37]) .ret))⟩
theorem Dl:cd tw=some tG:=by kernel_rfl
theorem iN (a b:Qc) (ha:a.wf) (hb:b.wf):VC cd tw (aE [(true,a.c),(true,b.c)]) (fun rs _=>rs=bl (lK a b)):=by
 refine aa Dl rfl ?_
 simp(disch:=omega) [tG,Qc.c,VY]
 refine ab (fun h1=> ?_) (fun h1=> ?_) <;>simp(disch:=omega) [h1,lK,VY]
 refine ab (fun h2=> ?_) (fun h2=> ?_) <;>simp(disch:=omega) [h1,h2,VY]
 refine aq (a9 a.block b.block) ?_
 simp(disch:=omega) [h1,h2,VY]
 refine ab (fun h3=> ?_) (fun h3=> ?_) <;>simp(disch:=omega) [h1,h2,h3,VY]
 refine aq (a9 a.bits b.bits) ?_
 simp(disch:=omega) [h1,h2,h3,VY]
 refine ab (fun h4=> ?_) (fun h4=> ?_) <;>simp(disch:=omega) [h1,h2,h3,h4,VY]
 refine aq (gp a.tags b.tags ha.2.2.2.2 hb.2.2.2.2) ?_
 simp(disch:=omega) [h1,h2,h3,h4,VY]
def d6 (a b:Head):Bool:=decide (a.view=b.view) && decide (a.height=b.height) && decide (a.proposer=b.proposer) && decide (a.parent=b.parent) && decide (a.root=b.root) && lK a.qc b.qc
abbrev m7:Nat:=32
def nI:AF:=⟨2,6,[.tmp 4],(.seq (.ops [.i (.lbox 2 (.s 0)), .i (.lbox 3 (.s 1)), .i (.mov 4 (qb false))]) (.seq (.ops [qf 5 2 0,ql 6 2 5 1 false,qf 7 3 0,ql 8 3 7 1 false,qd 9 .eql 6 8,qm 10 9, .g 10 true 12 (.fad 11 (.s 2) 1), .g 10 true 13 (.ldl 12 2 (.s 11) 1 false), .g 10 true 14 (.fad 13 (.s 3) 1), .g 10 true 15 (.ldl 14 3 (.s 13) 1 false), .g 10 true 16 (.bin 15 .eql (.s 12) (.s 14)), .i (.pick 16 (.s 10) (.s 15) (qb false)),qm 17 16, .g 17 true 19 (.fad 18 (.s 2) 2), .g 17 true 20 (.ldl 19 2 (.s 18) 1 false), .g 17 true 21 (.fad 20 (.s 3) 2), .g 17 true 22 (.ldl 21 3 (.s 20) 1 false), .g 17 true 23 (.bin 22 .eql (.s 19) (.s 21)), .i (.pick 23 (.s 17) (.s 22) (qb false)),qm 24 23, .g 24 true 26 (.fad 25 (.s 2) 3), .g 24 true 27 (.ldl 26 2 (.s 25) 1 false), .g 24 true 28 (.fad 27 (.s 3) 3), .g 24 true 29 (.ldl 28 3 (.s 27) 1 false), .g 24 true 30 (.call 30 21 false [(.s 26),(.s 28)]), .i (.pick 30 (.s 24) (.s 29) (qb false)),qm 31 30, .g 31 true 33 (.fad 32 (.s 2) 4), .g 31 true 34 (.ldl 33 2 (.s 32) 1 false), .g 31 true 35 (.fad 34 (.s 3) 4), .g 31 true 36 (.ldl 35 3 (.s 34) 1 false), .g 31 true 37 (.call 37 21 false [(.s 33),(.s 35)]), .i (.pick 37 (.s 31) (.s 36) (qb false)),qm 38 37, .g 38 true 40 (.fad 39 (.s 2) 5), .g 38 true 41 (.ldl 40 2 (.s 39) 5 true), .g 38 true 42 (.fad 41 (.s 3) 5), .g 38 true 43 (.ldl 42 3 (.s 41) 5 true), .g 38 true 44 (.call 44 29 false [(.s 40),(.s 42)]), .i (.pick 44 (.s 38) (.s 43) (qb false)),qm 4 44]) .ret))⟩
theorem zb:cd m7=some nI:=by kernel_rfl
theorem gw (a b:Head) (ha:a.wf) (hb:b.wf):VC cd m7 (aE [(true,a.c),(true,b.c)]) (fun rs _=>rs=bl (d6 a b)):=by
 refine aa zb rfl ?_
 simp(disch:=omega) [nI,Head.c,VY]
 refine ab (fun h1=> ?_) (fun h1=> ?_) <;>simp(disch:=omega) [h1,d6,VY]
 refine ab (fun h2=> ?_) (fun h2=> ?_) <;>simp(disch:=omega) [h1,h2,VY]
 refine ab (fun h3=> ?_) (fun h3=> ?_) <;>simp(disch:=omega) [h1,h2,h3,VY]
 refine aq (aL a.parent b.parent) ?_
 simp(disch:=omega) [h1,h2,h3,VY]
 refine ab (fun h4=> ?_) (fun h4=> ?_) <;>simp(disch:=omega) [h1,h2,h3,h4,VY]
 refine aq (aL a.root b.root) ?_
 simp(disch:=omega) [h1,h2,h3,h4,VY]
 refine ab (fun h5=> ?_) (fun h5=> ?_) <;>simp(disch:=omega) [h1,h2,h3,h4,h5,VY]
 refine aq (iI a.qc b.qc ha.2.2.2.2.2 hb.2.2.2.2.2) ?_ (ha:=by first|rfl|(simp[Qc.c,VY] <;>repeat' constructor))
 simp(disch:=omega) [h1,h2,h3,h4,h5,VY]
abbrev nH:Nat:=300
def m8:AF:=⟨2,6,[.tmp 4],(.seq (.ops [.i (.lbox 2 (.s 0)), .i (.lbox 3 (.s 1)), .i (.mov 4 (qb false))]) (.seq (.ops [qf 5 2 0,ql 6 2 5 1 false,qf 7 3 0,ql 8 3 7 1 false,qd 9 .eql 6 8,qm 10 9, .g 10 true 12 (.fad 11 (.s 2) 1), .g 10 true 13 (.ldl 12 2 (.s 11) 1 false), .g 10 true 14 (.fad 13 (.s 3) 1), .g 10 true 15 (.ldl 14 3 (.s 13) 1 false), .g 10 true 16 (.bin 15 .eql (.s 12) (.s 14)), .i (.pick 16 (.s 10) (.s 15) (qb false)),qm 17 16, .g 17 true 19 (.fad 18 (.s 2) 2), .g 17 true 20 (.ldl 19 2 (.s 18) 1 false), .g 17 true 21 (.fad 20 (.s 3) 2), .g 17 true 22 (.ldl 21 3 (.s 20) 1 false), .g 17 true 23 (.bin 22 .eql (.s 19) (.s 21)), .i (.pick 23 (.s 17) (.s 22) (qb false)),qm 24 23, .g 24 true 26 (.fad 25 (.s 2) 3), .g 24 true 27 (.ldl 26 2 (.s 25) 1 false), .g 24 true 28 (.fad 27 (.s 3) 3), .g 24 true 29 (.ldl 28 3 (.s 27) 1 false), .g 24 true 30 (.call 30 329 false [(.s 26),(.s 28)]), .i (.pick 30 (.s 24) (.s 29) (qb false)),qm 31 30, .g 31 true 33 (.fad 32 (.s 2) 4), .g 31 true 34 (.ldl 33 2 (.s 32) 1 false), .g 31 true 35 (.fad 34 (.s 3) 4), .g 31 true 36 (.ldl 35 3 (.s 34) 1 false), .g 31 true 37 (.call 37 329 false [(.s 33),(.s 35)]), .i (.pick 37 (.s 31) (.s 36) (qb false)),qm 38 37, .g 38 true 40 (.fad 39 (.s 2) 5), .g 38 true 41 (.ldl 40 2 (.s 39) 5 true), .g 38 true 42 (.fad 41 (.s 3) 5), .g 38 true 43 (.ldl 42 3 (.s 41) 5 true), .g 38 true 44 (.call 44 299 false [(.s 40),(.s 42)]), .i (.pick 44 (.s 38) (.s 43) (qb false)),qm 4 44]) .ret))⟩
theorem z8:cd nH=some m8:=by kernel_rfl
theorem gl (a b:Head) (ha:a.wf) (hb:b.wf):VC cd nH (aE [(true,a.c),(true,b.c)]) (fun rs _=>rs=bl (d6 a b)):=by
 refine aa z8 rfl ?_
 simp(disch:=omega) [m8,Head.c,VY]
 refine ab (fun h1=> ?_) (fun h1=> ?_) <;>simp(disch:=omega) [h1,d6,VY]
 refine ab (fun h2=> ?_) (fun h2=> ?_) <;>simp(disch:=omega) [h1,h2,VY]
 refine ab (fun h3=> ?_) (fun h3=> ?_) <;>simp(disch:=omega) [h1,h2,h3,VY]
 refine aq (a9 a.parent b.parent) ?_
 simp(disch:=omega) [h1,h2,h3,VY]
 refine ab (fun h4=> ?_) (fun h4=> ?_) <;>simp(disch:=omega) [h1,h2,h3,h4,VY]
 refine aq (a9 a.root b.root) ?_
 simp(disch:=omega) [h1,h2,h3,h4,VY]
 refine ab (fun h5=> ?_) (fun h5=> ?_) <;>simp(disch:=omega) [h1,h2,h3,h4,h5,VY]
 refine aq (iN a.qc b.qc ha.2.2.2.2.2 hb.2.2.2.2.2) ?_ (ha:=by first|rfl|(simp[Qc.c,VY] <;>repeat' constructor))
 simp(disch:=omega) [h1,h2,h3,h4,h5,VY]
def ga (a b:Block):Bool:=d6 a.head b.head && decide (a.txs=b.txs)
abbrev kJ:Nat:=36
def ky:AF:=⟨2,5,[.tmp 4],(.seq (.ops [.i (.lbox 2 (.s 0)), .i (.lbox 3 (.s 1)), .i (.mov 4 (qb false))]) (.seq (.ops [qf 5 2 0,ql 6 2 5 10 true,qf 7 3 0,ql 8 3 7 10 true, .i (.call 10 32 false [(.s 6),(.s 8)]),qm 10 9, .g 10 true 12 (.fad 11 (.s 2) 10), .g 10 true 13 (.ldl 12 2 (.s 11) 1 false), .g 10 true 14 (.fad 13 (.s 3) 10), .g 10 true 15 (.ldl 14 3 (.s 13) 1 false), .g 10 true 16 (.call 16 107 false [(.s 12),(.s 14)]), .i (.pick 16 (.s 10) (.s 15) (qb false)),qm 4 16]) .ret))⟩
theorem yg:cd kJ=some ky:=by kernel_rfl
theorem wH (a b:Block) (ha:a.wc) (hb:b.wc):VC cd kJ (aE [(true,a.c),(true,b.c)]) (fun rs _=>rs=bl (ga a b)):=by
 refine aa yg rfl ?_
 simp(disch:=omega) [ky,Block.c,Head.c,VY]
 refine aq (gw a.head b.head ha.1.1 hb.1.1) ?_ (ha:=by first|rfl|(simp[Head.c,VY] <;>repeat' constructor))
 simp(disch:=omega) [VY]
 refine an (fun h1=> ?_) (fun h1=> ?_) <;>simp(disch:=omega) [h1,ga,VY]
 refine aq (gm a.txs b.txs ha.2.1 hb.2.1) ?_
 simp(disch:=omega) [h1,VY]
abbrev kC:Nat:=301
def lb:AF:=⟨2,5,[.tmp 4],(.seq (.ops [.i (.lbox 2 (.s 0)), .i (.lbox 3 (.s 1)), .i (.mov 4 (qb false))]) (.seq (.ops [qf 5 2 0,ql 6 2 5 10 true,qf 7 3 0,ql 8 3 7 10 true, .i (.call 10 300 false [(.s 6),(.s 8)]),qm 10 9, .g 10 true 12 (.fad 11 (.s 2) 10), .g 10 true 13 (.ldl 12 2 (.s 11) 1 false), .g 10 true 14 (.fad 13 (.s 3) 10), .g 10 true 15 (.ldl 14 3 (.s 13) 1 false), .g 10 true 16 (.call 16 336 false [(.s 12),(.s 14)]), .i (.pick 16 (.s 10) (.s 15) (qb false)),qm 4 16]) .ret))⟩
theorem xr:cd kC=some lb:=by kernel_rfl
theorem xe (a b:Block) (ha:a.wc) (hb:b.wc):VC cd kC (aE [(true,a.c),(true,b.c)]) (fun rs _=>rs=bl (ga a b)):=by
 refine aa xr rfl ?_
 simp(disch:=omega) [lb,Block.c,Head.c,VY]
 refine aq (gl a.head b.head ha.1.1 hb.1.1) ?_ (ha:=by first|rfl|(simp[Head.c,VY] <;>repeat' constructor))
 simp(disch:=omega) [VY]
 refine an (fun h1=> ?_) (fun h1=> ?_) <;>simp(disch:=omega) [h1,ga,VY]
 refine aq (gp a.txs b.txs ha.2.1 hb.2.1) ?_
 simp(disch:=omega) [h1,VY]
structure aW where
 height:Int
 n:Int
 idx:Int
 tx:Bytes
 path:List Bytes
def aW.c (x:aW):List D:= [.int .i64 x.height, .int .i64 x.n, .int .i64 x.idx, .sl (bytes x.tx), .sl (bE x.path)]
def aW.wc (x:aW):Prop:=lx x.height∧lx x.n∧lx x.idx∧Sz x.tx.length∧mH x.path
def aW.o (x:aW):List E:= [.p (.int .i64 x.height), .p (.int .i64 x.n), .p (.int .i64 x.idx), .o true (some (5,1)) (bytes x.tx), .o true (some (22,1)) (bE x.path)]
def iz (a b:aW):Bool:=decide (a.height=b.height) && decide (a.n=b.n) && decide (a.idx=b.idx) && decide (a.tx=b.tx) && decide (a.path=b.path)
abbrev l9:Nat:=45
def nk:AF:=⟨2,6,[.tmp 4],(.seq (.ops [.i (.lbox 2 (.s 0)), .i (.lbox 3 (.s 1)), .i (.mov 4 (qb false))]) (.seq (.ops [qf 5 2 0,ql 6 2 5 1 false,qf 7 3 0,ql 8 3 7 1 false,qd 9 .eql 6 8,qm 10 9, .g 10 true 12 (.fad 11 (.s 2) 1), .g 10 true 13 (.ldl 12 2 (.s 11) 1 false), .g 10 true 14 (.fad 13 (.s 3) 1), .g 10 true 15 (.ldl 14 3 (.s 13) 1 false), .g 10 true 16 (.bin 15 .eql (.s 12) (.s 14)), .i (.pick 16 (.s 10) (.s 15) (qb false)),qm 17 16, .g 17 true 19 (.fad 18 (.s 2) 2), .g 17 true 20 (.ldl 19 2 (.s 18) 1 false), .g 17 true 21 (.fad 20 (.s 3) 2), .g 17 true 22 (.ldl 21 3 (.s 20) 1 false), .g 17 true 23 (.bin 22 .eql (.s 19) (.s 21)), .i (.pick 23 (.s 17) (.s 22) (qb false)),qm 24 23, .g 24 true 26 (.fad 25 (.s 2) 3), .g 24 true 27 (.ldl 26 2 (.s 25) 1 false), .g 24 true 28 (.fad 27 (.s 3) 3), .g 24 true 29 (.ldl 28 3 (.s 27) 1 false), .g 24 true 30 (.call 30 21 false [(.s 26),(.s 28)]), .i (.pick 30 (.s 24) (.s 29) (qb false)),qm 31 30, .g 31 true 33 (.fad 32 (.s 2) 4), .g 31 true 34 (.ldl 33 2 (.s 32) 1 false), .g 31 true 35 (.fad 34 (.s 3) 4), .g 31 true 36 (.ldl 35 3 (.s 34) 1 false), .g 31 true 37 (.call 37 107 false [(.s 33),(.s 35)]), .i (.pick 37 (.s 31) (.s 36) (qb false)),qm 4 37]) .ret))⟩
theorem zL:cd l9=some nk:=by kernel_rfl
theorem xB (a b:aW) (ha:a.wc) (hb:b.wc):VC cd l9 (aE [(true,a.c),(true,b.c)]) (fun rs _=>rs=bl (iz a b)):=by
 refine aa zL rfl ?_
 simp(disch:=omega) [nk,aW.c,VY]
 refine ab (fun h1=> ?_) (fun h1=> ?_) <;>simp(disch:=omega) [h1,iz,VY]
 refine ab (fun h2=> ?_) (fun h2=> ?_) <;>simp(disch:=omega) [h1,h2,VY]
 refine ab (fun h3=> ?_) (fun h3=> ?_) <;>simp(disch:=omega) [h1,h2,h3,VY]
 refine aq (aL a.tx b.tx) ?_
 simp(disch:=omega) [h1,h2,h3,VY]
 refine ab (fun h4=> ?_) (fun h4=> ?_) <;>simp(disch:=omega) [h1,h2,h3,h4,VY]
 refine aq (gm a.path b.path ha.2.2.2.2.1 hb.2.2.2.2.1) ?_
 simp(disch:=omega) [h1,h2,h3,h4,VY]
abbrev nN:Nat:=304
def ng:AF:=⟨2,6,[.tmp 4],(.seq (.ops [.i (.lbox 2 (.s 0)), .i (.lbox 3 (.s 1)), .i (.mov 4 (qb false))]) (.seq (.ops [qf 5 2 0,ql 6 2 5 1 false,qf 7 3 0,ql 8 3 7 1 false,qd 9 .eql 6 8,qm 10 9, .g 10 true 12 (.fad 11 (.s 2) 1), .g 10 true 13 (.ldl 12 2 (.s 11) 1 false), .g 10 true 14 (.fad 13 (.s 3) 1), .g 10 true 15 (.ldl 14 3 (.s 13) 1 false), .g 10 true 16 (.bin 15 .eql (.s 12) (.s 14)), .i (.pick 16 (.s 10) (.s 15) (qb false)),qm 17 16, .g 17 true 19 (.fad 18 (.s 2) 2), .g 17 true 20 (.ldl 19 2 (.s 18) 1 false), .g 17 true 21 (.fad 20 (.s 3) 2), .g 17 true 22 (.ldl 21 3 (.s 20) 1 false), .g 17 true 23 (.bin 22 .eql (.s 19) (.s 21)), .i (.pick 23 (.s 17) (.s 22) (qb false)),qm 24 23, .g 24 true 26 (.fad 25 (.s 2) 3), .g 24 true 27 (.ldl 26 2 (.s 25) 1 false), .g 24 true 28 (.fad 27 (.s 3) 3), .g 24 true 29 (.ldl 28 3 (.s 27) 1 false), .g 24 true 30 (.call 30 329 false [(.s 26),(.s 28)]), .i (.pick 30 (.s 24) (.s 29) (qb false)),qm 31 30, .g 31 true 33 (.fad 32 (.s 2) 4), .g 31 true 34 (.ldl 33 2 (.s 32) 1 false), .g 31 true 35 (.fad 34 (.s 3) 4), .g 31 true 36 (.ldl 35 3 (.s 34) 1 false), .g 31 true 37 (.call 37 336 false [(.s 33),(.s 35)]), .i (.pick 37 (.s 31) (.s 36) (qb false)),qm 4 37]) .ret))⟩
theorem zT:cd nN=some ng:=by kernel_rfl
theorem yd (a b:aW) (ha:a.wc) (hb:b.wc):VC cd nN (aE [(true,a.c),(true,b.c)]) (fun rs _=>rs=bl (iz a b)):=by
 refine aa zT rfl ?_
 simp(disch:=omega) [ng,aW.c,VY]
 refine ab (fun h1=> ?_) (fun h1=> ?_) <;>simp(disch:=omega) [h1,iz,VY]
 refine ab (fun h2=> ?_) (fun h2=> ?_) <;>simp(disch:=omega) [h1,h2,VY]
 refine ab (fun h3=> ?_) (fun h3=> ?_) <;>simp(disch:=omega) [h1,h2,h3,VY]
 refine aq (a9 a.tx b.tx) ?_
 simp(disch:=omega) [h1,h2,h3,VY]
 refine ab (fun h4=> ?_) (fun h4=> ?_) <;>simp(disch:=omega) [h1,h2,h3,h4,VY]
 refine aq (gp a.path b.path ha.2.2.2.2.1 hb.2.2.2.2.1) ?_
 simp(disch:=omega) [h1,h2,h3,h4,VY]
abbrev iB:Nat:=209
def iO:AF:=⟨1,5,[.cell 2 5 true],(.seq (.ops [.i (.lbox 1 (.s 0)), .i (.lal 2 [.int .i64 0, .int .i64 0, .int .i64 0, .nils, .nils])]) (.seq (.ops [qf 3 1 0,ql 4 1 3 1 false,qf 5 1 1,ql 6 1 5 1 false,qf 7 1 2,ql 8 1 7 1 false,qf 9 1 3,ql 10 1 9 1 false,qk 12 93 10,qf 12 1 4,ql 13 1 12 1 false,qk 15 277 13, .i (.bld 15 [.int .i64 0, .int .i64 0, .int .i64 0, .nils, .nils] [(0,1,(.s 4)),(1,1,(.s 6)),(2,1,(.s 8)),(3,1,(.s 11)),(4,1,(.s 14))]),qs 2 2 15 5]) .ret))⟩
theorem u3:cd iB=some iO:=by kernel_rfl
theorem Ck (x:aW) (hw:x.wc):VC cd iB (aE [(true,x.c)]) (fun rs _=>rs= [(true,x.o)]):=by
 have w:=hw.2.2.2.1
 simp only[Sz]at w
 refine aa u3 rfl ?_
 simp(disch:=omega) [iO,aW.c,VY]
 refine aq (aO x.tx (by omega)) ?_
 simp(disch:=omega) [VY]
 refine aq (ra x.path hw.2.2.2.2) ?_
 simp(disch:=omega) [aW.o,VY]
abbrev r8:Nat:=275
def qj:AF:=⟨1,5,[.cell 2 5 true],(.seq (.ops [.i (.lbox 1 (.s 0)), .i (.lal 2 [.int .i64 0, .int .i64 0, .int .i64 0, .nils, .nils])]) (.seq (.ops [qf 3 1 0,ql 4 1 3 1 false,qf 5 1 1,ql 6 1 5 1 false,qf 7 1 2,ql 8 1 7 1 false,qf 9 1 3,ql 10 1 9 1 false,qk 12 143 10,qf 12 1 4,ql 13 1 12 1 false,qk 15 316 13, .i (.bld 15 [.int .i64 0, .int .i64 0, .int .i64 0, .nils, .nils] [(0,1,(.s 4)),(1,1,(.s 6)),(2,1,(.s 8)),(3,1,(.s 11)),(4,1,(.s 14))]),qs 2 2 15 5]) .ret))⟩
theorem CB:cd r8=some qj:=by kernel_rfl
theorem IY (x:aW) (hw:x.wc):VC cd r8 (aE [(true,x.c)]) (fun rs _=>rs= [(true,x.o)]):=by
 have w:=hw.2.2.2.1
 simp only[Sz]at w
 refine aa CB rfl ?_
 simp(disch:=omega) [qj,aW.c,VY]
 refine aq (ck x.tx (by omega)) ?_
 simp(disch:=omega) [VY]
 refine aq (lO x.path hw.2.2.2.2) ?_
 simp(disch:=omega) [aW.o,VY]
def dc {α:Type} (f:α→α→Bool) (a b:List α):Bool:=decide (a.length=b.length) && (List.range b.length).all fun i=>match a[i]?,b[i]? with|some x,some y=>f x y|_,_=>false
theorem jG {α:Type} {f:α→α→Bool} {a b:List α} (h:¬a.length=b.length):dc f a b=false:=by unfold dc;rw[decide_eq_false h];rfl
theorem gh {α:Type} {f:α→α→Bool} {a b:List α} {i:Nat} (hi:i < a.length) (hj:i < b.length) (h:f a[i] b[i]=false):dc f a b=false:=by
 unfold dc
 rw[Bool.and_eq_false_iff]
 right
 rw[List.all_eq_false]
 exact⟨i,by simp[hj],by simp[hi,hj,h]⟩
theorem ji {α:Type} {f:α→α→Bool} {a b:List α} (hl:a.length=b.length) (h:∀i,i < b.length→(hi:i < a.length)→(hj:i < b.length)→f a[i] b[i]=true):dc f a b=true:=by
 unfold dc
 rw[Bool.and_eq_true,List.all_eq_true]
 refine⟨by simp[hl],fun i hi=> ?_⟩
 have hj:i < b.length:=by simpa using hi
 have hi2:i < a.length:=by omega
 simp[hi2,hj,h i hj hi2 hj]
theorem wN {α:Type} {f:α→α→Bool} {a b:List α} {i:Nat} (hd:∀j,j < i→(hi:j < a.length)→(hj:j < b.length)→f a[j] b[j]=true) {hi:i < a.length} {hj:i < b.length} (h:f a[i] b[i]=true):∀j,j < i+1→(hi:j < a.length)→(hj:j < b.length)→f a[j] b[j]=true:=fun j h2 hx hy=>by
 rcases Nat.lt_or_ge j i with hl|hl
 ·exact hd j hl hx hy
 ·obtain rfl:j=i:=by omega
  exact h
def eu (a b:List Head):Bool:=dc d6 a b
def eo (a b:Proof):Bool:=eu a.heads b.heads && lK a.qc b.qc
abbrev lz:Nat:=124
def k9:AF:=⟨2,5,[.tmp 4],(.seq (.ops [.i (.mov 4 (qb false))]) (.seq (.seq (.ops [qm 6 0,qn 7 6,qm 8 1,qn 9 8,qd 10 .neq 7 9]) (.cond (.s 10) (.seq (.ops [.i (.mov 4 (qb false))]) .ret) .skip)) (.seq (.seq (.ops [qm 11 0,qn 12 11, .i (.mov 13 (qi 0))]) (.block 0 (.loop [26,25,24,23,22,21,20,19,18,17,16,15,14,5] (.seq (.ops [qd 14 .lss 13 12]) (.seq (.cond (.s 14) .skip (.exit 0)) (.seq (.block 1 (.seq (.ops [qm 15 13,qm 5 15]) (.seq (.ops [qm 16 0,qm 17 5, .i (.iad 18 (.s 16) (.s 17) 10), .i (.ldh 19 (.s 18) 10 true),qm 20 1,qm 21 5, .i (.iad 22 (.s 20) (.s 21) 10), .i (.ldh 23 (.s 22) 10 true), .i (.call 25 32 false [(.s 19),(.s 23)]), .i (.not 25 (.s 24))]) (.cond (.s 25) (.seq (.ops [.i (.mov 4 (qb false))]) .ret) .skip)))) (.ops [.i (.bin 26 .add (.s 13) (qi 1)),qm 13 26]))))))) (.seq (.ops [.i (.mov 4 (qb true))]) .ret))))⟩
theorem yc:cd lz=some k9:=by kernel_rfl
theorem wM (a b:List Head) (ha:sr a) (hb:sr b):VC cd lz (aE [(false,[.sl (eF a)]),(false,[.sl (eF b)])]) (fun rs _=>rs=bl (eu a b)):=by
 obtain⟨w1,w2⟩:=ha
 obtain⟨w3,w4⟩:=hb
 simp only[Sz]at w1 w3
 refine aa yc rfl ?_
 simp(disch:=omega) [k9,cf,VY]
 refine ab (fun h1=> ?_) (fun h1=> ?_)
 case refine_2=>
  have hn:eu a b=false:=jG (fun e=>h1 (by omega))
  simp(disch:=omega) [h1,hn,VY]
 simp(disch:=omega) [h1,cf,VY]
 refine cY (σ:=Nat) (f1:=_) (es0:=_) (by simp(disch:=omega) [VY];rfl) (by simp(disch:=omega) [VY];rfl) (fun i=> [(13, .val false [.int .i64 (i:Int)])]) (fun _=> []) (fun i g=>g+i=b.length∧∀j,j < i→(hi:j < a.length)→(hj:j < b.length)→d6 a[j] b[j]=true) 0 b.length (by simp(disch:=omega) [h1,VY]) (by simp(disch:=omega) [VY]) ⟨by omega,fun j hj=>by omega⟩ ?_
 rintro i n g ⟨hg,hd⟩ P hP
 simp(disch:=omega) [h1,VY]
 refine ab (fun h2=> ?_) (fun h2=> ?_)
 ·have hi:i < a.length:=by omega
  have hj:i < b.length:=by omega
  simp(disch:=omega) [eP hi,eP hj,Head.c,VY]
  refine aq (gw a[i] b[i] (w2 _ (List.getElem_mem hi)) (w4 _ (List.getElem_mem hj))) ?_ (ha:=by first|rfl|(simp[Head.c,VY] <;>repeat' constructor))
  simp(disch:=omega) [VY]
  refine an (fun h3=> ?_) (fun h3=> ?_)
  ·simp(disch:=omega) [h3,VY]
   exact hP (i+1) (g - 1) _ _ (by omega) ⟨by omega,wN hd h3⟩ (by simp(disch:=omega) [VY]) (by simp(disch:=omega) [VY])
  ·simp(disch:=omega) [h3,show eu a b=false from gh hi hj h3,VY]
 ·have he:eu a b=true:=ji (by omega) (fun i h hi hj=>hd i (by omega) hi hj)
  simp(disch:=omega) [he,VY]
abbrev kG:Nat:=42
def kW:AF:=⟨2,5,[.tmp 4],(.seq (.ops [.i (.lbox 2 (.s 0)), .i (.lbox 3 (.s 1)), .i (.mov 4 (qb false))]) (.seq (.ops [qf 5 2 0,ql 6 2 5 1 false,qf 7 3 0,ql 8 3 7 1 false, .i (.call 10 124 false [(.s 6),(.s 8)]),qm 10 9, .g 10 true 12 (.fad 11 (.s 2) 1), .g 10 true 13 (.ldl 12 2 (.s 11) 5 true), .g 10 true 14 (.fad 13 (.s 3) 1), .g 10 true 15 (.ldl 14 3 (.s 13) 5 true), .g 10 true 16 (.call 16 29 false [(.s 12),(.s 14)]), .i (.pick 16 (.s 10) (.s 15) (qb false)),qm 4 16]) .ret))⟩
theorem yq:cd kG=some kW:=by kernel_rfl
theorem vG (a b:Proof) (ha:a.wf) (hb:b.wf):VC cd kG (aE [(true,a.c),(true,b.c)]) (fun rs _=>rs=bl (eo a b)):=by
 refine aa yq rfl ?_
 simp(disch:=omega) [kW,Proof.c,VY]
 refine aq (wM a.heads b.heads ha.1 hb.1) ?_
 simp(disch:=omega) [VY]
 refine an (fun h1=> ?_) (fun h1=> ?_) <;>simp(disch:=omega) [h1,eo,VY]
 refine aq (iI a.qc b.qc ha.2 hb.2) ?_ (ha:=by first|rfl|(simp[Qc.c,VY] <;>repeat' constructor))
 simp(disch:=omega) [h1,VY]
abbrev lj:Nat:=303
def kv:AF:=⟨2,6,[.tmp 4],(.seq (.ops [.i (.lbox 2 (.s 0)), .i (.lbox 3 (.s 1)), .i (.mov 4 (qb false))]) (.seq (.seq (.ops [qf 6 2 0,ql 7 2 6 1 false,qn 8 7,qf 9 3 0,ql 10 3 9 1 false,qn 11 10,qd 12 .neq 8 11]) (.cond (.s 12) (.seq (.ops [.i (.mov 4 (qb false))]) .ret) .skip)) (.seq (.seq (.ops [qf 13 2 0,ql 14 2 13 1 false,qn 15 14, .i (.mov 16 (qi 0))]) (.block 0 (.loop [31,30,29,28,27,26,25,24,23,22,21,20,19,18,17,5] (.seq (.ops [qd 17 .lss 16 15]) (.seq (.cond (.s 17) .skip (.exit 0)) (.seq (.block 1 (.seq (.ops [qm 18 16,qm 5 18]) (.seq (.ops [qf 19 2 0,ql 20 2 19 1 false,qm 21 5, .i (.iad 22 (.s 20) (.s 21) 10), .i (.ldh 23 (.s 22) 10 true),qf 24 3 0,ql 25 3 24 1 false,qm 26 5, .i (.iad 27 (.s 25) (.s 26) 10), .i (.ldh 28 (.s 27) 10 true), .i (.call 30 300 false [(.s 23),(.s 28)]), .i (.not 30 (.s 29))]) (.cond (.s 30) (.seq (.ops [.i (.mov 4 (qb false))]) .ret) .skip)))) (.ops [.i (.bin 31 .add (.s 16) (qi 1)),qm 16 31]))))))) (.seq (.ops [qf 32 2 1,ql 33 2 32 5 true,qf 34 3 1,ql 35 3 34 5 true, .i (.call 37 299 false [(.s 33),(.s 35)]),qm 4 36]) .ret))))⟩
theorem yu:cd lj=some kv:=by kernel_rfl
theorem wB (a b:Proof) (ha:a.wf) (hb:b.wf):VC cd lj (aE [(true,a.c),(true,b.c)]) (fun rs _=>rs=bl (eo a b)):=by
 obtain⟨⟨w1,w2⟩,wa⟩:=ha
 obtain⟨⟨w3,w4⟩,wb⟩:=hb
 simp only[Sz]at w1 w3
 refine aa yu rfl ?_
 simp(disch:=omega) [kv,Proof.c,cf,VY]
 refine ab (fun h1=> ?_) (fun h1=> ?_)
 case refine_2=>
  have hn:eu a.heads b.heads=false:=jG (fun e=>h1 (by omega))
  simp(disch:=omega) [h1,hn,eo,VY]
 simp(disch:=omega) [h1,cf,VY]
 refine cY (σ:=Nat) (f1:=_) (es0:=_) (by simp(disch:=omega) [VY];rfl) (by simp(disch:=omega) [VY];rfl) (fun i=> [(16, .val false [.int .i64 (i:Int)])]) (fun _=> []) (fun i g=>g+i=b.heads.length∧∀j,j < i→(hi:j < a.heads.length)→(hj:j < b.heads.length)→d6 a.heads[j] b.heads[j]=true) 0 b.heads.length (by simp(disch:=omega) [h1,VY]) (by simp(disch:=omega) [VY]) ⟨by omega,fun j hj=>by omega⟩ ?_
 rintro i n g ⟨hg,hd⟩ P hP
 simp(disch:=omega) [h1,VY]
 refine ab (fun h2=> ?_) (fun h2=> ?_)
 ·have hi:i < a.heads.length:=by omega
  have hj:i < b.heads.length:=by omega
  simp(disch:=omega) [eP hi,eP hj,Head.c,VY]
  refine aq (gl a.heads[i] b.heads[i] (w2 _ (List.getElem_mem hi)) (w4 _ (List.getElem_mem hj))) ?_ (ha:=by first|rfl|(simp[Head.c,VY] <;>repeat' constructor))
  simp(disch:=omega) [VY]
  refine an (fun h3=> ?_) (fun h3=> ?_)
  ·simp(disch:=omega) [h3,VY]
   exact hP (i+1) (g - 1) _ _ (by omega) ⟨by omega,wN hd h3⟩ (by simp(disch:=omega) [VY]) (by simp(disch:=omega) [VY])
  ·simp(disch:=omega) [h3,show eu a.heads b.heads=false from gh hi hj h3,eo,VY]
 ·have he:eu a.heads b.heads=true:=ji (by omega) (fun i h hi hj=>hd i (by omega) hi hj)
  simp(disch:=omega) [VY]
  refine aq (iN a.qc b.qc wa wb) ?_ (ha:=by first|rfl|(simp[Qc.c,VY] <;>repeat' constructor))
  simp(disch:=omega) [he,eo,VY]
def cT (a b:Entry):Bool:=decide (a.who=b.who) && decide (a.high=b.high) && decide (a.tag=b.tag)
def eV (a b:Tc):Bool:=decide (a.view=b.view) && dc cT a.entries b.entries
abbrev kc:Nat:=120
def lD:AF:=⟨2,5,[.tmp 4],(.seq (.ops [.i (.lbox 2 (.s 0)), .i (.lbox 3 (.s 1)), .i (.mov 4 (qb false))]) (.seq (.ops [qf 5 2 0,ql 6 2 5 1 false,qf 7 3 0,ql 8 3 7 1 false,qd 9 .eql 6 8,qm 10 9, .g 10 true 12 (.fad 11 (.s 2) 1), .g 10 true 13 (.ldl 12 2 (.s 11) 1 false), .g 10 true 14 (.fad 13 (.s 3) 1), .g 10 true 15 (.ldl 14 3 (.s 13) 1 false), .g 10 true 16 (.bin 15 .eql (.s 12) (.s 14)), .i (.pick 16 (.s 10) (.s 15) (qb false)),qm 17 16, .g 17 true 19 (.fad 18 (.s 2) 2), .g 17 true 20 (.ldl 19 2 (.s 18) 1 false), .g 17 true 21 (.fad 20 (.s 3) 2), .g 17 true 22 (.ldl 21 3 (.s 20) 1 false), .g 17 true 23 (.call 23 21 false [(.s 19),(.s 21)]), .i (.pick 23 (.s 17) (.s 22) (qb false)),qm 4 23]) .ret))⟩
theorem xM:cd kc=some lD:=by kernel_rfl
theorem vC (a b:Entry):VC cd kc (aE [(true,a.c),(true,b.c)]) (fun rs _=>rs=bl (cT a b)):=by
 refine aa xM rfl ?_
 simp(disch:=omega) [lD,Entry.c,VY]
 refine ab (fun h1=> ?_) (fun h1=> ?_) <;>simp(disch:=omega) [h1,cT,VY]
 refine ab (fun h2=> ?_) (fun h2=> ?_) <;>simp(disch:=omega) [h1,h2,VY]
 refine aq (aL a.tag b.tag) ?_
 simp(disch:=omega) [h1,h2,VY]
abbrev uw:Nat:=39
def tZ:AF:=⟨2,6,[.tmp 4],(.seq (.ops [.i (.lbox 2 (.s 0)), .i (.lbox 3 (.s 1)), .i (.mov 4 (qb false))]) (.seq (.seq (.ops [qf 6 2 0,ql 7 2 6 1 false,qf 8 3 0,ql 9 3 8 1 false,qd 10 .neq 7 9,qm 11 10, .g 11 false 13 (.fad 12 (.s 2) 1), .g 11 false 14 (.ldl 13 2 (.s 12) 1 false), .g 11 false 15 (.len 14 false (.s 13)), .g 11 false 16 (.fad 15 (.s 3) 1), .g 11 false 17 (.ldl 16 3 (.s 15) 1 false), .g 11 false 18 (.len 17 false (.s 16)), .g 11 false 19 (.bin 18 .neq (.s 14) (.s 17)), .i (.pick 19 (.s 11) (qb true) (.s 18))]) (.cond (.s 19) (.seq (.ops [.i (.mov 4 (qb false))]) .ret) .skip)) (.seq (.seq (.ops [qf 20 2 1,ql 21 2 20 1 false,qn 22 21, .i (.mov 23 (qi 0))]) (.block 0 (.loop [38,37,36,35,34,33,32,31,30,29,28,27,26,25,24,5] (.seq (.ops [qd 24 .lss 23 22]) (.seq (.cond (.s 24) .skip (.exit 0)) (.seq (.block 1 (.seq (.ops [qm 25 23,qm 5 25]) (.seq (.ops [qf 26 2 1,ql 27 2 26 1 false,qm 28 5, .i (.iad 29 (.s 27) (.s 28) 3), .i (.ldh 30 (.s 29) 3 true),qf 31 3 1,ql 32 3 31 1 false,qm 33 5, .i (.iad 34 (.s 32) (.s 33) 3), .i (.ldh 35 (.s 34) 3 true), .i (.call 37 120 false [(.s 30),(.s 35)]), .i (.not 37 (.s 36))]) (.cond (.s 37) (.seq (.ops [.i (.mov 4 (qb false))]) .ret) .skip)))) (.ops [.i (.bin 38 .add (.s 23) (qi 1)),qm 23 38]))))))) (.seq (.ops [.i (.mov 4 (qb true))]) .ret))))⟩
theorem C7:cd uw=some tZ:=by kernel_rfl
theorem Bq (a b:Tc) (ha:a.wf) (hb:b.wf):VC cd uw (aE [(true,a.c),(true,b.c)]) (fun rs _=>rs=bl (eV a b)):=by
 have w1:=ha.2.1
 have w3:=hb.2.1
 simp only[Sz]at w1 w3
 refine aa C7 rfl ?_
 simp(disch:=omega) [tZ,Tc.c,bT,VY]
 refine ab (fun h0=> ?_) (fun h0=> ?_)
 case refine_2=>simp(disch:=omega) [h0,eV,VY]
 simp(disch:=omega) [h0,bT,VY]
 refine ab (fun h1=> ?_) (fun h1=> ?_)
 case refine_2=>
  have hn:dc cT a.entries b.entries=false:=jG (fun e=>h1 (by omega))
  simp(disch:=omega) [h0,h1,hn,eV,VY]
 simp(disch:=omega) [h0,h1,bT,VY]
 refine cY (σ:=Nat) (f1:=_) (es0:=_) (by simp(disch:=omega) [VY];rfl) (by simp(disch:=omega) [VY];rfl) (fun i=> [(23, .val false [.int .i64 (i:Int)])]) (fun _=> []) (fun i g=>g+i=b.entries.length∧∀j,j < i→(hi:j < a.entries.length)→(hj:j < b.entries.length)→cT a.entries[j] b.entries[j]=true) 0 b.entries.length (by simp(disch:=omega) [h1,VY]) (by simp(disch:=omega) [VY]) ⟨by omega,fun j hj=>by omega⟩ ?_
 rintro i n g ⟨hg,hd⟩ P hP
 simp(disch:=omega) [h1,VY]
 refine ab (fun h2=> ?_) (fun h2=> ?_)
 ·have hi:i < a.entries.length:=by omega
  have hj:i < b.entries.length:=by omega
  simp(disch:=omega) [dW hi,dW hj,VY]
  refine aq (vC a.entries[i] b.entries[i]) ?_ (ha:=by first|rfl|(simp[Entry.c,VY] <;>repeat' constructor))
  simp(disch:=omega) [VY]
  refine an (fun h3=> ?_) (fun h3=> ?_)
  ·simp(disch:=omega) [h3,VY]
   exact hP (i+1) (g - 1) _ _ (by omega) ⟨by omega,wN hd h3⟩ (by simp(disch:=omega) [VY]) (by simp(disch:=omega) [VY])
  ·simp(disch:=omega) [h3,show dc cT a.entries b.entries=false from gh hi hj h3,eV,h0,VY]
 ·have he:dc cT a.entries b.entries=true:=ji (by omega) (fun i h hi hj=>hd i (by omega) hi hj)
  simp(disch:=omega) [he,h0,eV,VY]
abbrev uu:Nat:=302
def uW:AF:=⟨2,6,[.tmp 4],(.seq (.ops [.i (.lbox 2 (.s 0)), .i (.lbox 3 (.s 1)), .i (.mov 4 (qb false))]) (.seq (.seq (.ops [qf 8 2 0,ql 9 2 8 1 false,qf 10 3 0,ql 11 3 10 1 false,qd 12 .neq 9 11,qm 13 12, .g 13 false 15 (.fad 14 (.s 2) 1), .g 13 false 16 (.ldl 15 2 (.s 14) 1 false), .g 13 false 17 (.len 16 false (.s 15)), .g 13 false 18 (.fad 17 (.s 3) 1), .g 13 false 19 (.ldl 18 3 (.s 17) 1 false), .g 13 false 20 (.len 19 false (.s 18)), .g 13 false 21 (.bin 20 .neq (.s 16) (.s 19)), .i (.pick 21 (.s 13) (qb true) (.s 20))]) (.cond (.s 21) (.seq (.ops [.i (.mov 4 (qb false))]) .ret) .skip)) (.seq (.seq (.ops [qf 22 2 1,ql 23 2 22 1 false,qn 24 23, .i (.mov 25 (qi 0))]) (.block 0 (.loop [55,54,53,52,51,50,49,48,47,46,45,44,43,42,41,40,39,38,37,36,35,34,33,32,31,30,29,28,27,26,7,6,5] (.seq (.ops [qd 26 .lss 25 24]) (.seq (.cond (.s 26) .skip (.exit 0)) (.seq (.block 1 (.seq (.ops [qm 27 25, .i (.iad 28 (.s 23) (.s 25) 3), .i (.ldh 29 (.s 28) 3 true), .i (.lal 6 [.int .i64 0, .int .i64 0, .nils]),qm 5 27,qs 6 6 29 3]) (.seq (.ops [qf 30 3 1,ql 31 3 30 1 false,qm 32 5, .i (.iad 33 (.s 31) (.s 32) 3), .i (.ldh 34 (.s 33) 3 true), .i (.lal 7 [.int .i64 0, .int .i64 0, .nils]),qs 7 7 34 3]) (.seq (.ops [qf 35 6 0,ql 36 6 35 1 false,qf 37 7 0,ql 38 7 37 1 false,qd 39 .neq 36 38,qm 40 39, .g 40 false 42 (.fad 41 (.s 6) 1), .g 40 false 43 (.ldl 42 6 (.s 41) 1 false), .g 40 false 44 (.fad 43 (.s 7) 1), .g 40 false 45 (.ldl 44 7 (.s 43) 1 false), .g 40 false 46 (.bin 45 .neq (.s 42) (.s 44)), .i (.pick 46 (.s 40) (qb true) (.s 45)),qm 47 46, .g 47 false 49 (.fad 48 (.s 6) 2), .g 47 false 50 (.ldl 49 6 (.s 48) 1 false), .g 47 false 51 (.fad 50 (.s 7) 2), .g 47 false 52 (.ldl 51 7 (.s 50) 1 false), .g 47 false 53 (.call 53 329 false [(.s 49),(.s 51)]), .g 47 false 54 (.not 53 (.s 52)), .i (.pick 54 (.s 47) (qb true) (.s 53))]) (.cond (.s 54) (.seq (.ops [.i (.mov 4 (qb false))]) .ret) .skip))))) (.ops [.i (.bin 55 .add (.s 25) (qi 1)),qm 25 55]))))))) (.seq (.ops [.i (.mov 4 (qb true))]) .ret))))⟩
theorem DH:cd uu=some uW:=by kernel_rfl
theorem Bd (a b:Tc) (ha:a.wf) (hb:b.wf):VC cd uu (aE [(true,a.c),(true,b.c)]) (fun rs _=>rs=bl (eV a b)):=by
 have w1:=ha.2.1
 have w3:=hb.2.1
 simp only[Sz]at w1 w3
 refine aa DH rfl ?_
 simp(disch:=omega) [uW,Tc.c,bT,VY]
 refine ab (fun h0=> ?_) (fun h0=> ?_)
 case refine_2=>simp(disch:=omega) [h0,eV,VY]
 simp(disch:=omega) [h0,bT,VY]
 refine ab (fun h1=> ?_) (fun h1=> ?_)
 case refine_2=>
  have hn:dc cT a.entries b.entries=false:=jG (fun e=>h1 (by omega))
  simp(disch:=omega) [h0,h1,hn,eV,VY]
 simp(disch:=omega) [h0,h1,bT,VY]
 refine cY (σ:=Nat) (f1:=_) (es0:=_) (by simp(disch:=omega) [VY];rfl) (by simp(disch:=omega) [VY];rfl) (fun i=> [(25, .val false [.int .i64 (i:Int)])]) (fun _=> []) (fun i g=>g+i=b.entries.length∧∀j,j < i→(hi:j < a.entries.length)→(hj:j < b.entries.length)→cT a.entries[j] b.entries[j]=true) 0 b.entries.length (by simp(disch:=omega) [h1,VY]) (by simp(disch:=omega) [VY]) ⟨by omega,fun j hj=>by omega⟩ ?_
 rintro i n g ⟨hg,hd⟩ P hP
 simp(disch:=omega) [h1,VY]
 refine ab (fun h2=> ?_) (fun h2=> ?_)
 ·have hi:i < a.entries.length:=by omega
  have hj:i < b.entries.length:=by omega
  simp(disch:=omega) [dW hi,dW hj,VY]
  refine ab (fun h3=> ?_) (fun h3=> ?_)
  case refine_2=>
   have hn:dc cT a.entries b.entries=false:=gh hi hj (by simp[cT,h3])
   simp(disch:=omega) [h3,hn,eV,h0,VY]
  simp(disch:=omega) [h3,VY]
  refine ab (fun h4=> ?_) (fun h4=> ?_)
  case refine_2=>
   have hn:dc cT a.entries b.entries=false:=gh hi hj (by simp[cT,h4])
   simp(disch:=omega) [h3,h4,hn,eV,h0,VY]
  simp(disch:=omega) [h3,h4,VY]
  refine aq (a9 a.entries[i].tag b.entries[i].tag) ?_
  simp(disch:=omega) [h3,h4,VY]
  refine ab (fun h5=> ?_) (fun h5=> ?_)
  ·simp(disch:=omega) [h3,h4,h5,VY]
   exact hP (i+1) (g - 1) _ _ (by omega) ⟨by omega,wN hd (hi:=hi) (hj:=hj) (by simp[cT,h3,h4,h5])⟩ (by simp(disch:=omega) [VY]) (by simp(disch:=omega) [VY])
  ·have hn:dc cT a.entries b.entries=false:=gh hi hj (by simp[cT,h5])
   simp(disch:=omega) [h3,h4,h5,hn,eV,h0,VY]
 ·have he:dc cT a.entries b.entries=true:=ji (by omega) (fun i h hi hj=>hd i (by omega) hi hj)
  simp(disch:=omega) [he,h0,eV,VY]
end Go.Eng.F
