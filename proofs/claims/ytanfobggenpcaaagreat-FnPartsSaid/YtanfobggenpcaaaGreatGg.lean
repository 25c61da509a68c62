import Derived.Test.YtanfobggenpcaaaGreatGd
import Derived.Test.YtanfobggenpcaaaGreatGe
import Derived.Test.YtanfobggenpcaaaGreatGf
set_option maxRecDepth 100000
set_option linter.unusedSimpArgs false
set_option linter.unusedVariables false
namespace Go.Eng.F
def aH (n:Nat):Bytes:=if n < 128 then [UInt8.ofNat n]else UInt8.ofNat (n % 128+128)::aH (n / 128)
termination_by n
decreasing_by omega
theorem wh {n:Nat} (h:n < 128):aH n= [UInt8.ofNat n]:=by rw[aH,if_pos h]
theorem z0 {n:Nat} (h:¬n < 128):aH n=UInt8.ofNat (n % 128+128)::aH (n / 128):=by rw[aH,if_neg h]
theorem Hl:∀(k n:Nat),n < 128 ^ (k+1)→(aH n).length≤k+1
 |0,n,h=>by rw[wh (by simpa using h)];simp
 |k+1,n,h=>by
  by_cases h1:n < 128
  ·rw[wh h1];simp
  ·rw[z0 h1]
   have:=Hl k (n / 128) (by rw[Nat.div_lt_iff_lt_mul (by omega)];rw[Nat.pow_succ]at h;exact h)
   simp only[List.length_cons];omega
theorem bV {n:Nat} (h:n≤1152921504606846975):(aH n).length≤9:=Hl 8 n (by simp;omega)
theorem KX (n:Nat):0 < (aH n).length:=by
 rw[aH];split <;>simp
theorem Pz {k:Nat} (h:k < 256):IntKind.u8.wrap (k:Int)=((UInt8.ofNat k).toNat:Int):=by
 simp only[UInt8.toNat_ofNat',IntKind.wrap,IntKind.bits,IntKind.signed]
 simp
def ja (b:Bytes) (n:Int):List (Bool×List E):=
 if isNum n then [(false,[.o true (some (5,1)) (bytes (b++aH n.toNat))]),(false,[.p (.bool true)])]else [(false,[.p .nils]),(false,[.p (.bool false)])]
theorem kg {n:Int} (h:isNum n=true):∃m:Nat,n=(m:Int)∧m≤1152921504606846975:=⟨n.toNat,by have:=cY h;omega⟩
abbrev jK:Nat:=164
def tN:AF:=⟨2,5,[.tmp 4, .tmp 5],(.seq (.ops [.i (.mov 4 (.c (.val false [.nils]))), .i (.mov 5 (qb false))]) (.seq (.seq (.ops [qm 7 1,qk 9 129 7, .i (.not 9 (.s 8))]) (.cond (.s 9) (.seq (.ops [.i (.mov 4 (.c (.val false [.nils]))), .i (.mov 5 (qb false))]) .ret) .skip)) (.seq (.ops [qm 10 0,qk 12 93 10,qm 6 11]) (.seq (.block 0 (.loop [22,21,20,19,18,17,16,15,14,13,12] (.seq (.seq (.ops [qm 12 1, .i (.bin 13 .geq (.s 12) (qi 128))]) (.cond (.s 13) .skip (.exit 0))) (.block 1 (.seq (.ops [qm 14 6,qm 15 1, .i (.bin 16 .rem (.s 15) (qi 128)), .i (.bin 17 .add (.s 16) (qi 128)), .i (.cvi 18 .u8 (.s 17)), .i (.lsl 19 1 1 [.int .u8 0] [(0,1,(.s 18))]), .i (.app 20 5 1 1 (.s 14) (.s 19)),qm 6 20]) (.ops [qm 21 1, .i (.bin 22 .quo (.s 21) (qi 128)),qm 1 22])))))) (.seq (.ops [qm 23 6,qm 24 1, .i (.cvi 25 .u8 (.s 24)), .i (.lsl 26 1 1 [.int .u8 0] [(0,1,(.s 25))]), .i (.app 27 5 1 1 (.s 23) (.s 26)),qm 4 27, .i (.mov 5 (qb true))]) .ret)))))⟩
theorem CY:cd jK=some tN:=by kernel_rfl
theorem AV (b:Bytes) (n:Int) (hb:b.length≤1073741824):VC cd jK (aB [(false,[.sl (bytes b)]),(false,[.int .i64 n])]) (fun rs _=>rs=ja b n):=by
 refine aa CY rfl ?_
 simp(disch:=omega) [tN,VY]
 refine ae (eo n) rfl rfl ?_
 simp(disch:=omega) [VY]
 refine an (fun h1=> ?_) (fun h1=> ?_)
 case refine_2=>simp(disch:=omega) [ja,h1,VY]
 simp(disch:=omega) [h1,VY]
 refine ae (aI b (by omega)) rfl rfl ?_
 obtain⟨m,rfl,hm⟩:=kg h1
 have hl:=bV hm
 simp(disch:=omega) [VY]
 refine aO (σ:=Nat×Bytes×Nat) (f1:=_) (es0:=_) (by simp(disch:=omega) [VY];rfl) (by simp(disch:=omega) [VY];rfl) (fun p=> [(1, .val false [.int .i64 (p.1:Int)]),(6, .val false [.ow 106496 p.2.2])]) (fun p=> [(106496, .sl p.2.2 true true (some (5,1)) (bytes p.2.1))])
  (fun p g=>g=p.1∧p.1≤m∧p.2.1++aH p.1=b++aH m) (m,b,_) m (by simp(disch:=omega) [VY];rfl) (by simp(disch:=omega) [VY]) ⟨rfl,Nat.le_refl _,rfl⟩ ?_
 rintro⟨k,a,v⟩ n g ⟨hg,hk,ha⟩
 simp only at hg hk ha
 have hla:a.length≤b.length+9:=by
  have:=congrArg List.length ha
  simp only[List.length_append]at this
  omega
 simp(disch:=omega) [VY]
 refine ab (fun h2=> ?_) (fun h2=> ?_)
 ·have e1:Int.tmod (k:Int) 128=(k:Int) % 128:=Int.tmod_eq_emod_of_nonneg (by omega)
  have e2:Int.tdiv (k:Int) 128=(k:Int) / 128:=Int.tdiv_eq_ediv_of_nonneg (by omega)
  have e3:IntKind.u8.wrap ((k:Int) % 128+128)=((UInt8.ofNat (k % 128+128)).toNat:Int):=by rw[←Pz (by omega)];congr 1
  have e4:bytes a++ [[.int .u8 ((UInt8.ofNat (k % 128+128)).toNat:Int)]]=bytes (a++ [UInt8.ofNat (k % 128+128)]):=by simp[bytes]
  simp(disch:=omega) [e1,e2,e3,e4,ag,VY]
  refine⟨k / 128,a++ [UInt8.ofNat (k % 128+128)],_,k / 128,by omega,⟨rfl,by omega,?_⟩,⟨rfl,by omega⟩,rfl,by simp[bytes]⟩
  rw[←ha,z0 (n:=k) (by omega)]
  simp
 ·have e3:IntKind.u8.wrap (k:Int)=((UInt8.ofNat k).toNat:Int):=Pz (by omega)
  have e4:bytes a++ [[.int .u8 ((UInt8.ofNat k).toNat:Int)]]=bytes (a++ [UInt8.ofNat k]):=by simp[bytes]
  rw[wh (n:=k) (by omega)]at ha
  simp(disch:=omega) [e3,e4,ag,ja,h1,VY]
  rw[←ha]
  simp[bytes]
abbrev jM:Nat:=338
def ud:AF:=⟨2,5,[.tmp 4, .tmp 5],(.seq (.ops [.i (.mov 4 (.c (.val false [.nils]))), .i (.mov 5 (qb false))]) (.seq (.seq (.ops [qm 7 1,qk 9 211 7, .i (.not 9 (.s 8))]) (.cond (.s 9) (.seq (.ops [.i (.mov 4 (.c (.val false [.nils]))), .i (.mov 5 (qb false))]) .ret) .skip)) (.seq (.ops [qm 10 0,qk 12 143 10,qm 6 11]) (.seq (.block 0 (.loop [22,21,20,19,18,17,16,15,14,13,12] (.seq (.seq (.ops [qm 12 1, .i (.bin 13 .gtr (.s 12) (qi 127))]) (.cond (.s 13) .skip (.exit 0))) (.block 1 (.seq (.ops [qm 14 6,qm 15 1, .i (.bin 16 .rem (.s 15) (qi 128)), .i (.bin 17 .add (qi 128) (.s 16)), .i (.cvi 18 .u8 (.s 17)), .i (.lsl 19 1 1 [.int .u8 0] [(0,1,(.s 18))]), .i (.app 20 5 1 1 (.s 14) (.s 19)),qm 6 20]) (.ops [qm 21 1, .i (.bin 22 .quo (.s 21) (qi 128)),qm 1 22])))))) (.seq (.ops [qm 23 6,qm 24 1, .i (.cvi 25 .u8 (.s 24)), .i (.lsl 26 1 1 [.int .u8 0] [(0,1,(.s 25))]), .i (.app 27 5 1 1 (.s 23) (.s 26)),qm 4 27, .i (.mov 5 (qb true))]) .ret)))))⟩
theorem Dg:cd jM=some ud:=by kernel_rfl
theorem BI (b:Bytes) (n:Int) (hb:b.length≤1073741824):VC cd jM (aB [(false,[.sl (bytes b)]),(false,[.int .i64 n])]) (fun rs _=>rs=ja b n):=by
 refine aa Dg rfl ?_
 simp(disch:=omega) [ud,VY]
 refine ae (eV n) rfl rfl ?_
 simp(disch:=omega) [VY]
 refine an (fun h1=> ?_) (fun h1=> ?_)
 case refine_2=>simp(disch:=omega) [ja,h1,VY]
 simp(disch:=omega) [h1,VY]
 refine ae (bY b (by omega)) rfl rfl ?_
 obtain⟨m,rfl,hm⟩:=kg h1
 have hl:=bV hm
 simp(disch:=omega) [VY]
 refine aO (σ:=Nat×Bytes×Nat) (f1:=_) (es0:=_) (by simp(disch:=omega) [VY];rfl) (by simp(disch:=omega) [VY];rfl) (fun p=> [(1, .val false [.int .i64 (p.1:Int)]),(6, .val false [.ow 106496 p.2.2])]) (fun p=> [(106496, .sl p.2.2 true true (some (5,1)) (bytes p.2.1))])
  (fun p g=>g=p.1∧p.1≤m∧p.2.1++aH p.1=b++aH m) (m,b,_) m (by simp(disch:=omega) [VY];rfl) (by simp(disch:=omega) [VY]) ⟨rfl,Nat.le_refl _,rfl⟩ ?_
 rintro⟨k,a,v⟩ n g ⟨hg,hk,ha⟩
 simp only at hg hk ha
 have hla:a.length≤b.length+9:=by
  have:=congrArg List.length ha
  simp only[List.length_append]at this
  omega
 simp(disch:=omega) [VY]
 refine ab (fun h2=> ?_) (fun h2=> ?_)
 ·have e1:Int.tmod (k:Int) 128=(k:Int) % 128:=Int.tmod_eq_emod_of_nonneg (by omega)
  have e2:Int.tdiv (k:Int) 128=(k:Int) / 128:=Int.tdiv_eq_ediv_of_nonneg (by omega)
  have e3:IntKind.u8.wrap (128+(k:Int) % 128)=((UInt8.ofNat (k % 128+128)).toNat:Int):=by rw[←Pz (by omega)];congr 1;omega
  have e4:bytes a++ [[.int .u8 ((UInt8.ofNat (k % 128+128)).toNat:Int)]]=bytes (a++ [UInt8.ofNat (k % 128+128)]):=by simp[bytes]
  simp(disch:=omega) [e1,e2,e3,e4,ag,VY]
  refine⟨k / 128,a++ [UInt8.ofNat (k % 128+128)],_,k / 128,by omega,⟨rfl,by omega,?_⟩,⟨rfl,by omega⟩,rfl,by simp[bytes]⟩
  rw[←ha,z0 (n:=k) (by omega)]
  simp
 ·have e3:IntKind.u8.wrap (k:Int)=((UInt8.ofNat k).toNat:Int):=Pz (by omega)
  have e4:bytes a++ [[.int .u8 ((UInt8.ofNat k).toNat:Int)]]=bytes (a++ [UInt8.ofNat k]):=by simp[bytes]
  rw[wh (n:=k) (by omega)]at ha
  simp(disch:=omega) [e3,e4,ag,ja,h1,VY]
  rw[←ha]
  simp[bytes]
theorem gm {n:Nat} (h:n≤1152921504606846975):isNum (n:Int)=true:=by simp[isNum,dv];omega
theorem uc (b:Bytes) (n:Nat) (hn:n≤1152921504606846975) (hb:b.length≤1073741824):VC cd jK (aB [(false,[.sl (bytes b)]),(false,[.int .i64 (n:Int)])]) (fun rs _=>rs= [(false,[.o true (some (5,1)) (bytes (b++aH n))]),(false,[.p (.bool true)])]):=
 (AV b n hb).mono fun rs ps h=>by rw[h,ja,if_pos (gm hn)];rfl
theorem uA (b:Bytes) (n:Nat) (hn:n≤1152921504606846975) (hb:b.length≤1073741824):VC cd jM (aB [(false,[.sl (bytes b)]),(false,[.int .i64 (n:Int)])]) (fun rs _=>rs= [(false,[.o true (some (5,1)) (bytes (b++aH n))]),(false,[.p (.bool true)])]):=
 (BI b n hb).mono fun rs ps h=>by rw[h,ja,if_pos (gm hn)];rfl
abbrev tL:Nat:=308
def tz:AF:=⟨2,4,[.tmp 4],(.seq (.ops [.i (.mov 4 (.c (.val false [.nils])))]) (.seq (.ops [qm 8 0,qm 9 1, .i (.call 11 338 false [(.s 8),(.s 9)]),qm 7 10, .i (.ext 11 (.s 7) 0), .i (.ext 12 (.s 7) 1),qm 5 11,qm 6 12]) (.seq (.ops [qm 13 5,qm 4 13]) .ret)))⟩
theorem Dd:cd tL=some tz:=by kernel_rfl
theorem bI (b:Bytes) (n:Int) (hn:isNum n=true) (hb:b.length≤1073741824):VC cd tL (aB [(false,[.sl (bytes b)]),(false,[.int .i64 n])]) (fun rs _=>rs= [(false,[.o true (some (5,1)) (bytes (b++aH n.toNat))])]):=by
 obtain⟨m,rfl,hm⟩:=kg hn
 refine aa Dd rfl ?_
 simp(disch:=omega) [tz,VY]
 refine ae (uA b m hm hb) rfl rfl ?_
 simp(disch:=omega) [VY]
abbrev iU:Nat:=99
def jm:AF:=⟨2,5,[],(.ops [qm 5 0,qm 6 0, .i (.nch 7 (.s 6)),qf 8 7 0, .i (.ldh 9 (.s 8) 1 false),qm 10 1, .i (.call 12 164 false [(.s 9),(.s 10)]),qm 4 11, .i (.ext 12 (.s 4) 0), .i (.ext 13 (.s 4) 1), .i (.nch 14 (.s 5)),qf 15 14 0, .i (.sth (.s 15) (.s 12) 1)])⟩
theorem vJ:cd iU=some jm:=by kernel_rfl
theorem aJ (b:Bytes) (n:Int) (hn:isNum n=true) (hb:b.length≤1073741824):VC cd iU (iO [] 146 [.o true (some (5,1)) (bytes b)] [(false,[.int .i64 n])]) (fun r p=>r= []∧p= [.pt 146 [.o true (some (5,1)) (bytes (b++aH n.toNat))]]):=by
 obtain⟨m,rfl,hm⟩:=kg hn
 refine aw vJ rfl ?_
 simp(disch:=omega) [jm,VZ]
 refine ae (uc b m hm hb) rfl rfl ?_
 simp(disch:=omega) [VZ]
abbrev iS:Nat:=100
def jc:AF:=⟨2,4,[],(.ops [qm 4 0,qm 5 0, .i (.nch 6 (.s 5)),qf 7 6 0, .i (.ldh 8 (.s 7) 1 false),qm 9 1, .i (.app 10 5 1 1 (.s 8) (.s 9)), .i (.nch 11 (.s 4)),qf 12 11 0, .i (.sth (.s 12) (.s 10) 1)])⟩
theorem wL:cd iS=some jc:=by kernel_rfl
theorem cc (b x:Bytes) (hx:x.length≤1073741824) (hb:b.length≤1073741824):VC cd iS (iO [] 146 [.o true (some (5,1)) (bytes b)] [(false,[.sl (bytes x)])]) (fun r p=>r= []∧p= [.pt 146 [.o true (some (5,1)) (bytes (b++x))]]):=by
 refine aw wL rfl ?_
 simp(disch:=omega) [jc,ag,c8,VZ]
def vy (q:Qc):Bytes:=aH q.view.toNat++aH q.height.toNat++q.block++q.bits++q.tags.flatten
def bE (h:Head):Bytes:=aH h.view.toNat++aH h.height.toNat++aH h.proposer.toNat++h.parent++h.root++vy h.qc
theorem ax {n:Int} (h:isNum n=true):(aH n.toNat).length≤9:=by
 obtain⟨m,rfl,hm⟩:=kg h
 simpa using bV hm
theorem wk {n:Int} (h:1≤n∧n≤10):tg n≤2:=by unfold tg;split <;>omega
structure Ie (q:Qc):Prop where
 view:isNum q.view=true
 height:isNum q.height=true
 block:q.block.length=32
 bits:q.bits.length≤2
 tags:q.tags.length≤16
 tag:∀t∈q.tags,t.length=32
theorem lE {l:ah} {q:Qc} (h:eg l q=true):Ie q:=by
 simp only[eg,Bool.and_eq_true,decide_eq_true_eq]at h
 obtain⟨⟨⟨⟨⟨⟨h0,h1⟩,h2⟩,h3⟩,h4⟩,h5⟩,h6⟩:=h
 simp only[dm,Bool.and_eq_true,decide_eq_true_eq]at h4
 have hb:=wk (cY h4.1.1)
 have hl:=db q.bits
 refine⟨h1,h2,by simpa[hash]using h3,by omega,by omega,fun t ht=> ?_⟩
 simp only[hashes,List.all_eq_true]at h6
 simpa[hash]using h6 t ht
theorem hU {l:List Bytes} (h:∀t∈l,t.length=32) {i:Nat} (hi:i≤l.length):(l.take i).flatten.length=32 * i:=by
 induction i generalizing l with
 |zero=>simp
 |succ i ih=>
  cases l with
  |nil=>simp at hi
  |cons a l=>
   simp only[List.take_succ_cons,List.flatten_cons,List.length_append]
   rw[ih (fun t ht=>h t (by simp[ht])) (by simpa using hi),h a (by simp)]
   omega
theorem sg {l:List Bytes} {i:Nat} (h:i < l.length):(l.take (i+1)).flatten=(l.take i).flatten++l[i]:=by
 rw[List.take_add_one,List.getElem?_eq_getElem h,List.flatten_append]
 simp only[Option.toList_some,List.flatten_cons,List.flatten_nil,List.append_nil]
theorem E1 {q:Qc} (h:Ie q):(vy q).length≤600:=by
 have h1:=ax h.view
 have h2:=ax h.height
 have h3:=hU h.tag (Nat.le_refl _)
 rw[List.take_length]at h3
 have:=h.block
 have:=h.bits
 have:=h.tags
 simp only[vy,List.length_append]
 omega
abbrev kQ:Nat:=104
def kZ:AF:=⟨2,6,[],(.seq (.ops [.i (.lbox 3 (.s 1))]) (.seq (.ops [qm 6 0,qf 7 3 0,ql 8 3 7 1 false, .i (.call 10 99 false [(.s 6),(.s 8)])]) (.seq (.ops [qm 10 0,qf 11 3 1,ql 12 3 11 1 false, .i (.call 14 99 false [(.s 10),(.s 12)])]) (.seq (.ops [qm 14 0,qf 15 3 2,ql 16 3 15 1 false, .i (.call 18 100 false [(.s 14),(.s 16)])]) (.seq (.ops [qm 18 0,qf 19 3 3,ql 20 3 19 1 false, .i (.call 22 100 false [(.s 18),(.s 20)])]) (.seq (.ops [qf 22 3 4,ql 23 3 22 1 false,qn 24 23, .i (.mov 25 (qi 0))]) (.block 0 (.loop [32,31,30,29,28,27,26,5] (.seq (.ops [qd 26 .lss 25 24]) (.seq (.cond (.s 26) .skip (.exit 0)) (.seq (.block 1 (.seq (.ops [.i (.iad 27 (.s 23) (.s 25) 1), .i (.ldh 28 (.s 27) 1 false),qm 5 28]) (.ops [qm 29 0,qm 30 5, .i (.call 32 100 false [(.s 29),(.s 30)])]))) (.ops [.i (.bin 32 .add (.s 25) (qi 1)),qm 25 32]))))))))))))⟩
theorem wW:cd kQ=some kZ:=by kernel_rfl
theorem lK (b:Bytes) (q:Qc) (hq:Ie q) (hb:b.length≤1000000000):VC cd kQ (iO [] 146 [.o true (some (5,1)) (bytes b)] [(true,q.c)]) (fun r p=>r= []∧p= [.pt 146 [.o true (some (5,1)) (bytes (b++vy q))]]):=by
 have h1:=ax hq.view
 have h2:=ax hq.height
 have h4:=hq.block
 have h5:=hq.bits
 have h6:=hq.tags
 refine aw wW rfl ?_
 simp(disch:=omega) [kZ,Qc.c,VZ]
 refine dc (aJ _ q.view hq.view ?_) ?_
 ·(try simp only[List.length_append]);omega
 simp(disch:=omega) [VZ]
 refine dc (aJ _ q.height hq.height ?_) ?_
 ·(try simp only[List.length_append]);omega
 simp(disch:=omega) [VZ]
 refine dc (cc _ q.block (by omega) ?_) ?_
 ·(try simp only[List.length_append]);omega
 simp(disch:=omega) [VZ]
 refine dc (cc _ q.bits (by omega) ?_) ?_
 ·(try simp only[List.length_append]);omega
 simp(disch:=omega) [aq,VZ]
 refine aO (σ:=Nat×Nat) (f1:=_) (es0:=_) (by simp(disch:=omega) [VZ];rfl) (by simp(disch:=omega) [VZ];rfl) (fun p=> [(25, .val false [.int .i64 (p.1:Int)])]) (fun p=> [(4096, .pt 0 146 [.ow 1099528404992 p.2]),(1099528404992, .sl p.2 true true (some (5,1)) (bytes (b++(aH q.view.toNat++(aH q.height.toNat++(q.block++(q.bits++(q.tags.take p.1).flatten)))))))])
  (fun p g=>g+p.1=q.tags.length) (0,14) q.tags.length (by simp(disch:=omega) [VZ]) (by simp(disch:=omega) [VZ]) (by omega) ?_
 rintro⟨i,v⟩ n g hg
 simp only at hg
 simp(disch:=omega) [VZ]
 refine ab (fun h7=> ?_) (fun h7=> ?_)
 ·have hi:i < q.tags.length:=by omega
  have hx:=hq.tag _ (List.getElem_mem hi)
  have hf:=hU hq.tag (i:=i) (by omega)
  simp(disch:=omega) [cX hi,VZ]
  refine dc (cc _ q.tags[i] (by omega) ?_) ?_
  ·(try simp only[List.length_append]);omega
  simp(disch:=omega) [VZ]
  exact⟨i+1,_,g - 1,by omega,by omega,rfl,rfl,by rw[sg hi]⟩
 ·have hi:i=q.tags.length:=by omega
  subst hi
  rw[List.take_length]
  simp(disch:=omega) [vy,VZ]
def bd (ok:Bool) (b:Bytes):List (Bool×List E):=
 if ok then [(false,[.o true (some (5,1)) (bytes b)]),(false,[.p (.bool true)])]else [(false,[.p .nils]),(false,[.p (.bool false)])]
theorem bj {ok:Bool} {b:Bytes} (h:ok=true):bd ok b= [(false,[.o true (some (5,1)) (bytes b)]),(false,[.p (.bool true)])]:=by subst h;rfl
theorem cF {ok:Bool} {b:Bytes} (h:ok=false):bd ok b= [(false,[.p .nils]),(false,[.p (.bool false)])]:=by subst h;rfl
theorem _root_.Go.Eng.VC.re {cd:Nat→Option AF} {g:Nat} {al:List (Bool×List E)} {rs rt:List (Bool×List E)} (h:VC cd g al (fun r _=>r=rs)) (e:rs=rt):VC cd g al (fun r _=>r=rt):=by subst e;exact h
abbrev wF:Nat:=258
def vm:AF:=⟨3,6,[.tmp 6, .tmp 7],(.seq (.ops [.i (.lbox 3 (.s 0)), .i (.lbox 5 (.s 2)), .i (.mov 6 (.c (.val false [.nils]))), .i (.mov 7 (qb false))]) (.seq (.seq (.ops [ql 11 3 3 5 true,ql 12 5 5 5 true, .i (.call 14 309 false [(.s 11),(.s 12)]), .i (.not 14 (.s 13))]) (.cond (.s 14) (.seq (.ops [.i (.mov 6 (.c (.val false [.nils]))), .i (.mov 7 (qb false))]) .ret) .skip)) (.seq (.ops [qm 15 1,qf 16 5 0,ql 17 5 16 1 false, .i (.call 19 308 false [(.s 15),(.s 17)]),qf 19 5 1,ql 20 5 19 1 false, .i (.call 22 308 false [(.s 18),(.s 20)]),qf 22 5 2,ql 23 5 22 1 false, .i (.app 24 5 1 1 (.s 21) (.s 23)),qm 8 24]) (.seq (.ops [qm 25 8,qf 26 5 3,ql 27 5 26 1 false, .i (.app 28 5 1 1 (.s 25) (.s 27)),qm 8 28]) (.seq (.seq (.ops [qf 29 5 4,ql 30 5 29 1 false,qn 31 30, .i (.mov 32 (qi 0))]) (.block 0 (.loop [39,38,37,36,35,34,33,10] (.seq (.ops [qd 33 .lss 32 31]) (.seq (.cond (.s 33) .skip (.exit 0)) (.seq (.block 1 (.seq (.ops [.i (.iad 34 (.s 30) (.s 32) 1), .i (.ldh 35 (.s 34) 1 false),qm 10 35]) (.ops [qm 36 8,qm 37 10, .i (.app 38 5 1 1 (.s 36) (.s 37)),qm 8 38]))) (.ops [.i (.bin 39 .add (.s 32) (qi 1)),qm 32 39]))))))) (.seq (.ops [qm 40 8,qm 6 40, .i (.mov 7 (qb true))]) .ret))))))⟩
theorem FA:cd wF=some vm:=by kernel_rfl
theorem f8 (l:ah) (b:Bytes) (q:Qc) (hw:q.wf) (hb:b.length≤1000000000):VC cd wF (aB [(true,l.c),(false,[.sl (bytes b)]),(true,q.c)]) (fun rs _=>rs=bd (eg l q) (b++vy q)):=by
 refine aa FA rfl ?_
 simp(disch:=omega) [vm,Qc.c,ah.c,VY]
 refine ae (lD l q hw) rfl rfl ?_
 simp(disch:=omega) [VY]
 refine an (fun h0=> ?_) (fun h0=> ?_)
 case refine_2=>simp(disch:=omega) [h0,bd,VY]
 have hq:=lE h0
 have h1:=ax hq.view
 have h2:=ax hq.height
 have h4:=hq.block
 have h5:=hq.bits
 have h6:=hq.tags
 simp(disch:=omega) [h0,VY]
 refine ae (bI b q.view hq.view (by omega)) rfl rfl ?_
 simp(disch:=omega) [VY]
 refine ae (bI (b++aH q.view.toNat) q.height hq.height (by simp only[List.length_append];omega)) rfl rfl ?_
 simp(disch:=omega) [c8,ag,VY]
 have e1:List.length b+(List.length (aH q.view.toNat)+(List.length (aH q.height.toNat)+List.length q.block))≤1073741824:=by omega
 simp(disch:=omega) [c8,ag,aq,VY]
 refine aO (σ:=Nat×Nat) (f1:=_) (es0:=_) (by simp(disch:=omega) [VY];rfl) (by simp(disch:=omega) [VY];rfl) (fun p=> [(32, .val false [.int .i64 (p.1:Int)]),(8, .val false [.ow 188416 p.2])]) (fun p=> [(188416, .sl p.2 true true (some (5,1)) (bytes (b++(aH q.view.toNat++(aH q.height.toNat++(q.block++(q.bits++(q.tags.take p.1).flatten)))))))])
  (fun p g=>g+p.1=q.tags.length) (0,_) q.tags.length (by simp(disch:=omega) [VY];rfl) (by simp(disch:=omega) [VY]) (by omega) ?_
 rintro⟨i,v⟩ n g hg
 simp only at hg
 simp(disch:=omega) [VY]
 refine ab (fun h7=> ?_) (fun h7=> ?_)
 ·have hi:i < q.tags.length:=by omega
  have hx:=hq.tag _ (List.getElem_mem hi)
  have hf:=hU hq.tag (i:=i) (by omega)
  simp(disch:=omega) [cX hi,c8,ag,hf,VY]
  exact⟨i+1,_,g - 1,by omega,by omega,⟨by omega,rfl⟩,rfl,by rw[sg hi]⟩
 ·have hi:i=q.tags.length:=by omega
  subst hi
  rw[List.take_length]
  simp(disch:=omega) [vy,bd,h0,VY]
structure Ep (h:Head):Prop where
 view:isNum h.view=true
 height:isNum h.height=true
 proposer:isNum h.proposer=true
 parent:h.parent.length=32
 root:h.root.length=32
 qc:Ie h.qc
theorem xk {l:ah} {h:Head} (hk:bg l h=true):eg l h.qc=true:=by
 simp only[bg,Bool.and_eq_true]at hk
 exact hk.1.1.1.1.1.1
theorem c7 {l:ah} {h:Head} (hk:bg l h=true):Ep h:=by
 have hq:=xk hk
 have hn:=jv (r8 hq)
 simp only[bg,Bool.and_eq_true,decide_eq_true_eq]at hk
 obtain⟨⟨⟨⟨⟨⟨h0,h1⟩,h2⟩,h3⟩,h4⟩,h5⟩,h6⟩:=hk
 have h2':=cY h2
 have h3':=cY h3
 exact⟨h1,by simp[isNum,dv];omega,by simp[isNum,dv];omega,by simpa[hash]using h4,by simpa[hash]using h5,lE hq⟩
theorem eR {h:Head} (hs:Ep h):(bE h).length≤1000:=by
 have h1:=ax hs.view
 have h2:=ax hs.height
 have h3:=ax hs.proposer
 have h4:=hs.parent
 have h5:=hs.root
 have h6:=E1 hs.qc
 simp only[bE,List.length_append]
 omega
abbrev im:Nat:=109
def iy:AF:=⟨2,5,[],(.seq (.ops [.i (.lbox 3 (.s 1))]) (.seq (.ops [qm 4 0,qf 5 3 0,ql 6 3 5 1 false, .i (.call 8 99 false [(.s 4),(.s 6)])]) (.seq (.ops [qm 8 0,qf 9 3 1,ql 10 3 9 1 false, .i (.call 12 99 false [(.s 8),(.s 10)])]) (.seq (.ops [qm 12 0,qf 13 3 2,ql 14 3 13 1 false, .i (.call 16 99 false [(.s 12),(.s 14)])]) (.seq (.ops [qm 16 0,qf 17 3 3,ql 18 3 17 1 false, .i (.call 20 100 false [(.s 16),(.s 18)])]) (.seq (.ops [qm 20 0,qf 21 3 4,ql 22 3 21 1 false, .i (.call 24 100 false [(.s 20),(.s 22)])]) (.ops [qm 24 0,qf 25 3 5,ql 26 3 25 5 true, .i (.call 28 104 false [(.s 24),(.s 26)])])))))))⟩
theorem u5:cd im=some iy:=by kernel_rfl
theorem iI (b:Bytes) (h:Head) (hs:Ep h) (hb:b.length≤900000000):VC cd im (iO [] 146 [.o true (some (5,1)) (bytes b)] [(true,h.c)]) (fun r p=>r= []∧p= [.pt 146 [.o true (some (5,1)) (bytes (b++bE h))]]):=by
 have h1:=ax hs.view
 have h2:=ax hs.height
 have h3:=ax hs.proposer
 have h4:=hs.parent
 have h5:=hs.root
 refine aw u5 rfl ?_
 simp(disch:=omega) [iy,Head.c,VZ]
 refine dc (aJ _ h.view hs.view ?_) ?_
 ·(try simp only[List.length_append]);omega
 simp(disch:=omega) [VZ]
 refine dc (aJ _ h.height hs.height ?_) ?_
 ·(try simp only[List.length_append]);omega
 simp(disch:=omega) [VZ]
 refine dc (aJ _ h.proposer hs.proposer ?_) ?_
 ·(try simp only[List.length_append]);omega
 simp(disch:=omega) [VZ]
 refine dc (cc _ h.parent (by omega) ?_) ?_
 ·(try simp only[List.length_append]);omega
 simp(disch:=omega) [VZ]
 refine dc (cc _ h.root (by omega) ?_) ?_
 ·(try simp only[List.length_append]);omega
 simp(disch:=omega) [VZ]
 refine dc (lK _ h.qc hs.qc ?_) ?_
 ·(try simp only[List.length_append]);omega
 simp(disch:=omega) [bE,VZ]
abbrev rF:Nat:=30
def pK:AF:=⟨3,5,[.tmp 6, .tmp 7],(.seq (.ops [.i (.lbox 3 (.s 0)), .i (.lbox 5 (.s 2)), .i (.mov 6 (.c (.val false [.nils]))), .i (.mov 7 (qb false))]) (.seq (.seq (.ops [ql 9 3 3 5 true,ql 10 5 5 10 true, .i (.call 12 108 false [(.s 9),(.s 10)]), .i (.not 12 (.s 11))]) (.cond (.s 12) (.seq (.ops [.i (.mov 6 (.c (.val false [.nils]))), .i (.mov 7 (qb false))]) .ret) .skip)) (.seq (.ops [qm 13 1,qk 15 93 13, .i (.bld 15 [.nils] [(0,1,(.s 14))]), .i (.hbox 16 146 (.s 15)),qm 8 16]) (.seq (.ops [qm 17 8,ql 18 5 5 10 true, .i (.call 20 109 false [(.s 17),(.s 18)])]) (.seq (.ops [qm 20 8, .i (.nch 21 (.s 20)),qf 22 21 0, .i (.ldh 23 (.s 22) 1 false),qm 6 23, .i (.mov 7 (qb true))]) .ret)))))⟩
theorem z8:cd rF=some pK:=by kernel_rfl
theorem dF (l:ah) (b:Bytes) (h:Head) (hw:h.wf) (hb:b.length≤900000000):VC cd rF (aB [(true,l.c),(false,[.sl (bytes b)]),(true,h.c)]) (fun rs _=>rs=bd (bg l h) (b++bE h)):=by
 refine aa z8 rfl ?_
 simp(disch:=omega) [pK,Head.c,ah.c,VY]
 refine ae (iv l h hw) rfl rfl ?_
 simp(disch:=omega) [VY]
 refine an (fun h0=> ?_) (fun h0=> ?_)
 case refine_2=>simp(disch:=omega) [h0,bd,VY]
 have hs:=c7 h0
 simp(disch:=omega) [h0,VY]
 refine ae (aI b (by omega)) rfl rfl ?_
 simp(disch:=omega) [VZ]
 refine dc (iI _ h hs ?_) ?_
 ·(try simp only[List.length_append]);omega
 simp(disch:=omega) [bd,h0,VZ]
abbrev qU:Nat:=259
def rl:AF:=⟨3,6,[.tmp 6, .tmp 7],(.seq (.ops [.i (.lbox 3 (.s 0)), .i (.lbox 5 (.s 2)), .i (.mov 6 (.c (.val false [.nils]))), .i (.mov 7 (qb false))]) (.seq (.seq (.ops [ql 9 3 3 5 true,ql 10 5 5 10 true, .i (.call 12 310 false [(.s 9),(.s 10)]), .i (.not 12 (.s 11))]) (.cond (.s 12) (.seq (.ops [.i (.mov 6 (.c (.val false [.nils]))), .i (.mov 7 (qb false))]) .ret) .skip)) (.seq (.ops [qm 13 1,qf 14 5 0,ql 15 5 14 1 false, .i (.call 17 308 false [(.s 13),(.s 15)]),qf 17 5 1,ql 18 5 17 1 false, .i (.call 20 308 false [(.s 16),(.s 18)]),qf 20 5 2,ql 21 5 20 1 false, .i (.call 23 308 false [(.s 19),(.s 21)]),qm 8 22]) (.seq (.ops [qm 23 8,qf 24 5 3,ql 25 5 24 1 false, .i (.app 26 5 1 1 (.s 23) (.s 25)),qf 27 5 4,ql 28 5 27 1 false, .i (.app 29 5 1 1 (.s 26) (.s 28)),qm 8 29]) (.seq (.ops [ql 30 3 3 5 true,qm 31 8,qf 32 5 5,ql 33 5 32 5 true, .i (.call 35 258 false [(.s 30),(.s 31),(.s 33)]), .i (.ext 35 (.s 34) 0), .i (.ext 36 (.s 34) 1),qm 6 35,qm 7 36]) .ret)))))⟩
theorem BP:cd qU=some rl:=by kernel_rfl
theorem c6 (l:ah) (b:Bytes) (h:Head) (hw:h.wf) (hb:b.length≤900000000):VC cd qU (aB [(true,l.c),(false,[.sl (bytes b)]),(true,h.c)]) (fun rs _=>rs=bd (bg l h) (b++bE h)):=by
 refine aa BP rfl ?_
 simp(disch:=omega) [rl,Head.c,ah.c,VY]
 refine ae (iM l h hw) rfl rfl ?_
 simp(disch:=omega) [VY]
 refine an (fun h0=> ?_) (fun h0=> ?_)
 case refine_2=>simp(disch:=omega) [h0,bd,VY]
 have hs:=c7 h0
 have h1:=ax hs.view
 have h2:=ax hs.height
 have h3:=ax hs.proposer
 have h4:=hs.parent
 have h5:=hs.root
 simp(disch:=omega) [h0,VY]
 refine ae (bI b h.view hs.view (by omega)) rfl rfl ?_
 simp(disch:=omega) [VY]
 refine ae (bI (b++aH h.view.toNat) h.height hs.height (by simp only[List.length_append];omega)) rfl rfl ?_
 simp(disch:=omega) [VY]
 refine ae (bI (b++(aH h.view.toNat++aH h.height.toNat)) h.proposer hs.proposer (by simp only[List.length_append];omega)) rfl rfl ?_
 simp(disch:=omega) [c8,ag,VY]
 refine ao ((f8 l (b++(aH h.view.toNat++(aH h.height.toNat++(aH h.proposer.toNat++(h.parent++h.root))))) h.qc hw.2.2.2.2.2 (by simp only[List.length_append];omega)).re (bj (xk h0))) ?_
 simp(disch:=omega) [bd,h0,bE,VY]
def me (l:ah) (h:Head):Bytes:=if bg l h then Hz (72::bE h)else []
def pS (l:ah) (h:Head):List (Bool×List E):=if bg l h then [(false,[.o true (some (5,1)) (bytes (Hz (72::bE h)))])]else [(false,[.p .nils])]
abbrev mT:Nat:=33
def mu:AF:=⟨2,5,[.tmp 4],(.seq (.ops [.i (.lbox 2 (.s 0)), .i (.lbox 3 (.s 1)), .i (.mov 4 (.c (.val false [.nils])))]) (.seq (.ops [ql 8 2 2 5 true, .i (.bsl 9 5 1 1 [.int .u8 0] [(0,1,(.c (.val false [.int .u8 72])))]),ql 10 3 3 10 true, .i (.call 12 30 false [(.s 8),(.s 9),(.s 10)]),qm 7 11, .i (.ext 12 (.s 7) 0), .i (.ext 13 (.s 7) 1),qm 5 12,qm 6 13]) (.seq (.seq (.ops [qm 14 6, .i (.not 15 (.s 14))]) (.cond (.s 15) (.seq (.ops [.i (.mov 4 (.c (.val false [.nils])))]) .ret) .skip)) (.seq (.ops [qm 16 5,qk 18 112 16,qm 4 17]) .ret))))⟩
theorem yI:cd mT=some mu:=by kernel_rfl
theorem xT (l:ah) (h:Head) (hw:h.wf):VC cd mT (aB [(true,l.c),(true,h.c)]) (fun rs _=>rs=pS l h):=by
 have e: [[D.int .u8 72]]=bytes [72]:=rfl
 refine aa yI rfl ?_
 simp(disch:=omega) [mu,Head.c,ah.c,e,VY]
 cases h0:bg l h with
 |false=>
  refine ao ((dF l [72] h hw (by simp)).re (cF h0)) ?_
  simp(disch:=omega) [pS,h0,VY]
 |true=>
  have hs:=eR (c7 h0)
  refine ao ((dF l [72] h hw (by simp)).re (bj h0)) ?_
  simp(disch:=omega) [VY]
  refine ao (i9 (72::bE h) (by simp;omega)) ?_
  simp(disch:=omega) [pS,h0,VY]
abbrev gx:Nat:=274
def nI:AF:=⟨2,5,[.tmp 4],(.seq (.ops [.i (.lbox 2 (.s 0)), .i (.lbox 3 (.s 1)), .i (.mov 4 (.c (.val false [.nils])))]) (.seq (.ops [ql 8 2 2 5 true, .i (.bsl 9 5 1 1 [.int .u8 0] [(0,1,(.c (.val false [.int .u8 72])))]),ql 10 3 3 10 true, .i (.call 12 259 false [(.s 8),(.s 9),(.s 10)]),qm 7 11, .i (.ext 12 (.s 7) 0), .i (.ext 13 (.s 7) 1),qm 5 12,qm 6 13]) (.seq (.seq (.ops [qm 14 6, .i (.not 15 (.s 14))]) (.cond (.s 15) (.seq (.ops [.i (.mov 4 (.c (.val false [.nils])))]) .ret) .skip)) (.seq (.ops [qm 16 5,qk 18 321 16,qm 4 17]) .ret))))⟩
theorem zp:cd gx=some nI:=by kernel_rfl
theorem xd (l:ah) (h:Head) (hw:h.wf):VC cd gx (aB [(true,l.c),(true,h.c)]) (fun rs _=>rs=pS l h):=by
 have e: [[D.int .u8 72]]=bytes [72]:=rfl
 refine aa zp rfl ?_
 simp(disch:=omega) [nI,Head.c,ah.c,e,VY]
 cases h0:bg l h with
 |false=>
  refine ao ((c6 l [72] h hw (by simp)).re (cF h0)) ?_
  simp(disch:=omega) [pS,h0,VY]
 |true=>
  have hs:=eR (c7 h0)
  refine ao ((c6 l [72] h hw (by simp)).re (bj h0)) ?_
  simp(disch:=omega) [VY]
  refine ao (jd (72::bE h) (by simp;omega)) ?_
  simp(disch:=omega) [pS,h0,VY]
end Go.Eng.F
namespace Go.Eng.F
open Go.Eng.U (Gr dE de gz)
theorem dT {n:Int} (h:IntKind.i64.min≤n∧n≤IntKind.i64.max):lq n:=by
 have h1:IntKind.i64.min= -9223372036854775808:=rfl
 have h2:IntKind.i64.max=9223372036854775807:=rfl
 unfold lq
 omega
theorem et (l:List Bytes):enc (.sl (.sl (.int .u8))) (xw l)= [.sl (bm l)]:=L4 l
theorem eD (k:IntKind) (n:Int):enc (.int k) (.i n)= [.int k n]:=rfl
theorem fx (b:Bool):enc .bool (.b b)= [.bool b]:=rfl
theorem eO (ts:List Ty) (vs:List Tv):enc (.st ts) (.r vs)=vN ts vs:=rfl
theorem bU (t:Ty) (ts:List Ty) (v:Tv) (vs:List Tv):vN (t::ts) (v::vs)=enc t v++vN ts vs:=rfl
theorem cO:vN [] []= []:=rfl
theorem E2 (t:Ty) (xs:List Tv):enc (.sl t) (.l xs)= [.sl (xs.map (enc t))]:=rfl
theorem cT {t:Ty} {ts:List Ty} {v:Tv} {vs:List Tv}:dQ (t::ts) (v::vs)↔aM t v∧dQ ts vs:=by simp only[dQ]
theorem gp {ts:List Ty} {vs:List Tv}:aM (.st ts) (.r vs)↔dQ ts vs:=by simp only[aM]
theorem ok_int {k:IntKind} {n:Int}:aM (.int k) (.i n)↔k.min≤n∧n≤k.max:=by simp only[aM]
theorem Lm {t:Ty} {xs:List Tv}:aM (.sl t) (.l xs)↔xs.length≤maxLen∧∀x∈xs,aM t x:=by simp only[aM]
theorem uy {x:Bytes} (h:wt (Cz x)≤1048576):Sz x.length:=by rw[Kr]at h;unfold Sz;omega
theorem HN {l:List Bytes} (h:wt (xw l)≤1048576):Sz l.length∧∀x∈l,Sz x.length:=by
 obtain⟨h1,h2⟩:=Le l
 unfold Sz
 exact⟨by omega,fun x hx=>by have:=h2 x hx;omega⟩
theorem gk (l:List Int):enc (.sl (.int .i64)) (Ny l)= [.sl (l.map fun n=> [.int .i64 n])]:=by
 simp only[Ny,E2,List.map_map]
 congr 2
theorem jx (s:ByteArray):enc .str (.s s)= [.str s]:=rfl
def ah.tv (l:ah):Tv:= .r [.i l.n, .i l.tx, .i l.txs, .i l.frame, .i l.heads]
theorem ah.enc (l:ah):enc de l.tv=l.c:=rfl
theorem ah.ex {v:Tv} (h:aM de v):∃l:ah,v=l.tv:=by
 obtain⟨vs,rfl,h⟩:=h.st
 obtain⟨v0,_,rfl,h0,h⟩:=h.step
 obtain⟨v1,_,rfl,h1,h⟩:=h.step
 obtain⟨v2,_,rfl,h2,h⟩:=h.step
 obtain⟨v3,_,rfl,h3,h⟩:=h.step
 obtain⟨v4,_,rfl,h4,h⟩:=h.step
 obtain rfl:=h.fin
 obtain⟨n0,rfl,_⟩:=h0.int
 obtain⟨n1,rfl,_⟩:=h1.int
 obtain⟨n2,rfl,_⟩:=h2.int
 obtain⟨n3,rfl,_⟩:=h3.int
 obtain⟨n4,rfl,_⟩:=h4.int
 exact⟨⟨n0,n1,n2,n3,n4⟩,rfl⟩
def Qc.tv (q:Qc):Tv:= .r [.i q.view, .i q.height,Cz q.block,Cz q.bits,xw q.tags]
theorem Qc.enc (q:Qc):enc Gr q.tv=q.c:=by simp only[Qc.tv,eO,bU,cO,eD,gI,et,Qc.c,List.cons_append,List.nil_append]
theorem Qc.ex {v:Tv} (h:aM Gr v):∃q:Qc,v=q.tv:=by
 obtain⟨vs,rfl,h⟩:=h.st
 obtain⟨v0,_,rfl,h0,h⟩:=h.step
 obtain⟨v1,_,rfl,h1,h⟩:=h.step
 obtain⟨v2,_,rfl,h2,h⟩:=h.step
 obtain⟨v3,_,rfl,h3,h⟩:=h.step
 obtain⟨v4,_,rfl,h4,h⟩:=h.step
 obtain rfl:=h.fin
 obtain⟨n0,rfl,_⟩:=h0.int
 obtain⟨n1,rfl,_⟩:=h1.int
 obtain⟨n2,rfl⟩:=gw h2
 obtain⟨n3,rfl⟩:=gw h3
 obtain⟨n4,rfl⟩:=Fs h4
 exact⟨⟨n0,n1,n2,n3,n4⟩,rfl⟩
theorem Qc.of {q:Qc} (h:aM Gr q.tv) (hw:wt q.tv≤1048576):q.wc:=by
 simp only[Qc.tv,gp,cT,ok_int]at h
 simp only[Qc.tv,wt,zM]at hw
 obtain⟨h0,h1,_⟩:=h
 have h4:=HN (l:=q.tags) (by omega)
 exact⟨⟨dT h0,dT h1,uy (by omega),uy (by omega),h4.1⟩,h4.2⟩
theorem Qc.rs (q:Qc):Fc q.o (Go.Eng.enc Gr q.tv):=by
 rw[Qc.enc]
 simp only[Qc.o,Qc.c,Fc,D.leaf,and_self]
def Head.tv (h:Head):Tv:= .r [.i h.view, .i h.height, .i h.proposer,Cz h.parent,Cz h.root,h.qc.tv]
theorem Head.enc (h:Head):enc dE h.tv=h.c:=by simp only[Head.tv,Qc.enc,eO,bU,cO,eD,gI,et,Head.c,Qc.c,List.cons_append,List.nil_append]
theorem Head.ex {v:Tv} (h:aM dE v):∃q:Head,v=q.tv:=by
 obtain⟨vs,rfl,h⟩:=h.st
 obtain⟨v0,_,rfl,h0,h⟩:=h.step
 obtain⟨v1,_,rfl,h1,h⟩:=h.step
 obtain⟨v2,_,rfl,h2,h⟩:=h.step
 obtain⟨v3,_,rfl,h3,h⟩:=h.step
 obtain⟨v4,_,rfl,h4,h⟩:=h.step
 obtain⟨v5,_,rfl,h5,h⟩:=h.step
 obtain rfl:=h.fin
 obtain⟨n0,rfl,_⟩:=h0.int
 obtain⟨n1,rfl,_⟩:=h1.int
 obtain⟨n2,rfl,_⟩:=h2.int
 obtain⟨n3,rfl⟩:=gw h3
 obtain⟨n4,rfl⟩:=gw h4
 obtain⟨n5,rfl⟩:=Qc.ex h5
 exact⟨⟨n0,n1,n2,n3,n4,n5⟩,rfl⟩
theorem Head.of {q:Head} (h:aM dE q.tv) (hw:wt q.tv≤1048576):q.wc:=by
 simp only[Head.tv,gp,cT]at h
 simp only[Head.tv,wt,zM]at hw
 obtain⟨h0,h1,h2,_,_,h5,_⟩:=h
 have h4:=Qc.of h5 (by omega)
 exact⟨⟨dT (ok_int.1 h0),dT (ok_int.1 h1),dT (ok_int.1 h2),uy (by omega),uy (by omega),h4.1⟩,h4.2⟩
theorem Head.rs (q:Head):Fc q.o (Go.Eng.enc dE q.tv):=by
 rw[Head.enc]
 simp only[Head.o,Head.c,Fc,D.leaf,and_self]
def zb (l:List Head):Tv:= .l (l.map Head.tv)
theorem zR (l:List Head):enc (.sl dE) (zb l)= [.sl (el l)]:=by
 simp only[zb,E2,List.map_map,el]
 congr 2
 exact List.map_congr_left fun x _=>Head.enc x
theorem zV {v:Tv} (h:aM (.sl dE) v):∃l,v=zb l:=by
 obtain⟨xs,rfl,_,h2⟩:=h.sl
 obtain⟨ys,rfl⟩:=sn (f:=Head.tv) (P:=aM dE) (fun v hv=>Head.ex hv) h2
 exact⟨ys,rfl⟩
theorem Ft {l:List Head} (h:aM (.sl dE) (zb l)) (hw:wt (zb l)≤1048576):Sz l.length∧∀x∈l,x.wc:=by
 unfold zb at h hw
 rw[KE]at hw
 have h2:=(Lm.1 h).2
 simp only[List.length_map]at hw
 refine⟨by unfold Sz;omega,fun x hx=>Head.of (h2 _ (List.mem_map_of_mem hx)) ?_⟩
 have:=vB (f:=Head.tv) hx
 omega
def Proof.tv (p:Proof):Tv:= .r [zb p.heads,p.qc.tv]
theorem Proof.enc (p:Proof):enc gz p.tv=p.c:=by simp only[Proof.tv,Qc.enc,zR,eO,bU,cO,eD,Proof.c,Qc.c,List.cons_append,List.nil_append]
theorem Proof.ex {v:Tv} (h:aM gz v):∃q:Proof,v=q.tv:=by
 obtain⟨vs,rfl,h⟩:=h.st
 obtain⟨v0,_,rfl,h0,h⟩:=h.step
 obtain⟨v1,_,rfl,h1,h⟩:=h.step
 obtain rfl:=h.fin
 obtain⟨n0,rfl⟩:=zV h0
 obtain⟨n1,rfl⟩:=Qc.ex h1
 exact⟨⟨n0,n1⟩,rfl⟩
theorem Proof.of {q:Proof} (h:aM gz q.tv) (hw:wt q.tv≤1048576):q.wf∧(∀h∈q.heads,h.wc)∧q.qc.wc:=by
 simp only[Proof.tv,gp,cT]at h
 simp only[Proof.tv,wt,zM]at hw
 obtain⟨h0,h1,_⟩:=h
 have h4:=Qc.of h1 (by omega)
 have h5:=Ft h0 (by omega)
 exact⟨⟨⟨h5.1,fun h hh=>(h5.2 h hh).1⟩,h4.1⟩,h5.2,h4⟩
end Go.Eng.F
namespace Go.Eng.F
open Go.Eng.U (Gr dE de gz FV qv)
theorem GC {l:List Head} {i:Nat} (h:i < l.length):el (l.take i)++ [l[i].c]=el (l.take (i+1)):=by
 have e:el (l.take (i+1))=el (l.take i)++el [l[i]]:=by
  rw[List.take_add_one,List.getElem?_eq_getElem h];exact List.map_append
 rw[e];rfl
abbrev kS:Nat:=278
def kX:AF:=⟨1,5,[.tmp 2],(.seq (.ops [.i (.mov 2 (.c (.val false [.nils])))]) (.seq (.ops [.i (.bse 6),qm 3 6]) (.seq (.seq (.ops [qm 7 0,qn 8 7, .i (.mov 9 (qi 0))]) (.block 0 (.loop [18,17,16,15,14,13,12,11,10,5] (.seq (.ops [qd 10 .lss 9 8]) (.seq (.cond (.s 10) .skip (.exit 0)) (.seq (.block 1 (.seq (.ops [.i (.iad 11 (.s 7) (.s 9) 10), .i (.ldh 12 (.s 11) 10 true), .i (.lal 5 qz),qs 5 5 12 10]) (.ops [qm 13 3,ql 14 5 5 10 true,qk 16 205 14, .i (.lsl 16 10 1 qz [(0,10,(.s 15))]), .i (.app 17 45 10 160 (.s 13) (.s 16)),qm 3 17]))) (.ops [.i (.bin 18 .add (.s 9) (qi 1)),qm 9 18]))))))) (.seq (.ops [qm 19 3,qm 2 19]) .ret))))⟩
theorem xb:cd kS=some kX:=by kernel_rfl
theorem EK (l:List Head) (h0:Sz l.length) (hw:∀h∈l,h.wc):VC cd kS (aB [(false,[.sl (el l)])]) (fun rs _=>rs= [(false,[.o true (some (45,10)) (el l)])]):=by
 simp only[Sz]at h0
 refine aa xb rfl ?_
 simp(disch:=omega) [kX,bS,VY]
 refine aO (σ:=Nat×Nat) (f1:=_) (es0:=_) (by simp(disch:=omega) [VY];rfl) (by simp(disch:=omega) [VY];rfl) (fun p=> [(9, .val false [.int .i64 p.1]),(3, .val false [.ow 6 p.2])]) (fun p=> [(6, .sl p.2 true true (some (45,10)) (el (l.take p.1)))])
  (fun p g=>g+p.1=l.length) (0,1) l.length (by simp(disch:=omega) [VY]) (by simp(disch:=omega) [el,VY]) (by omega) ?_
 rintro⟨i,v⟩ n g hg
 simp only at hg
 simp(disch:=omega) [VY]
 refine ab (fun h1=> ?_) (fun h1=> ?_)
 ·have hx:i < l.length:=by omega
  simp(disch:=omega) [eB hx,Head.c,VY]
  refine ae (iN l[i] (hw _ (List.getElem_mem hx))) rfl rfl ?_
  have hl:(el (l.take i)).length=i:=by rw[bS];simp;omega
  have hs:=GC hx
  simp only[Head.c]at hs
  simp(disch:=omega) [hl,Head.o,hs,VY]
  exact⟨i+1,n+10,g - 1,by omega,by omega,⟨by omega,by omega⟩,by omega,rfl⟩
 ·simp(disch:=omega) [VY]
  have:i=l.length:=by omega
  subst this
  rw[List.take_length]
abbrev ma:Nat:=320
def mb:AF:=⟨1,5,[.tmp 2],(.seq (.ops [.i (.mov 2 (.c (.val false [.nils])))]) (.seq (.ops [.i (.bse 6),qm 3 6]) (.seq (.seq (.ops [qm 7 0,qn 8 7, .i (.mov 9 (qi 0))]) (.block 0 (.loop [18,17,16,15,14,13,12,11,10,5] (.seq (.ops [qd 10 .lss 9 8]) (.seq (.cond (.s 10) .skip (.exit 0)) (.seq (.block 1 (.seq (.ops [.i (.iad 11 (.s 7) (.s 9) 10), .i (.ldh 12 (.s 11) 10 true), .i (.lal 5 qz),qs 5 5 12 10]) (.ops [qm 13 3,ql 14 5 5 10 true,qk 16 267 14, .i (.lsl 16 10 1 qz [(0,10,(.s 15))]), .i (.app 17 45 10 160 (.s 13) (.s 16)),qm 3 17]))) (.ops [.i (.bin 18 .add (.s 9) (qi 1)),qm 9 18]))))))) (.seq (.ops [qm 19 3,qm 2 19]) .ret))))⟩
theorem zy:cd ma=some mb:=by kernel_rfl
theorem Hg (l:List Head) (h0:Sz l.length) (hw:∀h∈l,h.wc):VC cd ma (aB [(false,[.sl (el l)])]) (fun rs _=>rs= [(false,[.o true (some (45,10)) (el l)])]):=by
 simp only[Sz]at h0
 refine aa zy rfl ?_
 simp(disch:=omega) [mb,bS,VY]
 refine aO (σ:=Nat×Nat) (f1:=_) (es0:=_) (by simp(disch:=omega) [VY];rfl) (by simp(disch:=omega) [VY];rfl) (fun p=> [(9, .val false [.int .i64 p.1]),(3, .val false [.ow 6 p.2])]) (fun p=> [(6, .sl p.2 true true (some (45,10)) (el (l.take p.1)))])
  (fun p g=>g+p.1=l.length) (0,1) l.length (by simp(disch:=omega) [VY]) (by simp(disch:=omega) [el,VY]) (by omega) ?_
 rintro⟨i,v⟩ n g hg
 simp only at hg
 simp(disch:=omega) [VY]
 refine ab (fun h1=> ?_) (fun h1=> ?_)
 ·have hx:i < l.length:=by omega
  simp(disch:=omega) [eB hx,Head.c,VY]
  refine ae (lS l[i] (hw _ (List.getElem_mem hx))) rfl rfl ?_
  have hl:(el (l.take i)).length=i:=by rw[bS];simp;omega
  have hs:=GC hx
  simp only[Head.c]at hs
  simp(disch:=omega) [hl,Head.o,hs,VY]
  exact⟨i+1,n+10,g - 1,by omega,by omega,⟨by omega,by omega⟩,by omega,rfl⟩
 ·simp(disch:=omega) [VY]
  have:i=l.length:=by omega
  subst this
  rw[List.take_length]
def Proof.wc (p:Proof):Prop:=p.wf∧(∀h∈p.heads,h.wc)∧p.qc.wc
def Proof.o (p:Proof):List E:= [.o true (some (45,10)) (el p.heads), .p (.int .i64 p.qc.view), .p (.int .i64 p.qc.height), .o true (some (5,1)) (bytes p.qc.block), .o true (some (5,1)) (bytes p.qc.bits), .o true (some (22,1)) (bm p.qc.tags)]
abbrev gW:Nat:=208
def gV:AF:=⟨1,4,[.cell 2 6 true],(.seq (.ops [.i (.lbox 1 (.s 0)), .i (.lal 2 [.nils, .int .i64 0, .int .i64 0, .nils, .nils, .nils])]) (.seq (.ops [qf 3 1 0,ql 4 1 3 1 false,qk 6 278 4,qf 6 1 1,ql 7 1 6 5 true,qk 9 204 7, .i (.bld 9 [.nils, .int .i64 0, .int .i64 0, .nils, .nils, .nils] [(0,1,(.s 5)),(1,5,(.s 8))]),qs 2 2 9 6]) .ret))⟩
theorem sD:cd gW=some gV:=by kernel_rfl
theorem yK (p:Proof) (hw:p.wc):VC cd gW (aB [(true,p.c)]) (fun rs _=>rs= [(true,p.o)]):=by
 refine aa sD rfl ?_
 simp(disch:=omega) [gV,Proof.c,VY]
 refine ae (EK p.heads hw.1.1.1 hw.2.1) rfl rfl ?_
 simp(disch:=omega) [VY]
 refine ae (lM p.qc hw.2.2) rfl rfl ?_
 simp(disch:=omega) [Proof.o,Qc.o,VY]
abbrev oy:Nat:=272
def rE:AF:=⟨1,4,[.cell 2 6 true],(.seq (.ops [.i (.lbox 1 (.s 0)), .i (.lal 2 [.nils, .int .i64 0, .int .i64 0, .nils, .nils, .nils])]) (.seq (.ops [qf 3 1 0,ql 4 1 3 1 false,qk 6 320 4,qf 6 1 1,ql 7 1 6 5 true,qk 9 264 7, .i (.bld 9 [.nils, .int .i64 0, .int .i64 0, .nils, .nils, .nils] [(0,1,(.s 5)),(1,5,(.s 8))]),qs 2 2 9 6]) .ret))⟩
theorem AP:cd oy=some rE:=by kernel_rfl
theorem Hu (p:Proof) (hw:p.wc):VC cd oy (aB [(true,p.c)]) (fun rs _=>rs= [(true,p.o)]):=by
 refine aa AP rfl ?_
 simp(disch:=omega) [rE,Proof.c,VY]
 refine ae (Hg p.heads hw.1.1.1 hw.2.1) rfl rfl ?_
 simp(disch:=omega) [VY]
 refine ae (uK p.qc hw.2.2) rfl rfl ?_
 simp(disch:=omega) [Proof.o,Qc.o,VY]
def d4 (p:Proof):List (Bool×List E):= [(true,[.p (.int .i64 6), .p (.int .i64 0), .p (.int .i64 0), .p .nils, .p (.int .i64 0), .p .nils, .p (.int .i64 0), .p (.int .i64 0), .p .nils, .p .nils, .p .nils, .p (.int .i64 0), .p (.int .i64 0), .p (.int .i64 0), .p .nils, .p .nils, .p (.int .i64 0), .p (.int .i64 0), .p .nils, .p .nils, .p .nils, .p (.int .i64 0), .p (.int .i64 0), .p (.int .i64 0), .p .nils, .p .nils, .p (.int .i64 0), .p (.int .i64 0), .p .nils, .p .nils, .p .nils, .p .nils, .p (.int .i64 0), .p .nils, .o true (some (45,10)) (el p.heads), .p (.int .i64 p.qc.view), .p (.int .i64 p.qc.height), .o true (some (5,1)) (bytes p.qc.block), .o true (some (5,1)) (bytes p.qc.bits), .o true (some (22,1)) (bm p.qc.tags), .p (.int .i64 0), .p (.int .i64 0), .p (.int .i64 0), .p .nils, .p .nils])]
abbrev pY:Nat:=201
def oX:AF:=⟨1,3,[.cell 2 45 true],(.seq (.ops [.i (.lbox 1 (.s 0)), .i (.lal 2 [.int .i64 0, .int .i64 0, .int .i64 0, .nils, .int .i64 0, .nils, .int .i64 0, .int .i64 0, .nils, .nils, .nils, .int .i64 0, .int .i64 0, .int .i64 0, .nils, .nils, .int .i64 0, .int .i64 0, .nils, .nils, .nils, .int .i64 0, .int .i64 0, .int .i64 0, .nils, .nils, .int .i64 0, .int .i64 0, .nils, .nils, .nils, .nils, .int .i64 0, .nils, .nils, .int .i64 0, .int .i64 0, .nils, .nils, .nils, .int .i64 0, .int .i64 0, .int .i64 0, .nils, .nils])]) (.seq (.ops [ql 3 1 1 6 true,qk 5 208 3, .i (.bld 5 [.int .i64 0, .int .i64 0, .int .i64 0, .nils, .int .i64 0, .nils, .int .i64 0, .int .i64 0, .nils, .nils, .nils, .int .i64 0, .int .i64 0, .int .i64 0, .nils, .nils, .int .i64 0, .int .i64 0, .nils, .nils, .nils, .int .i64 0, .int .i64 0, .int .i64 0, .nils, .nils, .int .i64 0, .int .i64 0, .nils, .nils, .nils, .nils, .int .i64 0, .nils, .nils, .int .i64 0, .int .i64 0, .nils, .nils, .nils, .int .i64 0, .int .i64 0, .int .i64 0, .nils, .nils] [(0,1,(qi 6)),(34,6,(.s 4))]),qs 2 2 5 45]) .ret))⟩
theorem Ad:cd pY=some oX:=by kernel_rfl
theorem yN (p:Proof) (hw:p.wc):VC cd pY (aB [(true,p.c)]) (fun rs _=>rs=d4 p):=by
 refine aa Ad rfl ?_
 simp(disch:=omega) [oX,Proof.c,VY]
 refine ae (yK p hw) rfl rfl ?_
 simp(disch:=omega) [d4,Proof.o,VY]
abbrev ou:Nat:=192
def rj:AF:=⟨1,3,[.cell 2 45 true],(.seq (.ops [.i (.lbox 1 (.s 0)), .i (.lal 2 [.int .i64 0, .int .i64 0, .int .i64 0, .nils, .int .i64 0, .nils, .int .i64 0, .int .i64 0, .nils, .nils, .nils, .int .i64 0, .int .i64 0, .int .i64 0, .nils, .nils, .int .i64 0, .int .i64 0, .nils, .nils, .nils, .int .i64 0, .int .i64 0, .int .i64 0, .nils, .nils, .int .i64 0, .int .i64 0, .nils, .nils, .nils, .nils, .int .i64 0, .nils, .nils, .int .i64 0, .int .i64 0, .nils, .nils, .nils, .int .i64 0, .int .i64 0, .int .i64 0, .nils, .nils])]) (.seq (.ops [ql 3 1 1 6 true,qk 5 272 3, .i (.bld 5 [.int .i64 0, .int .i64 0, .int .i64 0, .nils, .int .i64 0, .nils, .int .i64 0, .int .i64 0, .nils, .nils, .nils, .int .i64 0, .int .i64 0, .int .i64 0, .nils, .nils, .int .i64 0, .int .i64 0, .nils, .nils, .nils, .int .i64 0, .int .i64 0, .int .i64 0, .nils, .nils, .int .i64 0, .int .i64 0, .nils, .nils, .nils, .nils, .int .i64 0, .nils, .nils, .int .i64 0, .int .i64 0, .nils, .nils, .nils, .int .i64 0, .int .i64 0, .int .i64 0, .nils, .nils] [(0,1,(qi 6)),(34,6,(.s 4))]),qs 2 2 5 45]) .ret))⟩
theorem AK:cd ou=some rj:=by kernel_rfl
theorem mO (p:Proof) (hw:p.wc):VC cd ou (aB [(true,p.c)]) (fun rs _=>rs=d4 p):=by
 refine aa AK rfl ?_
 simp(disch:=omega) [rj,Proof.c,VY]
 refine ae (Hu p hw) rfl rfl ?_
 simp(disch:=omega) [d4,Proof.o,VY]
theorem Proof.QO {q:Proof} (h:aM gz q.tv) (hw:wt q.tv≤1048576):q.wc:=Proof.of h hw
structure Block where
 head:Head
 txs:List Bytes
def Block.c (x:Block):List D:=x.head.c++ [.sl (bm x.txs)]
def Block.wc (x:Block):Prop:=x.head.wc∧mY x.txs
def Block.o (x:Block):List E:= [.p (.int .i64 x.head.view), .p (.int .i64 x.head.height), .p (.int .i64 x.head.proposer), .o true (some (5,1)) (bytes x.head.parent), .o true (some (5,1)) (bytes x.head.root), .p (.int .i64 x.head.qc.view), .p (.int .i64 x.head.qc.height), .o true (some (5,1)) (bytes x.head.qc.block), .o true (some (5,1)) (bytes x.head.qc.bits), .o true (some (22,1)) (bm x.head.qc.tags), .o true (some (22,1)) (bm x.txs)]
abbrev gZ:Nat:=206
def gX:AF:=⟨1,4,[.cell 2 11 true],(.seq (.ops [.i (.lbox 1 (.s 0)), .i (.lal 2 [.int .i64 0, .int .i64 0, .int .i64 0, .nils, .nils, .int .i64 0, .int .i64 0, .nils, .nils, .nils, .nils])]) (.seq (.ops [qf 3 1 0,ql 4 1 3 10 true,qk 6 205 4,qf 6 1 10,ql 7 1 6 1 false,qk 9 277 7, .i (.bld 9 [.int .i64 0, .int .i64 0, .int .i64 0, .nils, .nils, .int .i64 0, .int .i64 0, .nils, .nils, .nils, .nils] [(0,10,(.s 5)),(10,1,(.s 8))]),qs 2 2 9 11]) .ret))⟩
theorem sL:cd gZ=some gX:=by kernel_rfl
theorem y5 (x:Block) (hw:x.wc):VC cd gZ (aB [(true,x.c)]) (fun rs _=>rs= [(true,x.o)]):=by
 refine aa sL rfl ?_
 simp(disch:=omega) [gX,Block.c,Head.c,List.cons_append,List.nil_append,VY]
 refine ae (iN x.head hw.1) rfl rfl ?_
 simp(disch:=omega) [Head.o,VY]
 refine ae (pv x.txs hw.2) rfl rfl ?_
 simp(disch:=omega) [Block.o,VY]
abbrev oG:Nat:=268
def oR:AF:=⟨1,4,[.cell 2 11 true],(.seq (.ops [.i (.lbox 1 (.s 0)), .i (.lal 2 [.int .i64 0, .int .i64 0, .int .i64 0, .nils, .nils, .int .i64 0, .int .i64 0, .nils, .nils, .nils, .nils])]) (.seq (.ops [qf 3 1 0,ql 4 1 3 10 true,qk 6 267 4,qf 6 1 10,ql 7 1 6 1 false,qk 9 316 7, .i (.bld 9 [.int .i64 0, .int .i64 0, .int .i64 0, .nils, .nils, .int .i64 0, .int .i64 0, .nils, .nils, .nils, .nils] [(0,10,(.s 5)),(10,1,(.s 8))]),qs 2 2 9 11]) .ret))⟩
theorem Ao:cd oG=some oR:=by kernel_rfl
theorem H4 (x:Block) (hw:x.wc):VC cd oG (aB [(true,x.c)]) (fun rs _=>rs= [(true,x.o)]):=by
 refine aa Ao rfl ?_
 simp(disch:=omega) [oR,Block.c,Head.c,List.cons_append,List.nil_append,VY]
 refine ae (lS x.head hw.1) rfl rfl ?_
 simp(disch:=omega) [Head.o,VY]
 refine ae (l6 x.txs hw.2) rfl rfl ?_
 simp(disch:=omega) [Block.o,VY]
def dO (x:Block):List (Bool×List E):= [(true,[.p (.int .i64 4), .p (.int .i64 0), .p (.int .i64 0), .p .nils, .p (.int .i64 0), .p .nils, .p (.int .i64 0), .p (.int .i64 0), .p .nils, .p .nils, .p .nils, .p (.int .i64 0), .p (.int .i64 0), .p (.int .i64 0), .p .nils, .p .nils, .p (.int .i64 0), .p (.int .i64 0), .p .nils, .p .nils, .p .nils, .p (.int .i64 x.head.view), .p (.int .i64 x.head.height), .p (.int .i64 x.head.proposer), .o true (some (5,1)) (bytes x.head.parent), .o true (some (5,1)) (bytes x.head.root), .p (.int .i64 x.head.qc.view), .p (.int .i64 x.head.qc.height), .o true (some (5,1)) (bytes x.head.qc.block), .o true (some (5,1)) (bytes x.head.qc.bits), .o true (some (22,1)) (bm x.head.qc.tags), .o true (some (22,1)) (bm x.txs), .p (.int .i64 0), .p .nils, .p .nils, .p (.int .i64 0), .p (.int .i64 0), .p .nils, .p .nils, .p .nils, .p (.int .i64 0), .p (.int .i64 0), .p (.int .i64 0), .p .nils, .p .nils])]
abbrev pg:Nat:=199
def rG:AF:=⟨1,3,[.cell 2 45 true],(.seq (.ops [.i (.lbox 1 (.s 0)), .i (.lal 2 [.int .i64 0, .int .i64 0, .int .i64 0, .nils, .int .i64 0, .nils, .int .i64 0, .int .i64 0, .nils, .nils, .nils, .int .i64 0, .int .i64 0, .int .i64 0, .nils, .nils, .int .i64 0, .int .i64 0, .nils, .nils, .nils, .int .i64 0, .int .i64 0, .int .i64 0, .nils, .nils, .int .i64 0, .int .i64 0, .nils, .nils, .nils, .nils, .int .i64 0, .nils, .nils, .int .i64 0, .int .i64 0, .nils, .nils, .nils, .int .i64 0, .int .i64 0, .int .i64 0, .nils, .nils])]) (.seq (.ops [ql 3 1 1 11 true,qk 5 206 3, .i (.bld 5 [.int .i64 0, .int .i64 0, .int .i64 0, .nils, .int .i64 0, .nils, .int .i64 0, .int .i64 0, .nils, .nils, .nils, .int .i64 0, .int .i64 0, .int .i64 0, .nils, .nils, .int .i64 0, .int .i64 0, .nils, .nils, .nils, .int .i64 0, .int .i64 0, .int .i64 0, .nils, .nils, .int .i64 0, .int .i64 0, .nils, .nils, .nils, .nils, .int .i64 0, .nils, .nils, .int .i64 0, .int .i64 0, .nils, .nils, .nils, .int .i64 0, .int .i64 0, .int .i64 0, .nils, .nils] [(0,1,(qi 4)),(21,11,(.s 4))]),qs 2 2 5 45]) .ret))⟩
theorem z5:cd pg=some rG:=by kernel_rfl
theorem zJ (x:Block) (hw:x.wc):VC cd pg (aB [(true,x.c)]) (fun rs _=>rs=dO x):=by
 refine aa z5 rfl ?_
 simp(disch:=omega) [rG,Block.c,Head.c,List.cons_append,List.nil_append,VY]
 refine ae (y5 x hw) rfl rfl ?_
 simp(disch:=omega) [dO,Block.o,VY]
abbrev pH:Nat:=188
def oE:AF:=⟨1,3,[.cell 2 45 true],(.seq (.ops [.i (.lbox 1 (.s 0)), .i (.lal 2 [.int .i64 0, .int .i64 0, .int .i64 0, .nils, .int .i64 0, .nils, .int .i64 0, .int .i64 0, .nils, .nils, .nils, .int .i64 0, .int .i64 0, .int .i64 0, .nils, .nils, .int .i64 0, .int .i64 0, .nils, .nils, .nils, .int .i64 0, .int .i64 0, .int .i64 0, .nils, .nils, .int .i64 0, .int .i64 0, .nils, .nils, .nils, .nils, .int .i64 0, .nils, .nils, .int .i64 0, .int .i64 0, .nils, .nils, .nils, .int .i64 0, .int .i64 0, .int .i64 0, .nils, .nils])]) (.seq (.ops [ql 3 1 1 11 true,qk 5 268 3, .i (.bld 5 [.int .i64 0, .int .i64 0, .int .i64 0, .nils, .int .i64 0, .nils, .int .i64 0, .int .i64 0, .nils, .nils, .nils, .int .i64 0, .int .i64 0, .int .i64 0, .nils, .nils, .int .i64 0, .int .i64 0, .nils, .nils, .nils, .int .i64 0, .int .i64 0, .int .i64 0, .nils, .nils, .int .i64 0, .int .i64 0, .nils, .nils, .nils, .nils, .int .i64 0, .nils, .nils, .int .i64 0, .int .i64 0, .nils, .nils, .nils, .int .i64 0, .int .i64 0, .int .i64 0, .nils, .nils] [(0,1,(qi 4)),(21,11,(.s 4))]),qs 2 2 5 45]) .ret))⟩
theorem BU:cd pH=some oE:=by kernel_rfl
theorem nB (x:Block) (hw:x.wc):VC cd pH (aB [(true,x.c)]) (fun rs _=>rs=dO x):=by
 refine aa BU rfl ?_
 simp(disch:=omega) [oE,Block.c,Head.c,List.cons_append,List.nil_append,VY]
 refine ae (H4 x hw) rfl rfl ?_
 simp(disch:=omega) [dO,Block.o,VY]
def Block.tv (x:Block):Tv:= .r [x.head.tv,xw x.txs]
theorem Block.enc (x:Block):enc qv x.tv=x.c:=by simp only[Block.tv,Head.enc,eO,bU,cO,eD,fx,jx,gI,et,gk,Block.c,Head.c,Head.c,Qc.c,List.cons_append,List.nil_append,List.append_assoc]
theorem Block.ex {v:Tv} (h:aM qv v):∃x:Block,v=x.tv:=by
 obtain⟨vs,rfl,h⟩:=h.st
 obtain⟨v0,_,rfl,h0,h⟩:=h.step
 obtain⟨v1,_,rfl,h1,h⟩:=h.step
 obtain rfl:=h.fin
 obtain⟨n0,rfl⟩:=Head.ex h0
 obtain⟨n1,rfl⟩:=Fs h1
 exact⟨⟨n0,n1⟩,rfl⟩
theorem Block.of {x:Block} (h:aM qv x.tv) (hw:wt x.tv≤1048576):x.wc:=by
 simp only[Block.tv,gp,cT]at h
 simp only[Block.tv,wt,zM]at hw
 obtain⟨h0,h1,_⟩:=h
 exact⟨Head.of h0 (by omega),HN (by omega)⟩
theorem Block.QO {q:Block} (h:aM qv q.tv) (hw:wt q.tv≤1048576):q.wc:=Block.of h hw
end Go.Eng.F
namespace Go.Eng.F
structure c4 where
 l:ah
 heads:List Head
def c4.c (f:c4):List D:=f.l.c++ [.sl (el f.heads)]
def c4.wf (f:c4):Prop:=su f.heads
def c4.wc (f:c4):Prop:=Sz f.heads.length∧∀h∈f.heads,h.wc
theorem c4.wc.wf {f:c4} (h:f.wc):f.wf:=⟨h.1,fun x hx=>(h.2 x hx).1⟩
def hh (l:ah) (hs:List Head) (i:Nat):Bytes:=match hs[i]? with|some h=>me l h|none=> []
theorem ak:bytes []= []:=rfl
def c4.o (f:c4):List E:= [.p (.int .i64 f.l.n), .p (.int .i64 f.l.tx), .p (.int .i64 f.l.txs), .p (.int .i64 f.l.frame), .p (.int .i64 f.l.heads), .o true (some (45,10)) (el f.heads)]
end Go.Eng.F
namespace Go.Eng.F
open Go.Eng.U (Gr dE de gz Dn jG rP yB)
structure Row where
 weight:Int
 key:Bytes
def Row.c (r:Row):List D:= [.int .i64 r.weight, .sl (bytes r.key)]
def Row.wf (r:Row):Prop:=lq r.weight∧Sz r.key.length
structure Table where
 rows:List Row
def rws (l:List Row):List (List D):=l.map Row.c
def Table.c (t:Table):List D:= [.sl (rws t.rows)]
def Table.wf (t:Table):Prop:=Sz t.rows.length∧∀r∈t.rows,r.wf
def Row.tv (x:Row):Tv:= .r [.i x.weight,Cz x.key]
theorem Row.enc (x:Row):enc Dn x.tv=x.c:=by simp only[Row.tv,eO,bU,cO,eD,fx,jx,gI,et,gk,Row.c,List.cons_append,List.nil_append,List.append_assoc]
theorem Row.ex {v:Tv} (h:aM Dn v):∃x:Row,v=x.tv:=by
 obtain⟨vs,rfl,h⟩:=h.st
 obtain⟨v0,_,rfl,h0,h⟩:=h.step
 obtain⟨v1,_,rfl,h1,h⟩:=h.step
 obtain rfl:=h.fin
 obtain⟨n0,rfl,_⟩:=h0.int
 obtain⟨n1,rfl⟩:=gw h1
 exact⟨⟨n0,n1⟩,rfl⟩
theorem Row.of {x:Row} (h:aM Dn x.tv) (hw:wt x.tv≤1048576):x.wf:=by
 simp only[Row.tv,gp,cT]at h
 simp only[Row.tv,wt,zM]at hw
 obtain⟨h0,h1,_⟩:=h
 exact⟨dT (ok_int.1 h0),uy (by omega)⟩
def HY (l:List Row):Tv:= .l (l.map Row.tv)
theorem MV (l:List Row):enc (.sl Dn) (HY l)= [.sl (rws l)]:=by
 simp only[HY,E2,List.map_map,rws]
 congr 2
 exact List.map_congr_left fun x _=>Row.enc x
theorem L9 {v:Tv} (h:aM (.sl Dn) v):∃l,v=HY l:=by
 obtain⟨xs,rfl,_,h2⟩:=h.sl
 obtain⟨ys,rfl⟩:=sn (f:=Row.tv) (P:=aM Dn) (fun v hv=>Row.ex hv) h2
 exact⟨ys,rfl⟩
theorem On {l:List Row} (h:aM (.sl Dn) (HY l)) (hw:wt (HY l)≤1048576):Sz l.length∧∀x∈l,x.wf:=by
 unfold HY at h hw
 rw[KE]at hw
 have h2:=(Lm.1 h).2
 simp only[List.length_map]at hw
 refine⟨by unfold Sz;omega,fun x hx=>Row.of (h2 _ (List.mem_map_of_mem hx)) ?_⟩
 have:=vB (f:=Row.tv) hx
 omega
def Table.tv (x:Table):Tv:= .r [HY x.rows]
theorem Table.enc (x:Table):enc jG x.tv=x.c:=by simp only[Table.tv,MV,eO,bU,cO,eD,fx,jx,gI,et,gk,Table.c,List.cons_append,List.nil_append,List.append_assoc]
theorem Table.ex {v:Tv} (h:aM jG v):∃x:Table,v=x.tv:=by
 obtain⟨vs,rfl,h⟩:=h.st
 obtain⟨v0,_,rfl,h0,h⟩:=h.step
 obtain rfl:=h.fin
 obtain⟨n0,rfl⟩:=L9 h0
 exact⟨⟨n0⟩,rfl⟩
theorem Table.of {x:Table} (h:aM jG x.tv) (hw:wt x.tv≤1048576):x.wf:=by
 simp only[Table.tv,gp,cT]at h
 simp only[Table.tv,wt,zM]at hw
 obtain⟨h0,_⟩:=h
 exact On h0 (by omega)
end Go.Eng.F
namespace Go.Eng.F
theorem u9 (n:Nat):List.replicate n [D.int .u8 0]=bytes (List.replicate n 0):=by simp[bytes]
theorem gl {b:Bytes} (h:hash b=true):b.length=32:=by simpa[hash]using h
theorem dN {n a b:Int} (h:dv n a b=true):a≤n∧n≤b:=by simpa[dv]using h
end Go.Eng.F
namespace Go.Eng.F
def ct (c:Nat):Nat:=if c % 2=1 then(c / 2) ^^^ 3988292384 else c / 2
def QQ:Nat→Nat→Nat
 |0,c=>c
 |n+1,c=>ct (QQ n c)
def QD (c:Nat) (b:Bytes):Nat:=b.foldl (fun c x=>QQ 8 (c ^^^ x.toNat)) c
def Ml (c:Nat) (b:Bytes):Nat:=QD (c ^^^ 4294967295) b ^^^ 4294967295
def QW (b:Bytes):Nat:=Ml 0 b
end Go.Eng.F
namespace Go.Eng.F
def Of:Bytes→Nat
 | []=>0
 |x::r=>x.toNat+256 * Of r
abbrev jA:Nat:=248
def jI:AF:=⟨3,6,[.tmp 6, .tmp 7, .tmp 8],(.seq (.ops [.i (.mov 6 (.c (.val false [.nils]))), .i (.mov 7 (qi 0)), .i (.mov 8 (qi 0))]) (.seq (.seq (.ops [qm 9 1,qm 10 0,qn 11 10, .i (.call 13 158 false [(.s 9),(qi 0),(.s 11)]), .i (.not 13 (.s 12)),qm 14 13, .g 14 false 16 (.mov 15 (.s 2)), .g 14 false 17 (.mov 16 (.s 0)), .g 14 false 18 (.len 17 false (.s 16)), .g 14 false 19 (.mov 18 (.s 1)), .g 14 false 20 (.bin 19 .sub (.s 17) (.s 18)), .g 14 false 21 (.call 21 158 false [(.s 15),(qi 0),(.s 19)]), .g 14 false 22 (.not 21 (.s 20)), .i (.pick 22 (.s 14) (qb true) (.s 21))]) (.cond (.s 22) (.seq (.ops [.i (.mov 6 (.c (.val false [.nils]))), .i (.mov 7 (qi 0)), .i (.mov 8 (qi 1))]) .ret) .skip)) (.seq (.ops [qm 23 0,qm 24 1,qm 25 1,qm 26 2,qd 27 .add 25 26, .i (.fD 28 1 (.s 23) (some (.s 24)) (some (.s 27))),qk 30 93 28,qm 30 1,qm 31 2,qd 32 .add 30 31,qm 6 29,qm 7 32, .i (.mov 8 (qi 0))]) .ret)))⟩
theorem tK:cd jA=some jI:=by kernel_rfl
theorem AJ (b:Bytes) (a n:Nat) (h:a+n≤b.length) (hb:b.length≤1073741824):VC cd jA (aB [(false,[.sl (bytes b)]),(false,[.int .i64 (a:Int)]),(false,[.int .i64 (n:Int)])]) (fun rs _=>rs= [(false,[.o true (some (5,1)) (bytes ((b.drop a).take n))]),(false,[.p (.int .i64 ((a+n:Nat):Int))]),(false,[.p (.int .i64 0)])]):=by
 have e1:dv (a:Int) 0 (b.length:Int)=true:=by simp[dv];omega
 have e2:dv (n:Int) 0 ((b.length:Int) - (a:Int))=true:=by simp[dv];omega
 have e3:((bytes b).drop a).take n=bytes ((b.drop a).take n):=by simp[bytes]
 have e4:((a:Int)+(n:Int) - (a:Int)).toNat=n:=by omega
 have e5:(a:Int)+(n:Int)≤(b.length:Int):=by omega
 have e6:(a:Int)≤(a:Int)+(n:Int):=by omega
 refine aa tK rfl ?_
 simp(disch:=omega) [jI,VY]
 refine ae (aF _ _ _) rfl rfl ?_
 simp(disch:=omega) [e1,VY]
 refine ae (aF _ _ _) rfl rfl ?_
 simp(disch:=omega) [e2,e3,e4,e5,e6,VY]
 refine ao (aI ((b.drop a).take n) (by simp;omega)) ?_
 simp(disch:=omega) [VY]
def Pg (s:Bytes) (a:Nat):Nat:=Of ((s.drop (a+2)).take 2)
def QU (s:Bytes) (a:Nat):Nat:=Of ((s.drop (a+4)).take 4)
def QV (s:Bytes) (a:Nat):Bytes:=(s.drop (a+8)).take (Pg s a)
def zS (l:ah) (s:Bytes) (a:Nat):Int×Int:=
 if l.ok=true∧a < s.length then
  if(s.getD a 0).toNat=181 then
   if a+1 < s.length∧¬(s.getD (a+1) 0).toNat=70 then(0,0)else
   if s.length - a < 4 then(1,0)else if ¬dv (Pg s a) 1 l.frame=true then(0,0)else if s.length - a < 8+Pg s a then(1,8+Pg s a)else if QU s a=QW (QV s a)then(3,8+Pg s a)else(2,8+Pg s a)
  else(0,0)
 else(0,0)
structure jO where
 skip:Int
 buf:Bytes
def jO.c (p:jO):List D:= [.int .i64 p.skip, .sl (bytes p.buf)]
end Go.Eng.F
namespace Go.Eng.F
end Go.Eng.F
namespace Go.Eng.F
open Go.Eng.U (Gr dE de zW)
def c4.tv (f:c4):Tv:= .r [f.l.tv,zb f.heads]
theorem c4.enc (f:c4):enc zW f.tv=f.c:=by simp only[c4.tv,zR,eO,bU,cO,ah.enc,c4.c,List.append_nil]
theorem c4.ex {v:Tv} (h:aM zW v):∃q:c4,v=q.tv:=by
 obtain⟨vs,rfl,h⟩:=h.st
 obtain⟨v0,_,rfl,h0,h⟩:=h.step
 obtain⟨v1,_,rfl,h1,h⟩:=h.step
 obtain rfl:=h.fin
 obtain⟨n0,rfl⟩:=ah.ex h0
 obtain⟨n1,rfl⟩:=zV h1
 exact⟨⟨n0,n1⟩,rfl⟩
theorem c4.of {f:c4} (h:aM zW f.tv) (hw:wt f.tv≤1048576):f.wc∧aM de f.l.tv∧f.heads.length≤1048576:=by
 simp only[c4.tv,gp,cT]at h
 simp only[c4.tv,wt,zM]at hw
 obtain⟨h0,h1,_⟩:=h
 have h5:=Ft h1 (by omega)
 have h6:f.heads.length≤wt (zb f.heads):=by unfold zb;rw[KE,List.length_map];omega
 exact⟨⟨h5.1,h5.2⟩,gp.2 (gp.1 h0),by omega⟩
theorem PX (b:Bool):OD (bl b) [(.bool, .b b)]:=⟨rfl,by simp only[fx,Fc,D.leaf,and_self],trivial,trivial⟩
end Go.Eng.F
namespace Go.Eng.F
structure ep where
 l:ah
 t:Table
 push:jO
 chain:List Head
def ep.c (x:ep):List D:= [.int .i64 x.l.n, .int .i64 x.l.tx, .int .i64 x.l.txs, .int .i64 x.l.frame, .int .i64 x.l.heads, .sl (rws x.t.rows), .int .i64 x.push.skip, .sl (bytes x.push.buf), .sl (el x.chain)]
def ep.wc (x:ep):Prop:=x.t.wf∧x.push.buf.length≤1073741824∧Sz x.chain.length∧∀h∈x.chain,h.wc
def ht (hs:List Head) (i:Nat):Int:=match hs[i]? with|some h=>h.height|none=>0
structure sC where
 l:ah
 t:Table
 x:ep
 own:List Head
def sC.c (d:sC):List D:= [.int .i64 d.l.n, .int .i64 d.l.tx, .int .i64 d.l.txs, .int .i64 d.l.frame, .int .i64 d.l.heads, .sl (rws d.t.rows), .int .i64 d.x.l.n, .int .i64 d.x.l.tx, .int .i64 d.x.l.txs, .int .i64 d.x.l.frame, .int .i64 d.x.l.heads, .sl (rws d.x.t.rows), .int .i64 d.x.push.skip, .sl (bytes d.x.push.buf), .sl (el d.x.chain), .sl (el d.own)]
def sC.wc (d:sC):Prop:=d.t.wf∧d.x.wc∧Sz d.own.length∧∀h∈d.own,h.wc
end Go.Eng.F
namespace Go.Eng.F
open Go.Eng.U (Gr dE de jG yB rP Jm)
def jO.wf (p:jO):Prop:=lq p.skip∧Sz p.buf.length
def jO.tv (x:jO):Tv:= .r [.i x.skip,Cz x.buf]
theorem jO.enc (x:jO):enc yB x.tv=x.c:=by simp only[jO.tv,eO,bU,cO,eD,fx,jx,gI,et,gk,jO.c,List.cons_append,List.nil_append,List.append_assoc]
theorem jO.ex {v:Tv} (h:aM yB v):∃x:jO,v=x.tv:=by
 obtain⟨vs,rfl,h⟩:=h.st
 obtain⟨v0,_,rfl,h0,h⟩:=h.step
 obtain⟨v1,_,rfl,h1,h⟩:=h.step
 obtain rfl:=h.fin
 obtain⟨n0,rfl,_⟩:=h0.int
 obtain⟨n1,rfl⟩:=gw h1
 exact⟨⟨n0,n1⟩,rfl⟩
theorem jO.of {x:jO} (h:aM yB x.tv) (hw:wt x.tv≤1048576):x.wf:=by
 simp only[jO.tv,gp,cT]at h
 simp only[jO.tv,wt,zM]at hw
 obtain⟨h0,h1,_⟩:=h
 exact⟨dT (ok_int.1 h0),uy (by omega)⟩
def ep.tv (x:ep):Tv:= .r [x.l.tv,x.t.tv,x.push.tv,zb x.chain]
theorem ep.enc (x:ep):enc rP x.tv=x.c:=by simp only[ep.tv,zR,eO,bU,cO,ah.enc,Table.enc,jO.enc,ep.c,ah.c,Table.c,jO.c,List.cons_append,List.nil_append,List.append_nil]
theorem ep.ex {v:Tv} (h:aM rP v):∃q:ep,v=q.tv:=by
 obtain⟨vs,rfl,h⟩:=h.st
 obtain⟨v0,_,rfl,h0,h⟩:=h.step
 obtain⟨v1,_,rfl,h1,h⟩:=h.step
 obtain⟨v2,_,rfl,h2,h⟩:=h.step
 obtain⟨v3,_,rfl,h3,h⟩:=h.step
 obtain rfl:=h.fin
 obtain⟨n0,rfl⟩:=ah.ex h0
 obtain⟨n1,rfl⟩:=Table.ex h1
 obtain⟨n2,rfl⟩:=jO.ex h2
 obtain⟨n3,rfl⟩:=zV h3
 exact⟨⟨n0,n1,n2,n3⟩,rfl⟩
theorem ep.of {x:ep} (h:aM rP x.tv) (hw:wt x.tv≤1048576):x.wc:=by
 simp only[ep.tv,gp,cT]at h
 simp only[ep.tv,wt,zM]at hw
 obtain⟨h0,h1,h2,h3,_⟩:=h
 have k1:=Table.of h1 (by omega)
 have k2:=jO.of h2 (by omega)
 have k3:=Ft h3 (by omega)
 exact⟨k1,k2.2,k3.1,k3.2⟩
def sC.tv (x:sC):Tv:= .r [x.l.tv,x.t.tv,x.x.tv,zb x.own]
theorem sC.enc (x:sC):enc Jm x.tv=x.c:=by simp only[sC.tv,zR,eO,bU,cO,ah.enc,Table.enc,ep.enc,sC.c,ep.c,ah.c,Table.c,List.cons_append,List.nil_append,List.append_nil]
theorem sC.ex {v:Tv} (h:aM Jm v):∃q:sC,v=q.tv:=by
 obtain⟨vs,rfl,h⟩:=h.st
 obtain⟨v0,_,rfl,h0,h⟩:=h.step
 obtain⟨v1,_,rfl,h1,h⟩:=h.step
 obtain⟨v2,_,rfl,h2,h⟩:=h.step
 obtain⟨v3,_,rfl,h3,h⟩:=h.step
 obtain rfl:=h.fin
 obtain⟨n0,rfl⟩:=ah.ex h0
 obtain⟨n1,rfl⟩:=Table.ex h1
 obtain⟨n2,rfl⟩:=ep.ex h2
 obtain⟨n3,rfl⟩:=zV h3
 exact⟨⟨n0,n1,n2,n3⟩,rfl⟩
theorem sC.of {x:sC} (h:aM Jm x.tv) (hw:wt x.tv≤1048576):x.wc:=by
 simp only[sC.tv,gp,cT]at h
 simp only[sC.tv,wt,zM]at hw
 obtain⟨h0,h1,h2,h3,_⟩:=h
 have k1:=Table.of h1 (by omega)
 have k2:=ep.of h2 (by omega)
 have k3:=Ft h3 (by omega)
 exact⟨k1,k2,k3.1,k3.2⟩
end Go.Eng.F
namespace Go.Eng.F
open Go.Eng.U (Gr dE de jG yB rP)
end Go.Eng.F
namespace Go.Eng.F
open Go.Eng.U (Gr dE de jG gz)
theorem dq {cd:Nat→Option AF} {pd:List (Nat×Nat)} {R:List RV} {Q:List (Bool×List E)→List E→Prop} {k:List VK} {f:UT} {st:St} {ds:List Nat} {b:AC} {σ:Type} (f0:UT) (hf:b6 f ds=f0) {f2:UT} {st2:St} (hw:c5 f0 st f2 st2) (f1:UT) (es0:List (Nat×En)) (h2:f2=f1) (he:NB st2.es=es0)
 (oa:σ→List (Nat×U)) (ue:σ→List (Nat×En)) (J:σ→Nat→Prop) (s0:σ) (g0:Nat) (hu:f1=bL f1 (oa s0)) (hs:lB st2 (EM es0 (ue s0))) (h0:J s0 g0)
 (round:∀s n g,J s g→∀P:UT→St→Prop,(∀(s':σ) (g':Nat) (f':UT) (st':St),g' < g→J s' g'→b6 f' ds=bL f1 (oa s')→lB st' (EM es0 (ue s'))→P f' st')→VX cd pd R Q (.c b:: .stop P::k) (bL f1 (oa s)) ⟨n,EM es0 (ue s)⟩):
 VX cd pd R Q (.c (.loop ds b)::k) f st:=
 lg f0 hf hw f1 es0 h2 he oa ue J s0 g0 hu hs h0 fun s n g h=>round s n g h _ fun s' g' f' st' a b c d=>⟨s',g',a,b,c,d⟩
theorem Kx {bits:Bytes} {n:Int} (h:dm bits n=true):bits.length≤2:=by
 simp only[dm,Bool.and_eq_true,decide_eq_true_eq]at h
 have h1:=cY h.1.1
 have h2:=h.1.2
 rw[tg]at h2
 omega
theorem P3 (n:Int):lq (IntKind.i64.wrap n):=by
 simp only[lq,IntKind.wrap,IntKind.bits,IntKind.signed]
 simp
 omega
end Go.Eng.F
namespace Go.Eng.F
structure aW where
 view:Int
 height:Int
 block:Bytes
 who:Int
 tag:Bytes
def aW.c (v:aW):List D:= [.int .i64 v.view, .int .i64 v.height, .sl (bytes v.block), .int .i64 v.who, .sl (bytes v.tag)]
def aW.wf (v:aW):Prop:=lq v.view∧lq v.height∧Sz v.block.length∧lq v.who∧Sz v.tag.length
def iH (a b:aW):Bool:=decide (a.view=b.view) && decide (a.height=b.height) && decide (a.block=b.block) && decide (a.who=b.who) && decide (a.tag=b.tag)
abbrev mM:Nat:=26
def mA:AF:=⟨2,6,[.tmp 4],(.seq (.ops [.i (.lbox 2 (.s 0)), .i (.lbox 3 (.s 1)), .i (.mov 4 (qb false))]) (.seq (.ops [qf 5 2 0,ql 6 2 5 1 false,qf 7 3 0,ql 8 3 7 1 false,qd 9 .eql 6 8,qm 10 9, .g 10 true 12 (.fad 11 (.s 2) 1), .g 10 true 13 (.ldl 12 2 (.s 11) 1 false), .g 10 true 14 (.fad 13 (.s 3) 1), .g 10 true 15 (.ldl 14 3 (.s 13) 1 false), .g 10 true 16 (.bin 15 .eql (.s 12) (.s 14)), .i (.pick 16 (.s 10) (.s 15) (qb false)),qm 17 16, .g 17 true 19 (.fad 18 (.s 2) 3), .g 17 true 20 (.ldl 19 2 (.s 18) 1 false), .g 17 true 21 (.fad 20 (.s 3) 3), .g 17 true 22 (.ldl 21 3 (.s 20) 1 false), .g 17 true 23 (.bin 22 .eql (.s 19) (.s 21)), .i (.pick 23 (.s 17) (.s 22) (qb false)),qm 24 23, .g 24 true 26 (.fad 25 (.s 2) 2), .g 24 true 27 (.ldl 26 2 (.s 25) 1 false), .g 24 true 28 (.fad 27 (.s 3) 2), .g 24 true 29 (.ldl 28 3 (.s 27) 1 false), .g 24 true 30 (.call 30 21 false [(.s 26),(.s 28)]), .i (.pick 30 (.s 24) (.s 29) (qb false)),qm 31 30, .g 31 true 33 (.fad 32 (.s 2) 4), .g 31 true 34 (.ldl 33 2 (.s 32) 1 false), .g 31 true 35 (.fad 34 (.s 3) 4), .g 31 true 36 (.ldl 35 3 (.s 34) 1 false), .g 31 true 37 (.call 37 21 false [(.s 33),(.s 35)]), .i (.pick 37 (.s 31) (.s 36) (qb false)),qm 4 37]) .ret))⟩
theorem zo:cd mM=some mA:=by kernel_rfl
theorem k9 (a b:aW):VC cd mM (aB [(true,a.c),(true,b.c)]) (fun rs _=>rs=bl (iH a b)):=by
 refine aa zo rfl ?_
 simp(disch:=omega) [mA,aW.c,VY]
 refine ab (fun h1=> ?_) (fun h1=> ?_) <;>simp(disch:=omega) [h1,iH,VY]
 refine ab (fun h2=> ?_) (fun h2=> ?_) <;>simp(disch:=omega) [h1,h2,VY]
 refine ab (fun h3=> ?_) (fun h3=> ?_) <;>simp(disch:=omega) [h1,h2,h3,VY]
 refine ao (aD a.block b.block) ?_
 simp(disch:=omega) [h1,h2,h3,VY]
 refine ab (fun h4=> ?_) (fun h4=> ?_) <;>simp(disch:=omega) [h1,h2,h3,h4,VY]
 refine ao (aD a.tag b.tag) ?_
 simp(disch:=omega) [h1,h2,h3,h4,VY]
abbrev mL:Nat:=298
def mJ:AF:=⟨2,6,[.tmp 4],(.seq (.ops [.i (.lbox 2 (.s 0)), .i (.lbox 3 (.s 1)), .i (.mov 4 (qb false))]) (.seq (.ops [qf 5 2 0,ql 6 2 5 1 false,qf 7 3 0,ql 8 3 7 1 false,qd 9 .eql 6 8,qm 10 9, .g 10 true 12 (.fad 11 (.s 2) 1), .g 10 true 13 (.ldl 12 2 (.s 11) 1 false), .g 10 true 14 (.fad 13 (.s 3) 1), .g 10 true 15 (.ldl 14 3 (.s 13) 1 false), .g 10 true 16 (.bin 15 .eql (.s 12) (.s 14)), .i (.pick 16 (.s 10) (.s 15) (qb false)),qm 17 16, .g 17 true 19 (.fad 18 (.s 2) 2), .g 17 true 20 (.ldl 19 2 (.s 18) 1 false), .g 17 true 21 (.fad 20 (.s 3) 2), .g 17 true 22 (.ldl 21 3 (.s 20) 1 false), .g 17 true 23 (.call 23 329 false [(.s 19),(.s 21)]), .i (.pick 23 (.s 17) (.s 22) (qb false)),qm 24 23, .g 24 true 26 (.fad 25 (.s 2) 3), .g 24 true 27 (.ldl 26 2 (.s 25) 1 false), .g 24 true 28 (.fad 27 (.s 3) 3), .g 24 true 29 (.ldl 28 3 (.s 27) 1 false), .g 24 true 30 (.bin 29 .eql (.s 26) (.s 28)), .i (.pick 30 (.s 24) (.s 29) (qb false)),qm 31 30, .g 31 true 33 (.fad 32 (.s 2) 4), .g 31 true 34 (.ldl 33 2 (.s 32) 1 false), .g 31 true 35 (.fad 34 (.s 3) 4), .g 31 true 36 (.ldl 35 3 (.s 34) 1 false), .g 31 true 37 (.call 37 329 false [(.s 33),(.s 35)]), .i (.pick 37 (.s 31) (.s 36) (qb false)),qm 4 37]) .ret))⟩
theorem zI:cd mL=some mJ:=by kernel_rfl
theorem xi (a b:aW):VC cd mL (aB [(true,a.c),(true,b.c)]) (fun rs _=>rs=bl (iH a b)):=by
 refine aa zI rfl ?_
 simp(disch:=omega) [mJ,aW.c,VY]
 refine ab (fun h1=> ?_) (fun h1=> ?_) <;>simp(disch:=omega) [h1,iH,VY]
 refine ab (fun h2=> ?_) (fun h2=> ?_) <;>simp(disch:=omega) [h1,h2,VY]
 refine ao (aU a.block b.block) ?_
 simp(disch:=omega) [h1,h2,VY]
 refine ab (fun h3=> ?_) (fun h3=> ?_) <;>simp(disch:=omega) [h1,h2,h3,VY]
 refine ab (fun h4=> ?_) (fun h4=> ?_) <;>simp(disch:=omega) [h1,h2,h3,h4,VY]
 refine ao (aU a.tag b.tag) ?_
 simp(disch:=omega) [h1,h2,h3,h4,VY]
end Go.Eng.F
namespace Go.Eng.F
def cur (b:Bytes) (i:Nat) (h:Int):List E0:= [.p (.sl (bytes b)), .p (.int .i64 (i:Int)), .p (.int .i64 h)]
theorem Eu (k v ty:Nat) (xs:List E0) (r:List E):aE k v (.pt ty xs::r)=(.pt k v 0::(aE (k+(1+xs.length)) (v+(1+xs.length)) r).1,(k, .pt v ty (aL (k+1) (v+1) xs).1)::((aL (k+1) (v+1) xs).2++(aE (k+(1+xs.length)) (v+(1+xs.length)) r).2)):=rfl
def KR (x:Int):Nat:=(BitVec.ofInt 64 x &&& BitVec.ofInt 64 255).toNat
theorem Fe (x:Int):KR x < 256:=by
 have:KR x≤255:=by
  unfold KR
  rw[BitVec.toNat_and]
  exact Nat.and_le_right
 omega
theorem LG (x:Int):aG .and .i64 x 255=((KR x:Nat):Int):=by
 have h:=Fe x
 show IntKind.i64.wrap ((KR x:Nat):Int)=_
 exact Hq (by omega) (by omega)
abbrev tn:Nat:=88
def tA:AF:=⟨1,6,[.tmp 2],(.seq (.ops [.i (.mov 2 (.c (.val false [.nilp])))]) (.seq (.ops [qm 5 0,qn 6 5, .i (.bin 7 .add (qi 1611) (.s 6)),qm 3 7]) (.seq (.seq (.ops [.i (.mov 4 (qi 0))]) (.block 0 (.loop [27,26,25,24,23,22,21,20,19,18,17,16,15,14,13,12,11,10,9,8] (.seq (.seq (.ops [qm 8 4,qm 9 0,qn 10 9,qd 11 .lss 8 10,qm 12 11, .g 12 true 14 (.mov 13 (.s 4)), .g 12 true 15 (.bin 14 .lss (.s 13) (qi 4000)), .i (.pick 15 (.s 12) (.s 14) (qb false))]) (.cond (.s 15) .skip (.exit 0))) (.seq (.block 1 (.ops [qm 18 3, .i (.bin 19 .mul (.s 18) (qi 37)),qm 20 0,qm 21 4, .i (.iad 22 (.s 20) (.s 21) 1), .i (.ldh 23 (.s 22) 1 false), .i (.cvi 24 .i64 (.s 23)),qd 25 .add 19 24, .i (.bin 26 .add (.s 25) (qi 7)), .i (.bin 27 .and (.s 26) (qi 1073741823)),qm 3 27])) (.ops [qm 16 4, .i (.bin 17 .add (.s 16) (qi 1)),qm 4 17])))))) (.seq (.ops [qm 28 0,qm 29 3, .i (.bld 30 [.nils, .int .i64 0, .int .i64 0] [(0,1,(.s 28)),(2,1,(.s 29))]), .i (.hbox 31 133 (.s 30)),qm 2 31]) .ret))))⟩
theorem Dc:cd tn=some tA:=by kernel_rfl
theorem xG (b:Bytes) (hb:b.length≤1073741824):VC cd tn (aB [(false,[.sl (bytes b)])]) (fun r _=>∃h:Int,True∧r= [(false,[.pt 133 (cur b 0 h)])]):=by
 refine aa Dc rfl ?_
 simp(disch:=omega) [tA,VY]
 refine cQ (σ:=Nat×Int) (f1:=_) (es0:=_) (by simp(disch:=omega) [VY];rfl) (by simp(disch:=omega) [VY];rfl) (fun p=> [(4, .val false [.int .i64 (p.1:Int)]),(3, .val false [.int .i64 p.2])]) (fun _=> []) (fun p g=>g+p.1=b.length) (0,_) b.length (by simp(disch:=omega) [VY];rfl) (by simp(disch:=omega) [VY]) (by omega) ?_
 rintro⟨i,h⟩ n g hg P hP
 simp only at hg
 simp(disch:=omega) [VY]
 refine ab (fun h1=> ?_) (fun h1=> ?_)
 ·have hi:i < b.length:=by omega
  simp(disch:=omega) [h1,VY]
  refine ab (fun h2=> ?_) (fun h2=> ?_)
  ·simp(disch:=omega) [d6 hi,VY]
   exact hP (i+1,_) (g - 1) _ _ (by omega) (by simp only;omega) (by simp(disch:=omega) [VY];rfl) (by simp(disch:=omega) [VY])
  ·simp(disch:=omega) [cur,VY]
 ·simp(disch:=omega) [h1,cur,VY]
abbrev rN:Nat:=162
def oV:AF:=⟨1,6,[.tmp 2],(.seq (.ops [.i (.mov 2 (qi 0))]) (.seq (.ops [qm 4 0,qm 5 0, .i (.nch 6 (.s 5)),qf 7 6 2, .i (.ldh 8 (.s 7) 1 false), .i (.bin 9 .mul (.s 8) (qi 6364136223846793005)), .i (.bin 10 .add (.s 9) (qi 1442695040888963407)), .i (.nch 11 (.s 4)),qf 12 11 2, .i (.sth (.s 12) (.s 10) 1)]) (.seq (.ops [qm 13 0, .i (.nch 14 (.s 13)),qf 15 14 2, .i (.ldh 16 (.s 15) 1 false), .i (.bin 17 .shr (.s 16) (.c (.val false [.int .u64 33]))),qm 18 0, .i (.nch 19 (.s 18)),qf 20 19 2, .i (.ldh 21 (.s 20) 1 false), .i (.bin 22 .shr (.s 21) (.c (.val false [.int .u64 45]))),qd 23 .xor 17 22, .i (.bin 24 .and (.s 23) (qi 255)),qm 3 24]) (.seq (.seq (.ops [qm 25 0, .i (.nch 26 (.s 25)),qf 27 26 1, .i (.ldh 28 (.s 27) 1 false),qm 29 0, .i (.nch 30 (.s 29)),qf 31 30 0, .i (.ldh 32 (.s 31) 1 false),qn 33 32,qd 34 .lss 28 33]) (.cond (.s 34) (.seq (.ops [qm 35 3,qm 36 0, .i (.nch 37 (.s 36)),qf 38 37 0, .i (.ldh 39 (.s 38) 1 false),qm 40 0, .i (.nch 41 (.s 40)),qf 42 41 1, .i (.ldh 43 (.s 42) 1 false), .i (.iad 44 (.s 39) (.s 43) 1), .i (.ldh 45 (.s 44) 1 false), .i (.cvi 46 .i64 (.s 45)),qd 47 .add 35 46, .i (.bin 48 .and (.s 47) (qi 255)),qm 3 48]) (.ops [qm 49 0,qm 50 0, .i (.nch 51 (.s 50)),qf 52 51 1, .i (.ldh 53 (.s 52) 1 false), .i (.bin 54 .add (.s 53) (qi 1)), .i (.nch 55 (.s 49)),qf 56 55 1, .i (.sth (.s 56) (.s 54) 1)])) .skip)) (.seq (.ops [qm 57 3,qm 2 57]) .ret)))))⟩
theorem Cf:cd rN=some oV:=by kernel_rfl
theorem eJ (b:Bytes) (i:Nat) (h:Int) (hi:i≤b.length) (hb:b.length≤1073741824):VC cd rN (iO [] 133 (cur b i h) []) (fun r p=>∃x:Nat×Nat×Int,(x.1 < 256∧x.2.1≤b.length)∧r=it x.1∧p= [.pt 133 (cur b x.2.1 x.2.2)]):=by
 refine aw Cf rfl ?_
 simp(disch:=omega) [oV,cur,LG,VZ]
 refine ab (fun h1=> ?_) (fun h1=> ?_)
 ·simp(disch:=omega) [d6 h1,LG,VZ]
  refine⟨_,i+1,⟨Fe _,by omega⟩,rfl,by simp⟩
 ·simp(disch:=omega) [VZ]
  refine⟨_,i,⟨Fe _,hi⟩,rfl,rfl⟩
theorem tm {N:Int} (h:0≤N) {n:Nat} (hn:n≠0):∃y:Nat,y < n∧N.tmod (n:Int)=(y:Int):=by
 obtain⟨m,rfl⟩:=Int.eq_ofNat_of_zero_le h
 exact⟨m % n,Nat.mod_lt _ (by omega),rfl⟩
abbrev nW:Nat:=97
def n8:AF:=⟨2,6,[.tmp 4],(.seq (.ops [.i (.mov 4 (qi 0))]) (.seq (.seq (.ops [qm 9 1, .i (.bin 10 .leq (.s 9) (qi 0))]) (.cond (.s 10) (.seq (.ops [.i (.mov 4 (qi 0))]) .ret) .skip)) (.seq (.seq (.ops [qm 11 1, .i (.bin 12 .leq (.s 11) (qi 256))]) (.cond (.s 12) (.seq (.ops [qm 13 0,qk 15 162 13,qm 15 1,qd 16 .rem 14 15,qm 4 16]) .ret) .skip)) (.seq (.ops [qm 17 0,qk 19 162 17,qm 5 18]) (.seq (.ops [qm 19 0,qk 21 162 19,qm 6 20]) (.seq (.ops [qm 21 0,qk 23 162 21,qm 7 22]) (.seq (.ops [qm 23 0,qk 25 162 23,qm 8 24]) (.seq (.ops [qm 25 5, .i (.bin 26 .mul (.s 25) (qi 16777216)),qm 27 6, .i (.bin 28 .mul (.s 27) (qi 65536)),qd 29 .add 26 28,qm 30 7, .i (.bin 31 .mul (.s 30) (qi 256)),qd 32 .add 29 31,qm 33 8,qd 34 .add 32 33,qm 35 1,qd 36 .rem 34 35,qm 4 36]) .ret))))))))⟩
theorem yT:cd nW=some n8:=by kernel_rfl
theorem aC (b:Bytes) (i:Nat) (h:Int) (n:Nat) (hn:n≤4294967296) (hi:i≤b.length) (hb:b.length≤1073741824):VC cd nW (iO [] 133 (cur b i h) [(false,[.int .i64 (n:Int)])]) (fun r p=>∃x:Nat×Nat×Int,((x.1 < n∨x.1=0)∧x.2.1≤b.length)∧r=it x.1∧p= [.pt 133 (cur b x.2.1 x.2.2)]):=by
 refine aw yT rfl ?_
 simp(disch:=omega) [n8,cur,VZ]
 refine ab (fun h1=> ?_) (fun h1=> ?_)
 ·have h2:n=0:=by omega
  subst h2
  simp(disch:=omega) [VZ]
  exact⟨0,i,⟨rfl,hi⟩,rfl,rfl⟩
 simp(disch:=omega) [VZ]
 refine ab (fun h2=> ?_) (fun h2=> ?_)
 ·simp(disch:=omega) [VZ]
  refine dz (eJ b i h hi hb) ?_
  rintro⟨x,i',h'⟩ ⟨h3,h4⟩
  simp only at h3 h4
  obtain⟨y,hy,e⟩:=tm (N:=(x:Int)) (by omega) h1
  simp(disch:=omega) [cur,e,h1,VZ]
  exact⟨y,i',⟨.inl hy,h4⟩,rfl,rfl⟩
 ·simp(disch:=omega) [VZ]
  refine dz (eJ b i h hi hb) ?_
  rintro⟨x,i1,h1'⟩ ⟨h3,h4⟩
  simp(disch:=omega) [cur,VZ]
  simp only at h3 h4
  refine dz (eJ b i1 h1' h4 hb) ?_
  rintro⟨y,i2,h2'⟩ ⟨h5,h6⟩
  simp(disch:=omega) [cur,VZ]
  simp only at h5 h6
  refine dz (eJ b i2 h2' h6 hb) ?_
  rintro⟨z,i3,h3'⟩ ⟨h7,h8⟩
  simp(disch:=omega) [cur,VZ]
  simp only at h7 h8
  refine dz (eJ b i3 h3' h8 hb) ?_
  rintro⟨w,i4,h4'⟩ ⟨h9,h10⟩
  simp only at h9 h10
  obtain⟨q,hq,e⟩:=tm (N:=(x:Int) * 16777216+y * 65536+z * 256+w) (by omega) h1
  simp(disch:=omega) [cur,e,h1,VZ]
  exact⟨q,i4,⟨.inl hq,h10⟩,rfl,rfl⟩
abbrev oT:Nat:=135
def rn:AF:=⟨2,4,[.tmp 4],(.seq (.ops [.i (.mov 4 (qb false))]) (.seq (.ops [qm 5 0,qm 6 1, .i (.call 8 97 false [(.s 5),(.s 6)]), .i (.bin 8 .eql (.s 7) (qi 0)),qm 4 8]) .ret))⟩
theorem Ac:cd oT=some rn:=by kernel_rfl
theorem BX (b:Bytes) (i:Nat) (h:Int) (n:Nat) (hn:n≤4294967296) (hi:i≤b.length) (hb:b.length≤1073741824):VC cd oT (iO [] 133 (cur b i h) [(false,[.int .i64 (n:Int)])]) (fun r p=>∃x:Bool×Nat×Int,x.2.1≤b.length∧r=bl x.1∧p= [.pt 133 (cur b x.2.1 x.2.2)]):=by
 refine aw Ac rfl ?_
 simp(disch:=omega) [rn,cur,VZ]
 refine dz (aC b i h n hn hi hb) ?_
 rintro⟨x,i',h'⟩ ⟨h3,h4⟩
 simp only at h3 h4
 simp(disch:=omega) [cur,VZ]
 by_cases hx:x=0
 ·exact .inr ⟨i',h4,hx,rfl⟩
 ·exact .inl ⟨i',h4,hx,rfl⟩
abbrev rU:Nat:=155
def ri:AF:=⟨2,4,[.tmp 4],(.seq (.ops [.i (.mov 4 (qi 0))]) (.seq (.ops [qm 5 1,qm 6 0,qm 7 1,qn 8 7, .i (.call 10 97 false [(.s 6),(.s 8)]), .i (.iad 10 (.s 5) (.s 9) 1), .i (.ldh 11 (.s 10) 1 false),qm 4 11]) .ret))⟩
theorem BJ:cd rU=some ri:=by kernel_rfl
theorem iB (b:Bytes) (i:Nat) (h:Int) (l:List Int) (hl:l≠ []) (hl2:l.length≤4294967296) (hi:i≤b.length) (hb:b.length≤1073741824):VC cd rU (iO [] 133 (cur b i h) [(false,[.sl (ints l)])]) (fun r p=>∃x:Int×Nat×Int,(x.1∈l∧x.2.1≤b.length)∧r=it x.1∧p= [.pt 133 (cur b x.2.1 x.2.2)]):=by
 have hp:0 < l.length:=List.length_pos_iff.2 hl
 refine aw BJ rfl ?_
 simp(disch:=omega) [ri,cur,bG,VZ]
 refine dz (aC b i h l.length hl2 hi hb) ?_
 rintro⟨x,i',h'⟩ ⟨h3,h4⟩
 simp only at h3 h4
 have hx:x < l.length:=by omega
 simp(disch:=omega) [cur,AD hx,VZ]
 exact⟨gi l x,i',⟨uN hx,h4⟩,rfl,rfl⟩
theorem MP (x:Bytes) (y:Int):bytes x++ [[.int .u8 (IntKind.u8.wrap y)]]=bytes (x++ [b8 y]):=by
 rw[←c8,←HD]
 rfl
abbrev nk:Nat:=138
def na:AF:=⟨2,5,[.tmp 4],(.seq (.ops [.i (.mov 4 (.c (.val false [.nils])))]) (.seq (.ops [.i (.bse 7),qm 5 7]) (.seq (.seq (.ops [qm 8 0,qm 9 1, .i (.bin 10 .add (.s 9) (qi 1)), .i (.call 12 97 false [(.s 8),(.s 10)]),qm 6 11]) (.block 0 (.loop [21,20,19,18,17,16,15,14,13,12] (.seq (.seq (.ops [qm 12 6, .i (.bin 13 .gtr (.s 12) (qi 0))]) (.cond (.s 13) .skip (.exit 0))) (.seq (.block 1 (.ops [qm 16 5,qm 17 0,qk 19 162 17, .i (.cvi 19 .u8 (.s 18)), .i (.lsl 20 1 1 [.int .u8 0] [(0,1,(.s 19))]), .i (.app 21 5 1 1 (.s 16) (.s 20)),qm 5 21])) (.ops [qm 14 6, .i (.bin 15 .sub (.s 14) (qi 1)),qm 6 15])))))) (.seq (.ops [qm 22 5,qm 4 22]) .ret))))⟩
theorem yU:cd nk=some na:=by kernel_rfl
theorem iW (b:Bytes) (i:Nat) (h:Int) (m:Nat) (hm:m≤1000000) (hi:i≤b.length) (hb:b.length≤1073741824):VC cd nk (iO [] 133 (cur b i h) [(false,[.int .i64 (m:Int)])]) (fun r p=>∃x:Bytes×Nat×Int,(x.1.length≤m∧x.2.1≤b.length)∧r= [(false,[.o true (some (5,1)) (bytes x.1)])]∧p= [.pt 133 (cur b x.2.1 x.2.2)]):=by
 refine aw yU rfl ?_
 simp(disch:=omega) [na,cur,VZ]
 refine dz (aC b i h (m+1) (by omega) hi hb) ?_
 rintro⟨k,i',h'⟩ ⟨h3,h4⟩
 simp only at h3 h4
 have hk:k≤m:=by omega
 simp(disch:=omega) [cur,VZ]
 refine cQ (σ:=Nat×Nat×Nat×Int×Bytes) (f1:=_) (es0:=_) (by simp(disch:=omega) [VZ];rfl) (by simp(disch:=omega) [VZ];rfl) (fun p=> [(6, .val false [.int .i64 (p.1:Int)]),(5, .val false [.ow 7 p.2.1])]) (fun p=> [(4096, .pt 0 133 [.sl (bytes b), .int .i64 (p.2.2.1:Int), .int .i64 p.2.2.2.1]),(7, .sl p.2.1 true true (some (5,1)) (bytes p.2.2.2.2))])
  (fun p g=>g=p.1∧p.2.2.1≤b.length∧p.2.2.2.2.length+p.1≤m) (k,_,i',h',[]) k (by simp(disch:=omega) [VZ];rfl) (by simp(disch:=omega) [bytes,VZ]) ⟨rfl,h4,by simpa using hk⟩ ?_
 rintro⟨n,v,i2,h2,x⟩ nx g ⟨hg,h5,h6⟩ P hP
 simp only at hg h5 h6
 simp(disch:=omega) [VZ]
 refine ab (fun h7=> ?_) (fun h7=> ?_)
 ·simp(disch:=omega) [VZ]
  refine dz (eJ b i2 h2 h5 hb) ?_
  rintro⟨y,i3,h3'⟩ ⟨h8,h9⟩
  simp only at h8 h9
  have e1:IntKind.i64.wrap ((n:Int) - 1)=((n - 1:Nat):Int):=by rw[Hq (by omega) (by omega)];omega
  simp(disch:=omega) [cur,MP,e1,VZ]
  exact hP (n - 1,_,i3,h3',x++ [b8 y]) (g - 1) _ _ (by omega) ⟨by omega,h9,by simp;omega⟩ (by simp(disch:=omega) [VZ];rfl) (by simp(disch:=omega) [VZ])
 ·simp(disch:=omega) [cur,VZ]
  exact⟨x,i2,⟨by omega,h5⟩,rfl,rfl⟩
theorem uJ (x:Bytes) (j:Nat) (y:Int):(bytes x).set j [.int .u8 (IntKind.u8.wrap y)]=bytes (x.set j (b8 y)):=by
 rw[←HD]
 simp[bytes,List.map_set]
def Qe:Bytes:=List.replicate 32 0
theorem Od:List.replicate 32 [D.int .u8 0]=bytes Qe:=u9 32
abbrev rh:Nat:=242
def rv:AF:=⟨1,5,[.tmp 2],(.seq (.ops [.i (.mov 2 (.c (.val false [.nils])))]) (.seq (.ops [.i (.mks 4 5 1 1 [.int .u8 0] (qi 32)),qm 3 4]) (.seq (.ops [qm 5 3,qm 6 0, .i (.call 8 97 false [(.s 6),(qi 3)]), .i (.cvi 8 .u8 (.s 7)), .i (.iad 9 (.s 5) (qi 0) 1), .i (.sth (.s 9) (.s 8) 1)]) (.seq (.ops [qm 10 3,qm 11 0,qk 13 162 11, .i (.cvi 13 .u8 (.s 12)), .i (.iad 14 (.s 10) (qi 31) 1), .i (.sth (.s 14) (.s 13) 1)]) (.seq (.ops [qm 15 3,qm 2 15]) .ret)))))⟩
theorem AW:cd rh=some rv:=by kernel_rfl
theorem cR (b:Bytes) (i:Nat) (h:Int) (hi:i≤b.length) (hb:b.length≤1073741824):VC cd rh (iO [] 133 (cur b i h) []) (fun r p=>∃x:Bytes×Nat×Int,(x.1.length=32∧x.2.1≤b.length)∧r= [(false,[.o true (some (5,1)) (bytes x.1)])]∧p= [.pt 133 (cur b x.2.1 x.2.2)]):=by
 have hz:Qe.length=32:=rfl
 refine aw AW rfl ?_
 simp(disch:=omega) [rv,cur,Od,VZ]
 refine dz (aC b i h 3 (by omega) hi hb) ?_
 rintro⟨k,i',h'⟩ ⟨h3,h4⟩
 simp only at h3 h4
 simp(disch:=omega) [cur,d6,uJ,VZ]
 have hz1:(Qe.set 0 (b8 (k:Int))).length=32:=by simp[hz]
 generalize Qe.set 0 (b8 (k:Int))=z1 at hz1⊢
 refine dz (eJ b i' h' h4 hb) ?_
 rintro⟨y,i2,h2⟩ ⟨h5,h6⟩
 simp only at h5 h6
 simp(disch:=omega) [cur,d6,uJ,VZ]
 exact⟨z1.set 31 (b8 y),i2,⟨by simp[hz1],h6⟩,rfl,rfl⟩
def ah.e (l:ah):List E:= [.p (.int .i64 l.n), .p (.int .i64 l.tx), .p (.int .i64 l.txs), .p (.int .i64 l.frame), .p (.int .i64 l.heads)]
theorem KG {l:ah} (h1:1≤l.n∧l.n≤10) (h2:0≤l.tx∧l.tx≤40) (h3:0≤l.txs∧l.txs≤8) (h4:1≤l.frame∧l.frame≤4000) (h5:3≤l.heads∧l.heads≤5):l.ok=true:=by
 simp[ah.ok,dv,h1,h2,h3,h4,h5]
abbrev qQ:Nat:=89
def rJ:AF:=⟨1,5,[.cell 2 5 true],(.seq (.ops [.i (.lal 2 [.int .i64 0, .int .i64 0, .int .i64 0, .int .i64 0, .int .i64 0])]) (.seq (.ops [qm 3 0, .i (.bsl 4 3 1 7 [.int .i64 0] [(0,1,(qi 1)),(1,1,(qi 3)),(2,1,(qi 4)),(3,1,(qi 4)),(4,1,(qi 7)),(5,1,(qi 9)),(6,1,(qi 10))]), .i (.call 6 155 false [(.s 3),(.s 4)]),qm 6 0, .i (.bsl 7 3 1 4 [.int .i64 0] [(0,1,(qi 0)),(1,1,(qi 4)),(2,1,(qi 8)),(3,1,(qi 40))]), .i (.call 9 155 false [(.s 6),(.s 7)]),qm 9 0, .i (.bsl 10 3 1 3 [.int .i64 0] [(0,1,(qi 0)),(1,1,(qi 3)),(2,1,(qi 8))]), .i (.call 12 155 false [(.s 9),(.s 10)]),qm 12 0, .i (.bsl 13 3 1 4 [.int .i64 0] [(0,1,(qi 4000)),(1,1,(qi 4000)),(2,1,(qi 300)),(3,1,(qi 60))]), .i (.call 15 155 false [(.s 12),(.s 13)]),qm 15 0, .i (.call 17 97 false [(.s 15),(qi 3)]), .i (.bin 17 .add (qi 3) (.s 16)), .i (.bld 18 [.int .i64 0, .int .i64 0, .int .i64 0, .int .i64 0, .int .i64 0] [(0,1,(.s 5)),(1,1,(.s 8)),(2,1,(.s 11)),(3,1,(.s 14)),(4,1,(.s 17))]),qs 2 2 18 5]) .ret))⟩
theorem An:cd qQ=some rJ:=by kernel_rfl
theorem It (b:Bytes) (i:Nat) (h:Int) (hi:i≤b.length) (hb:b.length≤1073741824):VC cd qQ (iO [] 133 (cur b i h) []) (fun r p=>∃x:ah×Nat×Int,(x.1.ok=true∧x.2.1≤b.length)∧r= [(true,x.1.e)]∧p= [.pt 133 (cur b x.2.1 x.2.2)]):=by
 refine aw An rfl ?_
 simp(disch:=omega) [rJ,cur,VZ]
 refine dz (iB b i h [1,3,4,4,7,9,10] (by simp) (by simp) hi hb) ?_
 rintro⟨k1,i1,h1⟩ ⟨g1,j1⟩
 simp only at g1 j1
 simp(disch:=omega) [cur,VZ]
 refine dz (iB b i1 h1 [0,4,8,40] (by simp) (by simp) j1 hb) ?_
 rintro⟨k2,i2,h2⟩ ⟨g2,j2⟩
 simp only at g2 j2
 simp(disch:=omega) [cur,VZ]
 refine dz (iB b i2 h2 [0,3,8] (by simp) (by simp) j2 hb) ?_
 rintro⟨k3,i3,h3⟩ ⟨g3,j3⟩
 simp only at g3 j3
 simp(disch:=omega) [cur,VZ]
 refine dz (iB b i3 h3 [4000,4000,300,60] (by simp) (by simp) j3 hb) ?_
 rintro⟨k4,i4,h4⟩ ⟨g4,j4⟩
 simp only at g4 j4
 simp(disch:=omega) [cur,VZ]
 refine dz (aC b i4 h4 3 (by omega) j4 hb) ?_
 rintro⟨k5,i5,h5⟩ ⟨g5,j5⟩
 simp only at g5 j5
 simp(disch:=omega) [cur,VZ]
 simp only[List.mem_cons,List.not_mem_nil,or_false]at g1 g2 g3 g4
 exact⟨⟨k1,k2,k3,k4,3+k5⟩,i5,⟨KG (by simp only;omega) (by simp only;omega) (by simp only;omega) (by simp only;omega) (by simp only;omega),j5⟩,rfl,rfl⟩
end Go.Eng.F
namespace Go.Eng.F
theorem lN (l:List Bytes) (x:Bytes):bm l++ [[.sl (bytes x)]]=bm (l++ [x]):=by simp[bm]
abbrev i0:Nat:=14
def jw:AF:=⟨1,5,[.cell 2 5 true],(.seq (.ops [.i (.lal 2 [.int .i64 0, .int .i64 0, .int .i64 0, .int .i64 0, .int .i64 0])]) (.seq (.ops [qm 5 0,qk 7 88 5,qm 3 6]) (.seq (.ops [qm 7 3,qm 8 3, .i (.nch 9 (.s 8)),qf 10 9 2, .i (.ldh 11 (.s 10) 1 false), .i (.bin 12 .add (.s 11) (qi 5)), .i (.nch 13 (.s 7)),qf 14 13 2, .i (.sth (.s 14) (.s 12) 1)]) (.seq (.ops [qm 15 3,qk 17 89 15, .i (.lal 4 [.int .i64 0, .int .i64 0, .int .i64 0, .int .i64 0, .int .i64 0]),qs 4 4 16 5]) (.seq (.ops [qf 17 4 3, .i (.stl 4 (.s 17) (qi 4000) 1)]) (.seq (.ops [ql 18 4 4 5 true,qs 2 2 18 5]) .ret))))))⟩
theorem wK:cd i0=some jw:=by kernel_rfl
theorem CX (b:Bytes) (hb:b.length≤1073741824):VC cd i0 (aB [(false,[.sl (bytes b)])]) (fun r _=>∃x:ah,(x.ok=true∧x.frame=4000)∧r= [(true,x.e)]):=by
 refine aa wK rfl ?_
 simp(disch:=omega) [jw,VY]
 refine QC (xG b hb) ?_
 intro h _
 simp(disch:=omega) [cur,Eu,VZ]
 refine dz (It b 0 _ (Nat.zero_le _) hb) ?_ (n1:=by intro _;simp(disch:=omega) [ah.e,VZ]) (n3:=by intro _;simp(disch:=omega) [ah.e,VZ])
 rintro⟨l,i1,h1⟩ ⟨g1,j1⟩
 simp only at g1 j1
 simp(disch:=omega) [cur,ah.e,VZ]
 simp only[ah.ok,dv,Bool.and_eq_true,decide_eq_true_eq]at g1
 exact⟨⟨l.n,l.tx,l.txs,4000,l.heads⟩,⟨KG g1.1.1.1.1 g1.1.1.1.2 g1.1.1.2 (by simp only;omega) g1.2,rfl⟩,rfl,rfl,rfl,rfl,rfl⟩
end Go.Eng.F
namespace Go.Eng.F
open Go.Eng.U (Gr dE de gz FV qv)
def Ch (l:ah) (t:List Bytes):Bool:=t.all fun x=>decide ((x.length:Int)≤l.tx)
theorem Gy {l:ah} {t:List Bytes} (h:∀x∈t.take t.length,(x.length:Int)≤l.tx):Ch l t=true:=by
 rw[List.take_length]at h
 simpa[Ch]using h
theorem Ha {l:ah} {t:List Bytes} {i:Nat} (hi:i < t.length) (h:l.tx < (t[i].length:Int)):Ch l t=false:=by
 simp only[Ch,List.all_eq_false]
 exact⟨t[i],List.getElem_mem hi,by simp;omega⟩
def ba (l:ah) (x:Block):Bool:=bg l x.head && decide ((x.txs.length:Int)≤l.txs) && Ch l x.txs && decide (x.head.root=aR x.txs)
abbrev oM:Nat:=113
def qB:AF:=⟨2,6,[.tmp 4],(.seq (.ops [.i (.lbox 2 (.s 0)), .i (.lbox 3 (.s 1)), .i (.mov 4 (qb false))]) (.seq (.seq (.ops [qf 7 3 10,ql 8 3 7 1 false,qn 9 8, .i (.mov 10 (qi 0))]) (.block 0 (.loop [19,18,17,16,15,14,13,12,11,6] (.seq (.ops [qd 11 .lss 10 9]) (.seq (.cond (.s 11) .skip (.exit 0)) (.seq (.block 1 (.seq (.ops [.i (.iad 12 (.s 8) (.s 10) 1), .i (.ldh 13 (.s 12) 1 false),qm 6 13]) (.seq (.ops [qm 14 6,qn 15 14,qf 16 2 1,ql 17 2 16 1 false,qd 18 .gtr 15 17]) (.cond (.s 18) (.seq (.ops [.i (.mov 4 (qb false))]) .ret) .skip)))) (.ops [.i (.bin 19 .add (.s 10) (qi 1)),qm 10 19]))))))) (.seq (.ops [ql 20 2 2 5 true,qf 21 3 0,ql 22 3 21 10 true, .i (.call 24 108 false [(.s 20),(.s 22)]),qm 24 23, .g 24 true 26 (.fad 25 (.s 3) 10), .g 24 true 27 (.ldl 26 3 (.s 25) 1 false), .g 24 true 28 (.len 27 false (.s 26)), .g 24 true 29 (.fad 28 (.s 2) 2), .g 24 true 30 (.ldl 29 2 (.s 28) 1 false), .g 24 true 31 (.bin 30 .leq (.s 27) (.s 29)), .i (.pick 31 (.s 24) (.s 30) (qb false)),qm 32 31, .g 32 true 34 (.fad 33 (.s 3) 0), .g 32 true 35 (.fad 34 (.s 33) 4), .g 32 true 36 (.ldl 35 3 (.s 34) 1 false), .g 32 true 37 (.fad 36 (.s 3) 10), .g 32 true 38 (.ldl 37 3 (.s 36) 1 false), .g 32 true 39 (.call 39 176 false [(.s 37)]), .g 32 true 40 (.call 40 21 false [(.s 35),(.s 38)]), .i (.pick 40 (.s 32) (.s 39) (qb false)),qm 4 40]) .ret)))⟩
theorem Cr:cd oM=some qB:=by kernel_rfl
theorem y7 (l:ah) (x:Block) (hw:x.wc) (hx:∀t∈x.txs,t.length≤1073741823):VC cd oM (aB [(true,l.c),(true,x.c)]) (fun rs _=>rs=bl (ba l x)):=by
 obtain⟨⟨w1,_⟩,w2,w3⟩:=hw
 simp only[Sz]at w2
 refine aa Cr rfl ?_
 simp(disch:=omega) [qB,ah.c,Block.c,Head.c,aq,VY]
 refine aO (σ:=Nat) (f1:=_) (es0:=_) (by simp(disch:=omega) [VY];rfl) (by simp(disch:=omega) [VY];rfl) (fun i=> [(10, .val false [.int .i64 i])]) (fun _=> []) (fun i g=>g+i=x.txs.length∧∀t∈x.txs.take i,(t.length:Int)≤l.tx) 0 x.txs.length (by simp(disch:=omega) [VY]) (by simp(disch:=omega) [VY]) ⟨by omega,by simp⟩ ?_
 rintro i n g ⟨hg,hi⟩
 simp(disch:=omega) [VY]
 refine ab (fun h1=> ?_) (fun h1=> ?_)
 ·have hix:i < x.txs.length:=by omega
  have w4:=hx _ (List.getElem_mem hix)
  simp(disch:=omega) [cX hix,ag,VY]
  refine ab (fun h2=> ?_) (fun h2=> ?_)
  ·simp(disch:=omega) [VY]
   simp[ba,Ha hix (by omega)]
  ·simp(disch:=omega) [VY]
   exact⟨i+1,g - 1,by omega,⟨by omega,iu hi hix (by omega)⟩,by simp⟩
 ·have hl:i=x.txs.length:=by omega
  subst hl
  have ht:=Gy hi
  simp(disch:=omega) [VY]
  refine ae (iv l x.head w1) rfl rfl ?_
  simp(disch:=omega) [aq,VY]
  refine an (fun h2=> ?_) (fun h2=> ?_) <;>simp(disch:=omega) [h2,aq,ba,VY]
  refine ab (fun h3=> ?_) (fun h3=> ?_) <;>simp(disch:=omega) [h2,h3,ht,aq,VY]
  refine ae (jT _ x.txs rfl (by omega) hx) rfl rfl ?_
  simp(disch:=omega) [h2,h3,ht,VY]
  refine ao (aD x.head.root (aR x.txs)) ?_
  simp(disch:=omega) [h2,h3,ht,VY]
abbrev rr:Nat:=311
def pZ:AF:=⟨2,6,[.tmp 4],(.seq (.ops [.i (.lbox 2 (.s 0)), .i (.lbox 3 (.s 1)), .i (.mov 4 (qb false))]) (.seq (.seq (.ops [ql 7 2 2 5 true,qf 8 3 0,ql 9 3 8 10 true, .i (.call 11 310 false [(.s 7),(.s 9)]), .i (.not 11 (.s 10)),qm 12 11, .g 12 false 14 (.fad 13 (.s 3) 10), .g 12 false 15 (.ldl 14 3 (.s 13) 1 false), .g 12 false 16 (.len 15 false (.s 14)), .g 12 false 17 (.fad 16 (.s 2) 2), .g 12 false 18 (.ldl 17 2 (.s 16) 1 false), .g 12 false 19 (.bin 18 .gtr (.s 15) (.s 17)), .i (.pick 19 (.s 12) (qb true) (.s 18))]) (.cond (.s 19) (.seq (.ops [.i (.mov 4 (qb false))]) .ret) .skip)) (.seq (.seq (.ops [qf 20 3 10,ql 21 3 20 1 false,qn 22 21, .i (.mov 23 (qi 0))]) (.block 0 (.loop [32,31,30,29,28,27,26,25,24,6] (.seq (.ops [qd 24 .lss 23 22]) (.seq (.cond (.s 24) .skip (.exit 0)) (.seq (.block 1 (.seq (.ops [.i (.iad 25 (.s 21) (.s 23) 1), .i (.ldh 26 (.s 25) 1 false),qm 6 26]) (.seq (.ops [qm 27 6,qn 28 27,qf 29 2 1,ql 30 2 29 1 false,qd 31 .gtr 28 30]) (.cond (.s 31) (.seq (.ops [.i (.mov 4 (qb false))]) .ret) .skip)))) (.ops [.i (.bin 32 .add (.s 23) (qi 1)),qm 23 32]))))))) (.seq (.ops [qf 33 3 0,qf 34 33 4,ql 35 3 34 1 false,qf 36 3 10,ql 37 3 36 1 false,qk 39 319 37, .i (.call 40 329 false [(.s 35),(.s 38)]),qm 4 39]) .ret))))⟩
theorem BN:cd rr=some pZ:=by kernel_rfl
theorem nf (l:ah) (x:Block) (hw:x.wc) (hx:∀t∈x.txs,t.length≤1073741823):VC cd rr (aB [(true,l.c),(true,x.c)]) (fun rs _=>rs=bl (ba l x)):=by
 obtain⟨⟨w1,_⟩,w2,w3⟩:=hw
 simp only[Sz]at w2
 refine aa BN rfl ?_
 simp(disch:=omega) [pZ,ah.c,Block.c,Head.c,VY]
 refine ae (iM l x.head w1) rfl rfl ?_
 simp(disch:=omega) [aq,VY]
 refine an (fun h2=> ?_) (fun h2=> ?_)
 case refine_2=>simp(disch:=omega) [h2,ba,VY]
 simp(disch:=omega) [h2,aq,VY]
 refine ab (fun h3=> ?_) (fun h3=> ?_)
 ·simp(disch:=omega) [h2,h3,ba,show ¬(x.txs.length:Int)≤l.txs by omega,VY]
 simp(disch:=omega) [h2,h3,aq,VY]
 refine aO (σ:=Nat) (f1:=_) (es0:=_) (by simp(disch:=omega) [VY];rfl) (by simp(disch:=omega) [VY];rfl) (fun i=> [(23, .val false [.int .i64 i])]) (fun _=> []) (fun i g=>g+i=x.txs.length∧∀t∈x.txs.take i,(t.length:Int)≤l.tx) 0 x.txs.length (by simp(disch:=omega) [VY]) (by simp(disch:=omega) [VY]) ⟨by omega,by simp⟩ ?_
 rintro i n g ⟨hg,hi⟩
 simp(disch:=omega) [VY]
 refine ab (fun h1=> ?_) (fun h1=> ?_)
 ·have hix:i < x.txs.length:=by omega
  have w4:=hx _ (List.getElem_mem hix)
  simp(disch:=omega) [cX hix,ag,VY]
  refine ab (fun h4=> ?_) (fun h4=> ?_)
  ·simp(disch:=omega) [VY]
   simp[ba,Ha hix (by omega)]
  ·simp(disch:=omega) [VY]
   exact⟨i+1,g - 1,by omega,⟨by omega,iu hi hix (by omega)⟩,by simp⟩
 ·have hl:i=x.txs.length:=by omega
  subst hl
  have ht:=Gy hi
  simp(disch:=omega) [VY]
  refine ae (kM _ x.txs rfl (by omega) hx) rfl rfl ?_
  simp(disch:=omega) [h2,h3,ht,VY]
  refine ao (aU x.head.root (aR x.txs)) ?_
  simp(disch:=omega) [h2,h3,ht,ba,show(x.txs.length:Int)≤l.txs by omega,VY]
def fy (h:Head) (t:List Bytes):Block:=⟨⟨h.view,h.height,h.proposer,h.parent,aR t,h.qc⟩,t⟩
def B9 (l:ah) (h:Head) (t:List Bytes):List (Bool×List E):=
 if ba l (fy h t)then [(true,[.p (.int .i64 h.view), .p (.int .i64 h.height), .p (.int .i64 h.proposer), .o true (some (5,1)) (bytes h.parent), .o true (some (5,1)) (bytes (aR t)), .p (.int .i64 h.qc.view), .p (.int .i64 h.qc.height), .o true (some (5,1)) (bytes h.qc.block), .o true (some (5,1)) (bytes h.qc.bits), .o true (some (22,1)) (bm h.qc.tags), .o true (some (22,1)) (bm t)]),(false,[.p (.bool true)])]
 else [(true,[.p (.int .i64 0), .p (.int .i64 0), .p (.int .i64 0), .p .nils, .p .nils, .p (.int .i64 0), .p (.int .i64 0), .p .nils, .p .nils, .p .nils, .p .nils]),(false,[.p (.bool false)])]
theorem rz {l:ah} {x:Block} (h:ba l x=true):x.txs.length≤8:=by
 simp only[ba,Bool.and_eq_true,decide_eq_true_eq]at h
 have h1:=h.1.1.1
 simp only[bg,Bool.and_eq_true]at h1
 have h2:=r8 h1.1.1.1.1.1.1
 simp only[ah.ok,Bool.and_eq_true]at h2
 have h3:=cY h2.1.1.2
 omega
theorem yC {h:Head} {t:List Bytes} (hw:h.wc) (ht:mY t):(fy h t).wc:=by
 obtain⟨⟨w1,w2,w3,w4,w5,w6⟩,w7⟩:=hw
 exact⟨⟨⟨w1,w2,w3,w4,by show(aR t).length≤_;rw[e8];omega,w6⟩,w7⟩,ht⟩
abbrev iG:Nat:=269
def rA:AF:=⟨3,5,[.cell 6 11 true, .tmp 7],(.seq (.ops [.i (.lbox 3 (.s 0)), .i (.lbox 4 (.s 1)), .i (.lal 6 [.int .i64 0, .int .i64 0, .int .i64 0, .nils, .nils, .int .i64 0, .int .i64 0, .nils, .nils, .nils, .nils]), .i (.mov 7 (qb false))]) (.seq (.ops [ql 9 4 4 10 true,qk 11 267 9,qm 11 2,qk 13 316 11, .i (.bld 13 [.int .i64 0, .int .i64 0, .int .i64 0, .nils, .nils, .int .i64 0, .int .i64 0, .nils, .nils, .nils, .nils] [(0,10,(.s 10)),(10,1,(.s 12))]), .i (.lal 8 [.int .i64 0, .int .i64 0, .int .i64 0, .nils, .nils, .int .i64 0, .int .i64 0, .nils, .nils, .nils, .nils]),qs 8 8 13 11]) (.seq (.ops [qm 14 2,qk 16 319 14,qf 16 8 0,qf 17 16 4,qs 8 17 15 1]) (.seq (.seq (.ops [ql 18 3 3 5 true,ql 19 8 8 11 true, .i (.call 21 311 false [(.s 18),(.s 19)]), .i (.not 21 (.s 20))]) (.cond (.s 21) (.seq (.ops [.i (.bld 22 [.int .i64 0, .int .i64 0, .int .i64 0, .nils, .nils, .int .i64 0, .int .i64 0, .nils, .nils, .nils, .nils] []),qs 6 6 22 11, .i (.mov 7 (qb false))]) .ret) .skip)) (.seq (.ops [ql 23 8 8 11 true,qs 6 6 23 11, .i (.mov 7 (qb true))]) .ret)))))⟩
theorem AQ:cd iG=some rA:=by kernel_rfl
theorem zO (l:ah) (h:Head) (t:List Bytes) (hw:h.wc) (ht:mY t) (hx:∀x∈t,x.length≤1073741823):VC cd iG (aB [(true,l.c),(true,h.c),(false,[.sl (bm t)])]) (fun rs _=>rs=B9 l h t):=by
 have hl:=ht.1
 simp only[Sz]at hl
 refine aa AQ rfl ?_
 simp(disch:=omega) [rA,ah.c,Head.c,VY]
 refine ae (lS h hw) rfl rfl ?_
 simp(disch:=omega) [Head.o,VY]
 refine ae (l6 t ht) rfl rfl ?_
 simp(disch:=omega) [VY]
 refine ae (kM _ t rfl (by omega) hx) rfl rfl ?_
 simp(disch:=omega) [VY]
 have hq:=yC hw ht
 refine ao (nf l (fy h t) hq hx) ?_
 simp(disch:=omega) [VY]
 refine an (fun h1=> ?_) (fun h1=> ?_) <;>simp(disch:=omega) [h1,B9,VY]
end Go.Eng.F
namespace Go.Eng.F
open Go.Eng.U (Gr dE de gz Dn jG rP yB Pe lU FV)
structure Entry where
 who:Int
 high:Int
 tag:Bytes
def Entry.c (r:Entry):List D:= [.int .i64 r.who, .int .i64 r.high, .sl (bytes r.tag)]
def Entry.wf (r:Entry):Prop:=lq r.who∧lq r.high∧Sz r.tag.length
structure Tc where
 view:Int
 entries:List Entry
def hX (l:List Entry):List (List D):=l.map Entry.c
theorem bK (l:List Entry):(hX l).length=l.length:=by simp[hX]
theorem dL {l:List Entry} {i:Nat} (h:i < l.length):(hX l)[i]? =some [.int .i64 l[i].who, .int .i64 l[i].high, .sl (bytes l[i].tag)]:=by simp[hX,h,Entry.c]
theorem GW {l:List Entry} {i:Nat} (h:i < l.length):hX (l.take i)++ [[.int .i64 l[i].who, .int .i64 l[i].high, .sl (bytes l[i].tag)]]=hX (l.take (i+1)):=by
 have e:hX (l.take (i+1))=hX (l.take i)++hX [l[i]]:=by
  rw[List.take_add_one,List.getElem?_eq_getElem h];exact List.map_append
 rw[e];rfl
def Tc.c (t:Tc):List D:= [.int .i64 t.view, .sl (hX t.entries)]
def Tc.wf (t:Tc):Prop:=lq t.view∧Sz t.entries.length∧∀r∈t.entries,r.wf
abbrev jY:Nat:=207
def kb:AF:=⟨1,5,[.cell 2 2 true],(.seq (.ops [.i (.lbox 1 (.s 0)), .i (.lal 2 [.int .i64 0, .nils])]) (.seq (.ops [qf 6 1 0,ql 7 1 6 1 false, .i (.bld 8 [.int .i64 0, .nils] [(0,1,(.s 7))]), .i (.lal 3 [.int .i64 0, .nils]),qs 3 3 8 2]) (.seq (.seq (.ops [qf 9 1 1,ql 10 1 9 1 false,qn 11 10, .i (.mov 12 (qi 0))]) (.block 0 (.loop [29,28,27,26,25,24,23,22,21,20,19,18,17,16,15,14,13,5] (.seq (.ops [qd 13 .lss 12 11]) (.seq (.cond (.s 13) .skip (.exit 0)) (.seq (.block 1 (.seq (.ops [.i (.iad 14 (.s 10) (.s 12) 3), .i (.ldh 15 (.s 14) 3 true), .i (.lal 5 [.int .i64 0, .int .i64 0, .nils]),qs 5 5 15 3]) (.ops [qf 16 3 1,ql 17 3 16 1 false,qf 18 5 0,ql 19 5 18 1 false,qf 20 5 1,ql 21 5 20 1 false,qf 22 5 2,ql 23 5 22 1 false,qk 25 93 23, .i (.bld 25 [.int .i64 0, .int .i64 0, .nils] [(0,1,(.s 19)),(1,1,(.s 21)),(2,1,(.s 24))]), .i (.lsl 26 3 1 [.int .i64 0, .int .i64 0, .nils] [(0,3,(.s 25))]), .i (.app 27 165 3 40 (.s 17) (.s 26)),qf 28 3 1,qs 3 28 27 1]))) (.ops [.i (.bin 29 .add (.s 12) (qi 1)),qm 12 29]))))))) (.seq (.ops [ql 30 3 3 2 true,qs 2 2 30 2]) .ret))))⟩
theorem xN:cd jY=some kb:=by kernel_rfl
theorem Em (t:Tc) (hw:t.wf):VC cd jY (aB [(true,t.c)]) (fun rs _=>rs= [(true,[.p (.int .i64 t.view), .o true (some (165,3)) (hX t.entries)])]):=by
 obtain⟨w0,w1,w2⟩:=hw
 simp only[Sz]at w1
 refine aa xN rfl ?_
 simp(disch:=omega) [kb,Tc.c,bK,VY]
 refine lg (σ:=Nat×Nat) (f0:=_) (by simp(disch:=omega) [VY];rfl) (c5.xo (s:=3) (k:=3) (i:=1) rfl rfl) (f1:=_) (es0:=_) (by simp(disch:=omega) [VY];rfl) (by simp(disch:=omega) [VY];rfl) (fun p=> [(12, .val false [.int .i64 p.1]),(3, .box [.int .i64 t.view, .ow 3 p.2])]) (fun p=> [(3, .sl p.2 true true (some (165,3)) (hX (t.entries.take p.1)))])
  (fun p g=>g+p.1=t.entries.length) (0,_) t.entries.length (by simp(disch:=omega) [VY];rfl) (by simp(disch:=omega) [hX,VY]) (by omega) ?_
 rintro⟨i,v⟩ n g hg
 simp only at hg
 simp(disch:=omega) [VY]
 refine ab (fun h1=> ?_) (fun h1=> ?_)
 ·have hx:i < t.entries.length:=by omega
  have w3:=(w2 _ (List.getElem_mem hx)).2.2
  simp only[Sz]at w3
  simp(disch:=omega) [dL hx,VY]
  refine ae (aI t.entries[i].tag (by omega)) rfl rfl ?_
  have hl:(hX (t.entries.take i)).length=i:=by rw[bK];simp;omega
  simp(disch:=omega) [hl,GW hx,VY]
  exact⟨i+1,n+1,g - 1,by omega,by omega,⟨by omega,by omega⟩,by omega,rfl⟩
 ·simp(disch:=omega) [VY]
  have:i=t.entries.length:=by omega
  subst this
  rw[List.take_length]
abbrev rT:Nat:=271
def oJ:AF:=⟨1,5,[.cell 2 2 true],(.seq (.ops [.i (.lbox 1 (.s 0)), .i (.lal 2 [.int .i64 0, .nils])]) (.seq (.ops [qf 6 1 0,ql 7 1 6 1 false, .i (.bld 8 [.int .i64 0, .nils] [(0,1,(.s 7))]), .i (.lal 3 [.int .i64 0, .nils]),qs 3 3 8 2]) (.seq (.seq (.ops [qf 9 1 1,ql 10 1 9 1 false,qn 11 10, .i (.mov 12 (qi 0))]) (.block 0 (.loop [29,28,27,26,25,24,23,22,21,20,19,18,17,16,15,14,13,5] (.seq (.ops [qd 13 .lss 12 11]) (.seq (.cond (.s 13) .skip (.exit 0)) (.seq (.block 1 (.seq (.ops [.i (.iad 14 (.s 10) (.s 12) 3), .i (.ldh 15 (.s 14) 3 true), .i (.lal 5 [.int .i64 0, .int .i64 0, .nils]),qs 5 5 15 3]) (.ops [qf 16 3 1,ql 17 3 16 1 false,qf 18 5 0,ql 19 5 18 1 false,qf 20 5 1,ql 21 5 20 1 false,qf 22 5 2,ql 23 5 22 1 false,qk 25 143 23, .i (.bld 25 [.int .i64 0, .int .i64 0, .nils] [(0,1,(.s 19)),(1,1,(.s 21)),(2,1,(.s 24))]), .i (.lsl 26 3 1 [.int .i64 0, .int .i64 0, .nils] [(0,3,(.s 25))]), .i (.app 27 165 3 40 (.s 17) (.s 26)),qf 28 3 1,qs 3 28 27 1]))) (.ops [.i (.bin 29 .add (.s 12) (qi 1)),qm 12 29]))))))) (.seq (.ops [ql 30 3 3 2 true,qs 2 2 30 2]) .ret))))⟩
theorem AG:cd rT=some oJ:=by kernel_rfl
theorem Is (t:Tc) (hw:t.wf):VC cd rT (aB [(true,t.c)]) (fun rs _=>rs= [(true,[.p (.int .i64 t.view), .o true (some (165,3)) (hX t.entries)])]):=by
 obtain⟨w0,w1,w2⟩:=hw
 simp only[Sz]at w1
 refine aa AG rfl ?_
 simp(disch:=omega) [oJ,Tc.c,bK,VY]
 refine lg (σ:=Nat×Nat) (f0:=_) (by simp(disch:=omega) [VY];rfl) (c5.xo (s:=3) (k:=3) (i:=1) rfl rfl) (f1:=_) (es0:=_) (by simp(disch:=omega) [VY];rfl) (by simp(disch:=omega) [VY];rfl) (fun p=> [(12, .val false [.int .i64 p.1]),(3, .box [.int .i64 t.view, .ow 3 p.2])]) (fun p=> [(3, .sl p.2 true true (some (165,3)) (hX (t.entries.take p.1)))])
  (fun p g=>g+p.1=t.entries.length) (0,_) t.entries.length (by simp(disch:=omega) [VY];rfl) (by simp(disch:=omega) [hX,VY]) (by omega) ?_
 rintro⟨i,v⟩ n g hg
 simp only at hg
 simp(disch:=omega) [VY]
 refine ab (fun h1=> ?_) (fun h1=> ?_)
 ·have hx:i < t.entries.length:=by omega
  have w3:=(w2 _ (List.getElem_mem hx)).2.2
  simp only[Sz]at w3
  simp(disch:=omega) [dL hx,VY]
  refine ae (bY t.entries[i].tag (by omega)) rfl rfl ?_
  have hl:(hX (t.entries.take i)).length=i:=by rw[bK];simp;omega
  simp(disch:=omega) [hl,GW hx,VY]
  exact⟨i+1,n+1,g - 1,by omega,by omega,⟨by omega,by omega⟩,by omega,rfl⟩
 ·simp(disch:=omega) [VY]
  have:i=t.entries.length:=by omega
  subst this
  rw[List.take_length]
def oP (t:Tc):List (Bool×List E):= [(true,[.p (.int .i64 5), .p (.int .i64 0), .p (.int .i64 0), .p .nils, .p (.int .i64 0), .p .nils, .p (.int .i64 0), .p (.int .i64 0), .p .nils, .p .nils, .p .nils, .p (.int .i64 0), .p (.int .i64 0), .p (.int .i64 0), .p .nils, .p .nils, .p (.int .i64 0), .p (.int .i64 0), .p .nils, .p .nils, .p .nils, .p (.int .i64 0), .p (.int .i64 0), .p (.int .i64 0), .p .nils, .p .nils, .p (.int .i64 0), .p (.int .i64 0), .p .nils, .p .nils, .p .nils, .p .nils, .p (.int .i64 t.view), .o true (some (165,3)) (hX t.entries), .p .nils, .p (.int .i64 0), .p (.int .i64 0), .p .nils, .p .nils, .p .nils, .p (.int .i64 0), .p (.int .i64 0), .p (.int .i64 0), .p .nils, .p .nils])]
abbrev ym:Nat:=200
def yq:AF:=⟨1,3,[.cell 2 45 true],(.seq (.ops [.i (.lbox 1 (.s 0)), .i (.lal 2 [.int .i64 0, .int .i64 0, .int .i64 0, .nils, .int .i64 0, .nils, .int .i64 0, .int .i64 0, .nils, .nils, .nils, .int .i64 0, .int .i64 0, .int .i64 0, .nils, .nils, .int .i64 0, .int .i64 0, .nils, .nils, .nils, .int .i64 0, .int .i64 0, .int .i64 0, .nils, .nils, .int .i64 0, .int .i64 0, .nils, .nils, .nils, .nils, .int .i64 0, .nils, .nils, .int .i64 0, .int .i64 0, .nils, .nils, .nils, .int .i64 0, .int .i64 0, .int .i64 0, .nils, .nils])]) (.seq (.ops [ql 3 1 1 2 true,qk 5 207 3, .i (.bld 5 [.int .i64 0, .int .i64 0, .int .i64 0, .nils, .int .i64 0, .nils, .int .i64 0, .int .i64 0, .nils, .nils, .nils, .int .i64 0, .int .i64 0, .int .i64 0, .nils, .nils, .int .i64 0, .int .i64 0, .nils, .nils, .nils, .int .i64 0, .int .i64 0, .int .i64 0, .nils, .nils, .int .i64 0, .int .i64 0, .nils, .nils, .nils, .nils, .int .i64 0, .nils, .nils, .int .i64 0, .int .i64 0, .nils, .nils, .nils, .int .i64 0, .int .i64 0, .int .i64 0, .nils, .nils] [(0,1,(qi 5)),(32,2,(.s 4))]),qs 2 2 5 45]) .ret))⟩
theorem Gs:cd ym=some yq:=by kernel_rfl
theorem El (t:Tc) (hw:t.wf):VC cd ym (aB [(true,t.c)]) (fun rs _=>rs=oP t):=by
 refine aa Gs rfl ?_
 simp(disch:=omega) [yq,Tc.c,VY]
 refine ae (Em t hw) rfl rfl ?_
 simp(disch:=omega) [oP,VY]
abbrev yc:Nat:=190
def yx:AF:=⟨1,3,[.cell 2 45 true],(.seq (.ops [.i (.lbox 1 (.s 0)), .i (.lal 2 [.int .i64 0, .int .i64 0, .int .i64 0, .nils, .int .i64 0, .nils, .int .i64 0, .int .i64 0, .nils, .nils, .nils, .int .i64 0, .int .i64 0, .int .i64 0, .nils, .nils, .int .i64 0, .int .i64 0, .nils, .nils, .nils, .int .i64 0, .int .i64 0, .int .i64 0, .nils, .nils, .int .i64 0, .int .i64 0, .nils, .nils, .nils, .nils, .int .i64 0, .nils, .nils, .int .i64 0, .int .i64 0, .nils, .nils, .nils, .int .i64 0, .int .i64 0, .int .i64 0, .nils, .nils])]) (.seq (.ops [ql 3 1 1 2 true,qk 5 271 3, .i (.bld 5 [.int .i64 0, .int .i64 0, .int .i64 0, .nils, .int .i64 0, .nils, .int .i64 0, .int .i64 0, .nils, .nils, .nils, .int .i64 0, .int .i64 0, .int .i64 0, .nils, .nils, .int .i64 0, .int .i64 0, .nils, .nils, .nils, .int .i64 0, .int .i64 0, .int .i64 0, .nils, .nils, .int .i64 0, .int .i64 0, .nils, .nils, .nils, .nils, .int .i64 0, .nils, .nils, .int .i64 0, .int .i64 0, .nils, .nils, .nils, .int .i64 0, .int .i64 0, .int .i64 0, .nils, .nils] [(0,1,(qi 5)),(32,2,(.s 4))]),qs 2 2 5 45]) .ret))⟩
theorem F6:cd yc=some yx:=by kernel_rfl
theorem wj (t:Tc) (hw:t.wf):VC cd yc (aB [(true,t.c)]) (fun rs _=>rs=oP t):=by
 refine aa F6 rfl ?_
 simp(disch:=omega) [yx,Tc.c,VY]
 refine ae (Is t hw) rfl rfl ?_
 simp(disch:=omega) [oP,VY]
def Entry.tv (x:Entry):Tv:= .r [.i x.who, .i x.high,Cz x.tag]
theorem Entry.enc (x:Entry):enc lU x.tv=x.c:=by simp only[Entry.tv,eO,bU,cO,eD,fx,jx,gI,et,gk,Entry.c,List.cons_append,List.nil_append,List.append_assoc]
theorem Entry.ex {v:Tv} (h:aM lU v):∃x:Entry,v=x.tv:=by
 obtain⟨vs,rfl,h⟩:=h.st
 obtain⟨v0,_,rfl,h0,h⟩:=h.step
 obtain⟨v1,_,rfl,h1,h⟩:=h.step
 obtain⟨v2,_,rfl,h2,h⟩:=h.step
 obtain rfl:=h.fin
 obtain⟨n0,rfl,_⟩:=h0.int
 obtain⟨n1,rfl,_⟩:=h1.int
 obtain⟨n2,rfl⟩:=gw h2
 exact⟨⟨n0,n1,n2⟩,rfl⟩
theorem Entry.of {x:Entry} (h:aM lU x.tv) (hw:wt x.tv≤1048576):x.wf:=by
 simp only[Entry.tv,gp,cT]at h
 simp only[Entry.tv,wt,zM]at hw
 obtain⟨h0,h1,h2,_⟩:=h
 exact⟨dT (ok_int.1 h0),dT (ok_int.1 h1),uy (by omega)⟩
def Ii (l:List Entry):Tv:= .l (l.map Entry.tv)
theorem Ma (l:List Entry):enc (.sl lU) (Ii l)= [.sl (hX l)]:=by
 simp only[Ii,E2,List.map_map,hX]
 congr 2
 exact List.map_congr_left fun x _=>Entry.enc x
theorem L6 {v:Tv} (h:aM (.sl lU) v):∃l,v=Ii l:=by
 obtain⟨xs,rfl,_,h2⟩:=h.sl
 obtain⟨ys,rfl⟩:=sn (f:=Entry.tv) (P:=aM lU) (fun v hv=>Entry.ex hv) h2
 exact⟨ys,rfl⟩
theorem OC {l:List Entry} (h:aM (.sl lU) (Ii l)) (hw:wt (Ii l)≤1048576):Sz l.length∧∀x∈l,x.wf:=by
 unfold Ii at h hw
 rw[KE]at hw
 have h2:=(Lm.1 h).2
 simp only[List.length_map]at hw
 refine⟨by unfold Sz;omega,fun x hx=>Entry.of (h2 _ (List.mem_map_of_mem hx)) ?_⟩
 have:=vB (f:=Entry.tv) hx
 omega
def Tc.tv (x:Tc):Tv:= .r [.i x.view,Ii x.entries]
theorem Tc.enc (x:Tc):enc Pe x.tv=x.c:=by simp only[Tc.tv,Ma,eO,bU,cO,eD,fx,jx,gI,et,gk,Tc.c,List.cons_append,List.nil_append,List.append_assoc]
theorem Tc.ex {v:Tv} (h:aM Pe v):∃x:Tc,v=x.tv:=by
 obtain⟨vs,rfl,h⟩:=h.st
 obtain⟨v0,_,rfl,h0,h⟩:=h.step
 obtain⟨v1,_,rfl,h1,h⟩:=h.step
 obtain rfl:=h.fin
 obtain⟨n0,rfl,_⟩:=h0.int
 obtain⟨n1,rfl⟩:=L6 h1
 exact⟨⟨n0,n1⟩,rfl⟩
theorem Tc.of {x:Tc} (h:aM Pe x.tv) (hw:wt x.tv≤1048576):x.wf:=by
 simp only[Tc.tv,gp,cT]at h
 simp only[Tc.tv,wt,zM]at hw
 obtain⟨h0,h1,_⟩:=h
 exact⟨dT (ok_int.1 h0),OC h1 (by omega)⟩
end Go.Eng.F
namespace Go.Eng.F
theorem Bo {α:Type} {a b:List α} {i:Nat} (hd:∀j,j < i→a[j]? =b[j]?) (h:a[i]? =b[i]?):∀j,j < i+1→a[j]? =b[j]? :=fun j hj=>by
 rcases Nat.lt_or_ge j i with hl|hl
 ·exact hd j hl
 ·obtain rfl:j=i:=by omega
  exact h
theorem Ga {α:Type} {a b:List α} (hl:a.length=b.length) (hd:∀j,j < b.length→a[j]? =b[j]?):a=b:=by
 apply List.ext_getElem?
 intro j
 rcases Nat.lt_or_ge j b.length with h|h
 ·exact hd j h
 ·rw[List.getElem?_eq_none_iff.2 h,List.getElem?_eq_none_iff.2 (by omega)]
abbrev mh:Nat:=107
def l9:AF:=⟨2,5,[.tmp 4],(.seq (.ops [.i (.mov 4 (qb false))]) (.seq (.seq (.ops [qm 6 0,qn 7 6,qm 8 1,qn 9 8,qd 10 .neq 7 9]) (.cond (.s 10) (.seq (.ops [.i (.mov 4 (qb false))]) .ret) .skip)) (.seq (.seq (.ops [qm 11 0,qn 12 11, .i (.mov 13 (qi 0))]) (.block 0 (.loop [26,25,24,23,22,21,20,19,18,17,16,15,14,5] (.seq (.ops [qd 14 .lss 13 12]) (.seq (.cond (.s 14) .skip (.exit 0)) (.seq (.block 1 (.seq (.ops [qm 15 13,qm 5 15]) (.seq (.ops [qm 16 0,qm 17 5, .i (.iad 18 (.s 16) (.s 17) 1), .i (.ldh 19 (.s 18) 1 false),qm 20 1,qm 21 5, .i (.iad 22 (.s 20) (.s 21) 1), .i (.ldh 23 (.s 22) 1 false), .i (.call 25 21 false [(.s 19),(.s 23)]), .i (.not 25 (.s 24))]) (.cond (.s 25) (.seq (.ops [.i (.mov 4 (qb false))]) .ret) .skip)))) (.ops [.i (.bin 26 .add (.s 13) (qi 1)),qm 13 26]))))))) (.seq (.ops [.i (.mov 4 (qb true))]) .ret))))⟩
theorem zP:cd mh=some l9:=by kernel_rfl
theorem f5 (a b:List Bytes) (ha:Sz a.length) (hb:Sz b.length):VC cd mh (aB [(false,[.sl (bm a)]),(false,[.sl (bm b)])]) (fun rs _=>rs=bl (decide (a=b))):=by
 simp only[Sz]at ha hb
 refine aa zP rfl ?_
 simp(disch:=omega) [l9,aq,VY]
 refine ab (fun h1=> ?_) (fun h1=> ?_)
 case refine_2=>
  have hn:¬a=b:=fun e=>h1 (by rw[e])
  simp(disch:=omega) [h1,hn,VY]
 simp(disch:=omega) [h1,aq,VY]
 refine cQ (σ:=Nat) (f1:=_) (es0:=_) (by simp(disch:=omega) [VY];rfl) (by simp(disch:=omega) [VY];rfl) (fun i=> [(13, .val false [.int .i64 (i:Int)])]) (fun _=> []) (fun i g=>g+i=b.length∧∀j,j < i→a[j]? =b[j]?) 0 b.length (by simp(disch:=omega) [h1,VY]) (by simp(disch:=omega) [VY]) ⟨by omega,fun j hj=>by omega⟩ ?_
 rintro i n g ⟨hg,hd⟩ P hP
 simp(disch:=omega) [h1,VY]
 refine ab (fun h2=> ?_) (fun h2=> ?_)
 ·have hi:i < a.length:=by omega
  have hj:i < b.length:=by omega
  simp(disch:=omega) [cX hi,cX hj,VY]
  refine ao (aD a[i] b[i]) ?_
  simp(disch:=omega) [VY]
  refine ab (fun h3=> ?_) (fun h3=> ?_)
  ·simp(disch:=omega) [h3,VY]
   exact hP (i+1) (g - 1) _ _ (by omega) ⟨by omega,Bo hd (by simp[hi,hj,h3])⟩ (by simp(disch:=omega) [VY]) (by simp(disch:=omega) [VY])
  ·have hn:¬a=b:=fun e=>h3 (by subst e;rfl)
   simp(disch:=omega) [h3,hn,VY]
 ·have he:a=b:=Ga (by omega) (fun j hj=>hd j (by omega))
  simp(disch:=omega) [he,VY]
abbrev nh:Nat:=336
def nm:AF:=⟨2,5,[.tmp 4],(.seq (.ops [.i (.mov 4 (qb false))]) (.seq (.seq (.ops [qm 6 0,qn 7 6,qm 8 1,qn 9 8,qd 10 .neq 7 9]) (.cond (.s 10) (.seq (.ops [.i (.mov 4 (qb false))]) .ret) .skip)) (.seq (.seq (.ops [qm 11 0,qn 12 11, .i (.mov 13 (qi 0))]) (.block 0 (.loop [26,25,24,23,22,21,20,19,18,17,16,15,14,5] (.seq (.ops [qd 14 .lss 13 12]) (.seq (.cond (.s 14) .skip (.exit 0)) (.seq (.block 1 (.seq (.ops [qm 15 13,qm 5 15]) (.seq (.ops [qm 16 0,qm 17 5, .i (.iad 18 (.s 16) (.s 17) 1), .i (.ldh 19 (.s 18) 1 false),qm 20 1,qm 21 5, .i (.iad 22 (.s 20) (.s 21) 1), .i (.ldh 23 (.s 22) 1 false), .i (.call 25 329 false [(.s 19),(.s 23)]), .i (.not 25 (.s 24))]) (.cond (.s 25) (.seq (.ops [.i (.mov 4 (qb false))]) .ret) .skip)))) (.ops [.i (.bin 26 .add (.s 13) (qi 1)),qm 13 26]))))))) (.seq (.ops [.i (.mov 4 (qb true))]) .ret))))⟩
theorem zx:cd nh=some nm:=by kernel_rfl
theorem fV (a b:List Bytes) (ha:Sz a.length) (hb:Sz b.length):VC cd nh (aB [(false,[.sl (bm a)]),(false,[.sl (bm b)])]) (fun rs _=>rs=bl (decide (a=b))):=by
 simp only[Sz]at ha hb
 refine aa zx rfl ?_
 simp(disch:=omega) [nm,aq,VY]
 refine ab (fun h1=> ?_) (fun h1=> ?_)
 case refine_2=>
  have hn:¬a=b:=fun e=>h1 (by rw[e])
  simp(disch:=omega) [h1,hn,VY]
 simp(disch:=omega) [h1,aq,VY]
 refine cQ (σ:=Nat) (f1:=_) (es0:=_) (by simp(disch:=omega) [VY];rfl) (by simp(disch:=omega) [VY];rfl) (fun i=> [(13, .val false [.int .i64 (i:Int)])]) (fun _=> []) (fun i g=>g+i=b.length∧∀j,j < i→a[j]? =b[j]?) 0 b.length (by simp(disch:=omega) [h1,VY]) (by simp(disch:=omega) [VY]) ⟨by omega,fun j hj=>by omega⟩ ?_
 rintro i n g ⟨hg,hd⟩ P hP
 simp(disch:=omega) [h1,VY]
 refine ab (fun h2=> ?_) (fun h2=> ?_)
 ·have hi:i < a.length:=by omega
  have hj:i < b.length:=by omega
  simp(disch:=omega) [cX hi,cX hj,VY]
  refine ao (aU a[i] b[i]) ?_
  simp(disch:=omega) [VY]
  refine ab (fun h3=> ?_) (fun h3=> ?_)
  ·simp(disch:=omega) [h3,VY]
   exact hP (i+1) (g - 1) _ _ (by omega) ⟨by omega,Bo hd (by simp[hi,hj,h3])⟩ (by simp(disch:=omega) [VY]) (by simp(disch:=omega) [VY])
  ·have hn:¬a=b:=fun e=>h3 (by subst e;rfl)
   simp(disch:=omega) [h3,hn,VY]
 ·have he:a=b:=Ga (by omega) (fun j hj=>hd j (by omega))
  simp(disch:=omega) [he,VY]
def l3 (a b:Qc):Bool:=decide (a.view=b.view) && decide (a.height=b.height) && decide (a.block=b.block) && decide (a.bits=b.bits) && decide (a.tags=b.tags)
abbrev sX:Nat:=29
def tD:AF:=⟨2,6,[.tmp 4],(.seq (.ops [.i (.lbox 2 (.s 0)), .i (.lbox 3 (.s 1)), .i (.mov 4 (qb false))]) (.seq (.ops [qf 5 2 0,ql 6 2 5 1 false,qf 7 3 0,ql 8 3 7 1 false,qd 9 .eql 6 8,qm 10 9, .g 10 true 12 (.fad 11 (.s 2) 1), .g 10 true 13 (.ldl 12 2 (.s 11) 1 false), .g 10 true 14 (.fad 13 (.s 3) 1), .g 10 true 15 (.ldl 14 3 (.s 13) 1 false), .g 10 true 16 (.bin 15 .eql (.s 12) (.s 14)), .i (.pick 16 (.s 10) (.s 15) (qb false)),qm 17 16, .g 17 true 19 (.fad 18 (.s 2) 2), .g 17 true 20 (.ldl 19 2 (.s 18) 1 false), .g 17 true 21 (.fad 20 (.s 3) 2), .g 17 true 22 (.ldl 21 3 (.s 20) 1 false), .g 17 true 23 (.call 23 21 false [(.s 19),(.s 21)]), .i (.pick 23 (.s 17) (.s 22) (qb false)),qm 24 23, .g 24 true 26 (.fad 25 (.s 2) 3), .g 24 true 27 (.ldl 26 2 (.s 25) 1 false), .g 24 true 28 (.fad 27 (.s 3) 3), .g 24 true 29 (.ldl 28 3 (.s 27) 1 false), .g 24 true 30 (.call 30 21 false [(.s 26),(.s 28)]), .i (.pick 30 (.s 24) (.s 29) (qb false)),qm 31 30, .g 31 true 33 (.fad 32 (.s 2) 4), .g 31 true 34 (.ldl 33 2 (.s 32) 1 false), .g 31 true 35 (.fad 34 (.s 3) 4), .g 31 true 36 (.ldl 35 3 (.s 34) 1 false), .g 31 true 37 (.call 37 107 false [(.s 33),(.s 35)]), .i (.pick 37 (.s 31) (.s 36) (qb false)),qm 4 37]) .ret))⟩
theorem Dq:cd sX=some tD:=by kernel_rfl
theorem fv (a b:Qc) (ha:a.wf) (hb:b.wf):VC cd sX (aB [(true,a.c),(true,b.c)]) (fun rs _=>rs=bl (l3 a b)):=by
 refine aa Dq rfl ?_
 simp(disch:=omega) [tD,Qc.c,VY]
 refine ab (fun h1=> ?_) (fun h1=> ?_) <;>simp(disch:=omega) [h1,l3,VY]
 refine ab (fun h2=> ?_) (fun h2=> ?_) <;>simp(disch:=omega) [h1,h2,VY]
 refine ao (aD a.block b.block) ?_
 simp(disch:=omega) [h1,h2,VY]
 refine ab (fun h3=> ?_) (fun h3=> ?_) <;>simp(disch:=omega) [h1,h2,h3,VY]
 refine ao (aD a.bits b.bits) ?_
 simp(disch:=omega) [h1,h2,h3,VY]
 refine ab (fun h4=> ?_) (fun h4=> ?_) <;>simp(disch:=omega) [h1,h2,h3,h4,VY]
 refine ao (f5 a.tags b.tags ha.2.2.2.2 hb.2.2.2.2) ?_
 simp(disch:=omega) [h1,h2,h3,h4,VY]
abbrev tY:Nat:=299
def uu:AF:=⟨2,6,[.tmp 4],(.seq (.ops [.i (.lbox 2 (.s 0)), .i (.lbox 3 (.s 1)), .i (.mov 4 (qb false))]) (.seq (.ops [qf 5 2 0,ql 6 2 5 1 false,qf 7 3 0,ql 8 3 7 1 false,qd 9 .eql 6 8,qm 10 9, .g 10 true 12 (.fad 11 (.s 2) 1), .g 10 true 13 (.ldl 12 2 (.s 11) 1 false), .g 10 true 14 (.fad 13 (.s 3) 1), .g 10 true 15 (.ldl 14 3 (.s 13) 1 false), .g 10 true 16 (.bin 15 .eql (.s 12) (.s 14)), .i (.pick 16 (.s 10) (.s 15) (qb false)),qm 17 16, .g 17 true 19 (.fad 18 (.s 2) 2), .g 17 true 20 (.ldl 19 2 (.s 18) 1 false), .g 17 true 21 (.fad 20 (.s 3) 2), .g 17 true 22 (.ldl 21 3 (.s 20) 1 false), .g 17 true 23 (.call 23 329 false [(.s 19),(.s 21)]), .i (.pick 23 (.s 17) (.s 22) (qb false)),qm 24 23, .g 24 true 26 (.fad 25 (.s 2) 3), .g 24 true 27 (.ldl 26 2 (.s 25) 1 false), .g 24 true 28 (.fad 27 (.s 3) 3), .g 24 true 29 (.ldl 28 3 (.s 27) 1 false), .g 24 true 30 (.call 30 329 false [(.s 26),(.s 28)]), .i (.pick 30 (.s 24) (.s 29) (qb false)),qm 31 30, .g 31 true 33 (.fad 32 (.s 2) 4), .g 31 true 34 (.ldl 33 2 (.s 32) 1 false), .g 31 true 35 (.fad 34 (.s 3) 4), .g 31 true 36 (.ldl 35 3 (.s 34) 1 false), .g 31 true 37 (.call 37 336 false [(.s 33),(.s 35)]), .i (.pick 37 (.s 31) (.s 36) (qb false)),qm 4 37]) .ret))⟩
theorem Dp:cd tY=some uu:=by kernel_rfl
theorem hZ (a b:Qc) (ha:a.wf) (hb:b.wf):VC cd tY (aB [(true,a.c),(true,b.c)]) (fun rs _=>rs=bl (l3 a b)):=by
 refine aa Dp rfl ?_
 simp(disch:=omega) [uu,Qc.c,VY]
 refine ab (fun h1=> ?_) (fun h1=> ?_) <;>simp(disch:=omega) [h1,l3,VY]
 refine ab (fun h2=> ?_) (fun h2=> ?_) <;>simp(disch:=omega) [h1,h2,VY]
 refine ao (aU a.block b.block) ?_
 simp(disch:=omega) [h1,h2,VY]
 refine ab (fun h3=> ?_) (fun h3=> ?_) <;>simp(disch:=omega) [h1,h2,h3,VY]
 refine ao (aU a.bits b.bits) ?_
 simp(disch:=omega) [h1,h2,h3,VY]
 refine ab (fun h4=> ?_) (fun h4=> ?_) <;>simp(disch:=omega) [h1,h2,h3,h4,VY]
 refine ao (fV a.tags b.tags ha.2.2.2.2 hb.2.2.2.2) ?_
 simp(disch:=omega) [h1,h2,h3,h4,VY]
def dR (a b:Head):Bool:=decide (a.view=b.view) && decide (a.height=b.height) && decide (a.proposer=b.proposer) && decide (a.parent=b.parent) && decide (a.root=b.root) && l3 a.qc b.qc
abbrev mB:Nat:=32
def mU:AF:=⟨2,6,[.tmp 4],(.seq (.ops [.i (.lbox 2 (.s 0)), .i (.lbox 3 (.s 1)), .i (.mov 4 (qb false))]) (.seq (.ops [qf 5 2 0,ql 6 2 5 1 false,qf 7 3 0,ql 8 3 7 1 false,qd 9 .eql 6 8,qm 10 9, .g 10 true 12 (.fad 11 (.s 2) 1), .g 10 true 13 (.ldl 12 2 (.s 11) 1 false), .g 10 true 14 (.fad 13 (.s 3) 1), .g 10 true 15 (.ldl 14 3 (.s 13) 1 false), .g 10 true 16 (.bin 15 .eql (.s 12) (.s 14)), .i (.pick 16 (.s 10) (.s 15) (qb false)),qm 17 16, .g 17 true 19 (.fad 18 (.s 2) 2), .g 17 true 20 (.ldl 19 2 (.s 18) 1 false), .g 17 true 21 (.fad 20 (.s 3) 2), .g 17 true 22 (.ldl 21 3 (.s 20) 1 false), .g 17 true 23 (.bin 22 .eql (.s 19) (.s 21)), .i (.pick 23 (.s 17) (.s 22) (qb false)),qm 24 23, .g 24 true 26 (.fad 25 (.s 2) 3), .g 24 true 27 (.ldl 26 2 (.s 25) 1 false), .g 24 true 28 (.fad 27 (.s 3) 3), .g 24 true 29 (.ldl 28 3 (.s 27) 1 false), .g 24 true 30 (.call 30 21 false [(.s 26),(.s 28)]), .i (.pick 30 (.s 24) (.s 29) (qb false)),qm 31 30, .g 31 true 33 (.fad 32 (.s 2) 4), .g 31 true 34 (.ldl 33 2 (.s 32) 1 false), .g 31 true 35 (.fad 34 (.s 3) 4), .g 31 true 36 (.ldl 35 3 (.s 34) 1 false), .g 31 true 37 (.call 37 21 false [(.s 33),(.s 35)]), .i (.pick 37 (.s 31) (.s 36) (qb false)),qm 38 37, .g 38 true 40 (.fad 39 (.s 2) 5), .g 38 true 41 (.ldl 40 2 (.s 39) 5 true), .g 38 true 42 (.fad 41 (.s 3) 5), .g 38 true 43 (.ldl 42 3 (.s 41) 5 true), .g 38 true 44 (.call 44 29 false [(.s 40),(.s 42)]), .i (.pick 44 (.s 38) (.s 43) (qb false)),qm 4 44]) .ret))⟩
theorem y4:cd mB=some mU:=by kernel_rfl
theorem eb (a b:Head) (ha:a.wf) (hb:b.wf):VC cd mB (aB [(true,a.c),(true,b.c)]) (fun rs _=>rs=bl (dR a b)):=by
 refine aa y4 rfl ?_
 simp(disch:=omega) [mU,Head.c,VY]
 refine ab (fun h1=> ?_) (fun h1=> ?_) <;>simp(disch:=omega) [h1,dR,VY]
 refine ab (fun h2=> ?_) (fun h2=> ?_) <;>simp(disch:=omega) [h1,h2,VY]
 refine ab (fun h3=> ?_) (fun h3=> ?_) <;>simp(disch:=omega) [h1,h2,h3,VY]
 refine ao (aD a.parent b.parent) ?_
 simp(disch:=omega) [h1,h2,h3,VY]
 refine ab (fun h4=> ?_) (fun h4=> ?_) <;>simp(disch:=omega) [h1,h2,h3,h4,VY]
 refine ao (aD a.root b.root) ?_
 simp(disch:=omega) [h1,h2,h3,h4,VY]
 refine ab (fun h5=> ?_) (fun h5=> ?_) <;>simp(disch:=omega) [h1,h2,h3,h4,h5,VY]
 refine ao (fv a.qc b.qc ha.2.2.2.2.2 hb.2.2.2.2.2) ?_ (ha:=by first|rfl|(simp[Qc.c,VY] <;>repeat' constructor))
 simp(disch:=omega) [h1,h2,h3,h4,h5,VY]
abbrev nq:Nat:=300
def mD:AF:=⟨2,6,[.tmp 4],(.seq (.ops [.i (.lbox 2 (.s 0)), .i (.lbox 3 (.s 1)), .i (.mov 4 (qb false))]) (.seq (.ops [qf 5 2 0,ql 6 2 5 1 false,qf 7 3 0,ql 8 3 7 1 false,qd 9 .eql 6 8,qm 10 9, .g 10 true 12 (.fad 11 (.s 2) 1), .g 10 true 13 (.ldl 12 2 (.s 11) 1 false), .g 10 true 14 (.fad 13 (.s 3) 1), .g 10 true 15 (.ldl 14 3 (.s 13) 1 false), .g 10 true 16 (.bin 15 .eql (.s 12) (.s 14)), .i (.pick 16 (.s 10) (.s 15) (qb false)),qm 17 16, .g 17 true 19 (.fad 18 (.s 2) 2), .g 17 true 20 (.ldl 19 2 (.s 18) 1 false), .g 17 true 21 (.fad 20 (.s 3) 2), .g 17 true 22 (.ldl 21 3 (.s 20) 1 false), .g 17 true 23 (.bin 22 .eql (.s 19) (.s 21)), .i (.pick 23 (.s 17) (.s 22) (qb false)),qm 24 23, .g 24 true 26 (.fad 25 (.s 2) 3), .g 24 true 27 (.ldl 26 2 (.s 25) 1 false), .g 24 true 28 (.fad 27 (.s 3) 3), .g 24 true 29 (.ldl 28 3 (.s 27) 1 false), .g 24 true 30 (.call 30 329 false [(.s 26),(.s 28)]), .i (.pick 30 (.s 24) (.s 29) (qb false)),qm 31 30, .g 31 true 33 (.fad 32 (.s 2) 4), .g 31 true 34 (.ldl 33 2 (.s 32) 1 false), .g 31 true 35 (.fad 34 (.s 3) 4), .g 31 true 36 (.ldl 35 3 (.s 34) 1 false), .g 31 true 37 (.call 37 329 false [(.s 33),(.s 35)]), .i (.pick 37 (.s 31) (.s 36) (qb false)),qm 38 37, .g 38 true 40 (.fad 39 (.s 2) 5), .g 38 true 41 (.ldl 40 2 (.s 39) 5 true), .g 38 true 42 (.fad 41 (.s 3) 5), .g 38 true 43 (.ldl 42 3 (.s 41) 5 true), .g 38 true 44 (.call 44 299 false [(.s 40),(.s 42)]), .i (.pick 44 (.s 38) (.s 43) (qb false)),qm 4 44]) .ret))⟩
theorem zf:cd nq=some mD:=by kernel_rfl
theorem fU (a b:Head) (ha:a.wf) (hb:b.wf):VC cd nq (aB [(true,a.c),(true,b.c)]) (fun rs _=>rs=bl (dR a b)):=by
 refine aa zf rfl ?_
 simp(disch:=omega) [mD,Head.c,VY]
 refine ab (fun h1=> ?_) (fun h1=> ?_) <;>simp(disch:=omega) [h1,dR,VY]
 refine ab (fun h2=> ?_) (fun h2=> ?_) <;>simp(disch:=omega) [h1,h2,VY]
 refine ab (fun h3=> ?_) (fun h3=> ?_) <;>simp(disch:=omega) [h1,h2,h3,VY]
 refine ao (aU a.parent b.parent) ?_
 simp(disch:=omega) [h1,h2,h3,VY]
 refine ab (fun h4=> ?_) (fun h4=> ?_) <;>simp(disch:=omega) [h1,h2,h3,h4,VY]
 refine ao (aU a.root b.root) ?_
 simp(disch:=omega) [h1,h2,h3,h4,VY]
 refine ab (fun h5=> ?_) (fun h5=> ?_) <;>simp(disch:=omega) [h1,h2,h3,h4,h5,VY]
 refine ao (hZ a.qc b.qc ha.2.2.2.2.2 hb.2.2.2.2.2) ?_ (ha:=by first|rfl|(simp[Qc.c,VY] <;>repeat' constructor))
 simp(disch:=omega) [h1,h2,h3,h4,h5,VY]
def fY (a b:Block):Bool:=dR a.head b.head && decide (a.txs=b.txs)
abbrev j0:Nat:=36
def lb:AF:=⟨2,5,[.tmp 4],(.seq (.ops [.i (.lbox 2 (.s 0)), .i (.lbox 3 (.s 1)), .i (.mov 4 (qb false))]) (.seq (.ops [qf 5 2 0,ql 6 2 5 10 true,qf 7 3 0,ql 8 3 7 10 true, .i (.call 10 32 false [(.s 6),(.s 8)]),qm 10 9, .g 10 true 12 (.fad 11 (.s 2) 10), .g 10 true 13 (.ldl 12 2 (.s 11) 1 false), .g 10 true 14 (.fad 13 (.s 3) 10), .g 10 true 15 (.ldl 14 3 (.s 13) 1 false), .g 10 true 16 (.call 16 107 false [(.s 12),(.s 14)]), .i (.pick 16 (.s 10) (.s 15) (qb false)),qm 4 16]) .ret))⟩
theorem xC:cd j0=some lb:=by kernel_rfl
theorem jq (a b:Block) (ha:a.wc) (hb:b.wc):VC cd j0 (aB [(true,a.c),(true,b.c)]) (fun rs _=>rs=bl (fY a b)):=by
 refine aa xC rfl ?_
 simp(disch:=omega) [lb,Block.c,Head.c,VY]
 refine ao (eb a.head b.head ha.1.1 hb.1.1) ?_ (ha:=by first|rfl|(simp[Head.c,VY] <;>repeat' constructor))
 simp(disch:=omega) [VY]
 refine an (fun h1=> ?_) (fun h1=> ?_) <;>simp(disch:=omega) [h1,fY,VY]
 refine ao (f5 a.txs b.txs ha.2.1 hb.2.1) ?_
 simp(disch:=omega) [h1,VY]
abbrev kH:Nat:=301
def kI:AF:=⟨2,5,[.tmp 4],(.seq (.ops [.i (.lbox 2 (.s 0)), .i (.lbox 3 (.s 1)), .i (.mov 4 (qb false))]) (.seq (.ops [qf 5 2 0,ql 6 2 5 10 true,qf 7 3 0,ql 8 3 7 10 true, .i (.call 10 300 false [(.s 6),(.s 8)]),qm 10 9, .g 10 true 12 (.fad 11 (.s 2) 10), .g 10 true 13 (.ldl 12 2 (.s 11) 1 false), .g 10 true 14 (.fad 13 (.s 3) 10), .g 10 true 15 (.ldl 14 3 (.s 13) 1 false), .g 10 true 16 (.call 16 336 false [(.s 12),(.s 14)]), .i (.pick 16 (.s 10) (.s 15) (qb false)),qm 4 16]) .ret))⟩
theorem xl:cd kH=some kI:=by kernel_rfl
theorem vD (a b:Block) (ha:a.wc) (hb:b.wc):VC cd kH (aB [(true,a.c),(true,b.c)]) (fun rs _=>rs=bl (fY a b)):=by
 refine aa xl rfl ?_
 simp(disch:=omega) [kI,Block.c,Head.c,VY]
 refine ao (fU a.head b.head ha.1.1 hb.1.1) ?_ (ha:=by first|rfl|(simp[Head.c,VY] <;>repeat' constructor))
 simp(disch:=omega) [VY]
 refine an (fun h1=> ?_) (fun h1=> ?_) <;>simp(disch:=omega) [h1,fY,VY]
 refine ao (fV a.txs b.txs ha.2.1 hb.2.1) ?_
 simp(disch:=omega) [h1,VY]
structure aN where
 height:Int
 n:Int
 idx:Int
 tx:Bytes
 path:List Bytes
def aN.c (x:aN):List D:= [.int .i64 x.height, .int .i64 x.n, .int .i64 x.idx, .sl (bytes x.tx), .sl (bm x.path)]
def aN.wc (x:aN):Prop:=lq x.height∧lq x.n∧lq x.idx∧Sz x.tx.length∧mY x.path
def aN.o (x:aN):List E:= [.p (.int .i64 x.height), .p (.int .i64 x.n), .p (.int .i64 x.idx), .o true (some (5,1)) (bytes x.tx), .o true (some (22,1)) (bm x.path)]
def ix (a b:aN):Bool:=decide (a.height=b.height) && decide (a.n=b.n) && decide (a.idx=b.idx) && decide (a.tx=b.tx) && decide (a.path=b.path)
abbrev nc:Nat:=45
def nV:AF:=⟨2,6,[.tmp 4],(.seq (.ops [.i (.lbox 2 (.s 0)), .i (.lbox 3 (.s 1)), .i (.mov 4 (qb false))]) (.seq (.ops [qf 5 2 0,ql 6 2 5 1 false,qf 7 3 0,ql 8 3 7 1 false,qd 9 .eql 6 8,qm 10 9, .g 10 true 12 (.fad 11 (.s 2) 1), .g 10 true 13 (.ldl 12 2 (.s 11) 1 false), .g 10 true 14 (.fad 13 (.s 3) 1), .g 10 true 15 (.ldl 14 3 (.s 13) 1 false), .g 10 true 16 (.bin 15 .eql (.s 12) (.s 14)), .i (.pick 16 (.s 10) (.s 15) (qb false)),qm 17 16, .g 17 true 19 (.fad 18 (.s 2) 2), .g 17 true 20 (.ldl 19 2 (.s 18) 1 false), .g 17 true 21 (.fad 20 (.s 3) 2), .g 17 true 22 (.ldl 21 3 (.s 20) 1 false), .g 17 true 23 (.bin 22 .eql (.s 19) (.s 21)), .i (.pick 23 (.s 17) (.s 22) (qb false)),qm 24 23, .g 24 true 26 (.fad 25 (.s 2) 3), .g 24 true 27 (.ldl 26 2 (.s 25) 1 false), .g 24 true 28 (.fad 27 (.s 3) 3), .g 24 true 29 (.ldl 28 3 (.s 27) 1 false), .g 24 true 30 (.call 30 21 false [(.s 26),(.s 28)]), .i (.pick 30 (.s 24) (.s 29) (qb false)),qm 31 30, .g 31 true 33 (.fad 32 (.s 2) 4), .g 31 true 34 (.ldl 33 2 (.s 32) 1 false), .g 31 true 35 (.fad 34 (.s 3) 4), .g 31 true 36 (.ldl 35 3 (.s 34) 1 false), .g 31 true 37 (.call 37 107 false [(.s 33),(.s 35)]), .i (.pick 37 (.s 31) (.s 36) (qb false)),qm 4 37]) .ret))⟩
theorem yX:cd nc=some nV:=by kernel_rfl
theorem kn (a b:aN) (ha:a.wc) (hb:b.wc):VC cd nc (aB [(true,a.c),(true,b.c)]) (fun rs _=>rs=bl (ix a b)):=by
 refine aa yX rfl ?_
 simp(disch:=omega) [nV,aN.c,VY]
 refine ab (fun h1=> ?_) (fun h1=> ?_) <;>simp(disch:=omega) [h1,ix,VY]
 refine ab (fun h2=> ?_) (fun h2=> ?_) <;>simp(disch:=omega) [h1,h2,VY]
 refine ab (fun h3=> ?_) (fun h3=> ?_) <;>simp(disch:=omega) [h1,h2,h3,VY]
 refine ao (aD a.tx b.tx) ?_
 simp(disch:=omega) [h1,h2,h3,VY]
 refine ab (fun h4=> ?_) (fun h4=> ?_) <;>simp(disch:=omega) [h1,h2,h3,h4,VY]
 refine ao (f5 a.path b.path ha.2.2.2.2.1 hb.2.2.2.2.1) ?_
 simp(disch:=omega) [h1,h2,h3,h4,VY]
abbrev nP:Nat:=304
def nJ:AF:=⟨2,6,[.tmp 4],(.seq (.ops [.i (.lbox 2 (.s 0)), .i (.lbox 3 (.s 1)), .i (.mov 4 (qb false))]) (.seq (.ops [qf 5 2 0,ql 6 2 5 1 false,qf 7 3 0,ql 8 3 7 1 false,qd 9 .eql 6 8,qm 10 9, .g 10 true 12 (.fad 11 (.s 2) 1), .g 10 true 13 (.ldl 12 2 (.s 11) 1 false), .g 10 true 14 (.fad 13 (.s 3) 1), .g 10 true 15 (.ldl 14 3 (.s 13) 1 false), .g 10 true 16 (.bin 15 .eql (.s 12) (.s 14)), .i (.pick 16 (.s 10) (.s 15) (qb false)),qm 17 16, .g 17 true 19 (.fad 18 (.s 2) 2), .g 17 true 20 (.ldl 19 2 (.s 18) 1 false), .g 17 true 21 (.fad 20 (.s 3) 2), .g 17 true 22 (.ldl 21 3 (.s 20) 1 false), .g 17 true 23 (.bin 22 .eql (.s 19) (.s 21)), .i (.pick 23 (.s 17) (.s 22) (qb false)),qm 24 23, .g 24 true 26 (.fad 25 (.s 2) 3), .g 24 true 27 (.ldl 26 2 (.s 25) 1 false), .g 24 true 28 (.fad 27 (.s 3) 3), .g 24 true 29 (.ldl 28 3 (.s 27) 1 false), .g 24 true 30 (.call 30 329 false [(.s 26),(.s 28)]), .i (.pick 30 (.s 24) (.s 29) (qb false)),qm 31 30, .g 31 true 33 (.fad 32 (.s 2) 4), .g 31 true 34 (.ldl 33 2 (.s 32) 1 false), .g 31 true 35 (.fad 34 (.s 3) 4), .g 31 true 36 (.ldl 35 3 (.s 34) 1 false), .g 31 true 37 (.call 37 336 false [(.s 33),(.s 35)]), .i (.pick 37 (.s 31) (.s 36) (qb false)),qm 4 37]) .ret))⟩
theorem zN:cd nP=some nJ:=by kernel_rfl
theorem x6 (a b:aN) (ha:a.wc) (hb:b.wc):VC cd nP (aB [(true,a.c),(true,b.c)]) (fun rs _=>rs=bl (ix a b)):=by
 refine aa zN rfl ?_
 simp(disch:=omega) [nJ,aN.c,VY]
 refine ab (fun h1=> ?_) (fun h1=> ?_) <;>simp(disch:=omega) [h1,ix,VY]
 refine ab (fun h2=> ?_) (fun h2=> ?_) <;>simp(disch:=omega) [h1,h2,VY]
 refine ab (fun h3=> ?_) (fun h3=> ?_) <;>simp(disch:=omega) [h1,h2,h3,VY]
 refine ao (aU a.tx b.tx) ?_
 simp(disch:=omega) [h1,h2,h3,VY]
 refine ab (fun h4=> ?_) (fun h4=> ?_) <;>simp(disch:=omega) [h1,h2,h3,h4,VY]
 refine ao (fV a.path b.path ha.2.2.2.2.1 hb.2.2.2.2.1) ?_
 simp(disch:=omega) [h1,h2,h3,h4,VY]
abbrev ic:Nat:=209
def iw:AF:=⟨1,5,[.cell 2 5 true],(.seq (.ops [.i (.lbox 1 (.s 0)), .i (.lal 2 [.int .i64 0, .int .i64 0, .int .i64 0, .nils, .nils])]) (.seq (.ops [qf 3 1 0,ql 4 1 3 1 false,qf 5 1 1,ql 6 1 5 1 false,qf 7 1 2,ql 8 1 7 1 false,qf 9 1 3,ql 10 1 9 1 false,qk 12 93 10,qf 12 1 4,ql 13 1 12 1 false,qk 15 277 13, .i (.bld 15 [.int .i64 0, .int .i64 0, .int .i64 0, .nils, .nils] [(0,1,(.s 4)),(1,1,(.s 6)),(2,1,(.s 8)),(3,1,(.s 11)),(4,1,(.s 14))]),qs 2 2 15 5]) .ret))⟩
theorem uL:cd ic=some iw:=by kernel_rfl
theorem Bt (x:aN) (hw:x.wc):VC cd ic (aB [(true,x.c)]) (fun rs _=>rs= [(true,x.o)]):=by
 have w:=hw.2.2.2.1
 simp only[Sz]at w
 refine aa uL rfl ?_
 simp(disch:=omega) [iw,aN.c,VY]
 refine ao (aI x.tx (by omega)) ?_
 simp(disch:=omega) [VY]
 refine ao (pv x.path hw.2.2.2.2) ?_
 simp(disch:=omega) [aN.o,VY]
abbrev qx:Nat:=275
def rX:AF:=⟨1,5,[.cell 2 5 true],(.seq (.ops [.i (.lbox 1 (.s 0)), .i (.lal 2 [.int .i64 0, .int .i64 0, .int .i64 0, .nils, .nils])]) (.seq (.ops [qf 3 1 0,ql 4 1 3 1 false,qf 5 1 1,ql 6 1 5 1 false,qf 7 1 2,ql 8 1 7 1 false,qf 9 1 3,ql 10 1 9 1 false,qk 12 143 10,qf 12 1 4,ql 13 1 12 1 false,qk 15 316 13, .i (.bld 15 [.int .i64 0, .int .i64 0, .int .i64 0, .nils, .nils] [(0,1,(.s 4)),(1,1,(.s 6)),(2,1,(.s 8)),(3,1,(.s 11)),(4,1,(.s 14))]),qs 2 2 15 5]) .ret))⟩
theorem Cu:cd qx=some rX:=by kernel_rfl
theorem HA (x:aN) (hw:x.wc):VC cd qx (aB [(true,x.c)]) (fun rs _=>rs= [(true,x.o)]):=by
 have w:=hw.2.2.2.1
 simp only[Sz]at w
 refine aa Cu rfl ?_
 simp(disch:=omega) [rX,aN.c,VY]
 refine ao (bY x.tx (by omega)) ?_
 simp(disch:=omega) [VY]
 refine ao (l6 x.path hw.2.2.2.2) ?_
 simp(disch:=omega) [aN.o,VY]
def cW {α:Type} (f:α→α→Bool) (a b:List α):Bool:=decide (a.length=b.length) && (List.range b.length).all fun i=>match a[i]?,b[i]? with|some x,some y=>f x y|_,_=>false
theorem js {α:Type} {f:α→α→Bool} {a b:List α} (h:¬a.length=b.length):cW f a b=false:=by unfold cW;rw[decide_eq_false h];rfl
theorem fT {α:Type} {f:α→α→Bool} {a b:List α} {i:Nat} (hi:i < a.length) (hj:i < b.length) (h:f a[i] b[i]=false):cW f a b=false:=by
 unfold cW
 rw[Bool.and_eq_false_iff]
 right
 rw[List.all_eq_false]
 exact⟨i,by simp[hj],by simp[hi,hj,h]⟩
theorem jb {α:Type} {f:α→α→Bool} {a b:List α} (hl:a.length=b.length) (h:∀i,i < b.length→(hi:i < a.length)→(hj:i < b.length)→f a[i] b[i]=true):cW f a b=true:=by
 unfold cW
 rw[Bool.and_eq_true,List.all_eq_true]
 refine⟨by simp[hl],fun i hi=> ?_⟩
 have hj:i < b.length:=by simpa using hi
 have hi2:i < a.length:=by omega
 simp[hi2,hj,h i hj hi2 hj]
theorem wE {α:Type} {f:α→α→Bool} {a b:List α} {i:Nat} (hd:∀j,j < i→(hi:j < a.length)→(hj:j < b.length)→f a[j] b[j]=true) {hi:i < a.length} {hj:i < b.length} (h:f a[i] b[i]=true):∀j,j < i+1→(hi:j < a.length)→(hj:j < b.length)→f a[j] b[j]=true:=fun j h2 hx hy=>by
 rcases Nat.lt_or_ge j i with hl|hl
 ·exact hd j hl hx hy
 ·obtain rfl:j=i:=by omega
  exact h
def d8 (a b:List Head):Bool:=cW dR a b
def d7 (a b:Proof):Bool:=d8 a.heads b.heads && l3 a.qc b.qc
abbrev ks:Nat:=124
def kC:AF:=⟨2,5,[.tmp 4],(.seq (.ops [.i (.mov 4 (qb false))]) (.seq (.seq (.ops [qm 6 0,qn 7 6,qm 8 1,qn 9 8,qd 10 .neq 7 9]) (.cond (.s 10) (.seq (.ops [.i (.mov 4 (qb false))]) .ret) .skip)) (.seq (.seq (.ops [qm 11 0,qn 12 11, .i (.mov 13 (qi 0))]) (.block 0 (.loop [26,25,24,23,22,21,20,19,18,17,16,15,14,5] (.seq (.ops [qd 14 .lss 13 12]) (.seq (.cond (.s 14) .skip (.exit 0)) (.seq (.block 1 (.seq (.ops [qm 15 13,qm 5 15]) (.seq (.ops [qm 16 0,qm 17 5, .i (.iad 18 (.s 16) (.s 17) 10), .i (.ldh 19 (.s 18) 10 true),qm 20 1,qm 21 5, .i (.iad 22 (.s 20) (.s 21) 10), .i (.ldh 23 (.s 22) 10 true), .i (.call 25 32 false [(.s 19),(.s 23)]), .i (.not 25 (.s 24))]) (.cond (.s 25) (.seq (.ops [.i (.mov 4 (qb false))]) .ret) .skip)))) (.ops [.i (.bin 26 .add (.s 13) (qi 1)),qm 13 26]))))))) (.seq (.ops [.i (.mov 4 (qb true))]) .ret))))⟩
theorem xu:cd ks=some kC:=by kernel_rfl
theorem vP (a b:List Head) (ha:su a) (hb:su b):VC cd ks (aB [(false,[.sl (el a)]),(false,[.sl (el b)])]) (fun rs _=>rs=bl (d8 a b)):=by
 obtain⟨w1,w2⟩:=ha
 obtain⟨w3,w4⟩:=hb
 simp only[Sz]at w1 w3
 refine aa xu rfl ?_
 simp(disch:=omega) [kC,bS,VY]
 refine ab (fun h1=> ?_) (fun h1=> ?_)
 case refine_2=>
  have hn:d8 a b=false:=js (fun e=>h1 (by omega))
  simp(disch:=omega) [h1,hn,VY]
 simp(disch:=omega) [h1,bS,VY]
 refine cQ (σ:=Nat) (f1:=_) (es0:=_) (by simp(disch:=omega) [VY];rfl) (by simp(disch:=omega) [VY];rfl) (fun i=> [(13, .val false [.int .i64 (i:Int)])]) (fun _=> []) (fun i g=>g+i=b.length∧∀j,j < i→(hi:j < a.length)→(hj:j < b.length)→dR a[j] b[j]=true) 0 b.length (by simp(disch:=omega) [h1,VY]) (by simp(disch:=omega) [VY]) ⟨by omega,fun j hj=>by omega⟩ ?_
 rintro i n g ⟨hg,hd⟩ P hP
 simp(disch:=omega) [h1,VY]
 refine ab (fun h2=> ?_) (fun h2=> ?_)
 ·have hi:i < a.length:=by omega
  have hj:i < b.length:=by omega
  simp(disch:=omega) [eB hi,eB hj,Head.c,VY]
  refine ao (eb a[i] b[i] (w2 _ (List.getElem_mem hi)) (w4 _ (List.getElem_mem hj))) ?_ (ha:=by first|rfl|(simp[Head.c,VY] <;>repeat' constructor))
  simp(disch:=omega) [VY]
  refine an (fun h3=> ?_) (fun h3=> ?_)
  ·simp(disch:=omega) [h3,VY]
   exact hP (i+1) (g - 1) _ _ (by omega) ⟨by omega,wE hd h3⟩ (by simp(disch:=omega) [VY]) (by simp(disch:=omega) [VY])
  ·simp(disch:=omega) [h3,show d8 a b=false from fT hi hj h3,VY]
 ·have he:d8 a b=true:=jb (by omega) (fun i h hi hj=>hd i (by omega) hi hj)
  simp(disch:=omega) [he,VY]
abbrev jV:Nat:=42
def kT:AF:=⟨2,5,[.tmp 4],(.seq (.ops [.i (.lbox 2 (.s 0)), .i (.lbox 3 (.s 1)), .i (.mov 4 (qb false))]) (.seq (.ops [qf 5 2 0,ql 6 2 5 1 false,qf 7 3 0,ql 8 3 7 1 false, .i (.call 10 124 false [(.s 6),(.s 8)]),qm 10 9, .g 10 true 12 (.fad 11 (.s 2) 1), .g 10 true 13 (.ldl 12 2 (.s 11) 5 true), .g 10 true 14 (.fad 13 (.s 3) 1), .g 10 true 15 (.ldl 14 3 (.s 13) 5 true), .g 10 true 16 (.call 16 29 false [(.s 12),(.s 14)]), .i (.pick 16 (.s 10) (.s 15) (qb false)),qm 4 16]) .ret))⟩
theorem xt:cd jV=some kT:=by kernel_rfl
theorem iV (a b:Proof) (ha:a.wf) (hb:b.wf):VC cd jV (aB [(true,a.c),(true,b.c)]) (fun rs _=>rs=bl (d7 a b)):=by
 refine aa xt rfl ?_
 simp(disch:=omega) [kT,Proof.c,VY]
 refine ao (vP a.heads b.heads ha.1 hb.1) ?_
 simp(disch:=omega) [VY]
 refine an (fun h1=> ?_) (fun h1=> ?_) <;>simp(disch:=omega) [h1,d7,VY]
 refine ao (fv a.qc b.qc ha.2 hb.2) ?_ (ha:=by first|rfl|(simp[Qc.c,VY] <;>repeat' constructor))
 simp(disch:=omega) [h1,VY]
abbrev ll:Nat:=303
def kL:AF:=⟨2,6,[.tmp 4],(.seq (.ops [.i (.lbox 2 (.s 0)), .i (.lbox 3 (.s 1)), .i (.mov 4 (qb false))]) (.seq (.seq (.ops [qf 6 2 0,ql 7 2 6 1 false,qn 8 7,qf 9 3 0,ql 10 3 9 1 false,qn 11 10,qd 12 .neq 8 11]) (.cond (.s 12) (.seq (.ops [.i (.mov 4 (qb false))]) .ret) .skip)) (.seq (.seq (.ops [qf 13 2 0,ql 14 2 13 1 false,qn 15 14, .i (.mov 16 (qi 0))]) (.block 0 (.loop [31,30,29,28,27,26,25,24,23,22,21,20,19,18,17,5] (.seq (.ops [qd 17 .lss 16 15]) (.seq (.cond (.s 17) .skip (.exit 0)) (.seq (.block 1 (.seq (.ops [qm 18 16,qm 5 18]) (.seq (.ops [qf 19 2 0,ql 20 2 19 1 false,qm 21 5, .i (.iad 22 (.s 20) (.s 21) 10), .i (.ldh 23 (.s 22) 10 true),qf 24 3 0,ql 25 3 24 1 false,qm 26 5, .i (.iad 27 (.s 25) (.s 26) 10), .i (.ldh 28 (.s 27) 10 true), .i (.call 30 300 false [(.s 23),(.s 28)]), .i (.not 30 (.s 29))]) (.cond (.s 30) (.seq (.ops [.i (.mov 4 (qb false))]) .ret) .skip)))) (.ops [.i (.bin 31 .add (.s 16) (qi 1)),qm 16 31]))))))) (.seq (.ops [qf 32 2 1,ql 33 2 32 5 true,qf 34 3 1,ql 35 3 34 5 true, .i (.call 37 299 false [(.s 33),(.s 35)]),qm 4 36]) .ret))))⟩
theorem xh:cd ll=some kL:=by kernel_rfl
theorem wC (a b:Proof) (ha:a.wf) (hb:b.wf):VC cd ll (aB [(true,a.c),(true,b.c)]) (fun rs _=>rs=bl (d7 a b)):=by
 obtain⟨⟨w1,w2⟩,wa⟩:=ha
 obtain⟨⟨w3,w4⟩,wb⟩:=hb
 simp only[Sz]at w1 w3
 refine aa xh rfl ?_
 simp(disch:=omega) [kL,Proof.c,bS,VY]
 refine ab (fun h1=> ?_) (fun h1=> ?_)
 case refine_2=>
  have hn:d8 a.heads b.heads=false:=js (fun e=>h1 (by omega))
  simp(disch:=omega) [h1,hn,d7,VY]
 simp(disch:=omega) [h1,bS,VY]
 refine cQ (σ:=Nat) (f1:=_) (es0:=_) (by simp(disch:=omega) [VY];rfl) (by simp(disch:=omega) [VY];rfl) (fun i=> [(16, .val false [.int .i64 (i:Int)])]) (fun _=> []) (fun i g=>g+i=b.heads.length∧∀j,j < i→(hi:j < a.heads.length)→(hj:j < b.heads.length)→dR a.heads[j] b.heads[j]=true) 0 b.heads.length (by simp(disch:=omega) [h1,VY]) (by simp(disch:=omega) [VY]) ⟨by omega,fun j hj=>by omega⟩ ?_
 rintro i n g ⟨hg,hd⟩ P hP
 simp(disch:=omega) [h1,VY]
 refine ab (fun h2=> ?_) (fun h2=> ?_)
 ·have hi:i < a.heads.length:=by omega
  have hj:i < b.heads.length:=by omega
  simp(disch:=omega) [eB hi,eB hj,Head.c,VY]
  refine ao (fU a.heads[i] b.heads[i] (w2 _ (List.getElem_mem hi)) (w4 _ (List.getElem_mem hj))) ?_ (ha:=by first|rfl|(simp[Head.c,VY] <;>repeat' constructor))
  simp(disch:=omega) [VY]
  refine an (fun h3=> ?_) (fun h3=> ?_)
  ·simp(disch:=omega) [h3,VY]
   exact hP (i+1) (g - 1) _ _ (by omega) ⟨by omega,wE hd h3⟩ (by simp(disch:=omega) [VY]) (by simp(disch:=omega) [VY])
  ·simp(disch:=omega) [h3,show d8 a.heads b.heads=false from fT hi hj h3,d7,VY]
 ·have he:d8 a.heads b.heads=true:=jb (by omega) (fun i h hi hj=>hd i (by omega) hi hj)
  simp(disch:=omega) [VY]
  refine ao (hZ a.qc b.qc wa wb) ?_ (ha:=by first|rfl|(simp[Qc.c,VY] <;>repeat' constructor))
  simp(disch:=omega) [he,d7,VY]
def cL (a b:Entry):Bool:=decide (a.who=b.who) && decide (a.high=b.high) && decide (a.tag=b.tag)
def eK (a b:Tc):Bool:=decide (a.view=b.view) && cW cL a.entries b.entries
abbrev lp:Nat:=120
def jU:AF:=⟨2,5,[.tmp 4],(.seq (.ops [.i (.lbox 2 (.s 0)), .i (.lbox 3 (.s 1)), .i (.mov 4 (qb false))]) (.seq (.ops [qf 5 2 0,ql 6 2 5 1 false,qf 7 3 0,ql 8 3 7 1 false,qd 9 .eql 6 8,qm 10 9, .g 10 true 12 (.fad 11 (.s 2) 1), .g 10 true 13 (.ldl 12 2 (.s 11) 1 false), .g 10 true 14 (.fad 13 (.s 3) 1), .g 10 true 15 (.ldl 14 3 (.s 13) 1 false), .g 10 true 16 (.bin 15 .eql (.s 12) (.s 14)), .i (.pick 16 (.s 10) (.s 15) (qb false)),qm 17 16, .g 17 true 19 (.fad 18 (.s 2) 2), .g 17 true 20 (.ldl 19 2 (.s 18) 1 false), .g 17 true 21 (.fad 20 (.s 3) 2), .g 17 true 22 (.ldl 21 3 (.s 20) 1 false), .g 17 true 23 (.call 23 21 false [(.s 19),(.s 21)]), .i (.pick 23 (.s 17) (.s 22) (qb false)),qm 4 23]) .ret))⟩
theorem wX:cd lp=some jU:=by kernel_rfl
theorem wv (a b:Entry):VC cd lp (aB [(true,a.c),(true,b.c)]) (fun rs _=>rs=bl (cL a b)):=by
 refine aa wX rfl ?_
 simp(disch:=omega) [jU,Entry.c,VY]
 refine ab (fun h1=> ?_) (fun h1=> ?_) <;>simp(disch:=omega) [h1,cL,VY]
 refine ab (fun h2=> ?_) (fun h2=> ?_) <;>simp(disch:=omega) [h1,h2,VY]
 refine ao (aD a.tag b.tag) ?_
 simp(disch:=omega) [h1,h2,VY]
abbrev td:Nat:=39
def tq:AF:=⟨2,6,[.tmp 4],(.seq (.ops [.i (.lbox 2 (.s 0)), .i (.lbox 3 (.s 1)), .i (.mov 4 (qb false))]) (.seq (.seq (.ops [qf 6 2 0,ql 7 2 6 1 false,qf 8 3 0,ql 9 3 8 1 false,qd 10 .neq 7 9,qm 11 10, .g 11 false 13 (.fad 12 (.s 2) 1), .g 11 false 14 (.ldl 13 2 (.s 12) 1 false), .g 11 false 15 (.len 14 false (.s 13)), .g 11 false 16 (.fad 15 (.s 3) 1), .g 11 false 17 (.ldl 16 3 (.s 15) 1 false), .g 11 false 18 (.len 17 false (.s 16)), .g 11 false 19 (.bin 18 .neq (.s 14) (.s 17)), .i (.pick 19 (.s 11) (qb true) (.s 18))]) (.cond (.s 19) (.seq (.ops [.i (.mov 4 (qb false))]) .ret) .skip)) (.seq (.seq (.ops [qf 20 2 1,ql 21 2 20 1 false,qn 22 21, .i (.mov 23 (qi 0))]) (.block 0 (.loop [38,37,36,35,34,33,32,31,30,29,28,27,26,25,24,5] (.seq (.ops [qd 24 .lss 23 22]) (.seq (.cond (.s 24) .skip (.exit 0)) (.seq (.block 1 (.seq (.ops [qm 25 23,qm 5 25]) (.seq (.ops [qf 26 2 1,ql 27 2 26 1 false,qm 28 5, .i (.iad 29 (.s 27) (.s 28) 3), .i (.ldh 30 (.s 29) 3 true),qf 31 3 1,ql 32 3 31 1 false,qm 33 5, .i (.iad 34 (.s 32) (.s 33) 3), .i (.ldh 35 (.s 34) 3 true), .i (.call 37 120 false [(.s 30),(.s 35)]), .i (.not 37 (.s 36))]) (.cond (.s 37) (.seq (.ops [.i (.mov 4 (qb false))]) .ret) .skip)))) (.ops [.i (.bin 38 .add (.s 23) (qi 1)),qm 23 38]))))))) (.seq (.ops [.i (.mov 4 (qb true))]) .ret))))⟩
theorem CK:cd td=some tq:=by kernel_rfl
theorem oj (a b:Tc) (ha:a.wf) (hb:b.wf):VC cd td (aB [(true,a.c),(true,b.c)]) (fun rs _=>rs=bl (eK a b)):=by
 have w1:=ha.2.1
 have w3:=hb.2.1
 simp only[Sz]at w1 w3
 refine aa CK rfl ?_
 simp(disch:=omega) [tq,Tc.c,bK,VY]
 refine ab (fun h0=> ?_) (fun h0=> ?_)
 case refine_2=>simp(disch:=omega) [h0,eK,VY]
 simp(disch:=omega) [h0,bK,VY]
 refine ab (fun h1=> ?_) (fun h1=> ?_)
 case refine_2=>
  have hn:cW cL a.entries b.entries=false:=js (fun e=>h1 (by omega))
  simp(disch:=omega) [h0,h1,hn,eK,VY]
 simp(disch:=omega) [h0,h1,bK,VY]
 refine cQ (σ:=Nat) (f1:=_) (es0:=_) (by simp(disch:=omega) [VY];rfl) (by simp(disch:=omega) [VY];rfl) (fun i=> [(23, .val false [.int .i64 (i:Int)])]) (fun _=> []) (fun i g=>g+i=b.entries.length∧∀j,j < i→(hi:j < a.entries.length)→(hj:j < b.entries.length)→cL a.entries[j] b.entries[j]=true) 0 b.entries.length (by simp(disch:=omega) [h1,VY]) (by simp(disch:=omega) [VY]) ⟨by omega,fun j hj=>by omega⟩ ?_
 rintro i n g ⟨hg,hd⟩ P hP
 simp(disch:=omega) [h1,VY]
 refine ab (fun h2=> ?_) (fun h2=> ?_)
 ·have hi:i < a.entries.length:=by omega
  have hj:i < b.entries.length:=by omega
  simp(disch:=omega) [dL hi,dL hj,VY]
  refine ao (wv a.entries[i] b.entries[i]) ?_ (ha:=by first|rfl|(simp[Entry.c,VY] <;>repeat' constructor))
  simp(disch:=omega) [VY]
  refine an (fun h3=> ?_) (fun h3=> ?_)
  ·simp(disch:=omega) [h3,VY]
   exact hP (i+1) (g - 1) _ _ (by omega) ⟨by omega,wE hd h3⟩ (by simp(disch:=omega) [VY]) (by simp(disch:=omega) [VY])
  ·simp(disch:=omega) [h3,show cW cL a.entries b.entries=false from fT hi hj h3,eK,h0,VY]
 ·have he:cW cL a.entries b.entries=true:=jb (by omega) (fun i h hi hj=>hd i (by omega) hi hj)
  simp(disch:=omega) [he,h0,eK,VY]
abbrev tp:Nat:=302
def uo:AF:=⟨2,6,[.tmp 4],(.seq (.ops [.i (.lbox 2 (.s 0)), .i (.lbox 3 (.s 1)), .i (.mov 4 (qb false))]) (.seq (.seq (.ops [qf 8 2 0,ql 9 2 8 1 false,qf 10 3 0,ql 11 3 10 1 false,qd 12 .neq 9 11,qm 13 12, .g 13 false 15 (.fad 14 (.s 2) 1), .g 13 false 16 (.ldl 15 2 (.s 14) 1 false), .g 13 false 17 (.len 16 false (.s 15)), .g 13 false 18 (.fad 17 (.s 3) 1), .g 13 false 19 (.ldl 18 3 (.s 17) 1 false), .g 13 false 20 (.len 19 false (.s 18)), .g 13 false 21 (.bin 20 .neq (.s 16) (.s 19)), .i (.pick 21 (.s 13) (qb true) (.s 20))]) (.cond (.s 21) (.seq (.ops [.i (.mov 4 (qb false))]) .ret) .skip)) (.seq (.seq (.ops [qf 22 2 1,ql 23 2 22 1 false,qn 24 23, .i (.mov 25 (qi 0))]) (.block 0 (.loop [55,54,53,52,51,50,49,48,47,46,45,44,43,42,41,40,39,38,37,36,35,34,33,32,31,30,29,28,27,26,7,6,5] (.seq (.ops [qd 26 .lss 25 24]) (.seq (.cond (.s 26) .skip (.exit 0)) (.seq (.block 1 (.seq (.ops [qm 27 25, .i (.iad 28 (.s 23) (.s 25) 3), .i (.ldh 29 (.s 28) 3 true), .i (.lal 6 [.int .i64 0, .int .i64 0, .nils]),qm 5 27,qs 6 6 29 3]) (.seq (.ops [qf 30 3 1,ql 31 3 30 1 false,qm 32 5, .i (.iad 33 (.s 31) (.s 32) 3), .i (.ldh 34 (.s 33) 3 true), .i (.lal 7 [.int .i64 0, .int .i64 0, .nils]),qs 7 7 34 3]) (.seq (.ops [qf 35 6 0,ql 36 6 35 1 false,qf 37 7 0,ql 38 7 37 1 false,qd 39 .neq 36 38,qm 40 39, .g 40 false 42 (.fad 41 (.s 6) 1), .g 40 false 43 (.ldl 42 6 (.s 41) 1 false), .g 40 false 44 (.fad 43 (.s 7) 1), .g 40 false 45 (.ldl 44 7 (.s 43) 1 false), .g 40 false 46 (.bin 45 .neq (.s 42) (.s 44)), .i (.pick 46 (.s 40) (qb true) (.s 45)),qm 47 46, .g 47 false 49 (.fad 48 (.s 6) 2), .g 47 false 50 (.ldl 49 6 (.s 48) 1 false), .g 47 false 51 (.fad 50 (.s 7) 2), .g 47 false 52 (.ldl 51 7 (.s 50) 1 false), .g 47 false 53 (.call 53 329 false [(.s 49),(.s 51)]), .g 47 false 54 (.not 53 (.s 52)), .i (.pick 54 (.s 47) (qb true) (.s 53))]) (.cond (.s 54) (.seq (.ops [.i (.mov 4 (qb false))]) .ret) .skip))))) (.ops [.i (.bin 55 .add (.s 25) (qi 1)),qm 25 55]))))))) (.seq (.ops [.i (.mov 4 (qb true))]) .ret))))⟩
theorem CN:cd tp=some uo:=by kernel_rfl
theorem Bw (a b:Tc) (ha:a.wf) (hb:b.wf):VC cd tp (aB [(true,a.c),(true,b.c)]) (fun rs _=>rs=bl (eK a b)):=by
 have w1:=ha.2.1
 have w3:=hb.2.1
 simp only[Sz]at w1 w3
 refine aa CN rfl ?_
 simp(disch:=omega) [uo,Tc.c,bK,VY]
 refine ab (fun h0=> ?_) (fun h0=> ?_)
 case refine_2=>simp(disch:=omega) [h0,eK,VY]
 simp(disch:=omega) [h0,bK,VY]
 refine ab (fun h1=> ?_) (fun h1=> ?_)
 case refine_2=>
  have hn:cW cL a.entries b.entries=false:=js (fun e=>h1 (by omega))
  simp(disch:=omega) [h0,h1,hn,eK,VY]
 simp(disch:=omega) [h0,h1,bK,VY]
 refine cQ (σ:=Nat) (f1:=_) (es0:=_) (by simp(disch:=omega) [VY];rfl) (by simp(disch:=omega) [VY];rfl) (fun i=> [(25, .val false [.int .i64 (i:Int)])]) (fun _=> []) (fun i g=>g+i=b.entries.length∧∀j,j < i→(hi:j < a.entries.length)→(hj:j < b.entries.length)→cL a.entries[j] b.entries[j]=true) 0 b.entries.length (by simp(disch:=omega) [h1,VY]) (by simp(disch:=omega) [VY]) ⟨by omega,fun j hj=>by omega⟩ ?_
 rintro i n g ⟨hg,hd⟩ P hP
 simp(disch:=omega) [h1,VY]
 refine ab (fun h2=> ?_) (fun h2=> ?_)
 ·have hi:i < a.entries.length:=by omega
  have hj:i < b.entries.length:=by omega
  simp(disch:=omega) [dL hi,dL hj,VY]
  refine ab (fun h3=> ?_) (fun h3=> ?_)
  case refine_2=>
   have hn:cW cL a.entries b.entries=false:=fT hi hj (by simp[cL,h3])
   simp(disch:=omega) [h3,hn,eK,h0,VY]
  simp(disch:=omega) [h3,VY]
  refine ab (fun h4=> ?_) (fun h4=> ?_)
  case refine_2=>
   have hn:cW cL a.entries b.entries=false:=fT hi hj (by simp[cL,h4])
   simp(disch:=omega) [h3,h4,hn,eK,h0,VY]
  simp(disch:=omega) [h3,h4,VY]
  refine ao (aU a.entries[i].tag b.entries[i].tag) ?_
  simp(disch:=omega) [h3,h4,VY]
  refine ab (fun h5=> ?_) (fun h5=> ?_)
  ·simp(disch:=omega) [h3,h4,h5,VY]
   exact hP (i+1) (g - 1) _ _ (by omega) ⟨by omega,wE hd (hi:=hi) (hj:=hj) (by simp[cL,h3,h4,h5])⟩ (by simp(disch:=omega) [VY]) (by simp(disch:=omega) [VY])
  ·have hn:cW cL a.entries b.entries=false:=fT hi hj (by simp[cL,h5])
   simp(disch:=omega) [h3,h4,h5,hn,eK,h0,VY]
 ·have he:cW cL a.entries b.entries=true:=jb (by omega) (fun i h hi hj=>hd i (by omega) hi hj)
  simp(disch:=omega) [he,h0,eK,VY]
end Go.Eng.F
