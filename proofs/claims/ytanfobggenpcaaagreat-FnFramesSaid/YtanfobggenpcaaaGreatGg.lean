import Derived.Test.YtanfobggenpcaaaGreatGd
import Derived.Test.YtanfobggenpcaaaGreatGe
import Derived.Test.YtanfobggenpcaaaGreatGf
set_option maxRecDepth 100000
set_option linter.unusedSimpArgs false
set_option linter.unusedVariables false
namespace Go.Eng.F
def aO (n:Nat):Bytes:=if n < 128 then [UInt8.ofNat n]else UInt8.ofNat (n % 128+128)::aO (n / 128)
termination_by n
decreasing_by omega
theorem xS {n:Nat} (h:n < 128):aO n= [UInt8.ofNat n]:=by rw[aO,if_pos h]
theorem Bx {n:Nat} (h:¬n < 128):aO n=UInt8.ofNat (n % 128+128)::aO (n / 128):=by rw[aO,if_neg h]
theorem Il:∀(k n:Nat),n < 128 ^ (k+1)→(aO n).length≤k+1
 |0,n,h=>by rw[xS (by simpa using h)];simp
 |k+1,n,h=>by
  by_cases h1:n < 128
  ·rw[xS h1];simp
  ·rw[Bx h1]
   have:=Il k (n / 128) (by rw[Nat.div_lt_iff_lt_mul (by omega)];rw[Nat.pow_succ]at h;exact h)
   simp only[List.length_cons];omega
theorem b5 {n:Nat} (h:n≤1152921504606846975):(aO n).length≤9:=Il 8 n (by simp;omega)
theorem OC (n:Nat):0 < (aO n).length:=by
 rw[aO];split <;>simp
theorem SD {k:Nat} (h:k < 256):IntKind.u8.wrap (k:Int)=((UInt8.ofNat k).toNat:Int):=by
 simp only[UInt8.toNat_ofNat',IntKind.wrap,IntKind.bits,IntKind.signed]
 simp
def jD (b:Bytes) (n:Int):List (Bool×List E):=
 if isNum n then [(false,[.o true (some (5,1)) (bytes (b++aO n.toNat))]),(false,[.p (.bool true)])]else [(false,[.p .nils]),(false,[.p (.bool false)])]
theorem kE {n:Int} (h:isNum n=true):∃m:Nat,n=(m:Int)∧m≤1152921504606846975:=⟨n.toNat,by have:=cq h;omega⟩
abbrev kn:Nat:=164
def ug:AF:=⟨2,5,[.tmp 4, .tmp 5],(.seq (.ops [.i (.mov 4 (.c (.val false [.nils]))), .i (.mov 5 (qb false))]) (.seq (.seq (.ops [qm 7 1,qk 9 129 7, .i (.not 9 (.s 8))]) (.cond (.s 9) (.seq (.ops [.i (.mov 4 (.c (.val false [.nils]))), .i (.mov 5 (qb false))]) .ret) .skip)) (.seq (.ops [qm 10 0,qk 12 93 10,qm 6 11]) (.seq (.block 0 (.loop [22,21,20,19,18,17,16,15,14,13,12] (.seq (.seq (.ops [qm 12 1, .i (.bin 13 .geq (.s 12) (qi 128))]) (.cond (.s 13) .skip (.exit 0))) (.block 1 (.seq (.ops [qm 14 6,qm 15 1, .i (.bin 16 .rem (.s 15) (qi 128)), .i (.bin 17 .add (.s 16) (qi 128)), .i (.cvi 18 .u8 (.s 17)), .i (.lsl 19 1 1 [.int .u8 0] [(0,1,(.s 18))]), .i (.app 20 5 1 1 (.s 14) (.s 19)),qm 6 20]) (.ops [qm 21 1, .i (.bin 22 .quo (.s 21) (qi 128)),qm 1 22])))))) (.seq (.ops [qm 23 6,qm 24 1, .i (.cvi 25 .u8 (.s 24)), .i (.lsl 26 1 1 [.int .u8 0] [(0,1,(.s 25))]), .i (.app 27 5 1 1 (.s 23) (.s 26)),qm 4 27, .i (.mov 5 (qb true))]) .ret)))))⟩
theorem E6:cd kn=some ug:=by kernel_rfl
theorem B8 (b:Bytes) (n:Int) (hb:b.length≤1073741824):VC cd kn (aD [(false,[.sl (bytes b)]),(false,[.int .i64 n])]) (fun rs _=>rs=jD b n):=by
 refine aa E6 rfl ?_
 simp(disch:=omega) [ug,VY]
 refine ag (eM n) rfl rfl ?_
 simp(disch:=omega) [VY]
 refine ak (fun h1=> ?_) (fun h1=> ?_)
 case refine_2=>simp(disch:=omega) [jD,h1,VY]
 simp(disch:=omega) [h1,VY]
 refine ag (aI b (by omega)) rfl rfl ?_
 obtain⟨m,rfl,hm⟩:=kE h1
 have hl:=b5 hm
 simp(disch:=omega) [VY]
 refine aU (σ:=Nat×Bytes×Nat) (f1:=_) (es0:=_) (by simp(disch:=omega) [VY];rfl) (by simp(disch:=omega) [VY];rfl) (fun p=> [(1, .val false [.int .i64 (p.1:Int)]),(6, .val false [.ow 106496 p.2.2])]) (fun p=> [(106496, .sl p.2.2 true true (some (5,1)) (bytes p.2.1))])
  (fun p g=>g=p.1∧p.1≤m∧p.2.1++aO p.1=b++aO m) (m,b,_) m (by simp(disch:=omega) [VY];rfl) (by simp(disch:=omega) [VY]) ⟨rfl,Nat.le_refl _,rfl⟩ ?_
 rintro⟨k,a,v⟩ n g ⟨hg,hk,ha⟩
 simp only at hg hk ha
 have hla:a.length≤b.length+9:=by
  have:=congrArg List.length ha
  simp only[List.length_append]at this
  omega
 simp(disch:=omega) [VY]
 refine ab (fun h2=> ?_) (fun h2=> ?_)
 ·have e1:Int.tmod (k:Int) 128=(k:Int) % 128:=Int.tmod_eq_emod_of_nonneg (by omega)
  have e2:Int.tdiv (k:Int) 128=(k:Int) / 128:=Int.tdiv_eq_ediv_of_nonneg (by omega)
  have e3:IntKind.u8.wrap ((k:Int) % 128+128)=((UInt8.ofNat (k % 128+128)).toNat:Int):=by rw[←SD (by omega)];congr 1
  have e4:bytes a++ [[.int .u8 ((UInt8.ofNat (k % 128+128)).toNat:Int)]]=bytes (a++ [UInt8.ofNat (k % 128+128)]):=by simp[bytes]
  simp(disch:=omega) [e1,e2,e3,e4,an,VY]
  refine⟨k / 128,a++ [UInt8.ofNat (k % 128+128)],_,k / 128,by omega,⟨rfl,by omega,?_⟩,⟨rfl,by omega⟩,rfl,by simp[bytes]⟩
  rw[←ha,Bx (n:=k) (by omega)]
  simp
 ·have e3:IntKind.u8.wrap (k:Int)=((UInt8.ofNat k).toNat:Int):=SD (by omega)
  have e4:bytes a++ [[.int .u8 ((UInt8.ofNat k).toNat:Int)]]=bytes (a++ [UInt8.ofNat k]):=by simp[bytes]
  rw[xS (n:=k) (by omega)]at ha
  simp(disch:=omega) [e3,e4,an,jD,h1,VY]
  rw[←ha]
  simp[bytes]
abbrev j9:Nat:=338
def ud:AF:=⟨2,5,[.tmp 4, .tmp 5],(.seq (.ops [.i (.mov 4 (.c (.val false [.nils]))), .i (.mov 5 (qb false))]) (.seq (.seq (.ops [qm 7 1,qk 9 211 7, .i (.not 9 (.s 8))]) (.cond (.s 9) (.seq (.ops [.i (.mov 4 (.c (.val false [.nils]))), .i (.mov 5 (qb false))]) .ret) .skip)) (.seq (.ops [qm 10 0,qk 12 143 10,qm 6 11]) (.seq (.block 0 (.loop [22,21,20,19,18,17,16,15,14,13,12] (.seq (.seq (.ops [qm 12 1, .i (.bin 13 .gtr (.s 12) (qi 127))]) (.cond (.s 13) .skip (.exit 0))) (.block 1 (.seq (.ops [qm 14 6,qm 15 1, .i (.bin 16 .rem (.s 15) (qi 128)), .i (.bin 17 .add (qi 128) (.s 16)), .i (.cvi 18 .u8 (.s 17)), .i (.lsl 19 1 1 [.int .u8 0] [(0,1,(.s 18))]), .i (.app 20 5 1 1 (.s 14) (.s 19)),qm 6 20]) (.ops [qm 21 1, .i (.bin 22 .quo (.s 21) (qi 128)),qm 1 22])))))) (.seq (.ops [qm 23 6,qm 24 1, .i (.cvi 25 .u8 (.s 24)), .i (.lsl 26 1 1 [.int .u8 0] [(0,1,(.s 25))]), .i (.app 27 5 1 1 (.s 23) (.s 26)),qm 4 27, .i (.mov 5 (qb true))]) .ret)))))⟩
theorem EJ:cd j9=some ud:=by kernel_rfl
theorem Dx (b:Bytes) (n:Int) (hb:b.length≤1073741824):VC cd j9 (aD [(false,[.sl (bytes b)]),(false,[.int .i64 n])]) (fun rs _=>rs=jD b n):=by
 refine aa EJ rfl ?_
 simp(disch:=omega) [ud,VY]
 refine ag (fk n) rfl rfl ?_
 simp(disch:=omega) [VY]
 refine ak (fun h1=> ?_) (fun h1=> ?_)
 case refine_2=>simp(disch:=omega) [jD,h1,VY]
 simp(disch:=omega) [h1,VY]
 refine ag (cj b (by omega)) rfl rfl ?_
 obtain⟨m,rfl,hm⟩:=kE h1
 have hl:=b5 hm
 simp(disch:=omega) [VY]
 refine aU (σ:=Nat×Bytes×Nat) (f1:=_) (es0:=_) (by simp(disch:=omega) [VY];rfl) (by simp(disch:=omega) [VY];rfl) (fun p=> [(1, .val false [.int .i64 (p.1:Int)]),(6, .val false [.ow 106496 p.2.2])]) (fun p=> [(106496, .sl p.2.2 true true (some (5,1)) (bytes p.2.1))])
  (fun p g=>g=p.1∧p.1≤m∧p.2.1++aO p.1=b++aO m) (m,b,_) m (by simp(disch:=omega) [VY];rfl) (by simp(disch:=omega) [VY]) ⟨rfl,Nat.le_refl _,rfl⟩ ?_
 rintro⟨k,a,v⟩ n g ⟨hg,hk,ha⟩
 simp only at hg hk ha
 have hla:a.length≤b.length+9:=by
  have:=congrArg List.length ha
  simp only[List.length_append]at this
  omega
 simp(disch:=omega) [VY]
 refine ab (fun h2=> ?_) (fun h2=> ?_)
 ·have e1:Int.tmod (k:Int) 128=(k:Int) % 128:=Int.tmod_eq_emod_of_nonneg (by omega)
  have e2:Int.tdiv (k:Int) 128=(k:Int) / 128:=Int.tdiv_eq_ediv_of_nonneg (by omega)
  have e3:IntKind.u8.wrap (128+(k:Int) % 128)=((UInt8.ofNat (k % 128+128)).toNat:Int):=by rw[←SD (by omega)];congr 1;omega
  have e4:bytes a++ [[.int .u8 ((UInt8.ofNat (k % 128+128)).toNat:Int)]]=bytes (a++ [UInt8.ofNat (k % 128+128)]):=by simp[bytes]
  simp(disch:=omega) [e1,e2,e3,e4,an,VY]
  refine⟨k / 128,a++ [UInt8.ofNat (k % 128+128)],_,k / 128,by omega,⟨rfl,by omega,?_⟩,⟨rfl,by omega⟩,rfl,by simp[bytes]⟩
  rw[←ha,Bx (n:=k) (by omega)]
  simp
 ·have e3:IntKind.u8.wrap (k:Int)=((UInt8.ofNat k).toNat:Int):=SD (by omega)
  have e4:bytes a++ [[.int .u8 ((UInt8.ofNat k).toNat:Int)]]=bytes (a++ [UInt8.ofNat k]):=by simp[bytes]
  rw[xS (n:=k) (by omega)]at ha
  simp(disch:=omega) [e3,e4,an,jD,h1,VY]
  rw[←ha]
  simp[bytes]
theorem gT {n:Nat} (h:n≤1152921504606846975):isNum (n:Int)=true:=by simp[isNum,db];omega
theorem tZ (b:Bytes) (n:Nat) (hn:n≤1152921504606846975) (hb:b.length≤1073741824):VC cd kn (aD [(false,[.sl (bytes b)]),(false,[.int .i64 (n:Int)])]) (fun rs _=>rs= [(false,[.o true (some (5,1)) (bytes (b++aO n))]),(false,[.p (.bool true)])]):=
 (B8 b n hb).mono fun rs ps h=>by rw[h,jD,if_pos (gT hn)];rfl
theorem vw (b:Bytes) (n:Nat) (hn:n≤1152921504606846975) (hb:b.length≤1073741824):VC cd j9 (aD [(false,[.sl (bytes b)]),(false,[.int .i64 (n:Int)])]) (fun rs _=>rs= [(false,[.o true (some (5,1)) (bytes (b++aO n))]),(false,[.p (.bool true)])]):=
 (Dx b n hb).mono fun rs ps h=>by rw[h,jD,if_pos (gT hn)];rfl
abbrev ve:Nat:=308
def vl:AF:=⟨2,4,[.tmp 4],(.seq (.ops [.i (.mov 4 (.c (.val false [.nils])))]) (.seq (.ops [qm 8 0,qm 9 1, .i (.call 11 338 false [(.s 8),(.s 9)]),qm 7 10, .i (.ext 11 (.s 7) 0), .i (.ext 12 (.s 7) 1),qm 5 11,qm 6 12]) (.seq (.ops [qm 13 5,qm 4 13]) .ret)))⟩
theorem E7:cd ve=some vl:=by kernel_rfl
theorem bP (b:Bytes) (n:Int) (hn:isNum n=true) (hb:b.length≤1073741824):VC cd ve (aD [(false,[.sl (bytes b)]),(false,[.int .i64 n])]) (fun rs _=>rs= [(false,[.o true (some (5,1)) (bytes (b++aO n.toNat))])]):=by
 obtain⟨m,rfl,hm⟩:=kE hn
 refine aa E7 rfl ?_
 simp(disch:=omega) [vl,VY]
 refine ag (vw b m hm hb) rfl rfl ?_
 simp(disch:=omega) [VY]
abbrev jU:Nat:=99
def jW:AF:=⟨2,5,[],(.ops [qm 5 0,qm 6 0, .i (.nch 7 (.s 6)),qf 8 7 0, .i (.ldh 9 (.s 8) 1 false),qm 10 1, .i (.call 12 164 false [(.s 9),(.s 10)]),qm 4 11, .i (.ext 12 (.s 4) 0), .i (.ext 13 (.s 4) 1), .i (.nch 14 (.s 5)),qf 15 14 0, .i (.sth (.s 15) (.s 12) 1)])⟩
theorem wY:cd jU=some jW:=by kernel_rfl
theorem aQ (b:Bytes) (n:Int) (hn:isNum n=true) (hb:b.length≤1073741824):VC cd jU (jg [] 146 [.o true (some (5,1)) (bytes b)] [(false,[.int .i64 n])]) (fun r p=>r= []∧p= [.pt 146 [.o true (some (5,1)) (bytes (b++aO n.toNat))]]):=by
 obtain⟨m,rfl,hm⟩:=kE hn
 refine ax wY rfl ?_
 simp(disch:=omega) [jW,VZ]
 refine ag (tZ b m hm hb) rfl rfl ?_
 simp(disch:=omega) [VZ]
abbrev jt:Nat:=100
def jJ:AF:=⟨2,4,[],(.ops [qm 4 0,qm 5 0, .i (.nch 6 (.s 5)),qf 7 6 0, .i (.ldh 8 (.s 7) 1 false),qm 9 1, .i (.app 10 5 1 1 (.s 8) (.s 9)), .i (.nch 11 (.s 4)),qf 12 11 0, .i (.sth (.s 12) (.s 10) 1)])⟩
theorem wX:cd jt=some jJ:=by kernel_rfl
theorem cv (b x:Bytes) (hx:x.length≤1073741824) (hb:b.length≤1073741824):VC cd jt (jg [] 146 [.o true (some (5,1)) (bytes b)] [(false,[.sl (bytes x)])]) (fun r p=>r= []∧p= [.pt 146 [.o true (some (5,1)) (bytes (b++x))]]):=by
 refine ax wX rfl ?_
 simp(disch:=omega) [jJ,an,cY,VZ]
def HZ (q:Qc):Bytes:=aO q.view.toNat++aO q.height.toNat++q.block++q.bits++q.tags.flatten
def de (h:Head):Bytes:=aO h.view.toNat++aO h.height.toNat++aO h.proposer.toNat++h.parent++h.root++HZ h.qc
theorem av {n:Int} (h:isNum n=true):(aO n.toNat).length≤9:=by
 obtain⟨m,rfl,hm⟩:=kE h
 simpa using b5 hm
theorem wy {n:Int} (h:1≤n∧n≤10):vE n≤2:=by unfold vE;split <;>omega
structure Ki (q:Qc):Prop where
 view:isNum q.view=true
 height:isNum q.height=true
 block:q.block.length=32
 bits:q.bits.length≤2
 tags:q.tags.length≤16
 tag:∀t∈q.tags,t.length=32
theorem jo {l:ah} {q:Qc} (h:ey l q=true):Ki q:=by
 simp only[ey,Bool.and_eq_true,decide_eq_true_eq]at h
 obtain⟨⟨⟨⟨⟨⟨h0,h1⟩,h2⟩,h3⟩,h4⟩,h5⟩,h6⟩:=h
 simp only[dG,Bool.and_eq_true,decide_eq_true_eq]at h4
 have hb:=wy (cq h4.1.1)
 have hl:=du q.bits
 refine⟨h1,h2,by simpa[hash]using h3,by omega,by omega,fun t ht=> ?_⟩
 simp only[hashes,List.all_eq_true]at h6
 simpa[hash]using h6 t ht
theorem iB {l:List Bytes} (h:∀t∈l,t.length=32) {i:Nat} (hi:i≤l.length):(l.take i).flatten.length=32 * i:=by
 induction i generalizing l with
 |zero=>simp
 |succ i ih=>
  cases l with
  |nil=>simp at hi
  |cons a l=>
   simp only[List.take_succ_cons,List.flatten_cons,List.length_append]
   rw[ih (fun t ht=>h t (by simp[ht])) (by simpa using hi),h a (by simp)]
   omega
theorem tt {l:List Bytes} {i:Nat} (h:i < l.length):(l.take (i+1)).flatten=(l.take i).flatten++l[i]:=by
 rw[List.take_add_one,List.getElem?_eq_getElem h,List.flatten_append]
 simp only[Option.toList_some,List.flatten_cons,List.flatten_nil,List.append_nil]
theorem Hf {q:Qc} (h:Ki q):(HZ q).length≤600:=by
 have h1:=av h.view
 have h2:=av h.height
 have h3:=iB h.tag (Nat.le_refl _)
 rw[List.take_length]at h3
 have:=h.block
 have:=h.bits
 have:=h.tags
 simp only[HZ,List.length_append]
 omega
abbrev ly:Nat:=104
def lj:AF:=⟨2,6,[],(.seq (.ops [.i (.lbox 3 (.s 1))]) (.seq (.ops [qm 6 0,qf 7 3 0,ql 8 3 7 1 false, .i (.call 10 99 false [(.s 6),(.s 8)])]) (.seq (.ops [qm 10 0,qf 11 3 1,ql 12 3 11 1 false, .i (.call 14 99 false [(.s 10),(.s 12)])]) (.seq (.ops [qm 14 0,qf 15 3 2,ql 16 3 15 1 false, .i (.call 18 100 false [(.s 14),(.s 16)])]) (.seq (.ops [qm 18 0,qf 19 3 3,ql 20 3 19 1 false, .i (.call 22 100 false [(.s 18),(.s 20)])]) (.seq (.ops [qf 22 3 4,ql 23 3 22 1 false,qn 24 23, .i (.mov 25 (qi 0))]) (.block 0 (.loop [32,31,30,29,28,27,26,5] (.seq (.ops [qd 26 .lss 25 24]) (.seq (.cond (.s 26) .skip (.exit 0)) (.seq (.block 1 (.seq (.ops [.i (.iad 27 (.s 23) (.s 25) 1), .i (.ldh 28 (.s 27) 1 false),qm 5 28]) (.ops [qm 29 0,qm 30 5, .i (.call 32 100 false [(.s 29),(.s 30)])]))) (.ops [.i (.bin 32 .add (.s 25) (qi 1)),qm 25 32]))))))))))))⟩
theorem yG:cd ly=some lj:=by kernel_rfl
theorem l8 (b:Bytes) (q:Qc) (hq:Ki q) (hb:b.length≤1000000000):VC cd ly (jg [] 146 [.o true (some (5,1)) (bytes b)] [(true,q.c)]) (fun r p=>r= []∧p= [.pt 146 [.o true (some (5,1)) (bytes (b++HZ q))]]):=by
 have h1:=av hq.view
 have h2:=av hq.height
 have h4:=hq.block
 have h5:=hq.bits
 have h6:=hq.tags
 refine ax yG rfl ?_
 simp(disch:=omega) [lj,Qc.c,VZ]
 refine dq (aQ _ q.view hq.view ?_) ?_
 ·(try simp only[List.length_append]);omega
 simp(disch:=omega) [VZ]
 refine dq (aQ _ q.height hq.height ?_) ?_
 ·(try simp only[List.length_append]);omega
 simp(disch:=omega) [VZ]
 refine dq (cv _ q.block (by omega) ?_) ?_
 ·(try simp only[List.length_append]);omega
 simp(disch:=omega) [VZ]
 refine dq (cv _ q.bits (by omega) ?_) ?_
 ·(try simp only[List.length_append]);omega
 simp(disch:=omega) [aq,VZ]
 refine aU (σ:=Nat×Nat) (f1:=_) (es0:=_) (by simp(disch:=omega) [VZ];rfl) (by simp(disch:=omega) [VZ];rfl) (fun p=> [(25, .val false [.int .i64 (p.1:Int)])]) (fun p=> [(4096, .pt 0 146 [.ow 1099528404992 p.2]),(1099528404992, .sl p.2 true true (some (5,1)) (bytes (b++(aO q.view.toNat++(aO q.height.toNat++(q.block++(q.bits++(q.tags.take p.1).flatten)))))))])
  (fun p g=>g+p.1=q.tags.length) (0,14) q.tags.length (by simp(disch:=omega) [VZ]) (by simp(disch:=omega) [VZ]) (by omega) ?_
 rintro⟨i,v⟩ n g hg
 simp only at hg
 simp(disch:=omega) [VZ]
 refine ab (fun h7=> ?_) (fun h7=> ?_)
 ·have hi:i < q.tags.length:=by omega
  have hx:=hq.tag _ (List.getElem_mem hi)
  have hf:=iB hq.tag (i:=i) (by omega)
  simp(disch:=omega) [c9 hi,VZ]
  refine dq (cv _ q.tags[i] (by omega) ?_) ?_
  ·(try simp only[List.length_append]);omega
  simp(disch:=omega) [VZ]
  exact⟨i+1,_,g - 1,by omega,by omega,rfl,rfl,by rw[tt hi]⟩
 ·have hi:i=q.tags.length:=by omega
  subst hi
  rw[List.take_length]
  simp(disch:=omega) [HZ,VZ]
def bz (ok:Bool) (b:Bytes):List (Bool×List E):=
 if ok then [(false,[.o true (some (5,1)) (bytes b)]),(false,[.p (.bool true)])]else [(false,[.p .nils]),(false,[.p (.bool false)])]
theorem b4 {ok:Bool} {b:Bytes} (h:ok=true):bz ok b= [(false,[.o true (some (5,1)) (bytes b)]),(false,[.p (.bool true)])]:=by subst h;rfl
theorem cV {ok:Bool} {b:Bytes} (h:ok=false):bz ok b= [(false,[.p .nils]),(false,[.p (.bool false)])]:=by subst h;rfl
theorem _root_.Go.Eng.VC.re {cd:Nat→Option AF} {g:Nat} {al:List (Bool×List E)} {rs rt:List (Bool×List E)} (h:VC cd g al (fun r _=>r=rs)) (e:rs=rt):VC cd g al (fun r _=>r=rt):=by subst e;exact h
abbrev xr:Nat:=258
def xd:AF:=⟨3,6,[.tmp 6, .tmp 7],(.seq (.ops [.i (.lbox 3 (.s 0)), .i (.lbox 5 (.s 2)), .i (.mov 6 (.c (.val false [.nils]))), .i (.mov 7 (qb false))]) (.seq (.seq (.ops [ql 11 3 3 5 true,ql 12 5 5 5 true, .i (.call 14 309 false [(.s 11),(.s 12)]), .i (.not 14 (.s 13))]) (.cond (.s 14) (.seq (.ops [.i (.mov 6 (.c (.val false [.nils]))), .i (.mov 7 (qb false))]) .ret) .skip)) (.seq (.ops [qm 15 1,qf 16 5 0,ql 17 5 16 1 false, .i (.call 19 308 false [(.s 15),(.s 17)]),qf 19 5 1,ql 20 5 19 1 false, .i (.call 22 308 false [(.s 18),(.s 20)]),qf 22 5 2,ql 23 5 22 1 false, .i (.app 24 5 1 1 (.s 21) (.s 23)),qm 8 24]) (.seq (.ops [qm 25 8,qf 26 5 3,ql 27 5 26 1 false, .i (.app 28 5 1 1 (.s 25) (.s 27)),qm 8 28]) (.seq (.seq (.ops [qf 29 5 4,ql 30 5 29 1 false,qn 31 30, .i (.mov 32 (qi 0))]) (.block 0 (.loop [39,38,37,36,35,34,33,10] (.seq (.ops [qd 33 .lss 32 31]) (.seq (.cond (.s 33) .skip (.exit 0)) (.seq (.block 1 (.seq (.ops [.i (.iad 34 (.s 30) (.s 32) 1), .i (.ldh 35 (.s 34) 1 false),qm 10 35]) (.ops [qm 36 8,qm 37 10, .i (.app 38 5 1 1 (.s 36) (.s 37)),qm 8 38]))) (.ops [.i (.bin 39 .add (.s 32) (qi 1)),qm 32 39]))))))) (.seq (.ops [qm 40 8,qm 6 40, .i (.mov 7 (qb true))]) .ret))))))⟩
theorem G7:cd xr=some xd:=by kernel_rfl
theorem gG (l:ah) (b:Bytes) (q:Qc) (hw:q.wf) (hb:b.length≤1000000000):VC cd xr (aD [(true,l.c),(false,[.sl (bytes b)]),(true,q.c)]) (fun rs _=>rs=bz (ey l q) (b++HZ q)):=by
 refine aa G7 rfl ?_
 simp(disch:=omega) [xd,Qc.c,ah.c,VY]
 refine ag (mu l q hw) rfl rfl ?_
 simp(disch:=omega) [VY]
 refine ak (fun h0=> ?_) (fun h0=> ?_)
 case refine_2=>simp(disch:=omega) [h0,bz,VY]
 have hq:=jo h0
 have h1:=av hq.view
 have h2:=av hq.height
 have h4:=hq.block
 have h5:=hq.bits
 have h6:=hq.tags
 simp(disch:=omega) [h0,VY]
 refine ag (bP b q.view hq.view (by omega)) rfl rfl ?_
 simp(disch:=omega) [VY]
 refine ag (bP (b++aO q.view.toNat) q.height hq.height (by simp only[List.length_append];omega)) rfl rfl ?_
 simp(disch:=omega) [cY,an,VY]
 have e1:List.length b+(List.length (aO q.view.toNat)+(List.length (aO q.height.toNat)+List.length q.block))≤1073741824:=by omega
 simp(disch:=omega) [cY,an,aq,VY]
 refine aU (σ:=Nat×Nat) (f1:=_) (es0:=_) (by simp(disch:=omega) [VY];rfl) (by simp(disch:=omega) [VY];rfl) (fun p=> [(32, .val false [.int .i64 (p.1:Int)]),(8, .val false [.ow 188416 p.2])]) (fun p=> [(188416, .sl p.2 true true (some (5,1)) (bytes (b++(aO q.view.toNat++(aO q.height.toNat++(q.block++(q.bits++(q.tags.take p.1).flatten)))))))])
  (fun p g=>g+p.1=q.tags.length) (0,_) q.tags.length (by simp(disch:=omega) [VY];rfl) (by simp(disch:=omega) [VY]) (by omega) ?_
 rintro⟨i,v⟩ n g hg
 simp only at hg
 simp(disch:=omega) [VY]
 refine ab (fun h7=> ?_) (fun h7=> ?_)
 ·have hi:i < q.tags.length:=by omega
  have hx:=hq.tag _ (List.getElem_mem hi)
  have hf:=iB hq.tag (i:=i) (by omega)
  simp(disch:=omega) [c9 hi,cY,an,hf,VY]
  exact⟨i+1,_,g - 1,by omega,by omega,⟨by omega,rfl⟩,rfl,by rw[tt hi]⟩
 ·have hi:i=q.tags.length:=by omega
  subst hi
  rw[List.take_length]
  simp(disch:=omega) [HZ,bz,h0,VY]
structure Hm (h:Head):Prop where
 view:isNum h.view=true
 height:isNum h.height=true
 proposer:isNum h.proposer=true
 parent:h.parent.length=32
 root:h.root.length=32
 qc:Ki h.qc
theorem yj {l:ah} {h:Head} (hk:bA l h=true):ey l h.qc=true:=by
 simp only[bA,Bool.and_eq_true]at hk
 exact hk.1.1.1.1.1.1
theorem dF {l:ah} {h:Head} (hk:bA l h=true):Hm h:=by
 have hq:=yj hk
 have hn:=jI (jb hq)
 simp only[bA,Bool.and_eq_true,decide_eq_true_eq]at hk
 obtain⟨⟨⟨⟨⟨⟨h0,h1⟩,h2⟩,h3⟩,h4⟩,h5⟩,h6⟩:=hk
 have h2':=cq h2
 have h3':=cq h3
 exact⟨h1,by simp[isNum,db];omega,by simp[isNum,db];omega,by simpa[hash]using h4,by simpa[hash]using h5,jo hq⟩
theorem gB {h:Head} (hs:Hm h):(de h).length≤1000:=by
 have h1:=av hs.view
 have h2:=av hs.height
 have h3:=av hs.proposer
 have h4:=hs.parent
 have h5:=hs.root
 have h6:=Hf hs.qc
 simp only[de,List.length_append]
 omega
abbrev iY:Nat:=109
def iZ:AF:=⟨2,5,[],(.seq (.ops [.i (.lbox 3 (.s 1))]) (.seq (.ops [qm 4 0,qf 5 3 0,ql 6 3 5 1 false, .i (.call 8 99 false [(.s 4),(.s 6)])]) (.seq (.ops [qm 8 0,qf 9 3 1,ql 10 3 9 1 false, .i (.call 12 99 false [(.s 8),(.s 10)])]) (.seq (.ops [qm 12 0,qf 13 3 2,ql 14 3 13 1 false, .i (.call 16 99 false [(.s 12),(.s 14)])]) (.seq (.ops [qm 16 0,qf 17 3 3,ql 18 3 17 1 false, .i (.call 20 100 false [(.s 16),(.s 18)])]) (.seq (.ops [qm 20 0,qf 21 3 4,ql 22 3 21 1 false, .i (.call 24 100 false [(.s 20),(.s 22)])]) (.ops [qm 24 0,qf 25 3 5,ql 26 3 25 5 true, .i (.call 28 104 false [(.s 24),(.s 26)])])))))))⟩
theorem vM:cd iY=some iZ:=by kernel_rfl
theorem iX (b:Bytes) (h:Head) (hs:Hm h) (hb:b.length≤900000000):VC cd iY (jg [] 146 [.o true (some (5,1)) (bytes b)] [(true,h.c)]) (fun r p=>r= []∧p= [.pt 146 [.o true (some (5,1)) (bytes (b++de h))]]):=by
 have h1:=av hs.view
 have h2:=av hs.height
 have h3:=av hs.proposer
 have h4:=hs.parent
 have h5:=hs.root
 refine ax vM rfl ?_
 simp(disch:=omega) [iZ,Head.c,VZ]
 refine dq (aQ _ h.view hs.view ?_) ?_
 ·(try simp only[List.length_append]);omega
 simp(disch:=omega) [VZ]
 refine dq (aQ _ h.height hs.height ?_) ?_
 ·(try simp only[List.length_append]);omega
 simp(disch:=omega) [VZ]
 refine dq (aQ _ h.proposer hs.proposer ?_) ?_
 ·(try simp only[List.length_append]);omega
 simp(disch:=omega) [VZ]
 refine dq (cv _ h.parent (by omega) ?_) ?_
 ·(try simp only[List.length_append]);omega
 simp(disch:=omega) [VZ]
 refine dq (cv _ h.root (by omega) ?_) ?_
 ·(try simp only[List.length_append]);omega
 simp(disch:=omega) [VZ]
 refine dq (l8 _ h.qc hs.qc ?_) ?_
 ·(try simp only[List.length_append]);omega
 simp(disch:=omega) [de,VZ]
abbrev pI:Nat:=30
def sj:AF:=⟨3,5,[.tmp 6, .tmp 7],(.seq (.ops [.i (.lbox 3 (.s 0)), .i (.lbox 5 (.s 2)), .i (.mov 6 (.c (.val false [.nils]))), .i (.mov 7 (qb false))]) (.seq (.seq (.ops [ql 9 3 3 5 true,ql 10 5 5 10 true, .i (.call 12 108 false [(.s 9),(.s 10)]), .i (.not 12 (.s 11))]) (.cond (.s 12) (.seq (.ops [.i (.mov 6 (.c (.val false [.nils]))), .i (.mov 7 (qb false))]) .ret) .skip)) (.seq (.ops [qm 13 1,qk 15 93 13, .i (.bld 15 [.nils] [(0,1,(.s 14))]), .i (.hbox 16 146 (.s 15)),qm 8 16]) (.seq (.ops [qm 17 8,ql 18 5 5 10 true, .i (.call 20 109 false [(.s 17),(.s 18)])]) (.seq (.ops [qm 20 8, .i (.nch 21 (.s 20)),qf 22 21 0, .i (.ldh 23 (.s 22) 1 false),qm 6 23, .i (.mov 7 (qb true))]) .ret)))))⟩
theorem DP:cd pI=some sj:=by kernel_rfl
theorem oc (l:ah) (b:Bytes) (h:Head) (hw:h.wf) (hb:b.length≤900000000):VC cd pI (aD [(true,l.c),(false,[.sl (bytes b)]),(true,h.c)]) (fun rs _=>rs=bz (bA l h) (b++de h)):=by
 refine aa DP rfl ?_
 simp(disch:=omega) [sj,Head.c,ah.c,VY]
 refine ag (iH l h hw) rfl rfl ?_
 simp(disch:=omega) [VY]
 refine ak (fun h0=> ?_) (fun h0=> ?_)
 case refine_2=>simp(disch:=omega) [h0,bz,VY]
 have hs:=dF h0
 simp(disch:=omega) [h0,VY]
 refine ag (aI b (by omega)) rfl rfl ?_
 simp(disch:=omega) [VZ]
 refine dq (iX _ h hs ?_) ?_
 ·(try simp only[List.length_append]);omega
 simp(disch:=omega) [bz,h0,VZ]
abbrev py:Nat:=259
def pF:AF:=⟨3,6,[.tmp 6, .tmp 7],(.seq (.ops [.i (.lbox 3 (.s 0)), .i (.lbox 5 (.s 2)), .i (.mov 6 (.c (.val false [.nils]))), .i (.mov 7 (qb false))]) (.seq (.seq (.ops [ql 9 3 3 5 true,ql 10 5 5 10 true, .i (.call 12 310 false [(.s 9),(.s 10)]), .i (.not 12 (.s 11))]) (.cond (.s 12) (.seq (.ops [.i (.mov 6 (.c (.val false [.nils]))), .i (.mov 7 (qb false))]) .ret) .skip)) (.seq (.ops [qm 13 1,qf 14 5 0,ql 15 5 14 1 false, .i (.call 17 308 false [(.s 13),(.s 15)]),qf 17 5 1,ql 18 5 17 1 false, .i (.call 20 308 false [(.s 16),(.s 18)]),qf 20 5 2,ql 21 5 20 1 false, .i (.call 23 308 false [(.s 19),(.s 21)]),qm 8 22]) (.seq (.ops [qm 23 8,qf 24 5 3,ql 25 5 24 1 false, .i (.app 26 5 1 1 (.s 23) (.s 25)),qf 27 5 4,ql 28 5 27 1 false, .i (.app 29 5 1 1 (.s 26) (.s 28)),qm 8 29]) (.seq (.ops [ql 30 3 3 5 true,qm 31 8,qf 32 5 5,ql 33 5 32 5 true, .i (.call 35 258 false [(.s 30),(.s 31),(.s 33)]), .i (.ext 35 (.s 34) 0), .i (.ext 36 (.s 34) 1),qm 6 35,qm 7 36]) .ret)))))⟩
theorem CI:cd py=some pF:=by kernel_rfl
theorem dk (l:ah) (b:Bytes) (h:Head) (hw:h.wf) (hb:b.length≤900000000):VC cd py (aD [(true,l.c),(false,[.sl (bytes b)]),(true,h.c)]) (fun rs _=>rs=bz (bA l h) (b++de h)):=by
 refine aa CI rfl ?_
 simp(disch:=omega) [pF,Head.c,ah.c,VY]
 refine ag (ja l h hw) rfl rfl ?_
 simp(disch:=omega) [VY]
 refine ak (fun h0=> ?_) (fun h0=> ?_)
 case refine_2=>simp(disch:=omega) [h0,bz,VY]
 have hs:=dF h0
 have h1:=av hs.view
 have h2:=av hs.height
 have h3:=av hs.proposer
 have h4:=hs.parent
 have h5:=hs.root
 simp(disch:=omega) [h0,VY]
 refine ag (bP b h.view hs.view (by omega)) rfl rfl ?_
 simp(disch:=omega) [VY]
 refine ag (bP (b++aO h.view.toNat) h.height hs.height (by simp only[List.length_append];omega)) rfl rfl ?_
 simp(disch:=omega) [VY]
 refine ag (bP (b++(aO h.view.toNat++aO h.height.toNat)) h.proposer hs.proposer (by simp only[List.length_append];omega)) rfl rfl ?_
 simp(disch:=omega) [cY,an,VY]
 refine ao ((gG l (b++(aO h.view.toNat++(aO h.height.toNat++(aO h.proposer.toNat++(h.parent++h.root))))) h.qc hw.2.2.2.2.2 (by simp only[List.length_append];omega)).re (b4 (yj h0))) ?_
 simp(disch:=omega) [bz,h0,de,VY]
def od (l:ah) (h:Head):Bytes:=if bA l h then Kz (72::de h)else []
def Hh (l:ah) (h:Head):List (Bool×List E):=if bA l h then [(false,[.o true (some (5,1)) (bytes (Kz (72::de h)))])]else [(false,[.p .nils])]
abbrev hM:Nat:=274
def oM:AF:=⟨2,5,[.tmp 4],(.seq (.ops [.i (.lbox 2 (.s 0)), .i (.lbox 3 (.s 1)), .i (.mov 4 (.c (.val false [.nils])))]) (.seq (.ops [ql 8 2 2 5 true, .i (.bsl 9 5 1 1 [.int .u8 0] [(0,1,(.c (.val false [.int .u8 72])))]),ql 10 3 3 10 true, .i (.call 12 259 false [(.s 8),(.s 9),(.s 10)]),qm 7 11, .i (.ext 12 (.s 7) 0), .i (.ext 13 (.s 7) 1),qm 5 12,qm 6 13]) (.seq (.seq (.ops [qm 14 6, .i (.not 15 (.s 14))]) (.cond (.s 15) (.seq (.ops [.i (.mov 4 (.c (.val false [.nils])))]) .ret) .skip)) (.seq (.ops [qm 16 5,qk 18 321 16,qm 4 17]) .ret))))⟩
theorem AA:cd hM=some oM:=by kernel_rfl
theorem yz (l:ah) (h:Head) (hw:h.wf):VC cd hM (aD [(true,l.c),(true,h.c)]) (fun rs _=>rs=Hh l h):=by
 have e: [[D.int .u8 72]]=bytes [72]:=rfl
 refine aa AA rfl ?_
 simp(disch:=omega) [oM,Head.c,ah.c,e,VY]
 cases h0:bA l h with
 |false=>
  refine ao ((dk l [72] h hw (by simp)).re (cV h0)) ?_
  simp(disch:=omega) [Hh,h0,VY]
 |true=>
  have hs:=gB (dF h0)
  refine ao ((dk l [72] h hw (by simp)).re (b4 h0)) ?_
  simp(disch:=omega) [VY]
  refine ao (jm (72::de h) (by simp;omega)) ?_
  simp(disch:=omega) [Hh,h0,VY]
end Go.Eng.F
namespace Go.Eng.F
open Go.Eng.U (IX dP dv hG)
theorem d5 {n:Int} (h:IntKind.i64.min≤n∧n≤IntKind.i64.max):lh n:=by
 have h1:IntKind.i64.min= -9223372036854775808:=rfl
 have h2:IntKind.i64.max=9223372036854775807:=rfl
 unfold lh
 omega
theorem eJ (l:List Bytes):enc (.sl (.sl (.int .u8))) (yH l)= [.sl (bD l)]:=O2 l
theorem eO (k:IntKind) (n:Int):enc (.int k) (.i n)= [.int k n]:=rfl
theorem fL (b:Bool):enc .bool (.b b)= [.bool b]:=rfl
theorem eX (ts:List Ty) (vs:List Tv):enc (.st ts) (.r vs)=yg ts vs:=rfl
theorem ck (t:Ty) (ts:List Ty) (v:Tv) (vs:List Tv):yg (t::ts) (v::vs)=enc t v++yg ts vs:=rfl
theorem c6:yg [] []= []:=rfl
theorem Hq (t:Ty) (xs:List Tv):enc (.sl t) (.l xs)= [.sl (xs.map (enc t))]:=rfl
theorem c7 {t:Ty} {ts:List Ty} {v:Tv} {vs:List Tv}:eg (t::ts) (v::vs)↔aS t v∧eg ts vs:=by simp only[eg]
theorem gR {ts:List Ty} {vs:List Tv}:aS (.st ts) (.r vs)↔eg ts vs:=by simp only[aS]
theorem ok_int {k:IntKind} {n:Int}:aS (.int k) (.i n)↔k.min≤n∧n≤k.max:=by simp only[aS]
theorem On {t:Ty} {xs:List Tv}:aS (.sl t) (.l xs)↔xs.length≤maxLen∧∀x∈xs,aS t x:=by simp only[aS]
theorem t9 {x:Bytes} (h:wt (Ec x)≤1048576):Sz x.length:=by rw[OD]at h;unfold Sz;omega
theorem KK {l:List Bytes} (h:wt (yH l)≤1048576):Sz l.length∧∀x∈l,Sz x.length:=by
 obtain⟨h1,h2⟩:=Na l
 unfold Sz
 exact⟨by omega,fun x hx=>by have:=h2 x hx;omega⟩
theorem gQ (l:List Int):enc (.sl (.int .i64)) (Qx l)= [.sl (l.map fun n=> [.int .i64 n])]:=by
 simp only[Qx,Hq,List.map_map]
 congr 2
theorem jM (s:ByteArray):enc .str (.s s)= [.str s]:=rfl
def ah.tv (l:ah):Tv:= .r [.i l.n, .i l.tx, .i l.txs, .i l.frame, .i l.heads]
theorem ah.enc (l:ah):enc dv l.tv=l.c:=rfl
theorem ah.ex {v:Tv} (h:aS dv v):∃l:ah,v=l.tv:=by
 obtain⟨vs,rfl,h⟩:=h.st
 obtain⟨v0,_,rfl,h0,h⟩:=h.step
 obtain⟨v1,_,rfl,h1,h⟩:=h.step
 obtain⟨v2,_,rfl,h2,h⟩:=h.step
 obtain⟨v3,_,rfl,h3,h⟩:=h.step
 obtain⟨v4,_,rfl,h4,h⟩:=h.step
 obtain rfl:=h.fin
 obtain⟨n0,rfl,_⟩:=h0.int
 obtain⟨n1,rfl,_⟩:=h1.int
 obtain⟨n2,rfl,_⟩:=h2.int
 obtain⟨n3,rfl,_⟩:=h3.int
 obtain⟨n4,rfl,_⟩:=h4.int
 exact⟨⟨n0,n1,n2,n3,n4⟩,rfl⟩
def Qc.tv (q:Qc):Tv:= .r [.i q.view, .i q.height,Ec q.block,Ec q.bits,yH q.tags]
theorem Qc.enc (q:Qc):enc IX q.tv=q.c:=by simp only[Qc.tv,eX,ck,c6,eO,hU,eJ,Qc.c,List.cons_append,List.nil_append]
theorem Qc.ex {v:Tv} (h:aS IX v):∃q:Qc,v=q.tv:=by
 obtain⟨vs,rfl,h⟩:=h.st
 obtain⟨v0,_,rfl,h0,h⟩:=h.step
 obtain⟨v1,_,rfl,h1,h⟩:=h.step
 obtain⟨v2,_,rfl,h2,h⟩:=h.step
 obtain⟨v3,_,rfl,h3,h⟩:=h.step
 obtain⟨v4,_,rfl,h4,h⟩:=h.step
 obtain rfl:=h.fin
 obtain⟨n0,rfl,_⟩:=h0.int
 obtain⟨n1,rfl,_⟩:=h1.int
 obtain⟨n2,rfl⟩:=hC h2
 obtain⟨n3,rfl⟩:=hC h3
 obtain⟨n4,rfl⟩:=G6 h4
 exact⟨⟨n0,n1,n2,n3,n4⟩,rfl⟩
theorem Qc.of {q:Qc} (h:aS IX q.tv) (hw:wt q.tv≤1048576):q.wc:=by
 simp only[Qc.tv,gR,c7,ok_int]at h
 simp only[Qc.tv,wt,Bj]at hw
 obtain⟨h0,h1,_⟩:=h
 have h4:=KK (l:=q.tags) (by omega)
 exact⟨⟨d5 h0,d5 h1,t9 (by omega),t9 (by omega),h4.1⟩,h4.2⟩
theorem Qc.rs (q:Qc):Gq q.o (Go.Eng.enc IX q.tv):=by
 rw[Qc.enc]
 simp only[Qc.o,Qc.c,Gq,D.leaf,and_self]
def Head.tv (h:Head):Tv:= .r [.i h.view, .i h.height, .i h.proposer,Ec h.parent,Ec h.root,h.qc.tv]
theorem Head.enc (h:Head):enc dP h.tv=h.c:=by simp only[Head.tv,Qc.enc,eX,ck,c6,eO,hU,eJ,Head.c,Qc.c,List.cons_append,List.nil_append]
theorem Head.ex {v:Tv} (h:aS dP v):∃q:Head,v=q.tv:=by
 obtain⟨vs,rfl,h⟩:=h.st
 obtain⟨v0,_,rfl,h0,h⟩:=h.step
 obtain⟨v1,_,rfl,h1,h⟩:=h.step
 obtain⟨v2,_,rfl,h2,h⟩:=h.step
 obtain⟨v3,_,rfl,h3,h⟩:=h.step
 obtain⟨v4,_,rfl,h4,h⟩:=h.step
 obtain⟨v5,_,rfl,h5,h⟩:=h.step
 obtain rfl:=h.fin
 obtain⟨n0,rfl,_⟩:=h0.int
 obtain⟨n1,rfl,_⟩:=h1.int
 obtain⟨n2,rfl,_⟩:=h2.int
 obtain⟨n3,rfl⟩:=hC h3
 obtain⟨n4,rfl⟩:=hC h4
 obtain⟨n5,rfl⟩:=Qc.ex h5
 exact⟨⟨n0,n1,n2,n3,n4,n5⟩,rfl⟩
theorem Head.of {q:Head} (h:aS dP q.tv) (hw:wt q.tv≤1048576):q.wc:=by
 simp only[Head.tv,gR,c7]at h
 simp only[Head.tv,wt,Bj]at hw
 obtain⟨h0,h1,h2,_,_,h5,_⟩:=h
 have h4:=Qc.of h5 (by omega)
 exact⟨⟨d5 (ok_int.1 h0),d5 (ok_int.1 h1),d5 (ok_int.1 h2),t9 (by omega),t9 (by omega),h4.1⟩,h4.2⟩
theorem Head.rs (q:Head):Gq q.o (Go.Eng.enc dP q.tv):=by
 rw[Head.enc]
 simp only[Head.o,Head.c,Gq,D.leaf,and_self]
def Aq (l:List Head):Tv:= .l (l.map Head.tv)
theorem Bv (l:List Head):enc (.sl dP) (Aq l)= [.sl (et l)]:=by
 simp only[Aq,Hq,List.map_map,et]
 congr 2
 exact List.map_congr_left fun x _=>Head.enc x
theorem Bw {v:Tv} (h:aS (.sl dP) v):∃l,v=Aq l:=by
 obtain⟨xs,rfl,_,h2⟩:=h.sl
 obtain⟨ys,rfl⟩:=tk (f:=Head.tv) (P:=aS dP) (fun v hv=>Head.ex hv) h2
 exact⟨ys,rfl⟩
theorem He {l:List Head} (h:aS (.sl dP) (Aq l)) (hw:wt (Aq l)≤1048576):Sz l.length∧∀x∈l,x.wc:=by
 unfold Aq at h hw
 rw[Nm]at hw
 have h2:=(On.1 h).2
 simp only[List.length_map]at hw
 refine⟨by unfold Sz;omega,fun x hx=>Head.of (h2 _ (List.mem_map_of_mem hx)) ?_⟩
 have:=wL (f:=Head.tv) hx
 omega
def Proof.tv (p:Proof):Tv:= .r [Aq p.heads,p.qc.tv]
theorem Proof.enc (p:Proof):enc hG p.tv=p.c:=by simp only[Proof.tv,Qc.enc,Bv,eX,ck,c6,eO,Proof.c,Qc.c,List.cons_append,List.nil_append]
theorem Proof.ex {v:Tv} (h:aS hG v):∃q:Proof,v=q.tv:=by
 obtain⟨vs,rfl,h⟩:=h.st
 obtain⟨v0,_,rfl,h0,h⟩:=h.step
 obtain⟨v1,_,rfl,h1,h⟩:=h.step
 obtain rfl:=h.fin
 obtain⟨n0,rfl⟩:=Bw h0
 obtain⟨n1,rfl⟩:=Qc.ex h1
 exact⟨⟨n0,n1⟩,rfl⟩
theorem Proof.of {q:Proof} (h:aS hG q.tv) (hw:wt q.tv≤1048576):q.wf∧(∀h∈q.heads,h.wc)∧q.qc.wc:=by
 simp only[Proof.tv,gR,c7]at h
 simp only[Proof.tv,wt,Bj]at hw
 obtain⟨h0,h1,_⟩:=h
 have h4:=Qc.of h1 (by omega)
 have h5:=He h0 (by omega)
 exact⟨⟨⟨h5.1,fun h hh=>(h5.2 h hh).1⟩,h4.1⟩,h5.2,h4⟩
end Go.Eng.F
namespace Go.Eng.F
open Go.Eng.U (IX dP dv hG IZ sC)
theorem Iu {l:List Head} {i:Nat} (h:i < l.length):et (l.take i)++ [l[i].c]=et (l.take (i+1)):=by
 have e:et (l.take (i+1))=et (l.take i)++et [l[i]]:=by
  rw[List.take_add_one,List.getElem?_eq_getElem h];exact List.map_append
 rw[e];rfl
abbrev kH:Nat:=278
def ky:AF:=⟨1,5,[.tmp 2],(.seq (.ops [.i (.mov 2 (.c (.val false [.nils])))]) (.seq (.ops [.i (.bse 6),qm 3 6]) (.seq (.seq (.ops [qm 7 0,qn 8 7, .i (.mov 9 (qi 0))]) (.block 0 (.loop [18,17,16,15,14,13,12,11,10,5] (.seq (.ops [qd 10 .lss 9 8]) (.seq (.cond (.s 10) .skip (.exit 0)) (.seq (.block 1 (.seq (.ops [.i (.iad 11 (.s 7) (.s 9) 10), .i (.ldh 12 (.s 11) 10 true), .i (.lal 5 qz),qs 5 5 12 10]) (.ops [qm 13 3,ql 14 5 5 10 true,qk 16 205 14, .i (.lsl 16 10 1 qz [(0,10,(.s 15))]), .i (.app 17 45 10 160 (.s 13) (.s 16)),qm 3 17]))) (.ops [.i (.bin 18 .add (.s 9) (qi 1)),qm 9 18]))))))) (.seq (.ops [qm 19 3,qm 2 19]) .ret))))⟩
theorem zp:cd kH=some ky:=by kernel_rfl
theorem GS (l:List Head) (h0:Sz l.length) (hw:∀h∈l,h.wc):VC cd kH (aD [(false,[.sl (et l)])]) (fun rs _=>rs= [(false,[.o true (some (45,10)) (et l)])]):=by
 simp only[Sz]at h0
 refine aa zp rfl ?_
 simp(disch:=omega) [ky,b7,VY]
 refine aU (σ:=Nat×Nat) (f1:=_) (es0:=_) (by simp(disch:=omega) [VY];rfl) (by simp(disch:=omega) [VY];rfl) (fun p=> [(9, .val false [.int .i64 p.1]),(3, .val false [.ow 6 p.2])]) (fun p=> [(6, .sl p.2 true true (some (45,10)) (et (l.take p.1)))])
  (fun p g=>g+p.1=l.length) (0,1) l.length (by simp(disch:=omega) [VY]) (by simp(disch:=omega) [et,VY]) (by omega) ?_
 rintro⟨i,v⟩ n g hg
 simp only at hg
 simp(disch:=omega) [VY]
 refine ab (fun h1=> ?_) (fun h1=> ?_)
 ·have hx:i < l.length:=by omega
  simp(disch:=omega) [eQ hx,Head.c,VY]
  refine ag (fW l[i] (hw _ (List.getElem_mem hx))) rfl rfl ?_
  have hl:(et (l.take i)).length=i:=by rw[b7];simp;omega
  have hs:=Iu hx
  simp only[Head.c]at hs
  simp(disch:=omega) [hl,Head.o,hs,VY]
  exact⟨i+1,n+10,g - 1,by omega,by omega,⟨by omega,by omega⟩,by omega,rfl⟩
 ·simp(disch:=omega) [VY]
  have:i=l.length:=by omega
  subst this
  rw[List.take_length]
abbrev nz:Nat:=320
def oi:AF:=⟨1,5,[.tmp 2],(.seq (.ops [.i (.mov 2 (.c (.val false [.nils])))]) (.seq (.ops [.i (.bse 6),qm 3 6]) (.seq (.seq (.ops [qm 7 0,qn 8 7, .i (.mov 9 (qi 0))]) (.block 0 (.loop [18,17,16,15,14,13,12,11,10,5] (.seq (.ops [qd 10 .lss 9 8]) (.seq (.cond (.s 10) .skip (.exit 0)) (.seq (.block 1 (.seq (.ops [.i (.iad 11 (.s 7) (.s 9) 10), .i (.ldh 12 (.s 11) 10 true), .i (.lal 5 qz),qs 5 5 12 10]) (.ops [qm 13 3,ql 14 5 5 10 true,qk 16 267 14, .i (.lsl 16 10 1 qz [(0,10,(.s 15))]), .i (.app 17 45 10 160 (.s 13) (.s 16)),qm 3 17]))) (.ops [.i (.bin 18 .add (.s 9) (qi 1)),qm 9 18]))))))) (.seq (.ops [qm 19 3,qm 2 19]) .ret))))⟩
theorem AD:cd nz=some oi:=by kernel_rfl
theorem IU (l:List Head) (h0:Sz l.length) (hw:∀h∈l,h.wc):VC cd nz (aD [(false,[.sl (et l)])]) (fun rs _=>rs= [(false,[.o true (some (45,10)) (et l)])]):=by
 simp only[Sz]at h0
 refine aa AD rfl ?_
 simp(disch:=omega) [oi,b7,VY]
 refine aU (σ:=Nat×Nat) (f1:=_) (es0:=_) (by simp(disch:=omega) [VY];rfl) (by simp(disch:=omega) [VY];rfl) (fun p=> [(9, .val false [.int .i64 p.1]),(3, .val false [.ow 6 p.2])]) (fun p=> [(6, .sl p.2 true true (some (45,10)) (et (l.take p.1)))])
  (fun p g=>g+p.1=l.length) (0,1) l.length (by simp(disch:=omega) [VY]) (by simp(disch:=omega) [et,VY]) (by omega) ?_
 rintro⟨i,v⟩ n g hg
 simp only at hg
 simp(disch:=omega) [VY]
 refine ab (fun h1=> ?_) (fun h1=> ?_)
 ·have hx:i < l.length:=by omega
  simp(disch:=omega) [eQ hx,Head.c,VY]
  refine ag (mw l[i] (hw _ (List.getElem_mem hx))) rfl rfl ?_
  have hl:(et (l.take i)).length=i:=by rw[b7];simp;omega
  have hs:=Iu hx
  simp only[Head.c]at hs
  simp(disch:=omega) [hl,Head.o,hs,VY]
  exact⟨i+1,n+10,g - 1,by omega,by omega,⟨by omega,by omega⟩,by omega,rfl⟩
 ·simp(disch:=omega) [VY]
  have:i=l.length:=by omega
  subst this
  rw[List.take_length]
def Proof.wc (p:Proof):Prop:=p.wf∧(∀h∈p.heads,h.wc)∧p.qc.wc
def Proof.o (p:Proof):List E:= [.o true (some (45,10)) (et p.heads), .p (.int .i64 p.qc.view), .p (.int .i64 p.qc.height), .o true (some (5,1)) (bytes p.qc.block), .o true (some (5,1)) (bytes p.qc.bits), .o true (some (22,1)) (bD p.qc.tags)]
abbrev ie:Nat:=208
def hX:AF:=⟨1,4,[.cell 2 6 true],(.seq (.ops [.i (.lbox 1 (.s 0)), .i (.lal 2 [.nils, .int .i64 0, .int .i64 0, .nils, .nils, .nils])]) (.seq (.ops [qf 3 1 0,ql 4 1 3 1 false,qk 6 278 4,qf 6 1 1,ql 7 1 6 5 true,qk 9 204 7, .i (.bld 9 [.nils, .int .i64 0, .int .i64 0, .nils, .nils, .nils] [(0,1,(.s 5)),(1,5,(.s 8))]),qs 2 2 9 6]) .ret))⟩
theorem tJ:cd ie=some hX:=by kernel_rfl
theorem nr (p:Proof) (hw:p.wc):VC cd ie (aD [(true,p.c)]) (fun rs _=>rs= [(true,p.o)]):=by
 refine aa tJ rfl ?_
 simp(disch:=omega) [hX,Proof.c,VY]
 refine ag (GS p.heads hw.1.1.1 hw.2.1) rfl rfl ?_
 simp(disch:=omega) [VY]
 refine ag (iw p.qc hw.2.2) rfl rfl ?_
 simp(disch:=omega) [Proof.o,Qc.o,VY]
abbrev s9:Nat:=272
def pT:AF:=⟨1,4,[.cell 2 6 true],(.seq (.ops [.i (.lbox 1 (.s 0)), .i (.lal 2 [.nils, .int .i64 0, .int .i64 0, .nils, .nils, .nils])]) (.seq (.ops [qf 3 1 0,ql 4 1 3 1 false,qk 6 320 4,qf 6 1 1,ql 7 1 6 5 true,qk 9 264 7, .i (.bld 9 [.nils, .int .i64 0, .int .i64 0, .nils, .nils, .nils] [(0,1,(.s 5)),(1,5,(.s 8))]),qs 2 2 9 6]) .ret))⟩
theorem CD:cd s9=some pT:=by kernel_rfl
theorem KN (p:Proof) (hw:p.wc):VC cd s9 (aD [(true,p.c)]) (fun rs _=>rs= [(true,p.o)]):=by
 refine aa CD rfl ?_
 simp(disch:=omega) [pT,Proof.c,VY]
 refine ag (IU p.heads hw.1.1.1 hw.2.1) rfl rfl ?_
 simp(disch:=omega) [VY]
 refine ag (wm p.qc hw.2.2) rfl rfl ?_
 simp(disch:=omega) [Proof.o,Qc.o,VY]
def d9 (p:Proof):List (Bool×List E):= [(true,[.p (.int .i64 6), .p (.int .i64 0), .p (.int .i64 0), .p .nils, .p (.int .i64 0), .p .nils, .p (.int .i64 0), .p (.int .i64 0), .p .nils, .p .nils, .p .nils, .p (.int .i64 0), .p (.int .i64 0), .p (.int .i64 0), .p .nils, .p .nils, .p (.int .i64 0), .p (.int .i64 0), .p .nils, .p .nils, .p .nils, .p (.int .i64 0), .p (.int .i64 0), .p (.int .i64 0), .p .nils, .p .nils, .p (.int .i64 0), .p (.int .i64 0), .p .nils, .p .nils, .p .nils, .p .nils, .p (.int .i64 0), .p .nils, .o true (some (45,10)) (et p.heads), .p (.int .i64 p.qc.view), .p (.int .i64 p.qc.height), .o true (some (5,1)) (bytes p.qc.block), .o true (some (5,1)) (bytes p.qc.bits), .o true (some (22,1)) (bD p.qc.tags), .p (.int .i64 0), .p (.int .i64 0), .p (.int .i64 0), .p .nils, .p .nils])]
abbrev sK:Nat:=201
def pr:AF:=⟨1,3,[.cell 2 45 true],(.seq (.ops [.i (.lbox 1 (.s 0)), .i (.lal 2 [.int .i64 0, .int .i64 0, .int .i64 0, .nils, .int .i64 0, .nils, .int .i64 0, .int .i64 0, .nils, .nils, .nils, .int .i64 0, .int .i64 0, .int .i64 0, .nils, .nils, .int .i64 0, .int .i64 0, .nils, .nils, .nils, .int .i64 0, .int .i64 0, .int .i64 0, .nils, .nils, .int .i64 0, .int .i64 0, .nils, .nils, .nils, .nils, .int .i64 0, .nils, .nils, .int .i64 0, .int .i64 0, .nils, .nils, .nils, .int .i64 0, .int .i64 0, .int .i64 0, .nils, .nils])]) (.seq (.ops [ql 3 1 1 6 true,qk 5 208 3, .i (.bld 5 [.int .i64 0, .int .i64 0, .int .i64 0, .nils, .int .i64 0, .nils, .int .i64 0, .int .i64 0, .nils, .nils, .nils, .int .i64 0, .int .i64 0, .int .i64 0, .nils, .nils, .int .i64 0, .int .i64 0, .nils, .nils, .nils, .int .i64 0, .int .i64 0, .int .i64 0, .nils, .nils, .int .i64 0, .int .i64 0, .nils, .nils, .nils, .nils, .int .i64 0, .nils, .nils, .int .i64 0, .int .i64 0, .nils, .nils, .nils, .int .i64 0, .int .i64 0, .int .i64 0, .nils, .nils] [(0,1,(qi 6)),(34,6,(.s 4))]),qs 2 2 5 45]) .ret))⟩
theorem DK:cd sK=some pr:=by kernel_rfl
theorem Bf (p:Proof) (hw:p.wc):VC cd sK (aD [(true,p.c)]) (fun rs _=>rs=d9 p):=by
 refine aa DK rfl ?_
 simp(disch:=omega) [pr,Proof.c,VY]
 refine ag (nr p hw) rfl rfl ?_
 simp(disch:=omega) [d9,Proof.o,VY]
abbrev pv:Nat:=192
def rZ:AF:=⟨1,3,[.cell 2 45 true],(.seq (.ops [.i (.lbox 1 (.s 0)), .i (.lal 2 [.int .i64 0, .int .i64 0, .int .i64 0, .nils, .int .i64 0, .nils, .int .i64 0, .int .i64 0, .nils, .nils, .nils, .int .i64 0, .int .i64 0, .int .i64 0, .nils, .nils, .int .i64 0, .int .i64 0, .nils, .nils, .nils, .int .i64 0, .int .i64 0, .int .i64 0, .nils, .nils, .int .i64 0, .int .i64 0, .nils, .nils, .nils, .nils, .int .i64 0, .nils, .nils, .int .i64 0, .int .i64 0, .nils, .nils, .nils, .int .i64 0, .int .i64 0, .int .i64 0, .nils, .nils])]) (.seq (.ops [ql 3 1 1 6 true,qk 5 272 3, .i (.bld 5 [.int .i64 0, .int .i64 0, .int .i64 0, .nils, .int .i64 0, .nils, .int .i64 0, .int .i64 0, .nils, .nils, .nils, .int .i64 0, .int .i64 0, .int .i64 0, .nils, .nils, .int .i64 0, .int .i64 0, .nils, .nils, .nils, .int .i64 0, .int .i64 0, .int .i64 0, .nils, .nils, .int .i64 0, .int .i64 0, .nils, .nils, .nils, .nils, .int .i64 0, .nils, .nils, .int .i64 0, .int .i64 0, .nils, .nils, .nils, .int .i64 0, .int .i64 0, .int .i64 0, .nils, .nils] [(0,1,(qi 6)),(34,6,(.s 4))]),qs 2 2 5 45]) .ret))⟩
theorem DV:cd pv=some rZ:=by kernel_rfl
theorem m8 (p:Proof) (hw:p.wc):VC cd pv (aD [(true,p.c)]) (fun rs _=>rs=d9 p):=by
 refine aa DV rfl ?_
 simp(disch:=omega) [rZ,Proof.c,VY]
 refine ag (KN p hw) rfl rfl ?_
 simp(disch:=omega) [d9,Proof.o,VY]
theorem Proof.TV {q:Proof} (h:aS hG q.tv) (hw:wt q.tv≤1048576):q.wc:=Proof.of h hw
structure Block where
 head:Head
 txs:List Bytes
def Block.c (x:Block):List D:=x.head.c++ [.sl (bD x.txs)]
def Block.wc (x:Block):Prop:=x.head.wc∧m7 x.txs
def Block.o (x:Block):List E:= [.p (.int .i64 x.head.view), .p (.int .i64 x.head.height), .p (.int .i64 x.head.proposer), .o true (some (5,1)) (bytes x.head.parent), .o true (some (5,1)) (bytes x.head.root), .p (.int .i64 x.head.qc.view), .p (.int .i64 x.head.qc.height), .o true (some (5,1)) (bytes x.head.qc.block), .o true (some (5,1)) (bytes x.head.qc.bits), .o true (some (22,1)) (bD x.head.qc.tags), .o true (some (22,1)) (bD x.txs)]
abbrev ic:Nat:=206
def ij:AF:=⟨1,4,[.cell 2 11 true],(.seq (.ops [.i (.lbox 1 (.s 0)), .i (.lal 2 [.int .i64 0, .int .i64 0, .int .i64 0, .nils, .nils, .int .i64 0, .int .i64 0, .nils, .nils, .nils, .nils])]) (.seq (.ops [qf 3 1 0,ql 4 1 3 10 true,qk 6 205 4,qf 6 1 10,ql 7 1 6 1 false,qk 9 277 7, .i (.bld 9 [.int .i64 0, .int .i64 0, .int .i64 0, .nils, .nils, .int .i64 0, .int .i64 0, .nils, .nils, .nils, .nils] [(0,10,(.s 5)),(10,1,(.s 8))]),qs 2 2 9 11]) .ret))⟩
theorem tQ:cd ic=some ij:=by kernel_rfl
theorem ob (x:Block) (hw:x.wc):VC cd ic (aD [(true,x.c)]) (fun rs _=>rs= [(true,x.o)]):=by
 refine aa tQ rfl ?_
 simp(disch:=omega) [ij,Block.c,Head.c,List.cons_append,List.nil_append,VY]
 refine ag (fW x.head hw.1) rfl rfl ?_
 simp(disch:=omega) [Head.o,VY]
 refine ag (sk x.txs hw.2) rfl rfl ?_
 simp(disch:=omega) [Block.o,VY]
abbrev qE:Nat:=268
def qu:AF:=⟨1,4,[.cell 2 11 true],(.seq (.ops [.i (.lbox 1 (.s 0)), .i (.lal 2 [.int .i64 0, .int .i64 0, .int .i64 0, .nils, .nils, .int .i64 0, .int .i64 0, .nils, .nils, .nils, .nils])]) (.seq (.ops [qf 3 1 0,ql 4 1 3 10 true,qk 6 267 4,qf 6 1 10,ql 7 1 6 1 false,qk 9 316 7, .i (.bld 9 [.int .i64 0, .int .i64 0, .int .i64 0, .nils, .nils, .int .i64 0, .int .i64 0, .nils, .nils, .nils, .nils] [(0,10,(.s 5)),(10,1,(.s 8))]),qs 2 2 9 11]) .ret))⟩
theorem Co:cd qE=some qu:=by kernel_rfl
theorem Kt (x:Block) (hw:x.wc):VC cd qE (aD [(true,x.c)]) (fun rs _=>rs= [(true,x.o)]):=by
 refine aa Co rfl ?_
 simp(disch:=omega) [qu,Block.c,Head.c,List.cons_append,List.nil_append,VY]
 refine ag (mw x.head hw.1) rfl rfl ?_
 simp(disch:=omega) [Head.o,VY]
 refine ag (mD x.txs hw.2) rfl rfl ?_
 simp(disch:=omega) [Block.o,VY]
def eb (x:Block):List (Bool×List E):= [(true,[.p (.int .i64 4), .p (.int .i64 0), .p (.int .i64 0), .p .nils, .p (.int .i64 0), .p .nils, .p (.int .i64 0), .p (.int .i64 0), .p .nils, .p .nils, .p .nils, .p (.int .i64 0), .p (.int .i64 0), .p (.int .i64 0), .p .nils, .p .nils, .p (.int .i64 0), .p (.int .i64 0), .p .nils, .p .nils, .p .nils, .p (.int .i64 x.head.view), .p (.int .i64 x.head.height), .p (.int .i64 x.head.proposer), .o true (some (5,1)) (bytes x.head.parent), .o true (some (5,1)) (bytes x.head.root), .p (.int .i64 x.head.qc.view), .p (.int .i64 x.head.qc.height), .o true (some (5,1)) (bytes x.head.qc.block), .o true (some (5,1)) (bytes x.head.qc.bits), .o true (some (22,1)) (bD x.head.qc.tags), .o true (some (22,1)) (bD x.txs), .p (.int .i64 0), .p .nils, .p .nils, .p (.int .i64 0), .p (.int .i64 0), .p .nils, .p .nils, .p .nils, .p (.int .i64 0), .p (.int .i64 0), .p (.int .i64 0), .p .nils, .p .nils])]
abbrev sn:Nat:=199
def sO:AF:=⟨1,3,[.cell 2 45 true],(.seq (.ops [.i (.lbox 1 (.s 0)), .i (.lal 2 [.int .i64 0, .int .i64 0, .int .i64 0, .nils, .int .i64 0, .nils, .int .i64 0, .int .i64 0, .nils, .nils, .nils, .int .i64 0, .int .i64 0, .int .i64 0, .nils, .nils, .int .i64 0, .int .i64 0, .nils, .nils, .nils, .int .i64 0, .int .i64 0, .int .i64 0, .nils, .nils, .int .i64 0, .int .i64 0, .nils, .nils, .nils, .nils, .int .i64 0, .nils, .nils, .int .i64 0, .int .i64 0, .nils, .nils, .nils, .int .i64 0, .int .i64 0, .int .i64 0, .nils, .nils])]) (.seq (.ops [ql 3 1 1 11 true,qk 5 206 3, .i (.bld 5 [.int .i64 0, .int .i64 0, .int .i64 0, .nils, .int .i64 0, .nils, .int .i64 0, .int .i64 0, .nils, .nils, .nils, .int .i64 0, .int .i64 0, .int .i64 0, .nils, .nils, .int .i64 0, .int .i64 0, .nils, .nils, .nils, .int .i64 0, .int .i64 0, .int .i64 0, .nils, .nils, .int .i64 0, .int .i64 0, .nils, .nils, .nils, .nils, .int .i64 0, .nils, .nils, .int .i64 0, .int .i64 0, .nils, .nils, .nils, .int .i64 0, .int .i64 0, .int .i64 0, .nils, .nils] [(0,1,(qi 4)),(21,11,(.s 4))]),qs 2 2 5 45]) .ret))⟩
theorem CM:cd sn=some sO:=by kernel_rfl
theorem A4 (x:Block) (hw:x.wc):VC cd sn (aD [(true,x.c)]) (fun rs _=>rs=eb x):=by
 refine aa CM rfl ?_
 simp(disch:=omega) [sO,Block.c,Head.c,List.cons_append,List.nil_append,VY]
 refine ag (ob x hw) rfl rfl ?_
 simp(disch:=omega) [eb,Block.o,VY]
abbrev qK:Nat:=188
def qR:AF:=⟨1,3,[.cell 2 45 true],(.seq (.ops [.i (.lbox 1 (.s 0)), .i (.lal 2 [.int .i64 0, .int .i64 0, .int .i64 0, .nils, .int .i64 0, .nils, .int .i64 0, .int .i64 0, .nils, .nils, .nils, .int .i64 0, .int .i64 0, .int .i64 0, .nils, .nils, .int .i64 0, .int .i64 0, .nils, .nils, .nils, .int .i64 0, .int .i64 0, .int .i64 0, .nils, .nils, .int .i64 0, .int .i64 0, .nils, .nils, .nils, .nils, .int .i64 0, .nils, .nils, .int .i64 0, .int .i64 0, .nils, .nils, .nils, .int .i64 0, .int .i64 0, .int .i64 0, .nils, .nils])]) (.seq (.ops [ql 3 1 1 11 true,qk 5 268 3, .i (.bld 5 [.int .i64 0, .int .i64 0, .int .i64 0, .nils, .int .i64 0, .nils, .int .i64 0, .int .i64 0, .nils, .nils, .nils, .int .i64 0, .int .i64 0, .int .i64 0, .nils, .nils, .int .i64 0, .int .i64 0, .nils, .nils, .nils, .int .i64 0, .int .i64 0, .int .i64 0, .nils, .nils, .int .i64 0, .int .i64 0, .nils, .nils, .nils, .nils, .int .i64 0, .nils, .nils, .int .i64 0, .int .i64 0, .nils, .nils, .nils, .int .i64 0, .int .i64 0, .int .i64 0, .nils, .nils] [(0,1,(qi 4)),(21,11,(.s 4))]),qs 2 2 5 45]) .ret))⟩
theorem Ce:cd qK=some qR:=by kernel_rfl
theorem nj (x:Block) (hw:x.wc):VC cd qK (aD [(true,x.c)]) (fun rs _=>rs=eb x):=by
 refine aa Ce rfl ?_
 simp(disch:=omega) [qR,Block.c,Head.c,List.cons_append,List.nil_append,VY]
 refine ag (Kt x hw) rfl rfl ?_
 simp(disch:=omega) [eb,Block.o,VY]
def Block.tv (x:Block):Tv:= .r [x.head.tv,yH x.txs]
theorem Block.enc (x:Block):enc sC x.tv=x.c:=by simp only[Block.tv,Head.enc,eX,ck,c6,eO,fL,jM,hU,eJ,gQ,Block.c,Head.c,Head.c,Qc.c,List.cons_append,List.nil_append,List.append_assoc]
theorem Block.ex {v:Tv} (h:aS sC v):∃x:Block,v=x.tv:=by
 obtain⟨vs,rfl,h⟩:=h.st
 obtain⟨v0,_,rfl,h0,h⟩:=h.step
 obtain⟨v1,_,rfl,h1,h⟩:=h.step
 obtain rfl:=h.fin
 obtain⟨n0,rfl⟩:=Head.ex h0
 obtain⟨n1,rfl⟩:=G6 h1
 exact⟨⟨n0,n1⟩,rfl⟩
theorem Block.of {x:Block} (h:aS sC x.tv) (hw:wt x.tv≤1048576):x.wc:=by
 simp only[Block.tv,gR,c7]at h
 simp only[Block.tv,wt,Bj]at hw
 obtain⟨h0,h1,_⟩:=h
 exact⟨Head.of h0 (by omega),KK (by omega)⟩
theorem Block.TV {q:Block} (h:aS sC q.tv) (hw:wt q.tv≤1048576):q.wc:=Block.of h hw
end Go.Eng.F
namespace Go.Eng.F
structure dg where
 l:ah
 heads:List Head
def dg.c (f:dg):List D:=f.l.c++ [.sl (et f.heads)]
def dg.wf (f:dg):Prop:=tA f.heads
def dg.wc (f:dg):Prop:=Sz f.heads.length∧∀h∈f.heads,h.wc
theorem dg.wc.wf {f:dg} (h:f.wc):f.wf:=⟨h.1,fun x hx=>(h.2 x hx).1⟩
def hh (l:ah) (hs:List Head) (i:Nat):Bytes:=match hs[i]? with|some h=>od l h|none=> []
theorem ae:bytes []= []:=rfl
def dg.o (f:dg):List E:= [.p (.int .i64 f.l.n), .p (.int .i64 f.l.tx), .p (.int .i64 f.l.txs), .p (.int .i64 f.l.frame), .p (.int .i64 f.l.heads), .o true (some (45,10)) (et f.heads)]
end Go.Eng.F
namespace Go.Eng.F
open Go.Eng.U (IX dP dv hG E3 kb rF zI)
structure Row where
 weight:Int
 key:Bytes
def Row.c (r:Row):List D:= [.int .i64 r.weight, .sl (bytes r.key)]
def Row.wf (r:Row):Prop:=lh r.weight∧Sz r.key.length
structure Table where
 rows:List Row
def rws (l:List Row):List (List D):=l.map Row.c
def Table.c (t:Table):List D:= [.sl (rws t.rows)]
def Table.wf (t:Table):Prop:=Sz t.rows.length∧∀r∈t.rows,r.wf
def Row.tv (x:Row):Tv:= .r [.i x.weight,Ec x.key]
theorem Row.enc (x:Row):enc E3 x.tv=x.c:=by simp only[Row.tv,eX,ck,c6,eO,fL,jM,hU,eJ,gQ,Row.c,List.cons_append,List.nil_append,List.append_assoc]
theorem Row.ex {v:Tv} (h:aS E3 v):∃x:Row,v=x.tv:=by
 obtain⟨vs,rfl,h⟩:=h.st
 obtain⟨v0,_,rfl,h0,h⟩:=h.step
 obtain⟨v1,_,rfl,h1,h⟩:=h.step
 obtain rfl:=h.fin
 obtain⟨n0,rfl,_⟩:=h0.int
 obtain⟨n1,rfl⟩:=hC h1
 exact⟨⟨n0,n1⟩,rfl⟩
theorem Row.of {x:Row} (h:aS E3 x.tv) (hw:wt x.tv≤1048576):x.wf:=by
 simp only[Row.tv,gR,c7]at h
 simp only[Row.tv,wt,Bj]at hw
 obtain⟨h0,h1,_⟩:=h
 exact⟨d5 (ok_int.1 h0),t9 (by omega)⟩
def KP (l:List Row):Tv:= .l (l.map Row.tv)
theorem Qn (l:List Row):enc (.sl E3) (KP l)= [.sl (rws l)]:=by
 simp only[KP,Hq,List.map_map,rws]
 congr 2
 exact List.map_congr_left fun x _=>Row.enc x
theorem PB {v:Tv} (h:aS (.sl E3) v):∃l,v=KP l:=by
 obtain⟨xs,rfl,_,h2⟩:=h.sl
 obtain⟨ys,rfl⟩:=tk (f:=Row.tv) (P:=aS E3) (fun v hv=>Row.ex hv) h2
 exact⟨ys,rfl⟩
theorem Rg {l:List Row} (h:aS (.sl E3) (KP l)) (hw:wt (KP l)≤1048576):Sz l.length∧∀x∈l,x.wf:=by
 unfold KP at h hw
 rw[Nm]at hw
 have h2:=(On.1 h).2
 simp only[List.length_map]at hw
 refine⟨by unfold Sz;omega,fun x hx=>Row.of (h2 _ (List.mem_map_of_mem hx)) ?_⟩
 have:=wL (f:=Row.tv) hx
 omega
def Table.tv (x:Table):Tv:= .r [KP x.rows]
theorem Table.enc (x:Table):enc kb x.tv=x.c:=by simp only[Table.tv,Qn,eX,ck,c6,eO,fL,jM,hU,eJ,gQ,Table.c,List.cons_append,List.nil_append,List.append_assoc]
theorem Table.ex {v:Tv} (h:aS kb v):∃x:Table,v=x.tv:=by
 obtain⟨vs,rfl,h⟩:=h.st
 obtain⟨v0,_,rfl,h0,h⟩:=h.step
 obtain rfl:=h.fin
 obtain⟨n0,rfl⟩:=PB h0
 exact⟨⟨n0⟩,rfl⟩
theorem Table.of {x:Table} (h:aS kb x.tv) (hw:wt x.tv≤1048576):x.wf:=by
 simp only[Table.tv,gR,c7]at h
 simp only[Table.tv,wt,Bj]at hw
 obtain⟨h0,_⟩:=h
 exact Rg h0 (by omega)
end Go.Eng.F
namespace Go.Eng.F
theorem Dv (n:Nat):List.replicate n [D.int .u8 0]=bytes (List.replicate n 0):=by simp[bytes]
theorem gX {b:Bytes} (h:hash b=true):b.length=32:=by simpa[hash]using h
theorem ed {n a b:Int} (h:db n a b=true):a≤n∧n≤b:=by simpa[db]using h
end Go.Eng.F
namespace Go.Eng.F
def ct (c:Nat):Nat:=if c % 2=1 then(c / 2) ^^^ 3988292384 else c / 2
def HY:Nat→Nat→Nat
 |0,c=>c
 |n+1,c=>ct (HY n c)
def wG (c:Nat) (b:Bytes):Nat:=b.foldl (fun c x=>HY 8 (c ^^^ x.toNat)) c
def GY (c:Nat) (b:Bytes):Nat:=wG (c ^^^ 4294967295) b ^^^ 4294967295
def MU (b:Bytes):Nat:=GY 0 b
theorem Sf {c:Nat} (h:c < 4294967296):ct c < 4294967296:=by
 unfold ct
 split
 ·exact Nat.xor_lt_two_pow (n:=32) (by omega) (by omega)
 ·omega
theorem J1 {c:Nat} (h:c < 4294967296):∀n,HY n c < 4294967296
 |0=>h
 |n+1=>Sf (J1 h n)
theorem L7 {a b:Nat} (ha:a < 4294967296) (hb:b < 4294967296):aH .xor .i64 (a:Int) (b:Int)=((a ^^^ b:Nat):Int):=by
 have h:=Nat.xor_lt_two_pow (n:=32) (x:=a) (y:=b) (by omega) (by omega)
 show IntKind.i64.wrap ((BitVec.ofInt 64 (a:Int) ^^^ BitVec.ofInt 64 (b:Int)).toNat:Int)=_
 rw[BitVec.toNat_xor,show BitVec.ofInt 64 (a:Int)=BitVec.ofNat 64 a from rfl,show BitVec.ofInt 64 (b:Int)=BitVec.ofNat 64 b from rfl,BitVec.toNat_ofNat,BitVec.toNat_ofNat,Nat.mod_eq_of_lt (by omega),Nat.mod_eq_of_lt (by omega)]
 exact Bu (by omega) (by omega)
theorem N8 {x y:Int} {a b:Nat} (hx:x=(a:Int)) (hy:y=(b:Int)) (ha:a < 4294967296) (hb:b < 4294967296):aH .xor .i64 x y=((a ^^^ b:Nat):Int):=by
 rw[hx,hy]
 exact L7 ha hb
theorem KO {a b:Nat} (ha:a < 4294967296) (hb:b < 4294967296):a ^^^ b < 4294967296:=Nat.xor_lt_two_pow (n:=32) (by omega) (by omega)
theorem O0 {c:Nat} (h:c < 4294967296):aH .and .i64 (c:Int) 1=((c % 2:Nat):Int):=by
 show IntKind.i64.wrap ((BitVec.ofInt 64 (c:Int) &&& BitVec.ofInt 64 1).toNat:Int)=_
 rw[BitVec.toNat_and,show BitVec.ofInt 64 (c:Int)=BitVec.ofNat 64 c from rfl,BitVec.toNat_ofNat,Nat.mod_eq_of_lt (by omega),show(BitVec.ofInt 64 1).toNat=2 ^ 1 - 1 from rfl,Nat.and_two_pow_sub_one_eq_mod]
 exact Bu (by omega) (by omega)
theorem Pm {c:Nat} (h:c < 4294967296):word (c:Int)=true:=by rw[wK];omega
abbrev xO:Nat:=306
def xp:AF:=⟨1,5,[.tmp 2],(.seq (.ops [.i (.mov 2 (qi 0))]) (.seq (.seq (.ops [.i (.mov 4 (qi 0))]) (.block 0 (.loop [14,13,12,11,10,9,8,7,6,5,3] (.seq (.ops [.i (.bin 5 .lss (.s 4) (qi 8))]) (.seq (.cond (.s 5) .skip (.exit 0)) (.seq (.block 1 (.seq (.ops [qm 6 0, .i (.bin 7 .and (.s 6) (qi 1)),qm 3 7]) (.seq (.ops [qm 8 0, .i (.bin 9 .shr (.s 8) (.c (.val false [.int .u64 1]))),qm 0 9]) (.seq (.ops [qm 10 3, .i (.bin 11 .eql (.s 10) (qi 1))]) (.cond (.s 11) (.ops [qm 12 0, .i (.bin 13 .xor (.s 12) (qi 3988292384)),qm 0 13]) .skip))))) (.ops [.i (.bin 14 .add (.s 4) (qi 1)),qm 4 14]))))))) (.seq (.ops [qm 15 0,qm 2 15]) .ret)))⟩
theorem Gz:cd xO=some xp:=by kernel_rfl
theorem M6 (c:Nat) (h:c < 4294967296):VC cd xO (aD [(false,[.int .i64 (c:Int)])]) (fun rs _=>rs=it (HY 8 c)):=by
 refine aa Gz rfl ?_
 simp(disch:=omega) [xp,VY]
 refine bo (σ:=Nat) (f1:=_) (es0:=_) (by simp(disch:=omega) [VY];rfl) (by simp(disch:=omega) [VY];rfl) (fun i=> [(0, .val false [.int .i64 (HY i c:Int)]),(4, .val false [.int .i64 (i:Int)])]) (fun _=> []) (fun i g=>g+i=8) 0 8 (by simp(disch:=omega) [HY,VY]) (by simp(disch:=omega) [VY]) (by omega) ?_
 rintro i n g hg P hP
 simp(disch:=omega) [VY]
 refine ab (fun h1=> ?_) (fun h1=> ?_)
 ·have hl:=J1 h i
  have e0:aH .and .i64 (HY i c:Int) 1=(HY i c:Int) % 2:=(O0 hl).trans (by omega)
  have e1:Int.fdiv (HY i c:Int) 2=(HY i c:Int) / 2:=Int.fdiv_eq_ediv_of_nonneg _ (by omega)
  have e3:aH .xor .i64 ((HY i c:Int) / 2) 3988292384=((HY i c / 2 ^^^ 3988292384:Nat):Int):=N8 (by omega) rfl (by omega) (by omega)
  simp(disch:=omega) [e0,e1,e3,IntKind.bits,VY]
  refine ab (fun h2=> ?_) (fun h2=> ?_)
  ·have h3:HY i c % 2=1:=by omega
   simp(disch:=omega) [e3,VY]
   exact hP (i+1) (g - 1) _ _ (by omega) (by omega) (by simp(disch:=omega) [HY,ct,h3,e3,VY]) (by simp(disch:=omega) [VY])
  ·have h3:¬HY i c % 2=1:=by omega
   simp(disch:=omega) [VY]
   exact hP (i+1) (g - 1) _ _ (by omega) (by omega) (by simp(disch:=omega) [HY,ct,h3,VY]) (by simp(disch:=omega) [VY])
 ·have:i=8:=by omega
  subst this
  simp(disch:=omega) [VY]
theorem HR (b:Bytes):∀ {c:Nat},c < 4294967296→wG c b < 4294967296:=by
 unfold wG
 induction b with
 |nil=>exact fun h=>h
 |cons x r ih=>
  refine fun {c} h=> ?_
  have hx:x.toNat < 4294967296:=by have:=HF x;omega
  rw[List.foldl_cons]
  exact ih (J1 (KO h hx) 8)
theorem Mq (b:Bytes) (x:UInt8) (c:Nat):wG c (b++ [x])=HY 8 (wG c b ^^^ x.toNat):=by
 unfold wG
 rw[List.foldl_append]
 rfl
theorem MN {b:Bytes} {i:Nat} (h:i < b.length) (c:Nat):wG c (b.take (i+1))=HY 8 (wG c (b.take i) ^^^ b[i].toNat):=by
 rw[List.take_add_one,List.getElem?_eq_getElem h]
 exact Mq _ _ _
abbrev pU:Nat:=256
def sP:AF:=⟨2,5,[.tmp 4],(.seq (.ops [.i (.mov 4 (qi 0))]) (.seq (.seq (.ops [qm 7 0,qk 9 249 7, .i (.not 9 (.s 8))]) (.cond (.s 9) (.seq (.ops [.i (.mov 4 (qi 0))]) .ret) .skip)) (.seq (.ops [qm 10 0, .i (.bin 11 .xor (.s 10) (qi 4294967295)),qm 0 11]) (.seq (.seq (.ops [qm 12 1,qn 13 12, .i (.mov 14 (qi 0))]) (.block 0 (.loop [23,22,21,20,19,18,17,16,15,6] (.seq (.ops [qd 15 .lss 14 13]) (.seq (.cond (.s 15) .skip (.exit 0)) (.seq (.block 1 (.seq (.ops [.i (.iad 16 (.s 12) (.s 14) 1), .i (.ldh 17 (.s 16) 1 false),qm 6 17]) (.ops [qm 18 0,qm 19 6, .i (.cvi 20 .i64 (.s 19)),qd 21 .xor 18 20,qk 23 306 21,qm 0 22]))) (.ops [.i (.bin 23 .add (.s 14) (qi 1)),qm 14 23]))))))) (.seq (.ops [qm 24 0, .i (.bin 25 .xor (.s 24) (qi 4294967295)),qm 4 25]) .ret)))))⟩
theorem BS:cd pU=some sP:=by kernel_rfl
theorem AZ (c:Nat) (b:Bytes) (h:c < 4294967296) (hb:b.length≤1073741824):VC cd pU (aD [(false,[.int .i64 (c:Int)]),(false,[.sl (bytes b)])]) (fun rs _=>rs=it (GY c b)):=by
 have h0:=KO (a:=c) (b:=4294967295) h (by omega)
 have e0:aH .xor .i64 (c:Int) 4294967295=((c ^^^ 4294967295:Nat):Int):=N8 rfl rfl h (by omega)
 refine aa BS rfl ?_
 simp(disch:=omega) [sP,VY]
 refine ag (zh c) rfl rfl ?_
 simp(disch:=omega) [Pm h,e0,VY]
 refine bo (σ:=Nat) (f1:=_) (es0:=_) (by simp(disch:=omega) [VY];rfl) (by simp(disch:=omega) [VY];rfl) (fun i=> [(0, .val false [.int .i64 (wG (c ^^^ 4294967295) (b.take i):Int)]),(14, .val false [.int .i64 (i:Int)])]) (fun _=> []) (fun i g=>g+i=b.length) 0 b.length (by simp(disch:=omega) [wG,VY]) (by simp(disch:=omega) [VY]) (by omega) ?_
 rintro i n g hg P hP
 simp(disch:=omega) [VY]
 refine ab (fun h1=> ?_) (fun h1=> ?_)
 ·have hi:i < b.length:=by omega
  have hl:=HR (b.take i) h0
  have hx:=HF b[i]
  have e1:=Bu (n:=(b[i].toNat:Int)) (by omega) (by omega)
  have e2:=L7 hl (b:=b[i].toNat) (by omega)
  simp(disch:=omega) [cg hi,e1,e2,VY]
  refine ao (M6 (wG (c ^^^ 4294967295) (b.take i) ^^^ b[i].toNat) (KO hl (by omega))) ?_
  simp(disch:=omega) [VY]
  exact hP (i+1) (g - 1) _ _ (by omega) (by omega) (by simp(disch:=omega) [MN hi,VY]) (by simp(disch:=omega) [VY])
 ·have:i=b.length:=by omega
  subst this
  have hl:=HR b h0
  have e2:aH .xor .i64 (wG (c ^^^ 4294967295) b:Int) 4294967295=((wG (c ^^^ 4294967295) b ^^^ 4294967295:Nat):Int):=N8 rfl rfl hl (by omega)
  simp(disch:=omega) [e2,GY,VY]
abbrev Du:Nat:=182
def Cd:AF:=⟨1,3,[.tmp 2],(.seq (.ops [.i (.mov 2 (qi 0))]) (.seq (.ops [qm 3 0, .i (.call 5 256 false [(qi 0),(.s 3)]),qm 2 4]) .ret))⟩
theorem KM:cd Du=some Cd:=by kernel_rfl
theorem z2 (b:Bytes) (hb:b.length≤1073741824):VC cd Du (aD [(false,[.sl (bytes b)])]) (fun rs _=>rs=it (MU b)):=by
 refine aa KM rfl ?_
 simp(disch:=omega) [Cd,VY]
 refine ao (AZ 0 b (by omega) hb) ?_
 simp(disch:=omega) [MU,VY]
end Go.Eng.F
namespace Go.Eng.F
def fY:Bytes→Nat
 | []=>0
 |x::r=>x.toNat+256 * fY r
theorem HG:∀(b:Bytes),fY b < 256 ^ b.length
 | []=>by simp[fY]
 |x::r=>by
  have h:=HG r
  have hx:=HF x
  simp only[fY,List.length_cons,Nat.pow_succ]
  omega
theorem yn (x:UInt8):∀(b:Bytes),fY (b++ [x])=fY b+x.toNat * 256 ^ b.length
 | []=>by simp[fY]
 |y::b=>by
  have h:=yn x b
  simp only[List.cons_append,fY,List.length_cons,Nat.pow_succ,h]
  have:256 * (fY b+x.toNat * 256 ^ b.length)=256 * fY b+x.toNat * (256 ^ b.length * 256):=by
   rw[Nat.mul_add,Nat.mul_left_comm,Nat.mul_comm 256 (256 ^ b.length)]
  omega
theorem S7 (k:Nat):(256:Nat) ^ k=2 ^ (8 * k):=by rw[Nat.pow_mul]
theorem QO {a b k:Nat} (ha:a < 2 ^ k) (hk:2 ^ k∣ b) (hb:b < 2 ^ 56) (hk2:k≤56):aH .or .i64 (a:Int) (b:Int)=((a+b:Nat):Int):=by
 have h2:(2:Nat) ^ k≤2 ^ 56:=Nat.pow_le_pow_right (by omega) hk2
 show IntKind.i64.wrap ((BitVec.ofInt 64 (a:Int)|||BitVec.ofInt 64 (b:Int)).toNat:Int)=_
 rw[BitVec.toNat_or,show BitVec.ofInt 64 (a:Int)=BitVec.ofNat 64 a from rfl,show BitVec.ofInt 64 (b:Int)=BitVec.ofNat 64 b from rfl,BitVec.toNat_ofNat,BitVec.toNat_ofNat,Nat.mod_eq_of_lt (by omega),Nat.mod_eq_of_lt (by omega)]
 obtain⟨q,rfl⟩:=hk
 rw[Nat.or_comm,←Nat.two_pow_add_eq_or_of_lt ha,Nat.add_comm]
 exact Bu (by omega) (by omega)
abbrev kg:Nat:=248
def kq:AF:=⟨3,6,[.tmp 6, .tmp 7, .tmp 8],(.seq (.ops [.i (.mov 6 (.c (.val false [.nils]))), .i (.mov 7 (qi 0)), .i (.mov 8 (qi 0))]) (.seq (.seq (.ops [qm 9 1,qm 10 0,qn 11 10, .i (.call 13 158 false [(.s 9),(qi 0),(.s 11)]), .i (.not 13 (.s 12)),qm 14 13, .g 14 false 16 (.mov 15 (.s 2)), .g 14 false 17 (.mov 16 (.s 0)), .g 14 false 18 (.len 17 false (.s 16)), .g 14 false 19 (.mov 18 (.s 1)), .g 14 false 20 (.bin 19 .sub (.s 17) (.s 18)), .g 14 false 21 (.call 21 158 false [(.s 15),(qi 0),(.s 19)]), .g 14 false 22 (.not 21 (.s 20)), .i (.pick 22 (.s 14) (qb true) (.s 21))]) (.cond (.s 22) (.seq (.ops [.i (.mov 6 (.c (.val false [.nils]))), .i (.mov 7 (qi 0)), .i (.mov 8 (qi 1))]) .ret) .skip)) (.seq (.ops [qm 23 0,qm 24 1,qm 25 1,qm 26 2,qd 27 .add 25 26, .i (.fO 28 1 (.s 23) (some (.s 24)) (some (.s 27))),qk 30 93 28,qm 30 1,qm 31 2,qd 32 .add 30 31,qm 6 29,qm 7 32, .i (.mov 8 (qi 0))]) .ret)))⟩
theorem vd:cd kg=some kq:=by kernel_rfl
theorem qN (b:Bytes) (a n:Nat) (h:a+n≤b.length) (hb:b.length≤1073741824):VC cd kg (aD [(false,[.sl (bytes b)]),(false,[.int .i64 (a:Int)]),(false,[.int .i64 (n:Int)])]) (fun rs _=>rs= [(false,[.o true (some (5,1)) (bytes ((b.drop a).take n))]),(false,[.p (.int .i64 ((a+n:Nat):Int))]),(false,[.p (.int .i64 0)])]):=by
 have e1:db (a:Int) 0 (b.length:Int)=true:=by simp[db];omega
 have e2:db (n:Int) 0 ((b.length:Int) - (a:Int))=true:=by simp[db];omega
 have e3:((bytes b).drop a).take n=bytes ((b.drop a).take n):=by simp[bytes]
 have e4:((a:Int)+(n:Int) - (a:Int)).toNat=n:=by omega
 have e5:(a:Int)+(n:Int)≤(b.length:Int):=by omega
 have e6:(a:Int)≤(a:Int)+(n:Int):=by omega
 refine aa vd rfl ?_
 simp(disch:=omega) [kq,VY]
 refine ag (aA _ _ _) rfl rfl ?_
 simp(disch:=omega) [e1,VY]
 refine ag (aA _ _ _) rfl rfl ?_
 simp(disch:=omega) [e2,e3,e4,e5,e6,VY]
 refine ao (aI ((b.drop a).take n) (by simp;omega)) ?_
 simp(disch:=omega) [VY]
theorem Lj {b:Bytes} {a w:Nat} (h:a+w≤b.length):((b.drop a).take w).length=w:=by simp;omega
abbrev uC:Nat:=181
def uE:AF:=⟨3,6,[.tmp 6, .tmp 7, .tmp 8],(.seq (.ops [.i (.mov 6 (qi 0)), .i (.mov 7 (qi 0)), .i (.mov 8 (qi 0))]) (.seq (.seq (.ops [qm 15 2, .i (.call 17 158 false [(.s 15),(qi 1),(qi 7)]), .i (.not 17 (.s 16))]) (.cond (.s 17) (.seq (.ops [.i (.mov 6 (qi 0)), .i (.mov 7 (qi 0)), .i (.mov 8 (qi 5))]) .ret) .skip)) (.seq (.ops [qm 19 0,qm 20 1,qm 21 2, .i (.call 23 248 false [(.s 19),(.s 20),(.s 21)]),qm 18 22, .i (.ext 23 (.s 18) 0), .i (.ext 24 (.s 18) 1), .i (.ext 25 (.s 18) 2),qm 9 23,qm 10 24,qm 11 25]) (.seq (.ops [.i (.mov 12 (qi 0))]) (.seq (.seq (.ops [qm 26 9,qn 27 26, .i (.mov 28 (qi 0))]) (.block 0 (.loop [40,39,38,37,36,35,34,33,32,31,30,29,14,13] (.seq (.ops [qd 29 .lss 28 27]) (.seq (.cond (.s 29) .skip (.exit 0)) (.seq (.block 1 (.seq (.ops [qm 30 28, .i (.iad 31 (.s 26) (.s 28) 1), .i (.ldh 32 (.s 31) 1 false),qm 13 30,qm 14 32]) (.ops [qm 33 12,qm 34 14, .i (.cvi 35 .i64 (.s 34)),qm 36 13, .i (.bin 37 .mul (qi 8) (.s 36)),qd 38 .shl 35 37,qd 39 .or 33 38,qm 12 39]))) (.ops [.i (.bin 40 .add (.s 28) (qi 1)),qm 28 40]))))))) (.seq (.ops [qm 41 12,qm 42 10,qm 43 11,qm 6 41,qm 7 42,qm 8 43]) .ret))))))⟩
theorem EO:cd uC=some uE:=by kernel_rfl
theorem rA (b:Bytes) (a w:Nat) (h:a+w≤b.length) (hw:1≤w∧w≤7) (hb:b.length≤1073741824):VC cd uC (aD [(false,[.sl (bytes b)]),(false,[.int .i64 (a:Int)]),(false,[.int .i64 (w:Int)])]) (fun rs _=>rs= [(false,[.p (.int .i64 (fY ((b.drop a).take w):Int))]),(false,[.p (.int .i64 ((a+w:Nat):Int))]),(false,[.p (.int .i64 0)])]):=by
 have e1:db (w:Int) 1 7=true:=by simp[db];omega
 have hl:=Lj h
 refine aa EO rfl ?_
 simp(disch:=omega) [uE,VY]
 refine ag (aA _ _ _) rfl rfl ?_
 simp(disch:=omega) [e1,VY]
 refine ag (qN b a w h hb) rfl rfl ?_
 simp(disch:=omega) [an,hl,VY]
 generalize hx:(b.drop a).take w=x at *
 refine bo (σ:=Nat) (f1:=_) (es0:=_) (by simp(disch:=omega) [VY];rfl) (by simp(disch:=omega) [VY];rfl) (fun i=> [(12, .val false [.int .i64 (fY (x.take i):Int)]),(28, .val false [.int .i64 (i:Int)])]) (fun _=> []) (fun i g=>g+i=w) 0 w (by simp(disch:=omega) [fY,VY]) (by simp(disch:=omega) [VY]) (by omega) ?_
 rintro i n g hg P hP
 simp(disch:=omega) [VY]
 refine ab (fun h1=> ?_) (fun h1=> ?_)
 ·have hi:i < x.length:=by omega
  have hq:=HF x[i]
  have e2:=Bu (n:=(x[i].toNat:Int)) (by omega) (by omega)
  have e3:¬(8:Int) * (i:Int) < 0:=by omega
  have e4:((8:Int) * (i:Int)).toNat=8 * i:=by omega
  have e5:min (8 * i) 64=8 * i:=by omega
  have hp:x[i].toNat * 2 ^ (8 * i) < 2 ^ 56:=by
   have:(2:Nat) ^ (8 * i)≤2 ^ 48:=Nat.pow_le_pow_right (by omega) (by omega)
   calc x[i].toNat * 2 ^ (8 * i)≤x[i].toNat * 2 ^ 48:=Nat.mul_le_mul_left _ this
    _ < 2 ^ 56:=by omega
  have e6:IntKind.i64.wrap ((x[i].toNat:Int) * 2 ^ (8 * i))=((x[i].toNat * 2 ^ (8 * i):Nat):Int):=by
   rw[show((x[i].toNat:Int) * 2 ^ (8 * i))=((x[i].toNat * 2 ^ (8 * i):Nat):Int)by simp]
   exact Bu (by omega) (by omega)
  have hf:=HG (x.take i)
  rw[List.length_take,Nat.min_eq_left (by omega),S7]at hf
  have e7:=QO hf (Nat.dvd_mul_left _ _) hp (by omega)
  have e8:fY (x.take (i+1))=fY (x.take i)+x[i].toNat * 2 ^ (8 * i):=by
   rw[List.take_add_one,List.getElem?_eq_getElem hi]
   show fY (x.take i++ [x[i]])=_
   rw[yn,List.length_take,Nat.min_eq_left (by omega),S7]
  simp(disch:=omega) [cg hi,e2,e3,e4,e5,IntKind.bits,VY]
  rw[e6,e7,←e8]
  simp(disch:=omega) [VY]
  exact hP (i+1) (g - 1) _ _ (by omega) (by omega) (by simp(disch:=omega) [VY]) (by simp(disch:=omega) [VY])
 ·have:i=w:=by omega
  subst this
  rw[List.take_of_length_le (by omega)]
  simp(disch:=omega) [VY]
def C2 (s:Bytes) (a:Nat):Nat:=fY ((s.drop (a+2)).take 2)
def Oo (s:Bytes) (a:Nat):Nat:=fY ((s.drop (a+4)).take 4)
def My (s:Bytes) (a:Nat):Bytes:=(s.drop (a+8)).take (C2 s a)
def aJ (l:ah) (s:Bytes) (a:Nat):Int×Int:=
 if l.ok=true∧a < s.length then
  if(s.getD a 0).toNat=181 then
   if a+1 < s.length∧¬(s.getD (a+1) 0).toNat=70 then(0,0)else
   if s.length - a < 4 then(1,0)else if ¬db (C2 s a) 1 l.frame=true then(0,0)else if s.length - a < 8+C2 s a then(1,8+C2 s a)else if Oo s a=MU (My s a)then(3,8+C2 s a)else(2,8+C2 s a)
  else(0,0)
 else(0,0)
def gA (p:Int×Int):List (Bool×List E):= [(false,[.p (.int .i64 p.1)]),(false,[.p (.int .i64 p.2)])]
abbrev qG:Nat:=128
def r8:AF:=⟨3,7,[.tmp 6, .tmp 7],(.seq (.ops [.i (.lbox 3 (.s 0)), .i (.mov 6 (qi 0)), .i (.mov 7 (qi 0))]) (.seq (.seq (.ops [ql 15 3 3 5 true,qk 17 95 15, .i (.not 17 (.s 16)),qm 18 17, .g 18 false 20 (.mov 19 (.s 2)), .g 18 false 21 (.mov 20 (.s 1)), .g 18 false 22 (.len 21 false (.s 20)), .g 18 false 23 (.bin 22 .sub (.s 21) (qi 1)), .g 18 false 24 (.call 24 158 false [(.s 19),(qi 0),(.s 22)]), .g 18 false 25 (.not 24 (.s 23)), .i (.pick 25 (.s 18) (qb true) (.s 24)),qm 26 25, .g 26 false 28 (.mov 27 (.s 1)), .g 26 false 29 (.mov 28 (.s 2)), .g 26 false 30 (.iad 29 (.s 27) (.s 28) 1), .g 26 false 31 (.ldh 30 (.s 29) 1 false), .g 26 false 32 (.bin 31 .neq (.s 30) (.c (.val false [.int .u8 181]))), .i (.pick 32 (.s 26) (qb true) (.s 31)),qm 33 32, .g 33 false 35 (.mov 34 (.s 1)), .g 33 false 36 (.len 35 false (.s 34)), .g 33 false 37 (.mov 36 (.s 2)), .g 33 false 38 (.bin 37 .sub (.s 35) (.s 36)), .g 33 false 39 (.bin 38 .gtr (.s 37) (qi 1)), .g 33 false 40 (.mov 39 (.s 38)), .g 39 true 41 (.mov 40 (.s 1)), .g 39 true 42 (.mov 41 (.s 2)), .g 39 true 43 (.bin 42 .add (.s 41) (qi 1)), .g 39 true 44 (.iad 43 (.s 40) (.s 42) 1), .g 39 true 45 (.ldh 44 (.s 43) 1 false), .g 39 true 46 (.bin 45 .neq (.s 44) (.c (.val false [.int .u8 70]))), .g 33 false 47 (.pick 46 (.s 39) (.s 45) (qb false)), .i (.pick 47 (.s 33) (qb true) (.s 46))]) (.cond (.s 47) (.seq (.ops [.i (.mov 6 (qi 0)), .i (.mov 7 (qi 0))]) .ret) .skip)) (.seq (.ops [qm 48 1,qn 49 48,qm 50 2,qd 51 .sub 49 50,qm 8 51]) (.seq (.seq (.ops [qm 52 8, .i (.bin 53 .lss (.s 52) (qi 4))]) (.cond (.s 53) (.seq (.ops [.i (.mov 6 (qi 1)), .i (.mov 7 (qi 0))]) .ret) .skip)) (.seq (.ops [qm 55 1,qm 56 2, .i (.bin 57 .add (.s 56) (qi 2)), .i (.call 59 181 false [(.s 55),(.s 57),(qi 2)]),qm 54 58, .i (.ext 59 (.s 54) 0), .i (.ext 60 (.s 54) 1), .i (.ext 61 (.s 54) 2),qm 9 59,qm 10 60,qm 11 61]) (.seq (.block 0 (.seq (.ops [qm 63 9,qf 64 3 3,ql 65 3 64 1 false, .i (.call 67 158 false [(.s 63),(qi 1),(.s 65)]), .i (.not 67 (.s 66)),qm 62 67]) (.cond (.s 62) (.seq (.ops [.i (.mov 6 (qi 0)), .i (.mov 7 (qi 0))]) .ret) (.seq (.ops [qm 69 8,qm 70 9, .i (.bin 71 .add (qi 8) (.s 70)),qd 72 .lss 69 71,qm 68 72]) (.cond (.s 68) (.seq (.ops [qm 73 9, .i (.bin 74 .add (qi 8) (.s 73)), .i (.mov 6 (qi 1)),qm 7 74]) .ret) .skip))))) (.seq (.ops [qm 76 1,qm 77 2, .i (.bin 78 .add (.s 77) (qi 4)), .i (.call 80 181 false [(.s 76),(.s 78),(qi 4)]),qm 75 79, .i (.ext 80 (.s 75) 0), .i (.ext 81 (.s 75) 1), .i (.ext 82 (.s 75) 2),qm 12 80,qm 13 81,qm 14 82]) (.seq (.seq (.ops [qm 83 12,qm 84 1,qm 85 2, .i (.bin 86 .add (.s 85) (qi 8)),qm 87 2, .i (.bin 88 .add (.s 87) (qi 8)),qm 89 9,qd 90 .add 88 89, .i (.fO 91 1 (.s 84) (some (.s 86)) (some (.s 90))),qk 93 182 91,qd 93 .neq 83 92]) (.cond (.s 93) (.seq (.ops [qm 94 9, .i (.bin 95 .add (qi 8) (.s 94)), .i (.mov 6 (qi 2)),qm 7 95]) .ret) .skip)) (.seq (.ops [qm 96 9, .i (.bin 97 .add (qi 8) (.s 96)), .i (.mov 6 (qi 3)),qm 7 97]) .ret)))))))))⟩
theorem Dh:cd qG=some r8:=by kernel_rfl
theorem oG (l:ah) (s:Bytes) (a:Nat) (hs:s.length≤1073741824) (ha:a≤1073741824):VC cd qG (aD [(true,l.c),(false,[.sl (bytes s)]),(false,[.int .i64 (a:Int)])]) (fun rs _=>rs=gA (aJ l s a)):=by
 refine aa Dh rfl ?_
 simp(disch:=omega) [r8,ah.c,VY]
 refine ag (aF l) rfl rfl ?_
 simp(disch:=omega) [VY]
 refine ak (fun h0=> ?_) (fun h0=> ?_)
 case refine_2=>simp(disch:=omega) [h0,aJ,gA,VY]
 simp(disch:=omega) [h0,VY]
 refine ag (aA _ _ _) rfl rfl ?_
 simp(disch:=omega) [VY]
 cases h1:db (a:Int) 0 ((s.length:Int) - 1)with
 |false=>
  have h2:=Qs h1
  have h3:¬a < s.length:=by omega
  simp(disch:=omega) [h0,h3,aJ,gA,VY]
 |true=>
  have h2:=cq h1
  have h3:a < s.length:=by omega
  simp(disch:=omega) [cg h3,VY]
  refine ab (fun h4=> ?_) (fun h4=> ?_)
  case refine_2=>
   have h4n:¬s[a].toNat=181:=by omega
   simp(disch:=omega) [h4,h4n,h0,h3,aJ,gA,VY]
  have h4n:s[a].toNat=181:=by omega
  have key:∀(hc:a+1 < s.length→s[a+1]?.getD 0=70),aJ l s a=if s.length - a < 4 then(1,0)else if ¬db (C2 s a) 1 l.frame=true then(0,0)else if s.length - a < 8+C2 s a then(1,8+(C2 s a:Int))else if Oo s a=MU (My s a)then(3,8+(C2 s a:Int))else(2,8+(C2 s a:Int)):=by
   intro hc
   have:¬(a+1 < s.length∧¬(s.getD (a+1) 0).toNat=70):=fun h=>by
    refine h.2 ?_
    rw[List.getD_eq_getElem?_getD,hc h.1]
    rfl
   unfold aJ
   have hg:s.getD a 0=s[a]:=by simp[List.getD,h3]
   rw[if_pos ⟨h0,h3⟩,hg,if_pos h4n,if_neg this]
  simp(disch:=omega) [h4,VY]
  refine ab (fun h5=> ?_) (fun h5=> ?_)
  ·have h5n:a+1 < s.length:=by omega
   have e5:((a:Int)+1).toNat=a+1:=by omega
   have e50:(0:Int)≤(a:Int)+1:=by omega
   simp(disch:=omega) [h4,h5,e5,e50,cg h5n,VY]
   refine ab (fun h6=> ?_) (fun h6=> ?_)
   case refine_2=>
    have h6n:¬s[a+1].toNat=70:=by omega
    simp(disch:=omega) [h4,h5,h6,h6n,h5n,h0,h3,h4n,aJ,gA,VY]
   have h6n:s[a+1]?.getD 0=70:=by
    simp only[List.getElem?_eq_getElem h5n,Option.getD_some]
    exact UInt8.toNat_inj.1 (by have:(70:UInt8).toNat=70:=rfl;omega)
   rw[key (fun _=>h6n)]
   simp(disch:=omega) [h4,h5,h6,VY]
   refine ab (fun h8=> ?_) (fun h8=> ?_)
   ·have h8n:s.length - a < 4:=by omega
    simp(disch:=omega) [h8,h8n,gA,VY]
   have h8n:¬s.length - a < 4:=by omega
   have hl:fY ((s.drop (a+2)).take 2) < 65536:=by
    have:=HG ((s.drop (a+2)).take 2)
    rw[Lj (by omega)]at this
    exact this
   simp(disch:=omega) [h8,VY]
   refine ao (rA s (a+2) 2 (by omega) (by omega) (by omega)) ?_
   simp(disch:=omega) [VY]
   refine ag (aA _ _ _) rfl rfl ?_
   simp(disch:=omega) [VY]
   refine ak (fun h9=> ?_) (fun h9=> ?_)
   case refine_2=>simp(disch:=omega) [h8n,C2,h9,gA,VY]
   have h9t:=cq h9
   simp(disch:=omega) [h9,VY]
   refine ab (fun h10=> ?_) (fun h10=> ?_)
   ·have h10n:s.length - a < 8+fY ((s.drop (a+2)).take 2):=by omega
    simp(disch:=omega) [h8n,C2,h9,h10,h10n,gA,VY]
   have h10n:¬s.length - a < 8+fY ((s.drop (a+2)).take 2):=by omega
   simp(disch:=omega) [h10,VY]
   refine ao (rA s (a+4) 4 (by omega) (by omega) (by omega)) ?_
   have e6:((bytes s).drop (a+8)).take (fY ((s.drop (a+2)).take 2))=bytes (My s a):=by simp[bytes,My,C2]
   have e7:((a:Int)+8).toNat=a+8:=by omega
   have e8:((a:Int)+8+(fY ((s.drop (a+2)).take 2):Int) - ((a:Int)+8)).toNat=fY ((s.drop (a+2)).take 2):=by omega
   have e9:(a:Int)+8≤(a:Int)+8+(fY ((s.drop (a+2)).take 2):Int):=by omega
   have e10:(a:Int)+8+(fY ((s.drop (a+2)).take 2):Int)≤(s.length:Int):=by omega
   have e11:(0:Int)≤(a:Int)+8:=by omega
   simp(disch:=omega) [e6,e7,e8,e9,e10,e11,tp,VY]
   refine ao (z2 (My s a) (by simp[My];omega)) ?_
   simp(disch:=omega) [VY]
   refine ab (fun h11=> ?_) (fun h11=> ?_)
   ·have h11n:Oo s a=MU (My s a):=by unfold Oo;omega
    simp(disch:=omega) [h11,h8n,C2,h9,h10n,h11n,gA,VY]
   ·have h11n:¬Oo s a=MU (My s a):=by unfold Oo;omega
    simp(disch:=omega) [h11,h8n,C2,h9,h10n,h11n,gA,VY]
  ·rw[key (fun h=>by omega)]
   have h7:s.length - a < 4:=by omega
   have h7i:(s.length:Int) - (a:Int) < 4:=by omega
   simp(disch:=omega) [h4,h5,h7,h7i,gA,VY]
structure jY where
 skip:Int
 buf:Bytes
def jY.c (p:jY):List D:= [.int .i64 p.skip, .sl (bytes p.buf)]
end Go.Eng.F
namespace Go.Eng.F
end Go.Eng.F
namespace Go.Eng.F
open Go.Eng.U (IX dP dv BA)
def dg.tv (f:dg):Tv:= .r [f.l.tv,Aq f.heads]
theorem dg.enc (f:dg):enc BA f.tv=f.c:=by simp only[dg.tv,Bv,eX,ck,c6,ah.enc,dg.c,List.append_nil]
theorem dg.ex {v:Tv} (h:aS BA v):∃q:dg,v=q.tv:=by
 obtain⟨vs,rfl,h⟩:=h.st
 obtain⟨v0,_,rfl,h0,h⟩:=h.step
 obtain⟨v1,_,rfl,h1,h⟩:=h.step
 obtain rfl:=h.fin
 obtain⟨n0,rfl⟩:=ah.ex h0
 obtain⟨n1,rfl⟩:=Bw h1
 exact⟨⟨n0,n1⟩,rfl⟩
theorem dg.of {f:dg} (h:aS BA f.tv) (hw:wt f.tv≤1048576):f.wc∧aS dv f.l.tv∧f.heads.length≤1048576:=by
 simp only[dg.tv,gR,c7]at h
 simp only[dg.tv,wt,Bj]at hw
 obtain⟨h0,h1,_⟩:=h
 have h5:=He h1 (by omega)
 have h6:f.heads.length≤wt (Aq f.heads):=by unfold Aq;rw[Nm,List.length_map];omega
 exact⟨⟨h5.1,h5.2⟩,gR.2 (gR.1 h0),by omega⟩
theorem SH (b:Bool):RT (bl b) [(.bool, .b b)]:=⟨rfl,by simp only[fL,Gq,D.leaf,and_self],trivial,trivial⟩
end Go.Eng.F
namespace Go.Eng.F
structure eL where
 l:ah
 t:Table
 push:jY
 chain:List Head
def eL.c (x:eL):List D:= [.int .i64 x.l.n, .int .i64 x.l.tx, .int .i64 x.l.txs, .int .i64 x.l.frame, .int .i64 x.l.heads, .sl (rws x.t.rows), .int .i64 x.push.skip, .sl (bytes x.push.buf), .sl (et x.chain)]
def eL.wc (x:eL):Prop:=x.t.wf∧x.push.buf.length≤1073741824∧Sz x.chain.length∧∀h∈x.chain,h.wc
def ht (hs:List Head) (i:Nat):Int:=match hs[i]? with|some h=>h.height|none=>0
structure tR where
 l:ah
 t:Table
 x:eL
 own:List Head
def tR.c (d:tR):List D:= [.int .i64 d.l.n, .int .i64 d.l.tx, .int .i64 d.l.txs, .int .i64 d.l.frame, .int .i64 d.l.heads, .sl (rws d.t.rows), .int .i64 d.x.l.n, .int .i64 d.x.l.tx, .int .i64 d.x.l.txs, .int .i64 d.x.l.frame, .int .i64 d.x.l.heads, .sl (rws d.x.t.rows), .int .i64 d.x.push.skip, .sl (bytes d.x.push.buf), .sl (et d.x.chain), .sl (et d.own)]
def tR.wc (d:tR):Prop:=d.t.wf∧d.x.wc∧Sz d.own.length∧∀h∈d.own,h.wc
end Go.Eng.F
namespace Go.Eng.F
open Go.Eng.U (IX dP dv kb zI rF Lz)
def jY.wf (p:jY):Prop:=lh p.skip∧Sz p.buf.length
def jY.tv (x:jY):Tv:= .r [.i x.skip,Ec x.buf]
theorem jY.enc (x:jY):enc zI x.tv=x.c:=by simp only[jY.tv,eX,ck,c6,eO,fL,jM,hU,eJ,gQ,jY.c,List.cons_append,List.nil_append,List.append_assoc]
theorem jY.ex {v:Tv} (h:aS zI v):∃x:jY,v=x.tv:=by
 obtain⟨vs,rfl,h⟩:=h.st
 obtain⟨v0,_,rfl,h0,h⟩:=h.step
 obtain⟨v1,_,rfl,h1,h⟩:=h.step
 obtain rfl:=h.fin
 obtain⟨n0,rfl,_⟩:=h0.int
 obtain⟨n1,rfl⟩:=hC h1
 exact⟨⟨n0,n1⟩,rfl⟩
theorem jY.of {x:jY} (h:aS zI x.tv) (hw:wt x.tv≤1048576):x.wf:=by
 simp only[jY.tv,gR,c7]at h
 simp only[jY.tv,wt,Bj]at hw
 obtain⟨h0,h1,_⟩:=h
 exact⟨d5 (ok_int.1 h0),t9 (by omega)⟩
def eL.tv (x:eL):Tv:= .r [x.l.tv,x.t.tv,x.push.tv,Aq x.chain]
theorem eL.enc (x:eL):enc rF x.tv=x.c:=by simp only[eL.tv,Bv,eX,ck,c6,ah.enc,Table.enc,jY.enc,eL.c,ah.c,Table.c,jY.c,List.cons_append,List.nil_append,List.append_nil]
theorem eL.ex {v:Tv} (h:aS rF v):∃q:eL,v=q.tv:=by
 obtain⟨vs,rfl,h⟩:=h.st
 obtain⟨v0,_,rfl,h0,h⟩:=h.step
 obtain⟨v1,_,rfl,h1,h⟩:=h.step
 obtain⟨v2,_,rfl,h2,h⟩:=h.step
 obtain⟨v3,_,rfl,h3,h⟩:=h.step
 obtain rfl:=h.fin
 obtain⟨n0,rfl⟩:=ah.ex h0
 obtain⟨n1,rfl⟩:=Table.ex h1
 obtain⟨n2,rfl⟩:=jY.ex h2
 obtain⟨n3,rfl⟩:=Bw h3
 exact⟨⟨n0,n1,n2,n3⟩,rfl⟩
theorem eL.of {x:eL} (h:aS rF x.tv) (hw:wt x.tv≤1048576):x.wc:=by
 simp only[eL.tv,gR,c7]at h
 simp only[eL.tv,wt,Bj]at hw
 obtain⟨h0,h1,h2,h3,_⟩:=h
 have k1:=Table.of h1 (by omega)
 have k2:=jY.of h2 (by omega)
 have k3:=He h3 (by omega)
 exact⟨k1,k2.2,k3.1,k3.2⟩
def tR.tv (x:tR):Tv:= .r [x.l.tv,x.t.tv,x.x.tv,Aq x.own]
theorem tR.enc (x:tR):enc Lz x.tv=x.c:=by simp only[tR.tv,Bv,eX,ck,c6,ah.enc,Table.enc,eL.enc,tR.c,eL.c,ah.c,Table.c,List.cons_append,List.nil_append,List.append_nil]
theorem tR.ex {v:Tv} (h:aS Lz v):∃q:tR,v=q.tv:=by
 obtain⟨vs,rfl,h⟩:=h.st
 obtain⟨v0,_,rfl,h0,h⟩:=h.step
 obtain⟨v1,_,rfl,h1,h⟩:=h.step
 obtain⟨v2,_,rfl,h2,h⟩:=h.step
 obtain⟨v3,_,rfl,h3,h⟩:=h.step
 obtain rfl:=h.fin
 obtain⟨n0,rfl⟩:=ah.ex h0
 obtain⟨n1,rfl⟩:=Table.ex h1
 obtain⟨n2,rfl⟩:=eL.ex h2
 obtain⟨n3,rfl⟩:=Bw h3
 exact⟨⟨n0,n1,n2,n3⟩,rfl⟩
theorem tR.of {x:tR} (h:aS Lz x.tv) (hw:wt x.tv≤1048576):x.wc:=by
 simp only[tR.tv,gR,c7]at h
 simp only[tR.tv,wt,Bj]at hw
 obtain⟨h0,h1,h2,h3,_⟩:=h
 have k1:=Table.of h1 (by omega)
 have k2:=eL.of h2 (by omega)
 have k3:=He h3 (by omega)
 exact⟨k1,k2,k3.1,k3.2⟩
end Go.Eng.F
namespace Go.Eng.F
open Go.Eng.U (IX dP dv kb zI rF)
end Go.Eng.F
namespace Go.Eng.F
open Go.Eng.U (IX dP dv kb hG)
theorem dB {cd:Nat→Option AF} {pd:List (Nat×Nat)} {R:List RV} {Q:List (Bool×List E)→List E→Prop} {k:List VK} {f:UT} {st:St} {ds:List Nat} {b:AC} {σ:Type} (f0:UT) (hf:cw f ds=f0) {f2:UT} {st2:St} (hw:dh f0 st f2 st2) (f1:UT) (es0:List (Nat×En)) (h2:f2=f1) (he:Qz st2.es=es0)
 (oU:σ→List (Nat×U)) (ue:σ→List (Nat×En)) (J:σ→Nat→Prop) (s0:σ) (g0:Nat) (hu:f1=bW f1 (oU s0)) (hs:me st2 (Ge es0 (ue s0))) (h0:J s0 g0)
 (round:∀s n g,J s g→∀P:UT→St→Prop,(∀(s':σ) (g':Nat) (f':UT) (st':St),g' < g→J s' g'→cw f' ds=bW f1 (oU s')→me st' (Ge es0 (ue s'))→P f' st')→VX cd pd R Q (.c b:: .stop P::k) (bW f1 (oU s)) ⟨n,Ge es0 (ue s)⟩):
 VX cd pd R Q (.c (.loop ds b)::k) f st:=
 lb f0 hf hw f1 es0 h2 he oU ue J s0 g0 hu hs h0 fun s n g h=>round s n g h _ fun s' g' f' st' a b c d=>⟨s',g',a,b,c,d⟩
theorem Nj {bits:Bytes} {n:Int} (h:dG bits n=true):bits.length≤2:=by
 simp only[dG,Bool.and_eq_true,decide_eq_true_eq]at h
 have h1:=cq h.1.1
 have h2:=h.1.2
 rw[vE]at h2
 omega
theorem Ta (n:Int):lh (IntKind.i64.wrap n):=by
 simp only[lh,IntKind.wrap,IntKind.bits,IntKind.signed]
 simp
 omega
end Go.Eng.F
namespace Go.Eng.F
structure bg where
 view:Int
 height:Int
 block:Bytes
 who:Int
 tag:Bytes
def bg.c (v:bg):List D:= [.int .i64 v.view, .int .i64 v.height, .sl (bytes v.block), .int .i64 v.who, .sl (bytes v.tag)]
def bg.wf (v:bg):Prop:=lh v.view∧lh v.height∧Sz v.block.length∧lh v.who∧Sz v.tag.length
def iG (a b:bg):Bool:=decide (a.view=b.view) && decide (a.height=b.height) && decide (a.block=b.block) && decide (a.who=b.who) && decide (a.tag=b.tag)
abbrev nS:Nat:=26
def mZ:AF:=⟨2,6,[.tmp 4],(.seq (.ops [.i (.lbox 2 (.s 0)), .i (.lbox 3 (.s 1)), .i (.mov 4 (qb false))]) (.seq (.ops [qf 5 2 0,ql 6 2 5 1 false,qf 7 3 0,ql 8 3 7 1 false,qd 9 .eql 6 8,qm 10 9, .g 10 true 12 (.fad 11 (.s 2) 1), .g 10 true 13 (.ldl 12 2 (.s 11) 1 false), .g 10 true 14 (.fad 13 (.s 3) 1), .g 10 true 15 (.ldl 14 3 (.s 13) 1 false), .g 10 true 16 (.bin 15 .eql (.s 12) (.s 14)), .i (.pick 16 (.s 10) (.s 15) (qb false)),qm 17 16, .g 17 true 19 (.fad 18 (.s 2) 3), .g 17 true 20 (.ldl 19 2 (.s 18) 1 false), .g 17 true 21 (.fad 20 (.s 3) 3), .g 17 true 22 (.ldl 21 3 (.s 20) 1 false), .g 17 true 23 (.bin 22 .eql (.s 19) (.s 21)), .i (.pick 23 (.s 17) (.s 22) (qb false)),qm 24 23, .g 24 true 26 (.fad 25 (.s 2) 2), .g 24 true 27 (.ldl 26 2 (.s 25) 1 false), .g 24 true 28 (.fad 27 (.s 3) 2), .g 24 true 29 (.ldl 28 3 (.s 27) 1 false), .g 24 true 30 (.call 30 21 false [(.s 26),(.s 28)]), .i (.pick 30 (.s 24) (.s 29) (qb false)),qm 31 30, .g 31 true 33 (.fad 32 (.s 2) 4), .g 31 true 34 (.ldl 33 2 (.s 32) 1 false), .g 31 true 35 (.fad 34 (.s 3) 4), .g 31 true 36 (.ldl 35 3 (.s 34) 1 false), .g 31 true 37 (.call 37 21 false [(.s 33),(.s 35)]), .i (.pick 37 (.s 31) (.s 36) (qb false)),qm 4 37]) .ret))⟩
theorem Ax:cd nS=some mZ:=by kernel_rfl
theorem zw (a b:bg):VC cd nS (aD [(true,a.c),(true,b.c)]) (fun rs _=>rs=bl (iG a b)):=by
 refine aa Ax rfl ?_
 simp(disch:=omega) [mZ,bg.c,VY]
 refine ab (fun h1=> ?_) (fun h1=> ?_) <;>simp(disch:=omega) [h1,iG,VY]
 refine ab (fun h2=> ?_) (fun h2=> ?_) <;>simp(disch:=omega) [h1,h2,VY]
 refine ab (fun h3=> ?_) (fun h3=> ?_) <;>simp(disch:=omega) [h1,h2,h3,VY]
 refine ao (aM a.block b.block) ?_
 simp(disch:=omega) [h1,h2,h3,VY]
 refine ab (fun h4=> ?_) (fun h4=> ?_) <;>simp(disch:=omega) [h1,h2,h3,h4,VY]
 refine ao (aM a.tag b.tag) ?_
 simp(disch:=omega) [h1,h2,h3,h4,VY]
abbrev nM:Nat:=298
def nv:AF:=⟨2,6,[.tmp 4],(.seq (.ops [.i (.lbox 2 (.s 0)), .i (.lbox 3 (.s 1)), .i (.mov 4 (qb false))]) (.seq (.ops [qf 5 2 0,ql 6 2 5 1 false,qf 7 3 0,ql 8 3 7 1 false,qd 9 .eql 6 8,qm 10 9, .g 10 true 12 (.fad 11 (.s 2) 1), .g 10 true 13 (.ldl 12 2 (.s 11) 1 false), .g 10 true 14 (.fad 13 (.s 3) 1), .g 10 true 15 (.ldl 14 3 (.s 13) 1 false), .g 10 true 16 (.bin 15 .eql (.s 12) (.s 14)), .i (.pick 16 (.s 10) (.s 15) (qb false)),qm 17 16, .g 17 true 19 (.fad 18 (.s 2) 2), .g 17 true 20 (.ldl 19 2 (.s 18) 1 false), .g 17 true 21 (.fad 20 (.s 3) 2), .g 17 true 22 (.ldl 21 3 (.s 20) 1 false), .g 17 true 23 (.call 23 329 false [(.s 19),(.s 21)]), .i (.pick 23 (.s 17) (.s 22) (qb false)),qm 24 23, .g 24 true 26 (.fad 25 (.s 2) 3), .g 24 true 27 (.ldl 26 2 (.s 25) 1 false), .g 24 true 28 (.fad 27 (.s 3) 3), .g 24 true 29 (.ldl 28 3 (.s 27) 1 false), .g 24 true 30 (.bin 29 .eql (.s 26) (.s 28)), .i (.pick 30 (.s 24) (.s 29) (qb false)),qm 31 30, .g 31 true 33 (.fad 32 (.s 2) 4), .g 31 true 34 (.ldl 33 2 (.s 32) 1 false), .g 31 true 35 (.fad 34 (.s 3) 4), .g 31 true 36 (.ldl 35 3 (.s 34) 1 false), .g 31 true 37 (.call 37 329 false [(.s 33),(.s 35)]), .i (.pick 37 (.s 31) (.s 36) (qb false)),qm 4 37]) .ret))⟩
theorem AL:cd nM=some nv:=by kernel_rfl
theorem yr (a b:bg):VC cd nM (aD [(true,a.c),(true,b.c)]) (fun rs _=>rs=bl (iG a b)):=by
 refine aa AL rfl ?_
 simp(disch:=omega) [nv,bg.c,VY]
 refine ab (fun h1=> ?_) (fun h1=> ?_) <;>simp(disch:=omega) [h1,iG,VY]
 refine ab (fun h2=> ?_) (fun h2=> ?_) <;>simp(disch:=omega) [h1,h2,VY]
 refine ao (bc a.block b.block) ?_
 simp(disch:=omega) [h1,h2,VY]
 refine ab (fun h3=> ?_) (fun h3=> ?_) <;>simp(disch:=omega) [h1,h2,h3,VY]
 refine ab (fun h4=> ?_) (fun h4=> ?_) <;>simp(disch:=omega) [h1,h2,h3,h4,VY]
 refine ao (bc a.tag b.tag) ?_
 simp(disch:=omega) [h1,h2,h3,h4,VY]
end Go.Eng.F
namespace Go.Eng.F
def cur (b:Bytes) (i:Nat) (h:Int):List E0:= [.p (.sl (bytes b)), .p (.int .i64 (i:Int)), .p (.int .i64 h)]
theorem Ll (k v ty:Nat) (xs:List E0) (r:List E):aN k v (.pt ty xs::r)=(.pt k v 0::(aN (k+(1+xs.length)) (v+(1+xs.length)) r).1,(k, .pt v ty (aR (k+1) (v+1) xs).1)::((aR (k+1) (v+1) xs).2++(aN (k+(1+xs.length)) (v+(1+xs.length)) r).2)):=rfl
def Ny (x:Int):Nat:=(BitVec.ofInt 64 x &&& BitVec.ofInt 64 255).toNat
theorem G0 (x:Int):Ny x < 256:=by
 have:Ny x≤255:=by
  unfold Ny
  rw[BitVec.toNat_and]
  exact Nat.and_le_right
 omega
theorem N3 (x:Int):aH .and .i64 x 255=((Ny x:Nat):Int):=by
 have h:=G0 x
 show IntKind.i64.wrap ((Ny x:Nat):Int)=_
 exact Bu (by omega) (by omega)
abbrev um:Nat:=88
def vf:AF:=⟨1,6,[.tmp 2],(.seq (.ops [.i (.mov 2 (.c (.val false [.nilp])))]) (.seq (.ops [qm 5 0,qn 6 5, .i (.bin 7 .add (qi 1611) (.s 6)),qm 3 7]) (.seq (.seq (.ops [.i (.mov 4 (qi 0))]) (.block 0 (.loop [27,26,25,24,23,22,21,20,19,18,17,16,15,14,13,12,11,10,9,8] (.seq (.seq (.ops [qm 8 4,qm 9 0,qn 10 9,qd 11 .lss 8 10,qm 12 11, .g 12 true 14 (.mov 13 (.s 4)), .g 12 true 15 (.bin 14 .lss (.s 13) (qi 4000)), .i (.pick 15 (.s 12) (.s 14) (qb false))]) (.cond (.s 15) .skip (.exit 0))) (.seq (.block 1 (.ops [qm 18 3, .i (.bin 19 .mul (.s 18) (qi 37)),qm 20 0,qm 21 4, .i (.iad 22 (.s 20) (.s 21) 1), .i (.ldh 23 (.s 22) 1 false), .i (.cvi 24 .i64 (.s 23)),qd 25 .add 19 24, .i (.bin 26 .add (.s 25) (qi 7)), .i (.bin 27 .and (.s 26) (qi 1073741823)),qm 3 27])) (.ops [qm 16 4, .i (.bin 17 .add (.s 16) (qi 1)),qm 4 17])))))) (.seq (.ops [qm 28 0,qm 29 3, .i (.bld 30 [.nils, .int .i64 0, .int .i64 0] [(0,1,(.s 28)),(2,1,(.s 29))]), .i (.hbox 31 133 (.s 30)),qm 2 31]) .ret))))⟩
theorem Ew:cd um=some vf:=by kernel_rfl
theorem FT (b:Bytes) (hb:b.length≤1073741824):VC cd um (aD [(false,[.sl (bytes b)])]) (fun r _=>∃h:Int,True∧r= [(false,[.pt 133 (cur b 0 h)])]):=by
 refine aa Ew rfl ?_
 simp(disch:=omega) [vf,VY]
 refine bo (σ:=Nat×Int) (f1:=_) (es0:=_) (by simp(disch:=omega) [VY];rfl) (by simp(disch:=omega) [VY];rfl) (fun p=> [(4, .val false [.int .i64 (p.1:Int)]),(3, .val false [.int .i64 p.2])]) (fun _=> []) (fun p g=>g+p.1=b.length) (0,_) b.length (by simp(disch:=omega) [VY];rfl) (by simp(disch:=omega) [VY]) (by omega) ?_
 rintro⟨i,h⟩ n g hg P hP
 simp only at hg
 simp(disch:=omega) [VY]
 refine ab (fun h1=> ?_) (fun h1=> ?_)
 ·have hi:i < b.length:=by omega
  simp(disch:=omega) [h1,VY]
  refine ab (fun h2=> ?_) (fun h2=> ?_)
  ·simp(disch:=omega) [cg hi,VY]
   exact hP (i+1,_) (g - 1) _ _ (by omega) (by simp only;omega) (by simp(disch:=omega) [VY];rfl) (by simp(disch:=omega) [VY])
  ·simp(disch:=omega) [cur,VY]
 ·simp(disch:=omega) [h1,cur,VY]
abbrev rP:Nat:=162
def pK:AF:=⟨1,6,[.tmp 2],(.seq (.ops [.i (.mov 2 (qi 0))]) (.seq (.ops [qm 4 0,qm 5 0, .i (.nch 6 (.s 5)),qf 7 6 2, .i (.ldh 8 (.s 7) 1 false), .i (.bin 9 .mul (.s 8) (qi 6364136223846793005)), .i (.bin 10 .add (.s 9) (qi 1442695040888963407)), .i (.nch 11 (.s 4)),qf 12 11 2, .i (.sth (.s 12) (.s 10) 1)]) (.seq (.ops [qm 13 0, .i (.nch 14 (.s 13)),qf 15 14 2, .i (.ldh 16 (.s 15) 1 false), .i (.bin 17 .shr (.s 16) (.c (.val false [.int .u64 33]))),qm 18 0, .i (.nch 19 (.s 18)),qf 20 19 2, .i (.ldh 21 (.s 20) 1 false), .i (.bin 22 .shr (.s 21) (.c (.val false [.int .u64 45]))),qd 23 .xor 17 22, .i (.bin 24 .and (.s 23) (qi 255)),qm 3 24]) (.seq (.seq (.ops [qm 25 0, .i (.nch 26 (.s 25)),qf 27 26 1, .i (.ldh 28 (.s 27) 1 false),qm 29 0, .i (.nch 30 (.s 29)),qf 31 30 0, .i (.ldh 32 (.s 31) 1 false),qn 33 32,qd 34 .lss 28 33]) (.cond (.s 34) (.seq (.ops [qm 35 3,qm 36 0, .i (.nch 37 (.s 36)),qf 38 37 0, .i (.ldh 39 (.s 38) 1 false),qm 40 0, .i (.nch 41 (.s 40)),qf 42 41 1, .i (.ldh 43 (.s 42) 1 false), .i (.iad 44 (.s 39) (.s 43) 1), .i (.ldh 45 (.s 44) 1 false), .i (.cvi 46 .i64 (.s 45)),qd 47 .add 35 46, .i (.bin 48 .and (.s 47) (qi 255)),qm 3 48]) (.ops [qm 49 0,qm 50 0, .i (.nch 51 (.s 50)),qf 52 51 1, .i (.ldh 53 (.s 52) 1 false), .i (.bin 54 .add (.s 53) (qi 1)), .i (.nch 55 (.s 49)),qf 56 55 1, .i (.sth (.s 56) (.s 54) 1)])) .skip)) (.seq (.ops [qm 57 3,qm 2 57]) .ret)))))⟩
theorem DL:cd rP=some pK:=by kernel_rfl
theorem fg (b:Bytes) (i:Nat) (h:Int) (hi:i≤b.length) (hb:b.length≤1073741824):VC cd rP (jg [] 133 (cur b i h) []) (fun r p=>∃x:Nat×Nat×Int,(x.1 < 256∧x.2.1≤b.length)∧r=it x.1∧p= [.pt 133 (cur b x.2.1 x.2.2)]):=by
 refine ax DL rfl ?_
 simp(disch:=omega) [pK,cur,N3,VZ]
 refine ab (fun h1=> ?_) (fun h1=> ?_)
 ·simp(disch:=omega) [cg h1,N3,VZ]
  refine⟨_,i+1,⟨G0 _,by omega⟩,rfl,by simp⟩
 ·simp(disch:=omega) [VZ]
  refine⟨_,i,⟨G0 _,hi⟩,rfl,rfl⟩
theorem tm {N:Int} (h:0≤N) {n:Nat} (hn:n≠0):∃y:Nat,y < n∧N.tmod (n:Int)=(y:Int):=by
 obtain⟨m,rfl⟩:=Int.eq_ofNat_of_zero_le h
 exact⟨m % n,Nat.mod_lt _ (by omega),rfl⟩
abbrev oL:Nat:=97
def oz:AF:=⟨2,6,[.tmp 4],(.seq (.ops [.i (.mov 4 (qi 0))]) (.seq (.seq (.ops [qm 9 1, .i (.bin 10 .leq (.s 9) (qi 0))]) (.cond (.s 10) (.seq (.ops [.i (.mov 4 (qi 0))]) .ret) .skip)) (.seq (.seq (.ops [qm 11 1, .i (.bin 12 .leq (.s 11) (qi 256))]) (.cond (.s 12) (.seq (.ops [qm 13 0,qk 15 162 13,qm 15 1,qd 16 .rem 14 15,qm 4 16]) .ret) .skip)) (.seq (.ops [qm 17 0,qk 19 162 17,qm 5 18]) (.seq (.ops [qm 19 0,qk 21 162 19,qm 6 20]) (.seq (.ops [qm 21 0,qk 23 162 21,qm 7 22]) (.seq (.ops [qm 23 0,qk 25 162 23,qm 8 24]) (.seq (.ops [qm 25 5, .i (.bin 26 .mul (.s 25) (qi 16777216)),qm 27 6, .i (.bin 28 .mul (.s 27) (qi 65536)),qd 29 .add 26 28,qm 30 7, .i (.bin 31 .mul (.s 30) (qi 256)),qd 32 .add 29 31,qm 33 8,qd 34 .add 32 33,qm 35 1,qd 36 .rem 34 35,qm 4 36]) .ret))))))))⟩
theorem AW:cd oL=some oz:=by kernel_rfl
theorem aG (b:Bytes) (i:Nat) (h:Int) (n:Nat) (hn:n≤4294967296) (hi:i≤b.length) (hb:b.length≤1073741824):VC cd oL (jg [] 133 (cur b i h) [(false,[.int .i64 (n:Int)])]) (fun r p=>∃x:Nat×Nat×Int,((x.1 < n∨x.1=0)∧x.2.1≤b.length)∧r=it x.1∧p= [.pt 133 (cur b x.2.1 x.2.2)]):=by
 refine ax AW rfl ?_
 simp(disch:=omega) [oz,cur,VZ]
 refine ab (fun h1=> ?_) (fun h1=> ?_)
 ·have h2:n=0:=by omega
  subst h2
  simp(disch:=omega) [VZ]
  exact⟨0,i,⟨rfl,hi⟩,rfl,rfl⟩
 simp(disch:=omega) [VZ]
 refine ab (fun h2=> ?_) (fun h2=> ?_)
 ·simp(disch:=omega) [VZ]
  refine dL (fg b i h hi hb) ?_
  rintro⟨x,i',h'⟩ ⟨h3,h4⟩
  simp only at h3 h4
  obtain⟨y,hy,e⟩:=tm (N:=(x:Int)) (by omega) h1
  simp(disch:=omega) [cur,e,h1,VZ]
  exact⟨y,i',⟨.inl hy,h4⟩,rfl,rfl⟩
 ·simp(disch:=omega) [VZ]
  refine dL (fg b i h hi hb) ?_
  rintro⟨x,i1,h1'⟩ ⟨h3,h4⟩
  simp(disch:=omega) [cur,VZ]
  simp only at h3 h4
  refine dL (fg b i1 h1' h4 hb) ?_
  rintro⟨y,i2,h2'⟩ ⟨h5,h6⟩
  simp(disch:=omega) [cur,VZ]
  simp only at h5 h6
  refine dL (fg b i2 h2' h6 hb) ?_
  rintro⟨z,i3,h3'⟩ ⟨h7,h8⟩
  simp(disch:=omega) [cur,VZ]
  simp only at h7 h8
  refine dL (fg b i3 h3' h8 hb) ?_
  rintro⟨w,i4,h4'⟩ ⟨h9,h10⟩
  simp only at h9 h10
  obtain⟨q,hq,e⟩:=tm (N:=(x:Int) * 16777216+y * 65536+z * 256+w) (by omega) h1
  simp(disch:=omega) [cur,e,h1,VZ]
  exact⟨q,i4,⟨.inl hq,h10⟩,rfl,rfl⟩
abbrev pQ:Nat:=135
def qy:AF:=⟨2,4,[.tmp 4],(.seq (.ops [.i (.mov 4 (qb false))]) (.seq (.ops [qm 5 0,qm 6 1, .i (.call 8 97 false [(.s 5),(.s 6)]), .i (.bin 8 .eql (.s 7) (qi 0)),qm 4 8]) .ret))⟩
theorem C3:cd pQ=some qy:=by kernel_rfl
theorem DJ (b:Bytes) (i:Nat) (h:Int) (n:Nat) (hn:n≤4294967296) (hi:i≤b.length) (hb:b.length≤1073741824):VC cd pQ (jg [] 133 (cur b i h) [(false,[.int .i64 (n:Int)])]) (fun r p=>∃x:Bool×Nat×Int,x.2.1≤b.length∧r=bl x.1∧p= [.pt 133 (cur b x.2.1 x.2.2)]):=by
 refine ax C3 rfl ?_
 simp(disch:=omega) [qy,cur,VZ]
 refine dL (aG b i h n hn hi hb) ?_
 rintro⟨x,i',h'⟩ ⟨h3,h4⟩
 simp only at h3 h4
 simp(disch:=omega) [cur,VZ]
 by_cases hx:x=0
 ·exact .inr ⟨i',h4,hx,rfl⟩
 ·exact .inl ⟨i',h4,hx,rfl⟩
abbrev qO:Nat:=155
def sW:AF:=⟨2,4,[.tmp 4],(.seq (.ops [.i (.mov 4 (qi 0))]) (.seq (.ops [qm 5 1,qm 6 0,qm 7 1,qn 8 7, .i (.call 10 97 false [(.s 6),(.s 8)]), .i (.iad 10 (.s 5) (.s 9) 1), .i (.ldh 11 (.s 10) 1 false),qm 4 11]) .ret))⟩
theorem Ch:cd qO=some sW:=by kernel_rfl
theorem iJ (b:Bytes) (i:Nat) (h:Int) (l:List Int) (hl:l≠ []) (hl2:l.length≤4294967296) (hi:i≤b.length) (hb:b.length≤1073741824):VC cd qO (jg [] 133 (cur b i h) [(false,[.sl (ints l)])]) (fun r p=>∃x:Int×Nat×Int,(x.1∈l∧x.2.1≤b.length)∧r=it x.1∧p= [.pt 133 (cur b x.2.1 x.2.2)]):=by
 have hp:0 < l.length:=List.length_pos_iff.2 hl
 refine ax Ch rfl ?_
 simp(disch:=omega) [sW,cur,bT,VZ]
 refine dL (aG b i h l.length hl2 hi hb) ?_
 rintro⟨x,i',h'⟩ ⟨h3,h4⟩
 simp only at h3 h4
 have hx:x < l.length:=by omega
 simp(disch:=omega) [cur,CN hx,VZ]
 exact⟨gi l x,i',⟨v9 hx,h4⟩,rfl,rfl⟩
theorem l4 (x:Bytes) (y:Int):bytes x++ [[.int .u8 (IntKind.u8.wrap y)]]=bytes (x++ [b8 y]):=by
 rw[←cY,←HI]
 rfl
abbrev mN:Nat:=138
def na:AF:=⟨2,5,[.tmp 4],(.seq (.ops [.i (.mov 4 (.c (.val false [.nils])))]) (.seq (.ops [.i (.bse 7),qm 5 7]) (.seq (.seq (.ops [qm 8 0,qm 9 1, .i (.bin 10 .add (.s 9) (qi 1)), .i (.call 12 97 false [(.s 8),(.s 10)]),qm 6 11]) (.block 0 (.loop [21,20,19,18,17,16,15,14,13,12] (.seq (.seq (.ops [qm 12 6, .i (.bin 13 .gtr (.s 12) (qi 0))]) (.cond (.s 13) .skip (.exit 0))) (.seq (.block 1 (.ops [qm 16 5,qm 17 0,qk 19 162 17, .i (.cvi 19 .u8 (.s 18)), .i (.lsl 20 1 1 [.int .u8 0] [(0,1,(.s 19))]), .i (.app 21 5 1 1 (.s 16) (.s 20)),qm 5 21])) (.ops [qm 14 6, .i (.bin 15 .sub (.s 14) (qi 1)),qm 6 15])))))) (.seq (.ops [qm 22 5,qm 4 22]) .ret))))⟩
theorem AB:cd mN=some na:=by kernel_rfl
theorem jF (b:Bytes) (i:Nat) (h:Int) (m:Nat) (hm:m≤1000000) (hi:i≤b.length) (hb:b.length≤1073741824):VC cd mN (jg [] 133 (cur b i h) [(false,[.int .i64 (m:Int)])]) (fun r p=>∃x:Bytes×Nat×Int,(x.1.length≤m∧x.2.1≤b.length)∧r= [(false,[.o true (some (5,1)) (bytes x.1)])]∧p= [.pt 133 (cur b x.2.1 x.2.2)]):=by
 refine ax AB rfl ?_
 simp(disch:=omega) [na,cur,VZ]
 refine dL (aG b i h (m+1) (by omega) hi hb) ?_
 rintro⟨k,i',h'⟩ ⟨h3,h4⟩
 simp only at h3 h4
 have hk:k≤m:=by omega
 simp(disch:=omega) [cur,VZ]
 refine bo (σ:=Nat×Nat×Nat×Int×Bytes) (f1:=_) (es0:=_) (by simp(disch:=omega) [VZ];rfl) (by simp(disch:=omega) [VZ];rfl) (fun p=> [(6, .val false [.int .i64 (p.1:Int)]),(5, .val false [.ow 7 p.2.1])]) (fun p=> [(4096, .pt 0 133 [.sl (bytes b), .int .i64 (p.2.2.1:Int), .int .i64 p.2.2.2.1]),(7, .sl p.2.1 true true (some (5,1)) (bytes p.2.2.2.2))])
  (fun p g=>g=p.1∧p.2.2.1≤b.length∧p.2.2.2.2.length+p.1≤m) (k,_,i',h',[]) k (by simp(disch:=omega) [VZ];rfl) (by simp(disch:=omega) [bytes,VZ]) ⟨rfl,h4,by simpa using hk⟩ ?_
 rintro⟨n,v,i2,h2,x⟩ nx g ⟨hg,h5,h6⟩ P hP
 simp only at hg h5 h6
 simp(disch:=omega) [VZ]
 refine ab (fun h7=> ?_) (fun h7=> ?_)
 ·simp(disch:=omega) [VZ]
  refine dL (fg b i2 h2 h5 hb) ?_
  rintro⟨y,i3,h3'⟩ ⟨h8,h9⟩
  simp only at h8 h9
  have e1:IntKind.i64.wrap ((n:Int) - 1)=((n - 1:Nat):Int):=by rw[Bu (by omega) (by omega)];omega
  simp(disch:=omega) [cur,l4,e1,VZ]
  exact hP (n - 1,_,i3,h3',x++ [b8 y]) (g - 1) _ _ (by omega) ⟨by omega,h9,by simp;omega⟩ (by simp(disch:=omega) [VZ];rfl) (by simp(disch:=omega) [VZ])
 ·simp(disch:=omega) [cur,VZ]
  exact⟨x,i2,⟨by omega,h5⟩,rfl,rfl⟩
theorem wq (x:Bytes) (j:Nat) (y:Int):(bytes x).set j [.int .u8 (IntKind.u8.wrap y)]=bytes (x.set j (b8 y)):=by
 rw[←HI]
 simp[bytes,List.map_set]
def Td:Bytes:=List.replicate 32 0
theorem QS:List.replicate 32 [D.int .u8 0]=bytes Td:=Dv 32
abbrev su:Nat:=242
def sy:AF:=⟨1,5,[.tmp 2],(.seq (.ops [.i (.mov 2 (.c (.val false [.nils])))]) (.seq (.ops [.i (.mks 4 5 1 1 [.int .u8 0] (qi 32)),qm 3 4]) (.seq (.ops [qm 5 3,qm 6 0, .i (.call 8 97 false [(.s 6),(qi 3)]), .i (.cvi 8 .u8 (.s 7)), .i (.iad 9 (.s 5) (qi 0) 1), .i (.sth (.s 9) (.s 8) 1)]) (.seq (.ops [qm 10 3,qm 11 0,qk 13 162 11, .i (.cvi 13 .u8 (.s 12)), .i (.iad 14 (.s 10) (qi 31) 1), .i (.sth (.s 14) (.s 13) 1)]) (.seq (.ops [qm 15 3,qm 2 15]) .ret)))))⟩
theorem B6:cd su=some sy:=by kernel_rfl
theorem cZ (b:Bytes) (i:Nat) (h:Int) (hi:i≤b.length) (hb:b.length≤1073741824):VC cd su (jg [] 133 (cur b i h) []) (fun r p=>∃x:Bytes×Nat×Int,(x.1.length=32∧x.2.1≤b.length)∧r= [(false,[.o true (some (5,1)) (bytes x.1)])]∧p= [.pt 133 (cur b x.2.1 x.2.2)]):=by
 have hz:Td.length=32:=rfl
 refine ax B6 rfl ?_
 simp(disch:=omega) [sy,cur,QS,VZ]
 refine dL (aG b i h 3 (by omega) hi hb) ?_
 rintro⟨k,i',h'⟩ ⟨h3,h4⟩
 simp only at h3 h4
 simp(disch:=omega) [cur,cg,wq,VZ]
 have hz1:(Td.set 0 (b8 (k:Int))).length=32:=by simp[hz]
 generalize Td.set 0 (b8 (k:Int))=z1 at hz1⊢
 refine dL (fg b i' h' h4 hb) ?_
 rintro⟨y,i2,h2⟩ ⟨h5,h6⟩
 simp only at h5 h6
 simp(disch:=omega) [cur,cg,wq,VZ]
 exact⟨z1.set 31 (b8 y),i2,⟨by simp[hz1],h6⟩,rfl,rfl⟩
def ah.e (l:ah):List E:= [.p (.int .i64 l.n), .p (.int .i64 l.tx), .p (.int .i64 l.txs), .p (.int .i64 l.frame), .p (.int .i64 l.heads)]
theorem NR {l:ah} (h1:1≤l.n∧l.n≤10) (h2:0≤l.tx∧l.tx≤40) (h3:0≤l.txs∧l.txs≤8) (h4:1≤l.frame∧l.frame≤4000) (h5:3≤l.heads∧l.heads≤5):l.ok=true:=by
 simp[ah.ok,db,h1,h2,h3,h4,h5]
abbrev sL:Nat:=89
def rj:AF:=⟨1,5,[.cell 2 5 true],(.seq (.ops [.i (.lal 2 [.int .i64 0, .int .i64 0, .int .i64 0, .int .i64 0, .int .i64 0])]) (.seq (.ops [qm 3 0, .i (.bsl 4 3 1 7 [.int .i64 0] [(0,1,(qi 1)),(1,1,(qi 3)),(2,1,(qi 4)),(3,1,(qi 4)),(4,1,(qi 7)),(5,1,(qi 9)),(6,1,(qi 10))]), .i (.call 6 155 false [(.s 3),(.s 4)]),qm 6 0, .i (.bsl 7 3 1 4 [.int .i64 0] [(0,1,(qi 0)),(1,1,(qi 4)),(2,1,(qi 8)),(3,1,(qi 40))]), .i (.call 9 155 false [(.s 6),(.s 7)]),qm 9 0, .i (.bsl 10 3 1 3 [.int .i64 0] [(0,1,(qi 0)),(1,1,(qi 3)),(2,1,(qi 8))]), .i (.call 12 155 false [(.s 9),(.s 10)]),qm 12 0, .i (.bsl 13 3 1 4 [.int .i64 0] [(0,1,(qi 4000)),(1,1,(qi 4000)),(2,1,(qi 300)),(3,1,(qi 60))]), .i (.call 15 155 false [(.s 12),(.s 13)]),qm 15 0, .i (.call 17 97 false [(.s 15),(qi 3)]), .i (.bin 17 .add (qi 3) (.s 16)), .i (.bld 18 [.int .i64 0, .int .i64 0, .int .i64 0, .int .i64 0, .int .i64 0] [(0,1,(.s 5)),(1,1,(.s 8)),(2,1,(.s 11)),(3,1,(.s 14)),(4,1,(.s 17))]),qs 2 2 18 5]) .ret))⟩
theorem Cq:cd sL=some rj:=by kernel_rfl
theorem Kc (b:Bytes) (i:Nat) (h:Int) (hi:i≤b.length) (hb:b.length≤1073741824):VC cd sL (jg [] 133 (cur b i h) []) (fun r p=>∃x:ah×Nat×Int,(x.1.ok=true∧x.2.1≤b.length)∧r= [(true,x.1.e)]∧p= [.pt 133 (cur b x.2.1 x.2.2)]):=by
 refine ax Cq rfl ?_
 simp(disch:=omega) [rj,cur,VZ]
 refine dL (iJ b i h [1,3,4,4,7,9,10] (by simp) (by simp) hi hb) ?_
 rintro⟨k1,i1,h1⟩ ⟨g1,j1⟩
 simp only at g1 j1
 simp(disch:=omega) [cur,VZ]
 refine dL (iJ b i1 h1 [0,4,8,40] (by simp) (by simp) j1 hb) ?_
 rintro⟨k2,i2,h2⟩ ⟨g2,j2⟩
 simp only at g2 j2
 simp(disch:=omega) [cur,VZ]
 refine dL (iJ b i2 h2 [0,3,8] (by simp) (by simp) j2 hb) ?_
 rintro⟨k3,i3,h3⟩ ⟨g3,j3⟩
 simp only at g3 j3
 simp(disch:=omega) [cur,VZ]
 refine dL (iJ b i3 h3 [4000,4000,300,60] (by simp) (by simp) j3 hb) ?_
 rintro⟨k4,i4,h4⟩ ⟨g4,j4⟩
 simp only at g4 j4
 simp(disch:=omega) [cur,VZ]
 refine dL (aG b i4 h4 3 (by omega) j4 hb) ?_
 rintro⟨k5,i5,h5⟩ ⟨g5,j5⟩
 simp only at g5 j5
 simp(disch:=omega) [cur,VZ]
 simp only[List.mem_cons,List.not_mem_nil,or_false]at g1 g2 g3 g4
 exact⟨⟨k1,k2,k3,k4,3+k5⟩,i5,⟨NR (by simp only;omega) (by simp only;omega) (by simp only;omega) (by simp only;omega) (by simp only;omega),j5⟩,rfl,rfl⟩
end Go.Eng.F
namespace Go.Eng.F
theorem l6 (l:List Bytes) (x:Bytes):bD l++ [[.sl (bytes x)]]=bD (l++ [x]):=by simp[bD]
abbrev jK:Nat:=14
def jL:AF:=⟨1,5,[.cell 2 5 true],(.seq (.ops [.i (.lal 2 [.int .i64 0, .int .i64 0, .int .i64 0, .int .i64 0, .int .i64 0])]) (.seq (.ops [qm 5 0,qk 7 88 5,qm 3 6]) (.seq (.ops [qm 7 3,qm 8 3, .i (.nch 9 (.s 8)),qf 10 9 2, .i (.ldh 11 (.s 10) 1 false), .i (.bin 12 .add (.s 11) (qi 5)), .i (.nch 13 (.s 7)),qf 14 13 2, .i (.sth (.s 14) (.s 12) 1)]) (.seq (.ops [qm 15 3,qk 17 89 15, .i (.lal 4 [.int .i64 0, .int .i64 0, .int .i64 0, .int .i64 0, .int .i64 0]),qs 4 4 16 5]) (.seq (.ops [qf 17 4 3, .i (.stl 4 (.s 17) (qi 4000) 1)]) (.seq (.ops [ql 18 4 4 5 true,qs 2 2 18 5]) .ret))))))⟩
theorem xc:cd jK=some jL:=by kernel_rfl
theorem E8 (b:Bytes) (hb:b.length≤1073741824):VC cd jK (aD [(false,[.sl (bytes b)])]) (fun r _=>∃x:ah,(x.ok=true∧x.frame=4000)∧r= [(true,x.e)]):=by
 refine aa xc rfl ?_
 simp(disch:=omega) [jL,VY]
 refine TM (FT b hb) ?_
 intro h _
 simp(disch:=omega) [cur,Ll,VZ]
 refine dL (Kc b 0 _ (Nat.zero_le _) hb) ?_ (n1:=by intro _;simp(disch:=omega) [ah.e,VZ]) (n3:=by intro _;simp(disch:=omega) [ah.e,VZ])
 rintro⟨l,i1,h1⟩ ⟨g1,j1⟩
 simp only at g1 j1
 simp(disch:=omega) [cur,ah.e,VZ]
 simp only[ah.ok,db,Bool.and_eq_true,decide_eq_true_eq]at g1
 exact⟨⟨l.n,l.tx,l.txs,4000,l.heads⟩,⟨NR g1.1.1.1.1 g1.1.1.1.2 g1.1.1.2 (by simp only;omega) g1.2,rfl⟩,rfl,rfl,rfl,rfl,rfl⟩
end Go.Eng.F
namespace Go.Eng.F
open Go.Eng.U (IX dP dv hG IZ sC)
def DI (l:ah) (t:List Bytes):Bool:=t.all fun x=>decide ((x.length:Int)≤l.tx)
theorem H5 {l:ah} {t:List Bytes} (h:∀x∈t.take t.length,(x.length:Int)≤l.tx):DI l t=true:=by
 rw[List.take_length]at h
 simpa[DI]using h
theorem IA {l:ah} {t:List Bytes} {i:Nat} (hi:i < t.length) (h:l.tx < (t[i].length:Int)):DI l t=false:=by
 simp only[DI,List.all_eq_false]
 exact⟨t[i],List.getElem_mem hi,by simp;omega⟩
def bC (l:ah) (x:Block):Bool:=bA l x.head && decide ((x.txs.length:Int)≤l.txs) && DI l x.txs && decide (x.head.root=aZ x.txs)
abbrev rh:Nat:=113
def rz:AF:=⟨2,6,[.tmp 4],(.seq (.ops [.i (.lbox 2 (.s 0)), .i (.lbox 3 (.s 1)), .i (.mov 4 (qb false))]) (.seq (.seq (.ops [qf 7 3 10,ql 8 3 7 1 false,qn 9 8, .i (.mov 10 (qi 0))]) (.block 0 (.loop [19,18,17,16,15,14,13,12,11,6] (.seq (.ops [qd 11 .lss 10 9]) (.seq (.cond (.s 11) .skip (.exit 0)) (.seq (.block 1 (.seq (.ops [.i (.iad 12 (.s 8) (.s 10) 1), .i (.ldh 13 (.s 12) 1 false),qm 6 13]) (.seq (.ops [qm 14 6,qn 15 14,qf 16 2 1,ql 17 2 16 1 false,qd 18 .gtr 15 17]) (.cond (.s 18) (.seq (.ops [.i (.mov 4 (qb false))]) .ret) .skip)))) (.ops [.i (.bin 19 .add (.s 10) (qi 1)),qm 10 19]))))))) (.seq (.ops [ql 20 2 2 5 true,qf 21 3 0,ql 22 3 21 10 true, .i (.call 24 108 false [(.s 20),(.s 22)]),qm 24 23, .g 24 true 26 (.fad 25 (.s 3) 10), .g 24 true 27 (.ldl 26 3 (.s 25) 1 false), .g 24 true 28 (.len 27 false (.s 26)), .g 24 true 29 (.fad 28 (.s 2) 2), .g 24 true 30 (.ldl 29 2 (.s 28) 1 false), .g 24 true 31 (.bin 30 .leq (.s 27) (.s 29)), .i (.pick 31 (.s 24) (.s 30) (qb false)),qm 32 31, .g 32 true 34 (.fad 33 (.s 3) 0), .g 32 true 35 (.fad 34 (.s 33) 4), .g 32 true 36 (.ldl 35 3 (.s 34) 1 false), .g 32 true 37 (.fad 36 (.s 3) 10), .g 32 true 38 (.ldl 37 3 (.s 36) 1 false), .g 32 true 39 (.call 39 176 false [(.s 37)]), .g 32 true 40 (.call 40 21 false [(.s 35),(.s 38)]), .i (.pick 40 (.s 32) (.s 39) (qb false)),qm 4 40]) .ret)))⟩
theorem BF:cd rh=some rz:=by kernel_rfl
theorem A6 (l:ah) (x:Block) (hw:x.wc) (hx:∀t∈x.txs,t.length≤1073741823):VC cd rh (aD [(true,l.c),(true,x.c)]) (fun rs _=>rs=bl (bC l x)):=by
 obtain⟨⟨w1,_⟩,w2,w3⟩:=hw
 simp only[Sz]at w2
 refine aa BF rfl ?_
 simp(disch:=omega) [rz,ah.c,Block.c,Head.c,aq,VY]
 refine aU (σ:=Nat) (f1:=_) (es0:=_) (by simp(disch:=omega) [VY];rfl) (by simp(disch:=omega) [VY];rfl) (fun i=> [(10, .val false [.int .i64 i])]) (fun _=> []) (fun i g=>g+i=x.txs.length∧∀t∈x.txs.take i,(t.length:Int)≤l.tx) 0 x.txs.length (by simp(disch:=omega) [VY]) (by simp(disch:=omega) [VY]) ⟨by omega,by simp⟩ ?_
 rintro i n g ⟨hg,hi⟩
 simp(disch:=omega) [VY]
 refine ab (fun h1=> ?_) (fun h1=> ?_)
 ·have hix:i < x.txs.length:=by omega
  have w4:=hx _ (List.getElem_mem hix)
  simp(disch:=omega) [c9 hix,an,VY]
  refine ab (fun h2=> ?_) (fun h2=> ?_)
  ·simp(disch:=omega) [VY]
   simp[bC,IA hix (by omega)]
  ·simp(disch:=omega) [VY]
   exact⟨i+1,g - 1,by omega,⟨by omega,i9 hi hix (by omega)⟩,by simp⟩
 ·have hl:i=x.txs.length:=by omega
  subst hl
  have ht:=H5 hi
  simp(disch:=omega) [VY]
  refine ag (iH l x.head w1) rfl rfl ?_
  simp(disch:=omega) [aq,VY]
  refine ak (fun h2=> ?_) (fun h2=> ?_) <;>simp(disch:=omega) [h2,aq,bC,VY]
  refine ab (fun h3=> ?_) (fun h3=> ?_) <;>simp(disch:=omega) [h2,h3,ht,aq,VY]
  refine ag (k9 _ x.txs rfl (by omega) hx) rfl rfl ?_
  simp(disch:=omega) [h2,h3,ht,VY]
  refine ao (aM x.head.root (aZ x.txs)) ?_
  simp(disch:=omega) [h2,h3,ht,VY]
abbrev qU:Nat:=311
def sc:AF:=⟨2,6,[.tmp 4],(.seq (.ops [.i (.lbox 2 (.s 0)), .i (.lbox 3 (.s 1)), .i (.mov 4 (qb false))]) (.seq (.seq (.ops [ql 7 2 2 5 true,qf 8 3 0,ql 9 3 8 10 true, .i (.call 11 310 false [(.s 7),(.s 9)]), .i (.not 11 (.s 10)),qm 12 11, .g 12 false 14 (.fad 13 (.s 3) 10), .g 12 false 15 (.ldl 14 3 (.s 13) 1 false), .g 12 false 16 (.len 15 false (.s 14)), .g 12 false 17 (.fad 16 (.s 2) 2), .g 12 false 18 (.ldl 17 2 (.s 16) 1 false), .g 12 false 19 (.bin 18 .gtr (.s 15) (.s 17)), .i (.pick 19 (.s 12) (qb true) (.s 18))]) (.cond (.s 19) (.seq (.ops [.i (.mov 4 (qb false))]) .ret) .skip)) (.seq (.seq (.ops [qf 20 3 10,ql 21 3 20 1 false,qn 22 21, .i (.mov 23 (qi 0))]) (.block 0 (.loop [32,31,30,29,28,27,26,25,24,6] (.seq (.ops [qd 24 .lss 23 22]) (.seq (.cond (.s 24) .skip (.exit 0)) (.seq (.block 1 (.seq (.ops [.i (.iad 25 (.s 21) (.s 23) 1), .i (.ldh 26 (.s 25) 1 false),qm 6 26]) (.seq (.ops [qm 27 6,qn 28 27,qf 29 2 1,ql 30 2 29 1 false,qd 31 .gtr 28 30]) (.cond (.s 31) (.seq (.ops [.i (.mov 4 (qb false))]) .ret) .skip)))) (.ops [.i (.bin 32 .add (.s 23) (qi 1)),qm 23 32]))))))) (.seq (.ops [qf 33 3 0,qf 34 33 4,ql 35 3 34 1 false,qf 36 3 10,ql 37 3 36 1 false,qk 39 319 37, .i (.call 40 329 false [(.s 35),(.s 38)]),qm 4 39]) .ret))))⟩
theorem C8:cd qU=some sc:=by kernel_rfl
theorem og (l:ah) (x:Block) (hw:x.wc) (hx:∀t∈x.txs,t.length≤1073741823):VC cd qU (aD [(true,l.c),(true,x.c)]) (fun rs _=>rs=bl (bC l x)):=by
 obtain⟨⟨w1,_⟩,w2,w3⟩:=hw
 simp only[Sz]at w2
 refine aa C8 rfl ?_
 simp(disch:=omega) [sc,ah.c,Block.c,Head.c,VY]
 refine ag (ja l x.head w1) rfl rfl ?_
 simp(disch:=omega) [aq,VY]
 refine ak (fun h2=> ?_) (fun h2=> ?_)
 case refine_2=>simp(disch:=omega) [h2,bC,VY]
 simp(disch:=omega) [h2,aq,VY]
 refine ab (fun h3=> ?_) (fun h3=> ?_)
 ·simp(disch:=omega) [h2,h3,bC,show ¬(x.txs.length:Int)≤l.txs by omega,VY]
 simp(disch:=omega) [h2,h3,aq,VY]
 refine aU (σ:=Nat) (f1:=_) (es0:=_) (by simp(disch:=omega) [VY];rfl) (by simp(disch:=omega) [VY];rfl) (fun i=> [(23, .val false [.int .i64 i])]) (fun _=> []) (fun i g=>g+i=x.txs.length∧∀t∈x.txs.take i,(t.length:Int)≤l.tx) 0 x.txs.length (by simp(disch:=omega) [VY]) (by simp(disch:=omega) [VY]) ⟨by omega,by simp⟩ ?_
 rintro i n g ⟨hg,hi⟩
 simp(disch:=omega) [VY]
 refine ab (fun h1=> ?_) (fun h1=> ?_)
 ·have hix:i < x.txs.length:=by omega
  have w4:=hx _ (List.getElem_mem hix)
  simp(disch:=omega) [c9 hix,an,VY]
  refine ab (fun h4=> ?_) (fun h4=> ?_)
  ·simp(disch:=omega) [VY]
   simp[bC,IA hix (by omega)]
  ·simp(disch:=omega) [VY]
   exact⟨i+1,g - 1,by omega,⟨by omega,i9 hi hix (by omega)⟩,by simp⟩
 ·have hl:i=x.txs.length:=by omega
  subst hl
  have ht:=H5 hi
  simp(disch:=omega) [VY]
  refine ag (lB _ x.txs rfl (by omega) hx) rfl rfl ?_
  simp(disch:=omega) [h2,h3,ht,VY]
  refine ao (bc x.head.root (aZ x.txs)) ?_
  simp(disch:=omega) [h2,h3,ht,bC,show(x.txs.length:Int)≤l.txs by omega,VY]
def fB (h:Head) (t:List Bytes):Block:=⟨⟨h.view,h.height,h.proposer,h.parent,aZ t,h.qc⟩,t⟩
def DY (l:ah) (h:Head) (t:List Bytes):List (Bool×List E):=
 if bC l (fB h t)then [(true,[.p (.int .i64 h.view), .p (.int .i64 h.height), .p (.int .i64 h.proposer), .o true (some (5,1)) (bytes h.parent), .o true (some (5,1)) (bytes (aZ t)), .p (.int .i64 h.qc.view), .p (.int .i64 h.qc.height), .o true (some (5,1)) (bytes h.qc.block), .o true (some (5,1)) (bytes h.qc.bits), .o true (some (22,1)) (bD h.qc.tags), .o true (some (22,1)) (bD t)]),(false,[.p (.bool true)])]
 else [(true,[.p (.int .i64 0), .p (.int .i64 0), .p (.int .i64 0), .p .nils, .p .nils, .p (.int .i64 0), .p (.int .i64 0), .p .nils, .p .nils, .p .nils, .p .nils]),(false,[.p (.bool false)])]
theorem qh {l:ah} {x:Block} (h:bC l x=true):x.txs.length≤8:=by
 simp only[bC,Bool.and_eq_true,decide_eq_true_eq]at h
 have h1:=h.1.1.1
 simp only[bA,Bool.and_eq_true]at h1
 have h2:=jb h1.1.1.1.1.1.1
 simp only[ah.ok,Bool.and_eq_true]at h2
 have h3:=cq h2.1.1.2
 omega
theorem zB {h:Head} {t:List Bytes} (hw:h.wc) (ht:m7 t):(fB h t).wc:=by
 obtain⟨⟨w1,w2,w3,w4,w5,w6⟩,w7⟩:=hw
 exact⟨⟨⟨w1,w2,w3,w4,by show(aZ t).length≤_;rw[fA];omega,w6⟩,w7⟩,ht⟩
abbrev iC:Nat:=269
def sd:AF:=⟨3,5,[.cell 6 11 true, .tmp 7],(.seq (.ops [.i (.lbox 3 (.s 0)), .i (.lbox 4 (.s 1)), .i (.lal 6 [.int .i64 0, .int .i64 0, .int .i64 0, .nils, .nils, .int .i64 0, .int .i64 0, .nils, .nils, .nils, .nils]), .i (.mov 7 (qb false))]) (.seq (.ops [ql 9 4 4 10 true,qk 11 267 9,qm 11 2,qk 13 316 11, .i (.bld 13 [.int .i64 0, .int .i64 0, .int .i64 0, .nils, .nils, .int .i64 0, .int .i64 0, .nils, .nils, .nils, .nils] [(0,10,(.s 10)),(10,1,(.s 12))]), .i (.lal 8 [.int .i64 0, .int .i64 0, .int .i64 0, .nils, .nils, .int .i64 0, .int .i64 0, .nils, .nils, .nils, .nils]),qs 8 8 13 11]) (.seq (.ops [qm 14 2,qk 16 319 14,qf 16 8 0,qf 17 16 4,qs 8 17 15 1]) (.seq (.seq (.ops [ql 18 3 3 5 true,ql 19 8 8 11 true, .i (.call 21 311 false [(.s 18),(.s 19)]), .i (.not 21 (.s 20))]) (.cond (.s 21) (.seq (.ops [.i (.bld 22 [.int .i64 0, .int .i64 0, .int .i64 0, .nils, .nils, .int .i64 0, .int .i64 0, .nils, .nils, .nils, .nils] []),qs 6 6 22 11, .i (.mov 7 (qb false))]) .ret) .skip)) (.seq (.ops [ql 23 8 8 11 true,qs 6 6 23 11, .i (.mov 7 (qb true))]) .ret)))))⟩
theorem D9:cd iC=some sd:=by kernel_rfl
theorem AJ (l:ah) (h:Head) (t:List Bytes) (hw:h.wc) (ht:m7 t) (hx:∀x∈t,x.length≤1073741823):VC cd iC (aD [(true,l.c),(true,h.c),(false,[.sl (bD t)])]) (fun rs _=>rs=DY l h t):=by
 have hl:=ht.1
 simp only[Sz]at hl
 refine aa D9 rfl ?_
 simp(disch:=omega) [sd,ah.c,Head.c,VY]
 refine ag (mw h hw) rfl rfl ?_
 simp(disch:=omega) [Head.o,VY]
 refine ag (mD t ht) rfl rfl ?_
 simp(disch:=omega) [VY]
 refine ag (lB _ t rfl (by omega) hx) rfl rfl ?_
 simp(disch:=omega) [VY]
 have hq:=zB hw ht
 refine ao (og l (fB h t) hq hx) ?_
 simp(disch:=omega) [VY]
 refine ak (fun h1=> ?_) (fun h1=> ?_) <;>simp(disch:=omega) [h1,DY,VY]
end Go.Eng.F
namespace Go.Eng.F
open Go.Eng.U (IX dP dv hG E3 kb rF zI Sa mj IZ)
structure Entry where
 who:Int
 high:Int
 tag:Bytes
def Entry.c (r:Entry):List D:= [.int .i64 r.who, .int .i64 r.high, .sl (bytes r.tag)]
def Entry.wf (r:Entry):Prop:=lh r.who∧lh r.high∧Sz r.tag.length
structure Tc where
 view:Int
 entries:List Entry
def g9 (l:List Entry):List (List D):=l.map Entry.c
theorem bV (l:List Entry):(g9 l).length=l.length:=by simp[g9]
theorem dT {l:List Entry} {i:Nat} (h:i < l.length):(g9 l)[i]? =some [.int .i64 l[i].who, .int .i64 l[i].high, .sl (bytes l[i].tag)]:=by simp[g9,h,Entry.c]
theorem Ib {l:List Entry} {i:Nat} (h:i < l.length):g9 (l.take i)++ [[.int .i64 l[i].who, .int .i64 l[i].high, .sl (bytes l[i].tag)]]=g9 (l.take (i+1)):=by
 have e:g9 (l.take (i+1))=g9 (l.take i)++g9 [l[i]]:=by
  rw[List.take_add_one,List.getElem?_eq_getElem h];exact List.map_append
 rw[e];rfl
def Tc.c (t:Tc):List D:= [.int .i64 t.view, .sl (g9 t.entries)]
def Tc.wf (t:Tc):Prop:=lh t.view∧Sz t.entries.length∧∀r∈t.entries,r.wf
abbrev kR:Nat:=207
def kG:AF:=⟨1,5,[.cell 2 2 true],(.seq (.ops [.i (.lbox 1 (.s 0)), .i (.lal 2 [.int .i64 0, .nils])]) (.seq (.ops [qf 6 1 0,ql 7 1 6 1 false, .i (.bld 8 [.int .i64 0, .nils] [(0,1,(.s 7))]), .i (.lal 3 [.int .i64 0, .nils]),qs 3 3 8 2]) (.seq (.seq (.ops [qf 9 1 1,ql 10 1 9 1 false,qn 11 10, .i (.mov 12 (qi 0))]) (.block 0 (.loop [29,28,27,26,25,24,23,22,21,20,19,18,17,16,15,14,13,5] (.seq (.ops [qd 13 .lss 12 11]) (.seq (.cond (.s 13) .skip (.exit 0)) (.seq (.block 1 (.seq (.ops [.i (.iad 14 (.s 10) (.s 12) 3), .i (.ldh 15 (.s 14) 3 true), .i (.lal 5 [.int .i64 0, .int .i64 0, .nils]),qs 5 5 15 3]) (.ops [qf 16 3 1,ql 17 3 16 1 false,qf 18 5 0,ql 19 5 18 1 false,qf 20 5 1,ql 21 5 20 1 false,qf 22 5 2,ql 23 5 22 1 false,qk 25 93 23, .i (.bld 25 [.int .i64 0, .int .i64 0, .nils] [(0,1,(.s 19)),(1,1,(.s 21)),(2,1,(.s 24))]), .i (.lsl 26 3 1 [.int .i64 0, .int .i64 0, .nils] [(0,3,(.s 25))]), .i (.app 27 165 3 40 (.s 17) (.s 26)),qf 28 3 1,qs 3 28 27 1]))) (.ops [.i (.bin 29 .add (.s 12) (qi 1)),qm 12 29]))))))) (.seq (.ops [ql 30 3 3 2 true,qs 2 2 30 2]) .ret))))⟩
theorem zg:cd kR=some kG:=by kernel_rfl
theorem xb (t:Tc) (hw:t.wf):VC cd kR (aD [(true,t.c)]) (fun rs _=>rs= [(true,[.p (.int .i64 t.view), .o true (some (165,3)) (g9 t.entries)])]):=by
 obtain⟨w0,w1,w2⟩:=hw
 simp only[Sz]at w1
 refine aa zg rfl ?_
 simp(disch:=omega) [kG,Tc.c,bV,VY]
 refine lb (σ:=Nat×Nat) (f0:=_) (by simp(disch:=omega) [VY];rfl) (dh.zu (s:=3) (k:=3) (i:=1) rfl rfl) (f1:=_) (es0:=_) (by simp(disch:=omega) [VY];rfl) (by simp(disch:=omega) [VY];rfl) (fun p=> [(12, .val false [.int .i64 p.1]),(3, .box [.int .i64 t.view, .ow 3 p.2])]) (fun p=> [(3, .sl p.2 true true (some (165,3)) (g9 (t.entries.take p.1)))])
  (fun p g=>g+p.1=t.entries.length) (0,_) t.entries.length (by simp(disch:=omega) [VY];rfl) (by simp(disch:=omega) [g9,VY]) (by omega) ?_
 rintro⟨i,v⟩ n g hg
 simp only at hg
 simp(disch:=omega) [VY]
 refine ab (fun h1=> ?_) (fun h1=> ?_)
 ·have hx:i < t.entries.length:=by omega
  have w3:=(w2 _ (List.getElem_mem hx)).2.2
  simp only[Sz]at w3
  simp(disch:=omega) [dT hx,VY]
  refine ag (aI t.entries[i].tag (by omega)) rfl rfl ?_
  have hl:(g9 (t.entries.take i)).length=i:=by rw[bV];simp;omega
  simp(disch:=omega) [hl,Ib hx,VY]
  exact⟨i+1,n+1,g - 1,by omega,by omega,⟨by omega,by omega⟩,by omega,rfl⟩
 ·simp(disch:=omega) [VY]
  have:i=t.entries.length:=by omega
  subst this
  rw[List.take_length]
abbrev pM:Nat:=271
def rv:AF:=⟨1,5,[.cell 2 2 true],(.seq (.ops [.i (.lbox 1 (.s 0)), .i (.lal 2 [.int .i64 0, .nils])]) (.seq (.ops [qf 6 1 0,ql 7 1 6 1 false, .i (.bld 8 [.int .i64 0, .nils] [(0,1,(.s 7))]), .i (.lal 3 [.int .i64 0, .nils]),qs 3 3 8 2]) (.seq (.seq (.ops [qf 9 1 1,ql 10 1 9 1 false,qn 11 10, .i (.mov 12 (qi 0))]) (.block 0 (.loop [29,28,27,26,25,24,23,22,21,20,19,18,17,16,15,14,13,5] (.seq (.ops [qd 13 .lss 12 11]) (.seq (.cond (.s 13) .skip (.exit 0)) (.seq (.block 1 (.seq (.ops [.i (.iad 14 (.s 10) (.s 12) 3), .i (.ldh 15 (.s 14) 3 true), .i (.lal 5 [.int .i64 0, .int .i64 0, .nils]),qs 5 5 15 3]) (.ops [qf 16 3 1,ql 17 3 16 1 false,qf 18 5 0,ql 19 5 18 1 false,qf 20 5 1,ql 21 5 20 1 false,qf 22 5 2,ql 23 5 22 1 false,qk 25 143 23, .i (.bld 25 [.int .i64 0, .int .i64 0, .nils] [(0,1,(.s 19)),(1,1,(.s 21)),(2,1,(.s 24))]), .i (.lsl 26 3 1 [.int .i64 0, .int .i64 0, .nils] [(0,3,(.s 25))]), .i (.app 27 165 3 40 (.s 17) (.s 26)),qf 28 3 1,qs 3 28 27 1]))) (.ops [.i (.bin 29 .add (.s 12) (qi 1)),qm 12 29]))))))) (.seq (.ops [ql 30 3 3 2 true,qs 2 2 30 2]) .ret))))⟩
theorem B9:cd pM=some rv:=by kernel_rfl
theorem JY (t:Tc) (hw:t.wf):VC cd pM (aD [(true,t.c)]) (fun rs _=>rs= [(true,[.p (.int .i64 t.view), .o true (some (165,3)) (g9 t.entries)])]):=by
 obtain⟨w0,w1,w2⟩:=hw
 simp only[Sz]at w1
 refine aa B9 rfl ?_
 simp(disch:=omega) [rv,Tc.c,bV,VY]
 refine lb (σ:=Nat×Nat) (f0:=_) (by simp(disch:=omega) [VY];rfl) (dh.zu (s:=3) (k:=3) (i:=1) rfl rfl) (f1:=_) (es0:=_) (by simp(disch:=omega) [VY];rfl) (by simp(disch:=omega) [VY];rfl) (fun p=> [(12, .val false [.int .i64 p.1]),(3, .box [.int .i64 t.view, .ow 3 p.2])]) (fun p=> [(3, .sl p.2 true true (some (165,3)) (g9 (t.entries.take p.1)))])
  (fun p g=>g+p.1=t.entries.length) (0,_) t.entries.length (by simp(disch:=omega) [VY];rfl) (by simp(disch:=omega) [g9,VY]) (by omega) ?_
 rintro⟨i,v⟩ n g hg
 simp only at hg
 simp(disch:=omega) [VY]
 refine ab (fun h1=> ?_) (fun h1=> ?_)
 ·have hx:i < t.entries.length:=by omega
  have w3:=(w2 _ (List.getElem_mem hx)).2.2
  simp only[Sz]at w3
  simp(disch:=omega) [dT hx,VY]
  refine ag (cj t.entries[i].tag (by omega)) rfl rfl ?_
  have hl:(g9 (t.entries.take i)).length=i:=by rw[bV];simp;omega
  simp(disch:=omega) [hl,Ib hx,VY]
  exact⟨i+1,n+1,g - 1,by omega,by omega,⟨by omega,by omega⟩,by omega,rfl⟩
 ·simp(disch:=omega) [VY]
  have:i=t.entries.length:=by omega
  subst this
  rw[List.take_length]
def qj (t:Tc):List (Bool×List E):= [(true,[.p (.int .i64 5), .p (.int .i64 0), .p (.int .i64 0), .p .nils, .p (.int .i64 0), .p .nils, .p (.int .i64 0), .p (.int .i64 0), .p .nils, .p .nils, .p .nils, .p (.int .i64 0), .p (.int .i64 0), .p (.int .i64 0), .p .nils, .p .nils, .p (.int .i64 0), .p (.int .i64 0), .p .nils, .p .nils, .p .nils, .p (.int .i64 0), .p (.int .i64 0), .p (.int .i64 0), .p .nils, .p .nils, .p (.int .i64 0), .p (.int .i64 0), .p .nils, .p .nils, .p .nils, .p .nils, .p (.int .i64 t.view), .o true (some (165,3)) (g9 t.entries), .p .nils, .p (.int .i64 0), .p (.int .i64 0), .p .nils, .p .nils, .p .nils, .p (.int .i64 0), .p (.int .i64 0), .p (.int .i64 0), .p .nils, .p .nils])]
abbrev zJ:Nat:=200
def zZ:AF:=⟨1,3,[.cell 2 45 true],(.seq (.ops [.i (.lbox 1 (.s 0)), .i (.lal 2 [.int .i64 0, .int .i64 0, .int .i64 0, .nils, .int .i64 0, .nils, .int .i64 0, .int .i64 0, .nils, .nils, .nils, .int .i64 0, .int .i64 0, .int .i64 0, .nils, .nils, .int .i64 0, .int .i64 0, .nils, .nils, .nils, .int .i64 0, .int .i64 0, .int .i64 0, .nils, .nils, .int .i64 0, .int .i64 0, .nils, .nils, .nils, .nils, .int .i64 0, .nils, .nils, .int .i64 0, .int .i64 0, .nils, .nils, .nils, .int .i64 0, .int .i64 0, .int .i64 0, .nils, .nils])]) (.seq (.ops [ql 3 1 1 2 true,qk 5 207 3, .i (.bld 5 [.int .i64 0, .int .i64 0, .int .i64 0, .nils, .int .i64 0, .nils, .int .i64 0, .int .i64 0, .nils, .nils, .nils, .int .i64 0, .int .i64 0, .int .i64 0, .nils, .nils, .int .i64 0, .int .i64 0, .nils, .nils, .nils, .int .i64 0, .int .i64 0, .int .i64 0, .nils, .nils, .int .i64 0, .int .i64 0, .nils, .nils, .nils, .nils, .int .i64 0, .nils, .nils, .int .i64 0, .int .i64 0, .nils, .nils, .nils, .int .i64 0, .int .i64 0, .int .i64 0, .nils, .nils] [(0,1,(qi 5)),(32,2,(.s 4))]),qs 2 2 5 45]) .ret))⟩
theorem Jt:cd zJ=some zZ:=by kernel_rfl
theorem Hd (t:Tc) (hw:t.wf):VC cd zJ (aD [(true,t.c)]) (fun rs _=>rs=qj t):=by
 refine aa Jt rfl ?_
 simp(disch:=omega) [zZ,Tc.c,VY]
 refine ag (xb t hw) rfl rfl ?_
 simp(disch:=omega) [qj,VY]
abbrev z9:Nat:=190
def zO:AF:=⟨1,3,[.cell 2 45 true],(.seq (.ops [.i (.lbox 1 (.s 0)), .i (.lal 2 [.int .i64 0, .int .i64 0, .int .i64 0, .nils, .int .i64 0, .nils, .int .i64 0, .int .i64 0, .nils, .nils, .nils, .int .i64 0, .int .i64 0, .int .i64 0, .nils, .nils, .int .i64 0, .int .i64 0, .nils, .nils, .nils, .int .i64 0, .int .i64 0, .int .i64 0, .nils, .nils, .int .i64 0, .int .i64 0, .nils, .nils, .nils, .nils, .int .i64 0, .nils, .nils, .int .i64 0, .int .i64 0, .nils, .nils, .nils, .int .i64 0, .int .i64 0, .int .i64 0, .nils, .nils])]) (.seq (.ops [ql 3 1 1 2 true,qk 5 271 3, .i (.bld 5 [.int .i64 0, .int .i64 0, .int .i64 0, .nils, .int .i64 0, .nils, .int .i64 0, .int .i64 0, .nils, .nils, .nils, .int .i64 0, .int .i64 0, .int .i64 0, .nils, .nils, .int .i64 0, .int .i64 0, .nils, .nils, .nils, .int .i64 0, .int .i64 0, .int .i64 0, .nils, .nils, .int .i64 0, .int .i64 0, .nils, .nils, .nils, .nils, .int .i64 0, .nils, .nils, .int .i64 0, .int .i64 0, .nils, .nils, .nils, .int .i64 0, .int .i64 0, .int .i64 0, .nils, .nils] [(0,1,(qi 5)),(32,2,(.s 4))]),qs 2 2 5 45]) .ret))⟩
theorem H7:cd z9=some zO:=by kernel_rfl
theorem ya (t:Tc) (hw:t.wf):VC cd z9 (aD [(true,t.c)]) (fun rs _=>rs=qj t):=by
 refine aa H7 rfl ?_
 simp(disch:=omega) [zO,Tc.c,VY]
 refine ag (JY t hw) rfl rfl ?_
 simp(disch:=omega) [qj,VY]
def Entry.tv (x:Entry):Tv:= .r [.i x.who, .i x.high,Ec x.tag]
theorem Entry.enc (x:Entry):enc mj x.tv=x.c:=by simp only[Entry.tv,eX,ck,c6,eO,fL,jM,hU,eJ,gQ,Entry.c,List.cons_append,List.nil_append,List.append_assoc]
theorem Entry.ex {v:Tv} (h:aS mj v):∃x:Entry,v=x.tv:=by
 obtain⟨vs,rfl,h⟩:=h.st
 obtain⟨v0,_,rfl,h0,h⟩:=h.step
 obtain⟨v1,_,rfl,h1,h⟩:=h.step
 obtain⟨v2,_,rfl,h2,h⟩:=h.step
 obtain rfl:=h.fin
 obtain⟨n0,rfl,_⟩:=h0.int
 obtain⟨n1,rfl,_⟩:=h1.int
 obtain⟨n2,rfl⟩:=hC h2
 exact⟨⟨n0,n1,n2⟩,rfl⟩
theorem Entry.of {x:Entry} (h:aS mj x.tv) (hw:wt x.tv≤1048576):x.wf:=by
 simp only[Entry.tv,gR,c7]at h
 simp only[Entry.tv,wt,Bj]at hw
 obtain⟨h0,h1,h2,_⟩:=h
 exact⟨d5 (ok_int.1 h0),d5 (ok_int.1 h1),t9 (by omega)⟩
def Kr (l:List Entry):Tv:= .l (l.map Entry.tv)
theorem PS (l:List Entry):enc (.sl mj) (Kr l)= [.sl (g9 l)]:=by
 simp only[Kr,Hq,List.map_map,g9]
 congr 2
 exact List.map_congr_left fun x _=>Entry.enc x
theorem Ql {v:Tv} (h:aS (.sl mj) v):∃l,v=Kr l:=by
 obtain⟨xs,rfl,_,h2⟩:=h.sl
 obtain⟨ys,rfl⟩:=tk (f:=Entry.tv) (P:=aS mj) (fun v hv=>Entry.ex hv) h2
 exact⟨ys,rfl⟩
theorem Q7 {l:List Entry} (h:aS (.sl mj) (Kr l)) (hw:wt (Kr l)≤1048576):Sz l.length∧∀x∈l,x.wf:=by
 unfold Kr at h hw
 rw[Nm]at hw
 have h2:=(On.1 h).2
 simp only[List.length_map]at hw
 refine⟨by unfold Sz;omega,fun x hx=>Entry.of (h2 _ (List.mem_map_of_mem hx)) ?_⟩
 have:=wL (f:=Entry.tv) hx
 omega
def Tc.tv (x:Tc):Tv:= .r [.i x.view,Kr x.entries]
theorem Tc.enc (x:Tc):enc Sa x.tv=x.c:=by simp only[Tc.tv,PS,eX,ck,c6,eO,fL,jM,hU,eJ,gQ,Tc.c,List.cons_append,List.nil_append,List.append_assoc]
theorem Tc.ex {v:Tv} (h:aS Sa v):∃x:Tc,v=x.tv:=by
 obtain⟨vs,rfl,h⟩:=h.st
 obtain⟨v0,_,rfl,h0,h⟩:=h.step
 obtain⟨v1,_,rfl,h1,h⟩:=h.step
 obtain rfl:=h.fin
 obtain⟨n0,rfl,_⟩:=h0.int
 obtain⟨n1,rfl⟩:=Ql h1
 exact⟨⟨n0,n1⟩,rfl⟩
theorem Tc.of {x:Tc} (h:aS Sa x.tv) (hw:wt x.tv≤1048576):x.wf:=by
 simp only[Tc.tv,gR,c7]at h
 simp only[Tc.tv,wt,Bj]at hw
 obtain⟨h0,h1,_⟩:=h
 exact⟨d5 (ok_int.1 h0),Q7 h1 (by omega)⟩
end Go.Eng.F
namespace Go.Eng.F
theorem Cn {α:Type} {a b:List α} {i:Nat} (hd:∀j,j < i→a[j]? =b[j]?) (h:a[i]? =b[i]?):∀j,j < i+1→a[j]? =b[j]? :=fun j hj=>by
 rcases Nat.lt_or_ge j i with hl|hl
 ·exact hd j hl
 ·obtain rfl:j=i:=by omega
  exact h
theorem JB {α:Type} {a b:List α} (hl:a.length=b.length) (hd:∀j,j < b.length→a[j]? =b[j]?):a=b:=by
 apply List.ext_getElem?
 intro j
 rcases Nat.lt_or_ge j b.length with h|h
 ·exact hd j h
 ·rw[List.getElem?_eq_none_iff.2 h,List.getElem?_eq_none_iff.2 (by omega)]
abbrev mP:Nat:=107
def oO:AF:=⟨2,5,[.tmp 4],(.seq (.ops [.i (.mov 4 (qb false))]) (.seq (.seq (.ops [qm 6 0,qn 7 6,qm 8 1,qn 9 8,qd 10 .neq 7 9]) (.cond (.s 10) (.seq (.ops [.i (.mov 4 (qb false))]) .ret) .skip)) (.seq (.seq (.ops [qm 11 0,qn 12 11, .i (.mov 13 (qi 0))]) (.block 0 (.loop [26,25,24,23,22,21,20,19,18,17,16,15,14,5] (.seq (.ops [qd 14 .lss 13 12]) (.seq (.cond (.s 14) .skip (.exit 0)) (.seq (.block 1 (.seq (.ops [qm 15 13,qm 5 15]) (.seq (.ops [qm 16 0,qm 17 5, .i (.iad 18 (.s 16) (.s 17) 1), .i (.ldh 19 (.s 18) 1 false),qm 20 1,qm 21 5, .i (.iad 22 (.s 20) (.s 21) 1), .i (.ldh 23 (.s 22) 1 false), .i (.call 25 21 false [(.s 19),(.s 23)]), .i (.not 25 (.s 24))]) (.cond (.s 25) (.seq (.ops [.i (.mov 4 (qb false))]) .ret) .skip)))) (.ops [.i (.bin 26 .add (.s 13) (qi 1)),qm 13 26]))))))) (.seq (.ops [.i (.mov 4 (qb true))]) .ret))))⟩
theorem AX:cd mP=some oO:=by kernel_rfl
theorem gq (a b:List Bytes) (ha:Sz a.length) (hb:Sz b.length):VC cd mP (aD [(false,[.sl (bD a)]),(false,[.sl (bD b)])]) (fun rs _=>rs=bl (decide (a=b))):=by
 simp only[Sz]at ha hb
 refine aa AX rfl ?_
 simp(disch:=omega) [oO,aq,VY]
 refine ab (fun h1=> ?_) (fun h1=> ?_)
 case refine_2=>
  have hn:¬a=b:=fun e=>h1 (by rw[e])
  simp(disch:=omega) [h1,hn,VY]
 simp(disch:=omega) [h1,aq,VY]
 refine bo (σ:=Nat) (f1:=_) (es0:=_) (by simp(disch:=omega) [VY];rfl) (by simp(disch:=omega) [VY];rfl) (fun i=> [(13, .val false [.int .i64 (i:Int)])]) (fun _=> []) (fun i g=>g+i=b.length∧∀j,j < i→a[j]? =b[j]?) 0 b.length (by simp(disch:=omega) [h1,VY]) (by simp(disch:=omega) [VY]) ⟨by omega,fun j hj=>by omega⟩ ?_
 rintro i n g ⟨hg,hd⟩ P hP
 simp(disch:=omega) [h1,VY]
 refine ab (fun h2=> ?_) (fun h2=> ?_)
 ·have hi:i < a.length:=by omega
  have hj:i < b.length:=by omega
  simp(disch:=omega) [c9 hi,c9 hj,VY]
  refine ao (aM a[i] b[i]) ?_
  simp(disch:=omega) [VY]
  refine ab (fun h3=> ?_) (fun h3=> ?_)
  ·simp(disch:=omega) [h3,VY]
   exact hP (i+1) (g - 1) _ _ (by omega) ⟨by omega,Cn hd (by simp[hi,hj,h3])⟩ (by simp(disch:=omega) [VY]) (by simp(disch:=omega) [VY])
  ·have hn:¬a=b:=fun e=>h3 (by subst e;rfl)
   simp(disch:=omega) [h3,hn,VY]
 ·have he:a=b:=JB (by omega) (fun j hj=>hd j (by omega))
  simp(disch:=omega) [he,VY]
abbrev n8:Nat:=336
def oN:AF:=⟨2,5,[.tmp 4],(.seq (.ops [.i (.mov 4 (qb false))]) (.seq (.seq (.ops [qm 6 0,qn 7 6,qm 8 1,qn 9 8,qd 10 .neq 7 9]) (.cond (.s 10) (.seq (.ops [.i (.mov 4 (qb false))]) .ret) .skip)) (.seq (.seq (.ops [qm 11 0,qn 12 11, .i (.mov 13 (qi 0))]) (.block 0 (.loop [26,25,24,23,22,21,20,19,18,17,16,15,14,5] (.seq (.ops [qd 14 .lss 13 12]) (.seq (.cond (.s 14) .skip (.exit 0)) (.seq (.block 1 (.seq (.ops [qm 15 13,qm 5 15]) (.seq (.ops [qm 16 0,qm 17 5, .i (.iad 18 (.s 16) (.s 17) 1), .i (.ldh 19 (.s 18) 1 false),qm 20 1,qm 21 5, .i (.iad 22 (.s 20) (.s 21) 1), .i (.ldh 23 (.s 22) 1 false), .i (.call 25 329 false [(.s 19),(.s 23)]), .i (.not 25 (.s 24))]) (.cond (.s 25) (.seq (.ops [.i (.mov 4 (qb false))]) .ret) .skip)))) (.ops [.i (.bin 26 .add (.s 13) (qi 1)),qm 13 26]))))))) (.seq (.ops [.i (.mov 4 (qb true))]) .ret))))⟩
theorem Al:cd n8=some oN:=by kernel_rfl
theorem gm (a b:List Bytes) (ha:Sz a.length) (hb:Sz b.length):VC cd n8 (aD [(false,[.sl (bD a)]),(false,[.sl (bD b)])]) (fun rs _=>rs=bl (decide (a=b))):=by
 simp only[Sz]at ha hb
 refine aa Al rfl ?_
 simp(disch:=omega) [oN,aq,VY]
 refine ab (fun h1=> ?_) (fun h1=> ?_)
 case refine_2=>
  have hn:¬a=b:=fun e=>h1 (by rw[e])
  simp(disch:=omega) [h1,hn,VY]
 simp(disch:=omega) [h1,aq,VY]
 refine bo (σ:=Nat) (f1:=_) (es0:=_) (by simp(disch:=omega) [VY];rfl) (by simp(disch:=omega) [VY];rfl) (fun i=> [(13, .val false [.int .i64 (i:Int)])]) (fun _=> []) (fun i g=>g+i=b.length∧∀j,j < i→a[j]? =b[j]?) 0 b.length (by simp(disch:=omega) [h1,VY]) (by simp(disch:=omega) [VY]) ⟨by omega,fun j hj=>by omega⟩ ?_
 rintro i n g ⟨hg,hd⟩ P hP
 simp(disch:=omega) [h1,VY]
 refine ab (fun h2=> ?_) (fun h2=> ?_)
 ·have hi:i < a.length:=by omega
  have hj:i < b.length:=by omega
  simp(disch:=omega) [c9 hi,c9 hj,VY]
  refine ao (bc a[i] b[i]) ?_
  simp(disch:=omega) [VY]
  refine ab (fun h3=> ?_) (fun h3=> ?_)
  ·simp(disch:=omega) [h3,VY]
   exact hP (i+1) (g - 1) _ _ (by omega) ⟨by omega,Cn hd (by simp[hi,hj,h3])⟩ (by simp(disch:=omega) [VY]) (by simp(disch:=omega) [VY])
  ·have hn:¬a=b:=fun e=>h3 (by subst e;rfl)
   simp(disch:=omega) [h3,hn,VY]
 ·have he:a=b:=JB (by omega) (fun j hj=>hd j (by omega))
  simp(disch:=omega) [he,VY]
def mF (a b:Qc):Bool:=decide (a.view=b.view) && decide (a.height=b.height) && decide (a.block=b.block) && decide (a.bits=b.bits) && decide (a.tags=b.tags)
abbrev uY:Nat:=29
def u9:AF:=⟨2,6,[.tmp 4],(.seq (.ops [.i (.lbox 2 (.s 0)), .i (.lbox 3 (.s 1)), .i (.mov 4 (qb false))]) (.seq (.ops [qf 5 2 0,ql 6 2 5 1 false,qf 7 3 0,ql 8 3 7 1 false,qd 9 .eql 6 8,qm 10 9, .g 10 true 12 (.fad 11 (.s 2) 1), .g 10 true 13 (.ldl 12 2 (.s 11) 1 false), .g 10 true 14 (.fad 13 (.s 3) 1), .g 10 true 15 (.ldl 14 3 (.s 13) 1 false), .g 10 true 16 (.bin 15 .eql (.s 12) (.s 14)), .i (.pick 16 (.s 10) (.s 15) (qb false)),qm 17 16, .g 17 true 19 (.fad 18 (.s 2) 2), .g 17 true 20 (.ldl 19 2 (.s 18) 1 false), .g 17 true 21 (.fad 20 (.s 3) 2), .g 17 true 22 (.ldl 21 3 (.s 20) 1 false), .g 17 true 23 (.call 23 21 false [(.s 19),(.s 21)]), .i (.pick 23 (.s 17) (.s 22) (qb false)),qm 24 23, .g 24 true 26 (.fad 25 (.s 2) 3), .g 24 true 27 (.ldl 26 2 (.s 25) 1 false), .g 24 true 28 (.fad 27 (.s 3) 3), .g 24 true 29 (.ldl 28 3 (.s 27) 1 false), .g 24 true 30 (.call 30 21 false [(.s 26),(.s 28)]), .i (.pick 30 (.s 24) (.s 29) (qb false)),qm 31 30, .g 31 true 33 (.fad 32 (.s 2) 4), .g 31 true 34 (.ldl 33 2 (.s 32) 1 false), .g 31 true 35 (.fad 34 (.s 3) 4), .g 31 true 36 (.ldl 35 3 (.s 34) 1 false), .g 31 true 37 (.call 37 107 false [(.s 33),(.s 35)]), .i (.pick 37 (.s 31) (.s 36) (qb false)),qm 4 37]) .ret))⟩
theorem EC:cd uY=some u9:=by kernel_rfl
theorem iQ (a b:Qc) (ha:a.wf) (hb:b.wf):VC cd uY (aD [(true,a.c),(true,b.c)]) (fun rs _=>rs=bl (mF a b)):=by
 refine aa EC rfl ?_
 simp(disch:=omega) [u9,Qc.c,VY]
 refine ab (fun h1=> ?_) (fun h1=> ?_) <;>simp(disch:=omega) [h1,mF,VY]
 refine ab (fun h2=> ?_) (fun h2=> ?_) <;>simp(disch:=omega) [h1,h2,VY]
 refine ao (aM a.block b.block) ?_
 simp(disch:=omega) [h1,h2,VY]
 refine ab (fun h3=> ?_) (fun h3=> ?_) <;>simp(disch:=omega) [h1,h2,h3,VY]
 refine ao (aM a.bits b.bits) ?_
 simp(disch:=omega) [h1,h2,h3,VY]
 refine ab (fun h4=> ?_) (fun h4=> ?_) <;>simp(disch:=omega) [h1,h2,h3,h4,VY]
 refine ao (gq a.tags b.tags ha.2.2.2.2 hb.2.2.2.2) ?_
 simp(disch:=omega) [h1,h2,h3,h4,VY]
abbrev t8:Nat:=299
def uA:AF:=⟨2,6,[.tmp 4],(.seq (.ops [.i (.lbox 2 (.s 0)), .i (.lbox 3 (.s 1)), .i (.mov 4 (qb false))]) (.seq (.ops [qf 5 2 0,ql 6 2 5 1 false,qf 7 3 0,ql 8 3 7 1 false,qd 9 .eql 6 8,qm 10 9, .g 10 true 12 (.fad 11 (.s 2) 1), .g 10 true 13 (.ldl 12 2 (.s 11) 1 false), .g 10 true 14 (.fad 13 (.s 3) 1), .g 10 true 15 (.ldl 14 3 (.s 13) 1 false), .g 10 true 16 (.bin 15 .eql (.s 12) (.s 14)), .i (.pick 16 (.s 10) (.s 15) (qb false)),qm 17 16, .g 17 true 19 (.fad 18 (.s 2) 2), .g 17 true 20 (.ldl 19 2 (.s 18) 1 false), .g 17 true 21 (.fad 20 (.s 3) 2), .g 17 true 22 (.ldl 21 3 (.s 20) 1 false), .g 17 true 23 (.call 23 329 false [(.s 19),(.s 21)]), .i (.pick 23 (.s 17) (.s 22) (qb false)),qm 24 23, .g 24 true 26 (.fad 25 (.s 2) 3), .g 24 true 27 (.ldl 26 2 (.s 25) 1 false), .g 24 true 28 (.fad 27 (.s 3) 3), .g 24 true 29 (.ldl 28 3 (.s 27) 1 false), .g 24 true 30 (.call 30 329 false [(.s 26),(.s 28)]), .i (.pick 30 (.s 24) (.s 29) (qb false)),qm 31 30, .g 31 true 33 (.fad 32 (.s 2) 4), .g 31 true 34 (.ldl 33 2 (.s 32) 1 false), .g 31 true 35 (.fad 34 (.s 3) 4), .g 31 true 36 (.ldl 35 3 (.s 34) 1 false), .g 31 true 37 (.call 37 336 false [(.s 33),(.s 35)]), .i (.pick 37 (.s 31) (.s 36) (qb false)),qm 4 37]) .ret))⟩
theorem Fl:cd t8=some uA:=by kernel_rfl
theorem jc (a b:Qc) (ha:a.wf) (hb:b.wf):VC cd t8 (aD [(true,a.c),(true,b.c)]) (fun rs _=>rs=bl (mF a b)):=by
 refine aa Fl rfl ?_
 simp(disch:=omega) [uA,Qc.c,VY]
 refine ab (fun h1=> ?_) (fun h1=> ?_) <;>simp(disch:=omega) [h1,mF,VY]
 refine ab (fun h2=> ?_) (fun h2=> ?_) <;>simp(disch:=omega) [h1,h2,VY]
 refine ao (bc a.block b.block) ?_
 simp(disch:=omega) [h1,h2,VY]
 refine ab (fun h3=> ?_) (fun h3=> ?_) <;>simp(disch:=omega) [h1,h2,h3,VY]
 refine ao (bc a.bits b.bits) ?_
 simp(disch:=omega) [h1,h2,h3,VY]
 refine ab (fun h4=> ?_) (fun h4=> ?_) <;>simp(disch:=omega) [h1,h2,h3,h4,VY]
 refine ao (gm a.tags b.tags ha.2.2.2.2 hb.2.2.2.2) ?_
 simp(disch:=omega) [h1,h2,h3,h4,VY]
def ee (a b:Head):Bool:=decide (a.view=b.view) && decide (a.height=b.height) && decide (a.proposer=b.proposer) && decide (a.parent=b.parent) && decide (a.root=b.root) && mF a.qc b.qc
abbrev nL:Nat:=32
def oP:AF:=⟨2,6,[.tmp 4],(.seq (.ops [.i (.lbox 2 (.s 0)), .i (.lbox 3 (.s 1)), .i (.mov 4 (qb false))]) (.seq (.ops [qf 5 2 0,ql 6 2 5 1 false,qf 7 3 0,ql 8 3 7 1 false,qd 9 .eql 6 8,qm 10 9, .g 10 true 12 (.fad 11 (.s 2) 1), .g 10 true 13 (.ldl 12 2 (.s 11) 1 false), .g 10 true 14 (.fad 13 (.s 3) 1), .g 10 true 15 (.ldl 14 3 (.s 13) 1 false), .g 10 true 16 (.bin 15 .eql (.s 12) (.s 14)), .i (.pick 16 (.s 10) (.s 15) (qb false)),qm 17 16, .g 17 true 19 (.fad 18 (.s 2) 2), .g 17 true 20 (.ldl 19 2 (.s 18) 1 false), .g 17 true 21 (.fad 20 (.s 3) 2), .g 17 true 22 (.ldl 21 3 (.s 20) 1 false), .g 17 true 23 (.bin 22 .eql (.s 19) (.s 21)), .i (.pick 23 (.s 17) (.s 22) (qb false)),qm 24 23, .g 24 true 26 (.fad 25 (.s 2) 3), .g 24 true 27 (.ldl 26 2 (.s 25) 1 false), .g 24 true 28 (.fad 27 (.s 3) 3), .g 24 true 29 (.ldl 28 3 (.s 27) 1 false), .g 24 true 30 (.call 30 21 false [(.s 26),(.s 28)]), .i (.pick 30 (.s 24) (.s 29) (qb false)),qm 31 30, .g 31 true 33 (.fad 32 (.s 2) 4), .g 31 true 34 (.ldl 33 2 (.s 32) 1 false), .g 31 true 35 (.fad 34 (.s 3) 4), .g 31 true 36 (.ldl 35 3 (.s 34) 1 false), .g 31 true 37 (.call 37 21 false [(.s 33),(.s 35)]), .i (.pick 37 (.s 31) (.s 36) (qb false)),qm 38 37, .g 38 true 40 (.fad 39 (.s 2) 5), .g 38 true 41 (.ldl 40 2 (.s 39) 5 true), .g 38 true 42 (.fad 41 (.s 3) 5), .g 38 true 43 (.ldl 42 3 (.s 41) 5 true), .g 38 true 44 (.call 44 29 false [(.s 40),(.s 42)]), .i (.pick 44 (.s 38) (.s 43) (qb false)),qm 4 44]) .ret))⟩
theorem AM:cd nL=some oP:=by kernel_rfl
theorem gD (a b:Head) (ha:a.wf) (hb:b.wf):VC cd nL (aD [(true,a.c),(true,b.c)]) (fun rs _=>rs=bl (ee a b)):=by
 refine aa AM rfl ?_
 simp(disch:=omega) [oP,Head.c,VY]
 refine ab (fun h1=> ?_) (fun h1=> ?_) <;>simp(disch:=omega) [h1,ee,VY]
 refine ab (fun h2=> ?_) (fun h2=> ?_) <;>simp(disch:=omega) [h1,h2,VY]
 refine ab (fun h3=> ?_) (fun h3=> ?_) <;>simp(disch:=omega) [h1,h2,h3,VY]
 refine ao (aM a.parent b.parent) ?_
 simp(disch:=omega) [h1,h2,h3,VY]
 refine ab (fun h4=> ?_) (fun h4=> ?_) <;>simp(disch:=omega) [h1,h2,h3,h4,VY]
 refine ao (aM a.root b.root) ?_
 simp(disch:=omega) [h1,h2,h3,h4,VY]
 refine ab (fun h5=> ?_) (fun h5=> ?_) <;>simp(disch:=omega) [h1,h2,h3,h4,h5,VY]
 refine ao (iQ a.qc b.qc ha.2.2.2.2.2 hb.2.2.2.2.2) ?_ (ha:=by first|rfl|(simp[Qc.c,VY] <;>repeat' constructor))
 simp(disch:=omega) [h1,h2,h3,h4,h5,VY]
abbrev mW:Nat:=300
def oj:AF:=⟨2,6,[.tmp 4],(.seq (.ops [.i (.lbox 2 (.s 0)), .i (.lbox 3 (.s 1)), .i (.mov 4 (qb false))]) (.seq (.ops [qf 5 2 0,ql 6 2 5 1 false,qf 7 3 0,ql 8 3 7 1 false,qd 9 .eql 6 8,qm 10 9, .g 10 true 12 (.fad 11 (.s 2) 1), .g 10 true 13 (.ldl 12 2 (.s 11) 1 false), .g 10 true 14 (.fad 13 (.s 3) 1), .g 10 true 15 (.ldl 14 3 (.s 13) 1 false), .g 10 true 16 (.bin 15 .eql (.s 12) (.s 14)), .i (.pick 16 (.s 10) (.s 15) (qb false)),qm 17 16, .g 17 true 19 (.fad 18 (.s 2) 2), .g 17 true 20 (.ldl 19 2 (.s 18) 1 false), .g 17 true 21 (.fad 20 (.s 3) 2), .g 17 true 22 (.ldl 21 3 (.s 20) 1 false), .g 17 true 23 (.bin 22 .eql (.s 19) (.s 21)), .i (.pick 23 (.s 17) (.s 22) (qb false)),qm 24 23, .g 24 true 26 (.fad 25 (.s 2) 3), .g 24 true 27 (.ldl 26 2 (.s 25) 1 false), .g 24 true 28 (.fad 27 (.s 3) 3), .g 24 true 29 (.ldl 28 3 (.s 27) 1 false), .g 24 true 30 (.call 30 329 false [(.s 26),(.s 28)]), .i (.pick 30 (.s 24) (.s 29) (qb false)),qm 31 30, .g 31 true 33 (.fad 32 (.s 2) 4), .g 31 true 34 (.ldl 33 2 (.s 32) 1 false), .g 31 true 35 (.fad 34 (.s 3) 4), .g 31 true 36 (.ldl 35 3 (.s 34) 1 false), .g 31 true 37 (.call 37 329 false [(.s 33),(.s 35)]), .i (.pick 37 (.s 31) (.s 36) (qb false)),qm 38 37, .g 38 true 40 (.fad 39 (.s 2) 5), .g 38 true 41 (.ldl 40 2 (.s 39) 5 true), .g 38 true 42 (.fad 41 (.s 3) 5), .g 38 true 43 (.ldl 42 3 (.s 41) 5 true), .g 38 true 44 (.call 44 299 false [(.s 40),(.s 42)]), .i (.pick 44 (.s 38) (.s 43) (qb false)),qm 4 44]) .ret))⟩
theorem Ar:cd mW=some oj:=by kernel_rfl
theorem gE (a b:Head) (ha:a.wf) (hb:b.wf):VC cd mW (aD [(true,a.c),(true,b.c)]) (fun rs _=>rs=bl (ee a b)):=by
 refine aa Ar rfl ?_
 simp(disch:=omega) [oj,Head.c,VY]
 refine ab (fun h1=> ?_) (fun h1=> ?_) <;>simp(disch:=omega) [h1,ee,VY]
 refine ab (fun h2=> ?_) (fun h2=> ?_) <;>simp(disch:=omega) [h1,h2,VY]
 refine ab (fun h3=> ?_) (fun h3=> ?_) <;>simp(disch:=omega) [h1,h2,h3,VY]
 refine ao (bc a.parent b.parent) ?_
 simp(disch:=omega) [h1,h2,h3,VY]
 refine ab (fun h4=> ?_) (fun h4=> ?_) <;>simp(disch:=omega) [h1,h2,h3,h4,VY]
 refine ao (bc a.root b.root) ?_
 simp(disch:=omega) [h1,h2,h3,h4,VY]
 refine ab (fun h5=> ?_) (fun h5=> ?_) <;>simp(disch:=omega) [h1,h2,h3,h4,h5,VY]
 refine ao (jc a.qc b.qc ha.2.2.2.2.2 hb.2.2.2.2.2) ?_ (ha:=by first|rfl|(simp[Qc.c,VY] <;>repeat' constructor))
 simp(disch:=omega) [h1,h2,h3,h4,h5,VY]
def gw (a b:Block):Bool:=ee a.head b.head && decide (a.txs=b.txs)
abbrev kP:Nat:=36
def lG:AF:=⟨2,5,[.tmp 4],(.seq (.ops [.i (.lbox 2 (.s 0)), .i (.lbox 3 (.s 1)), .i (.mov 4 (qb false))]) (.seq (.ops [qf 5 2 0,ql 6 2 5 10 true,qf 7 3 0,ql 8 3 7 10 true, .i (.call 10 32 false [(.s 6),(.s 8)]),qm 10 9, .g 10 true 12 (.fad 11 (.s 2) 10), .g 10 true 13 (.ldl 12 2 (.s 11) 1 false), .g 10 true 14 (.fad 13 (.s 3) 10), .g 10 true 15 (.ldl 14 3 (.s 13) 1 false), .g 10 true 16 (.call 16 107 false [(.s 12),(.s 14)]), .i (.pick 16 (.s 10) (.s 15) (qb false)),qm 4 16]) .ret))⟩
theorem yR:cd kP=some lG:=by kernel_rfl
theorem xX (a b:Block) (ha:a.wc) (hb:b.wc):VC cd kP (aD [(true,a.c),(true,b.c)]) (fun rs _=>rs=bl (gw a b)):=by
 refine aa yR rfl ?_
 simp(disch:=omega) [lG,Block.c,Head.c,VY]
 refine ao (gD a.head b.head ha.1.1 hb.1.1) ?_ (ha:=by first|rfl|(simp[Head.c,VY] <;>repeat' constructor))
 simp(disch:=omega) [VY]
 refine ak (fun h1=> ?_) (fun h1=> ?_) <;>simp(disch:=omega) [h1,gw,VY]
 refine ao (gq a.txs b.txs ha.2.1 hb.2.1) ?_
 simp(disch:=omega) [h1,VY]
abbrev ln:Nat:=301
def kF:AF:=⟨2,5,[.tmp 4],(.seq (.ops [.i (.lbox 2 (.s 0)), .i (.lbox 3 (.s 1)), .i (.mov 4 (qb false))]) (.seq (.ops [qf 5 2 0,ql 6 2 5 10 true,qf 7 3 0,ql 8 3 7 10 true, .i (.call 10 300 false [(.s 6),(.s 8)]),qm 10 9, .g 10 true 12 (.fad 11 (.s 2) 10), .g 10 true 13 (.ldl 12 2 (.s 11) 1 false), .g 10 true 14 (.fad 13 (.s 3) 10), .g 10 true 15 (.ldl 14 3 (.s 13) 1 false), .g 10 true 16 (.call 16 336 false [(.s 12),(.s 14)]), .i (.pick 16 (.s 10) (.s 15) (qb false)),qm 4 16]) .ret))⟩
theorem zk:cd ln=some kF:=by kernel_rfl
theorem xU (a b:Block) (ha:a.wc) (hb:b.wc):VC cd ln (aD [(true,a.c),(true,b.c)]) (fun rs _=>rs=bl (gw a b)):=by
 refine aa zk rfl ?_
 simp(disch:=omega) [kF,Block.c,Head.c,VY]
 refine ao (gE a.head b.head ha.1.1 hb.1.1) ?_ (ha:=by first|rfl|(simp[Head.c,VY] <;>repeat' constructor))
 simp(disch:=omega) [VY]
 refine ak (fun h1=> ?_) (fun h1=> ?_) <;>simp(disch:=omega) [h1,gw,VY]
 refine ao (gm a.txs b.txs ha.2.1 hb.2.1) ?_
 simp(disch:=omega) [h1,VY]
structure aX where
 height:Int
 n:Int
 idx:Int
 tx:Bytes
 path:List Bytes
def aX.c (x:aX):List D:= [.int .i64 x.height, .int .i64 x.n, .int .i64 x.idx, .sl (bytes x.tx), .sl (bD x.path)]
def aX.wc (x:aX):Prop:=lh x.height∧lh x.n∧lh x.idx∧Sz x.tx.length∧m7 x.path
def aX.o (x:aX):List E:= [.p (.int .i64 x.height), .p (.int .i64 x.n), .p (.int .i64 x.idx), .o true (some (5,1)) (bytes x.tx), .o true (some (22,1)) (bD x.path)]
def i0 (a b:aX):Bool:=decide (a.height=b.height) && decide (a.n=b.n) && decide (a.idx=b.idx) && decide (a.tx=b.tx) && decide (a.path=b.path)
abbrev mX:Nat:=45
def nN:AF:=⟨2,6,[.tmp 4],(.seq (.ops [.i (.lbox 2 (.s 0)), .i (.lbox 3 (.s 1)), .i (.mov 4 (qb false))]) (.seq (.ops [qf 5 2 0,ql 6 2 5 1 false,qf 7 3 0,ql 8 3 7 1 false,qd 9 .eql 6 8,qm 10 9, .g 10 true 12 (.fad 11 (.s 2) 1), .g 10 true 13 (.ldl 12 2 (.s 11) 1 false), .g 10 true 14 (.fad 13 (.s 3) 1), .g 10 true 15 (.ldl 14 3 (.s 13) 1 false), .g 10 true 16 (.bin 15 .eql (.s 12) (.s 14)), .i (.pick 16 (.s 10) (.s 15) (qb false)),qm 17 16, .g 17 true 19 (.fad 18 (.s 2) 2), .g 17 true 20 (.ldl 19 2 (.s 18) 1 false), .g 17 true 21 (.fad 20 (.s 3) 2), .g 17 true 22 (.ldl 21 3 (.s 20) 1 false), .g 17 true 23 (.bin 22 .eql (.s 19) (.s 21)), .i (.pick 23 (.s 17) (.s 22) (qb false)),qm 24 23, .g 24 true 26 (.fad 25 (.s 2) 3), .g 24 true 27 (.ldl 26 2 (.s 25) 1 false), .g 24 true 28 (.fad 27 (.s 3) 3), .g 24 true 29 (.ldl 28 3 (.s 27) 1 false), .g 24 true 30 (.call 30 21 false [(.s 26),(.s 28)]), .i (.pick 30 (.s 24) (.s 29) (qb false)),qm 31 30, .g 31 true 33 (.fad 32 (.s 2) 4), .g 31 true 34 (.ldl 33 2 (.s 32) 1 false), .g 31 true 35 (.fad 34 (.s 3) 4), .g 31 true 36 (.ldl 35 3 (.s 34) 1 false), .g 31 true 37 (.call 37 107 false [(.s 33),(.s 35)]), .i (.pick 37 (.s 31) (.s 36) (qb false)),qm 4 37]) .ret))⟩
theorem Bm:cd mX=some nN:=by kernel_rfl
theorem yQ (a b:aX) (ha:a.wc) (hb:b.wc):VC cd mX (aD [(true,a.c),(true,b.c)]) (fun rs _=>rs=bl (i0 a b)):=by
 refine aa Bm rfl ?_
 simp(disch:=omega) [nN,aX.c,VY]
 refine ab (fun h1=> ?_) (fun h1=> ?_) <;>simp(disch:=omega) [h1,i0,VY]
 refine ab (fun h2=> ?_) (fun h2=> ?_) <;>simp(disch:=omega) [h1,h2,VY]
 refine ab (fun h3=> ?_) (fun h3=> ?_) <;>simp(disch:=omega) [h1,h2,h3,VY]
 refine ao (aM a.tx b.tx) ?_
 simp(disch:=omega) [h1,h2,h3,VY]
 refine ab (fun h4=> ?_) (fun h4=> ?_) <;>simp(disch:=omega) [h1,h2,h3,h4,VY]
 refine ao (gq a.path b.path ha.2.2.2.2.1 hb.2.2.2.2.1) ?_
 simp(disch:=omega) [h1,h2,h3,h4,VY]
abbrev nP:Nat:=304
def mU:AF:=⟨2,6,[.tmp 4],(.seq (.ops [.i (.lbox 2 (.s 0)), .i (.lbox 3 (.s 1)), .i (.mov 4 (qb false))]) (.seq (.ops [qf 5 2 0,ql 6 2 5 1 false,qf 7 3 0,ql 8 3 7 1 false,qd 9 .eql 6 8,qm 10 9, .g 10 true 12 (.fad 11 (.s 2) 1), .g 10 true 13 (.ldl 12 2 (.s 11) 1 false), .g 10 true 14 (.fad 13 (.s 3) 1), .g 10 true 15 (.ldl 14 3 (.s 13) 1 false), .g 10 true 16 (.bin 15 .eql (.s 12) (.s 14)), .i (.pick 16 (.s 10) (.s 15) (qb false)),qm 17 16, .g 17 true 19 (.fad 18 (.s 2) 2), .g 17 true 20 (.ldl 19 2 (.s 18) 1 false), .g 17 true 21 (.fad 20 (.s 3) 2), .g 17 true 22 (.ldl 21 3 (.s 20) 1 false), .g 17 true 23 (.bin 22 .eql (.s 19) (.s 21)), .i (.pick 23 (.s 17) (.s 22) (qb false)),qm 24 23, .g 24 true 26 (.fad 25 (.s 2) 3), .g 24 true 27 (.ldl 26 2 (.s 25) 1 false), .g 24 true 28 (.fad 27 (.s 3) 3), .g 24 true 29 (.ldl 28 3 (.s 27) 1 false), .g 24 true 30 (.call 30 329 false [(.s 26),(.s 28)]), .i (.pick 30 (.s 24) (.s 29) (qb false)),qm 31 30, .g 31 true 33 (.fad 32 (.s 2) 4), .g 31 true 34 (.ldl 33 2 (.s 32) 1 false), .g 31 true 35 (.fad 34 (.s 3) 4), .g 31 true 36 (.ldl 35 3 (.s 34) 1 false), .g 31 true 37 (.call 37 336 false [(.s 33),(.s 35)]), .i (.pick 37 (.s 31) (.s 36) (qb false)),qm 4 37]) .ret))⟩
theorem Bb:cd nP=some mU:=by kernel_rfl
theorem zi (a b:aX) (ha:a.wc) (hb:b.wc):VC cd nP (aD [(true,a.c),(true,b.c)]) (fun rs _=>rs=bl (i0 a b)):=by
 refine aa Bb rfl ?_
 simp(disch:=omega) [mU,aX.c,VY]
 refine ab (fun h1=> ?_) (fun h1=> ?_) <;>simp(disch:=omega) [h1,i0,VY]
 refine ab (fun h2=> ?_) (fun h2=> ?_) <;>simp(disch:=omega) [h1,h2,VY]
 refine ab (fun h3=> ?_) (fun h3=> ?_) <;>simp(disch:=omega) [h1,h2,h3,VY]
 refine ao (bc a.tx b.tx) ?_
 simp(disch:=omega) [h1,h2,h3,VY]
 refine ab (fun h4=> ?_) (fun h4=> ?_) <;>simp(disch:=omega) [h1,h2,h3,h4,VY]
 refine ao (gm a.path b.path ha.2.2.2.2.1 hb.2.2.2.2.1) ?_
 simp(disch:=omega) [h1,h2,h3,h4,VY]
abbrev iM:Nat:=209
def iK:AF:=⟨1,5,[.cell 2 5 true],(.seq (.ops [.i (.lbox 1 (.s 0)), .i (.lal 2 [.int .i64 0, .int .i64 0, .int .i64 0, .nils, .nils])]) (.seq (.ops [qf 3 1 0,ql 4 1 3 1 false,qf 5 1 1,ql 6 1 5 1 false,qf 7 1 2,ql 8 1 7 1 false,qf 9 1 3,ql 10 1 9 1 false,qk 12 93 10,qf 12 1 4,ql 13 1 12 1 false,qk 15 277 13, .i (.bld 15 [.int .i64 0, .int .i64 0, .int .i64 0, .nils, .nils] [(0,1,(.s 4)),(1,1,(.s 6)),(2,1,(.s 8)),(3,1,(.s 11)),(4,1,(.s 14))]),qs 2 2 15 5]) .ret))⟩
theorem vS:cd iM=some iK:=by kernel_rfl
theorem qP (x:aX) (hw:x.wc):VC cd iM (aD [(true,x.c)]) (fun rs _=>rs= [(true,x.o)]):=by
 have w:=hw.2.2.2.1
 simp only[Sz]at w
 refine aa vS rfl ?_
 simp(disch:=omega) [iK,aX.c,VY]
 refine ao (aI x.tx (by omega)) ?_
 simp(disch:=omega) [VY]
 refine ao (sk x.path hw.2.2.2.2) ?_
 simp(disch:=omega) [aX.o,VY]
abbrev rE:Nat:=275
def pg:AF:=⟨1,5,[.cell 2 5 true],(.seq (.ops [.i (.lbox 1 (.s 0)), .i (.lal 2 [.int .i64 0, .int .i64 0, .int .i64 0, .nils, .nils])]) (.seq (.ops [qf 3 1 0,ql 4 1 3 1 false,qf 5 1 1,ql 6 1 5 1 false,qf 7 1 2,ql 8 1 7 1 false,qf 9 1 3,ql 10 1 9 1 false,qk 12 143 10,qf 12 1 4,ql 13 1 12 1 false,qk 15 316 13, .i (.bld 15 [.int .i64 0, .int .i64 0, .int .i64 0, .nils, .nils] [(0,1,(.s 4)),(1,1,(.s 6)),(2,1,(.s 8)),(3,1,(.s 11)),(4,1,(.s 14))]),qs 2 2 15 5]) .ret))⟩
theorem BO:cd rE=some pg:=by kernel_rfl
theorem KZ (x:aX) (hw:x.wc):VC cd rE (aD [(true,x.c)]) (fun rs _=>rs= [(true,x.o)]):=by
 have w:=hw.2.2.2.1
 simp only[Sz]at w
 refine aa BO rfl ?_
 simp(disch:=omega) [pg,aX.c,VY]
 refine ao (cj x.tx (by omega)) ?_
 simp(disch:=omega) [VY]
 refine ao (mD x.path hw.2.2.2.2) ?_
 simp(disch:=omega) [aX.o,VY]
def da {α:Type} (f:α→α→Bool) (a b:List α):Bool:=decide (a.length=b.length) && (List.range b.length).all fun i=>match a[i]?,b[i]? with|some x,some y=>f x y|_,_=>false
theorem jB {α:Type} {f:α→α→Bool} {a b:List α} (h:¬a.length=b.length):da f a b=false:=by unfold da;rw[decide_eq_false h];rfl
theorem gF {α:Type} {f:α→α→Bool} {a b:List α} {i:Nat} (hi:i < a.length) (hj:i < b.length) (h:f a[i] b[i]=false):da f a b=false:=by
 unfold da
 rw[Bool.and_eq_false_iff]
 right
 rw[List.all_eq_false]
 exact⟨i,by simp[hj],by simp[hi,hj,h]⟩
theorem jy {α:Type} {f:α→α→Bool} {a b:List α} (hl:a.length=b.length) (h:∀i,i < b.length→(hi:i < a.length)→(hj:i < b.length)→f a[i] b[i]=true):da f a b=true:=by
 unfold da
 rw[Bool.and_eq_true,List.all_eq_true]
 refine⟨by simp[hl],fun i hi=> ?_⟩
 have hj:i < b.length:=by simpa using hi
 have hi2:i < a.length:=by omega
 simp[hi2,hj,h i hj hi2 hj]
theorem x6 {α:Type} {f:α→α→Bool} {a b:List α} {i:Nat} (hd:∀j,j < i→(hi:j < a.length)→(hj:j < b.length)→f a[j] b[j]=true) {hi:i < a.length} {hj:i < b.length} (h:f a[i] b[i]=true):∀j,j < i+1→(hi:j < a.length)→(hj:j < b.length)→f a[j] b[j]=true:=fun j h2 hx hy=>by
 rcases Nat.lt_or_ge j i with hl|hl
 ·exact hd j hl hx hy
 ·obtain rfl:j=i:=by omega
  exact h
def ek (a b:List Head):Bool:=da ee a b
def ep (a b:Proof):Bool:=ek a.heads b.heads && mF a.qc b.qc
abbrev lJ:Nat:=124
def lv:AF:=⟨2,5,[.tmp 4],(.seq (.ops [.i (.mov 4 (qb false))]) (.seq (.seq (.ops [qm 6 0,qn 7 6,qm 8 1,qn 9 8,qd 10 .neq 7 9]) (.cond (.s 10) (.seq (.ops [.i (.mov 4 (qb false))]) .ret) .skip)) (.seq (.seq (.ops [qm 11 0,qn 12 11, .i (.mov 13 (qi 0))]) (.block 0 (.loop [26,25,24,23,22,21,20,19,18,17,16,15,14,5] (.seq (.ops [qd 14 .lss 13 12]) (.seq (.cond (.s 14) .skip (.exit 0)) (.seq (.block 1 (.seq (.ops [qm 15 13,qm 5 15]) (.seq (.ops [qm 16 0,qm 17 5, .i (.iad 18 (.s 16) (.s 17) 10), .i (.ldh 19 (.s 18) 10 true),qm 20 1,qm 21 5, .i (.iad 22 (.s 20) (.s 21) 10), .i (.ldh 23 (.s 22) 10 true), .i (.call 25 32 false [(.s 19),(.s 23)]), .i (.not 25 (.s 24))]) (.cond (.s 25) (.seq (.ops [.i (.mov 4 (qb false))]) .ret) .skip)))) (.ops [.i (.bin 26 .add (.s 13) (qi 1)),qm 13 26]))))))) (.seq (.ops [.i (.mov 4 (qb true))]) .ret))))⟩
theorem y0:cd lJ=some lv:=by kernel_rfl
theorem xE (a b:List Head) (ha:tA a) (hb:tA b):VC cd lJ (aD [(false,[.sl (et a)]),(false,[.sl (et b)])]) (fun rs _=>rs=bl (ek a b)):=by
 obtain⟨w1,w2⟩:=ha
 obtain⟨w3,w4⟩:=hb
 simp only[Sz]at w1 w3
 refine aa y0 rfl ?_
 simp(disch:=omega) [lv,b7,VY]
 refine ab (fun h1=> ?_) (fun h1=> ?_)
 case refine_2=>
  have hn:ek a b=false:=jB (fun e=>h1 (by omega))
  simp(disch:=omega) [h1,hn,VY]
 simp(disch:=omega) [h1,b7,VY]
 refine bo (σ:=Nat) (f1:=_) (es0:=_) (by simp(disch:=omega) [VY];rfl) (by simp(disch:=omega) [VY];rfl) (fun i=> [(13, .val false [.int .i64 (i:Int)])]) (fun _=> []) (fun i g=>g+i=b.length∧∀j,j < i→(hi:j < a.length)→(hj:j < b.length)→ee a[j] b[j]=true) 0 b.length (by simp(disch:=omega) [h1,VY]) (by simp(disch:=omega) [VY]) ⟨by omega,fun j hj=>by omega⟩ ?_
 rintro i n g ⟨hg,hd⟩ P hP
 simp(disch:=omega) [h1,VY]
 refine ab (fun h2=> ?_) (fun h2=> ?_)
 ·have hi:i < a.length:=by omega
  have hj:i < b.length:=by omega
  simp(disch:=omega) [eQ hi,eQ hj,Head.c,VY]
  refine ao (gD a[i] b[i] (w2 _ (List.getElem_mem hi)) (w4 _ (List.getElem_mem hj))) ?_ (ha:=by first|rfl|(simp[Head.c,VY] <;>repeat' constructor))
  simp(disch:=omega) [VY]
  refine ak (fun h3=> ?_) (fun h3=> ?_)
  ·simp(disch:=omega) [h3,VY]
   exact hP (i+1) (g - 1) _ _ (by omega) ⟨by omega,x6 hd h3⟩ (by simp(disch:=omega) [VY]) (by simp(disch:=omega) [VY])
  ·simp(disch:=omega) [h3,show ek a b=false from gF hi hj h3,VY]
 ·have he:ek a b=true:=jy (by omega) (fun i h hi hj=>hd i (by omega) hi hj)
  simp(disch:=omega) [he,VY]
abbrev lQ:Nat:=42
def lr:AF:=⟨2,5,[.tmp 4],(.seq (.ops [.i (.lbox 2 (.s 0)), .i (.lbox 3 (.s 1)), .i (.mov 4 (qb false))]) (.seq (.ops [qf 5 2 0,ql 6 2 5 1 false,qf 7 3 0,ql 8 3 7 1 false, .i (.call 10 124 false [(.s 6),(.s 8)]),qm 10 9, .g 10 true 12 (.fad 11 (.s 2) 1), .g 10 true 13 (.ldl 12 2 (.s 11) 5 true), .g 10 true 14 (.fad 13 (.s 3) 1), .g 10 true 15 (.ldl 14 3 (.s 13) 5 true), .g 10 true 16 (.call 16 29 false [(.s 12),(.s 14)]), .i (.pick 16 (.s 10) (.s 15) (qb false)),qm 4 16]) .ret))⟩
theorem yK:cd lQ=some lr:=by kernel_rfl
theorem wz (a b:Proof) (ha:a.wf) (hb:b.wf):VC cd lQ (aD [(true,a.c),(true,b.c)]) (fun rs _=>rs=bl (ep a b)):=by
 refine aa yK rfl ?_
 simp(disch:=omega) [lr,Proof.c,VY]
 refine ao (xE a.heads b.heads ha.1 hb.1) ?_
 simp(disch:=omega) [VY]
 refine ak (fun h1=> ?_) (fun h1=> ?_) <;>simp(disch:=omega) [h1,ep,VY]
 refine ao (iQ a.qc b.qc ha.2 hb.2) ?_ (ha:=by first|rfl|(simp[Qc.c,VY] <;>repeat' constructor))
 simp(disch:=omega) [h1,VY]
abbrev lU:Nat:=303
def lL:AF:=⟨2,6,[.tmp 4],(.seq (.ops [.i (.lbox 2 (.s 0)), .i (.lbox 3 (.s 1)), .i (.mov 4 (qb false))]) (.seq (.seq (.ops [qf 6 2 0,ql 7 2 6 1 false,qn 8 7,qf 9 3 0,ql 10 3 9 1 false,qn 11 10,qd 12 .neq 8 11]) (.cond (.s 12) (.seq (.ops [.i (.mov 4 (qb false))]) .ret) .skip)) (.seq (.seq (.ops [qf 13 2 0,ql 14 2 13 1 false,qn 15 14, .i (.mov 16 (qi 0))]) (.block 0 (.loop [31,30,29,28,27,26,25,24,23,22,21,20,19,18,17,5] (.seq (.ops [qd 17 .lss 16 15]) (.seq (.cond (.s 17) .skip (.exit 0)) (.seq (.block 1 (.seq (.ops [qm 18 16,qm 5 18]) (.seq (.ops [qf 19 2 0,ql 20 2 19 1 false,qm 21 5, .i (.iad 22 (.s 20) (.s 21) 10), .i (.ldh 23 (.s 22) 10 true),qf 24 3 0,ql 25 3 24 1 false,qm 26 5, .i (.iad 27 (.s 25) (.s 26) 10), .i (.ldh 28 (.s 27) 10 true), .i (.call 30 300 false [(.s 23),(.s 28)]), .i (.not 30 (.s 29))]) (.cond (.s 30) (.seq (.ops [.i (.mov 4 (qb false))]) .ret) .skip)))) (.ops [.i (.bin 31 .add (.s 16) (qi 1)),qm 16 31]))))))) (.seq (.ops [qf 32 2 1,ql 33 2 32 5 true,qf 34 3 1,ql 35 3 34 5 true, .i (.call 37 299 false [(.s 33),(.s 35)]),qm 4 36]) .ret))))⟩
theorem zr:cd lU=some lL:=by kernel_rfl
theorem wN (a b:Proof) (ha:a.wf) (hb:b.wf):VC cd lU (aD [(true,a.c),(true,b.c)]) (fun rs _=>rs=bl (ep a b)):=by
 obtain⟨⟨w1,w2⟩,wa⟩:=ha
 obtain⟨⟨w3,w4⟩,wb⟩:=hb
 simp only[Sz]at w1 w3
 refine aa zr rfl ?_
 simp(disch:=omega) [lL,Proof.c,b7,VY]
 refine ab (fun h1=> ?_) (fun h1=> ?_)
 case refine_2=>
  have hn:ek a.heads b.heads=false:=jB (fun e=>h1 (by omega))
  simp(disch:=omega) [h1,hn,ep,VY]
 simp(disch:=omega) [h1,b7,VY]
 refine bo (σ:=Nat) (f1:=_) (es0:=_) (by simp(disch:=omega) [VY];rfl) (by simp(disch:=omega) [VY];rfl) (fun i=> [(16, .val false [.int .i64 (i:Int)])]) (fun _=> []) (fun i g=>g+i=b.heads.length∧∀j,j < i→(hi:j < a.heads.length)→(hj:j < b.heads.length)→ee a.heads[j] b.heads[j]=true) 0 b.heads.length (by simp(disch:=omega) [h1,VY]) (by simp(disch:=omega) [VY]) ⟨by omega,fun j hj=>by omega⟩ ?_
 rintro i n g ⟨hg,hd⟩ P hP
 simp(disch:=omega) [h1,VY]
 refine ab (fun h2=> ?_) (fun h2=> ?_)
 ·have hi:i < a.heads.length:=by omega
  have hj:i < b.heads.length:=by omega
  simp(disch:=omega) [eQ hi,eQ hj,Head.c,VY]
  refine ao (gE a.heads[i] b.heads[i] (w2 _ (List.getElem_mem hi)) (w4 _ (List.getElem_mem hj))) ?_ (ha:=by first|rfl|(simp[Head.c,VY] <;>repeat' constructor))
  simp(disch:=omega) [VY]
  refine ak (fun h3=> ?_) (fun h3=> ?_)
  ·simp(disch:=omega) [h3,VY]
   exact hP (i+1) (g - 1) _ _ (by omega) ⟨by omega,x6 hd h3⟩ (by simp(disch:=omega) [VY]) (by simp(disch:=omega) [VY])
  ·simp(disch:=omega) [h3,show ek a.heads b.heads=false from gF hi hj h3,ep,VY]
 ·have he:ek a.heads b.heads=true:=jy (by omega) (fun i h hi hj=>hd i (by omega) hi hj)
  simp(disch:=omega) [VY]
  refine ao (jc a.qc b.qc wa wb) ?_ (ha:=by first|rfl|(simp[Qc.c,VY] <;>repeat' constructor))
  simp(disch:=omega) [he,ep,VY]
def cS (a b:Entry):Bool:=decide (a.who=b.who) && decide (a.high=b.high) && decide (a.tag=b.tag)
def fe (a b:Tc):Bool:=decide (a.view=b.view) && da cS a.entries b.entries
abbrev kI:Nat:=120
def ku:AF:=⟨2,5,[.tmp 4],(.seq (.ops [.i (.lbox 2 (.s 0)), .i (.lbox 3 (.s 1)), .i (.mov 4 (qb false))]) (.seq (.ops [qf 5 2 0,ql 6 2 5 1 false,qf 7 3 0,ql 8 3 7 1 false,qd 9 .eql 6 8,qm 10 9, .g 10 true 12 (.fad 11 (.s 2) 1), .g 10 true 13 (.ldl 12 2 (.s 11) 1 false), .g 10 true 14 (.fad 13 (.s 3) 1), .g 10 true 15 (.ldl 14 3 (.s 13) 1 false), .g 10 true 16 (.bin 15 .eql (.s 12) (.s 14)), .i (.pick 16 (.s 10) (.s 15) (qb false)),qm 17 16, .g 17 true 19 (.fad 18 (.s 2) 2), .g 17 true 20 (.ldl 19 2 (.s 18) 1 false), .g 17 true 21 (.fad 20 (.s 3) 2), .g 17 true 22 (.ldl 21 3 (.s 20) 1 false), .g 17 true 23 (.call 23 21 false [(.s 19),(.s 21)]), .i (.pick 23 (.s 17) (.s 22) (qb false)),qm 4 23]) .ret))⟩
theorem y6:cd kI=some ku:=by kernel_rfl
theorem wF (a b:Entry):VC cd kI (aD [(true,a.c),(true,b.c)]) (fun rs _=>rs=bl (cS a b)):=by
 refine aa y6 rfl ?_
 simp(disch:=omega) [ku,Entry.c,VY]
 refine ab (fun h1=> ?_) (fun h1=> ?_) <;>simp(disch:=omega) [h1,cS,VY]
 refine ab (fun h2=> ?_) (fun h2=> ?_) <;>simp(disch:=omega) [h1,h2,VY]
 refine ao (aM a.tag b.tag) ?_
 simp(disch:=omega) [h1,h2,VY]
abbrev tW:Nat:=39
def vF:AF:=⟨2,6,[.tmp 4],(.seq (.ops [.i (.lbox 2 (.s 0)), .i (.lbox 3 (.s 1)), .i (.mov 4 (qb false))]) (.seq (.seq (.ops [qf 6 2 0,ql 7 2 6 1 false,qf 8 3 0,ql 9 3 8 1 false,qd 10 .neq 7 9,qm 11 10, .g 11 false 13 (.fad 12 (.s 2) 1), .g 11 false 14 (.ldl 13 2 (.s 12) 1 false), .g 11 false 15 (.len 14 false (.s 13)), .g 11 false 16 (.fad 15 (.s 3) 1), .g 11 false 17 (.ldl 16 3 (.s 15) 1 false), .g 11 false 18 (.len 17 false (.s 16)), .g 11 false 19 (.bin 18 .neq (.s 14) (.s 17)), .i (.pick 19 (.s 11) (qb true) (.s 18))]) (.cond (.s 19) (.seq (.ops [.i (.mov 4 (qb false))]) .ret) .skip)) (.seq (.seq (.ops [qf 20 2 1,ql 21 2 20 1 false,qn 22 21, .i (.mov 23 (qi 0))]) (.block 0 (.loop [38,37,36,35,34,33,32,31,30,29,28,27,26,25,24,5] (.seq (.ops [qd 24 .lss 23 22]) (.seq (.cond (.s 24) .skip (.exit 0)) (.seq (.block 1 (.seq (.ops [qm 25 23,qm 5 25]) (.seq (.ops [qf 26 2 1,ql 27 2 26 1 false,qm 28 5, .i (.iad 29 (.s 27) (.s 28) 3), .i (.ldh 30 (.s 29) 3 true),qf 31 3 1,ql 32 3 31 1 false,qm 33 5, .i (.iad 34 (.s 32) (.s 33) 3), .i (.ldh 35 (.s 34) 3 true), .i (.call 37 120 false [(.s 30),(.s 35)]), .i (.not 37 (.s 36))]) (.cond (.s 37) (.seq (.ops [.i (.mov 4 (qb false))]) .ret) .skip)))) (.ops [.i (.bin 38 .add (.s 23) (qi 1)),qm 23 38]))))))) (.seq (.ops [.i (.mov 4 (qb true))]) .ret))))⟩
theorem EM:cd tW=some vF:=by kernel_rfl
theorem CZ (a b:Tc) (ha:a.wf) (hb:b.wf):VC cd tW (aD [(true,a.c),(true,b.c)]) (fun rs _=>rs=bl (fe a b)):=by
 have w1:=ha.2.1
 have w3:=hb.2.1
 simp only[Sz]at w1 w3
 refine aa EM rfl ?_
 simp(disch:=omega) [vF,Tc.c,bV,VY]
 refine ab (fun h0=> ?_) (fun h0=> ?_)
 case refine_2=>simp(disch:=omega) [h0,fe,VY]
 simp(disch:=omega) [h0,bV,VY]
 refine ab (fun h1=> ?_) (fun h1=> ?_)
 case refine_2=>
  have hn:da cS a.entries b.entries=false:=jB (fun e=>h1 (by omega))
  simp(disch:=omega) [h0,h1,hn,fe,VY]
 simp(disch:=omega) [h0,h1,bV,VY]
 refine bo (σ:=Nat) (f1:=_) (es0:=_) (by simp(disch:=omega) [VY];rfl) (by simp(disch:=omega) [VY];rfl) (fun i=> [(23, .val false [.int .i64 (i:Int)])]) (fun _=> []) (fun i g=>g+i=b.entries.length∧∀j,j < i→(hi:j < a.entries.length)→(hj:j < b.entries.length)→cS a.entries[j] b.entries[j]=true) 0 b.entries.length (by simp(disch:=omega) [h1,VY]) (by simp(disch:=omega) [VY]) ⟨by omega,fun j hj=>by omega⟩ ?_
 rintro i n g ⟨hg,hd⟩ P hP
 simp(disch:=omega) [h1,VY]
 refine ab (fun h2=> ?_) (fun h2=> ?_)
 ·have hi:i < a.entries.length:=by omega
  have hj:i < b.entries.length:=by omega
  simp(disch:=omega) [dT hi,dT hj,VY]
  refine ao (wF a.entries[i] b.entries[i]) ?_ (ha:=by first|rfl|(simp[Entry.c,VY] <;>repeat' constructor))
  simp(disch:=omega) [VY]
  refine ak (fun h3=> ?_) (fun h3=> ?_)
  ·simp(disch:=omega) [h3,VY]
   exact hP (i+1) (g - 1) _ _ (by omega) ⟨by omega,x6 hd h3⟩ (by simp(disch:=omega) [VY]) (by simp(disch:=omega) [VY])
  ·simp(disch:=omega) [h3,show da cS a.entries b.entries=false from gF hi hj h3,fe,h0,VY]
 ·have he:da cS a.entries b.entries=true:=jy (by omega) (fun i h hi hj=>hd i (by omega) hi hj)
  simp(disch:=omega) [he,h0,fe,VY]
abbrev ux:Nat:=302
def uR:AF:=⟨2,6,[.tmp 4],(.seq (.ops [.i (.lbox 2 (.s 0)), .i (.lbox 3 (.s 1)), .i (.mov 4 (qb false))]) (.seq (.seq (.ops [qf 8 2 0,ql 9 2 8 1 false,qf 10 3 0,ql 11 3 10 1 false,qd 12 .neq 9 11,qm 13 12, .g 13 false 15 (.fad 14 (.s 2) 1), .g 13 false 16 (.ldl 15 2 (.s 14) 1 false), .g 13 false 17 (.len 16 false (.s 15)), .g 13 false 18 (.fad 17 (.s 3) 1), .g 13 false 19 (.ldl 18 3 (.s 17) 1 false), .g 13 false 20 (.len 19 false (.s 18)), .g 13 false 21 (.bin 20 .neq (.s 16) (.s 19)), .i (.pick 21 (.s 13) (qb true) (.s 20))]) (.cond (.s 21) (.seq (.ops [.i (.mov 4 (qb false))]) .ret) .skip)) (.seq (.seq (.ops [qf 22 2 1,ql 23 2 22 1 false,qn 24 23, .i (.mov 25 (qi 0))]) (.block 0 (.loop [55,54,53,52,51,50,49,48,47,46,45,44,43,42,41,40,39,38,37,36,35,34,33,32,31,30,29,28,27,26,7,6,5] (.seq (.ops [qd 26 .lss 25 24]) (.seq (.cond (.s 26) .skip (.exit 0)) (.seq (.block 1 (.seq (.ops [qm 27 25, .i (.iad 28 (.s 23) (.s 25) 3), .i (.ldh 29 (.s 28) 3 true), .i (.lal 6 [.int .i64 0, .int .i64 0, .nils]),qm 5 27,qs 6 6 29 3]) (.seq (.ops [qf 30 3 1,ql 31 3 30 1 false,qm 32 5, .i (.iad 33 (.s 31) (.s 32) 3), .i (.ldh 34 (.s 33) 3 true), .i (.lal 7 [.int .i64 0, .int .i64 0, .nils]),qs 7 7 34 3]) (.seq (.ops [qf 35 6 0,ql 36 6 35 1 false,qf 37 7 0,ql 38 7 37 1 false,qd 39 .neq 36 38,qm 40 39, .g 40 false 42 (.fad 41 (.s 6) 1), .g 40 false 43 (.ldl 42 6 (.s 41) 1 false), .g 40 false 44 (.fad 43 (.s 7) 1), .g 40 false 45 (.ldl 44 7 (.s 43) 1 false), .g 40 false 46 (.bin 45 .neq (.s 42) (.s 44)), .i (.pick 46 (.s 40) (qb true) (.s 45)),qm 47 46, .g 47 false 49 (.fad 48 (.s 6) 2), .g 47 false 50 (.ldl 49 6 (.s 48) 1 false), .g 47 false 51 (.fad 50 (.s 7) 2), .g 47 false 52 (.ldl 51 7 (.s 50) 1 false), .g 47 false 53 (.call 53 329 false [(.s 49),(.s 51)]), .g 47 false 54 (.not 53 (.s 52)), .i (.pick 54 (.s 47) (qb true) (.s 53))]) (.cond (.s 54) (.seq (.ops [.i (.mov 4 (qb false))]) .ret) .skip))))) (.ops [.i (.bin 55 .add (.s 25) (qi 1)),qm 25 55]))))))) (.seq (.ops [.i (.mov 4 (qb true))]) .ret))))⟩
theorem Ep:cd ux=some uR:=by kernel_rfl
theorem Dd (a b:Tc) (ha:a.wf) (hb:b.wf):VC cd ux (aD [(true,a.c),(true,b.c)]) (fun rs _=>rs=bl (fe a b)):=by
 have w1:=ha.2.1
 have w3:=hb.2.1
 simp only[Sz]at w1 w3
 refine aa Ep rfl ?_
 simp(disch:=omega) [uR,Tc.c,bV,VY]
 refine ab (fun h0=> ?_) (fun h0=> ?_)
 case refine_2=>simp(disch:=omega) [h0,fe,VY]
 simp(disch:=omega) [h0,bV,VY]
 refine ab (fun h1=> ?_) (fun h1=> ?_)
 case refine_2=>
  have hn:da cS a.entries b.entries=false:=jB (fun e=>h1 (by omega))
  simp(disch:=omega) [h0,h1,hn,fe,VY]
 simp(disch:=omega) [h0,h1,bV,VY]
 refine bo (σ:=Nat) (f1:=_) (es0:=_) (by simp(disch:=omega) [VY];rfl) (by simp(disch:=omega) [VY];rfl) (fun i=> [(25, .val false [.int .i64 (i:Int)])]) (fun _=> []) (fun i g=>g+i=b.entries.length∧∀j,j < i→(hi:j < a.entries.length)→(hj:j < b.entries.length)→cS a.entries[j] b.entries[j]=true) 0 b.entries.length (by simp(disch:=omega) [h1,VY]) (by simp(disch:=omega) [VY]) ⟨by omega,fun j hj=>by omega⟩ ?_
 rintro i n g ⟨hg,hd⟩ P hP
 simp(disch:=omega) [h1,VY]
 refine ab (fun h2=> ?_) (fun h2=> ?_)
 ·have hi:i < a.entries.length:=by omega
  have hj:i < b.entries.length:=by omega
  simp(disch:=omega) [dT hi,dT hj,VY]
  refine ab (fun h3=> ?_) (fun h3=> ?_)
  case refine_2=>
   have hn:da cS a.entries b.entries=false:=gF hi hj (by simp[cS,h3])
   simp(disch:=omega) [h3,hn,fe,h0,VY]
  simp(disch:=omega) [h3,VY]
  refine ab (fun h4=> ?_) (fun h4=> ?_)
  case refine_2=>
   have hn:da cS a.entries b.entries=false:=gF hi hj (by simp[cS,h4])
   simp(disch:=omega) [h3,h4,hn,fe,h0,VY]
  simp(disch:=omega) [h3,h4,VY]
  refine ao (bc a.entries[i].tag b.entries[i].tag) ?_
  simp(disch:=omega) [h3,h4,VY]
  refine ab (fun h5=> ?_) (fun h5=> ?_)
  ·simp(disch:=omega) [h3,h4,h5,VY]
   exact hP (i+1) (g - 1) _ _ (by omega) ⟨by omega,x6 hd (hi:=hi) (hj:=hj) (by simp[cS,h3,h4,h5])⟩ (by simp(disch:=omega) [VY]) (by simp(disch:=omega) [VY])
  ·have hn:da cS a.entries b.entries=false:=gF hi hj (by simp[cS,h5])
   simp(disch:=omega) [h3,h4,h5,hn,fe,h0,VY]
 ·have he:da cS a.entries b.entries=true:=jy (by omega) (fun i h hi hj=>hd i (by omega) hi hj)
  simp(disch:=omega) [he,h0,fe,VY]
end Go.Eng.F
