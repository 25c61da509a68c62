import Derived.Test.YtanfobggenpcaaaGreatGf
set_option maxRecDepth 100000
set_option linter.unusedSimpArgs false
set_option linter.unusedVariables false
namespace Go.Eng.F
open Go.Eng.U (Fi df cO fZ BU iN pk wN)
structure Row where
 weight:Int
 key:Bytes
def Row.c (r:Row):List D:= [.int .i64 r.weight, .sl (bytes r.key)]
def Row.wf (r:Row):Prop:=mq r.weight∧Sz r.key.length
structure Table where
 rows:List Row
def rws (l:List Row):List (List D):=l.map Row.c
def Table.c (t:Table):List D:= [.sl (rws t.rows)]
def Table.wf (t:Table):Prop:=Sz t.rows.length∧∀r∈t.rows,r.wf
def Row.tv (x:Row):Tv:= .r [.i x.weight,A9 x.key]
theorem Row.enc (x:Row):enc BU x.tv=x.c:=by simp only[Row.tv,eh,bW,cG,d7,eK,iF,f7,dZ,fU,Row.c,List.cons_append,List.nil_append,List.append_assoc]
theorem Row.ex {v:Tv} (h:aG BU v):∃x:Row,v=x.tv:=by
 obtain⟨vs,rfl,h⟩:=h.st
 obtain⟨v0,_,rfl,h0,h⟩:=h.step
 obtain⟨v1,_,rfl,h1,h⟩:=h.step
 obtain rfl:=h.fin
 obtain⟨n0,rfl,_⟩:=h0.int
 obtain⟨n1,rfl⟩:=f8 h1
 exact⟨⟨n0,n1⟩,rfl⟩
theorem Row.of {x:Row} (h:aG BU x.tv) (hw:wt x.tv≤1048576):x.wf:=by
 simp only[Row.tv,fY,cH]at h
 simp only[Row.tv,wt,xN]at hw
 obtain⟨h0,h1,_⟩:=h
 exact⟨dz (ok_int.1 h0),rB (by omega)⟩
def GS (l:List Row):Tv:= .l (l.map Row.tv)
theorem MG (l:List Row):enc (.sl BU) (GS l)= [.sl (rws l)]:=by
 simp only[GS,Ed,List.map_map,rws]
 congr 2
 exact List.map_congr_left fun x _=>Row.enc x
theorem Mz {v:Tv} (h:aG (.sl BU) v):∃l,v=GS l:=by
 obtain⟨xs,rfl,_,h2⟩:=h.sl
 obtain⟨ys,rfl⟩:=qx (f:=Row.tv) (P:=aG BU) (fun v hv=>Row.ex hv) h2
 exact⟨ys,rfl⟩
theorem NR {l:List Row} (h:aG (.sl BU) (GS l)) (hw:wt (GS l)≤1048576):Sz l.length∧∀x∈l,x.wf:=by
 unfold GS at h hw
 rw[JZ]at hw
 have h2:=(Kt.1 h).2
 simp only[List.length_map]at hw
 refine⟨by unfold Sz;omega,fun x hx=>Row.of (h2 _ (List.mem_map_of_mem hx)) ?_⟩
 have:=tE (f:=Row.tv) hx
 omega
def Table.tv (x:Table):Tv:= .r [GS x.rows]
theorem Table.enc (x:Table):enc iN x.tv=x.c:=by simp only[Table.tv,MG,eh,bW,cG,d7,eK,iF,f7,dZ,fU,Table.c,List.cons_append,List.nil_append,List.append_assoc]
theorem Table.ex {v:Tv} (h:aG iN v):∃x:Table,v=x.tv:=by
 obtain⟨vs,rfl,h⟩:=h.st
 obtain⟨v0,_,rfl,h0,h⟩:=h.step
 obtain rfl:=h.fin
 obtain⟨n0,rfl⟩:=Mz h0
 exact⟨⟨n0⟩,rfl⟩
theorem Table.of {x:Table} (h:aG iN x.tv) (hw:wt x.tv≤1048576):x.wf:=by
 simp only[Table.tv,fY,cH]at h
 simp only[Table.tv,wt,xN]at hw
 obtain⟨h0,_⟩:=h
 exact NR h0 (by omega)
end Go.Eng.F
namespace Go.Eng.F
theorem Ak (n:Nat):List.replicate n [D.int .u8 0]=bytes (List.replicate n 0):=by simp[bytes]
theorem uF {b:Bytes} (h:hash b=true):b.length=32:=by simpa[hash]using h
theorem eX {n a b:Int} (h:cw n a b=true):a≤n∧n≤b:=by simpa[cw]using h
end Go.Eng.F
namespace Go.Eng.F
def ct (c:Nat):Nat:=if c % 2=1 then(c / 2) ^^^ 3988292384 else c / 2
def Ba:Nat→Nat→Nat
 |0,c=>c
 |n+1,c=>ct (Ba n c)
def kb (c:Nat) (b:Bytes):Nat:=b.foldl (fun c x=>Ba 8 (c ^^^ x.toNat)) c
def tp (c:Nat) (b:Bytes):Nat:=kb (c ^^^ 4294967295) b ^^^ 4294967295
def JO (b:Bytes):Nat:=tp 0 b
theorem Pf {c:Nat} (h:c < 4294967296):ct c < 4294967296:=by
 unfold ct
 split
 ·exact Nat.xor_lt_two_pow (n:=32) (by omega) (by omega)
 ·omega
theorem DE {c:Nat} (h:c < 4294967296):∀n,Ba n c < 4294967296
 |0=>h
 |n+1=>Pf (DE h n)
theorem Db {a b:Nat} (ha:a < 4294967296) (hb:b < 4294967296):ay .xor .i64 (a:Int) (b:Int)=((a ^^^ b:Nat):Int):=by
 have h:=Nat.xor_lt_two_pow (n:=32) (x:=a) (y:=b) (by omega) (by omega)
 show IntKind.i64.wrap ((BitVec.ofInt 64 (a:Int) ^^^ BitVec.ofInt 64 (b:Int)).toNat:Int)=_
 rw[BitVec.toNat_xor,show BitVec.ofInt 64 (a:Int)=BitVec.ofNat 64 a from rfl,show BitVec.ofInt 64 (b:Int)=BitVec.ofNat 64 b from rfl,BitVec.toNat_ofNat,BitVec.toNat_ofNat,Nat.mod_eq_of_lt (by omega),Nat.mod_eq_of_lt (by omega)]
 exact sO (by omega) (by omega)
theorem Cj {x y:Int} {a b:Nat} (hx:x=(a:Int)) (hy:y=(b:Int)) (ha:a < 4294967296) (hb:b < 4294967296):ay .xor .i64 x y=((a ^^^ b:Nat):Int):=by
 rw[hx,hy]
 exact Db ha hb
theorem vV {a b:Nat} (ha:a < 4294967296) (hb:b < 4294967296):a ^^^ b < 4294967296:=Nat.xor_lt_two_pow (n:=32) (by omega) (by omega)
theorem Lw {c:Nat} (h:c < 4294967296):ay .and .i64 (c:Int) 1=((c % 2:Nat):Int):=by
 show IntKind.i64.wrap ((BitVec.ofInt 64 (c:Int) &&& BitVec.ofInt 64 1).toNat:Int)=_
 rw[BitVec.toNat_and,show BitVec.ofInt 64 (c:Int)=BitVec.ofNat 64 c from rfl,BitVec.toNat_ofNat,Nat.mod_eq_of_lt (by omega),show(BitVec.ofInt 64 1).toNat=2 ^ 1 - 1 from rfl,Nat.and_two_pow_sub_one_eq_mod]
 exact sO (by omega) (by omega)
theorem HW {c:Nat} (h:c < 4294967296):word (c:Int)=true:=by rw[tO];omega
abbrev r7:Nat:=332
def rl:AF:=⟨1,3,[.tmp 2],(.seq (.ops [.i (.mov 2 (qb false))]) (.seq (.ops [qm 3 0, .i (.call 5 221 false [(.s 3),(qi 0),(qi 4294967295)]),qm 2 4]) .ret))⟩
theorem Bb:cd r7=some rl:=by kernel_rfl
theorem Ix (x:Int):VC cd r7 (aH [(false,[.int .i64 x])]) (fun rs _=>rs=bl (word x)):=by
 refine aa Bb rfl ?_
 simp(disch:=omega) [rl,VY]
 refine ah (bK _ _ _) rfl rfl ?_
 simp(disch:=omega) [word,VY]
abbrev pN:Nat:=333
def nz:AF:=⟨1,4,[.tmp 2],(.seq (.ops [.i (.mov 2 (qi 0))]) (.seq (.seq (.ops [qm 3 0, .i (.bin 4 .rem (.s 3) (qi 2)), .i (.bin 5 .eql (.s 4) (qi 1))]) (.cond (.s 5) (.seq (.ops [qm 6 0, .i (.bin 7 .quo (.s 6) (qi 2)), .i (.bin 8 .xor (.s 7) (qi 3988292384)),qm 2 8]) .ret) .skip)) (.seq (.ops [qm 9 0, .i (.bin 10 .quo (.s 9) (qi 2)),qm 2 10]) .ret)))⟩
theorem A0:cd pN=some nz:=by kernel_rfl
theorem GF (c:Nat) (h:c < 4294967296):VC cd pN (aH [(false,[.int .i64 (c:Int)])]) (fun rs _=>rs=it (ct c)):=by
 have e1:Int.tmod (c:Int) 2=(c:Int) % 2:=Int.tmod_eq_emod_of_nonneg (by omega)
 have e2:Int.tdiv (c:Int) 2=(c:Int) / 2:=Int.tdiv_eq_ediv_of_nonneg (by omega)
 have e3:ay .xor .i64 ((c:Int) / 2) 3988292384=((c / 2 ^^^ 3988292384:Nat):Int):=Cj (by omega) rfl (by omega) (by omega)
 have e4:=vV (a:=c / 2) (b:=3988292384) (by omega) (by omega)
 refine aa A0 rfl ?_
 simp(disch:=omega) [nz,e1,VY]
 refine ab (fun h1=> ?_) (fun h1=> ?_)
 ·have:c % 2=1:=by omega
  simp(disch:=omega) [e2,e3,ct,this,VY]
 ·have:¬c % 2=1:=by omega
  simp(disch:=omega) [e2,ct,this,VY]
abbrev uX:Nat:=306
def uh:AF:=⟨1,5,[.tmp 2],(.seq (.ops [.i (.mov 2 (qi 0))]) (.seq (.seq (.ops [.i (.mov 4 (qi 0))]) (.block 0 (.loop [14,13,12,11,10,9,8,7,6,5,3] (.seq (.ops [.i (.bin 5 .lss (.s 4) (qi 8))]) (.seq (.cond (.s 5) .skip (.exit 0)) (.seq (.block 1 (.seq (.ops [qm 6 0, .i (.bin 7 .and (.s 6) (qi 1)),qm 3 7]) (.seq (.ops [qm 8 0, .i (.bin 9 .shr (.s 8) (.c (.val false [.int .u64 1]))),qm 0 9]) (.seq (.ops [qm 10 3, .i (.bin 11 .eql (.s 10) (qi 1))]) (.cond (.s 11) (.ops [qm 12 0, .i (.bin 13 .xor (.s 12) (qi 3988292384)),qm 0 13]) .skip))))) (.ops [.i (.bin 14 .add (.s 4) (qi 1)),qm 4 14]))))))) (.seq (.ops [qm 15 0,qm 2 15]) .ret)))⟩
theorem C1:cd uX=some uh:=by kernel_rfl
theorem Kr (c:Nat) (h:c < 4294967296):VC cd uX (aH [(false,[.int .i64 (c:Int)])]) (fun rs _=>rs=it (Ba 8 c)):=by
 refine aa C1 rfl ?_
 simp(disch:=omega) [uh,VY]
 refine bH (σ:=Nat) (f1:=_) (es0:=_) (by simp(disch:=omega) [VY];rfl) (by simp(disch:=omega) [VY];rfl) (fun i=> [(0, .val false [.int .i64 (Ba i c:Int)]),(4, .val false [.int .i64 (i:Int)])]) (fun _=> []) (fun i g=>g+i=8) 0 8 (by simp(disch:=omega) [Ba,VY]) (by simp(disch:=omega) [VY]) (by omega) ?_
 rintro i n g hg P hP
 simp(disch:=omega) [VY]
 refine ab (fun h1=> ?_) (fun h1=> ?_)
 ·have hl:=DE h i
  have e0:ay .and .i64 (Ba i c:Int) 1=(Ba i c:Int) % 2:=(Lw hl).trans (by omega)
  have e1:Int.fdiv (Ba i c:Int) 2=(Ba i c:Int) / 2:=Int.fdiv_eq_ediv_of_nonneg _ (by omega)
  have e3:ay .xor .i64 ((Ba i c:Int) / 2) 3988292384=((Ba i c / 2 ^^^ 3988292384:Nat):Int):=Cj (by omega) rfl (by omega) (by omega)
  simp(disch:=omega) [e0,e1,e3,IntKind.bits,VY]
  refine ab (fun h2=> ?_) (fun h2=> ?_)
  ·have h3:Ba i c % 2=1:=by omega
   simp(disch:=omega) [e3,VY]
   exact hP (i+1) (g - 1) _ _ (by omega) (by omega) (by simp(disch:=omega) [Ba,ct,h3,e3,VY]) (by simp(disch:=omega) [VY])
  ·have h3:¬Ba i c % 2=1:=by omega
   simp(disch:=omega) [VY]
   exact hP (i+1) (g - 1) _ _ (by omega) (by omega) (by simp(disch:=omega) [Ba,ct,h3,VY]) (by simp(disch:=omega) [VY])
 ·have:i=8:=by omega
  subst this
  simp(disch:=omega) [VY]
theorem tM (b:Bytes):∀ {c:Nat},c < 4294967296→kb c b < 4294967296:=by
 unfold kb
 induction b with
 |nil=>exact fun h=>h
 |cons x r ih=>
  refine fun {c} h=> ?_
  have hx:x.toNat < 4294967296:=by have:=Bp x;omega
  rw[List.foldl_cons]
  exact ih (DE (vV h hx) 8)
theorem IV (b:Bytes) (x:UInt8) (c:Nat):kb c (b++ [x])=Ba 8 (kb c b ^^^ x.toNat):=by
 unfold kb
 rw[List.foldl_append]
 rfl
theorem Cp {b:Bytes} {i:Nat} (h:i < b.length) (c:Nat):kb c (b.take (i+1))=Ba 8 (kb c (b.take i) ^^^ b[i].toNat):=by
 rw[List.take_add_one,List.getElem?_eq_getElem h]
 exact IV _ _ _
abbrev oq:Nat:=256
def pK:AF:=⟨2,5,[.tmp 4],(.seq (.ops [.i (.mov 4 (qi 0))]) (.seq (.seq (.ops [qm 7 0,qk 9 249 7, .i (.not 9 (.s 8))]) (.cond (.s 9) (.seq (.ops [.i (.mov 4 (qi 0))]) .ret) .skip)) (.seq (.ops [qm 10 0, .i (.bin 11 .xor (.s 10) (qi 4294967295)),qm 0 11]) (.seq (.seq (.ops [qm 12 1,qn 13 12, .i (.mov 14 (qi 0))]) (.block 0 (.loop [23,22,21,20,19,18,17,16,15,6] (.seq (.ops [qd 15 .lss 14 13]) (.seq (.cond (.s 15) .skip (.exit 0)) (.seq (.block 1 (.seq (.ops [.i (.iad 16 (.s 12) (.s 14) 1), .i (.ldh 17 (.s 16) 1 false),qm 6 17]) (.ops [qm 18 0,qm 19 6, .i (.cvi 20 .i64 (.s 19)),qd 21 .xor 18 20,qk 23 306 21,qm 0 22]))) (.ops [.i (.bin 23 .add (.s 14) (qi 1)),qm 14 23]))))))) (.seq (.ops [qm 24 0, .i (.bin 25 .xor (.s 24) (qi 4294967295)),qm 4 25]) .ret)))))⟩
theorem yJ:cd oq=some pK:=by kernel_rfl
theorem xF (c:Nat) (b:Bytes) (h:c < 4294967296) (hb:b.length≤1073741824):VC cd oq (aH [(false,[.int .i64 (c:Int)]),(false,[.sl (bytes b)])]) (fun rs _=>rs=it (tp c b)):=by
 have h0:=vV (a:=c) (b:=4294967295) h (by omega)
 have e0:ay .xor .i64 (c:Int) 4294967295=((c ^^^ 4294967295:Nat):Int):=Cj rfl rfl h (by omega)
 refine aa yJ rfl ?_
 simp(disch:=omega) [pK,VY]
 refine ah (va c) rfl rfl ?_
 simp(disch:=omega) [HW h,e0,VY]
 refine bH (σ:=Nat) (f1:=_) (es0:=_) (by simp(disch:=omega) [VY];rfl) (by simp(disch:=omega) [VY];rfl) (fun i=> [(0, .val false [.int .i64 (kb (c ^^^ 4294967295) (b.take i):Int)]),(14, .val false [.int .i64 (i:Int)])]) (fun _=> []) (fun i g=>g+i=b.length) 0 b.length (by simp(disch:=omega) [kb,VY]) (by simp(disch:=omega) [VY]) (by omega) ?_
 rintro i n g hg P hP
 simp(disch:=omega) [VY]
 refine ab (fun h1=> ?_) (fun h1=> ?_)
 ·have hi:i < b.length:=by omega
  have hl:=tM (b.take i) h0
  have hx:=Bp b[i]
  have e1:=sO (n:=(b[i].toNat:Int)) (by omega) (by omega)
  have e2:=Db hl (b:=b[i].toNat) (by omega)
  simp(disch:=omega) [bj hi,e1,e2,VY]
  refine av (Kr (kb (c ^^^ 4294967295) (b.take i) ^^^ b[i].toNat) (vV hl (by omega))) ?_
  simp(disch:=omega) [VY]
  exact hP (i+1) (g - 1) _ _ (by omega) (by omega) (by simp(disch:=omega) [Cp hi,VY]) (by simp(disch:=omega) [VY])
 ·have:i=b.length:=by omega
  subst this
  have hl:=tM b h0
  have e2:ay .xor .i64 (kb (c ^^^ 4294967295) b:Int) 4294967295=((kb (c ^^^ 4294967295) b ^^^ 4294967295:Nat):Int):=Cj rfl rfl hl (by omega)
  simp(disch:=omega) [e2,tp,VY]
abbrev oV:Nat:=293
def og:AF:=⟨2,6,[.tmp 4],(.seq (.ops [.i (.mov 4 (qi 0))]) (.seq (.seq (.ops [qm 9 0,qk 11 332 9, .i (.not 11 (.s 10))]) (.cond (.s 11) (.seq (.ops [.i (.mov 4 (qi 0))]) .ret) .skip)) (.seq (.ops [qm 12 0, .i (.bin 13 .xor (.s 12) (qi 4294967295)),qm 5 13]) (.seq (.seq (.ops [qm 14 1,qn 15 14, .i (.mov 16 (qi 0))]) (.block 0 (.loop [30,29,28,27,26,25,24,23,22,21,20,19,18,17,8,7] (.seq (.ops [qd 17 .lss 16 15]) (.seq (.cond (.s 17) .skip (.exit 0)) (.seq (.block 1 (.seq (.ops [.i (.iad 18 (.s 14) (.s 16) 1), .i (.ldh 19 (.s 18) 1 false),qm 7 19]) (.seq (.ops [qm 20 5,qm 21 7, .i (.cvi 22 .i64 (.s 21)),qd 23 .xor 20 22,qm 5 23]) (.seq (.ops [.i (.mov 8 (qi 0))]) (.block 2 (.loop [29,28,27,26,25,24] (.seq (.seq (.ops [qm 24 8, .i (.bin 25 .lss (.s 24) (qi 8))]) (.cond (.s 25) .skip (.exit 2))) (.seq (.block 3 (.ops [qm 28 5,qk 30 333 28,qm 5 29])) (.ops [qm 26 8, .i (.bin 27 .add (.s 26) (qi 1)),qm 8 27]))))))))) (.ops [.i (.bin 30 .add (.s 16) (qi 1)),qm 16 30]))))))) (.seq (.ops [qm 31 5, .i (.bin 32 .xor (.s 31) (qi 4294967295)),qm 4 32]) .ret)))))⟩
theorem Ae:cd oV=some og:=by kernel_rfl
theorem xT (c:Nat) (b:Bytes) (h:c < 4294967296) (hb:b.length≤1073741824):VC cd oV (aH [(false,[.int .i64 (c:Int)]),(false,[.sl (bytes b)])]) (fun rs _=>rs=it (tp c b)):=by
 have h0:=vV (a:=c) (b:=4294967295) h (by omega)
 have e0:ay .xor .i64 (c:Int) 4294967295=((c ^^^ 4294967295:Nat):Int):=Cj rfl rfl h (by omega)
 refine aa Ae rfl ?_
 simp(disch:=omega) [og,VY]
 refine ah (Ix c) rfl rfl ?_
 simp(disch:=omega) [HW h,e0,VY]
 refine bH (σ:=Nat) (f1:=_) (es0:=_) (by simp(disch:=omega) [VY];rfl) (by simp(disch:=omega) [VY];rfl) (fun i=> [(5, .val false [.int .i64 (kb (c ^^^ 4294967295) (b.take i):Int)]),(16, .val false [.int .i64 (i:Int)])]) (fun _=> []) (fun i g=>g+i=b.length) 0 b.length (by simp(disch:=omega) [kb,VY]) (by simp(disch:=omega) [VY]) (by omega) ?_
 rintro i n g hg P hP
 simp(disch:=omega) [VY]
 refine ab (fun h1=> ?_) (fun h1=> ?_)
 ·have hi:i < b.length:=by omega
  have hl:=tM (b.take i) h0
  have hx:=Bp b[i]
  have e1:=sO (n:=(b[i].toNat:Int)) (by omega) (by omega)
  have e2:=Db hl (b:=b[i].toNat) (by omega)
  have hy:=vV hl (b:=b[i].toNat) (by omega)
  simp(disch:=omega) [bj hi,e1,e2,VY]
  refine bH (σ:=Nat) (f1:=_) (es0:=_) (by simp(disch:=omega) [VY];rfl) (by simp(disch:=omega) [VY];rfl) (fun j=> [(5, .val false [.int .i64 (Ba j (kb (c ^^^ 4294967295) (b.take i) ^^^ b[i].toNat):Int)]),(8, .val false [.int .i64 (j:Int)])]) (fun _=> []) (fun j g=>g+j=8) 0 8 (by simp(disch:=omega) [Ba,VY]) (by simp(disch:=omega) [VY]) (by omega) ?_
  rintro j n2 g2 hg2 P2 hP2
  simp(disch:=omega) [VY]
  refine ab (fun h2=> ?_) (fun h2=> ?_)
  ·simp(disch:=omega) [VY]
   refine av (GF (Ba j (kb (c ^^^ 4294967295) (b.take i) ^^^ b[i].toNat)) (DE hy j)) ?_
   simp(disch:=omega) [VY]
   exact hP2 (j+1) (g2 - 1) _ _ (by omega) (by omega) (by simp(disch:=omega) [Ba,VY]) (by simp(disch:=omega) [VY])
  ·have:j=8:=by omega
   subst this
   simp(disch:=omega) [VY]
   exact hP (i+1) (g - 1) _ _ (by omega) (by omega) (by simp(disch:=omega) [Cp hi,VY]) (by simp(disch:=omega) [VY])
 ·have:i=b.length:=by omega
  subst this
  have hl:=tM b h0
  have e2:ay .xor .i64 (kb (c ^^^ 4294967295) b:Int) 4294967295=((kb (c ^^^ 4294967295) b ^^^ 4294967295:Nat):Int):=Cj rfl rfl hl (by omega)
  simp(disch:=omega) [e2,tp,VY]
abbrev A3:Nat:=182
def zW:AF:=⟨1,3,[.tmp 2],(.seq (.ops [.i (.mov 2 (qi 0))]) (.seq (.ops [qm 3 0, .i (.call 5 256 false [(qi 0),(.s 3)]),qm 2 4]) .ret))⟩
theorem Gl:cd A3=some zW:=by kernel_rfl
theorem EI (b:Bytes) (hb:b.length≤1073741824):VC cd A3 (aH [(false,[.sl (bytes b)])]) (fun rs _=>rs=it (JO b)):=by
 refine aa Gl rfl ?_
 simp(disch:=omega) [zW,VY]
 refine av (xF 0 b (by omega) hb) ?_
 simp(disch:=omega) [JO,VY]
abbrev yU:Nat:=223
def yM:AF:=⟨1,3,[.tmp 2],(.seq (.ops [.i (.mov 2 (qi 0))]) (.seq (.ops [qm 3 0, .i (.call 5 293 false [(qi 0),(.s 3)]),qm 2 4]) .ret))⟩
theorem Gc:cd yU=some yM:=by kernel_rfl
theorem EK (b:Bytes) (hb:b.length≤1073741824):VC cd yU (aH [(false,[.sl (bytes b)])]) (fun rs _=>rs=it (JO b)):=by
 refine aa Gc rfl ?_
 simp(disch:=omega) [yM,VY]
 refine av (xT 0 b (by omega) hb) ?_
 simp(disch:=omega) [JO,VY]
end Go.Eng.F
namespace Go.Eng.F
def fX:Bytes→Nat
 | []=>0
 |x::r=>x.toNat+256 * fX r
theorem DN:∀(b:Bytes),fX b < 256 ^ b.length
 | []=>by simp[fX]
 |x::r=>by
  have h:=DN r
  have hx:=Bp x
  simp only[fX,List.length_cons,Nat.pow_succ]
  omega
theorem Cy (x:UInt8):∀(b:Bytes),fX (b++ [x])=fX b+x.toNat * 256 ^ b.length
 | []=>by simp[fX]
 |y::b=>by
  have h:=Cy x b
  simp only[List.cons_append,fX,List.length_cons,Nat.pow_succ,h]
  have:256 * (fX b+x.toNat * 256 ^ b.length)=256 * fX b+x.toNat * (256 ^ b.length * 256):=by
   rw[Nat.mul_add,Nat.mul_left_comm,Nat.mul_comm 256 (256 ^ b.length)]
  omega
theorem OH (k:Nat):(256:Nat) ^ k=2 ^ (8 * k):=by rw[Nat.pow_mul]
theorem Na {a b k:Nat} (ha:a < 2 ^ k) (hk:2 ^ k∣ b) (hb:b < 2 ^ 56) (hk2:k≤56):ay .or .i64 (a:Int) (b:Int)=((a+b:Nat):Int):=by
 have h2:(2:Nat) ^ k≤2 ^ 56:=Nat.pow_le_pow_right (by omega) hk2
 show IntKind.i64.wrap ((BitVec.ofInt 64 (a:Int)|||BitVec.ofInt 64 (b:Int)).toNat:Int)=_
 rw[BitVec.toNat_or,show BitVec.ofInt 64 (a:Int)=BitVec.ofNat 64 a from rfl,show BitVec.ofInt 64 (b:Int)=BitVec.ofNat 64 b from rfl,BitVec.toNat_ofNat,BitVec.toNat_ofNat,Nat.mod_eq_of_lt (by omega),Nat.mod_eq_of_lt (by omega)]
 obtain⟨q,rfl⟩:=hk
 rw[Nat.or_comm,←Nat.two_pow_add_eq_or_of_lt ha,Nat.add_comm]
 exact sO (by omega) (by omega)
abbrev iO:Nat:=248
def iK:AF:=⟨3,6,[.tmp 6, .tmp 7, .tmp 8],(.seq (.ops [.i (.mov 6 (.c (.val false [.nils]))), .i (.mov 7 (qi 0)), .i (.mov 8 (qi 0))]) (.seq (.seq (.ops [qm 9 1,qm 10 0,qn 11 10, .i (.call 13 158 false [(.s 9),(qi 0),(.s 11)]), .i (.not 13 (.s 12)),qm 14 13, .g 14 false 16 (.mov 15 (.s 2)), .g 14 false 17 (.mov 16 (.s 0)), .g 14 false 18 (.len 17 false (.s 16)), .g 14 false 19 (.mov 18 (.s 1)), .g 14 false 20 (.bin 19 .sub (.s 17) (.s 18)), .g 14 false 21 (.call 21 158 false [(.s 15),(qi 0),(.s 19)]), .g 14 false 22 (.not 21 (.s 20)), .i (.pick 22 (.s 14) (qb true) (.s 21))]) (.cond (.s 22) (.seq (.ops [.i (.mov 6 (.c (.val false [.nils]))), .i (.mov 7 (qi 0)), .i (.mov 8 (qi 1))]) .ret) .skip)) (.seq (.ops [qm 23 0,qm 24 1,qm 25 1,qm 26 2,qd 27 .add 25 26, .i (.dQ 28 1 (.s 23) (some (.s 24)) (some (.s 27))),qk 30 93 28,qm 30 1,qm 31 2,qd 32 .add 30 31,qm 6 29,qm 7 32, .i (.mov 8 (qi 0))]) .ret)))⟩
theorem rG:cd iO=some iK:=by kernel_rfl
theorem mN (b:Bytes) (a n:Nat) (h:a+n≤b.length) (hb:b.length≤1073741824):VC cd iO (aH [(false,[.sl (bytes b)]),(false,[.int .i64 (a:Int)]),(false,[.int .i64 (n:Int)])]) (fun rs _=>rs= [(false,[.o true (some (5,1)) (bytes ((b.drop a).take n))]),(false,[.p (.int .i64 ((a+n:Nat):Int))]),(false,[.p (.int .i64 0)])]):=by
 have e1:cw (a:Int) 0 (b.length:Int)=true:=by simp[cw];omega
 have e2:cw (n:Int) 0 ((b.length:Int) - (a:Int))=true:=by simp[cw];omega
 have e3:((bytes b).drop a).take n=bytes ((b.drop a).take n):=by simp[bytes]
 have e4:((a:Int)+(n:Int) - (a:Int)).toNat=n:=by omega
 have e5:(a:Int)+(n:Int)≤(b.length:Int):=by omega
 have e6:(a:Int)≤(a:Int)+(n:Int):=by omega
 refine aa rG rfl ?_
 simp(disch:=omega) [iK,VY]
 refine ah (bg _ _ _) rfl rfl ?_
 simp(disch:=omega) [e1,VY]
 refine ah (bg _ _ _) rfl rfl ?_
 simp(disch:=omega) [e2,e3,e4,e5,e6,VY]
 refine av (dL ((b.drop a).take n) (by simp;omega)) ?_
 simp(disch:=omega) [VY]
theorem HC {b:Bytes} {a w:Nat} (h:a+w≤b.length):((b.drop a).take w).length=w:=by simp;omega
abbrev rY:Nat:=181
def ra:AF:=⟨3,6,[.tmp 6, .tmp 7, .tmp 8],(.seq (.ops [.i (.mov 6 (qi 0)), .i (.mov 7 (qi 0)), .i (.mov 8 (qi 0))]) (.seq (.seq (.ops [qm 15 2, .i (.call 17 158 false [(.s 15),(qi 1),(qi 7)]), .i (.not 17 (.s 16))]) (.cond (.s 17) (.seq (.ops [.i (.mov 6 (qi 0)), .i (.mov 7 (qi 0)), .i (.mov 8 (qi 5))]) .ret) .skip)) (.seq (.ops [qm 19 0,qm 20 1,qm 21 2, .i (.call 23 248 false [(.s 19),(.s 20),(.s 21)]),qm 18 22, .i (.ext 23 (.s 18) 0), .i (.ext 24 (.s 18) 1), .i (.ext 25 (.s 18) 2),qm 9 23,qm 10 24,qm 11 25]) (.seq (.ops [.i (.mov 12 (qi 0))]) (.seq (.seq (.ops [qm 26 9,qn 27 26, .i (.mov 28 (qi 0))]) (.block 0 (.loop [40,39,38,37,36,35,34,33,32,31,30,29,14,13] (.seq (.ops [qd 29 .lss 28 27]) (.seq (.cond (.s 29) .skip (.exit 0)) (.seq (.block 1 (.seq (.ops [qm 30 28, .i (.iad 31 (.s 26) (.s 28) 1), .i (.ldh 32 (.s 31) 1 false),qm 13 30,qm 14 32]) (.ops [qm 33 12,qm 34 14, .i (.cvi 35 .i64 (.s 34)),qm 36 13, .i (.bin 37 .mul (qi 8) (.s 36)),qd 38 .shl 35 37,qd 39 .or 33 38,qm 12 39]))) (.ops [.i (.bin 40 .add (.s 28) (qi 1)),qm 28 40]))))))) (.seq (.ops [qm 41 12,qm 42 10,qm 43 11,qm 6 41,qm 7 42,qm 8 43]) .ret))))))⟩
theorem Br:cd rY=some ra:=by kernel_rfl
theorem oD (b:Bytes) (a w:Nat) (h:a+w≤b.length) (hw:1≤w∧w≤7) (hb:b.length≤1073741824):VC cd rY (aH [(false,[.sl (bytes b)]),(false,[.int .i64 (a:Int)]),(false,[.int .i64 (w:Int)])]) (fun rs _=>rs= [(false,[.p (.int .i64 (fX ((b.drop a).take w):Int))]),(false,[.p (.int .i64 ((a+w:Nat):Int))]),(false,[.p (.int .i64 0)])]):=by
 have e1:cw (w:Int) 1 7=true:=by simp[cw];omega
 have hl:=HC h
 refine aa Br rfl ?_
 simp(disch:=omega) [ra,VY]
 refine ah (bg _ _ _) rfl rfl ?_
 simp(disch:=omega) [e1,VY]
 refine ah (mN b a w h hb) rfl rfl ?_
 simp(disch:=omega) [ae,hl,VY]
 generalize hx:(b.drop a).take w=x at *
 refine bH (σ:=Nat) (f1:=_) (es0:=_) (by simp(disch:=omega) [VY];rfl) (by simp(disch:=omega) [VY];rfl) (fun i=> [(12, .val false [.int .i64 (fX (x.take i):Int)]),(28, .val false [.int .i64 (i:Int)])]) (fun _=> []) (fun i g=>g+i=w) 0 w (by simp(disch:=omega) [fX,VY]) (by simp(disch:=omega) [VY]) (by omega) ?_
 rintro i n g hg P hP
 simp(disch:=omega) [VY]
 refine ab (fun h1=> ?_) (fun h1=> ?_)
 ·have hi:i < x.length:=by omega
  have hq:=Bp x[i]
  have e2:=sO (n:=(x[i].toNat:Int)) (by omega) (by omega)
  have e3:¬(8:Int) * (i:Int) < 0:=by omega
  have e4:((8:Int) * (i:Int)).toNat=8 * i:=by omega
  have e5:min (8 * i) 64=8 * i:=by omega
  have hp:x[i].toNat * 2 ^ (8 * i) < 2 ^ 56:=by
   have:(2:Nat) ^ (8 * i)≤2 ^ 48:=Nat.pow_le_pow_right (by omega) (by omega)
   calc x[i].toNat * 2 ^ (8 * i)≤x[i].toNat * 2 ^ 48:=Nat.mul_le_mul_left _ this
    _ < 2 ^ 56:=by omega
  have e6:IntKind.i64.wrap ((x[i].toNat:Int) * 2 ^ (8 * i))=((x[i].toNat * 2 ^ (8 * i):Nat):Int):=by
   rw[show((x[i].toNat:Int) * 2 ^ (8 * i))=((x[i].toNat * 2 ^ (8 * i):Nat):Int)by simp]
   exact sO (by omega) (by omega)
  have hf:=DN (x.take i)
  rw[List.length_take,Nat.min_eq_left (by omega),OH]at hf
  have e7:=Na hf (Nat.dvd_mul_left _ _) hp (by omega)
  have e8:fX (x.take (i+1))=fX (x.take i)+x[i].toNat * 2 ^ (8 * i):=by
   rw[List.take_add_one,List.getElem?_eq_getElem hi]
   show fX (x.take i++ [x[i]])=_
   rw[Cy,List.length_take,Nat.min_eq_left (by omega),OH]
  simp(disch:=omega) [bj hi,e2,e3,e4,e5,IntKind.bits,VY]
  rw[e6,e7,←e8]
  simp(disch:=omega) [VY]
  exact hP (i+1) (g - 1) _ _ (by omega) (by omega) (by simp(disch:=omega) [VY]) (by simp(disch:=omega) [VY])
 ·have:i=w:=by omega
  subst this
  rw[List.take_of_length_le (by omega)]
  simp(disch:=omega) [VY]
def u3 (s:Bytes) (a:Nat):Nat:=fX ((s.drop (a+2)).take 2)
def I2 (s:Bytes) (a:Nat):Nat:=fX ((s.drop (a+4)).take 4)
def HX (s:Bytes) (a:Nat):Bytes:=(s.drop (a+8)).take (u3 s a)
def aq (l:aj) (s:Bytes) (a:Nat):Int×Int:=
 if l.ok=true∧a < s.length then
  if(s.getD a 0).toNat=181 then
   if a+1 < s.length∧¬(s.getD (a+1) 0).toNat=70 then(0,0)else
   if s.length - a < 4 then(1,0)else if ¬cw (u3 s a) 1 l.frame=true then(0,0)else if s.length - a < 8+u3 s a then(1,8+u3 s a)else if I2 s a=JO (HX s a)then(3,8+u3 s a)else(2,8+u3 s a)
  else(0,0)
 else(0,0)
def eJ (p:Int×Int):List (Bool×List E):= [(false,[.p (.int .i64 p.1)]),(false,[.p (.int .i64 p.2)])]
abbrev pM:Nat:=128
def nk:AF:=⟨3,7,[.tmp 6, .tmp 7],(.seq (.ops [.i (.lbox 3 (.s 0)), .i (.mov 6 (qi 0)), .i (.mov 7 (qi 0))]) (.seq (.seq (.ops [ql 15 3 3 5 true,qk 17 95 15, .i (.not 17 (.s 16)),qm 18 17, .g 18 false 20 (.mov 19 (.s 2)), .g 18 false 21 (.mov 20 (.s 1)), .g 18 false 22 (.len 21 false (.s 20)), .g 18 false 23 (.bin 22 .sub (.s 21) (qi 1)), .g 18 false 24 (.call 24 158 false [(.s 19),(qi 0),(.s 22)]), .g 18 false 25 (.not 24 (.s 23)), .i (.pick 25 (.s 18) (qb true) (.s 24)),qm 26 25, .g 26 false 28 (.mov 27 (.s 1)), .g 26 false 29 (.mov 28 (.s 2)), .g 26 false 30 (.iad 29 (.s 27) (.s 28) 1), .g 26 false 31 (.ldh 30 (.s 29) 1 false), .g 26 false 32 (.bin 31 .neq (.s 30) (.c (.val false [.int .u8 181]))), .i (.pick 32 (.s 26) (qb true) (.s 31)),qm 33 32, .g 33 false 35 (.mov 34 (.s 1)), .g 33 false 36 (.len 35 false (.s 34)), .g 33 false 37 (.mov 36 (.s 2)), .g 33 false 38 (.bin 37 .sub (.s 35) (.s 36)), .g 33 false 39 (.bin 38 .gtr (.s 37) (qi 1)), .g 33 false 40 (.mov 39 (.s 38)), .g 39 true 41 (.mov 40 (.s 1)), .g 39 true 42 (.mov 41 (.s 2)), .g 39 true 43 (.bin 42 .add (.s 41) (qi 1)), .g 39 true 44 (.iad 43 (.s 40) (.s 42) 1), .g 39 true 45 (.ldh 44 (.s 43) 1 false), .g 39 true 46 (.bin 45 .neq (.s 44) (.c (.val false [.int .u8 70]))), .g 33 false 47 (.pick 46 (.s 39) (.s 45) (qb false)), .i (.pick 47 (.s 33) (qb true) (.s 46))]) (.cond (.s 47) (.seq (.ops [.i (.mov 6 (qi 0)), .i (.mov 7 (qi 0))]) .ret) .skip)) (.seq (.ops [qm 48 1,qn 49 48,qm 50 2,qd 51 .sub 49 50,qm 8 51]) (.seq (.seq (.ops [qm 52 8, .i (.bin 53 .lss (.s 52) (qi 4))]) (.cond (.s 53) (.seq (.ops [.i (.mov 6 (qi 1)), .i (.mov 7 (qi 0))]) .ret) .skip)) (.seq (.ops [qm 55 1,qm 56 2, .i (.bin 57 .add (.s 56) (qi 2)), .i (.call 59 181 false [(.s 55),(.s 57),(qi 2)]),qm 54 58, .i (.ext 59 (.s 54) 0), .i (.ext 60 (.s 54) 1), .i (.ext 61 (.s 54) 2),qm 9 59,qm 10 60,qm 11 61]) (.seq (.block 0 (.seq (.ops [qm 63 9,qf 64 3 3,ql 65 3 64 1 false, .i (.call 67 158 false [(.s 63),(qi 1),(.s 65)]), .i (.not 67 (.s 66)),qm 62 67]) (.cond (.s 62) (.seq (.ops [.i (.mov 6 (qi 0)), .i (.mov 7 (qi 0))]) .ret) (.seq (.ops [qm 69 8,qm 70 9, .i (.bin 71 .add (qi 8) (.s 70)),qd 72 .lss 69 71,qm 68 72]) (.cond (.s 68) (.seq (.ops [qm 73 9, .i (.bin 74 .add (qi 8) (.s 73)), .i (.mov 6 (qi 1)),qm 7 74]) .ret) .skip))))) (.seq (.ops [qm 76 1,qm 77 2, .i (.bin 78 .add (.s 77) (qi 4)), .i (.call 80 181 false [(.s 76),(.s 78),(qi 4)]),qm 75 79, .i (.ext 80 (.s 75) 0), .i (.ext 81 (.s 75) 1), .i (.ext 82 (.s 75) 2),qm 12 80,qm 13 81,qm 14 82]) (.seq (.seq (.ops [qm 83 12,qm 84 1,qm 85 2, .i (.bin 86 .add (.s 85) (qi 8)),qm 87 2, .i (.bin 88 .add (.s 87) (qi 8)),qm 89 9,qd 90 .add 88 89, .i (.dQ 91 1 (.s 84) (some (.s 86)) (some (.s 90))),qk 93 182 91,qd 93 .neq 83 92]) (.cond (.s 93) (.seq (.ops [qm 94 9, .i (.bin 95 .add (qi 8) (.s 94)), .i (.mov 6 (qi 2)),qm 7 95]) .ret) .skip)) (.seq (.ops [qm 96 9, .i (.bin 97 .add (qi 8) (.s 96)), .i (.mov 6 (qi 3)),qm 7 97]) .ret)))))))))⟩
theorem Ac:cd pM=some nk:=by kernel_rfl
theorem ga (l:aj) (s:Bytes) (a:Nat) (hs:s.length≤1073741824) (ha:a≤1073741824):VC cd pM (aH [(true,l.c),(false,[.sl (bytes s)]),(false,[.int .i64 (a:Int)])]) (fun rs _=>rs=eJ (aq l s a)):=by
 refine aa Ac rfl ?_
 simp(disch:=omega) [nk,aj.c,VY]
 refine ah (aL l) rfl rfl ?_
 simp(disch:=omega) [VY]
 refine aA (fun h0=> ?_) (fun h0=> ?_)
 case refine_2=>simp(disch:=omega) [h0,aq,eJ,VY]
 simp(disch:=omega) [h0,VY]
 refine ah (bg _ _ _) rfl rfl ?_
 simp(disch:=omega) [VY]
 cases h1:cw (a:Int) 0 ((s.length:Int) - 1)with
 |false=>
  have h2:=M5 h1
  have h3:¬a < s.length:=by omega
  simp(disch:=omega) [h0,h3,aq,eJ,VY]
 |true=>
  have h2:=dv h1
  have h3:a < s.length:=by omega
  simp(disch:=omega) [bj h3,VY]
  refine ab (fun h4=> ?_) (fun h4=> ?_)
  case refine_2=>
   have h4n:¬s[a].toNat=181:=by omega
   simp(disch:=omega) [h4,h4n,h0,h3,aq,eJ,VY]
  have h4n:s[a].toNat=181:=by omega
  have key:∀(hc:a+1 < s.length→s[a+1]?.getD 0=70),aq l s a=if s.length - a < 4 then(1,0)else if ¬cw (u3 s a) 1 l.frame=true then(0,0)else if s.length - a < 8+u3 s a then(1,8+(u3 s a:Int))else if I2 s a=JO (HX s a)then(3,8+(u3 s a:Int))else(2,8+(u3 s a:Int)):=by
   intro hc
   have:¬(a+1 < s.length∧¬(s.getD (a+1) 0).toNat=70):=fun h=>by
    refine h.2 ?_
    rw[List.getD_eq_getElem?_getD,hc h.1]
    rfl
   unfold aq
   have hg:s.getD a 0=s[a]:=by simp[List.getD,h3]
   rw[if_pos ⟨h0,h3⟩,hg,if_pos h4n,if_neg this]
  simp(disch:=omega) [h4,VY]
  refine ab (fun h5=> ?_) (fun h5=> ?_)
  ·have h5n:a+1 < s.length:=by omega
   have e5:((a:Int)+1).toNat=a+1:=by omega
   have e50:(0:Int)≤(a:Int)+1:=by omega
   simp(disch:=omega) [h4,h5,e5,e50,bj h5n,VY]
   refine ab (fun h6=> ?_) (fun h6=> ?_)
   case refine_2=>
    have h6n:¬s[a+1].toNat=70:=by omega
    simp(disch:=omega) [h4,h5,h6,h6n,h5n,h0,h3,h4n,aq,eJ,VY]
   have h6n:s[a+1]?.getD 0=70:=by
    simp only[List.getElem?_eq_getElem h5n,Option.getD_some]
    exact UInt8.toNat_inj.1 (by have:(70:UInt8).toNat=70:=rfl;omega)
   rw[key (fun _=>h6n)]
   simp(disch:=omega) [h4,h5,h6,VY]
   refine ab (fun h8=> ?_) (fun h8=> ?_)
   ·have h8n:s.length - a < 4:=by omega
    simp(disch:=omega) [h8,h8n,eJ,VY]
   have h8n:¬s.length - a < 4:=by omega
   have hl:fX ((s.drop (a+2)).take 2) < 65536:=by
    have:=DN ((s.drop (a+2)).take 2)
    rw[HC (by omega)]at this
    exact this
   simp(disch:=omega) [h8,VY]
   refine av (oD s (a+2) 2 (by omega) (by omega) (by omega)) ?_
   simp(disch:=omega) [VY]
   refine ah (bg _ _ _) rfl rfl ?_
   simp(disch:=omega) [VY]
   refine aA (fun h9=> ?_) (fun h9=> ?_)
   case refine_2=>simp(disch:=omega) [h8n,u3,h9,eJ,VY]
   have h9t:=dv h9
   simp(disch:=omega) [h9,VY]
   refine ab (fun h10=> ?_) (fun h10=> ?_)
   ·have h10n:s.length - a < 8+fX ((s.drop (a+2)).take 2):=by omega
    simp(disch:=omega) [h8n,u3,h9,h10,h10n,eJ,VY]
   have h10n:¬s.length - a < 8+fX ((s.drop (a+2)).take 2):=by omega
   simp(disch:=omega) [h10,VY]
   refine av (oD s (a+4) 4 (by omega) (by omega) (by omega)) ?_
   have e6:((bytes s).drop (a+8)).take (fX ((s.drop (a+2)).take 2))=bytes (HX s a):=by simp[bytes,HX,u3]
   have e7:((a:Int)+8).toNat=a+8:=by omega
   have e8:((a:Int)+8+(fX ((s.drop (a+2)).take 2):Int) - ((a:Int)+8)).toNat=fX ((s.drop (a+2)).take 2):=by omega
   have e9:(a:Int)+8≤(a:Int)+8+(fX ((s.drop (a+2)).take 2):Int):=by omega
   have e10:(a:Int)+8+(fX ((s.drop (a+2)).take 2):Int)≤(s.length:Int):=by omega
   have e11:(0:Int)≤(a:Int)+8:=by omega
   simp(disch:=omega) [e6,e7,e8,e9,e10,e11,qp,VY]
   refine av (EI (HX s a) (by simp[HX];omega)) ?_
   simp(disch:=omega) [VY]
   refine ab (fun h11=> ?_) (fun h11=> ?_)
   ·have h11n:I2 s a=JO (HX s a):=by unfold I2;omega
    simp(disch:=omega) [h11,h8n,u3,h9,h10n,h11n,eJ,VY]
   ·have h11n:¬I2 s a=JO (HX s a):=by unfold I2;omega
    simp(disch:=omega) [h11,h8n,u3,h9,h10n,h11n,eJ,VY]
  ·rw[key (fun h=>by omega)]
   have h7:s.length - a < 4:=by omega
   have h7i:(s.length:Int) - (a:Int) < 4:=by omega
   simp(disch:=omega) [h4,h5,h7,h7i,eJ,VY]
structure cR where
 skip:Int
 buf:Bytes
def cR.c (p:cR):List D:= [.int .i64 p.skip, .sl (bytes p.buf)]
def sB (l:aj) (p:cR):Bool:=l.ok && isNum p.skip && (decide (p.buf= [])||decide ((aq l p.buf 0).1=1))
abbrev rO:Nat:=48
def qW:AF:=⟨2,5,[.tmp 4],(.seq (.ops [.i (.lbox 2 (.s 0)), .i (.lbox 3 (.s 1)), .i (.mov 4 (qb false))]) (.seq (.ops [ql 8 2 2 5 true,qf 9 3 1,ql 10 3 9 1 false, .i (.call 12 128 false [(.s 8),(.s 10),(qi 0)]),qm 7 11, .i (.ext 12 (.s 7) 0), .i (.ext 13 (.s 7) 1),qm 5 12,qm 6 13]) (.seq (.ops [ql 14 2 2 5 true,qk 16 95 14,qm 16 15, .g 16 true 18 (.fad 17 (.s 3) 0), .g 16 true 19 (.ldl 18 3 (.s 17) 1 false), .g 16 true 20 (.call 20 129 false [(.s 18)]), .i (.pick 20 (.s 16) (.s 19) (qb false)),qm 21 20, .g 21 true 23 (.fad 22 (.s 3) 1), .g 21 true 24 (.ldl 23 3 (.s 22) 1 false), .g 21 true 25 (.len 24 false (.s 23)), .g 21 true 26 (.bin 25 .eql (.s 24) (qi 0)), .g 21 true 27 (.mov 26 (.s 25)), .g 26 false 28 (.mov 27 (.s 5)), .g 26 false 29 (.bin 28 .eql (.s 27) (qi 1)), .g 21 true 30 (.pick 29 (.s 26) (qb true) (.s 28)), .i (.pick 30 (.s 21) (.s 29) (qb false)),qm 4 30]) .ret)))⟩
theorem Bi:cd rO=some qW:=by kernel_rfl
theorem zg (l:aj) (p:cR) (hb:p.buf.length≤1073741824):VC cd rO (aH [(true,l.c),(true,p.c)]) (fun rs _=>rs=bl (sB l p)):=by
 refine aa Bi rfl ?_
 simp(disch:=omega) [qW,aj.c,cR.c,VY]
 refine av (ga l p.buf 0 hb (by omega)) ?_
 simp(disch:=omega) [eJ,VY]
 refine ah (aL l) rfl rfl ?_
 simp(disch:=omega) [VY]
 refine aA (fun h0=> ?_) (fun h0=> ?_) <;>simp(disch:=omega) [h0,sB,VY]
 refine ah (FB _) rfl rfl ?_
 simp(disch:=omega) [h0,VY]
 refine aA (fun h1=> ?_) (fun h1=> ?_) <;>simp(disch:=omega) [h0,h1,VY]
 refine ab (fun h2=> ?_) (fun h2=> ?_)
 ·simp(disch:=omega) [h0,h1,h2,VY]
 ·simp(disch:=omega) [h0,h1,h2,VY]
end Go.Eng.F
namespace Go.Eng.F
end Go.Eng.F
namespace Go.Eng.F
open Go.Eng.U (Fi df cO yl)
def cJ.tv (f:cJ):Tv:= .r [f.l.tv,xu f.heads]
theorem cJ.enc (f:cJ):enc yl f.tv=f.c:=by simp only[cJ.tv,yv,eh,bW,cG,aj.enc,cJ.c,List.append_nil]
theorem cJ.ex {v:Tv} (h:aG yl v):∃q:cJ,v=q.tv:=by
 obtain⟨vs,rfl,h⟩:=h.st
 obtain⟨v0,_,rfl,h0,h⟩:=h.step
 obtain⟨v1,_,rfl,h1,h⟩:=h.step
 obtain rfl:=h.fin
 obtain⟨n0,rfl⟩:=aj.ex h0
 obtain⟨n1,rfl⟩:=yi h1
 exact⟨⟨n0,n1⟩,rfl⟩
theorem cJ.of {f:cJ} (h:aG yl f.tv) (hw:wt f.tv≤1048576):f.wc∧aG cO f.l.tv∧f.heads.length≤1048576:=by
 simp only[cJ.tv,fY,cH]at h
 simp only[cJ.tv,wt,xN]at hw
 obtain⟨h0,h1,_⟩:=h
 have h5:=Dv h1 (by omega)
 have h6:f.heads.length≤wt (xu f.heads):=by unfold xu;rw[JZ,List.length_map];omega
 exact⟨⟨h5.1,h5.2⟩,fY.2 (fY.1 h0),by omega⟩
theorem Pb (b:Bool):Of (bl b) [(.bool, .b b)]:=⟨rfl,by simp only[eK,Eh,D.leaf,and_self],trivial,trivial⟩
end Go.Eng.F
namespace Go.Eng.F
structure d4 where
 l:aj
 t:Table
 push:cR
 chain:List Head
def d4.c (x:d4):List D:= [.int .i64 x.l.n, .int .i64 x.l.tx, .int .i64 x.l.txs, .int .i64 x.l.frame, .int .i64 x.l.heads, .sl (rws x.t.rows), .int .i64 x.push.skip, .sl (bytes x.push.buf), .sl (fT x.chain)]
def d4.wc (x:d4):Prop:=x.t.wf∧x.push.buf.length≤1073741824∧Sz x.chain.length∧∀h∈x.chain,h.wc
def ht (hs:List Head) (i:Nat):Int:=match hs[i]? with|some h=>h.height|none=>0
structure qQ where
 l:aj
 t:Table
 x:d4
 own:List Head
def qQ.c (d:qQ):List D:= [.int .i64 d.l.n, .int .i64 d.l.tx, .int .i64 d.l.txs, .int .i64 d.l.frame, .int .i64 d.l.heads, .sl (rws d.t.rows), .int .i64 d.x.l.n, .int .i64 d.x.l.tx, .int .i64 d.x.l.txs, .int .i64 d.x.l.frame, .int .i64 d.x.l.heads, .sl (rws d.x.t.rows), .int .i64 d.x.push.skip, .sl (bytes d.x.push.buf), .sl (fT d.x.chain), .sl (fT d.own)]
def qQ.wc (d:qQ):Prop:=d.t.wf∧d.x.wc∧Sz d.own.length∧∀h∈d.own,h.wc
end Go.Eng.F
namespace Go.Eng.F
open Go.Eng.U (Fi df cO iN wN pk Hx)
def cR.wf (p:cR):Prop:=mq p.skip∧Sz p.buf.length
def cR.tv (x:cR):Tv:= .r [.i x.skip,A9 x.buf]
theorem cR.enc (x:cR):enc wN x.tv=x.c:=by simp only[cR.tv,eh,bW,cG,d7,eK,iF,f7,dZ,fU,cR.c,List.cons_append,List.nil_append,List.append_assoc]
theorem cR.ex {v:Tv} (h:aG wN v):∃x:cR,v=x.tv:=by
 obtain⟨vs,rfl,h⟩:=h.st
 obtain⟨v0,_,rfl,h0,h⟩:=h.step
 obtain⟨v1,_,rfl,h1,h⟩:=h.step
 obtain rfl:=h.fin
 obtain⟨n0,rfl,_⟩:=h0.int
 obtain⟨n1,rfl⟩:=f8 h1
 exact⟨⟨n0,n1⟩,rfl⟩
theorem cR.of {x:cR} (h:aG wN x.tv) (hw:wt x.tv≤1048576):x.wf:=by
 simp only[cR.tv,fY,cH]at h
 simp only[cR.tv,wt,xN]at hw
 obtain⟨h0,h1,_⟩:=h
 exact⟨dz (ok_int.1 h0),rB (by omega)⟩
def d4.tv (x:d4):Tv:= .r [x.l.tv,x.t.tv,x.push.tv,xu x.chain]
theorem d4.enc (x:d4):enc pk x.tv=x.c:=by simp only[d4.tv,yv,eh,bW,cG,aj.enc,Table.enc,cR.enc,d4.c,aj.c,Table.c,cR.c,List.cons_append,List.nil_append,List.append_nil]
theorem d4.ex {v:Tv} (h:aG pk v):∃q:d4,v=q.tv:=by
 obtain⟨vs,rfl,h⟩:=h.st
 obtain⟨v0,_,rfl,h0,h⟩:=h.step
 obtain⟨v1,_,rfl,h1,h⟩:=h.step
 obtain⟨v2,_,rfl,h2,h⟩:=h.step
 obtain⟨v3,_,rfl,h3,h⟩:=h.step
 obtain rfl:=h.fin
 obtain⟨n0,rfl⟩:=aj.ex h0
 obtain⟨n1,rfl⟩:=Table.ex h1
 obtain⟨n2,rfl⟩:=cR.ex h2
 obtain⟨n3,rfl⟩:=yi h3
 exact⟨⟨n0,n1,n2,n3⟩,rfl⟩
theorem d4.of {x:d4} (h:aG pk x.tv) (hw:wt x.tv≤1048576):x.wc:=by
 simp only[d4.tv,fY,cH]at h
 simp only[d4.tv,wt,xN]at hw
 obtain⟨h0,h1,h2,h3,_⟩:=h
 have k1:=Table.of h1 (by omega)
 have k2:=cR.of h2 (by omega)
 have k3:=Dv h3 (by omega)
 exact⟨k1,k2.2,k3.1,k3.2⟩
def qQ.tv (x:qQ):Tv:= .r [x.l.tv,x.t.tv,x.x.tv,xu x.own]
theorem qQ.enc (x:qQ):enc Hx x.tv=x.c:=by simp only[qQ.tv,yv,eh,bW,cG,aj.enc,Table.enc,d4.enc,qQ.c,d4.c,aj.c,Table.c,List.cons_append,List.nil_append,List.append_nil]
theorem qQ.ex {v:Tv} (h:aG Hx v):∃q:qQ,v=q.tv:=by
 obtain⟨vs,rfl,h⟩:=h.st
 obtain⟨v0,_,rfl,h0,h⟩:=h.step
 obtain⟨v1,_,rfl,h1,h⟩:=h.step
 obtain⟨v2,_,rfl,h2,h⟩:=h.step
 obtain⟨v3,_,rfl,h3,h⟩:=h.step
 obtain rfl:=h.fin
 obtain⟨n0,rfl⟩:=aj.ex h0
 obtain⟨n1,rfl⟩:=Table.ex h1
 obtain⟨n2,rfl⟩:=d4.ex h2
 obtain⟨n3,rfl⟩:=yi h3
 exact⟨⟨n0,n1,n2,n3⟩,rfl⟩
theorem qQ.of {x:qQ} (h:aG Hx x.tv) (hw:wt x.tv≤1048576):x.wc:=by
 simp only[qQ.tv,fY,cH]at h
 simp only[qQ.tv,wt,xN]at hw
 obtain⟨h0,h1,h2,h3,_⟩:=h
 have k1:=Table.of h1 (by omega)
 have k2:=d4.of h2 (by omega)
 have k3:=Dv h3 (by omega)
 exact⟨k1,k2,k3.1,k3.2⟩
end Go.Eng.F
namespace Go.Eng.F
open Go.Eng.U (Fi df cO iN wN pk)
end Go.Eng.F
namespace Go.Eng.F
open Go.Eng.U (Fi df cO iN fZ)
theorem cY {cd:Nat→Option AF} {pd:List (Nat×Nat)} {R:List RV} {Q:List (Bool×List E)→List E→Prop} {k:List VK} {f:UT} {st:St} {ds:List Nat} {b:AC} {σ:Type} (f0:UT) (hf:b4 f ds=f0) {f2:UT} {st2:St} (hw:cN f0 st f2 st2) (f1:UT) (es0:List (Nat×En)) (h2:f2=f1) (he:MR st2.es=es0)
 (mu:σ→List (Nat×U)) (ue:σ→List (Nat×En)) (J:σ→Nat→Prop) (s0:σ) (g0:Nat) (hu:f1=bM f1 (mu s0)) (hs:ky st2 (DT es0 (ue s0))) (h0:J s0 g0)
 (round:∀s n g,J s g→∀P:UT→St→Prop,(∀(s':σ) (g':Nat) (f':UT) (st':St),g' < g→J s' g'→b4 f' ds=bM f1 (mu s')→ky st' (DT es0 (ue s'))→P f' st')→VX cd pd R Q (.c b:: .stop P::k) (bM f1 (mu s)) ⟨n,DT es0 (ue s)⟩):
 VX cd pd R Q (.c (.loop ds b)::k) f st:=
 ph f0 hf hw f1 es0 h2 he mu ue J s0 g0 hu hs h0 fun s n g h=>round s n g h _ fun s' g' f' st' a b c d=>⟨s',g',a,b,c,d⟩
theorem Jv {bits:Bytes} {n:Int} (h:dN bits n=true):bits.length≤2:=by
 simp only[dN,Bool.and_eq_true,decide_eq_true_eq]at h
 have h1:=dv h.1.1
 have h2:=h.1.2
 rw[tY]at h2
 omega
theorem OB (n:Int):mq (IntKind.i64.wrap n):=by
 simp only[mq,IntKind.wrap,IntKind.bits,IntKind.signed]
 simp
 omega
end Go.Eng.F
namespace Go.Eng.F
structure bu where
 view:Int
 height:Int
 block:Bytes
 who:Int
 tag:Bytes
def bu.c (v:bu):List D:= [.int .i64 v.view, .int .i64 v.height, .sl (bytes v.block), .int .i64 v.who, .sl (bytes v.tag)]
def bu.wf (v:bu):Prop:=mq v.view∧mq v.height∧Sz v.block.length∧mq v.who∧Sz v.tag.length
def AB (a b:bu):Bool:=decide (a.view=b.view) && decide (a.height=b.height) && decide (a.block=b.block) && decide (a.who=b.who) && decide (a.tag=b.tag)
abbrev lh:Nat:=298
def l9:AF:=⟨2,6,[.tmp 4],(.seq (.ops [.i (.lbox 2 (.s 0)), .i (.lbox 3 (.s 1)), .i (.mov 4 (qb false))]) (.seq (.ops [qf 5 2 0,ql 6 2 5 1 false,qf 7 3 0,ql 8 3 7 1 false,qd 9 .eql 6 8,qm 10 9, .g 10 true 12 (.fad 11 (.s 2) 1), .g 10 true 13 (.ldl 12 2 (.s 11) 1 false), .g 10 true 14 (.fad 13 (.s 3) 1), .g 10 true 15 (.ldl 14 3 (.s 13) 1 false), .g 10 true 16 (.bin 15 .eql (.s 12) (.s 14)), .i (.pick 16 (.s 10) (.s 15) (qb false)),qm 17 16, .g 17 true 19 (.fad 18 (.s 2) 2), .g 17 true 20 (.ldl 19 2 (.s 18) 1 false), .g 17 true 21 (.fad 20 (.s 3) 2), .g 17 true 22 (.ldl 21 3 (.s 20) 1 false), .g 17 true 23 (.call 23 329 false [(.s 19),(.s 21)]), .i (.pick 23 (.s 17) (.s 22) (qb false)),qm 24 23, .g 24 true 26 (.fad 25 (.s 2) 3), .g 24 true 27 (.ldl 26 2 (.s 25) 1 false), .g 24 true 28 (.fad 27 (.s 3) 3), .g 24 true 29 (.ldl 28 3 (.s 27) 1 false), .g 24 true 30 (.bin 29 .eql (.s 26) (.s 28)), .i (.pick 30 (.s 24) (.s 29) (qb false)),qm 31 30, .g 31 true 33 (.fad 32 (.s 2) 4), .g 31 true 34 (.ldl 33 2 (.s 32) 1 false), .g 31 true 35 (.fad 34 (.s 3) 4), .g 31 true 36 (.ldl 35 3 (.s 34) 1 false), .g 31 true 37 (.call 37 329 false [(.s 33),(.s 35)]), .i (.pick 37 (.s 31) (.s 36) (qb false)),qm 4 37]) .ret))⟩
theorem xg:cd lh=some l9:=by kernel_rfl
theorem vg (a b:bu):VC cd lh (aH [(true,a.c),(true,b.c)]) (fun rs _=>rs=bl (AB a b)):=by
 refine aa xg rfl ?_
 simp(disch:=omega) [l9,bu.c,VY]
 refine ab (fun h1=> ?_) (fun h1=> ?_) <;>simp(disch:=omega) [h1,AB,VY]
 refine ab (fun h2=> ?_) (fun h2=> ?_) <;>simp(disch:=omega) [h1,h2,VY]
 refine av (aN a.block b.block) ?_
 simp(disch:=omega) [h1,h2,VY]
 refine ab (fun h3=> ?_) (fun h3=> ?_) <;>simp(disch:=omega) [h1,h2,h3,VY]
 refine ab (fun h4=> ?_) (fun h4=> ?_) <;>simp(disch:=omega) [h1,h2,h3,h4,VY]
 refine av (aN a.tag b.tag) ?_
 simp(disch:=omega) [h1,h2,h3,h4,VY]
end Go.Eng.F
namespace Go.Eng.F
def cur (b:Bytes) (i:Nat) (h:Int):List E0:= [.p (.sl (bytes b)), .p (.int .i64 (i:Int)), .p (.int .i64 h)]
theorem Dc (k v ty:Nat) (xs:List E0) (r:List E):aD k v (.pt ty xs::r)=(.pt k v 0::(aD (k+(1+xs.length)) (v+(1+xs.length)) r).1,(k, .pt v ty (aF (k+1) (v+1) xs).1)::((aF (k+1) (v+1) xs).2++(aD (k+(1+xs.length)) (v+(1+xs.length)) r).2)):=rfl
def Jy (x:Int):Nat:=(BitVec.ofInt 64 x &&& BitVec.ofInt 64 255).toNat
theorem DZ (x:Int):Jy x < 256:=by
 have:Jy x≤255:=by
  unfold Jy
  rw[BitVec.toNat_and]
  exact Nat.and_le_right
 omega
theorem Ju (x:Int):ay .and .i64 x 255=((Jy x:Nat):Int):=by
 have h:=DZ x
 show IntKind.i64.wrap ((Jy x:Nat):Int)=_
 exact sO (by omega) (by omega)
abbrev rM:Nat:=88
def rZ:AF:=⟨1,6,[.tmp 2],(.seq (.ops [.i (.mov 2 (.c (.val false [.nilp])))]) (.seq (.ops [qm 5 0,qn 6 5, .i (.bin 7 .add (qi 1611) (.s 6)),qm 3 7]) (.seq (.seq (.ops [.i (.mov 4 (qi 0))]) (.block 0 (.loop [27,26,25,24,23,22,21,20,19,18,17,16,15,14,13,12,11,10,9,8] (.seq (.seq (.ops [qm 8 4,qm 9 0,qn 10 9,qd 11 .lss 8 10,qm 12 11, .g 12 true 14 (.mov 13 (.s 4)), .g 12 true 15 (.bin 14 .lss (.s 13) (qi 4000)), .i (.pick 15 (.s 12) (.s 14) (qb false))]) (.cond (.s 15) .skip (.exit 0))) (.seq (.block 1 (.ops [qm 18 3, .i (.bin 19 .mul (.s 18) (qi 37)),qm 20 0,qm 21 4, .i (.iad 22 (.s 20) (.s 21) 1), .i (.ldh 23 (.s 22) 1 false), .i (.cvi 24 .i64 (.s 23)),qd 25 .add 19 24, .i (.bin 26 .add (.s 25) (qi 7)), .i (.bin 27 .and (.s 26) (qi 1073741823)),qm 3 27])) (.ops [qm 16 4, .i (.bin 17 .add (.s 16) (qi 1)),qm 4 17])))))) (.seq (.ops [qm 28 0,qm 29 3, .i (.bld 30 [.nils, .int .i64 0, .int .i64 0] [(0,1,(.s 28)),(2,1,(.s 29))]), .i (.hbox 31 133 (.s 30)),qm 2 31]) .ret))))⟩
theorem BO:cd rM=some rZ:=by kernel_rfl
theorem u6 (b:Bytes) (hb:b.length≤1073741824):VC cd rM (aH [(false,[.sl (bytes b)])]) (fun r _=>∃h:Int,True∧r= [(false,[.pt 133 (cur b 0 h)])]):=by
 refine aa BO rfl ?_
 simp(disch:=omega) [rZ,VY]
 refine bH (σ:=Nat×Int) (f1:=_) (es0:=_) (by simp(disch:=omega) [VY];rfl) (by simp(disch:=omega) [VY];rfl) (fun p=> [(4, .val false [.int .i64 (p.1:Int)]),(3, .val false [.int .i64 p.2])]) (fun _=> []) (fun p g=>g+p.1=b.length) (0,_) b.length (by simp(disch:=omega) [VY];rfl) (by simp(disch:=omega) [VY]) (by omega) ?_
 rintro⟨i,h⟩ n g hg P hP
 simp only at hg
 simp(disch:=omega) [VY]
 refine ab (fun h1=> ?_) (fun h1=> ?_)
 ·have hi:i < b.length:=by omega
  simp(disch:=omega) [h1,VY]
  refine ab (fun h2=> ?_) (fun h2=> ?_)
  ·simp(disch:=omega) [bj hi,VY]
   exact hP (i+1,_) (g - 1) _ _ (by omega) (by simp only;omega) (by simp(disch:=omega) [VY];rfl) (by simp(disch:=omega) [VY])
  ·simp(disch:=omega) [cur,VY]
 ·simp(disch:=omega) [h1,cur,VY]
abbrev oC:Nat:=162
def oj:AF:=⟨1,6,[.tmp 2],(.seq (.ops [.i (.mov 2 (qi 0))]) (.seq (.ops [qm 4 0,qm 5 0, .i (.nch 6 (.s 5)),qf 7 6 2, .i (.ldh 8 (.s 7) 1 false), .i (.bin 9 .mul (.s 8) (qi 6364136223846793005)), .i (.bin 10 .add (.s 9) (qi 1442695040888963407)), .i (.nch 11 (.s 4)),qf 12 11 2, .i (.sth (.s 12) (.s 10) 1)]) (.seq (.ops [qm 13 0, .i (.nch 14 (.s 13)),qf 15 14 2, .i (.ldh 16 (.s 15) 1 false), .i (.bin 17 .shr (.s 16) (.c (.val false [.int .u64 33]))),qm 18 0, .i (.nch 19 (.s 18)),qf 20 19 2, .i (.ldh 21 (.s 20) 1 false), .i (.bin 22 .shr (.s 21) (.c (.val false [.int .u64 45]))),qd 23 .xor 17 22, .i (.bin 24 .and (.s 23) (qi 255)),qm 3 24]) (.seq (.seq (.ops [qm 25 0, .i (.nch 26 (.s 25)),qf 27 26 1, .i (.ldh 28 (.s 27) 1 false),qm 29 0, .i (.nch 30 (.s 29)),qf 31 30 0, .i (.ldh 32 (.s 31) 1 false),qn 33 32,qd 34 .lss 28 33]) (.cond (.s 34) (.seq (.ops [qm 35 3,qm 36 0, .i (.nch 37 (.s 36)),qf 38 37 0, .i (.ldh 39 (.s 38) 1 false),qm 40 0, .i (.nch 41 (.s 40)),qf 42 41 1, .i (.ldh 43 (.s 42) 1 false), .i (.iad 44 (.s 39) (.s 43) 1), .i (.ldh 45 (.s 44) 1 false), .i (.cvi 46 .i64 (.s 45)),qd 47 .add 35 46, .i (.bin 48 .and (.s 47) (qi 255)),qm 3 48]) (.ops [qm 49 0,qm 50 0, .i (.nch 51 (.s 50)),qf 52 51 1, .i (.ldh 53 (.s 52) 1 false), .i (.bin 54 .add (.s 53) (qi 1)), .i (.nch 55 (.s 49)),qf 56 55 1, .i (.sth (.s 56) (.s 54) 1)])) .skip)) (.seq (.ops [qm 57 3,qm 2 57]) .ret)))))⟩
theorem AA:cd oC=some oj:=by kernel_rfl
theorem c9 (b:Bytes) (i:Nat) (h:Int) (hi:i≤b.length) (hb:b.length≤1073741824):VC cd oC (ic [] 133 (cur b i h) []) (fun r p=>∃x:Nat×Nat×Int,(x.1 < 256∧x.2.1≤b.length)∧r=it x.1∧p= [.pt 133 (cur b x.2.1 x.2.2)]):=by
 refine aw AA rfl ?_
 simp(disch:=omega) [oj,cur,Ju,VZ]
 refine ab (fun h1=> ?_) (fun h1=> ?_)
 ·simp(disch:=omega) [bj h1,Ju,VZ]
  refine⟨_,i+1,⟨DZ _,by omega⟩,rfl,by simp⟩
 ·simp(disch:=omega) [VZ]
  refine⟨_,i,⟨DZ _,hi⟩,rfl,rfl⟩
theorem tm {N:Int} (h:0≤N) {n:Nat} (hn:n≠0):∃y:Nat,y < n∧N.tmod (n:Int)=(y:Int):=by
 obtain⟨m,rfl⟩:=Int.eq_ofNat_of_zero_le h
 exact⟨m % n,Nat.mod_lt _ (by omega),rfl⟩
abbrev me:Nat:=97
def mh:AF:=⟨2,6,[.tmp 4],(.seq (.ops [.i (.mov 4 (qi 0))]) (.seq (.seq (.ops [qm 9 1, .i (.bin 10 .leq (.s 9) (qi 0))]) (.cond (.s 10) (.seq (.ops [.i (.mov 4 (qi 0))]) .ret) .skip)) (.seq (.seq (.ops [qm 11 1, .i (.bin 12 .leq (.s 11) (qi 256))]) (.cond (.s 12) (.seq (.ops [qm 13 0,qk 15 162 13,qm 15 1,qd 16 .rem 14 15,qm 4 16]) .ret) .skip)) (.seq (.ops [qm 17 0,qk 19 162 17,qm 5 18]) (.seq (.ops [qm 19 0,qk 21 162 19,qm 6 20]) (.seq (.ops [qm 21 0,qk 23 162 21,qm 7 22]) (.seq (.ops [qm 23 0,qk 25 162 23,qm 8 24]) (.seq (.ops [qm 25 5, .i (.bin 26 .mul (.s 25) (qi 16777216)),qm 27 6, .i (.bin 28 .mul (.s 27) (qi 65536)),qd 29 .add 26 28,qm 30 7, .i (.bin 31 .mul (.s 30) (qi 256)),qd 32 .add 29 31,qm 33 8,qd 34 .add 32 33,qm 35 1,qd 36 .rem 34 35,qm 4 36]) .ret))))))))⟩
theorem x7:cd me=some mh:=by kernel_rfl
theorem an (b:Bytes) (i:Nat) (h:Int) (n:Nat) (hn:n≤4294967296) (hi:i≤b.length) (hb:b.length≤1073741824):VC cd me (ic [] 133 (cur b i h) [(false,[.int .i64 (n:Int)])]) (fun r p=>∃x:Nat×Nat×Int,((x.1 < n∨x.1=0)∧x.2.1≤b.length)∧r=it x.1∧p= [.pt 133 (cur b x.2.1 x.2.2)]):=by
 refine aw x7 rfl ?_
 simp(disch:=omega) [mh,cur,VZ]
 refine ab (fun h1=> ?_) (fun h1=> ?_)
 ·have h2:n=0:=by omega
  subst h2
  simp(disch:=omega) [VZ]
  exact⟨0,i,⟨rfl,hi⟩,rfl,rfl⟩
 simp(disch:=omega) [VZ]
 refine ab (fun h2=> ?_) (fun h2=> ?_)
 ·simp(disch:=omega) [VZ]
  refine cq (c9 b i h hi hb) ?_
  rintro⟨x,i',h'⟩ ⟨h3,h4⟩
  simp only at h3 h4
  obtain⟨y,hy,e⟩:=tm (N:=(x:Int)) (by omega) h1
  simp(disch:=omega) [cur,e,h1,VZ]
  exact⟨y,i',⟨.inl hy,h4⟩,rfl,rfl⟩
 ·simp(disch:=omega) [VZ]
  refine cq (c9 b i h hi hb) ?_
  rintro⟨x,i1,h1'⟩ ⟨h3,h4⟩
  simp(disch:=omega) [cur,VZ]
  simp only at h3 h4
  refine cq (c9 b i1 h1' h4 hb) ?_
  rintro⟨y,i2,h2'⟩ ⟨h5,h6⟩
  simp(disch:=omega) [cur,VZ]
  simp only at h5 h6
  refine cq (c9 b i2 h2' h6 hb) ?_
  rintro⟨z,i3,h3'⟩ ⟨h7,h8⟩
  simp(disch:=omega) [cur,VZ]
  simp only at h7 h8
  refine cq (c9 b i3 h3' h8 hb) ?_
  rintro⟨w,i4,h4'⟩ ⟨h9,h10⟩
  simp only at h9 h10
  obtain⟨q,hq,e⟩:=tm (N:=(x:Int) * 16777216+y * 65536+z * 256+w) (by omega) h1
  simp(disch:=omega) [cur,e,h1,VZ]
  exact⟨q,i4,⟨.inl hq,h10⟩,rfl,rfl⟩
abbrev oT:Nat:=135
def oW:AF:=⟨2,4,[.tmp 4],(.seq (.ops [.i (.mov 4 (qb false))]) (.seq (.ops [qm 5 0,qm 6 1, .i (.call 8 97 false [(.s 5),(.s 6)]), .i (.bin 8 .eql (.s 7) (qi 0)),qm 4 8]) .ret))⟩
theorem Ad:cd oT=some oW:=by kernel_rfl
theorem fx (b:Bytes) (i:Nat) (h:Int) (n:Nat) (hn:n≤4294967296) (hi:i≤b.length) (hb:b.length≤1073741824):VC cd oT (ic [] 133 (cur b i h) [(false,[.int .i64 (n:Int)])]) (fun r p=>∃x:Bool×Nat×Int,x.2.1≤b.length∧r=bl x.1∧p= [.pt 133 (cur b x.2.1 x.2.2)]):=by
 refine aw Ad rfl ?_
 simp(disch:=omega) [oW,cur,VZ]
 refine cq (an b i h n hn hi hb) ?_
 rintro⟨x,i',h'⟩ ⟨h3,h4⟩
 simp only at h3 h4
 simp(disch:=omega) [cur,VZ]
 by_cases hx:x=0
 ·exact .inr ⟨i',h4,hx,rfl⟩
 ·exact .inl ⟨i',h4,hx,rfl⟩
abbrev pT:Nat:=155
def oA:AF:=⟨2,4,[.tmp 4],(.seq (.ops [.i (.mov 4 (qi 0))]) (.seq (.ops [qm 5 1,qm 6 0,qm 7 1,qn 8 7, .i (.call 10 97 false [(.s 6),(.s 8)]), .i (.iad 10 (.s 5) (.s 9) 1), .i (.ldh 11 (.s 10) 1 false),qm 4 11]) .ret))⟩
theorem zz:cd pT=some oA:=by kernel_rfl
theorem hQ (b:Bytes) (i:Nat) (h:Int) (l:List Int) (hl:l≠ []) (hl2:l.length≤4294967296) (hi:i≤b.length) (hb:b.length≤1073741824):VC cd pT (ic [] 133 (cur b i h) [(false,[.sl (ints l)])]) (fun r p=>∃x:Int×Nat×Int,(x.1∈l∧x.2.1≤b.length)∧r=it x.1∧p= [.pt 133 (cur b x.2.1 x.2.2)]):=by
 have hp:0 < l.length:=List.length_pos_iff.2 hl
 refine aw zz rfl ?_
 simp(disch:=omega) [oA,cur,bJ,VZ]
 refine cq (an b i h l.length hl2 hi hb) ?_
 rintro⟨x,i',h'⟩ ⟨h3,h4⟩
 simp only at h3 h4
 have hx:x < l.length:=by omega
 simp(disch:=omega) [cur,Af hx,VZ]
 exact⟨gi l x,i',⟨sA hx,h4⟩,rfl,rfl⟩
theorem yk (x:Bytes) (y:Int):bytes x++ [[.int .u8 (IntKind.u8.wrap y)]]=bytes (x++ [b8 y]):=by
 rw[←br,←zN]
 rfl
abbrev mc:Nat:=138
def mi:AF:=⟨2,5,[.tmp 4],(.seq (.ops [.i (.mov 4 (.c (.val false [.nils])))]) (.seq (.ops [.i (.bse 7),qm 5 7]) (.seq (.seq (.ops [qm 8 0,qm 9 1, .i (.bin 10 .add (.s 9) (qi 1)), .i (.call 12 97 false [(.s 8),(.s 10)]),qm 6 11]) (.block 0 (.loop [21,20,19,18,17,16,15,14,13,12] (.seq (.seq (.ops [qm 12 6, .i (.bin 13 .gtr (.s 12) (qi 0))]) (.cond (.s 13) .skip (.exit 0))) (.seq (.block 1 (.ops [qm 16 5,qm 17 0,qk 19 162 17, .i (.cvi 19 .u8 (.s 18)), .i (.lsl 20 1 1 [.int .u8 0] [(0,1,(.s 19))]), .i (.app 21 5 1 1 (.s 16) (.s 20)),qm 5 21])) (.ops [qm 14 6, .i (.bin 15 .sub (.s 14) (qi 1)),qm 6 15])))))) (.seq (.ops [qm 22 5,qm 4 22]) .ret))))⟩
theorem xq:cd mc=some mi:=by kernel_rfl
theorem c7 (b:Bytes) (i:Nat) (h:Int) (m:Nat) (hm:m≤1000000) (hi:i≤b.length) (hb:b.length≤1073741824):VC cd mc (ic [] 133 (cur b i h) [(false,[.int .i64 (m:Int)])]) (fun r p=>∃x:Bytes×Nat×Int,(x.1.length≤m∧x.2.1≤b.length)∧r= [(false,[.o true (some (5,1)) (bytes x.1)])]∧p= [.pt 133 (cur b x.2.1 x.2.2)]):=by
 refine aw xq rfl ?_
 simp(disch:=omega) [mi,cur,VZ]
 refine cq (an b i h (m+1) (by omega) hi hb) ?_
 rintro⟨k,i',h'⟩ ⟨h3,h4⟩
 simp only at h3 h4
 have hk:k≤m:=by omega
 simp(disch:=omega) [cur,VZ]
 refine bH (σ:=Nat×Nat×Nat×Int×Bytes) (f1:=_) (es0:=_) (by simp(disch:=omega) [VZ];rfl) (by simp(disch:=omega) [VZ];rfl) (fun p=> [(6, .val false [.int .i64 (p.1:Int)]),(5, .val false [.ow 7 p.2.1])]) (fun p=> [(4096, .pt 0 133 [.sl (bytes b), .int .i64 (p.2.2.1:Int), .int .i64 p.2.2.2.1]),(7, .sl p.2.1 true true (some (5,1)) (bytes p.2.2.2.2))])
  (fun p g=>g=p.1∧p.2.2.1≤b.length∧p.2.2.2.2.length+p.1≤m) (k,_,i',h',[]) k (by simp(disch:=omega) [VZ];rfl) (by simp(disch:=omega) [bytes,VZ]) ⟨rfl,h4,by simpa using hk⟩ ?_
 rintro⟨n,v,i2,h2,x⟩ nx g ⟨hg,h5,h6⟩ P hP
 simp only at hg h5 h6
 simp(disch:=omega) [VZ]
 refine ab (fun h7=> ?_) (fun h7=> ?_)
 ·simp(disch:=omega) [VZ]
  refine cq (c9 b i2 h2 h5 hb) ?_
  rintro⟨y,i3,h3'⟩ ⟨h8,h9⟩
  simp only at h8 h9
  have e1:IntKind.i64.wrap ((n:Int) - 1)=((n - 1:Nat):Int):=by rw[sO (by omega) (by omega)];omega
  simp(disch:=omega) [cur,yk,e1,VZ]
  exact hP (n - 1,_,i3,h3',x++ [b8 y]) (g - 1) _ _ (by omega) ⟨by omega,h9,by simp;omega⟩ (by simp(disch:=omega) [VZ];rfl) (by simp(disch:=omega) [VZ])
 ·simp(disch:=omega) [cur,VZ]
  exact⟨x,i2,⟨by omega,h5⟩,rfl,rfl⟩
theorem gY (x:Bytes) (j:Nat) (y:Int):(bytes x).set j [.int .u8 (IntKind.u8.wrap y)]=bytes (x.set j (b8 y)):=by
 rw[←zN]
 simp[bytes,List.map_set]
def Pv:Bytes:=List.replicate 32 0
theorem NA:List.replicate 32 [D.int .u8 0]=bytes Pv:=Ak 32
abbrev oP:Nat:=242
def ny:AF:=⟨1,5,[.tmp 2],(.seq (.ops [.i (.mov 2 (.c (.val false [.nils])))]) (.seq (.ops [.i (.mks 4 5 1 1 [.int .u8 0] (qi 32)),qm 3 4]) (.seq (.ops [qm 5 3,qm 6 0, .i (.call 8 97 false [(.s 6),(qi 3)]), .i (.cvi 8 .u8 (.s 7)), .i (.iad 9 (.s 5) (qi 0) 1), .i (.sth (.s 9) (.s 8) 1)]) (.seq (.ops [qm 10 3,qm 11 0,qk 13 162 11, .i (.cvi 13 .u8 (.s 12)), .i (.iad 14 (.s 10) (qi 31) 1), .i (.sth (.s 14) (.s 13) 1)]) (.seq (.ops [qm 15 3,qm 2 15]) .ret)))))⟩
theorem zf:cd oP=some ny:=by kernel_rfl
theorem cC (b:Bytes) (i:Nat) (h:Int) (hi:i≤b.length) (hb:b.length≤1073741824):VC cd oP (ic [] 133 (cur b i h) []) (fun r p=>∃x:Bytes×Nat×Int,(x.1.length=32∧x.2.1≤b.length)∧r= [(false,[.o true (some (5,1)) (bytes x.1)])]∧p= [.pt 133 (cur b x.2.1 x.2.2)]):=by
 have hz:Pv.length=32:=rfl
 refine aw zf rfl ?_
 simp(disch:=omega) [ny,cur,NA,VZ]
 refine cq (an b i h 3 (by omega) hi hb) ?_
 rintro⟨k,i',h'⟩ ⟨h3,h4⟩
 simp only at h3 h4
 simp(disch:=omega) [cur,bj,gY,VZ]
 have hz1:(Pv.set 0 (b8 (k:Int))).length=32:=by simp[hz]
 generalize Pv.set 0 (b8 (k:Int))=z1 at hz1⊢
 refine cq (c9 b i' h' h4 hb) ?_
 rintro⟨y,i2,h2⟩ ⟨h5,h6⟩
 simp only at h5 h6
 simp(disch:=omega) [cur,bj,gY,VZ]
 exact⟨z1.set 31 (b8 y),i2,⟨by simp[hz1],h6⟩,rfl,rfl⟩
def aj.e (l:aj):List E:= [.p (.int .i64 l.n), .p (.int .i64 l.tx), .p (.int .i64 l.txs), .p (.int .i64 l.frame), .p (.int .i64 l.heads)]
theorem Kc {l:aj} (h1:1≤l.n∧l.n≤10) (h2:0≤l.tx∧l.tx≤40) (h3:0≤l.txs∧l.txs≤8) (h4:1≤l.frame∧l.frame≤4000) (h5:3≤l.heads∧l.heads≤5):l.ok=true:=by
 simp[aj.ok,cw,h1,h2,h3,h4,h5]
abbrev m0:Nat:=89
def pX:AF:=⟨1,5,[.cell 2 5 true],(.seq (.ops [.i (.lal 2 [.int .i64 0, .int .i64 0, .int .i64 0, .int .i64 0, .int .i64 0])]) (.seq (.ops [qm 3 0, .i (.bsl 4 3 1 7 [.int .i64 0] [(0,1,(qi 1)),(1,1,(qi 3)),(2,1,(qi 4)),(3,1,(qi 4)),(4,1,(qi 7)),(5,1,(qi 9)),(6,1,(qi 10))]), .i (.call 6 155 false [(.s 3),(.s 4)]),qm 6 0, .i (.bsl 7 3 1 4 [.int .i64 0] [(0,1,(qi 0)),(1,1,(qi 4)),(2,1,(qi 8)),(3,1,(qi 40))]), .i (.call 9 155 false [(.s 6),(.s 7)]),qm 9 0, .i (.bsl 10 3 1 3 [.int .i64 0] [(0,1,(qi 0)),(1,1,(qi 3)),(2,1,(qi 8))]), .i (.call 12 155 false [(.s 9),(.s 10)]),qm 12 0, .i (.bsl 13 3 1 4 [.int .i64 0] [(0,1,(qi 4000)),(1,1,(qi 4000)),(2,1,(qi 300)),(3,1,(qi 60))]), .i (.call 15 155 false [(.s 12),(.s 13)]),qm 15 0, .i (.call 17 97 false [(.s 15),(qi 3)]), .i (.bin 17 .add (qi 3) (.s 16)), .i (.bld 18 [.int .i64 0, .int .i64 0, .int .i64 0, .int .i64 0, .int .i64 0] [(0,1,(.s 5)),(1,1,(.s 8)),(2,1,(.s 11)),(3,1,(.s 14)),(4,1,(.s 17))]),qs 2 2 18 5]) .ret))⟩
theorem za:cd m0=some pX:=by kernel_rfl
theorem Hb (b:Bytes) (i:Nat) (h:Int) (hi:i≤b.length) (hb:b.length≤1073741824):VC cd m0 (ic [] 133 (cur b i h) []) (fun r p=>∃x:aj×Nat×Int,(x.1.ok=true∧x.2.1≤b.length)∧r= [(true,x.1.e)]∧p= [.pt 133 (cur b x.2.1 x.2.2)]):=by
 refine aw za rfl ?_
 simp(disch:=omega) [pX,cur,VZ]
 refine cq (hQ b i h [1,3,4,4,7,9,10] (by simp) (by simp) hi hb) ?_
 rintro⟨k1,i1,h1⟩ ⟨g1,j1⟩
 simp only at g1 j1
 simp(disch:=omega) [cur,VZ]
 refine cq (hQ b i1 h1 [0,4,8,40] (by simp) (by simp) j1 hb) ?_
 rintro⟨k2,i2,h2⟩ ⟨g2,j2⟩
 simp only at g2 j2
 simp(disch:=omega) [cur,VZ]
 refine cq (hQ b i2 h2 [0,3,8] (by simp) (by simp) j2 hb) ?_
 rintro⟨k3,i3,h3⟩ ⟨g3,j3⟩
 simp only at g3 j3
 simp(disch:=omega) [cur,VZ]
 refine cq (hQ b i3 h3 [4000,4000,300,60] (by simp) (by simp) j3 hb) ?_
 rintro⟨k4,i4,h4⟩ ⟨g4,j4⟩
 simp only at g4 j4
 simp(disch:=omega) [cur,VZ]
 refine cq (an b i4 h4 3 (by omega) j4 hb) ?_
 rintro⟨k5,i5,h5⟩ ⟨g5,j5⟩
 simp only at g5 j5
 simp(disch:=omega) [cur,VZ]
 simp only[List.mem_cons,List.not_mem_nil,or_false]at g1 g2 g3 g4
 exact⟨⟨k1,k2,k3,k4,3+k5⟩,i5,⟨Kc (by simp only;omega) (by simp only;omega) (by simp only;omega) (by simp only;omega) (by simp only;omega),j5⟩,rfl,rfl⟩
end Go.Eng.F
namespace Go.Eng.F
theorem d5 (l:List Bytes) (x:Bytes):bz l++ [[.sl (bytes x)]]=bz (l++ [x]):=by simp[bz]
abbrev iB:Nat:=14
def iE:AF:=⟨1,5,[.cell 2 5 true],(.seq (.ops [.i (.lal 2 [.int .i64 0, .int .i64 0, .int .i64 0, .int .i64 0, .int .i64 0])]) (.seq (.ops [qm 5 0,qk 7 88 5,qm 3 6]) (.seq (.ops [qm 7 3,qm 8 3, .i (.nch 9 (.s 8)),qf 10 9 2, .i (.ldh 11 (.s 10) 1 false), .i (.bin 12 .add (.s 11) (qi 5)), .i (.nch 13 (.s 7)),qf 14 13 2, .i (.sth (.s 14) (.s 12) 1)]) (.seq (.ops [qm 15 3,qk 17 89 15, .i (.lal 4 [.int .i64 0, .int .i64 0, .int .i64 0, .int .i64 0, .int .i64 0]),qs 4 4 16 5]) (.seq (.ops [qf 17 4 3, .i (.stl 4 (.s 17) (qi 4000) 1)]) (.seq (.ops [ql 18 4 4 5 true,qs 2 2 18 5]) .ret))))))⟩
theorem uD:cd iB=some iE:=by kernel_rfl
theorem Bo (b:Bytes) (hb:b.length≤1073741824):VC cd iB (aH [(false,[.sl (bytes b)])]) (fun r _=>∃x:aj,(x.ok=true∧x.frame=4000)∧r= [(true,x.e)]):=by
 refine aa uD rfl ?_
 simp(disch:=omega) [iE,VY]
 refine Px (u6 b hb) ?_
 intro h _
 simp(disch:=omega) [cur,Dc,VZ]
 refine cq (Hb b 0 _ (Nat.zero_le _) hb) ?_ (n1:=by intro _;simp(disch:=omega) [aj.e,VZ]) (n3:=by intro _;simp(disch:=omega) [aj.e,VZ])
 rintro⟨l,i1,h1⟩ ⟨g1,j1⟩
 simp only at g1 j1
 simp(disch:=omega) [cur,aj.e,VZ]
 simp only[aj.ok,cw,Bool.and_eq_true,decide_eq_true_eq]at g1
 exact⟨⟨l.n,l.tx,l.txs,4000,l.heads⟩,⟨Kc g1.1.1.1.1 g1.1.1.1.2 g1.1.1.2 (by simp only;omega) g1.2,rfl⟩,rfl,rfl,rfl,rfl,rfl⟩
end Go.Eng.F
namespace Go.Eng.F
open Go.Eng.U (Fi df cO fZ EU mQ)
def Cb (l:aj) (t:List Bytes):Bool:=t.all fun x=>decide ((x.length:Int)≤l.tx)
theorem JL {l:aj} {t:List Bytes} (h:∀x∈t.take t.length,(x.length:Int)≤l.tx):Cb l t=true:=by
 rw[List.take_length]at h
 simpa[Cb]using h
theorem JY {l:aj} {t:List Bytes} {i:Nat} (hi:i < t.length) (h:l.tx < (t[i].length:Int)):Cb l t=false:=by
 simp only[Cb,List.all_eq_false]
 exact⟨t[i],List.getElem_mem hi,by simp;omega⟩
def cm (l:aj) (x:Block):Bool:=cE l x.head && decide ((x.txs.length:Int)≤l.txs) && Cb l x.txs && decide (x.head.root=aW x.txs)
abbrev py:Nat:=311
def mC:AF:=⟨2,6,[.tmp 4],(.seq (.ops [.i (.lbox 2 (.s 0)), .i (.lbox 3 (.s 1)), .i (.mov 4 (qb false))]) (.seq (.seq (.ops [ql 7 2 2 5 true,qf 8 3 0,ql 9 3 8 10 true, .i (.call 11 310 false [(.s 7),(.s 9)]), .i (.not 11 (.s 10)),qm 12 11, .g 12 false 14 (.fad 13 (.s 3) 10), .g 12 false 15 (.ldl 14 3 (.s 13) 1 false), .g 12 false 16 (.len 15 false (.s 14)), .g 12 false 17 (.fad 16 (.s 2) 2), .g 12 false 18 (.ldl 17 2 (.s 16) 1 false), .g 12 false 19 (.bin 18 .gtr (.s 15) (.s 17)), .i (.pick 19 (.s 12) (qb true) (.s 18))]) (.cond (.s 19) (.seq (.ops [.i (.mov 4 (qb false))]) .ret) .skip)) (.seq (.seq (.ops [qf 20 3 10,ql 21 3 20 1 false,qn 22 21, .i (.mov 23 (qi 0))]) (.block 0 (.loop [32,31,30,29,28,27,26,25,24,6] (.seq (.ops [qd 24 .lss 23 22]) (.seq (.cond (.s 24) .skip (.exit 0)) (.seq (.block 1 (.seq (.ops [.i (.iad 25 (.s 21) (.s 23) 1), .i (.ldh 26 (.s 25) 1 false),qm 6 26]) (.seq (.ops [qm 27 6,qn 28 27,qf 29 2 1,ql 30 2 29 1 false,qd 31 .gtr 28 30]) (.cond (.s 31) (.seq (.ops [.i (.mov 4 (qb false))]) .ret) .skip)))) (.ops [.i (.bin 32 .add (.s 23) (qi 1)),qm 23 32]))))))) (.seq (.ops [qf 33 3 0,qf 34 33 4,ql 35 3 34 1 false,qf 36 3 10,ql 37 3 36 1 false,qk 39 319 37, .i (.call 40 329 false [(.s 35),(.s 38)]),qm 4 39]) .ret))))⟩
theorem AH:cd py=some mC:=by kernel_rfl
theorem lH (l:aj) (x:Block) (hw:x.wc) (hx:∀t∈x.txs,t.length≤1073741823):VC cd py (aH [(true,l.c),(true,x.c)]) (fun rs _=>rs=bl (cm l x)):=by
 obtain⟨⟨w1,_⟩,w2,w3⟩:=hw
 simp only[Sz]at w2
 refine aa AH rfl ?_
 simp(disch:=omega) [mC,aj.c,Block.c,Head.c,VY]
 refine ah (gW l x.head w1) rfl rfl ?_
 simp(disch:=omega) [aB,VY]
 refine aA (fun h2=> ?_) (fun h2=> ?_)
 case refine_2=>simp(disch:=omega) [h2,cm,VY]
 simp(disch:=omega) [h2,aB,VY]
 refine ab (fun h3=> ?_) (fun h3=> ?_)
 ·simp(disch:=omega) [h2,h3,cm,show ¬(x.txs.length:Int)≤l.txs by omega,VY]
 simp(disch:=omega) [h2,h3,aB,VY]
 refine bd (σ:=Nat) (f1:=_) (es0:=_) (by simp(disch:=omega) [VY];rfl) (by simp(disch:=omega) [VY];rfl) (fun i=> [(23, .val false [.int .i64 i])]) (fun _=> []) (fun i g=>g+i=x.txs.length∧∀t∈x.txs.take i,(t.length:Int)≤l.tx) 0 x.txs.length (by simp(disch:=omega) [VY]) (by simp(disch:=omega) [VY]) ⟨by omega,by simp⟩ ?_
 rintro i n g ⟨hg,hi⟩
 simp(disch:=omega) [VY]
 refine ab (fun h1=> ?_) (fun h1=> ?_)
 ·have hix:i < x.txs.length:=by omega
  have w4:=hx _ (List.getElem_mem hix)
  simp(disch:=omega) [fN hix,ae,VY]
  refine ab (fun h4=> ?_) (fun h4=> ?_)
  ·simp(disch:=omega) [VY]
   simp[cm,JY hix (by omega)]
  ·simp(disch:=omega) [VY]
   exact⟨i+1,g - 1,by omega,⟨by omega,tW hi hix (by omega)⟩,by simp⟩
 ·have hl:i=x.txs.length:=by omega
  subst hl
  have ht:=JL hi
  simp(disch:=omega) [VY]
  refine ah (js _ x.txs rfl (by omega) hx) rfl rfl ?_
  simp(disch:=omega) [h2,h3,ht,VY]
  refine av (aN x.head.root (aW x.txs)) ?_
  simp(disch:=omega) [h2,h3,ht,cm,show(x.txs.length:Int)≤l.txs by omega,VY]
def eL (h:Head) (t:List Bytes):Block:=⟨⟨h.view,h.height,h.proposer,h.parent,aW t,h.qc⟩,t⟩
def yI (l:aj) (h:Head) (t:List Bytes):List (Bool×List E):=
 if cm l (eL h t)then [(true,[.p (.int .i64 h.view), .p (.int .i64 h.height), .p (.int .i64 h.proposer), .o true (some (5,1)) (bytes h.parent), .o true (some (5,1)) (bytes (aW t)), .p (.int .i64 h.qc.view), .p (.int .i64 h.qc.height), .o true (some (5,1)) (bytes h.qc.block), .o true (some (5,1)) (bytes h.qc.bits), .o true (some (22,1)) (bz h.qc.tags), .o true (some (22,1)) (bz t)]),(false,[.p (.bool true)])]
 else [(true,[.p (.int .i64 0), .p (.int .i64 0), .p (.int .i64 0), .p .nils, .p .nils, .p (.int .i64 0), .p (.int .i64 0), .p .nils, .p .nils, .p .nils, .p .nils]),(false,[.p (.bool false)])]
theorem wB {l:aj} {x:Block} (h:cm l x=true):x.txs.length≤8:=by
 simp only[cm,Bool.and_eq_true,decide_eq_true_eq]at h
 have h1:=h.1.1.1
 simp only[cE,Bool.and_eq_true]at h1
 have h2:=uI h1.1.1.1.1.1.1
 simp only[aj.ok,Bool.and_eq_true]at h2
 have h3:=dv h2.1.1.2
 omega
theorem xb {h:Head} {t:List Bytes} (hw:h.wc) (ht:oE t):(eL h t).wc:=by
 obtain⟨⟨w1,w2,w3,w4,w5,w6⟩,w7⟩:=hw
 exact⟨⟨⟨w1,w2,w3,w4,by show(aW t).length≤_;rw[eP];omega,w6⟩,w7⟩,ht⟩
abbrev gU:Nat:=269
def nH:AF:=⟨3,5,[.cell 6 11 true, .tmp 7],(.seq (.ops [.i (.lbox 3 (.s 0)), .i (.lbox 4 (.s 1)), .i (.lal 6 [.int .i64 0, .int .i64 0, .int .i64 0, .nils, .nils, .int .i64 0, .int .i64 0, .nils, .nils, .nils, .nils]), .i (.mov 7 (qb false))]) (.seq (.ops [ql 9 4 4 10 true,qk 11 267 9,qm 11 2,qk 13 316 11, .i (.bld 13 [.int .i64 0, .int .i64 0, .int .i64 0, .nils, .nils, .int .i64 0, .int .i64 0, .nils, .nils, .nils, .nils] [(0,10,(.s 10)),(10,1,(.s 12))]), .i (.lal 8 [.int .i64 0, .int .i64 0, .int .i64 0, .nils, .nils, .int .i64 0, .int .i64 0, .nils, .nils, .nils, .nils]),qs 8 8 13 11]) (.seq (.ops [qm 14 2,qk 16 319 14,qf 16 8 0,qf 17 16 4,qs 8 17 15 1]) (.seq (.seq (.ops [ql 18 3 3 5 true,ql 19 8 8 11 true, .i (.call 21 311 false [(.s 18),(.s 19)]), .i (.not 21 (.s 20))]) (.cond (.s 21) (.seq (.ops [.i (.bld 22 [.int .i64 0, .int .i64 0, .int .i64 0, .nils, .nils, .int .i64 0, .int .i64 0, .nils, .nils, .nils, .nils] []),qs 6 6 22 11, .i (.mov 7 (qb false))]) .ret) .skip)) (.seq (.ops [ql 23 8 8 11 true,qs 6 6 23 11, .i (.mov 7 (qb true))]) .ret)))))⟩
theorem A4:cd gU=some nH:=by kernel_rfl
theorem xL (l:aj) (h:Head) (t:List Bytes) (hw:h.wc) (ht:oE t) (hx:∀x∈t,x.length≤1073741823):VC cd gU (aH [(true,l.c),(true,h.c),(false,[.sl (bz t)])]) (fun rs _=>rs=yI l h t):=by
 have hl:=ht.1
 simp only[Sz]at hl
 refine aa A4 rfl ?_
 simp(disch:=omega) [nH,aj.c,Head.c,VY]
 refine ah (kr h hw) rfl rfl ?_
 simp(disch:=omega) [Head.o,VY]
 refine ah (ke t ht) rfl rfl ?_
 simp(disch:=omega) [VY]
 refine ah (js _ t rfl (by omega) hx) rfl rfl ?_
 simp(disch:=omega) [VY]
 have hq:=xb hw ht
 refine av (lH l (eL h t) hq hx) ?_
 simp(disch:=omega) [VY]
 refine aA (fun h1=> ?_) (fun h1=> ?_) <;>simp(disch:=omega) [h1,yI,VY]
end Go.Eng.F
namespace Go.Eng.F
open Go.Eng.U (Fi df cO fZ BU iN pk wN Oy ku EU)
structure Entry where
 who:Int
 high:Int
 tag:Bytes
def Entry.c (r:Entry):List D:= [.int .i64 r.who, .int .i64 r.high, .sl (bytes r.tag)]
def Entry.wf (r:Entry):Prop:=mq r.who∧mq r.high∧Sz r.tag.length
structure Tc where
 view:Int
 entries:List Entry
def kB (l:List Entry):List (List D):=l.map Entry.c
theorem d8 (l:List Entry):(kB l).length=l.length:=by simp[kB]
theorem qA {l:List Entry} {i:Nat} (h:i < l.length):(kB l)[i]? =some [.int .i64 l[i].who, .int .i64 l[i].high, .sl (bytes l[i].tag)]:=by simp[kB,h,Entry.c]
theorem Ku {l:List Entry} {i:Nat} (h:i < l.length):kB (l.take i)++ [[.int .i64 l[i].who, .int .i64 l[i].high, .sl (bytes l[i].tag)]]=kB (l.take (i+1)):=by
 have e:kB (l.take (i+1))=kB (l.take i)++kB [l[i]]:=by
  rw[List.take_add_one,List.getElem?_eq_getElem h];exact List.map_append
 rw[e];rfl
def Tc.c (t:Tc):List D:= [.int .i64 t.view, .sl (kB t.entries)]
def Tc.wf (t:Tc):Prop:=mq t.view∧Sz t.entries.length∧∀r∈t.entries,r.wf
abbrev pb:Nat:=271
def nU:AF:=⟨1,5,[.cell 2 2 true],(.seq (.ops [.i (.lbox 1 (.s 0)), .i (.lal 2 [.int .i64 0, .nils])]) (.seq (.ops [qf 6 1 0,ql 7 1 6 1 false, .i (.bld 8 [.int .i64 0, .nils] [(0,1,(.s 7))]), .i (.lal 3 [.int .i64 0, .nils]),qs 3 3 8 2]) (.seq (.seq (.ops [qf 9 1 1,ql 10 1 9 1 false,qn 11 10, .i (.mov 12 (qi 0))]) (.block 0 (.loop [29,28,27,26,25,24,23,22,21,20,19,18,17,16,15,14,13,5] (.seq (.ops [qd 13 .lss 12 11]) (.seq (.cond (.s 13) .skip (.exit 0)) (.seq (.block 1 (.seq (.ops [.i (.iad 14 (.s 10) (.s 12) 3), .i (.ldh 15 (.s 14) 3 true), .i (.lal 5 [.int .i64 0, .int .i64 0, .nils]),qs 5 5 15 3]) (.ops [qf 16 3 1,ql 17 3 16 1 false,qf 18 5 0,ql 19 5 18 1 false,qf 20 5 1,ql 21 5 20 1 false,qf 22 5 2,ql 23 5 22 1 false,qk 25 143 23, .i (.bld 25 [.int .i64 0, .int .i64 0, .nils] [(0,1,(.s 19)),(1,1,(.s 21)),(2,1,(.s 24))]), .i (.lsl 26 3 1 [.int .i64 0, .int .i64 0, .nils] [(0,3,(.s 25))]), .i (.app 27 165 3 40 (.s 17) (.s 26)),qf 28 3 1,qs 3 28 27 1]))) (.ops [.i (.bin 29 .add (.s 12) (qi 1)),qm 12 29]))))))) (.seq (.ops [ql 30 3 3 2 true,qs 2 2 30 2]) .ret))))⟩
theorem z6:cd pb=some nU:=by kernel_rfl
theorem GJ (t:Tc) (hw:t.wf):VC cd pb (aH [(true,t.c)]) (fun rs _=>rs= [(true,[.p (.int .i64 t.view), .o true (some (165,3)) (kB t.entries)])]):=by
 obtain⟨w0,w1,w2⟩:=hw
 simp only[Sz]at w1
 refine aa z6 rfl ?_
 simp(disch:=omega) [nU,Tc.c,d8,VY]
 refine ph (σ:=Nat×Nat) (f0:=_) (by simp(disch:=omega) [VY];rfl) (cN.xU (s:=3) (k:=3) (i:=1) rfl rfl) (f1:=_) (es0:=_) (by simp(disch:=omega) [VY];rfl) (by simp(disch:=omega) [VY];rfl) (fun p=> [(12, .val false [.int .i64 p.1]),(3, .box [.int .i64 t.view, .ow 3 p.2])]) (fun p=> [(3, .sl p.2 true true (some (165,3)) (kB (t.entries.take p.1)))])
  (fun p g=>g+p.1=t.entries.length) (0,_) t.entries.length (by simp(disch:=omega) [VY];rfl) (by simp(disch:=omega) [kB,VY]) (by omega) ?_
 rintro⟨i,v⟩ n g hg
 simp only at hg
 simp(disch:=omega) [VY]
 refine ab (fun h1=> ?_) (fun h1=> ?_)
 ·have hx:i < t.entries.length:=by omega
  have w3:=(w2 _ (List.getElem_mem hx)).2.2
  simp only[Sz]at w3
  simp(disch:=omega) [qA hx,VY]
  refine ah (aY t.entries[i].tag (by omega)) rfl rfl ?_
  have hl:(kB (t.entries.take i)).length=i:=by rw[d8];simp;omega
  simp(disch:=omega) [hl,Ku hx,VY]
  exact⟨i+1,n+1,g - 1,by omega,by omega,⟨by omega,by omega⟩,by omega,rfl⟩
 ·simp(disch:=omega) [VY]
  have:i=t.entries.length:=by omega
  subst this
  rw[List.take_length]
def Cc (t:Tc):List (Bool×List E):= [(true,[.p (.int .i64 5), .p (.int .i64 0), .p (.int .i64 0), .p .nils, .p (.int .i64 0), .p .nils, .p (.int .i64 0), .p (.int .i64 0), .p .nils, .p .nils, .p .nils, .p (.int .i64 0), .p (.int .i64 0), .p (.int .i64 0), .p .nils, .p .nils, .p (.int .i64 0), .p (.int .i64 0), .p .nils, .p .nils, .p .nils, .p (.int .i64 0), .p (.int .i64 0), .p (.int .i64 0), .p .nils, .p .nils, .p (.int .i64 0), .p (.int .i64 0), .p .nils, .p .nils, .p .nils, .p .nils, .p (.int .i64 t.view), .o true (some (165,3)) (kB t.entries), .p .nils, .p (.int .i64 0), .p (.int .i64 0), .p .nils, .p .nils, .p .nils, .p (.int .i64 0), .p (.int .i64 0), .p (.int .i64 0), .p .nils, .p .nils])]
abbrev wG:Nat:=190
def wK:AF:=⟨1,3,[.cell 2 45 true],(.seq (.ops [.i (.lbox 1 (.s 0)), .i (.lal 2 [.int .i64 0, .int .i64 0, .int .i64 0, .nils, .int .i64 0, .nils, .int .i64 0, .int .i64 0, .nils, .nils, .nils, .int .i64 0, .int .i64 0, .int .i64 0, .nils, .nils, .int .i64 0, .int .i64 0, .nils, .nils, .nils, .int .i64 0, .int .i64 0, .int .i64 0, .nils, .nils, .int .i64 0, .int .i64 0, .nils, .nils, .nils, .nils, .int .i64 0, .nils, .nils, .int .i64 0, .int .i64 0, .nils, .nils, .nils, .int .i64 0, .int .i64 0, .int .i64 0, .nils, .nils])]) (.seq (.ops [ql 3 1 1 2 true,qk 5 271 3, .i (.bld 5 [.int .i64 0, .int .i64 0, .int .i64 0, .nils, .int .i64 0, .nils, .int .i64 0, .int .i64 0, .nils, .nils, .nils, .int .i64 0, .int .i64 0, .int .i64 0, .nils, .nils, .int .i64 0, .int .i64 0, .nils, .nils, .nils, .int .i64 0, .int .i64 0, .int .i64 0, .nils, .nils, .int .i64 0, .int .i64 0, .nils, .nils, .nils, .nils, .int .i64 0, .nils, .nils, .int .i64 0, .int .i64 0, .nils, .nils, .nils, .int .i64 0, .int .i64 0, .int .i64 0, .nils, .nils] [(0,1,(qi 5)),(32,2,(.s 4))]),qs 2 2 5 45]) .ret))⟩
theorem Ew:cd wG=some wK:=by kernel_rfl
theorem um (t:Tc) (hw:t.wf):VC cd wG (aH [(true,t.c)]) (fun rs _=>rs=Cc t):=by
 refine aa Ew rfl ?_
 simp(disch:=omega) [wK,Tc.c,VY]
 refine ah (GJ t hw) rfl rfl ?_
 simp(disch:=omega) [Cc,VY]
def Entry.tv (x:Entry):Tv:= .r [.i x.who, .i x.high,A9 x.tag]
theorem Entry.enc (x:Entry):enc ku x.tv=x.c:=by simp only[Entry.tv,eh,bW,cG,d7,eK,iF,f7,dZ,fU,Entry.c,List.cons_append,List.nil_append,List.append_assoc]
theorem Entry.ex {v:Tv} (h:aG ku v):∃x:Entry,v=x.tv:=by
 obtain⟨vs,rfl,h⟩:=h.st
 obtain⟨v0,_,rfl,h0,h⟩:=h.step
 obtain⟨v1,_,rfl,h1,h⟩:=h.step
 obtain⟨v2,_,rfl,h2,h⟩:=h.step
 obtain rfl:=h.fin
 obtain⟨n0,rfl,_⟩:=h0.int
 obtain⟨n1,rfl,_⟩:=h1.int
 obtain⟨n2,rfl⟩:=f8 h2
 exact⟨⟨n0,n1,n2⟩,rfl⟩
theorem Entry.of {x:Entry} (h:aG ku x.tv) (hw:wt x.tv≤1048576):x.wf:=by
 simp only[Entry.tv,fY,cH]at h
 simp only[Entry.tv,wt,xN]at hw
 obtain⟨h0,h1,h2,_⟩:=h
 exact⟨dz (ok_int.1 h0),dz (ok_int.1 h1),rB (by omega)⟩
def G6 (l:List Entry):Tv:= .l (l.map Entry.tv)
theorem LZ (l:List Entry):enc (.sl ku) (G6 l)= [.sl (kB l)]:=by
 simp only[G6,Ed,List.map_map,kB]
 congr 2
 exact List.map_congr_left fun x _=>Entry.enc x
theorem Lz {v:Tv} (h:aG (.sl ku) v):∃l,v=G6 l:=by
 obtain⟨xs,rfl,_,h2⟩:=h.sl
 obtain⟨ys,rfl⟩:=qx (f:=Entry.tv) (P:=aG ku) (fun v hv=>Entry.ex hv) h2
 exact⟨ys,rfl⟩
theorem Oo {l:List Entry} (h:aG (.sl ku) (G6 l)) (hw:wt (G6 l)≤1048576):Sz l.length∧∀x∈l,x.wf:=by
 unfold G6 at h hw
 rw[JZ]at hw
 have h2:=(Kt.1 h).2
 simp only[List.length_map]at hw
 refine⟨by unfold Sz;omega,fun x hx=>Entry.of (h2 _ (List.mem_map_of_mem hx)) ?_⟩
 have:=tE (f:=Entry.tv) hx
 omega
def Tc.tv (x:Tc):Tv:= .r [.i x.view,G6 x.entries]
theorem Tc.enc (x:Tc):enc Oy x.tv=x.c:=by simp only[Tc.tv,LZ,eh,bW,cG,d7,eK,iF,f7,dZ,fU,Tc.c,List.cons_append,List.nil_append,List.append_assoc]
theorem Tc.ex {v:Tv} (h:aG Oy v):∃x:Tc,v=x.tv:=by
 obtain⟨vs,rfl,h⟩:=h.st
 obtain⟨v0,_,rfl,h0,h⟩:=h.step
 obtain⟨v1,_,rfl,h1,h⟩:=h.step
 obtain rfl:=h.fin
 obtain⟨n0,rfl,_⟩:=h0.int
 obtain⟨n1,rfl⟩:=Lz h1
 exact⟨⟨n0,n1⟩,rfl⟩
theorem Tc.of {x:Tc} (h:aG Oy x.tv) (hw:wt x.tv≤1048576):x.wf:=by
 simp only[Tc.tv,fY,cH]at h
 simp only[Tc.tv,wt,xN]at hw
 obtain⟨h0,h1,_⟩:=h
 exact⟨dz (ok_int.1 h0),Oo h1 (by omega)⟩
end Go.Eng.F
namespace Go.Eng.F
theorem G5 {α:Type} {a b:List α} {i:Nat} (hd:∀j,j < i→a[j]? =b[j]?) (h:a[i]? =b[i]?):∀j,j < i+1→a[j]? =b[j]? :=fun j hj=>by
 rcases Nat.lt_or_ge j i with hl|hl
 ·exact hd j hl
 ·obtain rfl:j=i:=by omega
  exact h
theorem Jf {α:Type} {a b:List α} (hl:a.length=b.length) (hd:∀j,j < b.length→a[j]? =b[j]?):a=b:=by
 apply List.ext_getElem?
 intro j
 rcases Nat.lt_or_ge j b.length with h|h
 ·exact hd j h
 ·rw[List.getElem?_eq_none_iff.2 h,List.getElem?_eq_none_iff.2 (by omega)]
abbrev kY:Nat:=336
def kN:AF:=⟨2,5,[.tmp 4],(.seq (.ops [.i (.mov 4 (qb false))]) (.seq (.seq (.ops [qm 6 0,qn 7 6,qm 8 1,qn 9 8,qd 10 .neq 7 9]) (.cond (.s 10) (.seq (.ops [.i (.mov 4 (qb false))]) .ret) .skip)) (.seq (.seq (.ops [qm 11 0,qn 12 11, .i (.mov 13 (qi 0))]) (.block 0 (.loop [26,25,24,23,22,21,20,19,18,17,16,15,14,5] (.seq (.ops [qd 14 .lss 13 12]) (.seq (.cond (.s 14) .skip (.exit 0)) (.seq (.block 1 (.seq (.ops [qm 15 13,qm 5 15]) (.seq (.ops [qm 16 0,qm 17 5, .i (.iad 18 (.s 16) (.s 17) 1), .i (.ldh 19 (.s 18) 1 false),qm 20 1,qm 21 5, .i (.iad 22 (.s 20) (.s 21) 1), .i (.ldh 23 (.s 22) 1 false), .i (.call 25 329 false [(.s 19),(.s 23)]), .i (.not 25 (.s 24))]) (.cond (.s 25) (.seq (.ops [.i (.mov 4 (qb false))]) .ret) .skip)))) (.ops [.i (.bin 26 .add (.s 13) (qi 1)),qm 13 26]))))))) (.seq (.ops [.i (.mov 4 (qb true))]) .ret))))⟩
theorem xy:cd kY=some kN:=by kernel_rfl
theorem fK (a b:List Bytes) (ha:Sz a.length) (hb:Sz b.length):VC cd kY (aH [(false,[.sl (bz a)]),(false,[.sl (bz b)])]) (fun rs _=>rs=bl (decide (a=b))):=by
 simp only[Sz]at ha hb
 refine aa xy rfl ?_
 simp(disch:=omega) [kN,aB,VY]
 refine ab (fun h1=> ?_) (fun h1=> ?_)
 case refine_2=>
  have hn:¬a=b:=fun e=>h1 (by rw[e])
  simp(disch:=omega) [h1,hn,VY]
 simp(disch:=omega) [h1,aB,VY]
 refine bH (σ:=Nat) (f1:=_) (es0:=_) (by simp(disch:=omega) [VY];rfl) (by simp(disch:=omega) [VY];rfl) (fun i=> [(13, .val false [.int .i64 (i:Int)])]) (fun _=> []) (fun i g=>g+i=b.length∧∀j,j < i→a[j]? =b[j]?) 0 b.length (by simp(disch:=omega) [h1,VY]) (by simp(disch:=omega) [VY]) ⟨by omega,fun j hj=>by omega⟩ ?_
 rintro i n g ⟨hg,hd⟩ P hP
 simp(disch:=omega) [h1,VY]
 refine ab (fun h2=> ?_) (fun h2=> ?_)
 ·have hi:i < a.length:=by omega
  have hj:i < b.length:=by omega
  simp(disch:=omega) [fN hi,fN hj,VY]
  refine av (aN a[i] b[i]) ?_
  simp(disch:=omega) [VY]
  refine ab (fun h3=> ?_) (fun h3=> ?_)
  ·simp(disch:=omega) [h3,VY]
   exact hP (i+1) (g - 1) _ _ (by omega) ⟨by omega,G5 hd (by simp[hi,hj,h3])⟩ (by simp(disch:=omega) [VY]) (by simp(disch:=omega) [VY])
  ·have hn:¬a=b:=fun e=>h3 (by subst e;rfl)
   simp(disch:=omega) [h3,hn,VY]
 ·have he:a=b:=Jf (by omega) (fun j hj=>hd j (by omega))
  simp(disch:=omega) [he,VY]
def Ar (a b:Qc):Bool:=decide (a.view=b.view) && decide (a.height=b.height) && decide (a.block=b.block) && decide (a.bits=b.bits) && decide (a.tags=b.tags)
abbrev rE:Nat:=299
def rm:AF:=⟨2,6,[.tmp 4],(.seq (.ops [.i (.lbox 2 (.s 0)), .i (.lbox 3 (.s 1)), .i (.mov 4 (qb false))]) (.seq (.ops [qf 5 2 0,ql 6 2 5 1 false,qf 7 3 0,ql 8 3 7 1 false,qd 9 .eql 6 8,qm 10 9, .g 10 true 12 (.fad 11 (.s 2) 1), .g 10 true 13 (.ldl 12 2 (.s 11) 1 false), .g 10 true 14 (.fad 13 (.s 3) 1), .g 10 true 15 (.ldl 14 3 (.s 13) 1 false), .g 10 true 16 (.bin 15 .eql (.s 12) (.s 14)), .i (.pick 16 (.s 10) (.s 15) (qb false)),qm 17 16, .g 17 true 19 (.fad 18 (.s 2) 2), .g 17 true 20 (.ldl 19 2 (.s 18) 1 false), .g 17 true 21 (.fad 20 (.s 3) 2), .g 17 true 22 (.ldl 21 3 (.s 20) 1 false), .g 17 true 23 (.call 23 329 false [(.s 19),(.s 21)]), .i (.pick 23 (.s 17) (.s 22) (qb false)),qm 24 23, .g 24 true 26 (.fad 25 (.s 2) 3), .g 24 true 27 (.ldl 26 2 (.s 25) 1 false), .g 24 true 28 (.fad 27 (.s 3) 3), .g 24 true 29 (.ldl 28 3 (.s 27) 1 false), .g 24 true 30 (.call 30 329 false [(.s 26),(.s 28)]), .i (.pick 30 (.s 24) (.s 29) (qb false)),qm 31 30, .g 31 true 33 (.fad 32 (.s 2) 4), .g 31 true 34 (.ldl 33 2 (.s 32) 1 false), .g 31 true 35 (.fad 34 (.s 3) 4), .g 31 true 36 (.ldl 35 3 (.s 34) 1 false), .g 31 true 37 (.call 37 336 false [(.s 33),(.s 35)]), .i (.pick 37 (.s 31) (.s 36) (qb false)),qm 4 37]) .ret))⟩
theorem BM:cd rE=some rm:=by kernel_rfl
theorem gQ (a b:Qc) (ha:a.wf) (hb:b.wf):VC cd rE (aH [(true,a.c),(true,b.c)]) (fun rs _=>rs=bl (Ar a b)):=by
 refine aa BM rfl ?_
 simp(disch:=omega) [rm,Qc.c,VY]
 refine ab (fun h1=> ?_) (fun h1=> ?_) <;>simp(disch:=omega) [h1,Ar,VY]
 refine ab (fun h2=> ?_) (fun h2=> ?_) <;>simp(disch:=omega) [h1,h2,VY]
 refine av (aN a.block b.block) ?_
 simp(disch:=omega) [h1,h2,VY]
 refine ab (fun h3=> ?_) (fun h3=> ?_) <;>simp(disch:=omega) [h1,h2,h3,VY]
 refine av (aN a.bits b.bits) ?_
 simp(disch:=omega) [h1,h2,h3,VY]
 refine ab (fun h4=> ?_) (fun h4=> ?_) <;>simp(disch:=omega) [h1,h2,h3,h4,VY]
 refine av (fK a.tags b.tags ha.2.2.2.2 hb.2.2.2.2) ?_
 simp(disch:=omega) [h1,h2,h3,h4,VY]
def jx (a b:Head):Bool:=decide (a.view=b.view) && decide (a.height=b.height) && decide (a.proposer=b.proposer) && decide (a.parent=b.parent) && decide (a.root=b.root) && Ar a.qc b.qc
abbrev lM:Nat:=300
def ll:AF:=⟨2,6,[.tmp 4],(.seq (.ops [.i (.lbox 2 (.s 0)), .i (.lbox 3 (.s 1)), .i (.mov 4 (qb false))]) (.seq (.ops [qf 5 2 0,ql 6 2 5 1 false,qf 7 3 0,ql 8 3 7 1 false,qd 9 .eql 6 8,qm 10 9, .g 10 true 12 (.fad 11 (.s 2) 1), .g 10 true 13 (.ldl 12 2 (.s 11) 1 false), .g 10 true 14 (.fad 13 (.s 3) 1), .g 10 true 15 (.ldl 14 3 (.s 13) 1 false), .g 10 true 16 (.bin 15 .eql (.s 12) (.s 14)), .i (.pick 16 (.s 10) (.s 15) (qb false)),qm 17 16, .g 17 true 19 (.fad 18 (.s 2) 2), .g 17 true 20 (.ldl 19 2 (.s 18) 1 false), .g 17 true 21 (.fad 20 (.s 3) 2), .g 17 true 22 (.ldl 21 3 (.s 20) 1 false), .g 17 true 23 (.bin 22 .eql (.s 19) (.s 21)), .i (.pick 23 (.s 17) (.s 22) (qb false)),qm 24 23, .g 24 true 26 (.fad 25 (.s 2) 3), .g 24 true 27 (.ldl 26 2 (.s 25) 1 false), .g 24 true 28 (.fad 27 (.s 3) 3), .g 24 true 29 (.ldl 28 3 (.s 27) 1 false), .g 24 true 30 (.call 30 329 false [(.s 26),(.s 28)]), .i (.pick 30 (.s 24) (.s 29) (qb false)),qm 31 30, .g 31 true 33 (.fad 32 (.s 2) 4), .g 31 true 34 (.ldl 33 2 (.s 32) 1 false), .g 31 true 35 (.fad 34 (.s 3) 4), .g 31 true 36 (.ldl 35 3 (.s 34) 1 false), .g 31 true 37 (.call 37 329 false [(.s 33),(.s 35)]), .i (.pick 37 (.s 31) (.s 36) (qb false)),qm 38 37, .g 38 true 40 (.fad 39 (.s 2) 5), .g 38 true 41 (.ldl 40 2 (.s 39) 5 true), .g 38 true 42 (.fad 41 (.s 3) 5), .g 38 true 43 (.ldl 42 3 (.s 41) 5 true), .g 38 true 44 (.call 44 299 false [(.s 40),(.s 42)]), .i (.pick 44 (.s 38) (.s 43) (qb false)),qm 4 44]) .ret))⟩
theorem xG:cd lM=some ll:=by kernel_rfl
theorem fJ (a b:Head) (ha:a.wf) (hb:b.wf):VC cd lM (aH [(true,a.c),(true,b.c)]) (fun rs _=>rs=bl (jx a b)):=by
 refine aa xG rfl ?_
 simp(disch:=omega) [ll,Head.c,VY]
 refine ab (fun h1=> ?_) (fun h1=> ?_) <;>simp(disch:=omega) [h1,jx,VY]
 refine ab (fun h2=> ?_) (fun h2=> ?_) <;>simp(disch:=omega) [h1,h2,VY]
 refine ab (fun h3=> ?_) (fun h3=> ?_) <;>simp(disch:=omega) [h1,h2,h3,VY]
 refine av (aN a.parent b.parent) ?_
 simp(disch:=omega) [h1,h2,h3,VY]
 refine ab (fun h4=> ?_) (fun h4=> ?_) <;>simp(disch:=omega) [h1,h2,h3,h4,VY]
 refine av (aN a.root b.root) ?_
 simp(disch:=omega) [h1,h2,h3,h4,VY]
 refine ab (fun h5=> ?_) (fun h5=> ?_) <;>simp(disch:=omega) [h1,h2,h3,h4,h5,VY]
 refine av (gQ a.qc b.qc ha.2.2.2.2.2 hb.2.2.2.2.2) ?_ (ha:=by first|rfl|(simp[Qc.c,VY] <;>repeat' constructor))
 simp(disch:=omega) [h1,h2,h3,h4,h5,VY]
def vB (a b:Block):Bool:=jx a.head b.head && decide (a.txs=b.txs)
abbrev jk:Nat:=301
def jU:AF:=⟨2,5,[.tmp 4],(.seq (.ops [.i (.lbox 2 (.s 0)), .i (.lbox 3 (.s 1)), .i (.mov 4 (qb false))]) (.seq (.ops [qf 5 2 0,ql 6 2 5 10 true,qf 7 3 0,ql 8 3 7 10 true, .i (.call 10 300 false [(.s 6),(.s 8)]),qm 10 9, .g 10 true 12 (.fad 11 (.s 2) 10), .g 10 true 13 (.ldl 12 2 (.s 11) 1 false), .g 10 true 14 (.fad 13 (.s 3) 10), .g 10 true 15 (.ldl 14 3 (.s 13) 1 false), .g 10 true 16 (.call 16 336 false [(.s 12),(.s 14)]), .i (.pick 16 (.s 10) (.s 15) (qb false)),qm 4 16]) .ret))⟩
theorem vX:cd jk=some jU:=by kernel_rfl
theorem uz (a b:Block) (ha:a.wc) (hb:b.wc):VC cd jk (aH [(true,a.c),(true,b.c)]) (fun rs _=>rs=bl (vB a b)):=by
 refine aa vX rfl ?_
 simp(disch:=omega) [jU,Block.c,Head.c,VY]
 refine av (fJ a.head b.head ha.1.1 hb.1.1) ?_ (ha:=by first|rfl|(simp[Head.c,VY] <;>repeat' constructor))
 simp(disch:=omega) [VY]
 refine aA (fun h1=> ?_) (fun h1=> ?_) <;>simp(disch:=omega) [h1,vB,VY]
 refine av (fK a.txs b.txs ha.2.1 hb.2.1) ?_
 simp(disch:=omega) [h1,VY]
structure bm where
 height:Int
 n:Int
 idx:Int
 tx:Bytes
 path:List Bytes
def bm.c (x:bm):List D:= [.int .i64 x.height, .int .i64 x.n, .int .i64 x.idx, .sl (bytes x.tx), .sl (bz x.path)]
def bm.wc (x:bm):Prop:=mq x.height∧mq x.n∧mq x.idx∧Sz x.tx.length∧oE x.path
def bm.o (x:bm):List E:= [.p (.int .i64 x.height), .p (.int .i64 x.n), .p (.int .i64 x.idx), .o true (some (5,1)) (bytes x.tx), .o true (some (22,1)) (bz x.path)]
def Az (a b:bm):Bool:=decide (a.height=b.height) && decide (a.n=b.n) && decide (a.idx=b.idx) && decide (a.tx=b.tx) && decide (a.path=b.path)
abbrev lI:Nat:=304
def lQ:AF:=⟨2,6,[.tmp 4],(.seq (.ops [.i (.lbox 2 (.s 0)), .i (.lbox 3 (.s 1)), .i (.mov 4 (qb false))]) (.seq (.ops [qf 5 2 0,ql 6 2 5 1 false,qf 7 3 0,ql 8 3 7 1 false,qd 9 .eql 6 8,qm 10 9, .g 10 true 12 (.fad 11 (.s 2) 1), .g 10 true 13 (.ldl 12 2 (.s 11) 1 false), .g 10 true 14 (.fad 13 (.s 3) 1), .g 10 true 15 (.ldl 14 3 (.s 13) 1 false), .g 10 true 16 (.bin 15 .eql (.s 12) (.s 14)), .i (.pick 16 (.s 10) (.s 15) (qb false)),qm 17 16, .g 17 true 19 (.fad 18 (.s 2) 2), .g 17 true 20 (.ldl 19 2 (.s 18) 1 false), .g 17 true 21 (.fad 20 (.s 3) 2), .g 17 true 22 (.ldl 21 3 (.s 20) 1 false), .g 17 true 23 (.bin 22 .eql (.s 19) (.s 21)), .i (.pick 23 (.s 17) (.s 22) (qb false)),qm 24 23, .g 24 true 26 (.fad 25 (.s 2) 3), .g 24 true 27 (.ldl 26 2 (.s 25) 1 false), .g 24 true 28 (.fad 27 (.s 3) 3), .g 24 true 29 (.ldl 28 3 (.s 27) 1 false), .g 24 true 30 (.call 30 329 false [(.s 26),(.s 28)]), .i (.pick 30 (.s 24) (.s 29) (qb false)),qm 31 30, .g 31 true 33 (.fad 32 (.s 2) 4), .g 31 true 34 (.ldl 33 2 (.s 32) 1 false), .g 31 true 35 (.fad 34 (.s 3) 4), .g 31 true 36 (.ldl 35 3 (.s 34) 1 false), .g 31 true 37 (.call 37 336 false [(.s 33),(.s 35)]), .i (.pick 37 (.s 31) (.s 36) (qb false)),qm 4 37]) .ret))⟩
theorem xM:cd lI=some lQ:=by kernel_rfl
theorem vZ (a b:bm) (ha:a.wc) (hb:b.wc):VC cd lI (aH [(true,a.c),(true,b.c)]) (fun rs _=>rs=bl (Az a b)):=by
 refine aa xM rfl ?_
 simp(disch:=omega) [lQ,bm.c,VY]
 refine ab (fun h1=> ?_) (fun h1=> ?_) <;>simp(disch:=omega) [h1,Az,VY]
 refine ab (fun h2=> ?_) (fun h2=> ?_) <;>simp(disch:=omega) [h1,h2,VY]
 refine ab (fun h3=> ?_) (fun h3=> ?_) <;>simp(disch:=omega) [h1,h2,h3,VY]
 refine av (aN a.tx b.tx) ?_
 simp(disch:=omega) [h1,h2,h3,VY]
 refine ab (fun h4=> ?_) (fun h4=> ?_) <;>simp(disch:=omega) [h1,h2,h3,h4,VY]
 refine av (fK a.path b.path ha.2.2.2.2.1 hb.2.2.2.2.1) ?_
 simp(disch:=omega) [h1,h2,h3,h4,VY]
abbrev nQ:Nat:=275
def nP:AF:=⟨1,5,[.cell 2 5 true],(.seq (.ops [.i (.lbox 1 (.s 0)), .i (.lal 2 [.int .i64 0, .int .i64 0, .int .i64 0, .nils, .nils])]) (.seq (.ops [qf 3 1 0,ql 4 1 3 1 false,qf 5 1 1,ql 6 1 5 1 false,qf 7 1 2,ql 8 1 7 1 false,qf 9 1 3,ql 10 1 9 1 false,qk 12 143 10,qf 12 1 4,ql 13 1 12 1 false,qk 15 316 13, .i (.bld 15 [.int .i64 0, .int .i64 0, .int .i64 0, .nils, .nils] [(0,1,(.s 4)),(1,1,(.s 6)),(2,1,(.s 8)),(3,1,(.s 11)),(4,1,(.s 14))]),qs 2 2 15 5]) .ret))⟩
theorem zr:cd nQ=some nP:=by kernel_rfl
theorem GI (x:bm) (hw:x.wc):VC cd nQ (aH [(true,x.c)]) (fun rs _=>rs= [(true,x.o)]):=by
 have w:=hw.2.2.2.1
 simp only[Sz]at w
 refine aa zr rfl ?_
 simp(disch:=omega) [nP,bm.c,VY]
 refine av (aY x.tx (by omega)) ?_
 simp(disch:=omega) [VY]
 refine av (ke x.path hw.2.2.2.2) ?_
 simp(disch:=omega) [bm.o,VY]
def dK {α:Type} (f:α→α→Bool) (a b:List α):Bool:=decide (a.length=b.length) && (List.range b.length).all fun i=>match a[i]?,b[i]? with|some x,some y=>f x y|_,_=>false
theorem wA {α:Type} {f:α→α→Bool} {a b:List α} (h:¬a.length=b.length):dK f a b=false:=by unfold dK;rw[decide_eq_false h];rfl
theorem kx {α:Type} {f:α→α→Bool} {a b:List α} {i:Nat} (hi:i < a.length) (hj:i < b.length) (h:f a[i] b[i]=false):dK f a b=false:=by
 unfold dK
 rw[Bool.and_eq_false_iff]
 right
 rw[List.all_eq_false]
 exact⟨i,by simp[hj],by simp[hi,hj,h]⟩
theorem wz {α:Type} {f:α→α→Bool} {a b:List α} (hl:a.length=b.length) (h:∀i,i < b.length→(hi:i < a.length)→(hj:i < b.length)→f a[i] b[i]=true):dK f a b=true:=by
 unfold dK
 rw[Bool.and_eq_true,List.all_eq_true]
 refine⟨by simp[hl],fun i hi=> ?_⟩
 have hj:i < b.length:=by simpa using hi
 have hi2:i < a.length:=by omega
 simp[hi2,hj,h i hj hi2 hj]
theorem F6 {α:Type} {f:α→α→Bool} {a b:List α} {i:Nat} (hd:∀j,j < i→(hi:j < a.length)→(hj:j < b.length)→f a[j] b[j]=true) {hi:i < a.length} {hj:i < b.length} (h:f a[i] b[i]=true):∀j,j < i+1→(hi:j < a.length)→(hj:j < b.length)→f a[j] b[j]=true:=fun j h2 hx hy=>by
 rcases Nat.lt_or_ge j i with hl|hl
 ·exact hd j hl hx hy
 ·obtain rfl:j=i:=by omega
  exact h
def qq (a b:List Head):Bool:=dK jx a b
def iV (a b:Proof):Bool:=qq a.heads b.heads && Ar a.qc b.qc
abbrev kc:Nat:=303
def jO:AF:=⟨2,6,[.tmp 4],(.seq (.ops [.i (.lbox 2 (.s 0)), .i (.lbox 3 (.s 1)), .i (.mov 4 (qb false))]) (.seq (.seq (.ops [qf 6 2 0,ql 7 2 6 1 false,qn 8 7,qf 9 3 0,ql 10 3 9 1 false,qn 11 10,qd 12 .neq 8 11]) (.cond (.s 12) (.seq (.ops [.i (.mov 4 (qb false))]) .ret) .skip)) (.seq (.seq (.ops [qf 13 2 0,ql 14 2 13 1 false,qn 15 14, .i (.mov 16 (qi 0))]) (.block 0 (.loop [31,30,29,28,27,26,25,24,23,22,21,20,19,18,17,5] (.seq (.ops [qd 17 .lss 16 15]) (.seq (.cond (.s 17) .skip (.exit 0)) (.seq (.block 1 (.seq (.ops [qm 18 16,qm 5 18]) (.seq (.ops [qf 19 2 0,ql 20 2 19 1 false,qm 21 5, .i (.iad 22 (.s 20) (.s 21) 10), .i (.ldh 23 (.s 22) 10 true),qf 24 3 0,ql 25 3 24 1 false,qm 26 5, .i (.iad 27 (.s 25) (.s 26) 10), .i (.ldh 28 (.s 27) 10 true), .i (.call 30 300 false [(.s 23),(.s 28)]), .i (.not 30 (.s 29))]) (.cond (.s 30) (.seq (.ops [.i (.mov 4 (qb false))]) .ret) .skip)))) (.ops [.i (.bin 31 .add (.s 16) (qi 1)),qm 16 31]))))))) (.seq (.ops [qf 32 2 1,ql 33 2 32 5 true,qf 34 3 1,ql 35 3 34 5 true, .i (.call 37 299 false [(.s 33),(.s 35)]),qm 4 36]) .ret))))⟩
theorem vI:cd kc=some jO:=by kernel_rfl
theorem uO (a b:Proof) (ha:a.wf) (hb:b.wf):VC cd kc (aH [(true,a.c),(true,b.c)]) (fun rs _=>rs=bl (iV a b)):=by
 obtain⟨⟨w1,w2⟩,wa⟩:=ha
 obtain⟨⟨w3,w4⟩,wb⟩:=hb
 simp only[Sz]at w1 w3
 refine aa vI rfl ?_
 simp(disch:=omega) [jO,Proof.c,dq,VY]
 refine ab (fun h1=> ?_) (fun h1=> ?_)
 case refine_2=>
  have hn:qq a.heads b.heads=false:=wA (fun e=>h1 (by omega))
  simp(disch:=omega) [h1,hn,iV,VY]
 simp(disch:=omega) [h1,dq,VY]
 refine bH (σ:=Nat) (f1:=_) (es0:=_) (by simp(disch:=omega) [VY];rfl) (by simp(disch:=omega) [VY];rfl) (fun i=> [(16, .val false [.int .i64 (i:Int)])]) (fun _=> []) (fun i g=>g+i=b.heads.length∧∀j,j < i→(hi:j < a.heads.length)→(hj:j < b.heads.length)→jx a.heads[j] b.heads[j]=true) 0 b.heads.length (by simp(disch:=omega) [h1,VY]) (by simp(disch:=omega) [VY]) ⟨by omega,fun j hj=>by omega⟩ ?_
 rintro i n g ⟨hg,hd⟩ P hP
 simp(disch:=omega) [h1,VY]
 refine ab (fun h2=> ?_) (fun h2=> ?_)
 ·have hi:i < a.heads.length:=by omega
  have hj:i < b.heads.length:=by omega
  simp(disch:=omega) [kF hi,kF hj,Head.c,VY]
  refine av (fJ a.heads[i] b.heads[i] (w2 _ (List.getElem_mem hi)) (w4 _ (List.getElem_mem hj))) ?_ (ha:=by first|rfl|(simp[Head.c,VY] <;>repeat' constructor))
  simp(disch:=omega) [VY]
  refine aA (fun h3=> ?_) (fun h3=> ?_)
  ·simp(disch:=omega) [h3,VY]
   exact hP (i+1) (g - 1) _ _ (by omega) ⟨by omega,F6 hd h3⟩ (by simp(disch:=omega) [VY]) (by simp(disch:=omega) [VY])
  ·simp(disch:=omega) [h3,show qq a.heads b.heads=false from kx hi hj h3,iV,VY]
 ·have he:qq a.heads b.heads=true:=wz (by omega) (fun i h hi hj=>hd i (by omega) hi hj)
  simp(disch:=omega) [VY]
  refine av (gQ a.qc b.qc wa wb) ?_ (ha:=by first|rfl|(simp[Qc.c,VY] <;>repeat' constructor))
  simp(disch:=omega) [he,iV,VY]
def eU (a b:Entry):Bool:=decide (a.who=b.who) && decide (a.high=b.high) && decide (a.tag=b.tag)
def m9 (a b:Tc):Bool:=decide (a.view=b.view) && dK eU a.entries b.entries
abbrev ri:Nat:=302
def ry:AF:=⟨2,6,[.tmp 4],(.seq (.ops [.i (.lbox 2 (.s 0)), .i (.lbox 3 (.s 1)), .i (.mov 4 (qb false))]) (.seq (.seq (.ops [qf 8 2 0,ql 9 2 8 1 false,qf 10 3 0,ql 11 3 10 1 false,qd 12 .neq 9 11,qm 13 12, .g 13 false 15 (.fad 14 (.s 2) 1), .g 13 false 16 (.ldl 15 2 (.s 14) 1 false), .g 13 false 17 (.len 16 false (.s 15)), .g 13 false 18 (.fad 17 (.s 3) 1), .g 13 false 19 (.ldl 18 3 (.s 17) 1 false), .g 13 false 20 (.len 19 false (.s 18)), .g 13 false 21 (.bin 20 .neq (.s 16) (.s 19)), .i (.pick 21 (.s 13) (qb true) (.s 20))]) (.cond (.s 21) (.seq (.ops [.i (.mov 4 (qb false))]) .ret) .skip)) (.seq (.seq (.ops [qf 22 2 1,ql 23 2 22 1 false,qn 24 23, .i (.mov 25 (qi 0))]) (.block 0 (.loop [55,54,53,52,51,50,49,48,47,46,45,44,43,42,41,40,39,38,37,36,35,34,33,32,31,30,29,28,27,26,7,6,5] (.seq (.ops [qd 26 .lss 25 24]) (.seq (.cond (.s 26) .skip (.exit 0)) (.seq (.block 1 (.seq (.ops [qm 27 25, .i (.iad 28 (.s 23) (.s 25) 3), .i (.ldh 29 (.s 28) 3 true), .i (.lal 6 [.int .i64 0, .int .i64 0, .nils]),qm 5 27,qs 6 6 29 3]) (.seq (.ops [qf 30 3 1,ql 31 3 30 1 false,qm 32 5, .i (.iad 33 (.s 31) (.s 32) 3), .i (.ldh 34 (.s 33) 3 true), .i (.lal 7 [.int .i64 0, .int .i64 0, .nils]),qs 7 7 34 3]) (.seq (.ops [qf 35 6 0,ql 36 6 35 1 false,qf 37 7 0,ql 38 7 37 1 false,qd 39 .neq 36 38,qm 40 39, .g 40 false 42 (.fad 41 (.s 6) 1), .g 40 false 43 (.ldl 42 6 (.s 41) 1 false), .g 40 false 44 (.fad 43 (.s 7) 1), .g 40 false 45 (.ldl 44 7 (.s 43) 1 false), .g 40 false 46 (.bin 45 .neq (.s 42) (.s 44)), .i (.pick 46 (.s 40) (qb true) (.s 45)),qm 47 46, .g 47 false 49 (.fad 48 (.s 6) 2), .g 47 false 50 (.ldl 49 6 (.s 48) 1 false), .g 47 false 51 (.fad 50 (.s 7) 2), .g 47 false 52 (.ldl 51 7 (.s 50) 1 false), .g 47 false 53 (.call 53 329 false [(.s 49),(.s 51)]), .g 47 false 54 (.not 53 (.s 52)), .i (.pick 54 (.s 47) (qb true) (.s 53))]) (.cond (.s 54) (.seq (.ops [.i (.mov 4 (qb false))]) .ret) .skip))))) (.ops [.i (.bin 55 .add (.s 25) (qi 1)),qm 25 55]))))))) (.seq (.ops [.i (.mov 4 (qb true))]) .ret))))⟩
theorem BX:cd ri=some ry:=by kernel_rfl
theorem zS (a b:Tc) (ha:a.wf) (hb:b.wf):VC cd ri (aH [(true,a.c),(true,b.c)]) (fun rs _=>rs=bl (m9 a b)):=by
 have w1:=ha.2.1
 have w3:=hb.2.1
 simp only[Sz]at w1 w3
 refine aa BX rfl ?_
 simp(disch:=omega) [ry,Tc.c,d8,VY]
 refine ab (fun h0=> ?_) (fun h0=> ?_)
 case refine_2=>simp(disch:=omega) [h0,m9,VY]
 simp(disch:=omega) [h0,d8,VY]
 refine ab (fun h1=> ?_) (fun h1=> ?_)
 case refine_2=>
  have hn:dK eU a.entries b.entries=false:=wA (fun e=>h1 (by omega))
  simp(disch:=omega) [h0,h1,hn,m9,VY]
 simp(disch:=omega) [h0,h1,d8,VY]
 refine bH (σ:=Nat) (f1:=_) (es0:=_) (by simp(disch:=omega) [VY];rfl) (by simp(disch:=omega) [VY];rfl) (fun i=> [(25, .val false [.int .i64 (i:Int)])]) (fun _=> []) (fun i g=>g+i=b.entries.length∧∀j,j < i→(hi:j < a.entries.length)→(hj:j < b.entries.length)→eU a.entries[j] b.entries[j]=true) 0 b.entries.length (by simp(disch:=omega) [h1,VY]) (by simp(disch:=omega) [VY]) ⟨by omega,fun j hj=>by omega⟩ ?_
 rintro i n g ⟨hg,hd⟩ P hP
 simp(disch:=omega) [h1,VY]
 refine ab (fun h2=> ?_) (fun h2=> ?_)
 ·have hi:i < a.entries.length:=by omega
  have hj:i < b.entries.length:=by omega
  simp(disch:=omega) [qA hi,qA hj,VY]
  refine ab (fun h3=> ?_) (fun h3=> ?_)
  case refine_2=>
   have hn:dK eU a.entries b.entries=false:=kx hi hj (by simp[eU,h3])
   simp(disch:=omega) [h3,hn,m9,h0,VY]
  simp(disch:=omega) [h3,VY]
  refine ab (fun h4=> ?_) (fun h4=> ?_)
  case refine_2=>
   have hn:dK eU a.entries b.entries=false:=kx hi hj (by simp[eU,h4])
   simp(disch:=omega) [h3,h4,hn,m9,h0,VY]
  simp(disch:=omega) [h3,h4,VY]
  refine av (aN a.entries[i].tag b.entries[i].tag) ?_
  simp(disch:=omega) [h3,h4,VY]
  refine ab (fun h5=> ?_) (fun h5=> ?_)
  ·simp(disch:=omega) [h3,h4,h5,VY]
   exact hP (i+1) (g - 1) _ _ (by omega) ⟨by omega,F6 hd (hi:=hi) (hj:=hj) (by simp[eU,h3,h4,h5])⟩ (by simp(disch:=omega) [VY]) (by simp(disch:=omega) [VY])
  ·have hn:dK eU a.entries b.entries=false:=kx hi hj (by simp[eU,h5])
   simp(disch:=omega) [h3,h4,h5,hn,m9,h0,VY]
 ·have he:dK eU a.entries b.entries=true:=wz (by omega) (fun i h hi hj=>hd i (by omega) hi hj)
  simp(disch:=omega) [he,h0,m9,VY]
end Go.Eng.F
namespace Go.Eng.F
def ux (x:Bytes):Bytes:=bo x.length++x
abbrev oy:Nat:=312
def o7:AF:=⟨2,5,[.tmp 4],(.seq (.ops [.i (.mov 4 (.c (.val false [.nils])))]) (.seq (.ops [qm 8 0,qm 9 1,qn 10 9, .i (.call 12 338 false [(.s 8),(.s 10)]),qm 7 11, .i (.ext 12 (.s 7) 0), .i (.ext 13 (.s 7) 1),qm 5 12,qm 6 13]) (.seq (.ops [qm 14 5,qm 15 1, .i (.app 16 5 1 1 (.s 14) (.s 15)),qm 4 16]) .ret)))⟩
theorem y7:cd oy=some o7:=by kernel_rfl
theorem lD (b x:Bytes) (hb:b.length≤900000000) (hx:x.length≤100000000):VC cd oy (aH [(false,[.sl (bytes b)]),(false,[.sl (bytes x)])]) (fun rs _=>rs= [(false,[.o true (some (5,1)) (bytes (b++ux x))])]):=by
 have h1:=dh (n:=x.length) (by omega)
 refine aa y7 rfl ?_
 simp(disch:=omega) [o7,ae,VY]
 refine av (sr b x.length (by omega) (by omega)) ?_
 simp(disch:=omega) [ae,br,VY]
 simp(disch:=omega) [ux,VY]
def F8 (l:aj) (v:bu):Bool:=l.ok && isNum v.view && isNum v.height && hash v.block && hash v.tag && cw v.who 0 (l.n - 1)
def Ow (v:bu):Bytes:=bo v.view.toNat++(bo v.height.toNat++(v.block++(bo v.who.toNat++v.tag)))
structure MB (v:bu):Prop where
 view:isNum v.view=true
 height:isNum v.height=true
 block:v.block.length=32
 who:isNum v.who=true
 tag:v.tag.length=32
theorem HU {l:aj} {v:bu} (h:F8 l v=true):MB v:=by
 simp only[F8,Bool.and_eq_true]at h
 have h1:=xd h.1.1.1.1.1
 have h2:=dv h.2
 exact⟨h.1.1.1.1.2,h.1.1.1.2,uF h.1.1.2,by simp[isNum,cw];omega,uF h.1.2⟩
theorem KU {v:bu} (h:MB v):(Ow v).length≤100:=by
 have h1:=aQ h.view
 have h2:=aQ h.height
 have h3:=aQ h.who
 have h4:=h.block
 have h5:=h.tag
 simp only[Ow,List.length_append]
 omega
abbrev rK:Nat:=307
def rq:AF:=⟨2,6,[.tmp 4],(.seq (.ops [.i (.lbox 2 (.s 0)), .i (.lbox 3 (.s 1)), .i (.mov 4 (qb false))]) (.seq (.ops [ql 5 2 2 5 true,qk 7 210 5,qm 7 6, .g 7 true 9 (.fad 8 (.s 3) 0), .g 7 true 10 (.ldl 9 3 (.s 8) 1 false), .g 7 true 11 (.call 11 211 false [(.s 9)]), .i (.pick 11 (.s 7) (.s 10) (qb false)),qm 12 11, .g 12 true 14 (.fad 13 (.s 3) 1), .g 12 true 15 (.ldl 14 3 (.s 13) 1 false), .g 12 true 16 (.call 16 211 false [(.s 14)]), .i (.pick 16 (.s 12) (.s 15) (qb false)),qm 17 16, .g 17 true 19 (.fad 18 (.s 3) 2), .g 17 true 20 (.ldl 19 3 (.s 18) 1 false), .g 17 true 21 (.call 21 337 false [(.s 19)]), .i (.pick 21 (.s 17) (.s 20) (qb false)),qm 22 21, .g 22 true 24 (.fad 23 (.s 3) 4), .g 22 true 25 (.ldl 24 3 (.s 23) 1 false), .g 22 true 26 (.call 26 337 false [(.s 24)]), .i (.pick 26 (.s 22) (.s 25) (qb false)),qm 27 26, .g 27 true 29 (.fad 28 (.s 3) 3), .g 27 true 30 (.ldl 29 3 (.s 28) 1 false), .g 27 true 31 (.fad 30 (.s 2) 0), .g 27 true 32 (.ldl 31 2 (.s 30) 1 false), .g 27 true 33 (.bin 32 .sub (.s 31) (qi 1)), .g 27 true 34 (.call 34 221 false [(.s 29),(qi 0),(.s 32)]), .i (.pick 34 (.s 27) (.s 33) (qb false)),qm 4 34]) .ret))⟩
theorem Bd:cd rK=some rq:=by kernel_rfl
theorem zT (l:aj) (v:bu):VC cd rK (aH [(true,l.c),(true,v.c)]) (fun rs _=>rs=bl (F8 l v)):=by
 refine aa Bd rfl ?_
 simp(disch:=omega) [rq,aj.c,bu.c,VY]
 refine av (bV l) ?_ (ha:=by first|rfl|(simp[aj.c,VY] <;>repeat' constructor))
 simp(disch:=omega) [VY]
 refine aA (fun h1=> ?_) (fun h1=> ?_) <;>simp(disch:=omega) [h1,F8,VY]
 have hn:=xd h1
 refine av (ep v.view) ?_
 simp(disch:=omega) [h1,VY]
 refine aA (fun h2=> ?_) (fun h2=> ?_) <;>simp(disch:=omega) [h1,h2,VY]
 refine av (ep v.height) ?_
 simp(disch:=omega) [h1,h2,VY]
 refine aA (fun h3=> ?_) (fun h3=> ?_) <;>simp(disch:=omega) [h1,h2,h3,VY]
 refine av (eo v.block) ?_
 simp(disch:=omega) [h1,h2,h3,VY]
 refine aA (fun h4=> ?_) (fun h4=> ?_) <;>simp(disch:=omega) [h1,h2,h3,h4,VY]
 refine av (eo v.tag) ?_
 simp(disch:=omega) [h1,h2,h3,h4,VY]
 refine aA (fun h5=> ?_) (fun h5=> ?_) <;>simp(disch:=omega) [h1,h2,h3,h4,h5,VY]
 refine av (bK v.who 0 (l.n - 1)) ?_
 simp(disch:=omega) [h1,h2,h3,h4,h5,VY]
abbrev o5:Nat:=257
def pO:AF:=⟨3,5,[.tmp 6, .tmp 7],(.seq (.ops [.i (.lbox 3 (.s 0)), .i (.lbox 5 (.s 2)), .i (.mov 6 (.c (.val false [.nils]))), .i (.mov 7 (qb false))]) (.seq (.seq (.ops [ql 9 3 3 5 true,ql 10 5 5 5 true, .i (.call 12 307 false [(.s 9),(.s 10)]), .i (.not 12 (.s 11))]) (.cond (.s 12) (.seq (.ops [.i (.mov 6 (.c (.val false [.nils]))), .i (.mov 7 (qb false))]) .ret) .skip)) (.seq (.ops [qm 13 1,qf 14 5 0,ql 15 5 14 1 false, .i (.call 17 308 false [(.s 13),(.s 15)]),qf 17 5 1,ql 18 5 17 1 false, .i (.call 20 308 false [(.s 16),(.s 18)]),qf 20 5 2,ql 21 5 20 1 false, .i (.app 22 5 1 1 (.s 19) (.s 21)),qm 8 22]) (.seq (.ops [qm 23 8,qf 24 5 3,ql 25 5 24 1 false, .i (.call 27 308 false [(.s 23),(.s 25)]),qf 27 5 4,ql 28 5 27 1 false, .i (.app 29 5 1 1 (.s 26) (.s 28)),qm 6 29, .i (.mov 7 (qb true))]) .ret))))⟩
theorem zY:cd o5=some pO:=by kernel_rfl
theorem lr (l:aj) (b:Bytes) (v:bu) (hb:b.length≤900000000):VC cd o5 (aH [(true,l.c),(false,[.sl (bytes b)]),(true,v.c)]) (fun rs _=>rs=c5 (F8 l v) (b++Ow v)):=by
 refine aa zY rfl ?_
 simp(disch:=omega) [pO,bu.c,aj.c,VY]
 refine av (zT l v) ?_ (ha:=by first|rfl|(simp[bu.c,aj.c,VY] <;>repeat' constructor))
 simp(disch:=omega) [VY]
 refine aA (fun h0=> ?_) (fun h0=> ?_)
 case refine_2=>simp(disch:=omega) [h0,c5,VY]
 have hs:=HU h0
 have h1:=aQ hs.view
 have h2:=aQ hs.height
 have h3:=aQ hs.who
 have h4:=hs.block
 have h5:=hs.tag
 simp(disch:=omega) [h0,VY]
 refine av (bG b v.view hs.view (by omega)) ?_
 simp(disch:=omega) [VY]
 refine av (bG (b++bo v.view.toNat) v.height hs.height (by simp only[List.length_append];omega)) ?_
 simp(disch:=omega) [br,ae,VY]
 refine av (bG (b++(bo v.view.toNat++(bo v.height.toNat++v.block))) v.who hs.who (by simp only[List.length_append];omega)) ?_
 simp(disch:=omega) [br,ae,c5,h0,Ow,VY]
def bk (i n:Nat):Nat:=if h:n < 2 then 0 else
 have:=ej (n:=n) (by omega)
 if i < splitAt n then 1+bk i (splitAt n)else 1+bk (i - splitAt n) (n - splitAt n)
termination_by n
theorem sM {i n:Nat} (h:n < 2):bk i n=0:=by rw[bk,dif_pos h]
theorem vC {i n:Nat} (h:2≤n) (hi:i < splitAt n):bk i n=1+bk i (splitAt n):=by rw[bk,dif_neg (by omega),if_pos hi]
theorem vA {i n:Nat} (h:2≤n) (hi:¬i < splitAt n):bk i n=1+bk (i - splitAt n) (n - splitAt n):=by rw[bk,dif_neg (by omega),if_neg hi]
theorem cA:∀(n i:Nat),bk i n≤n:=by
 intro n
 induction n using Nat.strongRecOn with
 |ind n ih=>
 intro i
 rcases Nat.lt_or_ge n 2 with h|h
 ·rw[sM h];omega
 ·have h1:=ej h
  by_cases hi:i < splitAt n
  ·rw[vC h hi];have:=ih (splitAt n) h1.2 i;omega
  ·rw[vA h hi];have:=ih (n - splitAt n) (by omega) (i - splitAt n);omega
abbrev mH:Nat:=180
def nO:AF:=⟨2,6,[.tmp 4],(.seq (.ops [.i (.mov 4 (qi 0))]) (.seq (.seq (.ops [qm 6 1, .i (.bin 7 .lss (.s 6) (qi 2)),qm 8 7, .g 8 false 10 (.mov 9 (.s 1)), .g 8 false 11 (.bin 10 .gtr (.s 9) (qi 1048576)), .i (.pick 11 (.s 8) (qb true) (.s 10)),qm 12 11, .g 12 false 14 (.mov 13 (.s 0)), .g 12 false 15 (.mov 14 (.s 1)), .g 12 false 16 (.bin 15 .sub (.s 14) (qi 1)), .g 12 false 17 (.call 17 158 false [(.s 13),(qi 0),(.s 15)]), .g 12 false 18 (.not 17 (.s 16)), .i (.pick 18 (.s 12) (qb true) (.s 17))]) (.cond (.s 18) (.seq (.ops [.i (.mov 4 (qi 0))]) .ret) .skip)) (.seq (.ops [qm 19 1,qk 21 253 19,qm 5 20]) (.seq (.seq (.ops [qm 21 0,qm 22 5,qd 23 .lss 21 22]) (.cond (.s 23) (.seq (.ops [qm 24 0,qm 25 5, .i (.call 27 180 false [(.s 24),(.s 25)]), .i (.bin 27 .add (qi 1) (.s 26)),qm 4 27]) .ret) .skip)) (.seq (.ops [qm 28 0,qm 29 5,qd 30 .sub 28 29,qm 31 1,qm 32 5,qd 33 .sub 31 32, .i (.call 35 180 false [(.s 30),(.s 33)]), .i (.bin 35 .add (qi 1) (.s 34)),qm 4 35]) .ret)))))⟩
theorem zU:cd mH=some nO:=by kernel_rfl
theorem xm:∀(n i:Nat),i < n→n≤1048576→VC cd mH (aH [(false,[.int .i64 (i:Int)]),(false,[.int .i64 (n:Int)])]) (fun rs _=>rs=it (bk i n)):=by
 intro n
 induction n using Nat.strongRecOn with
 |ind n ih=>
 intro i hi hn
 have hp:=cA n i
 have he:cw (i:Int) 0 ((n:Int) - 1)=true:=by simp only[cw,decide_eq_true_eq];omega
 refine aa zU rfl ?_
 simp(disch:=omega) [nO,VY]
 refine ab (fun h1=> ?_) (fun h1=> ?_)
 ·simp(disch:=omega) [h1,sM (i:=i) (n:=n) (by omega),VY]
 have h2:2≤n:=by omega
 obtain⟨k1,k2⟩:=ej h2
 simp(disch:=omega) [h1,VY]
 refine ab (fun h3=> ?_) (fun h3=> ?_)
 ·omega
 simp(disch:=omega) [h1,h3,VY]
 refine av (bg (i:Int) 0 ((n:Int) - 1)) ?_
 simp(disch:=omega) [h1,h3,he,VY]
 refine av (kX n (by omega)) ?_
 simp(disch:=omega) [VY]
 refine ab (fun h4=> ?_) (fun h4=> ?_)
 ·have h5:i < splitAt n:=by omega
  have h6:=vC h2 h5
  simp(disch:=omega) [h4,VY]
  refine av (ih (splitAt n) k2 i h5 (by omega)) ?_
  have h7:=cA (splitAt n) i
  simp(disch:=omega) [h6,VY]
 ·have h5:¬i < splitAt n:=by omega
  have h6:=vA h2 h5
  have t1:(i:Int) - (splitAt n:Int)=((i - splitAt n:Nat):Int):=by omega
  have t2:(n:Int) - (splitAt n:Int)=((n - splitAt n:Nat):Int):=by omega
  simp(disch:=omega) [h4,t1,t2,VY]
  refine av (ih (n - splitAt n) (by omega) (i - splitAt n) (by omega) (by omega)) ?_
  have h7:=cA (n - splitAt n) (i - splitAt n)
  simp(disch:=omega) [h6,VY]
abbrev tn:Nat:=322
def uC:AF:=⟨2,4,[.tmp 4],(.seq (.ops [.i (.mov 4 (qb false))]) (.seq (.ops [qm 5 1, .i (.call 7 221 false [(.s 5),(qi 1),(qi 1048576)]),qm 7 6, .g 7 true 9 (.mov 8 (.s 0)), .g 7 true 10 (.mov 9 (.s 1)), .g 7 true 11 (.bin 10 .sub (.s 9) (qi 1)), .g 7 true 12 (.call 12 221 false [(.s 8),(qi 0),(.s 10)]), .i (.pick 12 (.s 7) (.s 11) (qb false)),qm 4 12]) .ret))⟩
theorem CU:cd tn=some uC:=by kernel_rfl
theorem Jp (i n:Nat) (hn:n≤1048576):VC cd tn (aH [(false,[.int .i64 (i:Int)]),(false,[.int .i64 (n:Int)])]) (fun rs _=>rs=bl (cw (n:Int) 1 1048576 && cw (i:Int) 0 ((n:Int) - 1))):=by
 refine aa CU rfl ?_
 simp(disch:=omega) [uC,VY]
 refine av (bK (n:Int) 1 1048576) ?_
 simp(disch:=omega) [VY]
 refine aA (fun h1=> ?_) (fun h1=> ?_) <;>simp(disch:=omega) [h1,VY]
 refine av (bK (i:Int) 0 ((n:Int) - 1)) ?_
 simp(disch:=omega) [h1,VY]
abbrev oe:Nat:=276
def pz:AF:=⟨2,5,[.tmp 4],(.seq (.ops [.i (.mov 4 (qi 0))]) (.seq (.seq (.ops [qm 6 0,qm 7 1, .i (.call 9 322 false [(.s 6),(.s 7)]), .i (.not 9 (.s 8)),qm 10 9, .g 10 false 12 (.mov 11 (.s 1)), .g 10 false 13 (.bin 12 .eql (.s 11) (qi 1)), .i (.pick 13 (.s 10) (qb true) (.s 12))]) (.cond (.s 13) (.seq (.ops [.i (.mov 4 (qi 0))]) .ret) .skip)) (.seq (.ops [qm 14 1,qk 16 323 14,qm 5 15]) (.seq (.seq (.ops [qm 16 0,qm 17 5,qd 18 .lss 16 17]) (.cond (.s 18) (.seq (.ops [qm 19 0,qm 20 5, .i (.call 22 276 false [(.s 19),(.s 20)]), .i (.bin 22 .add (qi 1) (.s 21)),qm 4 22]) .ret) .skip)) (.seq (.ops [qm 23 0,qm 24 5,qd 25 .sub 23 24,qm 26 1,qm 27 5,qd 28 .sub 26 27, .i (.call 30 276 false [(.s 25),(.s 28)]), .i (.bin 30 .add (qi 1) (.s 29)),qm 4 30]) .ret)))))⟩
theorem yZ:cd oe=some pz:=by kernel_rfl
theorem de:∀(n i:Nat),i < n→n≤1048576→VC cd oe (aH [(false,[.int .i64 (i:Int)]),(false,[.int .i64 (n:Int)])]) (fun rs _=>rs=it (bk i n)):=by
 intro n
 induction n using Nat.strongRecOn with
 |ind n ih=>
 intro i hi hn
 have hp:=cA n i
 have he:cw (i:Int) 0 ((n:Int) - 1)=true:=by simp only[cw,decide_eq_true_eq];omega
 have he2:cw (n:Int) 1 1048576=true:=by simp only[cw,decide_eq_true_eq];omega
 refine aa yZ rfl ?_
 simp(disch:=omega) [pz,VY]
 refine av (Jp i n hn) ?_
 simp(disch:=omega) [he,he2,VY]
 refine ab (fun h1=> ?_) (fun h1=> ?_)
 ·simp(disch:=omega) [h1,sM (i:=i) (n:=n) (by omega),VY]
 have h2:2≤n:=by omega
 obtain⟨k1,k2⟩:=ej h2
 simp(disch:=omega) [h1,VY]
 refine av (la n (by omega)) ?_
 simp(disch:=omega) [VY]
 refine ab (fun h4=> ?_) (fun h4=> ?_)
 ·have h5:i < splitAt n:=by omega
  have h6:=vC h2 h5
  simp(disch:=omega) [h4,VY]
  refine av (ih (splitAt n) k2 i h5 (by omega)) ?_
  have h7:=cA (splitAt n) i
  simp(disch:=omega) [h6,VY]
 ·have h5:¬i < splitAt n:=by omega
  have h6:=vA h2 h5
  have t1:(i:Int) - (splitAt n:Int)=((i - splitAt n:Nat):Int):=by omega
  have t2:(n:Int) - (splitAt n:Int)=((n - splitAt n:Nat):Int):=by omega
  simp(disch:=omega) [h4,t1,t2,VY]
  refine av (ih (n - splitAt n) (by omega) (i - splitAt n) (by omega) (by omega)) ?_
  have h7:=cA (n - splitAt n) (i - splitAt n)
  simp(disch:=omega) [h6,VY]
theorem H2 {l:aj} (h:l.ok=true):0≤l.tx∧l.tx≤40∧l.txs≤8:=by
 simp only[aj.ok,Bool.and_eq_true]at h
 have h1:=eX h.1.1.1.2
 have h2:=eX h.1.1.2
 omega
def pY (l:aj) (x:bm):Bool:=l.ok && isNum x.height && cw x.n 1 l.txs && cw x.idx 0 (x.n - 1) && decide ((x.tx.length:Int)≤l.tx) && decide (x.path.length=bk x.idx.toNat x.n.toNat) && hashes x.path
def F3 (x:bm):Bytes:=bo x.height.toNat++(bo x.n.toNat++(bo x.idx.toNat++(ux x.tx++x.path.flatten)))
def dX (l:aj) (t:Tc) (i:Nat):Bool:=match t.entries[i]? with
 |some e=>cw e.who 0 (l.n - 1) && cw e.high 0 (t.view - 1) && hash e.tag && (decide (i=0)||match t.entries[i - 1]? with|some d=>decide (d.who < e.who)|none=>false)
 |none=>false
def tX (l:aj) (t:Tc):Bool:=l.ok && isNum t.view && decide ((t.entries.length:Int)≤l.n) && (List.range t.entries.length).all (dX l t)
def Jc (e:Entry):Bytes:=bo e.who.toNat++(bo e.high.toNat++e.tag)
def O4 (t:Tc):Bytes:=bo t.view.toNat++(bo t.entries.length++(t.entries.map Jc).flatten)
def Av (x:Block):Bytes:=gB x.head++(bo x.txs.length++(x.txs.map ux).flatten)
def zR (p:Proof):Bytes:=bo p.heads.length++((p.heads.map gB).flatten++MY p.qc)
abbrev qX:Nat:=315
def rb:AF:=⟨2,6,[.tmp 4],(.seq (.ops [.i (.lbox 2 (.s 0)), .i (.lbox 3 (.s 1)), .i (.mov 4 (qb false))]) (.seq (.ops [ql 5 2 2 5 true,qk 7 210 5,qm 7 6, .g 7 true 9 (.fad 8 (.s 3) 0), .g 7 true 10 (.ldl 9 3 (.s 8) 1 false), .g 7 true 11 (.call 11 211 false [(.s 9)]), .i (.pick 11 (.s 7) (.s 10) (qb false)),qm 12 11, .g 12 true 14 (.fad 13 (.s 3) 1), .g 12 true 15 (.ldl 14 3 (.s 13) 1 false), .g 12 true 16 (.fad 15 (.s 2) 2), .g 12 true 17 (.ldl 16 2 (.s 15) 1 false), .g 12 true 18 (.call 18 221 false [(.s 14),(qi 1),(.s 16)]), .i (.pick 18 (.s 12) (.s 17) (qb false)),qm 19 18, .g 19 true 21 (.fad 20 (.s 3) 2), .g 19 true 22 (.ldl 21 3 (.s 20) 1 false), .g 19 true 23 (.fad 22 (.s 3) 1), .g 19 true 24 (.ldl 23 3 (.s 22) 1 false), .g 19 true 25 (.bin 24 .sub (.s 23) (qi 1)), .g 19 true 26 (.call 26 221 false [(.s 21),(qi 0),(.s 24)]), .i (.pick 26 (.s 19) (.s 25) (qb false)),qm 27 26, .g 27 true 29 (.fad 28 (.s 3) 3), .g 27 true 30 (.ldl 29 3 (.s 28) 1 false), .g 27 true 31 (.len 30 false (.s 29)), .g 27 true 32 (.fad 31 (.s 2) 1), .g 27 true 33 (.ldl 32 2 (.s 31) 1 false), .g 27 true 34 (.bin 33 .leq (.s 30) (.s 32)), .i (.pick 34 (.s 27) (.s 33) (qb false)),qm 35 34, .g 35 true 37 (.fad 36 (.s 3) 4), .g 35 true 38 (.ldl 37 3 (.s 36) 1 false), .g 35 true 39 (.len 38 false (.s 37)), .g 35 true 40 (.fad 39 (.s 3) 2), .g 35 true 41 (.ldl 40 3 (.s 39) 1 false), .g 35 true 42 (.fad 41 (.s 3) 1), .g 35 true 43 (.ldl 42 3 (.s 41) 1 false), .g 35 true 44 (.call 44 276 false [(.s 40),(.s 42)]), .g 35 true 45 (.bin 44 .eql (.s 38) (.s 43)), .i (.pick 45 (.s 35) (.s 44) (qb false)),qm 46 45, .g 46 true 48 (.fad 47 (.s 3) 4), .g 46 true 49 (.ldl 48 3 (.s 47) 1 false), .g 46 true 50 (.call 50 340 false [(.s 48)]), .i (.pick 50 (.s 46) (.s 49) (qb false)),qm 4 50]) .ret))⟩
theorem BJ:cd qX=some rb:=by kernel_rfl
theorem AW (l:aj) (x:bm) (hw:x.wc):VC cd qX (aH [(true,l.c),(true,x.c)]) (fun rs _=>rs=bl (pY l x)):=by
 obtain⟨w1,w2,w3,w4,w5,w6⟩:=hw
 simp only[Sz]at w4 w5
 refine aa BJ rfl ?_
 simp(disch:=omega) [rb,aj.c,bm.c,VY]
 refine av (bV l) ?_ (ha:=by first|rfl|(simp[aj.c,VY] <;>repeat' constructor))
 simp(disch:=omega) [VY]
 refine aA (fun h1=> ?_) (fun h1=> ?_) <;>simp(disch:=omega) [h1,pY,VY]
 have hn:=xd h1
 have ht:=H2 h1
 refine av (ep x.height) ?_
 simp(disch:=omega) [h1,VY]
 refine aA (fun h2=> ?_) (fun h2=> ?_) <;>simp(disch:=omega) [h1,h2,VY]
 refine av (bK x.n 1 l.txs) ?_
 simp(disch:=omega) [h1,h2,VY]
 refine aA (fun h3=> ?_) (fun h3=> ?_)
 case refine_2=>simp(disch:=omega) [h1,h2,h3,VY]
 have h3':=eX h3
 simp(disch:=omega) [h1,h2,h3,VY]
 refine av (bK x.idx 0 (x.n - 1)) ?_
 simp(disch:=omega) [h1,h2,h3,VY]
 refine aA (fun h4=> ?_) (fun h4=> ?_) <;>simp(disch:=omega) [h1,h2,h3,h4,ae,VY]
 have h4':=eX h4
 refine ab (fun h5=> ?_) (fun h5=> ?_) <;>simp(disch:=omega) [h1,h2,h3,h4,h5,aB,VY]
 obtain⟨N,hN⟩:∃N:Nat,x.n=(N:Int):=⟨x.n.toNat,by omega⟩
 obtain⟨I,hI⟩:∃I:Nat,x.idx=(I:Int):=⟨x.idx.toNat,by omega⟩
 have hp:=cA N I
 refine av (de N I (by omega) (by omega)) ?_ (ha:=by first|rfl|(simp[hN,hI,VY] <;>repeat' constructor))
 simp(disch:=omega) [h1,h2,h3,h4,h5,aB,hN,hI,VY]
 refine ab (fun h6=> ?_) (fun h6=> ?_)
 ·have h7:x.path.length=bk I N:=by omega
  simp(disch:=omega) [h1,h2,h3,h4,h5,h6,h7,aB,hN,hI,VY]
  refine av (uS x.path (by omega)) ?_
  simp(disch:=omega) [h1,h2,h3,h4,h5,h6,h7,hN,hI,VY]
 ·have h7:¬x.path.length=bk I N:=by omega
  simp(disch:=omega) [h1,h2,h3,h4,h5,h6,h7,aB,hN,hI,VY]
def f5 (l:List Bytes):Bytes:=(l.map ux).flatten
theorem Fb {l:List Bytes} {i:Nat} (h:i < l.length):f5 (l.take (i+1))=f5 (l.take i)++ux l[i]:=by
 rw[List.take_succ_eq_append_getElem h]
 simp only[f5,List.map_append,List.map_cons,List.map_nil,List.flatten_append,List.flatten_cons,List.flatten_nil,List.append_nil]
theorem vD {x:Bytes} (h:x.length≤1000):(ux x).length≤1009:=by
 have:=dh (n:=x.length) (by omega)
 simp only[ux,List.length_append]
 omega
theorem sC:∀ {l:List Bytes},(∀x∈l,x.length≤1000)→(f5 l).length≤1009 * l.length
 | [],_=>by simp[f5]
 |a::l,h=>by
  have h1:=sC (l:=l) fun x hx=>h x (by simp[hx])
  have h2:=vD (h a (by simp))
  simp only[f5,List.map_cons,List.flatten_cons,List.length_append,List.length_cons]at h1⊢
  omega
theorem kH {l:aj} {x:Block} (h:cm l x=true):cE l x.head=true:=by
 simp only[cm,Bool.and_eq_true]at h
 exact h.1.1.1
theorem wv {l:aj} {x:Block} (h:cm l x=true):∀t∈x.txs,t.length≤1000:=fun t ht=>by
 have h0:=uI (vP (kH h))
 simp only[aj.ok,Bool.and_eq_true]at h0
 have h1:=dv h0.1.1.1.2
 simp only[cm,Bool.and_eq_true,Cb,List.all_eq_true,decide_eq_true_eq]at h
 have:=h.1.2 t ht
 omega
theorem tG {l:aj} {t:Tc} {i:Nat} (hi:i < t.entries.length) (h:dX l t i=false):tX l t=false:=by
 unfold tX
 rw[Bool.and_eq_false_iff]
 right
 rw[List.all_eq_false]
 exact⟨i,by simp[hi],by simp[h]⟩
theorem Kk {l:aj} {t:Tc} (h:∀i,i < t.entries.length→dX l t i=true):tX l t=(l.ok && isNum t.view && decide ((t.entries.length:Int)≤l.n)):=by
 unfold tX
 have:(List.range t.entries.length).all (dX l t)=true:=by
  rw[List.all_eq_true]
  intro i hi
  exact h i (by simpa using hi)
 rw[this,Bool.and_true]
theorem EA {l:aj} {t:Tc} {i:Nat} (hd:∀j,j < i→dX l t j=true) (h:dX l t i=true):∀j,j < i+1→dX l t j=true:=fun j hj=>by
 rcases Nat.lt_or_ge j i with hl|hl
 ·exact hd j hl
 ·obtain rfl:j=i:=by omega
  exact h
abbrev wX:Nat:=313
def w9:AF:=⟨2,7,[.tmp 4],(.seq (.ops [.i (.lbox 2 (.s 0)), .i (.lbox 3 (.s 1)), .i (.mov 4 (qb false))]) (.seq (.seq (.ops [ql 7 2 2 5 true,qk 9 210 7, .i (.not 9 (.s 8)),qm 10 9, .g 10 false 12 (.fad 11 (.s 3) 0), .g 10 false 13 (.ldl 12 3 (.s 11) 1 false), .g 10 false 14 (.call 14 211 false [(.s 12)]), .g 10 false 15 (.not 14 (.s 13)), .i (.pick 15 (.s 10) (qb true) (.s 14)),qm 16 15, .g 16 false 18 (.fad 17 (.s 3) 1), .g 16 false 19 (.ldl 18 3 (.s 17) 1 false), .g 16 false 20 (.len 19 false (.s 18)), .g 16 false 21 (.fad 20 (.s 2) 0), .g 16 false 22 (.ldl 21 2 (.s 20) 1 false), .g 16 false 23 (.bin 22 .gtr (.s 19) (.s 21)), .i (.pick 23 (.s 16) (qb true) (.s 22))]) (.cond (.s 23) (.seq (.ops [.i (.mov 4 (qb false))]) .ret) .skip)) (.seq (.seq (.ops [qf 24 3 1,ql 25 3 24 1 false,qn 26 25, .i (.mov 27 (qi 0))]) (.block 0 (.loop [73,72,71,70,69,68,67,66,65,64,63,62,61,60,59,58,57,56,55,54,53,52,51,50,49,48,47,46,45,44,43,42,41,40,39,38,37,36,35,34,33,32,31,30,29,28,6,5] (.seq (.ops [qd 28 .lss 27 26]) (.seq (.cond (.s 28) .skip (.exit 0)) (.seq (.block 1 (.seq (.ops [qm 29 27, .i (.iad 30 (.s 25) (.s 27) 3), .i (.ldh 31 (.s 30) 3 true), .i (.lal 6 [.int .i64 0, .int .i64 0, .nils]),qm 5 29,qs 6 6 31 3]) (.seq (.ops [qf 32 6 0,ql 33 6 32 1 false,qf 34 2 0,ql 35 2 34 1 false, .i (.bin 36 .sub (.s 35) (qi 1)), .i (.call 38 221 false [(.s 33),(qi 0),(.s 36)]), .i (.not 38 (.s 37)),qm 39 38, .g 39 false 41 (.fad 40 (.s 6) 1), .g 39 false 42 (.ldl 41 6 (.s 40) 1 false), .g 39 false 43 (.bin 42 .lss (.s 41) (qi 0)), .i (.pick 43 (.s 39) (qb true) (.s 42)),qm 44 43, .g 44 false 46 (.fad 45 (.s 6) 1), .g 44 false 47 (.ldl 46 6 (.s 45) 1 false), .g 44 false 48 (.fad 47 (.s 3) 0), .g 44 false 49 (.ldl 48 3 (.s 47) 1 false), .g 44 false 50 (.bin 49 .geq (.s 46) (.s 48)), .i (.pick 50 (.s 44) (qb true) (.s 49)),qm 51 50, .g 51 false 53 (.fad 52 (.s 6) 2), .g 51 false 54 (.ldl 53 6 (.s 52) 1 false), .g 51 false 55 (.call 55 337 false [(.s 53)]), .g 51 false 56 (.not 55 (.s 54)), .i (.pick 56 (.s 51) (qb true) (.s 55)),qm 57 56, .g 57 false 59 (.mov 58 (.s 5)), .g 57 false 60 (.bin 59 .gtr (.s 58) (qi 0)), .g 57 false 61 (.mov 60 (.s 59)), .g 60 true 62 (.fad 61 (.s 3) 1), .g 60 true 63 (.ldl 62 3 (.s 61) 1 false), .g 60 true 64 (.mov 63 (.s 5)), .g 60 true 65 (.bin 64 .sub (.s 63) (qi 1)), .g 60 true 66 (.iad 65 (.s 62) (.s 64) 3), .g 60 true 67 (.fad 66 (.s 65) 0), .g 60 true 68 (.ldh 67 (.s 66) 1 false), .g 60 true 69 (.fad 68 (.s 6) 0), .g 60 true 70 (.ldl 69 6 (.s 68) 1 false), .g 60 true 71 (.bin 70 .geq (.s 67) (.s 69)), .g 57 false 72 (.pick 71 (.s 60) (.s 70) (qb false)), .i (.pick 72 (.s 57) (qb true) (.s 71))]) (.cond (.s 72) (.seq (.ops [.i (.mov 4 (qb false))]) .ret) .skip)))) (.ops [.i (.bin 73 .add (.s 27) (qi 1)),qm 27 73]))))))) (.seq (.ops [.i (.mov 4 (qb true))]) .ret))))⟩
theorem FD:cd wX=some w9:=by kernel_rfl
theorem CT (l:aj) (t:Tc) (hw:t.wf):VC cd wX (aH [(true,l.c),(true,t.c)]) (fun rs _=>rs=bl (tX l t)):=by
 have w1:=hw.2.1
 simp only[Sz]at w1
 refine aa FD rfl ?_
 simp(disch:=omega) [w9,aj.c,Tc.c,VY]
 refine av (bV l) ?_ (ha:=by first|rfl|(simp[aj.c,VY] <;>repeat' constructor))
 simp(disch:=omega) [VY]
 refine aA (fun h1=> ?_) (fun h1=> ?_)
 case refine_2=>simp(disch:=omega) [h1,tX,VY]
 simp(disch:=omega) [h1,VY]
 refine av (ep t.view) ?_
 simp(disch:=omega) [h1,VY]
 refine aA (fun h2=> ?_) (fun h2=> ?_)
 case refine_2=>simp(disch:=omega) [h1,h2,tX,VY]
 have hn:=xd h1
 have hv:=eX h2
 simp(disch:=omega) [h1,h2,d8,VY]
 refine ab (fun h3=> ?_) (fun h3=> ?_)
 ·simp(disch:=omega) [h1,h2,h3,tX,show ¬(t.entries.length:Int)≤l.n by omega,VY]
 simp(disch:=omega) [h1,h2,h3,d8,VY]
 refine bH (σ:=Nat) (f1:=_) (es0:=_) (by simp(disch:=omega) [VY];rfl) (by simp(disch:=omega) [VY];rfl) (fun i=> [(27, .val false [.int .i64 (i:Int)])]) (fun _=> []) (fun i g=>g+i=t.entries.length∧∀j,j < i→dX l t j=true) 0 t.entries.length (by simp(disch:=omega) [VY]) (by simp(disch:=omega) [VY]) ⟨by omega,fun j hj=>by omega⟩ ?_
 rintro i n g ⟨hg,hd⟩ P hP
 simp(disch:=omega) [VY]
 refine ab (fun g1=> ?_) (fun g1=> ?_)
 case refine_2=>
  have hY:=Kk (l:=l) (t:=t) (fun i hi=>hd i (by omega))
  simp(disch:=omega) [h1,h2,hY,show(t.entries.length:Int)≤l.n by omega,VY]
 have hi:i < t.entries.length:=by omega
 simp(disch:=omega) [qA hi,VY]
 refine av (bK t.entries[i].who 0 (l.n - 1)) ?_
 simp(disch:=omega) [VY]
 refine aA (fun g2=> ?_) (fun g2=> ?_)
 case refine_2=>simp(disch:=omega) [g2,tG hi (show dX l t i=false by simp[dX,hi,g2]),VY]
 simp(disch:=omega) [g2,VY]
 refine ab (fun g3=> ?_) (fun g3=> ?_)
 ·have e5:cw t.entries[i].high 0 (t.view - 1)=false:=by simp only[cw,decide_eq_false_iff_not];omega
  simp(disch:=omega) [g2,g3,tG hi (show dX l t i=false by simp[dX,hi,e5]),VY]
 simp(disch:=omega) [g2,g3,VY]
 refine ab (fun g4=> ?_) (fun g4=> ?_)
 ·have e5:cw t.entries[i].high 0 (t.view - 1)=false:=by simp only[cw,decide_eq_false_iff_not];omega
  simp(disch:=omega) [g2,g3,g4,tG hi (show dX l t i=false by simp[dX,hi,e5]),VY]
 have e5:cw t.entries[i].high 0 (t.view - 1)=true:=by simp only[cw,decide_eq_true_eq];omega
 simp(disch:=omega) [g2,g3,g4,VY]
 refine av (eo t.entries[i].tag) ?_
 simp(disch:=omega) [g2,g3,g4,VY]
 refine aA (fun g5=> ?_) (fun g5=> ?_)
 case refine_2=>simp(disch:=omega) [g2,g3,g4,g5,tG hi (show dX l t i=false by simp[dX,hi,g5]),VY]
 simp(disch:=omega) [g2,g3,g4,g5,VY]
 refine ab (fun g6=> ?_) (fun g6=> ?_)
 ·have hj:i - 1 < t.entries.length:=by omega
  have e1:((i:Int) - 1).toNat=i - 1:=by omega
  have e2:(1:Int)≤(i:Int):=by omega
  have e3:¬i=0:=by omega
  simp(disch:=omega) [g2,g3,g4,g5,g6,d8,e1,e2,qA hj,VY]
  refine ab (fun g7=> ?_) (fun g7=> ?_)
  ·simp(disch:=omega) [g2,g3,g4,g5,g6,g7,tG hi (show dX l t i=false by simp[dX,hi,hj,e3,show ¬t.entries[i - 1].who < t.entries[i].who by omega]),VY]
  have e4:t.entries[i - 1].who < t.entries[i].who:=by omega
  simp(disch:=omega) [g2,g3,g4,g5,g6,g7,VY]
  exact hP (i+1) (g - 1) _ _ (by omega) ⟨by omega,EA hd (by simp[dX,hi,g2,e5,g5,hj,e4])⟩ (by simp(disch:=omega) [VY]) (by simp(disch:=omega) [VY])
 ·have e4:i=0:=by omega
  simp(disch:=omega) [g2,g3,g4,g5,g6,VY]
  exact hP (i+1) (g - 1) _ _ (by omega) ⟨by omega,EA hd (by subst e4;simp[dX,hi,g2,e5,g5])⟩ (by simp(disch:=omega) [VY]) (by simp(disch:=omega) [VY])
abbrev kV:Nat:=260
def lC:AF:=⟨3,6,[.tmp 6, .tmp 7],(.seq (.ops [.i (.lbox 3 (.s 0)), .i (.lbox 5 (.s 2)), .i (.mov 6 (.c (.val false [.nils]))), .i (.mov 7 (qb false))]) (.seq (.seq (.ops [ql 12 3 3 5 true,ql 13 5 5 11 true, .i (.call 15 311 false [(.s 12),(.s 13)]), .i (.not 15 (.s 14))]) (.cond (.s 15) (.seq (.ops [.i (.mov 6 (.c (.val false [.nils]))), .i (.mov 7 (qb false))]) .ret) .skip)) (.seq (.ops [ql 17 3 3 5 true,qm 18 1,qf 19 5 0,ql 20 5 19 10 true, .i (.call 22 259 false [(.s 17),(.s 18),(.s 20)]),qm 16 21, .i (.ext 22 (.s 16) 0), .i (.ext 23 (.s 16) 1),qm 8 22,qm 9 23]) (.seq (.ops [qm 24 8,qf 25 5 10,ql 26 5 25 1 false,qn 27 26, .i (.call 29 308 false [(.s 24),(.s 27)]),qm 8 28]) (.seq (.seq (.ops [qf 29 5 10,ql 30 5 29 1 false,qn 31 30, .i (.mov 32 (qi 0))]) (.block 0 (.loop [39,38,37,36,35,34,33,11] (.seq (.ops [qd 33 .lss 32 31]) (.seq (.cond (.s 33) .skip (.exit 0)) (.seq (.block 1 (.seq (.ops [.i (.iad 34 (.s 30) (.s 32) 1), .i (.ldh 35 (.s 34) 1 false),qm 11 35]) (.ops [qm 36 8,qm 37 11, .i (.call 39 312 false [(.s 36),(.s 37)]),qm 8 38]))) (.ops [.i (.bin 39 .add (.s 32) (qi 1)),qm 32 39]))))))) (.seq (.ops [qm 40 8,qm 6 40, .i (.mov 7 (qb true))]) .ret))))))⟩
theorem xi:cd kV=some lC:=by kernel_rfl
theorem jS (l:aj) (b:Bytes) (x:Block) (hw:x.wc∧∀t∈x.txs,t.length≤100000000) (hb:b.length≤800000000):VC cd kV (aH [(true,l.c),(false,[.sl (bytes b)]),(true,x.c)]) (fun rs _=>rs=c5 (cm l x) (b++Av x)):=by
 refine aa xi rfl ?_
 simp(disch:=omega) [lC,Block.c,Head.c,aj.c,VY]
 refine av (lH l x hw.1 (fun t ht=>by have:=hw.2 t ht;omega)) ?_ (ha:=by first|rfl|(simp[aj.c,Block.c,Head.c,VY] <;>repeat' constructor))
 simp(disch:=omega) [VY]
 refine aA (fun h0=> ?_) (fun h0=> ?_)
 case refine_2=>simp(disch:=omega) [h0,c5,VY]
 have hh:=kH h0
 have hf:=wB h0
 have ht:=wv h0
 have hs:=jJ (fv hh)
 simp(disch:=omega) [h0,VY]
 refine av ((cL l b x.head hw.1.1.1 (by omega)).re (cQ hh)) ?_ (ha:=by first|rfl|(simp[aj.c,Head.c,VY] <;>repeat' constructor))
 simp(disch:=omega) [h0,aB,VY]
 refine av (bG (b++gB x.head) x.txs.length (tZ (by omega)) (by simp only[List.length_append];omega)) ?_
 have h1:=dh (n:=x.txs.length) (by omega)
 simp(disch:=omega) [h0,aB,VY]
 refine pJ (σ:=Nat×Nat×Nat) (f1:=_) (by simp(disch:=omega) [VY];rfl) (fun p=> [(32, .val false [.int .i64 (p.1:Int)]),(8, .val false [.ow p.2.1 p.2.2])]) (fun p=> [(p.2.1, .sl p.2.2 true true (some (5,1)) (bytes (b++(gB x.head++(bo x.txs.length++f5 (x.txs.take p.1))))))]) (fun p g=>g+p.1=x.txs.length∧(p.2.1=245760∨p.2.1=327680)) (0,245760,20) x.txs.length (by simp(disch:=omega) [VY]) (by simp(disch:=omega) [show f5 []= []from rfl,VY]) ⟨by omega, .inl rfl⟩ ?_
 rintro⟨i,key,v⟩ n g ⟨hg,hk⟩ P hP
 simp only at hg hk
 have hlt:∀t∈x.txs.take i,t.length≤1000:=fun t h=>ht t (List.mem_of_mem_take h)
 have hl:=sC hlt
 have hl2:(x.txs.take i).length≤8:=by rw[List.length_take];omega
 have hl3:(f5 (x.txs.take i)).length≤8072:=by omega
 rcases hk with rfl|rfl
 all_goals
  simp(disch:=omega) [VY]
  refine ab (fun h2=> ?_) (fun h2=> ?_)
  ·have hi:i < x.txs.length:=by omega
   have hx:=ht _ (List.getElem_mem hi)
   simp(disch:=omega) [fN hi,VY]
   refine av (lD (b++(gB x.head++(bo x.txs.length++f5 (x.txs.take i)))) x.txs[i] (by simp only[List.length_append];omega) (by omega)) ?_
   simp(disch:=omega) [VY]
   exact hP (i+1,327680,_) (g - 1) _ _ (by omega) ⟨by simp only;omega, .inr rfl⟩ (by simp(disch:=omega) [VY];rfl) (by simp(disch:=omega) [Fb hi,VY])
  ·have hi:i=x.txs.length:=by omega
   subst hi
   simp(disch:=omega) [c5,Av,f5,List.take_length,VY]
theorem Fk {l:aj} {t:Tc} (h:tX l t=true):t.entries.length≤10∧isNum t.view=true∧∀e∈t.entries,isNum e.who=true∧isNum e.high=true∧e.tag.length=32:=by
 simp only[tX,Bool.and_eq_true,decide_eq_true_eq,List.all_eq_true,List.mem_range]at h
 obtain⟨⟨⟨h1,h2⟩,h3⟩,h4⟩:=h
 have hn:=xd h1
 have hv:=eX h2
 refine⟨by omega,h2,fun e he=> ?_⟩
 obtain⟨i,hi,rfl⟩:=List.mem_iff_getElem.1 he
 have h5:=h4 i hi
 simp only[dX,List.getElem?_eq_getElem hi,Bool.and_eq_true]at h5
 obtain⟨⟨⟨g1,g2⟩,g3⟩,_⟩:=h5
 have g1':=eX g1
 have g2':=eX g2
 exact⟨by simp only[isNum,cw,decide_eq_true_eq];omega,by simp only[isNum,cw,decide_eq_true_eq];omega,uF g3⟩
def i9 (l:List Entry):Bytes:=(l.map Jc).flatten
theorem Gt {l:List Entry} {i:Nat} (h:i < l.length):i9 (l.take (i+1))=i9 (l.take i)++Jc l[i]:=by
 rw[List.take_succ_eq_append_getElem h]
 simp only[i9,List.map_append,List.map_cons,List.map_nil,List.flatten_append,List.flatten_cons,List.flatten_nil,List.append_nil]
theorem vi:∀ {l:List Entry},(∀e∈l,isNum e.who=true∧isNum e.high=true∧e.tag.length=32)→(i9 l).length≤50 * l.length
 | [],_=>by simp[i9]
 |a::l,h=>by
  have h1:=vi (l:=l) fun x hx=>h x (by simp[hx])
  obtain⟨g1,g2,g3⟩:=h a (by simp)
  have h2:=aQ g1
  have h3:=aQ g2
  simp only[i9,Jc,List.map_cons,List.flatten_cons,List.length_append,List.length_cons]at h1⊢
  omega
abbrev ti:Nat:=261
def tJ:AF:=⟨3,6,[.tmp 6, .tmp 7],(.seq (.ops [.i (.lbox 3 (.s 0)), .i (.lbox 5 (.s 2)), .i (.mov 6 (.c (.val false [.nils]))), .i (.mov 7 (qb false))]) (.seq (.seq (.ops [ql 11 3 3 5 true,ql 12 5 5 2 true, .i (.call 14 313 false [(.s 11),(.s 12)]), .i (.not 14 (.s 13))]) (.cond (.s 14) (.seq (.ops [.i (.mov 6 (.c (.val false [.nils]))), .i (.mov 7 (qb false))]) .ret) .skip)) (.seq (.ops [qm 15 1,qf 16 5 0,ql 17 5 16 1 false, .i (.call 19 308 false [(.s 15),(.s 17)]),qf 19 5 1,ql 20 5 19 1 false,qn 21 20, .i (.call 23 308 false [(.s 18),(.s 21)]),qm 8 22]) (.seq (.seq (.ops [qf 23 5 1,ql 24 5 23 1 false,qn 25 24, .i (.mov 26 (qi 0))]) (.block 0 (.loop [40,39,38,37,36,35,34,33,32,31,30,29,28,27,10] (.seq (.ops [qd 27 .lss 26 25]) (.seq (.cond (.s 27) .skip (.exit 0)) (.seq (.block 1 (.seq (.ops [.i (.iad 28 (.s 24) (.s 26) 3), .i (.ldh 29 (.s 28) 3 true), .i (.lal 10 [.int .i64 0, .int .i64 0, .nils]),qs 10 10 29 3]) (.ops [qm 30 8,qf 31 10 0,ql 32 10 31 1 false, .i (.call 34 308 false [(.s 30),(.s 32)]),qf 34 10 1,ql 35 10 34 1 false, .i (.call 37 308 false [(.s 33),(.s 35)]),qf 37 10 2,ql 38 10 37 1 false, .i (.app 39 5 1 1 (.s 36) (.s 38)),qm 8 39]))) (.ops [.i (.bin 40 .add (.s 26) (qi 1)),qm 26 40]))))))) (.seq (.ops [qm 41 8,qm 6 41, .i (.mov 7 (qb true))]) .ret)))))⟩
theorem Du:cd ti=some tJ:=by kernel_rfl
theorem rz (l:aj) (b:Bytes) (t:Tc) (hw:t.wf) (hb:b.length≤800000000):VC cd ti (aH [(true,l.c),(false,[.sl (bytes b)]),(true,t.c)]) (fun rs _=>rs=c5 (tX l t) (b++O4 t)):=by
 refine aa Du rfl ?_
 simp(disch:=omega) [tJ,Tc.c,aj.c,VY]
 refine av (CT l t hw) ?_ (ha:=by first|rfl|(simp[aj.c,Tc.c,VY] <;>repeat' constructor))
 simp(disch:=omega) [VY]
 refine aA (fun h0=> ?_) (fun h0=> ?_)
 case refine_2=>simp(disch:=omega) [h0,c5,VY]
 obtain⟨hf,hv,he⟩:=Fk h0
 have h3:=aQ hv
 have h1:=dh (n:=t.entries.length) (by omega)
 simp(disch:=omega) [h0,VY]
 refine av (bG b t.view hv (by omega)) ?_
 simp(disch:=omega) [h0,d8,VY]
 refine av (bG (b++bo t.view.toNat) t.entries.length (tZ (by omega)) (by simp only[List.length_append];omega)) ?_
 simp(disch:=omega) [h0,d8,VY]
 refine pJ (σ:=Nat×Nat×Nat) (f1:=_) (by simp(disch:=omega) [VY];rfl) (fun p=> [(26, .val false [.int .i64 (p.1:Int)]),(8, .val false [.ow p.2.1 p.2.2])]) (fun p=> [(p.2.1, .sl p.2.2 true true (some (5,1)) (bytes (b++(bo t.view.toNat++(bo t.entries.length++i9 (t.entries.take p.1))))))]) (fun p g=>g+p.1=t.entries.length∧(p.2.1=196608∨p.2.1=311296)) (0,196608,_) t.entries.length (by simp(disch:=omega) [VY];rfl) (by simp(disch:=omega) [show i9 []= []from rfl,VY]) ⟨by omega, .inl rfl⟩ ?_
 rintro⟨i,key,v⟩ n g ⟨hg,hk⟩ P hP
 simp only at hg hk
 have hlt:∀e∈t.entries.take i,isNum e.who=true∧isNum e.high=true∧e.tag.length=32:=fun e h=>he e (List.mem_of_mem_take h)
 have hl:=vi hlt
 have hl2:(t.entries.take i).length≤10:=by rw[List.length_take];omega
 have hl3:(i9 (t.entries.take i)).length≤500:=by omega
 rcases hk with rfl|rfl
 all_goals
  simp(disch:=omega) [VY]
  refine ab (fun h2=> ?_) (fun h2=> ?_)
  ·have hi:i < t.entries.length:=by omega
   obtain⟨g1,g2,g3⟩:=he _ (List.getElem_mem hi)
   have g4:=aQ g1
   have g5:=aQ g2
   simp(disch:=omega) [qA hi,VY]
   refine av (bG (b++(bo t.view.toNat++(bo t.entries.length++i9 (t.entries.take i)))) t.entries[i].who g1 (by simp only[List.length_append];omega)) ?_
   simp(disch:=omega) [VY]
   refine av (bG (b++(bo t.view.toNat++(bo t.entries.length++(i9 (t.entries.take i)++bo t.entries[i].who.toNat)))) t.entries[i].high g2 (by simp only[List.length_append];omega)) ?_
   simp(disch:=omega) [br,ae,VY]
   exact hP (i+1,311296,_) (g - 1) _ _ (by omega) ⟨by simp only;omega, .inr rfl⟩ (by simp(disch:=omega) [VY];rfl) (by simp(disch:=omega) [Gt hi,Jc,VY])
  ·have hi:i=t.entries.length:=by omega
   subst hi
   simp(disch:=omega) [c5,O4,i9,List.take_length,VY]
def fw (l:List Head):Bytes:=(l.map gB).flatten
theorem FV {l:List Head} {i:Nat} (h:i < l.length):fw (l.take (i+1))=fw (l.take i)++gB l[i]:=by
 rw[List.take_succ_eq_append_getElem h]
 simp only[fw,List.map_append,List.map_cons,List.map_nil,List.flatten_append,List.flatten_cons,List.flatten_nil,List.append_nil]
theorem sI:∀ {l:List Head},(∀h∈l,Gz h)→(fw l).length≤1000 * l.length
 | [],_=>by simp[fw]
 |a::l,h=>by
  have h1:=sI (l:=l) fun x hx=>h x (by simp[hx])
  have h2:=jJ (h a (by simp))
  simp only[fw,List.map_cons,List.flatten_cons,List.length_append,List.length_cons]at h1⊢
  omega
theorem wH {l:aj} {p:Proof} (h:eN l p=true):p.heads.length≤5∧mz l p.qc=true∧∀x∈p.heads,cE l x=true:=by
 simp only[eN,Bool.and_eq_true]at h
 obtain⟨⟨⟨h1,h2⟩,h3⟩,h4⟩:=h
 have h5:=uI h3
 simp only[aj.ok,Bool.and_eq_true]at h5
 have h6:=eX h5.2
 have h7:=eX h1
 refine⟨by omega,h3,fun x hx=> ?_⟩
 simp only[qh,List.all_eq_true]at h2
 exact h2 x hx
abbrev l4:Nat:=262
def l6:AF:=⟨3,6,[.tmp 6, .tmp 7],(.seq (.ops [.i (.lbox 3 (.s 0)), .i (.lbox 5 (.s 2)), .i (.mov 6 (.c (.val false [.nils]))), .i (.mov 7 (qb false))]) (.seq (.seq (.ops [ql 11 3 3 5 true,ql 12 5 5 6 true, .i (.call 14 314 false [(.s 11),(.s 12)]), .i (.not 14 (.s 13))]) (.cond (.s 14) (.seq (.ops [.i (.mov 6 (.c (.val false [.nils]))), .i (.mov 7 (qb false))]) .ret) .skip)) (.seq (.ops [qm 15 1,qf 16 5 0,ql 17 5 16 1 false,qn 18 17, .i (.call 20 308 false [(.s 15),(.s 18)]),qm 8 19]) (.seq (.seq (.ops [qf 20 5 0,ql 21 5 20 1 false,qn 22 21, .i (.mov 23 (qi 0))]) (.block 0 (.loop [34,33,32,31,30,29,28,27,26,25,24,10] (.seq (.ops [qd 24 .lss 23 22]) (.seq (.cond (.s 24) .skip (.exit 0)) (.seq (.block 1 (.seq (.ops [.i (.iad 25 (.s 21) (.s 23) 10), .i (.ldh 26 (.s 25) 10 true), .i (.lal 10 qz),qs 10 10 26 10]) (.ops [ql 28 3 3 5 true,qm 29 8,ql 30 10 10 10 true, .i (.call 32 259 false [(.s 28),(.s 29),(.s 30)]),qm 27 31, .i (.ext 32 (.s 27) 0), .i (.ext 33 (.s 27) 1),qm 8 32]))) (.ops [.i (.bin 34 .add (.s 23) (qi 1)),qm 23 34]))))))) (.seq (.ops [ql 35 3 3 5 true,qm 36 8,qf 37 5 1,ql 38 5 37 5 true, .i (.call 40 258 false [(.s 35),(.s 36),(.s 38)]), .i (.ext 40 (.s 39) 0), .i (.ext 41 (.s 39) 1),qm 6 40,qm 7 41]) .ret)))))⟩
theorem ye:cd l4=some l6:=by kernel_rfl
theorem jR (l:aj) (b:Bytes) (p:Proof) (hw:p.wc) (hb:b.length≤800000000):VC cd l4 (aH [(true,l.c),(false,[.sl (bytes b)]),(true,p.c)]) (fun rs _=>rs=c5 (eN l p) (b++zR p)):=by
 refine aa ye rfl ?_
 simp(disch:=omega) [l6,Proof.c,aj.c,VY]
 refine av (xQ l p hw.1) ?_ (ha:=by first|rfl|(simp[aj.c,Proof.c,VY] <;>repeat' constructor))
 simp(disch:=omega) [VY]
 refine aA (fun h0=> ?_) (fun h0=> ?_)
 case refine_2=>simp(disch:=omega) [h0,c5,VY]
 obtain⟨hf,hq,hh⟩:=wH h0
 have h1:=dh (n:=p.heads.length) (by omega)
 simp(disch:=omega) [h0,dq,VY]
 refine av (bG b p.heads.length (tZ (by omega)) (by omega)) ?_
 simp(disch:=omega) [h0,dq,VY]
 refine pJ (σ:=Nat×Nat×Nat) (f1:=_) (by simp(disch:=omega) [VY];rfl) (fun q=> [(23, .val false [.int .i64 (q.1:Int)]),(8, .val false [.ow q.2.1 q.2.2])]) (fun q=> [(q.2.1, .sl q.2.2 true true (some (5,1)) (bytes (b++(bo p.heads.length++fw (p.heads.take q.1)))))]) (fun q g=>g+q.1=p.heads.length∧(q.2.1=172032∨q.2.1=270336)) (0,172032,13) p.heads.length (by simp(disch:=omega) [VY]) (by simp(disch:=omega) [show fw []= []from rfl,VY]) ⟨by omega, .inl rfl⟩ ?_
 rintro⟨i,key,v⟩ n g ⟨hg,hk⟩ P hP
 simp only at hg hk
 have hl:=sI (l:=p.heads.take i) (fun e h=>fv (hh e (List.mem_of_mem_take h)))
 have hl2:(p.heads.take i).length≤5:=by rw[List.length_take];omega
 have hl3:(fw (p.heads.take i)).length≤5000:=by omega
 rcases hk with rfl|rfl
 all_goals
  simp(disch:=omega) [VY]
  refine ab (fun h2=> ?_) (fun h2=> ?_)
  ·have hi:i < p.heads.length:=by omega
   have hx:=hh _ (List.getElem_mem hi)
   simp(disch:=omega) [kF hi,Head.c,VY]
   refine av ((cL l (b++(bo p.heads.length++fw (p.heads.take i))) p.heads[i] (hw.2.1 _ (List.getElem_mem hi)).1 (by simp only[List.length_append];omega)).re (cQ hx)) ?_ (ha:=by first|rfl|(simp[aj.c,Head.c,VY] <;>repeat' constructor))
   simp(disch:=omega) [VY]
   exact hP (i+1,270336,_) (g - 1) _ _ (by omega) ⟨by simp only;omega, .inr rfl⟩ (by simp(disch:=omega) [VY];rfl) (by simp(disch:=omega) [FV hi,VY])
  ·have hi:i=p.heads.length:=by omega
   subst hi
   rw[List.take_length]at hl3
   simp(disch:=omega) [List.take_length,VY]
   refine av ((fM l (b++(bo p.heads.length++fw p.heads)) p.qc hw.2.2.1 (by simp only[List.length_append];omega)).re (cQ hq)) ?_ (ha:=by first|rfl|(simp[aj.c,Qc.c,VY] <;>repeat' constructor))
   simp(disch:=omega) [c5,zR,fw,VY]
theorem yF {l:aj} {x:bm} (h:pY l x=true):isNum x.height=true∧isNum x.n=true∧isNum x.idx=true∧x.tx.length≤40∧x.path.length≤8∧∀y∈x.path,y.length=32:=by
 simp only[pY,Bool.and_eq_true,decide_eq_true_eq]at h
 obtain⟨⟨⟨⟨⟨⟨h1,h2⟩,h3⟩,h4⟩,h5⟩,h6⟩,h7⟩:=h
 have g1:=H2 h1
 have g3:=eX h3
 have g4:=eX h4
 have g5:=cA x.n.toNat x.idx.toNat
 refine⟨h2,by simp only[isNum,cw,decide_eq_true_eq];omega,by simp only[isNum,cw,decide_eq_true_eq];omega,by omega,by omega,fun y hy=> ?_⟩
 simp only[hashes,List.all_eq_true]at h7
 exact uF (h7 y hy)
abbrev nu:Nat:=263
def oX:AF:=⟨3,6,[.tmp 6, .tmp 7],(.seq (.ops [.i (.lbox 3 (.s 0)), .i (.lbox 5 (.s 2)), .i (.mov 6 (.c (.val false [.nils]))), .i (.mov 7 (qb false))]) (.seq (.seq (.ops [ql 11 3 3 5 true,ql 12 5 5 5 true, .i (.call 14 315 false [(.s 11),(.s 12)]), .i (.not 14 (.s 13))]) (.cond (.s 14) (.seq (.ops [.i (.mov 6 (.c (.val false [.nils]))), .i (.mov 7 (qb false))]) .ret) .skip)) (.seq (.ops [qm 15 1,qf 16 5 0,ql 17 5 16 1 false, .i (.call 19 308 false [(.s 15),(.s 17)]),qf 19 5 1,ql 20 5 19 1 false, .i (.call 22 308 false [(.s 18),(.s 20)]),qf 22 5 2,ql 23 5 22 1 false, .i (.call 25 308 false [(.s 21),(.s 23)]),qf 25 5 3,ql 26 5 25 1 false, .i (.call 28 312 false [(.s 24),(.s 26)]),qm 8 27]) (.seq (.seq (.ops [qf 28 5 4,ql 29 5 28 1 false,qn 30 29, .i (.mov 31 (qi 0))]) (.block 0 (.loop [38,37,36,35,34,33,32,10] (.seq (.ops [qd 32 .lss 31 30]) (.seq (.cond (.s 32) .skip (.exit 0)) (.seq (.block 1 (.seq (.ops [.i (.iad 33 (.s 29) (.s 31) 1), .i (.ldh 34 (.s 33) 1 false),qm 10 34]) (.ops [qm 35 8,qm 36 10, .i (.app 37 5 1 1 (.s 35) (.s 36)),qm 8 37]))) (.ops [.i (.bin 38 .add (.s 31) (qi 1)),qm 31 38]))))))) (.seq (.ops [qm 39 8,qm 6 39, .i (.mov 7 (qb true))]) .ret)))))⟩
theorem yQ:cd nu=some oX:=by kernel_rfl
theorem lY (l:aj) (b:Bytes) (x:bm) (hw:x.wc) (htx:x.tx.length≤100000000) (hb:b.length≤800000000):VC cd nu (aH [(true,l.c),(false,[.sl (bytes b)]),(true,x.c)]) (fun rs _=>rs=c5 (pY l x) (b++F3 x)):=by
 refine aa yQ rfl ?_
 simp(disch:=omega) [oX,bm.c,aj.c,VY]
 refine av (AW l x hw) ?_ (ha:=by first|rfl|(simp[aj.c,bm.c,VY] <;>repeat' constructor))
 simp(disch:=omega) [VY]
 refine aA (fun h0=> ?_) (fun h0=> ?_)
 case refine_2=>simp(disch:=omega) [h0,c5,VY]
 obtain⟨n1,n2,n3,ht,hf,hp⟩:=yF h0
 have v1:=aQ n1
 have v2:=aQ n2
 have v3:=aQ n3
 have v4:=vD (x:=x.tx) (by omega)
 simp(disch:=omega) [h0,VY]
 refine av (bG b x.height n1 (by omega)) ?_
 simp(disch:=omega) [h0,VY]
 refine av (bG (b++bo x.height.toNat) x.n n2 (by simp only[List.length_append];omega)) ?_
 simp(disch:=omega) [h0,VY]
 refine av (bG (b++(bo x.height.toNat++bo x.n.toNat)) x.idx n3 (by simp only[List.length_append];omega)) ?_
 simp(disch:=omega) [h0,VY]
 refine av (lD (b++(bo x.height.toNat++(bo x.n.toNat++bo x.idx.toNat))) x.tx (by simp only[List.length_append];omega) (by omega)) ?_
 simp(disch:=omega) [h0,aB,VY]
 refine pJ (σ:=Nat×Nat) (f1:=_) (by simp(disch:=omega) [VY];rfl) (fun q=> [(31, .val false [.int .i64 (q.1:Int)]),(8, .val false [.ow 237568 q.2])]) (fun q=> [(237568, .sl q.2 true true (some (5,1)) (bytes (b++(bo x.height.toNat++(bo x.n.toNat++(bo x.idx.toNat++(ux x.tx++(x.path.take q.1).flatten)))))))]) (fun q g=>g+q.1=x.path.length) (0,15) x.path.length (by simp(disch:=omega) [VY]) (by simp(disch:=omega) [VY]) (by omega) ?_
 rintro⟨i,v⟩ n g hg P hP
 simp only at hg
 simp(disch:=omega) [VY]
 refine ab (fun h2=> ?_) (fun h2=> ?_)
 ·have hi:i < x.path.length:=by omega
  have hy:=hp _ (List.getElem_mem hi)
  have hz:=qD hp (i:=i) (by omega)
  simp(disch:=omega) [fN hi,br,ae,hz,VY]
  exact hP (i+1,_) (g - 1) _ _ (by omega) (by simp only;omega) (by simp(disch:=omega) [VY];rfl) (by simp(disch:=omega) [Cz hi,VY])
 ·have hi:i=x.path.length:=by omega
  subst hi
  simp(disch:=omega) [c5,F3,List.take_length,VY]
end Go.Eng.F
namespace Go.Eng.F
structure bh where
 kind:Int
 vote:bu
 qc:Qc
 head:Head
 block:Block
 tc:Tc
 proof:Proof
 incl:bm
def bh.c (m:bh):List D:= [.int .i64 m.kind, .int .i64 m.vote.view, .int .i64 m.vote.height, .sl (bytes m.vote.block), .int .i64 m.vote.who, .sl (bytes m.vote.tag), .int .i64 m.qc.view, .int .i64 m.qc.height, .sl (bytes m.qc.block), .sl (bytes m.qc.bits), .sl (bz m.qc.tags), .int .i64 m.head.view, .int .i64 m.head.height, .int .i64 m.head.proposer, .sl (bytes m.head.parent), .sl (bytes m.head.root), .int .i64 m.head.qc.view, .int .i64 m.head.qc.height, .sl (bytes m.head.qc.block), .sl (bytes m.head.qc.bits), .sl (bz m.head.qc.tags), .int .i64 m.block.head.view, .int .i64 m.block.head.height, .int .i64 m.block.head.proposer, .sl (bytes m.block.head.parent), .sl (bytes m.block.head.root), .int .i64 m.block.head.qc.view, .int .i64 m.block.head.qc.height, .sl (bytes m.block.head.qc.block), .sl (bytes m.block.head.qc.bits), .sl (bz m.block.head.qc.tags), .sl (bz m.block.txs), .int .i64 m.tc.view, .sl (kB m.tc.entries), .sl (fT m.proof.heads), .int .i64 m.proof.qc.view, .int .i64 m.proof.qc.height, .sl (bytes m.proof.qc.block), .sl (bytes m.proof.qc.bits), .sl (bz m.proof.qc.tags), .int .i64 m.incl.height, .int .i64 m.incl.n, .int .i64 m.incl.idx, .sl (bytes m.incl.tx), .sl (bz m.incl.path)]
def Block.wx (x:Block):Prop:=x.wc∧∀t∈x.txs,t.length≤100000000
structure bh.wc (m:bh):Prop where
 kind:mq m.kind
 vote:m.vote.wf
 qc:m.qc.wc
 head:m.head.wc
 block:m.block.wx
 tc:m.tc.wf
 proof:m.proof.wc
 incl:m.incl.wc
 tx:m.incl.tx.length≤100000000
def bx:bu:=⟨0,0,[],0,[]⟩
def fD:Qc:=⟨0,0,[],[],[]⟩
def bb:Head:=⟨0,0,0,[],[],fD⟩
def aE:Block:=⟨bb,[]⟩
def ia:Tc:=⟨0,[]⟩
def aK:Proof:=⟨[],fD⟩
def bq:bm:=⟨0,0,0,[],[]⟩
def aC:bh:=⟨0,bx,fD,bb,aE,ia,aK,bq⟩
theorem ir:aC.wc:=by
 constructor <;>simp[aC,bx,fD,bb,aE,ia,aK,bq,mq,Sz,bu.wf,Qc.wc,Qc.wf,Head.wc,Head.wf,Block.wx,Block.wc,oE,Tc.wf,Proof.wc,Proof.wf,Eg,bm.wc]
def DV (a b:bh):Bool:=decide (a.kind=b.kind) && AB a.vote b.vote && Ar a.qc b.qc && jx a.head b.head && vB a.block b.block && m9 a.tc b.tc && iV a.proof b.proof && Az a.incl b.incl
abbrev nv:Nat:=239
def mE:AF:=⟨2,6,[.tmp 4],(.seq (.ops [.i (.lbox 2 (.s 0)), .i (.lbox 3 (.s 1)), .i (.mov 4 (qb false))]) (.seq (.ops [qf 5 2 0,ql 6 2 5 1 false,qf 7 3 0,ql 8 3 7 1 false,qd 9 .eql 6 8,qm 10 9, .g 10 true 12 (.fad 11 (.s 2) 1), .g 10 true 13 (.ldl 12 2 (.s 11) 5 true), .g 10 true 14 (.fad 13 (.s 3) 1), .g 10 true 15 (.ldl 14 3 (.s 13) 5 true), .g 10 true 16 (.call 16 298 false [(.s 12),(.s 14)]), .i (.pick 16 (.s 10) (.s 15) (qb false)),qm 17 16, .g 17 true 19 (.fad 18 (.s 2) 6), .g 17 true 20 (.ldl 19 2 (.s 18) 5 true), .g 17 true 21 (.fad 20 (.s 3) 6), .g 17 true 22 (.ldl 21 3 (.s 20) 5 true), .g 17 true 23 (.call 23 299 false [(.s 19),(.s 21)]), .i (.pick 23 (.s 17) (.s 22) (qb false)),qm 24 23, .g 24 true 26 (.fad 25 (.s 2) 11), .g 24 true 27 (.ldl 26 2 (.s 25) 10 true), .g 24 true 28 (.fad 27 (.s 3) 11), .g 24 true 29 (.ldl 28 3 (.s 27) 10 true), .g 24 true 30 (.call 30 300 false [(.s 26),(.s 28)]), .i (.pick 30 (.s 24) (.s 29) (qb false)),qm 31 30, .g 31 true 33 (.fad 32 (.s 2) 21), .g 31 true 34 (.ldl 33 2 (.s 32) 11 true), .g 31 true 35 (.fad 34 (.s 3) 21), .g 31 true 36 (.ldl 35 3 (.s 34) 11 true), .g 31 true 37 (.call 37 301 false [(.s 33),(.s 35)]), .i (.pick 37 (.s 31) (.s 36) (qb false)),qm 38 37, .g 38 true 40 (.fad 39 (.s 2) 32), .g 38 true 41 (.ldl 40 2 (.s 39) 2 true), .g 38 true 42 (.fad 41 (.s 3) 32), .g 38 true 43 (.ldl 42 3 (.s 41) 2 true), .g 38 true 44 (.call 44 302 false [(.s 40),(.s 42)]), .i (.pick 44 (.s 38) (.s 43) (qb false)),qm 45 44, .g 45 true 47 (.fad 46 (.s 2) 34), .g 45 true 48 (.ldl 47 2 (.s 46) 6 true), .g 45 true 49 (.fad 48 (.s 3) 34), .g 45 true 50 (.ldl 49 3 (.s 48) 6 true), .g 45 true 51 (.call 51 303 false [(.s 47),(.s 49)]), .i (.pick 51 (.s 45) (.s 50) (qb false)),qm 52 51, .g 52 true 54 (.fad 53 (.s 2) 40), .g 52 true 55 (.ldl 54 2 (.s 53) 5 true), .g 52 true 56 (.fad 55 (.s 3) 40), .g 52 true 57 (.ldl 56 3 (.s 55) 5 true), .g 52 true 58 (.call 58 304 false [(.s 54),(.s 56)]), .i (.pick 58 (.s 52) (.s 57) (qb false)),qm 4 58]) .ret))⟩
theorem zA:cd nv=some mE:=by kernel_rfl
theorem cn (a b:bh) (ha:a.wc) (hb:b.wc):VC cd nv (aH [(true,a.c),(true,b.c)]) (fun rs _=>rs=bl (DV a b)):=by
 refine aa zA rfl ?_
 simp(disch:=omega) [mE,bh.c,VY]
 refine ab (fun h1=> ?_) (fun h1=> ?_) <;>simp(disch:=omega) [h1,DV,VY]
 refine av (vg a.vote b.vote) ?_ (ha:=by first|rfl|(simp[bu.c,VY] <;>repeat' constructor))
 simp(disch:=omega) [h1,VY]
 refine aA (fun h2=> ?_) (fun h2=> ?_) <;>simp(disch:=omega) [h1,h2,VY]
 refine av (gQ a.qc b.qc ha.qc.1 hb.qc.1) ?_ (ha:=by first|rfl|(simp[Qc.c,VY] <;>repeat' constructor))
 simp(disch:=omega) [h1,h2,VY]
 refine aA (fun h3=> ?_) (fun h3=> ?_) <;>simp(disch:=omega) [h1,h2,h3,VY]
 refine av (fJ a.head b.head ha.head.1 hb.head.1) ?_ (ha:=by first|rfl|(simp[Head.c,VY] <;>repeat' constructor))
 simp(disch:=omega) [h1,h2,h3,VY]
 refine aA (fun h4=> ?_) (fun h4=> ?_) <;>simp(disch:=omega) [h1,h2,h3,h4,VY]
 refine av (uz a.block b.block ha.block.1 hb.block.1) ?_ (ha:=by first|rfl|(simp[Block.c,Head.c,VY] <;>repeat' constructor))
 simp(disch:=omega) [h1,h2,h3,h4,VY]
 refine aA (fun h5=> ?_) (fun h5=> ?_) <;>simp(disch:=omega) [h1,h2,h3,h4,h5,VY]
 refine av (zS a.tc b.tc ha.tc hb.tc) ?_ (ha:=by first|rfl|(simp[Tc.c,VY] <;>repeat' constructor))
 simp(disch:=omega) [h1,h2,h3,h4,h5,VY]
 refine aA (fun h6=> ?_) (fun h6=> ?_) <;>simp(disch:=omega) [h1,h2,h3,h4,h5,h6,VY]
 refine av (uO a.proof b.proof ha.proof.1 hb.proof.1) ?_ (ha:=by first|rfl|(simp[Proof.c,VY] <;>repeat' constructor))
 simp(disch:=omega) [h1,h2,h3,h4,h5,h6,VY]
 refine aA (fun h7=> ?_) (fun h7=> ?_) <;>simp(disch:=omega) [h1,h2,h3,h4,h5,h6,h7,VY]
 refine av (vZ a.incl b.incl ha.incl hb.incl) ?_ (ha:=by first|rfl|(simp[bm.c,VY] <;>repeat' constructor))
 simp(disch:=omega) [h1,h2,h3,h4,h5,h6,h7,VY]
def iC (x:bu):List (Bool×List E):= [(true,[.p (.int .i64 1), .p (.int .i64 x.view), .p (.int .i64 x.height), .o true (some (5,1)) (bytes x.block), .p (.int .i64 x.who), .o true (some (5,1)) (bytes x.tag), .p (.int .i64 0), .p (.int .i64 0), .p .nils, .p .nils, .p .nils, .p (.int .i64 0), .p (.int .i64 0), .p (.int .i64 0), .p .nils, .p .nils, .p (.int .i64 0), .p (.int .i64 0), .p .nils, .p .nils, .p .nils, .p (.int .i64 0), .p (.int .i64 0), .p (.int .i64 0), .p .nils, .p .nils, .p (.int .i64 0), .p (.int .i64 0), .p .nils, .p .nils, .p .nils, .p .nils, .p (.int .i64 0), .p .nils, .p .nils, .p (.int .i64 0), .p (.int .i64 0), .p .nils, .p .nils, .p .nils, .p (.int .i64 0), .p (.int .i64 0), .p (.int .i64 0), .p .nils, .p .nils])]
def CJ (x:Qc):List (Bool×List E):= [(true,[.p (.int .i64 2), .p (.int .i64 0), .p (.int .i64 0), .p .nils, .p (.int .i64 0), .p .nils, .p (.int .i64 x.view), .p (.int .i64 x.height), .o true (some (5,1)) (bytes x.block), .o true (some (5,1)) (bytes x.bits), .o true (some (22,1)) (bz x.tags), .p (.int .i64 0), .p (.int .i64 0), .p (.int .i64 0), .p .nils, .p .nils, .p (.int .i64 0), .p (.int .i64 0), .p .nils, .p .nils, .p .nils, .p (.int .i64 0), .p (.int .i64 0), .p (.int .i64 0), .p .nils, .p .nils, .p (.int .i64 0), .p (.int .i64 0), .p .nils, .p .nils, .p .nils, .p .nils, .p (.int .i64 0), .p .nils, .p .nils, .p (.int .i64 0), .p (.int .i64 0), .p .nils, .p .nils, .p .nils, .p (.int .i64 0), .p (.int .i64 0), .p (.int .i64 0), .p .nils, .p .nils])]
def qw (x:Head):List (Bool×List E):= [(true,[.p (.int .i64 3), .p (.int .i64 0), .p (.int .i64 0), .p .nils, .p (.int .i64 0), .p .nils, .p (.int .i64 0), .p (.int .i64 0), .p .nils, .p .nils, .p .nils, .p (.int .i64 x.view), .p (.int .i64 x.height), .p (.int .i64 x.proposer), .o true (some (5,1)) (bytes x.parent), .o true (some (5,1)) (bytes x.root), .p (.int .i64 x.qc.view), .p (.int .i64 x.qc.height), .o true (some (5,1)) (bytes x.qc.block), .o true (some (5,1)) (bytes x.qc.bits), .o true (some (22,1)) (bz x.qc.tags), .p (.int .i64 0), .p (.int .i64 0), .p (.int .i64 0), .p .nils, .p .nils, .p (.int .i64 0), .p (.int .i64 0), .p .nils, .p .nils, .p .nils, .p .nils, .p (.int .i64 0), .p .nils, .p .nils, .p (.int .i64 0), .p (.int .i64 0), .p .nils, .p .nils, .p .nils, .p (.int .i64 0), .p (.int .i64 0), .p (.int .i64 0), .p .nils, .p .nils])]
def qt (x:bm):List (Bool×List E):= [(true,[.p (.int .i64 7), .p (.int .i64 0), .p (.int .i64 0), .p .nils, .p (.int .i64 0), .p .nils, .p (.int .i64 0), .p (.int .i64 0), .p .nils, .p .nils, .p .nils, .p (.int .i64 0), .p (.int .i64 0), .p (.int .i64 0), .p .nils, .p .nils, .p (.int .i64 0), .p (.int .i64 0), .p .nils, .p .nils, .p .nils, .p (.int .i64 0), .p (.int .i64 0), .p (.int .i64 0), .p .nils, .p .nils, .p (.int .i64 0), .p (.int .i64 0), .p .nils, .p .nils, .p .nils, .p .nils, .p (.int .i64 0), .p .nils, .p .nils, .p (.int .i64 0), .p (.int .i64 0), .p .nils, .p .nils, .p .nils, .p (.int .i64 x.height), .p (.int .i64 x.n), .p (.int .i64 x.idx), .o true (some (5,1)) (bytes x.tx), .o true (some (22,1)) (bz x.path)])]
abbrev iI:Nat:=160
def sm:AF:=⟨1,4,[.cell 2 45 true],(.seq (.ops [.i (.lbox 1 (.s 0)), .i (.lal 2 [.int .i64 0, .int .i64 0, .int .i64 0, .nils, .int .i64 0, .nils, .int .i64 0, .int .i64 0, .nils, .nils, .nils, .int .i64 0, .int .i64 0, .int .i64 0, .nils, .nils, .int .i64 0, .int .i64 0, .nils, .nils, .nils, .int .i64 0, .int .i64 0, .int .i64 0, .nils, .nils, .int .i64 0, .int .i64 0, .nils, .nils, .nils, .nils, .int .i64 0, .nils, .nils, .int .i64 0, .int .i64 0, .nils, .nils, .nils, .int .i64 0, .int .i64 0, .int .i64 0, .nils, .nils])]) (.seq (.ops [qf 3 1 2,ql 4 1 3 1 false,qk 6 143 4,qf 6 1 2,qs 1 6 5 1]) (.seq (.ops [qf 7 1 4,ql 8 1 7 1 false,qk 10 143 8,qf 10 1 4,qs 1 10 9 1]) (.seq (.ops [ql 11 1 1 5 true, .i (.bld 12 [.int .i64 0, .int .i64 0, .int .i64 0, .nils, .int .i64 0, .nils, .int .i64 0, .int .i64 0, .nils, .nils, .nils, .int .i64 0, .int .i64 0, .int .i64 0, .nils, .nils, .int .i64 0, .int .i64 0, .nils, .nils, .nils, .int .i64 0, .int .i64 0, .int .i64 0, .nils, .nils, .int .i64 0, .int .i64 0, .nils, .nils, .nils, .nils, .int .i64 0, .nils, .nils, .int .i64 0, .int .i64 0, .nils, .nils, .nils, .int .i64 0, .int .i64 0, .int .i64 0, .nils, .nils] [(0,1,(qi 1)),(1,5,(.s 11))]),qs 2 2 12 45]) .ret))))⟩
theorem Bf:cd iI=some sm:=by kernel_rfl
theorem eZ (x:bu) (hw:x.wf):VC cd iI (aH [(true,x.c)]) (fun rs _=>rs=iC x):=by
 have w1:=hw.2.2.1
 have w2:=hw.2.2.2.2
 simp only[Sz]at w1 w2
 refine aa Bf rfl ?_
 simp(disch:=omega) [sm,bu.c,VY]
 refine av (aY x.block (by omega)) ?_
 simp(disch:=omega) [VY]
 refine av (aY x.tag (by omega)) ?_
 simp(disch:=omega) [iC,VY]
abbrev wR:Nat:=184
def wS:AF:=⟨1,3,[.cell 2 45 true],(.seq (.ops [.i (.lbox 1 (.s 0)), .i (.lal 2 [.int .i64 0, .int .i64 0, .int .i64 0, .nils, .int .i64 0, .nils, .int .i64 0, .int .i64 0, .nils, .nils, .nils, .int .i64 0, .int .i64 0, .int .i64 0, .nils, .nils, .int .i64 0, .int .i64 0, .nils, .nils, .nils, .int .i64 0, .int .i64 0, .int .i64 0, .nils, .nils, .int .i64 0, .int .i64 0, .nils, .nils, .nils, .nils, .int .i64 0, .nils, .nils, .int .i64 0, .int .i64 0, .nils, .nils, .nils, .int .i64 0, .int .i64 0, .int .i64 0, .nils, .nils])]) (.seq (.ops [ql 3 1 1 5 true,qk 5 264 3, .i (.bld 5 [.int .i64 0, .int .i64 0, .int .i64 0, .nils, .int .i64 0, .nils, .int .i64 0, .int .i64 0, .nils, .nils, .nils, .int .i64 0, .int .i64 0, .int .i64 0, .nils, .nils, .int .i64 0, .int .i64 0, .nils, .nils, .nils, .int .i64 0, .int .i64 0, .int .i64 0, .nils, .nils, .int .i64 0, .int .i64 0, .nils, .nils, .nils, .nils, .int .i64 0, .nils, .nils, .int .i64 0, .int .i64 0, .nils, .nils, .nils, .int .i64 0, .int .i64 0, .int .i64 0, .nils, .nils] [(0,1,(qi 2)),(6,5,(.s 4))]),qs 2 2 5 45]) .ret))⟩
theorem Ez:cd wR=some wS:=by kernel_rfl
theorem tj (x:Qc) (hw:x.wc):VC cd wR (aH [(true,x.c)]) (fun rs _=>rs=CJ x):=by
 refine aa Ez rfl ?_
 simp(disch:=omega) [wS,Qc.c,VY]
 refine av (sH x hw) ?_ (ha:=by first|rfl|(simp[Qc.c,VY] <;>repeat' constructor))
 simp(disch:=omega) [CJ,Qc.o,VY]
abbrev rQ:Nat:=186
def r0:AF:=⟨1,3,[.cell 2 45 true],(.seq (.ops [.i (.lbox 1 (.s 0)), .i (.lal 2 [.int .i64 0, .int .i64 0, .int .i64 0, .nils, .int .i64 0, .nils, .int .i64 0, .int .i64 0, .nils, .nils, .nils, .int .i64 0, .int .i64 0, .int .i64 0, .nils, .nils, .int .i64 0, .int .i64 0, .nils, .nils, .nils, .int .i64 0, .int .i64 0, .int .i64 0, .nils, .nils, .int .i64 0, .int .i64 0, .nils, .nils, .nils, .nils, .int .i64 0, .nils, .nils, .int .i64 0, .int .i64 0, .nils, .nils, .nils, .int .i64 0, .int .i64 0, .int .i64 0, .nils, .nils])]) (.seq (.ops [ql 3 1 1 10 true,qk 5 267 3, .i (.bld 5 [.int .i64 0, .int .i64 0, .int .i64 0, .nils, .int .i64 0, .nils, .int .i64 0, .int .i64 0, .nils, .nils, .nils, .int .i64 0, .int .i64 0, .int .i64 0, .nils, .nils, .int .i64 0, .int .i64 0, .nils, .nils, .nils, .int .i64 0, .int .i64 0, .int .i64 0, .nils, .nils, .int .i64 0, .int .i64 0, .nils, .nils, .nils, .nils, .int .i64 0, .nils, .nils, .int .i64 0, .int .i64 0, .nils, .nils, .nils, .int .i64 0, .int .i64 0, .int .i64 0, .nils, .nils] [(0,1,(qi 3)),(11,10,(.s 4))]),qs 2 2 5 45]) .ret))⟩
theorem Bz:cd rQ=some r0:=by kernel_rfl
theorem pF (x:Head) (hw:x.wc):VC cd rQ (aH [(true,x.c)]) (fun rs _=>rs=qw x):=by
 refine aa Bz rfl ?_
 simp(disch:=omega) [r0,Head.c,VY]
 refine av (kr x hw) ?_ (ha:=by first|rfl|(simp[Head.c,VY] <;>repeat' constructor))
 simp(disch:=omega) [qw,Head.o,VY]
abbrev rN:Nat:=194
def so:AF:=⟨1,3,[.cell 2 45 true],(.seq (.ops [.i (.lbox 1 (.s 0)), .i (.lal 2 [.int .i64 0, .int .i64 0, .int .i64 0, .nils, .int .i64 0, .nils, .int .i64 0, .int .i64 0, .nils, .nils, .nils, .int .i64 0, .int .i64 0, .int .i64 0, .nils, .nils, .int .i64 0, .int .i64 0, .nils, .nils, .nils, .int .i64 0, .int .i64 0, .int .i64 0, .nils, .nils, .int .i64 0, .int .i64 0, .nils, .nils, .nils, .nils, .int .i64 0, .nils, .nils, .int .i64 0, .int .i64 0, .nils, .nils, .nils, .int .i64 0, .int .i64 0, .int .i64 0, .nils, .nils])]) (.seq (.ops [ql 3 1 1 5 true,qk 5 275 3, .i (.bld 5 [.int .i64 0, .int .i64 0, .int .i64 0, .nils, .int .i64 0, .nils, .int .i64 0, .int .i64 0, .nils, .nils, .nils, .int .i64 0, .int .i64 0, .int .i64 0, .nils, .nils, .int .i64 0, .int .i64 0, .nils, .nils, .nils, .int .i64 0, .int .i64 0, .int .i64 0, .nils, .nils, .int .i64 0, .int .i64 0, .nils, .nils, .nils, .nils, .int .i64 0, .nils, .nils, .int .i64 0, .int .i64 0, .nils, .nils, .nils, .int .i64 0, .int .i64 0, .int .i64 0, .nils, .nils] [(0,1,(qi 7)),(40,5,(.s 4))]),qs 2 2 5 45]) .ret))⟩
theorem BD:cd rN=some so:=by kernel_rfl
theorem pW (x:bm) (hw:x.wc):VC cd rN (aH [(true,x.c)]) (fun rs _=>rs=qt x):=by
 refine aa BD rfl ?_
 simp(disch:=omega) [so,bm.c,VY]
 refine av (GI x hw) ?_ (ha:=by first|rfl|(simp[bm.c,VY] <;>repeat' constructor))
 simp(disch:=omega) [qt,bm.o,VY]
abbrev b7:Nat:=240
def b9:AF:=⟨1,6,[.cell 2 45 true],(.seq (.ops [.i (.lbox 1 (.s 0)), .i (.lal 2 [.int .i64 0, .int .i64 0, .int .i64 0, .nils, .int .i64 0, .nils, .int .i64 0, .int .i64 0, .nils, .nils, .nils, .int .i64 0, .int .i64 0, .int .i64 0, .nils, .nils, .int .i64 0, .int .i64 0, .nils, .nils, .nils, .int .i64 0, .int .i64 0, .int .i64 0, .nils, .nils, .int .i64 0, .int .i64 0, .nils, .nils, .nils, .nils, .int .i64 0, .nils, .nils, .int .i64 0, .int .i64 0, .nils, .nils, .nils, .int .i64 0, .int .i64 0, .int .i64 0, .nils, .nils])]) (.seq (.seq (.ops [qf 3 1 0,ql 4 1 3 1 false]) (.block 0 (.seq (.ops [.i (.bin 6 .eql (.s 4) (qi 1)),qm 5 6]) (.cond (.s 5) (.seq (.ops [qf 7 1 1,ql 8 1 7 5 true,qk 10 160 8,qs 2 2 9 45]) .ret) (.seq (.ops [.i (.bin 11 .eql (.s 4) (qi 2)),qm 10 11]) (.cond (.s 10) (.seq (.ops [qf 12 1 6,ql 13 1 12 5 true,qk 15 184 13,qs 2 2 14 45]) .ret) (.seq (.ops [.i (.bin 16 .eql (.s 4) (qi 3)),qm 15 16]) (.cond (.s 15) (.seq (.ops [qf 17 1 11,ql 18 1 17 10 true,qk 20 186 18,qs 2 2 19 45]) .ret) (.seq (.ops [.i (.bin 21 .eql (.s 4) (qi 4)),qm 20 21]) (.cond (.s 20) (.seq (.ops [qf 22 1 21,ql 23 1 22 11 true,qk 25 188 23,qs 2 2 24 45]) .ret) (.seq (.ops [.i (.bin 26 .eql (.s 4) (qi 5)),qm 25 26]) (.cond (.s 25) (.seq (.ops [qf 27 1 32,ql 28 1 27 2 true,qk 30 190 28,qs 2 2 29 45]) .ret) (.seq (.ops [.i (.bin 31 .eql (.s 4) (qi 6)),qm 30 31]) (.cond (.s 30) (.seq (.ops [qf 32 1 34,ql 33 1 32 6 true,qk 35 192 33,qs 2 2 34 45]) .ret) (.seq (.ops [.i (.bin 36 .eql (.s 4) (qi 7)),qm 35 36]) (.cond (.s 35) (.seq (.ops [qf 37 1 40,ql 38 1 37 5 true,qk 40 194 38,qs 2 2 39 45]) .ret) .skip)))))))))))))))) (.seq (.ops [.i (.bld 40 [.int .i64 0, .int .i64 0, .int .i64 0, .nils, .int .i64 0, .nils, .int .i64 0, .int .i64 0, .nils, .nils, .nils, .int .i64 0, .int .i64 0, .int .i64 0, .nils, .nils, .int .i64 0, .int .i64 0, .nils, .nils, .nils, .int .i64 0, .int .i64 0, .int .i64 0, .nils, .nils, .int .i64 0, .int .i64 0, .nils, .nils, .nils, .nils, .int .i64 0, .nils, .nils, .int .i64 0, .int .i64 0, .nils, .nils, .nils, .int .i64 0, .int .i64 0, .int .i64 0, .nils, .nils] []),qs 2 2 40 45]) .ret)))⟩
theorem cI:cd b7=some b9:=by kernel_rfl
theorem Dw (m:bh) (hw:m.wc) (hk:m.kind=1):VC cd b7 (aH [(true,m.c)]) (fun rs _=>rs=iC m.vote):=by
 refine aa cI rfl ?_
 simp(disch:=omega) [b9,bh.c,hk,VY]
 refine av (eZ m.vote hw.vote) ?_ (ha:=by first|rfl|(simp[bu.c,VY] <;>repeat' constructor))
 simp(disch:=omega) [iC,VY]
theorem Dn (m:bh) (hw:m.wc) (hk:m.kind=2):VC cd b7 (aH [(true,m.c)]) (fun rs _=>rs=CJ m.qc):=by
 refine aa cI rfl ?_
 simp(disch:=omega) [b9,bh.c,hk,VY]
 refine av (tj m.qc hw.qc) ?_ (ha:=by first|rfl|(simp[Qc.c,VY] <;>repeat' constructor))
 simp(disch:=omega) [CJ,VY]
theorem C5 (m:bh) (hw:m.wc) (hk:m.kind=3):VC cd b7 (aH [(true,m.c)]) (fun rs _=>rs=qw m.head):=by
 refine aa cI rfl ?_
 simp(disch:=omega) [b9,bh.c,hk,VY]
 refine av (pF m.head hw.head) ?_ (ha:=by first|rfl|(simp[Head.c,VY] <;>repeat' constructor))
 simp(disch:=omega) [qw,VY]
theorem Eb (m:bh) (hw:m.wc) (hk:m.kind=4):VC cd b7 (aH [(true,m.c)]) (fun rs _=>rs=iY m.block):=by
 refine aa cI rfl ?_
 simp(disch:=omega) [b9,bh.c,hk,VY]
 refine av (ma m.block hw.block.1) ?_ (ha:=by first|rfl|(simp[Block.c,Head.c,VY] <;>repeat' constructor))
 simp(disch:=omega) [iY,VY]
theorem DD (m:bh) (hw:m.wc) (hk:m.kind=5):VC cd b7 (aH [(true,m.c)]) (fun rs _=>rs=Cc m.tc):=by
 refine aa cI rfl ?_
 simp(disch:=omega) [b9,bh.c,hk,VY]
 refine av (um m.tc hw.tc) ?_ (ha:=by first|rfl|(simp[Tc.c,VY] <;>repeat' constructor))
 simp(disch:=omega) [Cc,VY]
theorem C2 (m:bh) (hw:m.wc) (hk:m.kind=6):VC cd b7 (aH [(true,m.c)]) (fun rs _=>rs=j0 m.proof):=by
 refine aa cI rfl ?_
 simp(disch:=omega) [b9,bh.c,hk,VY]
 refine av (ly m.proof hw.proof) ?_ (ha:=by first|rfl|(simp[Proof.c,VY] <;>repeat' constructor))
 simp(disch:=omega) [j0,VY]
theorem Di (m:bh) (hw:m.wc) (hk:m.kind=7):VC cd b7 (aH [(true,m.c)]) (fun rs _=>rs=qt m.incl):=by
 refine aa cI rfl ?_
 simp(disch:=omega) [b9,bh.c,hk,VY]
 refine av (pW m.incl hw.incl) ?_ (ha:=by first|rfl|(simp[bm.c,VY] <;>repeat' constructor))
 simp(disch:=omega) [qt,VY]
def dr (m:bh):bh:=if m.kind=1 then {aC with kind:=1,vote:=m.vote}else if m.kind=2 then {aC with kind:=2,qc:=m.qc}else if m.kind=3 then {aC with kind:=3,head:=m.head}else if m.kind=4 then {aC with kind:=4,block:=m.block}else if m.kind=5 then {aC with kind:=5,tc:=m.tc}else if m.kind=6 then {aC with kind:=6,proof:=m.proof}else if m.kind=7 then {aC with kind:=7,incl:=m.incl}else aC
def bF (l:aj) (m:bh):Bool:=if m.kind=1 then F8 l m.vote else if m.kind=2 then mz l m.qc else if m.kind=3 then cE l m.head else if m.kind=4 then cm l m.block else if m.kind=5 then tX l m.tc else if m.kind=6 then eN l m.proof else if m.kind=7 then pY l m.incl else false
def eW (m:bh):Bytes:=if m.kind=1 then Ow m.vote else if m.kind=2 then MY m.qc else if m.kind=3 then gB m.head else if m.kind=4 then Av m.block else if m.kind=5 then O4 m.tc else if m.kind=6 then zR m.proof else F3 m.incl
theorem nG {l:aj} {m:bh} (h:bF l m=true):m.kind=1∨m.kind=2∨m.kind=3∨m.kind=4∨m.kind=5∨m.kind=6∨m.kind=7:=by
 unfold bF at h
 repeat' split at h
 all_goals first|(simp at h;done)|omega
def cF (l:aj) (m:bh):Bool:=bF l m && DV m (dr m)
abbrev rJ:Nat:=183
def qU:AF:=⟨3,7,[.tmp 6, .tmp 7],(.seq (.ops [.i (.lbox 3 (.s 0)), .i (.lbox 5 (.s 2)), .i (.mov 6 (.c (.val false [.nils]))), .i (.mov 7 (qb false))]) (.seq (.seq (.ops [qf 8 5 0,ql 9 5 8 1 false]) (.block 0 (.seq (.ops [.i (.bin 11 .eql (.s 9) (qi 1)),qm 10 11]) (.cond (.s 10) (.seq (.ops [ql 12 3 3 5 true,qm 13 1,qf 14 5 1,ql 15 5 14 5 true, .i (.call 17 257 false [(.s 12),(.s 13),(.s 15)]), .i (.ext 17 (.s 16) 0), .i (.ext 18 (.s 16) 1),qm 6 17,qm 7 18]) .ret) (.seq (.ops [.i (.bin 20 .eql (.s 9) (qi 2)),qm 19 20]) (.cond (.s 19) (.seq (.ops [ql 21 3 3 5 true,qm 22 1,qf 23 5 6,ql 24 5 23 5 true, .i (.call 26 258 false [(.s 21),(.s 22),(.s 24)]), .i (.ext 26 (.s 25) 0), .i (.ext 27 (.s 25) 1),qm 6 26,qm 7 27]) .ret) (.seq (.ops [.i (.bin 29 .eql (.s 9) (qi 3)),qm 28 29]) (.cond (.s 28) (.seq (.ops [ql 30 3 3 5 true,qm 31 1,qf 32 5 11,ql 33 5 32 10 true, .i (.call 35 259 false [(.s 30),(.s 31),(.s 33)]), .i (.ext 35 (.s 34) 0), .i (.ext 36 (.s 34) 1),qm 6 35,qm 7 36]) .ret) (.seq (.ops [.i (.bin 38 .eql (.s 9) (qi 4)),qm 37 38]) (.cond (.s 37) (.seq (.ops [ql 39 3 3 5 true,qm 40 1,qf 41 5 21,ql 42 5 41 11 true, .i (.call 44 260 false [(.s 39),(.s 40),(.s 42)]), .i (.ext 44 (.s 43) 0), .i (.ext 45 (.s 43) 1),qm 6 44,qm 7 45]) .ret) (.seq (.ops [.i (.bin 47 .eql (.s 9) (qi 5)),qm 46 47]) (.cond (.s 46) (.seq (.ops [ql 48 3 3 5 true,qm 49 1,qf 50 5 32,ql 51 5 50 2 true, .i (.call 53 261 false [(.s 48),(.s 49),(.s 51)]), .i (.ext 53 (.s 52) 0), .i (.ext 54 (.s 52) 1),qm 6 53,qm 7 54]) .ret) (.seq (.ops [.i (.bin 56 .eql (.s 9) (qi 6)),qm 55 56]) (.cond (.s 55) (.seq (.ops [ql 57 3 3 5 true,qm 58 1,qf 59 5 34,ql 60 5 59 6 true, .i (.call 62 262 false [(.s 57),(.s 58),(.s 60)]), .i (.ext 62 (.s 61) 0), .i (.ext 63 (.s 61) 1),qm 6 62,qm 7 63]) .ret) .skip)))))))))))))) (.seq (.ops [ql 64 3 3 5 true,qm 65 1,qf 66 5 40,ql 67 5 66 5 true, .i (.call 69 263 false [(.s 64),(.s 65),(.s 67)]), .i (.ext 69 (.s 68) 0), .i (.ext 70 (.s 68) 1),qm 6 69,qm 7 70]) .ret)))⟩
theorem Bv:cd rJ=some qU:=by kernel_rfl
theorem bn (l:aj) (b:Bytes) (m:bh) (hw:m.wc) (hk:cw m.kind 1 7=true) (hb:b.length≤800000000):VC cd rJ (aH [(true,l.c),(false,[.sl (bytes b)]),(true,m.c)]) (fun rs _=>rs=c5 (bF l m) (b++eW m)):=by
 have hk2:=eX hk
 refine aa Bv rfl ?_
 simp(disch:=omega) [qU,bh.c,aj.c,VY]
 refine ab (fun g1=> ?_) (fun g1=> ?_)
 ·have e1:bF l m=F8 l m.vote:=by simp[bF,g1]
  have e2:eW m=Ow m.vote:=by simp[eW,g1]
  rw[e1,e2]
  simp(disch:=omega) [g1,VY]
  cases hp:F8 l m.vote
  ·refine av ((lr l b m.vote (by omega)).re (dR hp)) ?_ (ha:=by first|rfl|(simp[aj.c,bu.c,VY] <;>repeat' constructor))
   simp(disch:=omega) [c5,g1,VY]
  ·refine av ((lr l b m.vote (by omega)).re (cQ hp)) ?_ (ha:=by first|rfl|(simp[aj.c,bu.c,VY] <;>repeat' constructor))
   simp(disch:=omega) [c5,g1,VY]
 simp(disch:=omega) [g1,VY]
 refine ab (fun g2=> ?_) (fun g2=> ?_)
 ·have e1:bF l m=mz l m.qc:=by simp[bF,g2]
  have e2:eW m=MY m.qc:=by simp[eW,g2]
  rw[e1,e2]
  simp(disch:=omega) [g2,VY]
  cases hp:mz l m.qc
  ·refine av ((fM l b m.qc hw.qc.1 (by omega)).re (dR hp)) ?_ (ha:=by first|rfl|(simp[aj.c,Qc.c,VY] <;>repeat' constructor))
   simp(disch:=omega) [c5,g2,VY]
  ·refine av ((fM l b m.qc hw.qc.1 (by omega)).re (cQ hp)) ?_ (ha:=by first|rfl|(simp[aj.c,Qc.c,VY] <;>repeat' constructor))
   simp(disch:=omega) [c5,g2,VY]
 simp(disch:=omega) [g2,VY]
 refine ab (fun g3=> ?_) (fun g3=> ?_)
 ·have e1:bF l m=cE l m.head:=by simp[bF,g3]
  have e2:eW m=gB m.head:=by simp[eW,g3]
  rw[e1,e2]
  simp(disch:=omega) [g3,VY]
  cases hp:cE l m.head
  ·refine av ((cL l b m.head hw.head.1 (by omega)).re (dR hp)) ?_ (ha:=by first|rfl|(simp[aj.c,Head.c,VY] <;>repeat' constructor))
   simp(disch:=omega) [c5,g3,VY]
  ·refine av ((cL l b m.head hw.head.1 (by omega)).re (cQ hp)) ?_ (ha:=by first|rfl|(simp[aj.c,Head.c,VY] <;>repeat' constructor))
   simp(disch:=omega) [c5,g3,VY]
 simp(disch:=omega) [g3,VY]
 refine ab (fun g4=> ?_) (fun g4=> ?_)
 ·have e1:bF l m=cm l m.block:=by simp[bF,g4]
  have e2:eW m=Av m.block:=by simp[eW,g4]
  rw[e1,e2]
  simp(disch:=omega) [g4,VY]
  cases hp:cm l m.block
  ·refine av ((jS l b m.block hw.block (by omega)).re (dR hp)) ?_ (ha:=by first|rfl|(simp[aj.c,Block.c,Head.c,VY] <;>repeat' constructor))
   simp(disch:=omega) [c5,g4,VY]
  ·refine av ((jS l b m.block hw.block (by omega)).re (cQ hp)) ?_ (ha:=by first|rfl|(simp[aj.c,Block.c,Head.c,VY] <;>repeat' constructor))
   simp(disch:=omega) [c5,g4,VY]
 simp(disch:=omega) [g4,VY]
 refine ab (fun g5=> ?_) (fun g5=> ?_)
 ·have e1:bF l m=tX l m.tc:=by simp[bF,g5]
  have e2:eW m=O4 m.tc:=by simp[eW,g5]
  rw[e1,e2]
  simp(disch:=omega) [g5,VY]
  cases hp:tX l m.tc
  ·refine av ((rz l b m.tc hw.tc (by omega)).re (dR hp)) ?_ (ha:=by first|rfl|(simp[aj.c,Tc.c,VY] <;>repeat' constructor))
   simp(disch:=omega) [c5,g5,VY]
  ·refine av ((rz l b m.tc hw.tc (by omega)).re (cQ hp)) ?_ (ha:=by first|rfl|(simp[aj.c,Tc.c,VY] <;>repeat' constructor))
   simp(disch:=omega) [c5,g5,VY]
 simp(disch:=omega) [g5,VY]
 refine ab (fun g6=> ?_) (fun g6=> ?_)
 ·have e1:bF l m=eN l m.proof:=by simp[bF,g6]
  have e2:eW m=zR m.proof:=by simp[eW,g6]
  rw[e1,e2]
  simp(disch:=omega) [g6,VY]
  cases hp:eN l m.proof
  ·refine av ((jR l b m.proof hw.proof (by omega)).re (dR hp)) ?_ (ha:=by first|rfl|(simp[aj.c,Proof.c,VY] <;>repeat' constructor))
   simp(disch:=omega) [c5,g6,VY]
  ·refine av ((jR l b m.proof hw.proof (by omega)).re (cQ hp)) ?_ (ha:=by first|rfl|(simp[aj.c,Proof.c,VY] <;>repeat' constructor))
   simp(disch:=omega) [c5,g6,VY]
 simp(disch:=omega) [g6,VY]
 have g7:m.kind=7:=by omega
 have e1:bF l m=pY l m.incl:=by simp[bF,g7]
 have e2:eW m=F3 m.incl:=by simp[eW,g7]
 rw[e1,e2]
 cases hp:pY l m.incl
 ·refine av ((lY l b m.incl hw.incl hw.tx (by omega)).re (dR hp)) ?_ (ha:=by first|rfl|(simp[aj.c,bm.c,VY] <;>repeat' constructor))
  simp(disch:=omega) [c5,g7,VY]
 ·refine av ((lY l b m.incl hw.incl hw.tx (by omega)).re (cQ hp)) ?_ (ha:=by first|rfl|(simp[aj.c,bm.c,VY] <;>repeat' constructor))
  simp(disch:=omega) [c5,g7,VY]
theorem MA {m:bh} (h:m.kind=1):dr m= {aC with kind:=1,vote:=m.vote}:=by simp[dr,h]
theorem KX {m:bh} (h:m.kind=2):dr m= {aC with kind:=2,qc:=m.qc}:=by simp[dr,h]
theorem Ls {m:bh} (h:m.kind=3):dr m= {aC with kind:=3,head:=m.head}:=by simp[dr,h]
theorem MJ {m:bh} (h:m.kind=4):dr m= {aC with kind:=4,block:=m.block}:=by simp[dr,h]
theorem LG {m:bh} (h:m.kind=5):dr m= {aC with kind:=5,tc:=m.tc}:=by simp[dr,h]
theorem Lg {m:bh} (h:m.kind=6):dr m= {aC with kind:=6,proof:=m.proof}:=by simp[dr,h]
theorem K9 {m:bh} (h:m.kind=7):dr m= {aC with kind:=7,incl:=m.incl}:=by simp[dr,h]
theorem Kj {m:bh} (hw:m.wc):(dr m).wc:=by
 unfold dr
 repeat' split
 ·exact {ir with kind:=by simp only[mq];omega,vote:=hw.vote}
 ·exact {ir with kind:=by simp only[mq];omega,qc:=hw.qc}
 ·exact {ir with kind:=by simp only[mq];omega,head:=hw.head}
 ·exact {ir with kind:=by simp only[mq];omega,block:=hw.block}
 ·exact {ir with kind:=by simp only[mq];omega,tc:=hw.tc}
 ·exact {ir with kind:=by simp only[mq];omega,proof:=hw.proof}
 ·exact {ir with kind:=by simp only[mq];omega,incl:=hw.incl,tx:=hw.tx}
 ·exact ir
abbrev nf:Nat:=238
def pq:AF:=⟨1,3,[.tmp 2],(.seq (.ops [.i (.mov 2 (qb false))]) (.seq (.ops [qm 3 0, .i (.call 5 221 false [(.s 3),(qi 1),(qi 7)]),qm 2 4]) .ret))⟩
theorem yz:cd nf=some pq:=by kernel_rfl
theorem GD (k:Int):VC cd nf (aH [(false,[.int .i64 k])]) (fun rs _=>rs=bl (cw k 1 7)):=by
 refine aa yz rfl ?_
 simp(disch:=omega) [pq,VY]
 refine av (bK k 1 7) ?_
 simp(disch:=omega) [VY]
abbrev tR:Nat:=159
def uJ:AF:=⟨2,5,[.tmp 4],(.seq (.ops [.i (.lbox 2 (.s 0)), .i (.lbox 3 (.s 1)), .i (.mov 4 (qb false))]) (.seq (.seq (.ops [qf 7 3 0,ql 8 3 7 1 false,qk 10 238 8, .i (.not 10 (.s 9)),qm 11 10, .g 11 false 13 (.ldl 12 3 (.s 3) 45 true), .g 11 false 14 (.ldl 13 3 (.s 3) 45 true), .g 11 false 15 (.call 15 240 false [(.s 13)]), .g 11 false 16 (.call 16 239 false [(.s 12),(.s 14)]), .g 11 false 17 (.not 16 (.s 15)), .i (.pick 17 (.s 11) (qb true) (.s 16))]) (.cond (.s 17) (.seq (.ops [.i (.mov 4 (qb false))]) .ret) .skip)) (.seq (.ops [ql 19 2 2 5 true,ql 20 3 3 45 true, .i (.call 22 183 false [(.s 19),(.c (.val false [.nils])),(.s 20)]),qm 18 21, .i (.ext 22 (.s 18) 0), .i (.ext 23 (.s 18) 1),qm 5 22,qm 6 23]) (.seq (.ops [qm 24 6,qm 4 24]) .ret))))⟩
theorem D7:cd tR=some uJ:=by kernel_rfl
theorem BH (l:aj) (m:bh) (hw:m.wc):VC cd tR (aH [(true,l.c),(true,m.c)]) (fun rs _=>rs=bl (cF l m)):=by
 have hx:=Kj hw
 refine aa D7 rfl ?_
 simp(disch:=omega) [uJ,bh.c,aj.c,VY]
 refine av (GD m.kind) ?_
 simp(disch:=omega) [VY]
 refine aA (fun h1=> ?_) (fun h1=> ?_)
 case refine_2=>
  have e1:bF l m=false:=by
   cases hp:bF l m with
   |false=>rfl
   |true=>rcases nG hp with hk|hk|hk|hk|hk|hk|hk <;>(rw[hk]at h1;cases h1)
  simp(disch:=omega) [h1,cF,e1,VY]
 simp(disch:=omega) [h1,VY]
 have hk2:=eX h1
 have hk3:m.kind=1∨m.kind=2∨m.kind=3∨m.kind=4∨m.kind=5∨m.kind=6∨m.kind=7:=by omega
 rcases hk3 with hk|hk|hk|hk|hk|hk|hk
 ·refine av (Dw m hw hk) ?_ (ha:=by first|rfl|(simp[bh.c,VY] <;>repeat' constructor))
  simp(disch:=omega) [iC,h1,VY]
  refine av (cn m (dr m) hw hx) ?_ (ha:=by first|rfl|(simp[bh.c,MA hk,aC,bx,fD,bb,aE,ia,aK,bq,ag,show bz []= []from rfl,show fT []= []from rfl,show kB []= []from rfl,VY] <;>repeat' constructor))
  simp(disch:=omega) [h1,VY]
  refine aA (fun h2=> ?_) (fun h2=> ?_)
  case refine_2=>simp(disch:=omega) [h1,h2,cF,VY]
  simp(disch:=omega) [h1,h2,VY]
  cases hp:bF l m
  ·refine av ((bn l [] m hw h1 (by simp)).re (dR hp)) ?_ (ha:=by first|rfl|(simp[bh.c,aj.c,ag,VY] <;>repeat' constructor))
   simp(disch:=omega) [cF,hp,h2,VY]
  ·refine av ((bn l [] m hw h1 (by simp)).re (cQ hp)) ?_ (ha:=by first|rfl|(simp[bh.c,aj.c,ag,VY] <;>repeat' constructor))
   simp(disch:=omega) [cF,hp,h2,VY]
 ·refine av (Dn m hw hk) ?_ (ha:=by first|rfl|(simp[bh.c,VY] <;>repeat' constructor))
  simp(disch:=omega) [CJ,h1,VY]
  refine av (cn m (dr m) hw hx) ?_ (ha:=by first|rfl|(simp[bh.c,KX hk,aC,bx,fD,bb,aE,ia,aK,bq,ag,show bz []= []from rfl,show fT []= []from rfl,show kB []= []from rfl,VY] <;>repeat' constructor))
  simp(disch:=omega) [h1,VY]
  refine aA (fun h2=> ?_) (fun h2=> ?_)
  case refine_2=>simp(disch:=omega) [h1,h2,cF,VY]
  simp(disch:=omega) [h1,h2,VY]
  cases hp:bF l m
  ·refine av ((bn l [] m hw h1 (by simp)).re (dR hp)) ?_ (ha:=by first|rfl|(simp[bh.c,aj.c,ag,VY] <;>repeat' constructor))
   simp(disch:=omega) [cF,hp,h2,VY]
  ·refine av ((bn l [] m hw h1 (by simp)).re (cQ hp)) ?_ (ha:=by first|rfl|(simp[bh.c,aj.c,ag,VY] <;>repeat' constructor))
   simp(disch:=omega) [cF,hp,h2,VY]
 ·refine av (C5 m hw hk) ?_ (ha:=by first|rfl|(simp[bh.c,VY] <;>repeat' constructor))
  simp(disch:=omega) [qw,h1,VY]
  refine av (cn m (dr m) hw hx) ?_ (ha:=by first|rfl|(simp[bh.c,Ls hk,aC,bx,fD,bb,aE,ia,aK,bq,ag,show bz []= []from rfl,show fT []= []from rfl,show kB []= []from rfl,VY] <;>repeat' constructor))
  simp(disch:=omega) [h1,VY]
  refine aA (fun h2=> ?_) (fun h2=> ?_)
  case refine_2=>simp(disch:=omega) [h1,h2,cF,VY]
  simp(disch:=omega) [h1,h2,VY]
  cases hp:bF l m
  ·refine av ((bn l [] m hw h1 (by simp)).re (dR hp)) ?_ (ha:=by first|rfl|(simp[bh.c,aj.c,ag,VY] <;>repeat' constructor))
   simp(disch:=omega) [cF,hp,h2,VY]
  ·refine av ((bn l [] m hw h1 (by simp)).re (cQ hp)) ?_ (ha:=by first|rfl|(simp[bh.c,aj.c,ag,VY] <;>repeat' constructor))
   simp(disch:=omega) [cF,hp,h2,VY]
 ·refine av (Eb m hw hk) ?_ (ha:=by first|rfl|(simp[bh.c,VY] <;>repeat' constructor))
  simp(disch:=omega) [iY,h1,VY]
  refine av (cn m (dr m) hw hx) ?_ (ha:=by first|rfl|(simp[bh.c,MJ hk,aC,bx,fD,bb,aE,ia,aK,bq,ag,show bz []= []from rfl,show fT []= []from rfl,show kB []= []from rfl,VY] <;>repeat' constructor))
  simp(disch:=omega) [h1,VY]
  refine aA (fun h2=> ?_) (fun h2=> ?_)
  case refine_2=>simp(disch:=omega) [h1,h2,cF,VY]
  simp(disch:=omega) [h1,h2,VY]
  cases hp:bF l m
  ·refine av ((bn l [] m hw h1 (by simp)).re (dR hp)) ?_ (ha:=by first|rfl|(simp[bh.c,aj.c,ag,VY] <;>repeat' constructor))
   simp(disch:=omega) [cF,hp,h2,VY]
  ·refine av ((bn l [] m hw h1 (by simp)).re (cQ hp)) ?_ (ha:=by first|rfl|(simp[bh.c,aj.c,ag,VY] <;>repeat' constructor))
   simp(disch:=omega) [cF,hp,h2,VY]
 ·refine av (DD m hw hk) ?_ (ha:=by first|rfl|(simp[bh.c,VY] <;>repeat' constructor))
  simp(disch:=omega) [Cc,h1,VY]
  refine av (cn m (dr m) hw hx) ?_ (ha:=by first|rfl|(simp[bh.c,LG hk,aC,bx,fD,bb,aE,ia,aK,bq,ag,show bz []= []from rfl,show fT []= []from rfl,show kB []= []from rfl,VY] <;>repeat' constructor))
  simp(disch:=omega) [h1,VY]
  refine aA (fun h2=> ?_) (fun h2=> ?_)
  case refine_2=>simp(disch:=omega) [h1,h2,cF,VY]
  simp(disch:=omega) [h1,h2,VY]
  cases hp:bF l m
  ·refine av ((bn l [] m hw h1 (by simp)).re (dR hp)) ?_ (ha:=by first|rfl|(simp[bh.c,aj.c,ag,VY] <;>repeat' constructor))
   simp(disch:=omega) [cF,hp,h2,VY]
  ·refine av ((bn l [] m hw h1 (by simp)).re (cQ hp)) ?_ (ha:=by first|rfl|(simp[bh.c,aj.c,ag,VY] <;>repeat' constructor))
   simp(disch:=omega) [cF,hp,h2,VY]
 ·refine av (C2 m hw hk) ?_ (ha:=by first|rfl|(simp[bh.c,VY] <;>repeat' constructor))
  simp(disch:=omega) [j0,h1,VY]
  refine av (cn m (dr m) hw hx) ?_ (ha:=by first|rfl|(simp[bh.c,Lg hk,aC,bx,fD,bb,aE,ia,aK,bq,ag,show bz []= []from rfl,show fT []= []from rfl,show kB []= []from rfl,VY] <;>repeat' constructor))
  simp(disch:=omega) [h1,VY]
  refine aA (fun h2=> ?_) (fun h2=> ?_)
  case refine_2=>simp(disch:=omega) [h1,h2,cF,VY]
  simp(disch:=omega) [h1,h2,VY]
  cases hp:bF l m
  ·refine av ((bn l [] m hw h1 (by simp)).re (dR hp)) ?_ (ha:=by first|rfl|(simp[bh.c,aj.c,ag,VY] <;>repeat' constructor))
   simp(disch:=omega) [cF,hp,h2,VY]
  ·refine av ((bn l [] m hw h1 (by simp)).re (cQ hp)) ?_ (ha:=by first|rfl|(simp[bh.c,aj.c,ag,VY] <;>repeat' constructor))
   simp(disch:=omega) [cF,hp,h2,VY]
 ·refine av (Di m hw hk) ?_ (ha:=by first|rfl|(simp[bh.c,VY] <;>repeat' constructor))
  simp(disch:=omega) [qt,h1,VY]
  refine av (cn m (dr m) hw hx) ?_ (ha:=by first|rfl|(simp[bh.c,K9 hk,aC,bx,fD,bb,aE,ia,aK,bq,ag,show bz []= []from rfl,show fT []= []from rfl,show kB []= []from rfl,VY] <;>repeat' constructor))
  simp(disch:=omega) [h1,VY]
  refine aA (fun h2=> ?_) (fun h2=> ?_)
  case refine_2=>simp(disch:=omega) [h1,h2,cF,VY]
  simp(disch:=omega) [h1,h2,VY]
  cases hp:bF l m
  ·refine av ((bn l [] m hw h1 (by simp)).re (dR hp)) ?_ (ha:=by first|rfl|(simp[bh.c,aj.c,ag,VY] <;>repeat' constructor))
   simp(disch:=omega) [cF,hp,h2,VY]
  ·refine av ((bn l [] m hw h1 (by simp)).re (cQ hp)) ?_ (ha:=by first|rfl|(simp[bh.c,aj.c,ag,VY] <;>repeat' constructor))
   simp(disch:=omega) [cF,hp,h2,VY]
end Go.Eng.F
namespace Go.Eng.F
open Go.Eng.U (Fi df cO EG mQ Oy fZ FT EU)
def bu.tv (x:bu):Tv:= .r [.i x.view, .i x.height,A9 x.block, .i x.who,A9 x.tag]
theorem bu.enc (x:bu):enc EG x.tv=x.c:=by simp only[bu.tv,eh,bW,cG,d7,eK,iF,f7,dZ,fU,bu.c,List.cons_append,List.nil_append,List.append_assoc]
theorem bu.ex {v:Tv} (h:aG EG v):∃x:bu,v=x.tv:=by
 obtain⟨vs,rfl,h⟩:=h.st
 obtain⟨v0,_,rfl,h0,h⟩:=h.step
 obtain⟨v1,_,rfl,h1,h⟩:=h.step
 obtain⟨v2,_,rfl,h2,h⟩:=h.step
 obtain⟨v3,_,rfl,h3,h⟩:=h.step
 obtain⟨v4,_,rfl,h4,h⟩:=h.step
 obtain rfl:=h.fin
 obtain⟨n0,rfl,_⟩:=h0.int
 obtain⟨n1,rfl,_⟩:=h1.int
 obtain⟨n2,rfl⟩:=f8 h2
 obtain⟨n3,rfl,_⟩:=h3.int
 obtain⟨n4,rfl⟩:=f8 h4
 exact⟨⟨n0,n1,n2,n3,n4⟩,rfl⟩
theorem bu.of {x:bu} (h:aG EG x.tv) (hw:wt x.tv≤1048576):x.wf:=by
 simp only[bu.tv,fY,cH]at h
 simp only[bu.tv,wt,xN]at hw
 obtain⟨h0,h1,h2,h3,h4,_⟩:=h
 exact⟨dz (ok_int.1 h0),dz (ok_int.1 h1),rB (by omega),dz (ok_int.1 h3),rB (by omega)⟩
def bm.tv (x:bm):Tv:= .r [.i x.height, .i x.n, .i x.idx,A9 x.tx,wq x.path]
theorem bm.enc (x:bm):enc FT x.tv=x.c:=by simp only[bm.tv,eh,bW,cG,d7,eK,iF,f7,dZ,fU,bm.c,List.cons_append,List.nil_append,List.append_assoc]
theorem bm.ex {v:Tv} (h:aG FT v):∃x:bm,v=x.tv:=by
 obtain⟨vs,rfl,h⟩:=h.st
 obtain⟨v0,_,rfl,h0,h⟩:=h.step
 obtain⟨v1,_,rfl,h1,h⟩:=h.step
 obtain⟨v2,_,rfl,h2,h⟩:=h.step
 obtain⟨v3,_,rfl,h3,h⟩:=h.step
 obtain⟨v4,_,rfl,h4,h⟩:=h.step
 obtain rfl:=h.fin
 obtain⟨n0,rfl,_⟩:=h0.int
 obtain⟨n1,rfl,_⟩:=h1.int
 obtain⟨n2,rfl,_⟩:=h2.int
 obtain⟨n3,rfl⟩:=f8 h3
 obtain⟨n4,rfl⟩:=Dq h4
 exact⟨⟨n0,n1,n2,n3,n4⟩,rfl⟩
theorem bm.of {x:bm} (h:aG FT x.tv) (hw:wt x.tv≤1048576):x.wc:=by
 simp only[bm.tv,fY,cH]at h
 simp only[bm.tv,wt,xN]at hw
 obtain⟨h0,h1,h2,h3,h4,_⟩:=h
 exact⟨dz (ok_int.1 h0),dz (ok_int.1 h1),dz (ok_int.1 h2),rB (by omega),Gs (by omega)⟩
def bh.tv (m:bh):Tv:= .r [.i m.kind,m.vote.tv,m.qc.tv,m.head.tv,m.block.tv,m.tc.tv,m.proof.tv,m.incl.tv]
theorem bh.enc (m:bh):enc EU m.tv=m.c:=by simp only[bh.tv,eh,bW,cG,d7,bu.enc,Qc.enc,Head.enc,Block.enc,Tc.enc,Proof.enc,bm.enc,bh.c,bu.c,Qc.c,Head.c,Block.c,Tc.c,Proof.c,bm.c,List.cons_append,List.nil_append,List.append_assoc,List.append_nil]
theorem bh.ex {v:Tv} (h:aG EU v):∃m:bh,v=m.tv:=by
 obtain⟨vs,rfl,h⟩:=h.st
 obtain⟨v0,_,rfl,h0,h⟩:=h.step
 obtain⟨v1,_,rfl,h1,h⟩:=h.step
 obtain⟨v2,_,rfl,h2,h⟩:=h.step
 obtain⟨v3,_,rfl,h3,h⟩:=h.step
 obtain⟨v4,_,rfl,h4,h⟩:=h.step
 obtain⟨v5,_,rfl,h5,h⟩:=h.step
 obtain⟨v6,_,rfl,h6,h⟩:=h.step
 obtain⟨v7,_,rfl,h7,h⟩:=h.step
 obtain rfl:=h.fin
 obtain⟨n0,rfl,_⟩:=h0.int
 obtain⟨n1,rfl⟩:=bu.ex h1
 obtain⟨n2,rfl⟩:=Qc.ex h2
 obtain⟨n3,rfl⟩:=Head.ex h3
 obtain⟨n4,rfl⟩:=Block.ex h4
 obtain⟨n5,rfl⟩:=Tc.ex h5
 obtain⟨n6,rfl⟩:=Proof.ex h6
 obtain⟨n7,rfl⟩:=bm.ex h7
 exact⟨⟨n0,n1,n2,n3,n4,n5,n6,n7⟩,rfl⟩
theorem bh.of {m:bh} (h:aG EU m.tv) (hw:wt m.tv≤1048576):m.wc:=by
 simp only[bh.tv,fY,cH]at h
 simp only[bh.tv,wt,xN]at hw
 obtain⟨h0,h1,h2,h3,h4,h5,h6,h7,_⟩:=h
 have hb:wt m.block.tv=wt m.block.head.tv+(wt (wq m.block.txs)+0):=by simp only[Block.tv,wt,xN]
 have hi:wt m.incl.tv=0+(0+(0+(wt (A9 m.incl.tx)+(wt (wq m.incl.path)+0)))):=by simp only[bm.tv,wt,xN]
 refine⟨dz (ok_int.1 h0),bu.of h1 (by omega),Qc.of h2 (by omega),Head.of h3 (by omega),⟨Block.of h4 (by omega),fun t ht=> ?_⟩,Tc.of h5 (by omega),Proof.P1 h6 (by omega),bm.of h7 (by omega),?_⟩
 ·have:=(J0 m.block.txs).2 t ht
  omega
 ·rw[Jm]at hi
  omega
end Go.Eng.F
