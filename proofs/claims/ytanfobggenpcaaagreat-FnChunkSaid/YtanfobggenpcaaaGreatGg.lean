import Derived.Test.YtanfobggenpcaaaGreatGf
set_option maxRecDepth 100000
set_option linter.unusedSimpArgs false
set_option linter.unusedVariables false
namespace Go.Eng.F
open Go.Eng.U (Gz dK df gP DJ jO od yM)
structure Row where
 weight:Int
 key:Bytes
def Row.c (r:Row):List D:= [.int .i64 r.weight, .sl (bytes r.key)]
def Row.wf (r:Row):Prop:=nQ r.weight∧Sz r.key.length
structure Table where
 rows:List Row
def rws (l:List Row):List (List D):=l.map Row.c
def Table.c (t:Table):List D:= [.sl (rws t.rows)]
def Table.wf (t:Table):Prop:=Sz t.rows.length∧∀r∈t.rows,r.wf
def Row.tv (x:Row):Tv:= .r [.i x.weight,CO x.key]
theorem Row.enc (x:Row):enc DJ x.tv=x.c:=by simp only[Row.tv,eS,cm,cW,eH,fg,jy,gT,ey,gE,Row.c,List.cons_append,List.nil_append,List.append_assoc]
theorem Row.ex {v:Tv} (h:aI DJ v):∃x:Row,v=x.tv:=by
 obtain⟨vs,rfl,h⟩:=h.st
 obtain⟨v0,_,rfl,h0,h⟩:=h.step
 obtain⟨v1,_,rfl,h1,h⟩:=h.step
 obtain rfl:=h.fin
 obtain⟨n0,rfl,_⟩:=h0.int
 obtain⟨n1,rfl⟩:=gZ h1
 exact⟨⟨n0,n1⟩,rfl⟩
theorem Row.of {x:Row} (h:aI DJ x.tv) (hw:wt x.tv≤1048576):x.wf:=by
 simp only[Row.tv,gM,cS]at h
 simp only[Row.tv,wt,zK]at hw
 obtain⟨h0,h1,_⟩:=h
 exact⟨dY (ok_int.1 h0),tq (by omega)⟩
def Iy (l:List Row):Tv:= .l (l.map Row.tv)
theorem NG (l:List Row):enc (.sl DJ) (Iy l)= [.sl (rws l)]:=by
 simp only[Iy,EM,List.map_map,rws]
 congr 2
 exact List.map_congr_left fun x _=>Row.enc x
theorem Nh {v:Tv} (h:aI (.sl DJ) v):∃l,v=Iy l:=by
 obtain⟨xs,rfl,_,h2⟩:=h.sl
 obtain⟨ys,rfl⟩:=sd (f:=Row.tv) (P:=aI DJ) (fun v hv=>Row.ex hv) h2
 exact⟨ys,rfl⟩
theorem Qx {l:List Row} (h:aI (.sl DJ) (Iy l)) (hw:wt (Iy l)≤1048576):Sz l.length∧∀x∈l,x.wf:=by
 unfold Iy at h hw
 rw[Lt]at hw
 have h2:=(La.1 h).2
 simp only[List.length_map]at hw
 refine⟨by unfold Sz;omega,fun x hx=>Row.of (h2 _ (List.mem_map_of_mem hx)) ?_⟩
 have:=vo (f:=Row.tv) hx
 omega
def Table.tv (x:Table):Tv:= .r [Iy x.rows]
theorem Table.enc (x:Table):enc jO x.tv=x.c:=by simp only[Table.tv,NG,eS,cm,cW,eH,fg,jy,gT,ey,gE,Table.c,List.cons_append,List.nil_append,List.append_assoc]
theorem Table.ex {v:Tv} (h:aI jO v):∃x:Table,v=x.tv:=by
 obtain⟨vs,rfl,h⟩:=h.st
 obtain⟨v0,_,rfl,h0,h⟩:=h.step
 obtain rfl:=h.fin
 obtain⟨n0,rfl⟩:=Nh h0
 exact⟨⟨n0⟩,rfl⟩
theorem Table.of {x:Table} (h:aI jO x.tv) (hw:wt x.tv≤1048576):x.wf:=by
 simp only[Table.tv,gM,cS]at h
 simp only[Table.tv,wt,zK]at hw
 obtain⟨h0,_⟩:=h
 exact Qx h0 (by omega)
end Go.Eng.F
namespace Go.Eng.F
theorem A4 (n:Nat):List.replicate n [D.int .u8 0]=bytes (List.replicate n 0):=by simp[bytes]
theorem gD {b:Bytes} (h:hash b=true):b.length=32:=by simpa[hash]using h
theorem fA {n a b:Int} (h:cf n a b=true):a≤n∧n≤b:=by simpa[cf]using h
end Go.Eng.F
namespace Go.Eng.F
def ct (c:Nat):Nat:=if c % 2=1 then(c / 2) ^^^ 3988292384 else c / 2
def CN:Nat→Nat→Nat
 |0,c=>c
 |n+1,c=>ct (CN n c)
def ld (c:Nat) (b:Bytes):Nat:=b.foldl (fun c x=>CN 8 (c ^^^ x.toNat)) c
def vd (c:Nat) (b:Bytes):Nat:=ld (c ^^^ 4294967295) b ^^^ 4294967295
def Le (b:Bytes):Nat:=vd 0 b
theorem Q3 {c:Nat} (h:c < 4294967296):ct c < 4294967296:=by
 unfold ct
 split
 ·exact Nat.xor_lt_two_pow (n:=32) (by omega) (by omega)
 ·omega
theorem EJ {c:Nat} (h:c < 4294967296):∀n,CN n c < 4294967296
 |0=>h
 |n+1=>Q3 (EJ h n)
theorem EN {a b:Nat} (ha:a < 4294967296) (hb:b < 4294967296):aA .xor .i64 (a:Int) (b:Int)=((a ^^^ b:Nat):Int):=by
 have h:=Nat.xor_lt_two_pow (n:=32) (x:=a) (y:=b) (by omega) (by omega)
 show IntKind.i64.wrap ((BitVec.ofInt 64 (a:Int) ^^^ BitVec.ofInt 64 (b:Int)).toNat:Int)=_
 rw[BitVec.toNat_xor,show BitVec.ofInt 64 (a:Int)=BitVec.ofNat 64 a from rfl,show BitVec.ofInt 64 (b:Int)=BitVec.ofNat 64 b from rfl,BitVec.toNat_ofNat,BitVec.toNat_ofNat,Nat.mod_eq_of_lt (by omega),Nat.mod_eq_of_lt (by omega)]
 exact yu (by omega) (by omega)
theorem D3 {x y:Int} {a b:Nat} (hx:x=(a:Int)) (hy:y=(b:Int)) (ha:a < 4294967296) (hb:b < 4294967296):aA .xor .i64 x y=((a ^^^ b:Nat):Int):=by
 rw[hx,hy]
 exact EN ha hb
theorem xn {a b:Nat} (ha:a < 4294967296) (hb:b < 4294967296):a ^^^ b < 4294967296:=Nat.xor_lt_two_pow (n:=32) (by omega) (by omega)
theorem OV {c:Nat} (h:c < 4294967296):aA .and .i64 (c:Int) 1=((c % 2:Nat):Int):=by
 show IntKind.i64.wrap ((BitVec.ofInt 64 (c:Int) &&& BitVec.ofInt 64 1).toNat:Int)=_
 rw[BitVec.toNat_and,show BitVec.ofInt 64 (c:Int)=BitVec.ofNat 64 c from rfl,BitVec.toNat_ofNat,Nat.mod_eq_of_lt (by omega),show(BitVec.ofInt 64 1).toNat=2 ^ 1 - 1 from rfl,Nat.and_two_pow_sub_one_eq_mod]
 exact yu (by omega) (by omega)
theorem Jv {c:Nat} (h:c < 4294967296):word (c:Int)=true:=by rw[v8];omega
abbrev tu:Nat:=332
def sS:AF:=⟨1,3,[.tmp 2],(.seq (.ops [.i (.mov 2 (qb false))]) (.seq (.ops [qm 3 0, .i (.call 5 221 false [(.s 3),(qi 0),(qi 4294967295)]),qm 2 4]) .ret))⟩
theorem C2:cd tu=some sS:=by kernel_rfl
theorem KF (x:Int):VC cd tu (aE [(false,[.int .i64 x])]) (fun rs _=>rs=bl (word x)):=by
 refine aa C2 rfl ?_
 simp(disch:=omega) [sS,VY]
 refine aj (bS _ _ _) rfl rfl ?_
 simp(disch:=omega) [word,VY]
abbrev qL:Nat:=333
def qt:AF:=⟨1,4,[.tmp 2],(.seq (.ops [.i (.mov 2 (qi 0))]) (.seq (.seq (.ops [qm 3 0, .i (.bin 4 .rem (.s 3) (qi 2)), .i (.bin 5 .eql (.s 4) (qi 1))]) (.cond (.s 5) (.seq (.ops [qm 6 0, .i (.bin 7 .quo (.s 6) (qi 2)), .i (.bin 8 .xor (.s 7) (qi 3988292384)),qm 2 8]) .ret) .skip)) (.seq (.ops [qm 9 0, .i (.bin 10 .quo (.s 9) (qi 2)),qm 2 10]) .ret)))⟩
theorem Bu:cd qL=some qt:=by kernel_rfl
theorem H7 (c:Nat) (h:c < 4294967296):VC cd qL (aE [(false,[.int .i64 (c:Int)])]) (fun rs _=>rs=it (ct c)):=by
 have e1:Int.tmod (c:Int) 2=(c:Int) % 2:=Int.tmod_eq_emod_of_nonneg (by omega)
 have e2:Int.tdiv (c:Int) 2=(c:Int) / 2:=Int.tdiv_eq_ediv_of_nonneg (by omega)
 have e3:aA .xor .i64 ((c:Int) / 2) 3988292384=((c / 2 ^^^ 3988292384:Nat):Int):=D3 (by omega) rfl (by omega) (by omega)
 have e4:=xn (a:=c / 2) (b:=3988292384) (by omega) (by omega)
 refine aa Bu rfl ?_
 simp(disch:=omega) [qt,e1,VY]
 refine ab (fun h1=> ?_) (fun h1=> ?_)
 ·have:c % 2=1:=by omega
  simp(disch:=omega) [e2,e3,ct,this,VY]
 ·have:¬c % 2=1:=by omega
  simp(disch:=omega) [e2,ct,this,VY]
abbrev vY:Nat:=306
def wC:AF:=⟨1,5,[.tmp 2],(.seq (.ops [.i (.mov 2 (qi 0))]) (.seq (.seq (.ops [.i (.mov 4 (qi 0))]) (.block 0 (.loop [14,13,12,11,10,9,8,7,6,5,3] (.seq (.ops [.i (.bin 5 .lss (.s 4) (qi 8))]) (.seq (.cond (.s 5) .skip (.exit 0)) (.seq (.block 1 (.seq (.ops [qm 6 0, .i (.bin 7 .and (.s 6) (qi 1)),qm 3 7]) (.seq (.ops [qm 8 0, .i (.bin 9 .shr (.s 8) (.c (.val false [.int .u64 1]))),qm 0 9]) (.seq (.ops [qm 10 3, .i (.bin 11 .eql (.s 10) (qi 1))]) (.cond (.s 11) (.ops [qm 12 0, .i (.bin 13 .xor (.s 12) (qi 3988292384)),qm 0 13]) .skip))))) (.ops [.i (.bin 14 .add (.s 4) (qi 1)),qm 4 14]))))))) (.seq (.ops [qm 15 0,qm 2 15]) .ret)))⟩
theorem EU:cd vY=some wC:=by kernel_rfl
theorem Ml (c:Nat) (h:c < 4294967296):VC cd vY (aE [(false,[.int .i64 (c:Int)])]) (fun rs _=>rs=it (CN 8 c)):=by
 refine aa EU rfl ?_
 simp(disch:=omega) [wC,VY]
 refine bx (σ:=Nat) (f1:=_) (es0:=_) (by simp(disch:=omega) [VY];rfl) (by simp(disch:=omega) [VY];rfl) (fun i=> [(0, .val false [.int .i64 (CN i c:Int)]),(4, .val false [.int .i64 (i:Int)])]) (fun _=> []) (fun i g=>g+i=8) 0 8 (by simp(disch:=omega) [CN,VY]) (by simp(disch:=omega) [VY]) (by omega) ?_
 rintro i n g hg P hP
 simp(disch:=omega) [VY]
 refine ab (fun h1=> ?_) (fun h1=> ?_)
 ·have hl:=EJ h i
  have e0:aA .and .i64 (CN i c:Int) 1=(CN i c:Int) % 2:=(OV hl).trans (by omega)
  have e1:Int.fdiv (CN i c:Int) 2=(CN i c:Int) / 2:=Int.fdiv_eq_ediv_of_nonneg _ (by omega)
  have e3:aA .xor .i64 ((CN i c:Int) / 2) 3988292384=((CN i c / 2 ^^^ 3988292384:Nat):Int):=D3 (by omega) rfl (by omega) (by omega)
  simp(disch:=omega) [e0,e1,e3,IntKind.bits,VY]
  refine ab (fun h2=> ?_) (fun h2=> ?_)
  ·have h3:CN i c % 2=1:=by omega
   simp(disch:=omega) [e3,VY]
   exact hP (i+1) (g - 1) _ _ (by omega) (by omega) (by simp(disch:=omega) [CN,ct,h3,e3,VY]) (by simp(disch:=omega) [VY])
  ·have h3:¬CN i c % 2=1:=by omega
   simp(disch:=omega) [VY]
   exact hP (i+1) (g - 1) _ _ (by omega) (by omega) (by simp(disch:=omega) [CN,ct,h3,VY]) (by simp(disch:=omega) [VY])
 ·have:i=8:=by omega
  subst this
  simp(disch:=omega) [VY]
theorem wJ (b:Bytes):∀ {c:Nat},c < 4294967296→ld c b < 4294967296:=by
 unfold ld
 induction b with
 |nil=>exact fun h=>h
 |cons x r ih=>
  refine fun {c} h=> ?_
  have hx:x.toNat < 4294967296:=by have:=Du x;omega
  rw[List.foldl_cons]
  exact ih (EJ (xn h hx) 8)
theorem Kv (b:Bytes) (x:UInt8) (c:Nat):ld c (b++ [x])=CN 8 (ld c b ^^^ x.toNat):=by
 unfold ld
 rw[List.foldl_append]
 rfl
theorem D6 {b:Bytes} {i:Nat} (h:i < b.length) (c:Nat):ld c (b.take (i+1))=CN 8 (ld c (b.take i) ^^^ b[i].toNat):=by
 rw[List.take_add_one,List.getElem?_eq_getElem h]
 exact Kv _ _ _
abbrev p0:Nat:=256
def qh:AF:=⟨2,5,[.tmp 4],(.seq (.ops [.i (.mov 4 (qi 0))]) (.seq (.seq (.ops [qm 7 0,qk 9 249 7, .i (.not 9 (.s 8))]) (.cond (.s 9) (.seq (.ops [.i (.mov 4 (qi 0))]) .ret) .skip)) (.seq (.ops [qm 10 0, .i (.bin 11 .xor (.s 10) (qi 4294967295)),qm 0 11]) (.seq (.seq (.ops [qm 12 1,qn 13 12, .i (.mov 14 (qi 0))]) (.block 0 (.loop [23,22,21,20,19,18,17,16,15,6] (.seq (.ops [qd 15 .lss 14 13]) (.seq (.cond (.s 15) .skip (.exit 0)) (.seq (.block 1 (.seq (.ops [.i (.iad 16 (.s 12) (.s 14) 1), .i (.ldh 17 (.s 16) 1 false),qm 6 17]) (.ops [qm 18 0,qm 19 6, .i (.cvi 20 .i64 (.s 19)),qd 21 .xor 18 20,qk 23 306 21,qm 0 22]))) (.ops [.i (.bin 23 .add (.s 14) (qi 1)),qm 14 23]))))))) (.seq (.ops [qm 24 0, .i (.bin 25 .xor (.s 24) (qi 4294967295)),qm 4 25]) .ret)))))⟩
theorem CB:cd p0=some qh:=by kernel_rfl
theorem zF (c:Nat) (b:Bytes) (h:c < 4294967296) (hb:b.length≤1073741824):VC cd p0 (aE [(false,[.int .i64 (c:Int)]),(false,[.sl (bytes b)])]) (fun rs _=>rs=it (vd c b)):=by
 have h0:=xn (a:=c) (b:=4294967295) h (by omega)
 have e0:aA .xor .i64 (c:Int) 4294967295=((c ^^^ 4294967295:Nat):Int):=D3 rfl rfl h (by omega)
 refine aa CB rfl ?_
 simp(disch:=omega) [qh,VY]
 refine aj (xq c) rfl rfl ?_
 simp(disch:=omega) [Jv h,e0,VY]
 refine bx (σ:=Nat) (f1:=_) (es0:=_) (by simp(disch:=omega) [VY];rfl) (by simp(disch:=omega) [VY];rfl) (fun i=> [(0, .val false [.int .i64 (ld (c ^^^ 4294967295) (b.take i):Int)]),(14, .val false [.int .i64 (i:Int)])]) (fun _=> []) (fun i g=>g+i=b.length) 0 b.length (by simp(disch:=omega) [ld,VY]) (by simp(disch:=omega) [VY]) (by omega) ?_
 rintro i n g hg P hP
 simp(disch:=omega) [VY]
 refine ab (fun h1=> ?_) (fun h1=> ?_)
 ·have hi:i < b.length:=by omega
  have hl:=wJ (b.take i) h0
  have hx:=Du b[i]
  have e1:=yu (n:=(b[i].toNat:Int)) (by omega) (by omega)
  have e2:=EN hl (b:=b[i].toNat) (by omega)
  simp(disch:=omega) [bz hi,e1,e2,VY]
  refine av (Ml (ld (c ^^^ 4294967295) (b.take i) ^^^ b[i].toNat) (xn hl (by omega))) ?_
  simp(disch:=omega) [VY]
  exact hP (i+1) (g - 1) _ _ (by omega) (by omega) (by simp(disch:=omega) [D6 hi,VY]) (by simp(disch:=omega) [VY])
 ·have:i=b.length:=by omega
  subst this
  have hl:=wJ b h0
  have e2:aA .xor .i64 (ld (c ^^^ 4294967295) b:Int) 4294967295=((ld (c ^^^ 4294967295) b ^^^ 4294967295:Nat):Int):=D3 rfl rfl hl (by omega)
  simp(disch:=omega) [e2,vd,VY]
abbrev qK:Nat:=293
def og:AF:=⟨2,6,[.tmp 4],(.seq (.ops [.i (.mov 4 (qi 0))]) (.seq (.seq (.ops [qm 9 0,qk 11 332 9, .i (.not 11 (.s 10))]) (.cond (.s 11) (.seq (.ops [.i (.mov 4 (qi 0))]) .ret) .skip)) (.seq (.ops [qm 12 0, .i (.bin 13 .xor (.s 12) (qi 4294967295)),qm 5 13]) (.seq (.seq (.ops [qm 14 1,qn 15 14, .i (.mov 16 (qi 0))]) (.block 0 (.loop [30,29,28,27,26,25,24,23,22,21,20,19,18,17,8,7] (.seq (.ops [qd 17 .lss 16 15]) (.seq (.cond (.s 17) .skip (.exit 0)) (.seq (.block 1 (.seq (.ops [.i (.iad 18 (.s 14) (.s 16) 1), .i (.ldh 19 (.s 18) 1 false),qm 7 19]) (.seq (.ops [qm 20 5,qm 21 7, .i (.cvi 22 .i64 (.s 21)),qd 23 .xor 20 22,qm 5 23]) (.seq (.ops [.i (.mov 8 (qi 0))]) (.block 2 (.loop [29,28,27,26,25,24] (.seq (.seq (.ops [qm 24 8, .i (.bin 25 .lss (.s 24) (qi 8))]) (.cond (.s 25) .skip (.exit 2))) (.seq (.block 3 (.ops [qm 28 5,qk 30 333 28,qm 5 29])) (.ops [qm 26 8, .i (.bin 27 .add (.s 26) (qi 1)),qm 8 27]))))))))) (.ops [.i (.bin 30 .add (.s 16) (qi 1)),qm 16 30]))))))) (.seq (.ops [qm 31 5, .i (.bin 32 .xor (.s 31) (qi 4294967295)),qm 4 32]) .ret)))))⟩
theorem AU:cd qK=some og:=by kernel_rfl
theorem yY (c:Nat) (b:Bytes) (h:c < 4294967296) (hb:b.length≤1073741824):VC cd qK (aE [(false,[.int .i64 (c:Int)]),(false,[.sl (bytes b)])]) (fun rs _=>rs=it (vd c b)):=by
 have h0:=xn (a:=c) (b:=4294967295) h (by omega)
 have e0:aA .xor .i64 (c:Int) 4294967295=((c ^^^ 4294967295:Nat):Int):=D3 rfl rfl h (by omega)
 refine aa AU rfl ?_
 simp(disch:=omega) [og,VY]
 refine aj (KF c) rfl rfl ?_
 simp(disch:=omega) [Jv h,e0,VY]
 refine bx (σ:=Nat) (f1:=_) (es0:=_) (by simp(disch:=omega) [VY];rfl) (by simp(disch:=omega) [VY];rfl) (fun i=> [(5, .val false [.int .i64 (ld (c ^^^ 4294967295) (b.take i):Int)]),(16, .val false [.int .i64 (i:Int)])]) (fun _=> []) (fun i g=>g+i=b.length) 0 b.length (by simp(disch:=omega) [ld,VY]) (by simp(disch:=omega) [VY]) (by omega) ?_
 rintro i n g hg P hP
 simp(disch:=omega) [VY]
 refine ab (fun h1=> ?_) (fun h1=> ?_)
 ·have hi:i < b.length:=by omega
  have hl:=wJ (b.take i) h0
  have hx:=Du b[i]
  have e1:=yu (n:=(b[i].toNat:Int)) (by omega) (by omega)
  have e2:=EN hl (b:=b[i].toNat) (by omega)
  have hy:=xn hl (b:=b[i].toNat) (by omega)
  simp(disch:=omega) [bz hi,e1,e2,VY]
  refine bx (σ:=Nat) (f1:=_) (es0:=_) (by simp(disch:=omega) [VY];rfl) (by simp(disch:=omega) [VY];rfl) (fun j=> [(5, .val false [.int .i64 (CN j (ld (c ^^^ 4294967295) (b.take i) ^^^ b[i].toNat):Int)]),(8, .val false [.int .i64 (j:Int)])]) (fun _=> []) (fun j g=>g+j=8) 0 8 (by simp(disch:=omega) [CN,VY]) (by simp(disch:=omega) [VY]) (by omega) ?_
  rintro j n2 g2 hg2 P2 hP2
  simp(disch:=omega) [VY]
  refine ab (fun h2=> ?_) (fun h2=> ?_)
  ·simp(disch:=omega) [VY]
   refine av (H7 (CN j (ld (c ^^^ 4294967295) (b.take i) ^^^ b[i].toNat)) (EJ hy j)) ?_
   simp(disch:=omega) [VY]
   exact hP2 (j+1) (g2 - 1) _ _ (by omega) (by omega) (by simp(disch:=omega) [CN,VY]) (by simp(disch:=omega) [VY])
  ·have:j=8:=by omega
   subst this
   simp(disch:=omega) [VY]
   exact hP (i+1) (g - 1) _ _ (by omega) (by omega) (by simp(disch:=omega) [D6 hi,VY]) (by simp(disch:=omega) [VY])
 ·have:i=b.length:=by omega
  subst this
  have hl:=wJ b h0
  have e2:aA .xor .i64 (ld (c ^^^ 4294967295) b:Int) 4294967295=((ld (c ^^^ 4294967295) b ^^^ 4294967295:Nat):Int):=D3 rfl rfl hl (by omega)
  simp(disch:=omega) [e2,vd,VY]
abbrev A7:Nat:=182
def BU:AF:=⟨1,3,[.tmp 2],(.seq (.ops [.i (.mov 2 (qi 0))]) (.seq (.ops [qm 3 0, .i (.call 5 256 false [(qi 0),(.s 3)]),qm 2 4]) .ret))⟩
theorem H8:cd A7=some BU:=by kernel_rfl
theorem GQ (b:Bytes) (hb:b.length≤1073741824):VC cd A7 (aE [(false,[.sl (bytes b)])]) (fun rs _=>rs=it (Le b)):=by
 refine aa H8 rfl ?_
 simp(disch:=omega) [BU,VY]
 refine av (zF 0 b (by omega) hb) ?_
 simp(disch:=omega) [Le,VY]
abbrev Am:Nat:=223
def CJ:AF:=⟨1,3,[.tmp 2],(.seq (.ops [.i (.mov 2 (qi 0))]) (.seq (.ops [qm 3 0, .i (.call 5 293 false [(qi 0),(.s 3)]),qm 2 4]) .ret))⟩
theorem IM:cd Am=some CJ:=by kernel_rfl
theorem Gq (b:Bytes) (hb:b.length≤1073741824):VC cd Am (aE [(false,[.sl (bytes b)])]) (fun rs _=>rs=it (Le b)):=by
 refine aa IM rfl ?_
 simp(disch:=omega) [CJ,VY]
 refine av (yY 0 b (by omega) hb) ?_
 simp(disch:=omega) [Le,VY]
end Go.Eng.F
namespace Go.Eng.F
def gC:Bytes→Nat
 | []=>0
 |x::r=>x.toNat+256 * gC r
theorem Gd:∀(b:Bytes),gC b < 256 ^ b.length
 | []=>by simp[gC]
 |x::r=>by
  have h:=Gd r
  have hx:=Du x
  simp only[gC,List.length_cons,Nat.pow_succ]
  omega
theorem Et (x:UInt8):∀(b:Bytes),gC (b++ [x])=gC b+x.toNat * 256 ^ b.length
 | []=>by simp[gC]
 |y::b=>by
  have h:=Et x b
  simp only[List.cons_append,gC,List.length_cons,Nat.pow_succ,h]
  have:256 * (gC b+x.toNat * 256 ^ b.length)=256 * gC b+x.toNat * (256 ^ b.length * 256):=by
   rw[Nat.mul_add,Nat.mul_left_comm,Nat.mul_comm 256 (256 ^ b.length)]
  omega
theorem Rj (k:Nat):(256:Nat) ^ k=2 ^ (8 * k):=by rw[Nat.pow_mul]
theorem Qa {a b k:Nat} (ha:a < 2 ^ k) (hk:2 ^ k∣ b) (hb:b < 2 ^ 56) (hk2:k≤56):aA .or .i64 (a:Int) (b:Int)=((a+b:Nat):Int):=by
 have h2:(2:Nat) ^ k≤2 ^ 56:=Nat.pow_le_pow_right (by omega) hk2
 show IntKind.i64.wrap ((BitVec.ofInt 64 (a:Int)|||BitVec.ofInt 64 (b:Int)).toNat:Int)=_
 rw[BitVec.toNat_or,show BitVec.ofInt 64 (a:Int)=BitVec.ofNat 64 a from rfl,show BitVec.ofInt 64 (b:Int)=BitVec.ofNat 64 b from rfl,BitVec.toNat_ofNat,BitVec.toNat_ofNat,Nat.mod_eq_of_lt (by omega),Nat.mod_eq_of_lt (by omega)]
 obtain⟨q,rfl⟩:=hk
 rw[Nat.or_comm,←Nat.two_pow_add_eq_or_of_lt ha,Nat.add_comm]
 exact yu (by omega) (by omega)
abbrev jL:Nat:=248
def jE:AF:=⟨3,6,[.tmp 6, .tmp 7, .tmp 8],(.seq (.ops [.i (.mov 6 (.c (.val false [.nils]))), .i (.mov 7 (qi 0)), .i (.mov 8 (qi 0))]) (.seq (.seq (.ops [qm 9 1,qm 10 0,qn 11 10, .i (.call 13 158 false [(.s 9),(qi 0),(.s 11)]), .i (.not 13 (.s 12)),qm 14 13, .g 14 false 16 (.mov 15 (.s 2)), .g 14 false 17 (.mov 16 (.s 0)), .g 14 false 18 (.len 17 false (.s 16)), .g 14 false 19 (.mov 18 (.s 1)), .g 14 false 20 (.bin 19 .sub (.s 17) (.s 18)), .g 14 false 21 (.call 21 158 false [(.s 15),(qi 0),(.s 19)]), .g 14 false 22 (.not 21 (.s 20)), .i (.pick 22 (.s 14) (qb true) (.s 21))]) (.cond (.s 22) (.seq (.ops [.i (.mov 6 (.c (.val false [.nils]))), .i (.mov 7 (qi 0)), .i (.mov 8 (qi 1))]) .ret) .skip)) (.seq (.ops [qm 23 0,qm 24 1,qm 25 1,qm 26 2,qd 27 .add 25 26, .i (.eA 28 1 (.s 23) (some (.s 24)) (some (.s 27))),qk 30 93 28,qm 30 1,qm 31 2,qd 32 .add 30 31,qm 6 29,qm 7 32, .i (.mov 8 (qi 0))]) .ret)))⟩
theorem tE:cd jL=some jE:=by kernel_rfl
theorem rF (b:Bytes) (a n:Nat) (h:a+n≤b.length) (hb:b.length≤1073741824):VC cd jL (aE [(false,[.sl (bytes b)]),(false,[.int .i64 (a:Int)]),(false,[.int .i64 (n:Int)])]) (fun rs _=>rs= [(false,[.o true (some (5,1)) (bytes ((b.drop a).take n))]),(false,[.p (.int .i64 ((a+n:Nat):Int))]),(false,[.p (.int .i64 0)])]):=by
 have e1:cf (a:Int) 0 (b.length:Int)=true:=by simp[cf];omega
 have e2:cf (n:Int) 0 ((b.length:Int) - (a:Int))=true:=by simp[cf];omega
 have e3:((bytes b).drop a).take n=bytes ((b.drop a).take n):=by simp[bytes]
 have e4:((a:Int)+(n:Int) - (a:Int)).toNat=n:=by omega
 have e5:(a:Int)+(n:Int)≤(b.length:Int):=by omega
 have e6:(a:Int)≤(a:Int)+(n:Int):=by omega
 refine aa tE rfl ?_
 simp(disch:=omega) [jE,VY]
 refine aj (bq _ _ _) rfl rfl ?_
 simp(disch:=omega) [e1,VY]
 refine aj (bq _ _ _) rfl rfl ?_
 simp(disch:=omega) [e2,e3,e4,e5,e6,VY]
 refine av (eb ((b.drop a).take n) (by simp;omega)) ?_
 simp(disch:=omega) [VY]
theorem JW {b:Bytes} {a w:Nat} (h:a+w≤b.length):((b.drop a).take w).length=w:=by simp;omega
abbrev tO:Nat:=181
def tT:AF:=⟨3,6,[.tmp 6, .tmp 7, .tmp 8],(.seq (.ops [.i (.mov 6 (qi 0)), .i (.mov 7 (qi 0)), .i (.mov 8 (qi 0))]) (.seq (.seq (.ops [qm 15 2, .i (.call 17 158 false [(.s 15),(qi 1),(qi 7)]), .i (.not 17 (.s 16))]) (.cond (.s 17) (.seq (.ops [.i (.mov 6 (qi 0)), .i (.mov 7 (qi 0)), .i (.mov 8 (qi 5))]) .ret) .skip)) (.seq (.ops [qm 19 0,qm 20 1,qm 21 2, .i (.call 23 248 false [(.s 19),(.s 20),(.s 21)]),qm 18 22, .i (.ext 23 (.s 18) 0), .i (.ext 24 (.s 18) 1), .i (.ext 25 (.s 18) 2),qm 9 23,qm 10 24,qm 11 25]) (.seq (.ops [.i (.mov 12 (qi 0))]) (.seq (.seq (.ops [qm 26 9,qn 27 26, .i (.mov 28 (qi 0))]) (.block 0 (.loop [40,39,38,37,36,35,34,33,32,31,30,29,14,13] (.seq (.ops [qd 29 .lss 28 27]) (.seq (.cond (.s 29) .skip (.exit 0)) (.seq (.block 1 (.seq (.ops [qm 30 28, .i (.iad 31 (.s 26) (.s 28) 1), .i (.ldh 32 (.s 31) 1 false),qm 13 30,qm 14 32]) (.ops [qm 33 12,qm 34 14, .i (.cvi 35 .i64 (.s 34)),qm 36 13, .i (.bin 37 .mul (qi 8) (.s 36)),qd 38 .shl 35 37,qd 39 .or 33 38,qm 12 39]))) (.ops [.i (.bin 40 .add (.s 28) (qi 1)),qm 28 40]))))))) (.seq (.ops [qm 41 12,qm 42 10,qm 43 11,qm 6 41,qm 7 42,qm 8 43]) .ret))))))⟩
theorem Dp:cd tO=some tT:=by kernel_rfl
theorem oa (b:Bytes) (a w:Nat) (h:a+w≤b.length) (hw:1≤w∧w≤7) (hb:b.length≤1073741824):VC cd tO (aE [(false,[.sl (bytes b)]),(false,[.int .i64 (a:Int)]),(false,[.int .i64 (w:Int)])]) (fun rs _=>rs= [(false,[.p (.int .i64 (gC ((b.drop a).take w):Int))]),(false,[.p (.int .i64 ((a+w:Nat):Int))]),(false,[.p (.int .i64 0)])]):=by
 have e1:cf (w:Int) 1 7=true:=by simp[cf];omega
 have hl:=JW h
 refine aa Dp rfl ?_
 simp(disch:=omega) [tT,VY]
 refine aj (bq _ _ _) rfl rfl ?_
 simp(disch:=omega) [e1,VY]
 refine aj (rF b a w h hb) rfl rfl ?_
 simp(disch:=omega) [ae,hl,VY]
 generalize hx:(b.drop a).take w=x at *
 refine bx (σ:=Nat) (f1:=_) (es0:=_) (by simp(disch:=omega) [VY];rfl) (by simp(disch:=omega) [VY];rfl) (fun i=> [(12, .val false [.int .i64 (gC (x.take i):Int)]),(28, .val false [.int .i64 (i:Int)])]) (fun _=> []) (fun i g=>g+i=w) 0 w (by simp(disch:=omega) [gC,VY]) (by simp(disch:=omega) [VY]) (by omega) ?_
 rintro i n g hg P hP
 simp(disch:=omega) [VY]
 refine ab (fun h1=> ?_) (fun h1=> ?_)
 ·have hi:i < x.length:=by omega
  have hq:=Du x[i]
  have e2:=yu (n:=(x[i].toNat:Int)) (by omega) (by omega)
  have e3:¬(8:Int) * (i:Int) < 0:=by omega
  have e4:((8:Int) * (i:Int)).toNat=8 * i:=by omega
  have e5:min (8 * i) 64=8 * i:=by omega
  have hp:x[i].toNat * 2 ^ (8 * i) < 2 ^ 56:=by
   have:(2:Nat) ^ (8 * i)≤2 ^ 48:=Nat.pow_le_pow_right (by omega) (by omega)
   calc x[i].toNat * 2 ^ (8 * i)≤x[i].toNat * 2 ^ 48:=Nat.mul_le_mul_left _ this
    _ < 2 ^ 56:=by omega
  have e6:IntKind.i64.wrap ((x[i].toNat:Int) * 2 ^ (8 * i))=((x[i].toNat * 2 ^ (8 * i):Nat):Int):=by
   rw[show((x[i].toNat:Int) * 2 ^ (8 * i))=((x[i].toNat * 2 ^ (8 * i):Nat):Int)by simp]
   exact yu (by omega) (by omega)
  have hf:=Gd (x.take i)
  rw[List.length_take,Nat.min_eq_left (by omega),Rj]at hf
  have e7:=Qa hf (Nat.dvd_mul_left _ _) hp (by omega)
  have e8:gC (x.take (i+1))=gC (x.take i)+x[i].toNat * 2 ^ (8 * i):=by
   rw[List.take_add_one,List.getElem?_eq_getElem hi]
   show gC (x.take i++ [x[i]])=_
   rw[Et,List.length_take,Nat.min_eq_left (by omega),Rj]
  simp(disch:=omega) [bz hi,e2,e3,e4,e5,IntKind.bits,VY]
  rw[e6,e7,←e8]
  simp(disch:=omega) [VY]
  exact hP (i+1) (g - 1) _ _ (by omega) (by omega) (by simp(disch:=omega) [VY]) (by simp(disch:=omega) [VY])
 ·have:i=w:=by omega
  subst this
  rw[List.take_of_length_le (by omega)]
  simp(disch:=omega) [VY]
def wW (s:Bytes) (a:Nat):Nat:=gC ((s.drop (a+2)).take 2)
def K3 (s:Bytes) (a:Nat):Nat:=gC ((s.drop (a+4)).take 4)
def JQ (s:Bytes) (a:Nat):Bytes:=(s.drop (a+8)).take (wW s a)
def aq (l:ah) (s:Bytes) (a:Nat):Int×Int:=
 if l.ok=true∧a < s.length then
  if(s.getD a 0).toNat=181 then
   if a+1 < s.length∧¬(s.getD (a+1) 0).toNat=70 then(0,0)else
   if s.length - a < 4 then(1,0)else if ¬cf (wW s a) 1 l.frame=true then(0,0)else if s.length - a < 8+wW s a then(1,8+wW s a)else if K3 s a=Le (JQ s a)then(3,8+wW s a)else(2,8+wW s a)
  else(0,0)
 else(0,0)
def fq (p:Int×Int):List (Bool×List E):= [(false,[.p (.int .i64 p.1)]),(false,[.p (.int .i64 p.2)])]
abbrev ox:Nat:=128
def rI:AF:=⟨3,7,[.tmp 6, .tmp 7],(.seq (.ops [.i (.lbox 3 (.s 0)), .i (.mov 6 (qi 0)), .i (.mov 7 (qi 0))]) (.seq (.seq (.ops [ql 15 3 3 5 true,qk 17 95 15, .i (.not 17 (.s 16)),qm 18 17, .g 18 false 20 (.mov 19 (.s 2)), .g 18 false 21 (.mov 20 (.s 1)), .g 18 false 22 (.len 21 false (.s 20)), .g 18 false 23 (.bin 22 .sub (.s 21) (qi 1)), .g 18 false 24 (.call 24 158 false [(.s 19),(qi 0),(.s 22)]), .g 18 false 25 (.not 24 (.s 23)), .i (.pick 25 (.s 18) (qb true) (.s 24)),qm 26 25, .g 26 false 28 (.mov 27 (.s 1)), .g 26 false 29 (.mov 28 (.s 2)), .g 26 false 30 (.iad 29 (.s 27) (.s 28) 1), .g 26 false 31 (.ldh 30 (.s 29) 1 false), .g 26 false 32 (.bin 31 .neq (.s 30) (.c (.val false [.int .u8 181]))), .i (.pick 32 (.s 26) (qb true) (.s 31)),qm 33 32, .g 33 false 35 (.mov 34 (.s 1)), .g 33 false 36 (.len 35 false (.s 34)), .g 33 false 37 (.mov 36 (.s 2)), .g 33 false 38 (.bin 37 .sub (.s 35) (.s 36)), .g 33 false 39 (.bin 38 .gtr (.s 37) (qi 1)), .g 33 false 40 (.mov 39 (.s 38)), .g 39 true 41 (.mov 40 (.s 1)), .g 39 true 42 (.mov 41 (.s 2)), .g 39 true 43 (.bin 42 .add (.s 41) (qi 1)), .g 39 true 44 (.iad 43 (.s 40) (.s 42) 1), .g 39 true 45 (.ldh 44 (.s 43) 1 false), .g 39 true 46 (.bin 45 .neq (.s 44) (.c (.val false [.int .u8 70]))), .g 33 false 47 (.pick 46 (.s 39) (.s 45) (qb false)), .i (.pick 47 (.s 33) (qb true) (.s 46))]) (.cond (.s 47) (.seq (.ops [.i (.mov 6 (qi 0)), .i (.mov 7 (qi 0))]) .ret) .skip)) (.seq (.ops [qm 48 1,qn 49 48,qm 50 2,qd 51 .sub 49 50,qm 8 51]) (.seq (.seq (.ops [qm 52 8, .i (.bin 53 .lss (.s 52) (qi 4))]) (.cond (.s 53) (.seq (.ops [.i (.mov 6 (qi 1)), .i (.mov 7 (qi 0))]) .ret) .skip)) (.seq (.ops [qm 55 1,qm 56 2, .i (.bin 57 .add (.s 56) (qi 2)), .i (.call 59 181 false [(.s 55),(.s 57),(qi 2)]),qm 54 58, .i (.ext 59 (.s 54) 0), .i (.ext 60 (.s 54) 1), .i (.ext 61 (.s 54) 2),qm 9 59,qm 10 60,qm 11 61]) (.seq (.block 0 (.seq (.ops [qm 63 9,qf 64 3 3,ql 65 3 64 1 false, .i (.call 67 158 false [(.s 63),(qi 1),(.s 65)]), .i (.not 67 (.s 66)),qm 62 67]) (.cond (.s 62) (.seq (.ops [.i (.mov 6 (qi 0)), .i (.mov 7 (qi 0))]) .ret) (.seq (.ops [qm 69 8,qm 70 9, .i (.bin 71 .add (qi 8) (.s 70)),qd 72 .lss 69 71,qm 68 72]) (.cond (.s 68) (.seq (.ops [qm 73 9, .i (.bin 74 .add (qi 8) (.s 73)), .i (.mov 6 (qi 1)),qm 7 74]) .ret) .skip))))) (.seq (.ops [qm 76 1,qm 77 2, .i (.bin 78 .add (.s 77) (qi 4)), .i (.call 80 181 false [(.s 76),(.s 78),(qi 4)]),qm 75 79, .i (.ext 80 (.s 75) 0), .i (.ext 81 (.s 75) 1), .i (.ext 82 (.s 75) 2),qm 12 80,qm 13 81,qm 14 82]) (.seq (.seq (.ops [qm 83 12,qm 84 1,qm 85 2, .i (.bin 86 .add (.s 85) (qi 8)),qm 87 2, .i (.bin 88 .add (.s 87) (qi 8)),qm 89 9,qd 90 .add 88 89, .i (.eA 91 1 (.s 84) (some (.s 86)) (some (.s 90))),qk 93 182 91,qd 93 .neq 83 92]) (.cond (.s 93) (.seq (.ops [qm 94 9, .i (.bin 95 .add (qi 8) (.s 94)), .i (.mov 6 (qi 2)),qm 7 95]) .ret) .skip)) (.seq (.ops [qm 96 9, .i (.bin 97 .add (qi 8) (.s 96)), .i (.mov 6 (qi 3)),qm 7 97]) .ret)))))))))⟩
theorem AJ:cd ox=some rI:=by kernel_rfl
theorem gW (l:ah) (s:Bytes) (a:Nat) (hs:s.length≤1073741824) (ha:a≤1073741824):VC cd ox (aE [(true,l.c),(false,[.sl (bytes s)]),(false,[.int .i64 (a:Int)])]) (fun rs _=>rs=fq (aq l s a)):=by
 refine aa AJ rfl ?_
 simp(disch:=omega) [rI,ah.c,VY]
 refine aj (ba l) rfl rfl ?_
 simp(disch:=omega) [VY]
 refine aw (fun h0=> ?_) (fun h0=> ?_)
 case refine_2=>simp(disch:=omega) [h0,aq,fq,VY]
 simp(disch:=omega) [h0,VY]
 refine aj (bq _ _ _) rfl rfl ?_
 simp(disch:=omega) [VY]
 cases h1:cf (a:Int) 0 ((s.length:Int) - 1)with
 |false=>
  have h2:=O9 h1
  have h3:¬a < s.length:=by omega
  simp(disch:=omega) [h0,h3,aq,fq,VY]
 |true=>
  have h2:=cX h1
  have h3:a < s.length:=by omega
  simp(disch:=omega) [bz h3,VY]
  refine ab (fun h4=> ?_) (fun h4=> ?_)
  case refine_2=>
   have h4n:¬s[a].toNat=181:=by omega
   simp(disch:=omega) [h4,h4n,h0,h3,aq,fq,VY]
  have h4n:s[a].toNat=181:=by omega
  have key:∀(hc:a+1 < s.length→s[a+1]?.getD 0=70),aq l s a=if s.length - a < 4 then(1,0)else if ¬cf (wW s a) 1 l.frame=true then(0,0)else if s.length - a < 8+wW s a then(1,8+(wW s a:Int))else if K3 s a=Le (JQ s a)then(3,8+(wW s a:Int))else(2,8+(wW s a:Int)):=by
   intro hc
   have:¬(a+1 < s.length∧¬(s.getD (a+1) 0).toNat=70):=fun h=>by
    refine h.2 ?_
    rw[List.getD_eq_getElem?_getD,hc h.1]
    rfl
   unfold aq
   have hg:s.getD a 0=s[a]:=by simp[List.getD,h3]
   rw[if_pos ⟨h0,h3⟩,hg,if_pos h4n,if_neg this]
  simp(disch:=omega) [h4,VY]
  refine ab (fun h5=> ?_) (fun h5=> ?_)
  ·have h5n:a+1 < s.length:=by omega
   have e5:((a:Int)+1).toNat=a+1:=by omega
   have e50:(0:Int)≤(a:Int)+1:=by omega
   simp(disch:=omega) [h4,h5,e5,e50,bz h5n,VY]
   refine ab (fun h6=> ?_) (fun h6=> ?_)
   case refine_2=>
    have h6n:¬s[a+1].toNat=70:=by omega
    simp(disch:=omega) [h4,h5,h6,h6n,h5n,h0,h3,h4n,aq,fq,VY]
   have h6n:s[a+1]?.getD 0=70:=by
    simp only[List.getElem?_eq_getElem h5n,Option.getD_some]
    exact UInt8.toNat_inj.1 (by have:(70:UInt8).toNat=70:=rfl;omega)
   rw[key (fun _=>h6n)]
   simp(disch:=omega) [h4,h5,h6,VY]
   refine ab (fun h8=> ?_) (fun h8=> ?_)
   ·have h8n:s.length - a < 4:=by omega
    simp(disch:=omega) [h8,h8n,fq,VY]
   have h8n:¬s.length - a < 4:=by omega
   have hl:gC ((s.drop (a+2)).take 2) < 65536:=by
    have:=Gd ((s.drop (a+2)).take 2)
    rw[JW (by omega)]at this
    exact this
   simp(disch:=omega) [h8,VY]
   refine av (oa s (a+2) 2 (by omega) (by omega) (by omega)) ?_
   simp(disch:=omega) [VY]
   refine aj (bq _ _ _) rfl rfl ?_
   simp(disch:=omega) [VY]
   refine aw (fun h9=> ?_) (fun h9=> ?_)
   case refine_2=>simp(disch:=omega) [h8n,wW,h9,fq,VY]
   have h9t:=cX h9
   simp(disch:=omega) [h9,VY]
   refine ab (fun h10=> ?_) (fun h10=> ?_)
   ·have h10n:s.length - a < 8+gC ((s.drop (a+2)).take 2):=by omega
    simp(disch:=omega) [h8n,wW,h9,h10,h10n,fq,VY]
   have h10n:¬s.length - a < 8+gC ((s.drop (a+2)).take 2):=by omega
   simp(disch:=omega) [h10,VY]
   refine av (oa s (a+4) 4 (by omega) (by omega) (by omega)) ?_
   have e6:((bytes s).drop (a+8)).take (gC ((s.drop (a+2)).take 2))=bytes (JQ s a):=by simp[bytes,JQ,wW]
   have e7:((a:Int)+8).toNat=a+8:=by omega
   have e8:((a:Int)+8+(gC ((s.drop (a+2)).take 2):Int) - ((a:Int)+8)).toNat=gC ((s.drop (a+2)).take 2):=by omega
   have e9:(a:Int)+8≤(a:Int)+8+(gC ((s.drop (a+2)).take 2):Int):=by omega
   have e10:(a:Int)+8+(gC ((s.drop (a+2)).take 2):Int)≤(s.length:Int):=by omega
   have e11:(0:Int)≤(a:Int)+8:=by omega
   simp(disch:=omega) [e6,e7,e8,e9,e10,e11,rW,VY]
   refine av (GQ (JQ s a) (by simp[JQ];omega)) ?_
   simp(disch:=omega) [VY]
   refine ab (fun h11=> ?_) (fun h11=> ?_)
   ·have h11n:K3 s a=Le (JQ s a):=by unfold K3;omega
    simp(disch:=omega) [h11,h8n,wW,h9,h10n,h11n,fq,VY]
   ·have h11n:¬K3 s a=Le (JQ s a):=by unfold K3;omega
    simp(disch:=omega) [h11,h8n,wW,h9,h10n,h11n,fq,VY]
  ·rw[key (fun h=>by omega)]
   have h7:s.length - a < 4:=by omega
   have h7i:(s.length:Int) - (a:Int) < 4:=by omega
   simp(disch:=omega) [h4,h5,h7,h7i,fq,VY]
structure c6 where
 skip:Int
 buf:Bytes
def c6.c (p:c6):List D:= [.int .i64 p.skip, .sl (bytes p.buf)]
def oL (l:ah) (p:c6):Bool:=l.ok && isNum p.skip && (decide (p.buf= [])||decide ((aq l p.buf 0).1=1))
abbrev sV:Nat:=48
def tK:AF:=⟨2,5,[.tmp 4],(.seq (.ops [.i (.lbox 2 (.s 0)), .i (.lbox 3 (.s 1)), .i (.mov 4 (qb false))]) (.seq (.ops [ql 8 2 2 5 true,qf 9 3 1,ql 10 3 9 1 false, .i (.call 12 128 false [(.s 8),(.s 10),(qi 0)]),qm 7 11, .i (.ext 12 (.s 7) 0), .i (.ext 13 (.s 7) 1),qm 5 12,qm 6 13]) (.seq (.ops [ql 14 2 2 5 true,qk 16 95 14,qm 16 15, .g 16 true 18 (.fad 17 (.s 3) 0), .g 16 true 19 (.ldl 18 3 (.s 17) 1 false), .g 16 true 20 (.call 20 129 false [(.s 18)]), .i (.pick 20 (.s 16) (.s 19) (qb false)),qm 21 20, .g 21 true 23 (.fad 22 (.s 3) 1), .g 21 true 24 (.ldl 23 3 (.s 22) 1 false), .g 21 true 25 (.len 24 false (.s 23)), .g 21 true 26 (.bin 25 .eql (.s 24) (qi 0)), .g 21 true 27 (.mov 26 (.s 25)), .g 26 false 28 (.mov 27 (.s 5)), .g 26 false 29 (.bin 28 .eql (.s 27) (qi 1)), .g 21 true 30 (.pick 29 (.s 26) (qb true) (.s 28)), .i (.pick 30 (.s 21) (.s 29) (qb false)),qm 4 30]) .ret)))⟩
theorem DH:cd sV=some tK:=by kernel_rfl
theorem ix (l:ah) (p:c6) (hb:p.buf.length≤1073741824):VC cd sV (aE [(true,l.c),(true,p.c)]) (fun rs _=>rs=bl (oL l p)):=by
 refine aa DH rfl ?_
 simp(disch:=omega) [tK,ah.c,c6.c,VY]
 refine av (gW l p.buf 0 hb (by omega)) ?_
 simp(disch:=omega) [fq,VY]
 refine aj (ba l) rfl rfl ?_
 simp(disch:=omega) [VY]
 refine aw (fun h0=> ?_) (fun h0=> ?_) <;>simp(disch:=omega) [h0,oL,VY]
 refine aj (Hu _) rfl rfl ?_
 simp(disch:=omega) [h0,VY]
 refine aw (fun h1=> ?_) (fun h1=> ?_) <;>simp(disch:=omega) [h0,h1,VY]
 refine ab (fun h2=> ?_) (fun h2=> ?_)
 ·simp(disch:=omega) [h0,h1,h2,VY]
 ·simp(disch:=omega) [h0,h1,h2,VY]
end Go.Eng.F
namespace Go.Eng.F
end Go.Eng.F
namespace Go.Eng.F
open Go.Eng.U (Gz dK df Aa)
def c5.tv (f:c5):Tv:= .r [f.l.tv,zO f.heads]
theorem c5.enc (f:c5):enc Aa f.tv=f.c:=by simp only[c5.tv,z7,eS,cm,cW,ah.enc,c5.c,List.append_nil]
theorem c5.ex {v:Tv} (h:aI Aa v):∃q:c5,v=q.tv:=by
 obtain⟨vs,rfl,h⟩:=h.st
 obtain⟨v0,_,rfl,h0,h⟩:=h.step
 obtain⟨v1,_,rfl,h1,h⟩:=h.step
 obtain rfl:=h.fin
 obtain⟨n0,rfl⟩:=ah.ex h0
 obtain⟨n1,rfl⟩:=z6 h1
 exact⟨⟨n0,n1⟩,rfl⟩
theorem c5.of {f:c5} (h:aI Aa f.tv) (hw:wt f.tv≤1048576):f.wc∧aI df f.l.tv∧f.heads.length≤1048576:=by
 simp only[c5.tv,gM,cS]at h
 simp only[c5.tv,wt,zK]at hw
 obtain⟨h0,h1,_⟩:=h
 have h5:=F5 h1 (by omega)
 have h6:f.heads.length≤wt (zO f.heads):=by unfold zO;rw[Lt,List.length_map];omega
 exact⟨⟨h5.1,h5.2⟩,gM.2 (gM.1 h0),by omega⟩
theorem Q8 (b:Bool):Qj (bl b) [(.bool, .b b)]:=⟨rfl,by simp only[fg,FD,D.leaf,and_self],trivial,trivial⟩
end Go.Eng.F
namespace Go.Eng.F
structure eo where
 l:ah
 t:Table
 push:c6
 chain:List Head
def eo.c (x:eo):List D:= [.int .i64 x.l.n, .int .i64 x.l.tx, .int .i64 x.l.txs, .int .i64 x.l.frame, .int .i64 x.l.heads, .sl (rws x.t.rows), .int .i64 x.push.skip, .sl (bytes x.push.buf), .sl (f6 x.chain)]
def eo.wc (x:eo):Prop:=x.t.wf∧x.push.buf.length≤1073741824∧Sz x.chain.length∧∀h∈x.chain,h.wc
def ht (hs:List Head) (i:Nat):Int:=match hs[i]? with|some h=>h.height|none=>0
structure sr where
 l:ah
 t:Table
 x:eo
 own:List Head
def sr.c (d:sr):List D:= [.int .i64 d.l.n, .int .i64 d.l.tx, .int .i64 d.l.txs, .int .i64 d.l.frame, .int .i64 d.l.heads, .sl (rws d.t.rows), .int .i64 d.x.l.n, .int .i64 d.x.l.tx, .int .i64 d.x.l.txs, .int .i64 d.x.l.frame, .int .i64 d.x.l.heads, .sl (rws d.x.t.rows), .int .i64 d.x.push.skip, .sl (bytes d.x.push.buf), .sl (f6 d.x.chain), .sl (f6 d.own)]
def sr.wc (d:sr):Prop:=d.t.wf∧d.x.wc∧Sz d.own.length∧∀h∈d.own,h.wc
end Go.Eng.F
namespace Go.Eng.F
open Go.Eng.U (Gz dK df jO yM od Jw)
def c6.wf (p:c6):Prop:=nQ p.skip∧Sz p.buf.length
def c6.tv (x:c6):Tv:= .r [.i x.skip,CO x.buf]
theorem c6.enc (x:c6):enc yM x.tv=x.c:=by simp only[c6.tv,eS,cm,cW,eH,fg,jy,gT,ey,gE,c6.c,List.cons_append,List.nil_append,List.append_assoc]
theorem c6.ex {v:Tv} (h:aI yM v):∃x:c6,v=x.tv:=by
 obtain⟨vs,rfl,h⟩:=h.st
 obtain⟨v0,_,rfl,h0,h⟩:=h.step
 obtain⟨v1,_,rfl,h1,h⟩:=h.step
 obtain rfl:=h.fin
 obtain⟨n0,rfl,_⟩:=h0.int
 obtain⟨n1,rfl⟩:=gZ h1
 exact⟨⟨n0,n1⟩,rfl⟩
theorem c6.of {x:c6} (h:aI yM x.tv) (hw:wt x.tv≤1048576):x.wf:=by
 simp only[c6.tv,gM,cS]at h
 simp only[c6.tv,wt,zK]at hw
 obtain⟨h0,h1,_⟩:=h
 exact⟨dY (ok_int.1 h0),tq (by omega)⟩
def eo.tv (x:eo):Tv:= .r [x.l.tv,x.t.tv,x.push.tv,zO x.chain]
theorem eo.enc (x:eo):enc od x.tv=x.c:=by simp only[eo.tv,z7,eS,cm,cW,ah.enc,Table.enc,c6.enc,eo.c,ah.c,Table.c,c6.c,List.cons_append,List.nil_append,List.append_nil]
theorem eo.ex {v:Tv} (h:aI od v):∃q:eo,v=q.tv:=by
 obtain⟨vs,rfl,h⟩:=h.st
 obtain⟨v0,_,rfl,h0,h⟩:=h.step
 obtain⟨v1,_,rfl,h1,h⟩:=h.step
 obtain⟨v2,_,rfl,h2,h⟩:=h.step
 obtain⟨v3,_,rfl,h3,h⟩:=h.step
 obtain rfl:=h.fin
 obtain⟨n0,rfl⟩:=ah.ex h0
 obtain⟨n1,rfl⟩:=Table.ex h1
 obtain⟨n2,rfl⟩:=c6.ex h2
 obtain⟨n3,rfl⟩:=z6 h3
 exact⟨⟨n0,n1,n2,n3⟩,rfl⟩
theorem eo.of {x:eo} (h:aI od x.tv) (hw:wt x.tv≤1048576):x.wc:=by
 simp only[eo.tv,gM,cS]at h
 simp only[eo.tv,wt,zK]at hw
 obtain⟨h0,h1,h2,h3,_⟩:=h
 have k1:=Table.of h1 (by omega)
 have k2:=c6.of h2 (by omega)
 have k3:=F5 h3 (by omega)
 exact⟨k1,k2.2,k3.1,k3.2⟩
def sr.tv (x:sr):Tv:= .r [x.l.tv,x.t.tv,x.x.tv,zO x.own]
theorem sr.enc (x:sr):enc Jw x.tv=x.c:=by simp only[sr.tv,z7,eS,cm,cW,ah.enc,Table.enc,eo.enc,sr.c,eo.c,ah.c,Table.c,List.cons_append,List.nil_append,List.append_nil]
theorem sr.ex {v:Tv} (h:aI Jw v):∃q:sr,v=q.tv:=by
 obtain⟨vs,rfl,h⟩:=h.st
 obtain⟨v0,_,rfl,h0,h⟩:=h.step
 obtain⟨v1,_,rfl,h1,h⟩:=h.step
 obtain⟨v2,_,rfl,h2,h⟩:=h.step
 obtain⟨v3,_,rfl,h3,h⟩:=h.step
 obtain rfl:=h.fin
 obtain⟨n0,rfl⟩:=ah.ex h0
 obtain⟨n1,rfl⟩:=Table.ex h1
 obtain⟨n2,rfl⟩:=eo.ex h2
 obtain⟨n3,rfl⟩:=z6 h3
 exact⟨⟨n0,n1,n2,n3⟩,rfl⟩
theorem sr.of {x:sr} (h:aI Jw x.tv) (hw:wt x.tv≤1048576):x.wc:=by
 simp only[sr.tv,gM,cS]at h
 simp only[sr.tv,wt,zK]at hw
 obtain⟨h0,h1,h2,h3,_⟩:=h
 have k1:=Table.of h1 (by omega)
 have k2:=eo.of h2 (by omega)
 have k3:=F5 h3 (by omega)
 exact⟨k1,k2,k3.1,k3.2⟩
end Go.Eng.F
namespace Go.Eng.F
open Go.Eng.U (Gz dK df jO yM od)
end Go.Eng.F
namespace Go.Eng.F
open Go.Eng.U (Gz dK df jO gP)
theorem dr {cd:Nat→Option AF} {pd:List (Nat×Nat)} {R:List RV} {Q:List (Bool×List E)→List E→Prop} {k:List VK} {f:UT} {st:St} {ds:List Nat} {b:AC} {σ:Type} (f0:UT) (hf:cv f ds=f0) {f2:UT} {st2:St} (hw:de f0 st f2 st2) (f1:UT) (es0:List (Nat×En)) (h2:f2=f1) (he:OY st2.es=es0)
 (nN:σ→List (Nat×U)) (ue:σ→List (Nat×En)) (J:σ→Nat→Prop) (s0:σ) (g0:Nat) (hu:f1=bV f1 (nN s0)) (hs:lN st2 (Fu es0 (ue s0))) (h0:J s0 g0)
 (round:∀s n g,J s g→∀P:UT→St→Prop,(∀(s':σ) (g':Nat) (f':UT) (st':St),g' < g→J s' g'→cv f' ds=bV f1 (nN s')→lN st' (Fu es0 (ue s'))→P f' st')→VX cd pd R Q (.c b:: .stop P::k) (bV f1 (nN s)) ⟨n,Fu es0 (ue s)⟩):
 VX cd pd R Q (.c (.loop ds b)::k) f st:=
 oz f0 hf hw f1 es0 h2 he nN ue J s0 g0 hu hs h0 fun s n g h=>round s n g h _ fun s' g' f' st' a b c d=>⟨s',g',a,b,c,d⟩
theorem Lr {bits:Bytes} {n:Int} (h:d5 bits n=true):bits.length≤2:=by
 simp only[d5,Bool.and_eq_true,decide_eq_true_eq]at h
 have h1:=cX h.1.1
 have h2:=h.1.2
 rw[wv]at h2
 omega
theorem QP (n:Int):nQ (IntKind.i64.wrap n):=by
 simp only[nQ,IntKind.wrap,IntKind.bits,IntKind.signed]
 simp
 omega
end Go.Eng.F
namespace Go.Eng.F
structure bu where
 view:Int
 height:Int
 block:Bytes
 who:Int
 tag:Bytes
def bu.c (v:bu):List D:= [.int .i64 v.view, .int .i64 v.height, .sl (bytes v.block), .int .i64 v.who, .sl (bytes v.tag)]
def bu.wf (v:bu):Prop:=nQ v.view∧nQ v.height∧Sz v.block.length∧nQ v.who∧Sz v.tag.length
def im (a b:bu):Bool:=decide (a.view=b.view) && decide (a.height=b.height) && decide (a.block=b.block) && decide (a.who=b.who) && decide (a.tag=b.tag)
abbrev nz:Nat:=26
def mj:AF:=⟨2,6,[.tmp 4],(.seq (.ops [.i (.lbox 2 (.s 0)), .i (.lbox 3 (.s 1)), .i (.mov 4 (qb false))]) (.seq (.ops [qf 5 2 0,ql 6 2 5 1 false,qf 7 3 0,ql 8 3 7 1 false,qd 9 .eql 6 8,qm 10 9, .g 10 true 12 (.fad 11 (.s 2) 1), .g 10 true 13 (.ldl 12 2 (.s 11) 1 false), .g 10 true 14 (.fad 13 (.s 3) 1), .g 10 true 15 (.ldl 14 3 (.s 13) 1 false), .g 10 true 16 (.bin 15 .eql (.s 12) (.s 14)), .i (.pick 16 (.s 10) (.s 15) (qb false)),qm 17 16, .g 17 true 19 (.fad 18 (.s 2) 3), .g 17 true 20 (.ldl 19 2 (.s 18) 1 false), .g 17 true 21 (.fad 20 (.s 3) 3), .g 17 true 22 (.ldl 21 3 (.s 20) 1 false), .g 17 true 23 (.bin 22 .eql (.s 19) (.s 21)), .i (.pick 23 (.s 17) (.s 22) (qb false)),qm 24 23, .g 24 true 26 (.fad 25 (.s 2) 2), .g 24 true 27 (.ldl 26 2 (.s 25) 1 false), .g 24 true 28 (.fad 27 (.s 3) 2), .g 24 true 29 (.ldl 28 3 (.s 27) 1 false), .g 24 true 30 (.call 30 21 false [(.s 26),(.s 28)]), .i (.pick 30 (.s 24) (.s 29) (qb false)),qm 31 30, .g 31 true 33 (.fad 32 (.s 2) 4), .g 31 true 34 (.ldl 33 2 (.s 32) 1 false), .g 31 true 35 (.fad 34 (.s 3) 4), .g 31 true 36 (.ldl 35 3 (.s 34) 1 false), .g 31 true 37 (.call 37 21 false [(.s 33),(.s 35)]), .i (.pick 37 (.s 31) (.s 36) (qb false)),qm 4 37]) .ret))⟩
theorem zf:cd nz=some mj:=by kernel_rfl
theorem xa (a b:bu):VC cd nz (aE [(true,a.c),(true,b.c)]) (fun rs _=>rs=bl (im a b)):=by
 refine aa zf rfl ?_
 simp(disch:=omega) [mj,bu.c,VY]
 refine ab (fun h1=> ?_) (fun h1=> ?_) <;>simp(disch:=omega) [h1,im,VY]
 refine ab (fun h2=> ?_) (fun h2=> ?_) <;>simp(disch:=omega) [h1,h2,VY]
 refine ab (fun h3=> ?_) (fun h3=> ?_) <;>simp(disch:=omega) [h1,h2,h3,VY]
 refine av (aN a.block b.block) ?_
 simp(disch:=omega) [h1,h2,h3,VY]
 refine ab (fun h4=> ?_) (fun h4=> ?_) <;>simp(disch:=omega) [h1,h2,h3,h4,VY]
 refine av (aN a.tag b.tag) ?_
 simp(disch:=omega) [h1,h2,h3,h4,VY]
abbrev nn:Nat:=298
def mV:AF:=⟨2,6,[.tmp 4],(.seq (.ops [.i (.lbox 2 (.s 0)), .i (.lbox 3 (.s 1)), .i (.mov 4 (qb false))]) (.seq (.ops [qf 5 2 0,ql 6 2 5 1 false,qf 7 3 0,ql 8 3 7 1 false,qd 9 .eql 6 8,qm 10 9, .g 10 true 12 (.fad 11 (.s 2) 1), .g 10 true 13 (.ldl 12 2 (.s 11) 1 false), .g 10 true 14 (.fad 13 (.s 3) 1), .g 10 true 15 (.ldl 14 3 (.s 13) 1 false), .g 10 true 16 (.bin 15 .eql (.s 12) (.s 14)), .i (.pick 16 (.s 10) (.s 15) (qb false)),qm 17 16, .g 17 true 19 (.fad 18 (.s 2) 2), .g 17 true 20 (.ldl 19 2 (.s 18) 1 false), .g 17 true 21 (.fad 20 (.s 3) 2), .g 17 true 22 (.ldl 21 3 (.s 20) 1 false), .g 17 true 23 (.call 23 329 false [(.s 19),(.s 21)]), .i (.pick 23 (.s 17) (.s 22) (qb false)),qm 24 23, .g 24 true 26 (.fad 25 (.s 2) 3), .g 24 true 27 (.ldl 26 2 (.s 25) 1 false), .g 24 true 28 (.fad 27 (.s 3) 3), .g 24 true 29 (.ldl 28 3 (.s 27) 1 false), .g 24 true 30 (.bin 29 .eql (.s 26) (.s 28)), .i (.pick 30 (.s 24) (.s 29) (qb false)),qm 31 30, .g 31 true 33 (.fad 32 (.s 2) 4), .g 31 true 34 (.ldl 33 2 (.s 32) 1 false), .g 31 true 35 (.fad 34 (.s 3) 4), .g 31 true 36 (.ldl 35 3 (.s 34) 1 false), .g 31 true 37 (.call 37 329 false [(.s 33),(.s 35)]), .i (.pick 37 (.s 31) (.s 36) (qb false)),qm 4 37]) .ret))⟩
theorem zi:cd nn=some mV:=by kernel_rfl
theorem yc (a b:bu):VC cd nn (aE [(true,a.c),(true,b.c)]) (fun rs _=>rs=bl (im a b)):=by
 refine aa zi rfl ?_
 simp(disch:=omega) [mV,bu.c,VY]
 refine ab (fun h1=> ?_) (fun h1=> ?_) <;>simp(disch:=omega) [h1,im,VY]
 refine ab (fun h2=> ?_) (fun h2=> ?_) <;>simp(disch:=omega) [h1,h2,VY]
 refine av (aP a.block b.block) ?_
 simp(disch:=omega) [h1,h2,VY]
 refine ab (fun h3=> ?_) (fun h3=> ?_) <;>simp(disch:=omega) [h1,h2,h3,VY]
 refine ab (fun h4=> ?_) (fun h4=> ?_) <;>simp(disch:=omega) [h1,h2,h3,h4,VY]
 refine av (aP a.tag b.tag) ?_
 simp(disch:=omega) [h1,h2,h3,h4,VY]
end Go.Eng.F
namespace Go.Eng.F
def cur (b:Bytes) (i:Nat) (h:Int):List E0:= [.p (.sl (bytes b)), .p (.int .i64 (i:Int)), .p (.int .i64 h)]
theorem E2 (k v ty:Nat) (xs:List E0) (r:List E):aD k v (.pt ty xs::r)=(.pt k v 0::(aD (k+(1+xs.length)) (v+(1+xs.length)) r).1,(k, .pt v ty (aH (k+1) (v+1) xs).1)::((aH (k+1) (v+1) xs).2++(aD (k+(1+xs.length)) (v+(1+xs.length)) r).2)):=rfl
def LC (x:Int):Nat:=(BitVec.ofInt 64 x &&& BitVec.ofInt 64 255).toNat
theorem E9 (x:Int):LC x < 256:=by
 have:LC x≤255:=by
  unfold LC
  rw[BitVec.toNat_and]
  exact Nat.and_le_right
 omega
theorem LN (x:Int):aA .and .i64 x 255=((LC x:Nat):Int):=by
 have h:=E9 x
 show IntKind.i64.wrap ((LC x:Nat):Int)=_
 exact yu (by omega) (by omega)
abbrev tV:Nat:=88
def tI:AF:=⟨1,6,[.tmp 2],(.seq (.ops [.i (.mov 2 (.c (.val false [.nilp])))]) (.seq (.ops [qm 5 0,qn 6 5, .i (.bin 7 .add (qi 1611) (.s 6)),qm 3 7]) (.seq (.seq (.ops [.i (.mov 4 (qi 0))]) (.block 0 (.loop [27,26,25,24,23,22,21,20,19,18,17,16,15,14,13,12,11,10,9,8] (.seq (.seq (.ops [qm 8 4,qm 9 0,qn 10 9,qd 11 .lss 8 10,qm 12 11, .g 12 true 14 (.mov 13 (.s 4)), .g 12 true 15 (.bin 14 .lss (.s 13) (qi 4000)), .i (.pick 15 (.s 12) (.s 14) (qb false))]) (.cond (.s 15) .skip (.exit 0))) (.seq (.block 1 (.ops [qm 18 3, .i (.bin 19 .mul (.s 18) (qi 37)),qm 20 0,qm 21 4, .i (.iad 22 (.s 20) (.s 21) 1), .i (.ldh 23 (.s 22) 1 false), .i (.cvi 24 .i64 (.s 23)),qd 25 .add 19 24, .i (.bin 26 .add (.s 25) (qi 7)), .i (.bin 27 .and (.s 26) (qi 1073741823)),qm 3 27])) (.ops [qm 16 4, .i (.bin 17 .add (.s 16) (qi 1)),qm 4 17])))))) (.seq (.ops [qm 28 0,qm 29 3, .i (.bld 30 [.nils, .int .i64 0, .int .i64 0] [(0,1,(.s 28)),(2,1,(.s 29))]), .i (.hbox 31 133 (.s 30)),qm 2 31]) .ret))))⟩
theorem DK:cd tV=some tI:=by kernel_rfl
theorem xE (b:Bytes) (hb:b.length≤1073741824):VC cd tV (aE [(false,[.sl (bytes b)])]) (fun r _=>∃h:Int,True∧r= [(false,[.pt 133 (cur b 0 h)])]):=by
 refine aa DK rfl ?_
 simp(disch:=omega) [tI,VY]
 refine bx (σ:=Nat×Int) (f1:=_) (es0:=_) (by simp(disch:=omega) [VY];rfl) (by simp(disch:=omega) [VY];rfl) (fun p=> [(4, .val false [.int .i64 (p.1:Int)]),(3, .val false [.int .i64 p.2])]) (fun _=> []) (fun p g=>g+p.1=b.length) (0,_) b.length (by simp(disch:=omega) [VY];rfl) (by simp(disch:=omega) [VY]) (by omega) ?_
 rintro⟨i,h⟩ n g hg P hP
 simp only at hg
 simp(disch:=omega) [VY]
 refine ab (fun h1=> ?_) (fun h1=> ?_)
 ·have hi:i < b.length:=by omega
  simp(disch:=omega) [h1,VY]
  refine ab (fun h2=> ?_) (fun h2=> ?_)
  ·simp(disch:=omega) [bz hi,VY]
   exact hP (i+1,_) (g - 1) _ _ (by omega) (by simp only;omega) (by simp(disch:=omega) [VY];rfl) (by simp(disch:=omega) [VY])
  ·simp(disch:=omega) [cur,VY]
 ·simp(disch:=omega) [h1,cur,VY]
abbrev qH:Nat:=162
def oE:AF:=⟨1,6,[.tmp 2],(.seq (.ops [.i (.mov 2 (qi 0))]) (.seq (.ops [qm 4 0,qm 5 0, .i (.nch 6 (.s 5)),qf 7 6 2, .i (.ldh 8 (.s 7) 1 false), .i (.bin 9 .mul (.s 8) (qi 6364136223846793005)), .i (.bin 10 .add (.s 9) (qi 1442695040888963407)), .i (.nch 11 (.s 4)),qf 12 11 2, .i (.sth (.s 12) (.s 10) 1)]) (.seq (.ops [qm 13 0, .i (.nch 14 (.s 13)),qf 15 14 2, .i (.ldh 16 (.s 15) 1 false), .i (.bin 17 .shr (.s 16) (.c (.val false [.int .u64 33]))),qm 18 0, .i (.nch 19 (.s 18)),qf 20 19 2, .i (.ldh 21 (.s 20) 1 false), .i (.bin 22 .shr (.s 21) (.c (.val false [.int .u64 45]))),qd 23 .xor 17 22, .i (.bin 24 .and (.s 23) (qi 255)),qm 3 24]) (.seq (.seq (.ops [qm 25 0, .i (.nch 26 (.s 25)),qf 27 26 1, .i (.ldh 28 (.s 27) 1 false),qm 29 0, .i (.nch 30 (.s 29)),qf 31 30 0, .i (.ldh 32 (.s 31) 1 false),qn 33 32,qd 34 .lss 28 33]) (.cond (.s 34) (.seq (.ops [qm 35 3,qm 36 0, .i (.nch 37 (.s 36)),qf 38 37 0, .i (.ldh 39 (.s 38) 1 false),qm 40 0, .i (.nch 41 (.s 40)),qf 42 41 1, .i (.ldh 43 (.s 42) 1 false), .i (.iad 44 (.s 39) (.s 43) 1), .i (.ldh 45 (.s 44) 1 false), .i (.cvi 46 .i64 (.s 45)),qd 47 .add 35 46, .i (.bin 48 .and (.s 47) (qi 255)),qm 3 48]) (.ops [qm 49 0,qm 50 0, .i (.nch 51 (.s 50)),qf 52 51 1, .i (.ldh 53 (.s 52) 1 false), .i (.bin 54 .add (.s 53) (qi 1)), .i (.nch 55 (.s 49)),qf 56 55 1, .i (.sth (.s 56) (.s 54) 1)])) .skip)) (.seq (.ops [qm 57 3,qm 2 57]) .ret)))))⟩
theorem Cz:cd qH=some oE:=by kernel_rfl
theorem dH (b:Bytes) (i:Nat) (h:Int) (hi:i≤b.length) (hb:b.length≤1073741824):VC cd qH (iX [] 133 (cur b i h) []) (fun r p=>∃x:Nat×Nat×Int,(x.1 < 256∧x.2.1≤b.length)∧r=it x.1∧p= [.pt 133 (cur b x.2.1 x.2.2)]):=by
 refine ay Cz rfl ?_
 simp(disch:=omega) [oE,cur,LN,VZ]
 refine ab (fun h1=> ?_) (fun h1=> ?_)
 ·simp(disch:=omega) [bz h1,LN,VZ]
  refine⟨_,i+1,⟨E9 _,by omega⟩,rfl,by simp⟩
 ·simp(disch:=omega) [VZ]
  refine⟨_,i,⟨E9 _,hi⟩,rfl,rfl⟩
theorem tm {N:Int} (h:0≤N) {n:Nat} (hn:n≠0):∃y:Nat,y < n∧N.tmod (n:Int)=(y:Int):=by
 obtain⟨m,rfl⟩:=Int.eq_ofNat_of_zero_le h
 exact⟨m % n,Nat.mod_lt _ (by omega),rfl⟩
abbrev ma:Nat:=97
def l5:AF:=⟨2,6,[.tmp 4],(.seq (.ops [.i (.mov 4 (qi 0))]) (.seq (.seq (.ops [qm 9 1, .i (.bin 10 .leq (.s 9) (qi 0))]) (.cond (.s 10) (.seq (.ops [.i (.mov 4 (qi 0))]) .ret) .skip)) (.seq (.seq (.ops [qm 11 1, .i (.bin 12 .leq (.s 11) (qi 256))]) (.cond (.s 12) (.seq (.ops [qm 13 0,qk 15 162 13,qm 15 1,qd 16 .rem 14 15,qm 4 16]) .ret) .skip)) (.seq (.ops [qm 17 0,qk 19 162 17,qm 5 18]) (.seq (.ops [qm 19 0,qk 21 162 19,qm 6 20]) (.seq (.ops [qm 21 0,qk 23 162 21,qm 7 22]) (.seq (.ops [qm 23 0,qk 25 162 23,qm 8 24]) (.seq (.ops [qm 25 5, .i (.bin 26 .mul (.s 25) (qi 16777216)),qm 27 6, .i (.bin 28 .mul (.s 27) (qi 65536)),qd 29 .add 26 28,qm 30 7, .i (.bin 31 .mul (.s 30) (qi 256)),qd 32 .add 29 31,qm 33 8,qd 34 .add 32 33,qm 35 1,qd 36 .rem 34 35,qm 4 36]) .ret))))))))⟩
theorem zM:cd ma=some l5:=by kernel_rfl
theorem ao (b:Bytes) (i:Nat) (h:Int) (n:Nat) (hn:n≤4294967296) (hi:i≤b.length) (hb:b.length≤1073741824):VC cd ma (iX [] 133 (cur b i h) [(false,[.int .i64 (n:Int)])]) (fun r p=>∃x:Nat×Nat×Int,((x.1 < n∨x.1=0)∧x.2.1≤b.length)∧r=it x.1∧p= [.pt 133 (cur b x.2.1 x.2.2)]):=by
 refine ay zM rfl ?_
 simp(disch:=omega) [l5,cur,VZ]
 refine ab (fun h1=> ?_) (fun h1=> ?_)
 ·have h2:n=0:=by omega
  subst h2
  simp(disch:=omega) [VZ]
  exact⟨0,i,⟨rfl,hi⟩,rfl,rfl⟩
 simp(disch:=omega) [VZ]
 refine ab (fun h2=> ?_) (fun h2=> ?_)
 ·simp(disch:=omega) [VZ]
  refine cN (dH b i h hi hb) ?_
  rintro⟨x,i',h'⟩ ⟨h3,h4⟩
  simp only at h3 h4
  obtain⟨y,hy,e⟩:=tm (N:=(x:Int)) (by omega) h1
  simp(disch:=omega) [cur,e,h1,VZ]
  exact⟨y,i',⟨.inl hy,h4⟩,rfl,rfl⟩
 ·simp(disch:=omega) [VZ]
  refine cN (dH b i h hi hb) ?_
  rintro⟨x,i1,h1'⟩ ⟨h3,h4⟩
  simp(disch:=omega) [cur,VZ]
  simp only at h3 h4
  refine cN (dH b i1 h1' h4 hb) ?_
  rintro⟨y,i2,h2'⟩ ⟨h5,h6⟩
  simp(disch:=omega) [cur,VZ]
  simp only at h5 h6
  refine cN (dH b i2 h2' h6 hb) ?_
  rintro⟨z,i3,h3'⟩ ⟨h7,h8⟩
  simp(disch:=omega) [cur,VZ]
  simp only at h7 h8
  refine cN (dH b i3 h3' h8 hb) ?_
  rintro⟨w,i4,h4'⟩ ⟨h9,h10⟩
  simp only at h9 h10
  obtain⟨q,hq,e⟩:=tm (N:=(x:Int) * 16777216+y * 65536+z * 256+w) (by omega) h1
  simp(disch:=omega) [cur,e,h1,VZ]
  exact⟨q,i4,⟨.inl hq,h10⟩,rfl,rfl⟩
abbrev pw:Nat:=135
def ob:AF:=⟨2,4,[.tmp 4],(.seq (.ops [.i (.mov 4 (qb false))]) (.seq (.ops [qm 5 0,qm 6 1, .i (.call 8 97 false [(.s 5),(.s 6)]), .i (.bin 8 .eql (.s 7) (qi 0)),qm 4 8]) .ret))⟩
theorem Bn:cd pw=some ob:=by kernel_rfl
theorem gh (b:Bytes) (i:Nat) (h:Int) (n:Nat) (hn:n≤4294967296) (hi:i≤b.length) (hb:b.length≤1073741824):VC cd pw (iX [] 133 (cur b i h) [(false,[.int .i64 (n:Int)])]) (fun r p=>∃x:Bool×Nat×Int,x.2.1≤b.length∧r=bl x.1∧p= [.pt 133 (cur b x.2.1 x.2.2)]):=by
 refine ay Bn rfl ?_
 simp(disch:=omega) [ob,cur,VZ]
 refine cN (ao b i h n hn hi hb) ?_
 rintro⟨x,i',h'⟩ ⟨h3,h4⟩
 simp only at h3 h4
 simp(disch:=omega) [cur,VZ]
 by_cases hx:x=0
 ·exact .inr ⟨i',h4,hx,rfl⟩
 ·exact .inl ⟨i',h4,hx,rfl⟩
abbrev pO:Nat:=155
def oW:AF:=⟨2,4,[.tmp 4],(.seq (.ops [.i (.mov 4 (qi 0))]) (.seq (.ops [qm 5 1,qm 6 0,qm 7 1,qn 8 7, .i (.call 10 97 false [(.s 6),(.s 8)]), .i (.iad 10 (.s 5) (.s 9) 1), .i (.ldh 11 (.s 10) 1 false),qm 4 11]) .ret))⟩
theorem B3:cd pO=some oW:=by kernel_rfl
theorem iT (b:Bytes) (i:Nat) (h:Int) (l:List Int) (hl:l≠ []) (hl2:l.length≤4294967296) (hi:i≤b.length) (hb:b.length≤1073741824):VC cd pO (iX [] 133 (cur b i h) [(false,[.sl (ints l)])]) (fun r p=>∃x:Int×Nat×Int,(x.1∈l∧x.2.1≤b.length)∧r=it x.1∧p= [.pt 133 (cur b x.2.1 x.2.2)]):=by
 have hp:0 < l.length:=List.length_pos_iff.2 hl
 refine ay B3 rfl ?_
 simp(disch:=omega) [oW,cur,bQ,VZ]
 refine cN (ao b i h l.length hl2 hi hb) ?_
 rintro⟨x,i',h'⟩ ⟨h3,h4⟩
 simp only at h3 h4
 have hx:x < l.length:=by omega
 simp(disch:=omega) [cur,Aw hx,VZ]
 exact⟨gi l x,i',⟨uF hx,h4⟩,rfl,rfl⟩
theorem z0 (x:Bytes) (y:Int):bytes x++ [[.int .u8 (IntKind.u8.wrap y)]]=bytes (x++ [b8 y]):=by
 rw[←bE,←Ct]
 rfl
abbrev my:Nat:=138
def ml:AF:=⟨2,5,[.tmp 4],(.seq (.ops [.i (.mov 4 (.c (.val false [.nils])))]) (.seq (.ops [.i (.bse 7),qm 5 7]) (.seq (.seq (.ops [qm 8 0,qm 9 1, .i (.bin 10 .add (.s 9) (qi 1)), .i (.call 12 97 false [(.s 8),(.s 10)]),qm 6 11]) (.block 0 (.loop [21,20,19,18,17,16,15,14,13,12] (.seq (.seq (.ops [qm 12 6, .i (.bin 13 .gtr (.s 12) (qi 0))]) (.cond (.s 13) .skip (.exit 0))) (.seq (.block 1 (.ops [qm 16 5,qm 17 0,qk 19 162 17, .i (.cvi 19 .u8 (.s 18)), .i (.lsl 20 1 1 [.int .u8 0] [(0,1,(.s 19))]), .i (.app 21 5 1 1 (.s 16) (.s 20)),qm 5 21])) (.ops [qm 14 6, .i (.bin 15 .sub (.s 14) (qi 1)),qm 6 15])))))) (.seq (.ops [qm 22 5,qm 4 22]) .ret))))⟩
theorem zU:cd my=some ml:=by kernel_rfl
theorem dE (b:Bytes) (i:Nat) (h:Int) (m:Nat) (hm:m≤1000000) (hi:i≤b.length) (hb:b.length≤1073741824):VC cd my (iX [] 133 (cur b i h) [(false,[.int .i64 (m:Int)])]) (fun r p=>∃x:Bytes×Nat×Int,(x.1.length≤m∧x.2.1≤b.length)∧r= [(false,[.o true (some (5,1)) (bytes x.1)])]∧p= [.pt 133 (cur b x.2.1 x.2.2)]):=by
 refine ay zU rfl ?_
 simp(disch:=omega) [ml,cur,VZ]
 refine cN (ao b i h (m+1) (by omega) hi hb) ?_
 rintro⟨k,i',h'⟩ ⟨h3,h4⟩
 simp only at h3 h4
 have hk:k≤m:=by omega
 simp(disch:=omega) [cur,VZ]
 refine bx (σ:=Nat×Nat×Nat×Int×Bytes) (f1:=_) (es0:=_) (by simp(disch:=omega) [VZ];rfl) (by simp(disch:=omega) [VZ];rfl) (fun p=> [(6, .val false [.int .i64 (p.1:Int)]),(5, .val false [.ow 7 p.2.1])]) (fun p=> [(4096, .pt 0 133 [.sl (bytes b), .int .i64 (p.2.2.1:Int), .int .i64 p.2.2.2.1]),(7, .sl p.2.1 true true (some (5,1)) (bytes p.2.2.2.2))])
  (fun p g=>g=p.1∧p.2.2.1≤b.length∧p.2.2.2.2.length+p.1≤m) (k,_,i',h',[]) k (by simp(disch:=omega) [VZ];rfl) (by simp(disch:=omega) [bytes,VZ]) ⟨rfl,h4,by simpa using hk⟩ ?_
 rintro⟨n,v,i2,h2,x⟩ nx g ⟨hg,h5,h6⟩ P hP
 simp only at hg h5 h6
 simp(disch:=omega) [VZ]
 refine ab (fun h7=> ?_) (fun h7=> ?_)
 ·simp(disch:=omega) [VZ]
  refine cN (dH b i2 h2 h5 hb) ?_
  rintro⟨y,i3,h3'⟩ ⟨h8,h9⟩
  simp only at h8 h9
  have e1:IntKind.i64.wrap ((n:Int) - 1)=((n - 1:Nat):Int):=by rw[yu (by omega) (by omega)];omega
  simp(disch:=omega) [cur,z0,e1,VZ]
  exact hP (n - 1,_,i3,h3',x++ [b8 y]) (g - 1) _ _ (by omega) ⟨by omega,h9,by simp;omega⟩ (by simp(disch:=omega) [VZ];rfl) (by simp(disch:=omega) [VZ])
 ·simp(disch:=omega) [cur,VZ]
  exact⟨x,i2,⟨by omega,h5⟩,rfl,rfl⟩
theorem iN (x:Bytes) (j:Nat) (y:Int):(bytes x).set j [.int .u8 (IntKind.u8.wrap y)]=bytes (x.set j (b8 y)):=by
 rw[←Ct]
 simp[bytes,List.map_set]
def RJ:Bytes:=List.replicate 32 0
theorem Pw:List.replicate 32 [D.int .u8 0]=bytes RJ:=A4 32
abbrev oM:Nat:=242
def qI:AF:=⟨1,5,[.tmp 2],(.seq (.ops [.i (.mov 2 (.c (.val false [.nils])))]) (.seq (.ops [.i (.mks 4 5 1 1 [.int .u8 0] (qi 32)),qm 3 4]) (.seq (.ops [qm 5 3,qm 6 0, .i (.call 8 97 false [(.s 6),(qi 3)]), .i (.cvi 8 .u8 (.s 7)), .i (.iad 9 (.s 5) (qi 0) 1), .i (.sth (.s 9) (.s 8) 1)]) (.seq (.ops [qm 10 3,qm 11 0,qk 13 162 11, .i (.cvi 13 .u8 (.s 12)), .i (.iad 14 (.s 10) (qi 31) 1), .i (.sth (.s 14) (.s 13) 1)]) (.seq (.ops [qm 15 3,qm 2 15]) .ret)))))⟩
theorem AO:cd oM=some qI:=by kernel_rfl
theorem cY (b:Bytes) (i:Nat) (h:Int) (hi:i≤b.length) (hb:b.length≤1073741824):VC cd oM (iX [] 133 (cur b i h) []) (fun r p=>∃x:Bytes×Nat×Int,(x.1.length=32∧x.2.1≤b.length)∧r= [(false,[.o true (some (5,1)) (bytes x.1)])]∧p= [.pt 133 (cur b x.2.1 x.2.2)]):=by
 have hz:RJ.length=32:=rfl
 refine ay AO rfl ?_
 simp(disch:=omega) [qI,cur,Pw,VZ]
 refine cN (ao b i h 3 (by omega) hi hb) ?_
 rintro⟨k,i',h'⟩ ⟨h3,h4⟩
 simp only at h3 h4
 simp(disch:=omega) [cur,bz,iN,VZ]
 have hz1:(RJ.set 0 (b8 (k:Int))).length=32:=by simp[hz]
 generalize RJ.set 0 (b8 (k:Int))=z1 at hz1⊢
 refine cN (dH b i' h' h4 hb) ?_
 rintro⟨y,i2,h2⟩ ⟨h5,h6⟩
 simp only at h5 h6
 simp(disch:=omega) [cur,bz,iN,VZ]
 exact⟨z1.set 31 (b8 y),i2,⟨by simp[hz1],h6⟩,rfl,rfl⟩
def ah.e (l:ah):List E:= [.p (.int .i64 l.n), .p (.int .i64 l.tx), .p (.int .i64 l.txs), .p (.int .i64 l.frame), .p (.int .i64 l.heads)]
theorem Mn {l:ah} (h1:1≤l.n∧l.n≤10) (h2:0≤l.tx∧l.tx≤40) (h3:0≤l.txs∧l.txs≤8) (h4:1≤l.frame∧l.frame≤4000) (h5:3≤l.heads∧l.heads≤5):l.ok=true:=by
 simp[ah.ok,cf,h1,h2,h3,h4,h5]
abbrev qo:Nat:=89
def qJ:AF:=⟨1,5,[.cell 2 5 true],(.seq (.ops [.i (.lal 2 [.int .i64 0, .int .i64 0, .int .i64 0, .int .i64 0, .int .i64 0])]) (.seq (.ops [qm 3 0, .i (.bsl 4 3 1 7 [.int .i64 0] [(0,1,(qi 1)),(1,1,(qi 3)),(2,1,(qi 4)),(3,1,(qi 4)),(4,1,(qi 7)),(5,1,(qi 9)),(6,1,(qi 10))]), .i (.call 6 155 false [(.s 3),(.s 4)]),qm 6 0, .i (.bsl 7 3 1 4 [.int .i64 0] [(0,1,(qi 0)),(1,1,(qi 4)),(2,1,(qi 8)),(3,1,(qi 40))]), .i (.call 9 155 false [(.s 6),(.s 7)]),qm 9 0, .i (.bsl 10 3 1 3 [.int .i64 0] [(0,1,(qi 0)),(1,1,(qi 3)),(2,1,(qi 8))]), .i (.call 12 155 false [(.s 9),(.s 10)]),qm 12 0, .i (.bsl 13 3 1 4 [.int .i64 0] [(0,1,(qi 4000)),(1,1,(qi 4000)),(2,1,(qi 300)),(3,1,(qi 60))]), .i (.call 15 155 false [(.s 12),(.s 13)]),qm 15 0, .i (.call 17 97 false [(.s 15),(qi 3)]), .i (.bin 17 .add (qi 3) (.s 16)), .i (.bld 18 [.int .i64 0, .int .i64 0, .int .i64 0, .int .i64 0, .int .i64 0] [(0,1,(.s 5)),(1,1,(.s 8)),(2,1,(.s 11)),(3,1,(.s 14)),(4,1,(.s 17))]),qs 2 2 18 5]) .ret))⟩
theorem AV:cd qo=some qJ:=by kernel_rfl
theorem I4 (b:Bytes) (i:Nat) (h:Int) (hi:i≤b.length) (hb:b.length≤1073741824):VC cd qo (iX [] 133 (cur b i h) []) (fun r p=>∃x:ah×Nat×Int,(x.1.ok=true∧x.2.1≤b.length)∧r= [(true,x.1.e)]∧p= [.pt 133 (cur b x.2.1 x.2.2)]):=by
 refine ay AV rfl ?_
 simp(disch:=omega) [qJ,cur,VZ]
 refine cN (iT b i h [1,3,4,4,7,9,10] (by simp) (by simp) hi hb) ?_
 rintro⟨k1,i1,h1⟩ ⟨g1,j1⟩
 simp only at g1 j1
 simp(disch:=omega) [cur,VZ]
 refine cN (iT b i1 h1 [0,4,8,40] (by simp) (by simp) j1 hb) ?_
 rintro⟨k2,i2,h2⟩ ⟨g2,j2⟩
 simp only at g2 j2
 simp(disch:=omega) [cur,VZ]
 refine cN (iT b i2 h2 [0,3,8] (by simp) (by simp) j2 hb) ?_
 rintro⟨k3,i3,h3⟩ ⟨g3,j3⟩
 simp only at g3 j3
 simp(disch:=omega) [cur,VZ]
 refine cN (iT b i3 h3 [4000,4000,300,60] (by simp) (by simp) j3 hb) ?_
 rintro⟨k4,i4,h4⟩ ⟨g4,j4⟩
 simp only at g4 j4
 simp(disch:=omega) [cur,VZ]
 refine cN (ao b i4 h4 3 (by omega) j4 hb) ?_
 rintro⟨k5,i5,h5⟩ ⟨g5,j5⟩
 simp only at g5 j5
 simp(disch:=omega) [cur,VZ]
 simp only[List.mem_cons,List.not_mem_nil,or_false]at g1 g2 g3 g4
 exact⟨⟨k1,k2,k3,k4,3+k5⟩,i5,⟨Mn (by simp only;omega) (by simp only;omega) (by simp only;omega) (by simp only;omega) (by simp only;omega),j5⟩,rfl,rfl⟩
end Go.Eng.F
namespace Go.Eng.F
theorem eE (l:List Bytes) (x:Bytes):bH l++ [[.sl (bytes x)]]=bH (l++ [x]):=by simp[bH]
abbrev jf:Nat:=14
def jn:AF:=⟨1,5,[.cell 2 5 true],(.seq (.ops [.i (.lal 2 [.int .i64 0, .int .i64 0, .int .i64 0, .int .i64 0, .int .i64 0])]) (.seq (.ops [qm 5 0,qk 7 88 5,qm 3 6]) (.seq (.ops [qm 7 3,qm 8 3, .i (.nch 9 (.s 8)),qf 10 9 2, .i (.ldh 11 (.s 10) 1 false), .i (.bin 12 .add (.s 11) (qi 5)), .i (.nch 13 (.s 7)),qf 14 13 2, .i (.sth (.s 14) (.s 12) 1)]) (.seq (.ops [qm 15 3,qk 17 89 15, .i (.lal 4 [.int .i64 0, .int .i64 0, .int .i64 0, .int .i64 0, .int .i64 0]),qs 4 4 16 5]) (.seq (.ops [qf 17 4 3, .i (.stl 4 (.s 17) (qi 4000) 1)]) (.seq (.ops [ql 18 4 4 5 true,qs 2 2 18 5]) .ret))))))⟩
theorem vA:cd jf=some jn:=by kernel_rfl
theorem Dy (b:Bytes) (hb:b.length≤1073741824):VC cd jf (aE [(false,[.sl (bytes b)])]) (fun r _=>∃x:ah,(x.ok=true∧x.frame=4000)∧r= [(true,x.e)]):=by
 refine aa vA rfl ?_
 simp(disch:=omega) [jn,VY]
 refine RP (xE b hb) ?_
 intro h _
 simp(disch:=omega) [cur,E2,VZ]
 refine cN (I4 b 0 _ (Nat.zero_le _) hb) ?_ (n1:=by intro _;simp(disch:=omega) [ah.e,VZ]) (n3:=by intro _;simp(disch:=omega) [ah.e,VZ])
 rintro⟨l,i1,h1⟩ ⟨g1,j1⟩
 simp only at g1 j1
 simp(disch:=omega) [cur,ah.e,VZ]
 simp only[ah.ok,cf,Bool.and_eq_true,decide_eq_true_eq]at g1
 exact⟨⟨l.n,l.tx,l.txs,4000,l.heads⟩,⟨Mn g1.1.1.1.1 g1.1.1.1.2 g1.1.1.2 (by simp only;omega) g1.2,rfl⟩,rfl,rfl,rfl,rfl,rfl⟩
end Go.Eng.F
namespace Go.Eng.F
open Go.Eng.U (Gz dK df gP Hs qV)
def vK (l:ah) (t:List Bytes):Bool:=t.all fun x=>decide ((x.length:Int)≤l.tx)
theorem Mc {l:ah} {t:List Bytes} (h:∀x∈t.take t.length,(x.length:Int)≤l.tx):vK l t=true:=by
 rw[List.take_length]at h
 simpa[vK]using h
theorem Mr {l:ah} {t:List Bytes} {i:Nat} (hi:i < t.length) (h:l.tx < (t[i].length:Int)):vK l t=false:=by
 simp only[vK,List.all_eq_false]
 exact⟨t[i],List.getElem_mem hi,by simp;omega⟩
def bF (l:ah) (x:Block):Bool:=bG l x.head && decide ((x.txs.length:Int)≤l.txs) && vK l x.txs && decide (x.head.root=aV x.txs)
abbrev pG:Nat:=311
def oe:AF:=⟨2,6,[.tmp 4],(.seq (.ops [.i (.lbox 2 (.s 0)), .i (.lbox 3 (.s 1)), .i (.mov 4 (qb false))]) (.seq (.seq (.ops [ql 7 2 2 5 true,qf 8 3 0,ql 9 3 8 10 true, .i (.call 11 310 false [(.s 7),(.s 9)]), .i (.not 11 (.s 10)),qm 12 11, .g 12 false 14 (.fad 13 (.s 3) 10), .g 12 false 15 (.ldl 14 3 (.s 13) 1 false), .g 12 false 16 (.len 15 false (.s 14)), .g 12 false 17 (.fad 16 (.s 2) 2), .g 12 false 18 (.ldl 17 2 (.s 16) 1 false), .g 12 false 19 (.bin 18 .gtr (.s 15) (.s 17)), .i (.pick 19 (.s 12) (qb true) (.s 18))]) (.cond (.s 19) (.seq (.ops [.i (.mov 4 (qb false))]) .ret) .skip)) (.seq (.seq (.ops [qf 20 3 10,ql 21 3 20 1 false,qn 22 21, .i (.mov 23 (qi 0))]) (.block 0 (.loop [32,31,30,29,28,27,26,25,24,6] (.seq (.ops [qd 24 .lss 23 22]) (.seq (.cond (.s 24) .skip (.exit 0)) (.seq (.block 1 (.seq (.ops [.i (.iad 25 (.s 21) (.s 23) 1), .i (.ldh 26 (.s 25) 1 false),qm 6 26]) (.seq (.ops [qm 27 6,qn 28 27,qf 29 2 1,ql 30 2 29 1 false,qd 31 .gtr 28 30]) (.cond (.s 31) (.seq (.ops [.i (.mov 4 (qb false))]) .ret) .skip)))) (.ops [.i (.bin 32 .add (.s 23) (qi 1)),qm 23 32]))))))) (.seq (.ops [qf 33 3 0,qf 34 33 4,ql 35 3 34 1 false,qf 36 3 10,ql 37 3 36 1 false,qk 39 319 37, .i (.call 40 329 false [(.s 35),(.s 38)]),qm 4 39]) .ret))))⟩
theorem Cq:cd pG=some oe:=by kernel_rfl
theorem nb (l:ah) (x:Block) (hw:x.wc) (hx:∀t∈x.txs,t.length≤1073741823):VC cd pG (aE [(true,l.c),(true,x.c)]) (fun rs _=>rs=bl (bF l x)):=by
 obtain⟨⟨w1,_⟩,w2,w3⟩:=hw
 simp only[Sz]at w2
 refine aa Cq rfl ?_
 simp(disch:=omega) [oe,ah.c,Block.c,Head.c,VY]
 refine aj (iE l x.head w1) rfl rfl ?_
 simp(disch:=omega) [aC,VY]
 refine aw (fun h2=> ?_) (fun h2=> ?_)
 case refine_2=>simp(disch:=omega) [h2,bF,VY]
 simp(disch:=omega) [h2,aC,VY]
 refine ab (fun h3=> ?_) (fun h3=> ?_)
 ·simp(disch:=omega) [h2,h3,bF,show ¬(x.txs.length:Int)≤l.txs by omega,VY]
 simp(disch:=omega) [h2,h3,aC,VY]
 refine bp (σ:=Nat) (f1:=_) (es0:=_) (by simp(disch:=omega) [VY];rfl) (by simp(disch:=omega) [VY];rfl) (fun i=> [(23, .val false [.int .i64 i])]) (fun _=> []) (fun i g=>g+i=x.txs.length∧∀t∈x.txs.take i,(t.length:Int)≤l.tx) 0 x.txs.length (by simp(disch:=omega) [VY]) (by simp(disch:=omega) [VY]) ⟨by omega,by simp⟩ ?_
 rintro i n g ⟨hg,hi⟩
 simp(disch:=omega) [VY]
 refine ab (fun h1=> ?_) (fun h1=> ?_)
 ·have hix:i < x.txs.length:=by omega
  have w4:=hx _ (List.getElem_mem hix)
  simp(disch:=omega) [eF hix,ae,VY]
  refine ab (fun h4=> ?_) (fun h4=> ?_)
  ·simp(disch:=omega) [VY]
   simp[bF,Mr hix (by omega)]
  ·simp(disch:=omega) [VY]
   exact⟨i+1,g - 1,by omega,⟨by omega,wU hi hix (by omega)⟩,by simp⟩
 ·have hl:i=x.txs.length:=by omega
  subst hl
  have ht:=Mc hi
  simp(disch:=omega) [VY]
  refine aj (la _ x.txs rfl (by omega) hx) rfl rfl ?_
  simp(disch:=omega) [h2,h3,ht,VY]
  refine av (aP x.head.root (aV x.txs)) ?_
  simp(disch:=omega) [h2,h3,ht,bF,show(x.txs.length:Int)≤l.txs by omega,VY]
def fh (h:Head) (t:List Bytes):Block:=⟨⟨h.view,h.height,h.proposer,h.parent,aV t,h.qc⟩,t⟩
def BV (l:ah) (h:Head) (t:List Bytes):List (Bool×List E):=
 if bF l (fh h t)then [(true,[.p (.int .i64 h.view), .p (.int .i64 h.height), .p (.int .i64 h.proposer), .o true (some (5,1)) (bytes h.parent), .o true (some (5,1)) (bytes (aV t)), .p (.int .i64 h.qc.view), .p (.int .i64 h.qc.height), .o true (some (5,1)) (bytes h.qc.block), .o true (some (5,1)) (bytes h.qc.bits), .o true (some (22,1)) (bH h.qc.tags), .o true (some (22,1)) (bH t)]),(false,[.p (.bool true)])]
 else [(true,[.p (.int .i64 0), .p (.int .i64 0), .p (.int .i64 0), .p .nils, .p .nils, .p (.int .i64 0), .p (.int .i64 0), .p .nils, .p .nils, .p .nils, .p .nils]),(false,[.p (.bool false)])]
theorem yH {l:ah} {x:Block} (h:bF l x=true):x.txs.length≤8:=by
 simp only[bF,Bool.and_eq_true,decide_eq_true_eq]at h
 have h1:=h.1.1.1
 simp only[bG,Bool.and_eq_true]at h1
 have h2:=v9 h1.1.1.1.1.1.1
 simp only[ah.ok,Bool.and_eq_true]at h2
 have h3:=cX h2.1.1.2
 omega
theorem yE {h:Head} {t:List Bytes} (hw:h.wc) (ht:rk t):(fh h t).wc:=by
 obtain⟨⟨w1,w2,w3,w4,w5,w6⟩,w7⟩:=hw
 exact⟨⟨⟨w1,w2,w3,w4,by show(aV t).length≤_;rw[fJ];omega,w6⟩,w7⟩,ht⟩
abbrev iQ:Nat:=269
def rr:AF:=⟨3,5,[.cell 6 11 true, .tmp 7],(.seq (.ops [.i (.lbox 3 (.s 0)), .i (.lbox 4 (.s 1)), .i (.lal 6 [.int .i64 0, .int .i64 0, .int .i64 0, .nils, .nils, .int .i64 0, .int .i64 0, .nils, .nils, .nils, .nils]), .i (.mov 7 (qb false))]) (.seq (.ops [ql 9 4 4 10 true,qk 11 267 9,qm 11 2,qk 13 316 11, .i (.bld 13 [.int .i64 0, .int .i64 0, .int .i64 0, .nils, .nils, .int .i64 0, .int .i64 0, .nils, .nils, .nils, .nils] [(0,10,(.s 10)),(10,1,(.s 12))]), .i (.lal 8 [.int .i64 0, .int .i64 0, .int .i64 0, .nils, .nils, .int .i64 0, .int .i64 0, .nils, .nils, .nils, .nils]),qs 8 8 13 11]) (.seq (.ops [qm 14 2,qk 16 319 14,qf 16 8 0,qf 17 16 4,qs 8 17 15 1]) (.seq (.seq (.ops [ql 18 3 3 5 true,ql 19 8 8 11 true, .i (.call 21 311 false [(.s 18),(.s 19)]), .i (.not 21 (.s 20))]) (.cond (.s 21) (.seq (.ops [.i (.bld 22 [.int .i64 0, .int .i64 0, .int .i64 0, .nils, .nils, .int .i64 0, .int .i64 0, .nils, .nils, .nils, .nils] []),qs 6 6 22 11, .i (.mov 7 (qb false))]) .ret) .skip)) (.seq (.ops [ql 23 8 8 11 true,qs 6 6 23 11, .i (.mov 7 (qb true))]) .ret)))))⟩
theorem Ap:cd iQ=some rr:=by kernel_rfl
theorem y9 (l:ah) (h:Head) (t:List Bytes) (hw:h.wc) (ht:rk t) (hx:∀x∈t,x.length≤1073741823):VC cd iQ (aE [(true,l.c),(true,h.c),(false,[.sl (bH t)])]) (fun rs _=>rs=BV l h t):=by
 have hl:=ht.1
 simp only[Sz]at hl
 refine aa Ap rfl ?_
 simp(disch:=omega) [rr,ah.c,Head.c,VY]
 refine aj (lF h hw) rfl rfl ?_
 simp(disch:=omega) [Head.o,VY]
 refine aj (lD t ht) rfl rfl ?_
 simp(disch:=omega) [VY]
 refine aj (la _ t rfl (by omega) hx) rfl rfl ?_
 simp(disch:=omega) [VY]
 have hq:=yE hw ht
 refine av (nb l (fh h t) hq hx) ?_
 simp(disch:=omega) [VY]
 refine aw (fun h1=> ?_) (fun h1=> ?_) <;>simp(disch:=omega) [h1,BV,VY]
end Go.Eng.F
namespace Go.Eng.F
open Go.Eng.U (Gz dK df gP DJ jO od yM QI lT Hs)
structure Entry where
 who:Int
 high:Int
 tag:Bytes
def Entry.c (r:Entry):List D:= [.int .i64 r.who, .int .i64 r.high, .sl (bytes r.tag)]
def Entry.wf (r:Entry):Prop:=nQ r.who∧nQ r.high∧Sz r.tag.length
structure Tc where
 view:Int
 entries:List Entry
def lU (l:List Entry):List (List D):=l.map Entry.c
theorem dG (l:List Entry):(lU l).length=l.length:=by simp[lU]
theorem jl {l:List Entry} {i:Nat} (h:i < l.length):(lU l)[i]? =some [.int .i64 l[i].who, .int .i64 l[i].high, .sl (bytes l[i].tag)]:=by simp[lU,h,Entry.c]
theorem K7 {l:List Entry} {i:Nat} (h:i < l.length):lU (l.take i)++ [[.int .i64 l[i].who, .int .i64 l[i].high, .sl (bytes l[i].tag)]]=lU (l.take (i+1)):=by
 have e:lU (l.take (i+1))=lU (l.take i)++lU [l[i]]:=by
  rw[List.take_add_one,List.getElem?_eq_getElem h];exact List.map_append
 rw[e];rfl
def Tc.c (t:Tc):List D:= [.int .i64 t.view, .sl (lU t.entries)]
def Tc.wf (t:Tc):Prop:=nQ t.view∧Sz t.entries.length∧∀r∈t.entries,r.wf
abbrev oV:Nat:=271
def pb:AF:=⟨1,5,[.cell 2 2 true],(.seq (.ops [.i (.lbox 1 (.s 0)), .i (.lal 2 [.int .i64 0, .nils])]) (.seq (.ops [qf 6 1 0,ql 7 1 6 1 false, .i (.bld 8 [.int .i64 0, .nils] [(0,1,(.s 7))]), .i (.lal 3 [.int .i64 0, .nils]),qs 3 3 8 2]) (.seq (.seq (.ops [qf 9 1 1,ql 10 1 9 1 false,qn 11 10, .i (.mov 12 (qi 0))]) (.block 0 (.loop [29,28,27,26,25,24,23,22,21,20,19,18,17,16,15,14,13,5] (.seq (.ops [qd 13 .lss 12 11]) (.seq (.cond (.s 13) .skip (.exit 0)) (.seq (.block 1 (.seq (.ops [.i (.iad 14 (.s 10) (.s 12) 3), .i (.ldh 15 (.s 14) 3 true), .i (.lal 5 [.int .i64 0, .int .i64 0, .nils]),qs 5 5 15 3]) (.ops [qf 16 3 1,ql 17 3 16 1 false,qf 18 5 0,ql 19 5 18 1 false,qf 20 5 1,ql 21 5 20 1 false,qf 22 5 2,ql 23 5 22 1 false,qk 25 143 23, .i (.bld 25 [.int .i64 0, .int .i64 0, .nils] [(0,1,(.s 19)),(1,1,(.s 21)),(2,1,(.s 24))]), .i (.lsl 26 3 1 [.int .i64 0, .int .i64 0, .nils] [(0,3,(.s 25))]), .i (.app 27 165 3 40 (.s 17) (.s 26)),qf 28 3 1,qs 3 28 27 1]))) (.ops [.i (.bin 29 .add (.s 12) (qi 1)),qm 12 29]))))))) (.seq (.ops [ql 30 3 3 2 true,qs 2 2 30 2]) .ret))))⟩
theorem Cb:cd oV=some pb:=by kernel_rfl
theorem Iq (t:Tc) (hw:t.wf):VC cd oV (aE [(true,t.c)]) (fun rs _=>rs= [(true,[.p (.int .i64 t.view), .o true (some (165,3)) (lU t.entries)])]):=by
 obtain⟨w0,w1,w2⟩:=hw
 simp only[Sz]at w1
 refine aa Cb rfl ?_
 simp(disch:=omega) [pb,Tc.c,dG,VY]
 refine oz (σ:=Nat×Nat) (f0:=_) (by simp(disch:=omega) [VY];rfl) (de.zq (s:=3) (k:=3) (i:=1) rfl rfl) (f1:=_) (es0:=_) (by simp(disch:=omega) [VY];rfl) (by simp(disch:=omega) [VY];rfl) (fun p=> [(12, .val false [.int .i64 p.1]),(3, .box [.int .i64 t.view, .ow 3 p.2])]) (fun p=> [(3, .sl p.2 true true (some (165,3)) (lU (t.entries.take p.1)))])
  (fun p g=>g+p.1=t.entries.length) (0,_) t.entries.length (by simp(disch:=omega) [VY];rfl) (by simp(disch:=omega) [lU,VY]) (by omega) ?_
 rintro⟨i,v⟩ n g hg
 simp only at hg
 simp(disch:=omega) [VY]
 refine ab (fun h1=> ?_) (fun h1=> ?_)
 ·have hx:i < t.entries.length:=by omega
  have w3:=(w2 _ (List.getElem_mem hx)).2.2
  simp only[Sz]at w3
  simp(disch:=omega) [jl hx,VY]
  refine aj (bb t.entries[i].tag (by omega)) rfl rfl ?_
  have hl:(lU (t.entries.take i)).length=i:=by rw[dG];simp;omega
  simp(disch:=omega) [hl,K7 hx,VY]
  exact⟨i+1,n+1,g - 1,by omega,by omega,⟨by omega,by omega⟩,by omega,rfl⟩
 ·simp(disch:=omega) [VY]
  have:i=t.entries.length:=by omega
  subst this
  rw[List.take_length]
def D8 (t:Tc):List (Bool×List E):= [(true,[.p (.int .i64 5), .p (.int .i64 0), .p (.int .i64 0), .p .nils, .p (.int .i64 0), .p .nils, .p (.int .i64 0), .p (.int .i64 0), .p .nils, .p .nils, .p .nils, .p (.int .i64 0), .p (.int .i64 0), .p (.int .i64 0), .p .nils, .p .nils, .p (.int .i64 0), .p (.int .i64 0), .p .nils, .p .nils, .p .nils, .p (.int .i64 0), .p (.int .i64 0), .p (.int .i64 0), .p .nils, .p .nils, .p (.int .i64 0), .p (.int .i64 0), .p .nils, .p .nils, .p .nils, .p .nils, .p (.int .i64 t.view), .o true (some (165,3)) (lU t.entries), .p .nils, .p (.int .i64 0), .p (.int .i64 0), .p .nils, .p .nils, .p .nils, .p (.int .i64 0), .p (.int .i64 0), .p (.int .i64 0), .p .nils, .p .nils])]
abbrev yR:Nat:=190
def yL:AF:=⟨1,3,[.cell 2 45 true],(.seq (.ops [.i (.lbox 1 (.s 0)), .i (.lal 2 [.int .i64 0, .int .i64 0, .int .i64 0, .nils, .int .i64 0, .nils, .int .i64 0, .int .i64 0, .nils, .nils, .nils, .int .i64 0, .int .i64 0, .int .i64 0, .nils, .nils, .int .i64 0, .int .i64 0, .nils, .nils, .nils, .int .i64 0, .int .i64 0, .int .i64 0, .nils, .nils, .int .i64 0, .int .i64 0, .nils, .nils, .nils, .nils, .int .i64 0, .nils, .nils, .int .i64 0, .int .i64 0, .nils, .nils, .nils, .int .i64 0, .int .i64 0, .int .i64 0, .nils, .nils])]) (.seq (.ops [ql 3 1 1 2 true,qk 5 271 3, .i (.bld 5 [.int .i64 0, .int .i64 0, .int .i64 0, .nils, .int .i64 0, .nils, .int .i64 0, .int .i64 0, .nils, .nils, .nils, .int .i64 0, .int .i64 0, .int .i64 0, .nils, .nils, .int .i64 0, .int .i64 0, .nils, .nils, .nils, .int .i64 0, .int .i64 0, .int .i64 0, .nils, .nils, .int .i64 0, .int .i64 0, .nils, .nils, .nils, .nils, .int .i64 0, .nils, .nils, .int .i64 0, .int .i64 0, .nils, .nils, .nils, .int .i64 0, .int .i64 0, .int .i64 0, .nils, .nils] [(0,1,(qi 5)),(32,2,(.s 4))]),qs 2 2 5 45]) .ret))⟩
theorem Hg:cd yR=some yL:=by kernel_rfl
theorem vH (t:Tc) (hw:t.wf):VC cd yR (aE [(true,t.c)]) (fun rs _=>rs=D8 t):=by
 refine aa Hg rfl ?_
 simp(disch:=omega) [yL,Tc.c,VY]
 refine aj (Iq t hw) rfl rfl ?_
 simp(disch:=omega) [D8,VY]
def Entry.tv (x:Entry):Tv:= .r [.i x.who, .i x.high,CO x.tag]
theorem Entry.enc (x:Entry):enc lT x.tv=x.c:=by simp only[Entry.tv,eS,cm,cW,eH,fg,jy,gT,ey,gE,Entry.c,List.cons_append,List.nil_append,List.append_assoc]
theorem Entry.ex {v:Tv} (h:aI lT v):∃x:Entry,v=x.tv:=by
 obtain⟨vs,rfl,h⟩:=h.st
 obtain⟨v0,_,rfl,h0,h⟩:=h.step
 obtain⟨v1,_,rfl,h1,h⟩:=h.step
 obtain⟨v2,_,rfl,h2,h⟩:=h.step
 obtain rfl:=h.fin
 obtain⟨n0,rfl,_⟩:=h0.int
 obtain⟨n1,rfl,_⟩:=h1.int
 obtain⟨n2,rfl⟩:=gZ h2
 exact⟨⟨n0,n1,n2⟩,rfl⟩
theorem Entry.of {x:Entry} (h:aI lT x.tv) (hw:wt x.tv≤1048576):x.wf:=by
 simp only[Entry.tv,gM,cS]at h
 simp only[Entry.tv,wt,zK]at hw
 obtain⟨h0,h1,h2,_⟩:=h
 exact⟨dY (ok_int.1 h0),dY (ok_int.1 h1),tq (by omega)⟩
def Ib (l:List Entry):Tv:= .l (l.map Entry.tv)
theorem Ow (l:List Entry):enc (.sl lT) (Ib l)= [.sl (lU l)]:=by
 simp only[Ib,EM,List.map_map,lU]
 congr 2
 exact List.map_congr_left fun x _=>Entry.enc x
theorem Og {v:Tv} (h:aI (.sl lT) v):∃l,v=Ib l:=by
 obtain⟨xs,rfl,_,h2⟩:=h.sl
 obtain⟨ys,rfl⟩:=sd (f:=Entry.tv) (P:=aI lT) (fun v hv=>Entry.ex hv) h2
 exact⟨ys,rfl⟩
theorem Qw {l:List Entry} (h:aI (.sl lT) (Ib l)) (hw:wt (Ib l)≤1048576):Sz l.length∧∀x∈l,x.wf:=by
 unfold Ib at h hw
 rw[Lt]at hw
 have h2:=(La.1 h).2
 simp only[List.length_map]at hw
 refine⟨by unfold Sz;omega,fun x hx=>Entry.of (h2 _ (List.mem_map_of_mem hx)) ?_⟩
 have:=vo (f:=Entry.tv) hx
 omega
def Tc.tv (x:Tc):Tv:= .r [.i x.view,Ib x.entries]
theorem Tc.enc (x:Tc):enc QI x.tv=x.c:=by simp only[Tc.tv,Ow,eS,cm,cW,eH,fg,jy,gT,ey,gE,Tc.c,List.cons_append,List.nil_append,List.append_assoc]
theorem Tc.ex {v:Tv} (h:aI QI v):∃x:Tc,v=x.tv:=by
 obtain⟨vs,rfl,h⟩:=h.st
 obtain⟨v0,_,rfl,h0,h⟩:=h.step
 obtain⟨v1,_,rfl,h1,h⟩:=h.step
 obtain rfl:=h.fin
 obtain⟨n0,rfl,_⟩:=h0.int
 obtain⟨n1,rfl⟩:=Og h1
 exact⟨⟨n0,n1⟩,rfl⟩
theorem Tc.of {x:Tc} (h:aI QI x.tv) (hw:wt x.tv≤1048576):x.wf:=by
 simp only[Tc.tv,gM,cS]at h
 simp only[Tc.tv,wt,zK]at hw
 obtain⟨h0,h1,_⟩:=h
 exact⟨dY (ok_int.1 h0),Qw h1 (by omega)⟩
end Go.Eng.F
namespace Go.Eng.F
theorem Aq {α:Type} {a b:List α} {i:Nat} (hd:∀j,j < i→a[j]? =b[j]?) (h:a[i]? =b[i]?):∀j,j < i+1→a[j]? =b[j]? :=fun j hj=>by
 rcases Nat.lt_or_ge j i with hl|hl
 ·exact hd j hl
 ·obtain rfl:j=i:=by omega
  exact h
theorem HI {α:Type} {a b:List α} (hl:a.length=b.length) (hd:∀j,j < b.length→a[j]? =b[j]?):a=b:=by
 apply List.ext_getElem?
 intro j
 rcases Nat.lt_or_ge j b.length with h|h
 ·exact hd j h
 ·rw[List.getElem?_eq_none_iff.2 h,List.getElem?_eq_none_iff.2 (by omega)]
abbrev l4:Nat:=107
def ns:AF:=⟨2,5,[.tmp 4],(.seq (.ops [.i (.mov 4 (qb false))]) (.seq (.seq (.ops [qm 6 0,qn 7 6,qm 8 1,qn 9 8,qd 10 .neq 7 9]) (.cond (.s 10) (.seq (.ops [.i (.mov 4 (qb false))]) .ret) .skip)) (.seq (.seq (.ops [qm 11 0,qn 12 11, .i (.mov 13 (qi 0))]) (.block 0 (.loop [26,25,24,23,22,21,20,19,18,17,16,15,14,5] (.seq (.ops [qd 14 .lss 13 12]) (.seq (.cond (.s 14) .skip (.exit 0)) (.seq (.block 1 (.seq (.ops [qm 15 13,qm 5 15]) (.seq (.ops [qm 16 0,qm 17 5, .i (.iad 18 (.s 16) (.s 17) 1), .i (.ldh 19 (.s 18) 1 false),qm 20 1,qm 21 5, .i (.iad 22 (.s 20) (.s 21) 1), .i (.ldh 23 (.s 22) 1 false), .i (.call 25 21 false [(.s 19),(.s 23)]), .i (.not 25 (.s 24))]) (.cond (.s 25) (.seq (.ops [.i (.mov 4 (qb false))]) .ret) .skip)))) (.ops [.i (.bin 26 .add (.s 13) (qi 1)),qm 13 26]))))))) (.seq (.ops [.i (.mov 4 (qb true))]) .ret))))⟩
theorem zT:cd l4=some ns:=by kernel_rfl
theorem f8 (a b:List Bytes) (ha:Sz a.length) (hb:Sz b.length):VC cd l4 (aE [(false,[.sl (bH a)]),(false,[.sl (bH b)])]) (fun rs _=>rs=bl (decide (a=b))):=by
 simp only[Sz]at ha hb
 refine aa zT rfl ?_
 simp(disch:=omega) [ns,aC,VY]
 refine ab (fun h1=> ?_) (fun h1=> ?_)
 case refine_2=>
  have hn:¬a=b:=fun e=>h1 (by rw[e])
  simp(disch:=omega) [h1,hn,VY]
 simp(disch:=omega) [h1,aC,VY]
 refine bx (σ:=Nat) (f1:=_) (es0:=_) (by simp(disch:=omega) [VY];rfl) (by simp(disch:=omega) [VY];rfl) (fun i=> [(13, .val false [.int .i64 (i:Int)])]) (fun _=> []) (fun i g=>g+i=b.length∧∀j,j < i→a[j]? =b[j]?) 0 b.length (by simp(disch:=omega) [h1,VY]) (by simp(disch:=omega) [VY]) ⟨by omega,fun j hj=>by omega⟩ ?_
 rintro i n g ⟨hg,hd⟩ P hP
 simp(disch:=omega) [h1,VY]
 refine ab (fun h2=> ?_) (fun h2=> ?_)
 ·have hi:i < a.length:=by omega
  have hj:i < b.length:=by omega
  simp(disch:=omega) [eF hi,eF hj,VY]
  refine av (aN a[i] b[i]) ?_
  simp(disch:=omega) [VY]
  refine ab (fun h3=> ?_) (fun h3=> ?_)
  ·simp(disch:=omega) [h3,VY]
   exact hP (i+1) (g - 1) _ _ (by omega) ⟨by omega,Aq hd (by simp[hi,hj,h3])⟩ (by simp(disch:=omega) [VY]) (by simp(disch:=omega) [VY])
  ·have hn:¬a=b:=fun e=>h3 (by subst e;rfl)
   simp(disch:=omega) [h3,hn,VY]
 ·have he:a=b:=HI (by omega) (fun j hj=>hd j (by omega))
  simp(disch:=omega) [he,VY]
abbrev mc:Nat:=336
def l6:AF:=⟨2,5,[.tmp 4],(.seq (.ops [.i (.mov 4 (qb false))]) (.seq (.seq (.ops [qm 6 0,qn 7 6,qm 8 1,qn 9 8,qd 10 .neq 7 9]) (.cond (.s 10) (.seq (.ops [.i (.mov 4 (qb false))]) .ret) .skip)) (.seq (.seq (.ops [qm 11 0,qn 12 11, .i (.mov 13 (qi 0))]) (.block 0 (.loop [26,25,24,23,22,21,20,19,18,17,16,15,14,5] (.seq (.ops [qd 14 .lss 13 12]) (.seq (.cond (.s 14) .skip (.exit 0)) (.seq (.block 1 (.seq (.ops [qm 15 13,qm 5 15]) (.seq (.ops [qm 16 0,qm 17 5, .i (.iad 18 (.s 16) (.s 17) 1), .i (.ldh 19 (.s 18) 1 false),qm 20 1,qm 21 5, .i (.iad 22 (.s 20) (.s 21) 1), .i (.ldh 23 (.s 22) 1 false), .i (.call 25 329 false [(.s 19),(.s 23)]), .i (.not 25 (.s 24))]) (.cond (.s 25) (.seq (.ops [.i (.mov 4 (qb false))]) .ret) .skip)))) (.ops [.i (.bin 26 .add (.s 13) (qi 1)),qm 13 26]))))))) (.seq (.ops [.i (.mov 4 (qb true))]) .ret))))⟩
theorem ze:cd mc=some l6:=by kernel_rfl
theorem f9 (a b:List Bytes) (ha:Sz a.length) (hb:Sz b.length):VC cd mc (aE [(false,[.sl (bH a)]),(false,[.sl (bH b)])]) (fun rs _=>rs=bl (decide (a=b))):=by
 simp only[Sz]at ha hb
 refine aa ze rfl ?_
 simp(disch:=omega) [l6,aC,VY]
 refine ab (fun h1=> ?_) (fun h1=> ?_)
 case refine_2=>
  have hn:¬a=b:=fun e=>h1 (by rw[e])
  simp(disch:=omega) [h1,hn,VY]
 simp(disch:=omega) [h1,aC,VY]
 refine bx (σ:=Nat) (f1:=_) (es0:=_) (by simp(disch:=omega) [VY];rfl) (by simp(disch:=omega) [VY];rfl) (fun i=> [(13, .val false [.int .i64 (i:Int)])]) (fun _=> []) (fun i g=>g+i=b.length∧∀j,j < i→a[j]? =b[j]?) 0 b.length (by simp(disch:=omega) [h1,VY]) (by simp(disch:=omega) [VY]) ⟨by omega,fun j hj=>by omega⟩ ?_
 rintro i n g ⟨hg,hd⟩ P hP
 simp(disch:=omega) [h1,VY]
 refine ab (fun h2=> ?_) (fun h2=> ?_)
 ·have hi:i < a.length:=by omega
  have hj:i < b.length:=by omega
  simp(disch:=omega) [eF hi,eF hj,VY]
  refine av (aP a[i] b[i]) ?_
  simp(disch:=omega) [VY]
  refine ab (fun h3=> ?_) (fun h3=> ?_)
  ·simp(disch:=omega) [h3,VY]
   exact hP (i+1) (g - 1) _ _ (by omega) ⟨by omega,Aq hd (by simp[hi,hj,h3])⟩ (by simp(disch:=omega) [VY]) (by simp(disch:=omega) [VY])
  ·have hn:¬a=b:=fun e=>h3 (by subst e;rfl)
   simp(disch:=omega) [h3,hn,VY]
 ·have he:a=b:=HI (by omega) (fun j hj=>hd j (by omega))
  simp(disch:=omega) [he,VY]
def lR (a b:Qc):Bool:=decide (a.view=b.view) && decide (a.height=b.height) && decide (a.block=b.block) && decide (a.bits=b.bits) && decide (a.tags=b.tags)
abbrev sN:Nat:=29
def s9:AF:=⟨2,6,[.tmp 4],(.seq (.ops [.i (.lbox 2 (.s 0)), .i (.lbox 3 (.s 1)), .i (.mov 4 (qb false))]) (.seq (.ops [qf 5 2 0,ql 6 2 5 1 false,qf 7 3 0,ql 8 3 7 1 false,qd 9 .eql 6 8,qm 10 9, .g 10 true 12 (.fad 11 (.s 2) 1), .g 10 true 13 (.ldl 12 2 (.s 11) 1 false), .g 10 true 14 (.fad 13 (.s 3) 1), .g 10 true 15 (.ldl 14 3 (.s 13) 1 false), .g 10 true 16 (.bin 15 .eql (.s 12) (.s 14)), .i (.pick 16 (.s 10) (.s 15) (qb false)),qm 17 16, .g 17 true 19 (.fad 18 (.s 2) 2), .g 17 true 20 (.ldl 19 2 (.s 18) 1 false), .g 17 true 21 (.fad 20 (.s 3) 2), .g 17 true 22 (.ldl 21 3 (.s 20) 1 false), .g 17 true 23 (.call 23 21 false [(.s 19),(.s 21)]), .i (.pick 23 (.s 17) (.s 22) (qb false)),qm 24 23, .g 24 true 26 (.fad 25 (.s 2) 3), .g 24 true 27 (.ldl 26 2 (.s 25) 1 false), .g 24 true 28 (.fad 27 (.s 3) 3), .g 24 true 29 (.ldl 28 3 (.s 27) 1 false), .g 24 true 30 (.call 30 21 false [(.s 26),(.s 28)]), .i (.pick 30 (.s 24) (.s 29) (qb false)),qm 31 30, .g 31 true 33 (.fad 32 (.s 2) 4), .g 31 true 34 (.ldl 33 2 (.s 32) 1 false), .g 31 true 35 (.fad 34 (.s 3) 4), .g 31 true 36 (.ldl 35 3 (.s 34) 1 false), .g 31 true 37 (.call 37 107 false [(.s 33),(.s 35)]), .i (.pick 37 (.s 31) (.s 36) (qb false)),qm 4 37]) .ret))⟩
theorem C6:cd sN=some s9:=by kernel_rfl
theorem iw (a b:Qc) (ha:a.wf) (hb:b.wf):VC cd sN (aE [(true,a.c),(true,b.c)]) (fun rs _=>rs=bl (lR a b)):=by
 refine aa C6 rfl ?_
 simp(disch:=omega) [s9,Qc.c,VY]
 refine ab (fun h1=> ?_) (fun h1=> ?_) <;>simp(disch:=omega) [h1,lR,VY]
 refine ab (fun h2=> ?_) (fun h2=> ?_) <;>simp(disch:=omega) [h1,h2,VY]
 refine av (aN a.block b.block) ?_
 simp(disch:=omega) [h1,h2,VY]
 refine ab (fun h3=> ?_) (fun h3=> ?_) <;>simp(disch:=omega) [h1,h2,h3,VY]
 refine av (aN a.bits b.bits) ?_
 simp(disch:=omega) [h1,h2,h3,VY]
 refine ab (fun h4=> ?_) (fun h4=> ?_) <;>simp(disch:=omega) [h1,h2,h3,h4,VY]
 refine av (f8 a.tags b.tags ha.2.2.2.2 hb.2.2.2.2) ?_
 simp(disch:=omega) [h1,h2,h3,h4,VY]
abbrev sI:Nat:=299
def tn:AF:=⟨2,6,[.tmp 4],(.seq (.ops [.i (.lbox 2 (.s 0)), .i (.lbox 3 (.s 1)), .i (.mov 4 (qb false))]) (.seq (.ops [qf 5 2 0,ql 6 2 5 1 false,qf 7 3 0,ql 8 3 7 1 false,qd 9 .eql 6 8,qm 10 9, .g 10 true 12 (.fad 11 (.s 2) 1), .g 10 true 13 (.ldl 12 2 (.s 11) 1 false), .g 10 true 14 (.fad 13 (.s 3) 1), .g 10 true 15 (.ldl 14 3 (.s 13) 1 false), .g 10 true 16 (.bin 15 .eql (.s 12) (.s 14)), .i (.pick 16 (.s 10) (.s 15) (qb false)),qm 17 16, .g 17 true 19 (.fad 18 (.s 2) 2), .g 17 true 20 (.ldl 19 2 (.s 18) 1 false), .g 17 true 21 (.fad 20 (.s 3) 2), .g 17 true 22 (.ldl 21 3 (.s 20) 1 false), .g 17 true 23 (.call 23 329 false [(.s 19),(.s 21)]), .i (.pick 23 (.s 17) (.s 22) (qb false)),qm 24 23, .g 24 true 26 (.fad 25 (.s 2) 3), .g 24 true 27 (.ldl 26 2 (.s 25) 1 false), .g 24 true 28 (.fad 27 (.s 3) 3), .g 24 true 29 (.ldl 28 3 (.s 27) 1 false), .g 24 true 30 (.call 30 329 false [(.s 26),(.s 28)]), .i (.pick 30 (.s 24) (.s 29) (qb false)),qm 31 30, .g 31 true 33 (.fad 32 (.s 2) 4), .g 31 true 34 (.ldl 33 2 (.s 32) 1 false), .g 31 true 35 (.fad 34 (.s 3) 4), .g 31 true 36 (.ldl 35 3 (.s 34) 1 false), .g 31 true 37 (.call 37 336 false [(.s 33),(.s 35)]), .i (.pick 37 (.s 31) (.s 36) (qb false)),qm 4 37]) .ret))⟩
theorem C4:cd sI=some tn:=by kernel_rfl
theorem iH (a b:Qc) (ha:a.wf) (hb:b.wf):VC cd sI (aE [(true,a.c),(true,b.c)]) (fun rs _=>rs=bl (lR a b)):=by
 refine aa C4 rfl ?_
 simp(disch:=omega) [tn,Qc.c,VY]
 refine ab (fun h1=> ?_) (fun h1=> ?_) <;>simp(disch:=omega) [h1,lR,VY]
 refine ab (fun h2=> ?_) (fun h2=> ?_) <;>simp(disch:=omega) [h1,h2,VY]
 refine av (aP a.block b.block) ?_
 simp(disch:=omega) [h1,h2,VY]
 refine ab (fun h3=> ?_) (fun h3=> ?_) <;>simp(disch:=omega) [h1,h2,h3,VY]
 refine av (aP a.bits b.bits) ?_
 simp(disch:=omega) [h1,h2,h3,VY]
 refine ab (fun h4=> ?_) (fun h4=> ?_) <;>simp(disch:=omega) [h1,h2,h3,h4,VY]
 refine av (f9 a.tags b.tags ha.2.2.2.2 hb.2.2.2.2) ?_
 simp(disch:=omega) [h1,h2,h3,h4,VY]
def dX (a b:Head):Bool:=decide (a.view=b.view) && decide (a.height=b.height) && decide (a.proposer=b.proposer) && decide (a.parent=b.parent) && decide (a.root=b.root) && lR a.qc b.qc
abbrev l8:Nat:=32
def mQ:AF:=⟨2,6,[.tmp 4],(.seq (.ops [.i (.lbox 2 (.s 0)), .i (.lbox 3 (.s 1)), .i (.mov 4 (qb false))]) (.seq (.ops [qf 5 2 0,ql 6 2 5 1 false,qf 7 3 0,ql 8 3 7 1 false,qd 9 .eql 6 8,qm 10 9, .g 10 true 12 (.fad 11 (.s 2) 1), .g 10 true 13 (.ldl 12 2 (.s 11) 1 false), .g 10 true 14 (.fad 13 (.s 3) 1), .g 10 true 15 (.ldl 14 3 (.s 13) 1 false), .g 10 true 16 (.bin 15 .eql (.s 12) (.s 14)), .i (.pick 16 (.s 10) (.s 15) (qb false)),qm 17 16, .g 17 true 19 (.fad 18 (.s 2) 2), .g 17 true 20 (.ldl 19 2 (.s 18) 1 false), .g 17 true 21 (.fad 20 (.s 3) 2), .g 17 true 22 (.ldl 21 3 (.s 20) 1 false), .g 17 true 23 (.bin 22 .eql (.s 19) (.s 21)), .i (.pick 23 (.s 17) (.s 22) (qb false)),qm 24 23, .g 24 true 26 (.fad 25 (.s 2) 3), .g 24 true 27 (.ldl 26 2 (.s 25) 1 false), .g 24 true 28 (.fad 27 (.s 3) 3), .g 24 true 29 (.ldl 28 3 (.s 27) 1 false), .g 24 true 30 (.call 30 21 false [(.s 26),(.s 28)]), .i (.pick 30 (.s 24) (.s 29) (qb false)),qm 31 30, .g 31 true 33 (.fad 32 (.s 2) 4), .g 31 true 34 (.ldl 33 2 (.s 32) 1 false), .g 31 true 35 (.fad 34 (.s 3) 4), .g 31 true 36 (.ldl 35 3 (.s 34) 1 false), .g 31 true 37 (.call 37 21 false [(.s 33),(.s 35)]), .i (.pick 37 (.s 31) (.s 36) (qb false)),qm 38 37, .g 38 true 40 (.fad 39 (.s 2) 5), .g 38 true 41 (.ldl 40 2 (.s 39) 5 true), .g 38 true 42 (.fad 41 (.s 3) 5), .g 38 true 43 (.ldl 42 3 (.s 41) 5 true), .g 38 true 44 (.call 44 29 false [(.s 40),(.s 42)]), .i (.pick 44 (.s 38) (.s 43) (qb false)),qm 4 44]) .ret))⟩
theorem yZ:cd l8=some mQ:=by kernel_rfl
theorem fU (a b:Head) (ha:a.wf) (hb:b.wf):VC cd l8 (aE [(true,a.c),(true,b.c)]) (fun rs _=>rs=bl (dX a b)):=by
 refine aa yZ rfl ?_
 simp(disch:=omega) [mQ,Head.c,VY]
 refine ab (fun h1=> ?_) (fun h1=> ?_) <;>simp(disch:=omega) [h1,dX,VY]
 refine ab (fun h2=> ?_) (fun h2=> ?_) <;>simp(disch:=omega) [h1,h2,VY]
 refine ab (fun h3=> ?_) (fun h3=> ?_) <;>simp(disch:=omega) [h1,h2,h3,VY]
 refine av (aN a.parent b.parent) ?_
 simp(disch:=omega) [h1,h2,h3,VY]
 refine ab (fun h4=> ?_) (fun h4=> ?_) <;>simp(disch:=omega) [h1,h2,h3,h4,VY]
 refine av (aN a.root b.root) ?_
 simp(disch:=omega) [h1,h2,h3,h4,VY]
 refine ab (fun h5=> ?_) (fun h5=> ?_) <;>simp(disch:=omega) [h1,h2,h3,h4,h5,VY]
 refine av (iw a.qc b.qc ha.2.2.2.2.2 hb.2.2.2.2.2) ?_ (ha:=by first|rfl|(simp[Qc.c,VY] <;>repeat' constructor))
 simp(disch:=omega) [h1,h2,h3,h4,h5,VY]
abbrev m0:Nat:=300
def nh:AF:=⟨2,6,[.tmp 4],(.seq (.ops [.i (.lbox 2 (.s 0)), .i (.lbox 3 (.s 1)), .i (.mov 4 (qb false))]) (.seq (.ops [qf 5 2 0,ql 6 2 5 1 false,qf 7 3 0,ql 8 3 7 1 false,qd 9 .eql 6 8,qm 10 9, .g 10 true 12 (.fad 11 (.s 2) 1), .g 10 true 13 (.ldl 12 2 (.s 11) 1 false), .g 10 true 14 (.fad 13 (.s 3) 1), .g 10 true 15 (.ldl 14 3 (.s 13) 1 false), .g 10 true 16 (.bin 15 .eql (.s 12) (.s 14)), .i (.pick 16 (.s 10) (.s 15) (qb false)),qm 17 16, .g 17 true 19 (.fad 18 (.s 2) 2), .g 17 true 20 (.ldl 19 2 (.s 18) 1 false), .g 17 true 21 (.fad 20 (.s 3) 2), .g 17 true 22 (.ldl 21 3 (.s 20) 1 false), .g 17 true 23 (.bin 22 .eql (.s 19) (.s 21)), .i (.pick 23 (.s 17) (.s 22) (qb false)),qm 24 23, .g 24 true 26 (.fad 25 (.s 2) 3), .g 24 true 27 (.ldl 26 2 (.s 25) 1 false), .g 24 true 28 (.fad 27 (.s 3) 3), .g 24 true 29 (.ldl 28 3 (.s 27) 1 false), .g 24 true 30 (.call 30 329 false [(.s 26),(.s 28)]), .i (.pick 30 (.s 24) (.s 29) (qb false)),qm 31 30, .g 31 true 33 (.fad 32 (.s 2) 4), .g 31 true 34 (.ldl 33 2 (.s 32) 1 false), .g 31 true 35 (.fad 34 (.s 3) 4), .g 31 true 36 (.ldl 35 3 (.s 34) 1 false), .g 31 true 37 (.call 37 329 false [(.s 33),(.s 35)]), .i (.pick 37 (.s 31) (.s 36) (qb false)),qm 38 37, .g 38 true 40 (.fad 39 (.s 2) 5), .g 38 true 41 (.ldl 40 2 (.s 39) 5 true), .g 38 true 42 (.fad 41 (.s 3) 5), .g 38 true 43 (.ldl 42 3 (.s 41) 5 true), .g 38 true 44 (.call 44 299 false [(.s 40),(.s 42)]), .i (.pick 44 (.s 38) (.s 43) (qb false)),qm 4 44]) .ret))⟩
theorem zb:cd m0=some nh:=by kernel_rfl
theorem fZ (a b:Head) (ha:a.wf) (hb:b.wf):VC cd m0 (aE [(true,a.c),(true,b.c)]) (fun rs _=>rs=bl (dX a b)):=by
 refine aa zb rfl ?_
 simp(disch:=omega) [nh,Head.c,VY]
 refine ab (fun h1=> ?_) (fun h1=> ?_) <;>simp(disch:=omega) [h1,dX,VY]
 refine ab (fun h2=> ?_) (fun h2=> ?_) <;>simp(disch:=omega) [h1,h2,VY]
 refine ab (fun h3=> ?_) (fun h3=> ?_) <;>simp(disch:=omega) [h1,h2,h3,VY]
 refine av (aP a.parent b.parent) ?_
 simp(disch:=omega) [h1,h2,h3,VY]
 refine ab (fun h4=> ?_) (fun h4=> ?_) <;>simp(disch:=omega) [h1,h2,h3,h4,VY]
 refine av (aP a.root b.root) ?_
 simp(disch:=omega) [h1,h2,h3,h4,VY]
 refine ab (fun h5=> ?_) (fun h5=> ?_) <;>simp(disch:=omega) [h1,h2,h3,h4,h5,VY]
 refine av (iH a.qc b.qc ha.2.2.2.2.2 hb.2.2.2.2.2) ?_ (ha:=by first|rfl|(simp[Qc.c,VY] <;>repeat' constructor))
 simp(disch:=omega) [h1,h2,h3,h4,h5,VY]
def fY (a b:Block):Bool:=dX a.head b.head && decide (a.txs=b.txs)
abbrev kJ:Nat:=36
def kc:AF:=⟨2,5,[.tmp 4],(.seq (.ops [.i (.lbox 2 (.s 0)), .i (.lbox 3 (.s 1)), .i (.mov 4 (qb false))]) (.seq (.ops [qf 5 2 0,ql 6 2 5 10 true,qf 7 3 0,ql 8 3 7 10 true, .i (.call 10 32 false [(.s 6),(.s 8)]),qm 10 9, .g 10 true 12 (.fad 11 (.s 2) 10), .g 10 true 13 (.ldl 12 2 (.s 11) 1 false), .g 10 true 14 (.fad 13 (.s 3) 10), .g 10 true 15 (.ldl 14 3 (.s 13) 1 false), .g 10 true 16 (.call 16 107 false [(.s 12),(.s 14)]), .i (.pick 16 (.s 10) (.s 15) (qb false)),qm 4 16]) .ret))⟩
theorem xV:cd kJ=some kc:=by kernel_rfl
theorem vD (a b:Block) (ha:a.wc) (hb:b.wc):VC cd kJ (aE [(true,a.c),(true,b.c)]) (fun rs _=>rs=bl (fY a b)):=by
 refine aa xV rfl ?_
 simp(disch:=omega) [kc,Block.c,Head.c,VY]
 refine av (fU a.head b.head ha.1.1 hb.1.1) ?_ (ha:=by first|rfl|(simp[Head.c,VY] <;>repeat' constructor))
 simp(disch:=omega) [VY]
 refine aw (fun h1=> ?_) (fun h1=> ?_) <;>simp(disch:=omega) [h1,fY,VY]
 refine av (f8 a.txs b.txs ha.2.1 hb.2.1) ?_
 simp(disch:=omega) [h1,VY]
abbrev j9:Nat:=301
def lr:AF:=⟨2,5,[.tmp 4],(.seq (.ops [.i (.lbox 2 (.s 0)), .i (.lbox 3 (.s 1)), .i (.mov 4 (qb false))]) (.seq (.ops [qf 5 2 0,ql 6 2 5 10 true,qf 7 3 0,ql 8 3 7 10 true, .i (.call 10 300 false [(.s 6),(.s 8)]),qm 10 9, .g 10 true 12 (.fad 11 (.s 2) 10), .g 10 true 13 (.ldl 12 2 (.s 11) 1 false), .g 10 true 14 (.fad 13 (.s 3) 10), .g 10 true 15 (.ldl 14 3 (.s 13) 1 false), .g 10 true 16 (.call 16 336 false [(.s 12),(.s 14)]), .i (.pick 16 (.s 10) (.s 15) (qb false)),qm 4 16]) .ret))⟩
theorem x6:cd j9=some lr:=by kernel_rfl
theorem wF (a b:Block) (ha:a.wc) (hb:b.wc):VC cd j9 (aE [(true,a.c),(true,b.c)]) (fun rs _=>rs=bl (fY a b)):=by
 refine aa x6 rfl ?_
 simp(disch:=omega) [lr,Block.c,Head.c,VY]
 refine av (fZ a.head b.head ha.1.1 hb.1.1) ?_ (ha:=by first|rfl|(simp[Head.c,VY] <;>repeat' constructor))
 simp(disch:=omega) [VY]
 refine aw (fun h1=> ?_) (fun h1=> ?_) <;>simp(disch:=omega) [h1,fY,VY]
 refine av (f9 a.txs b.txs ha.2.1 hb.2.1) ?_
 simp(disch:=omega) [h1,VY]
structure bo where
 height:Int
 n:Int
 idx:Int
 tx:Bytes
 path:List Bytes
def bo.c (x:bo):List D:= [.int .i64 x.height, .int .i64 x.n, .int .i64 x.idx, .sl (bytes x.tx), .sl (bH x.path)]
def bo.wc (x:bo):Prop:=nQ x.height∧nQ x.n∧nQ x.idx∧Sz x.tx.length∧rk x.path
def bo.o (x:bo):List E:= [.p (.int .i64 x.height), .p (.int .i64 x.n), .p (.int .i64 x.idx), .o true (some (5,1)) (bytes x.tx), .o true (some (22,1)) (bH x.path)]
def iO (a b:bo):Bool:=decide (a.height=b.height) && decide (a.n=b.n) && decide (a.idx=b.idx) && decide (a.tx=b.tx) && decide (a.path=b.path)
abbrev na:Nat:=45
def mN:AF:=⟨2,6,[.tmp 4],(.seq (.ops [.i (.lbox 2 (.s 0)), .i (.lbox 3 (.s 1)), .i (.mov 4 (qb false))]) (.seq (.ops [qf 5 2 0,ql 6 2 5 1 false,qf 7 3 0,ql 8 3 7 1 false,qd 9 .eql 6 8,qm 10 9, .g 10 true 12 (.fad 11 (.s 2) 1), .g 10 true 13 (.ldl 12 2 (.s 11) 1 false), .g 10 true 14 (.fad 13 (.s 3) 1), .g 10 true 15 (.ldl 14 3 (.s 13) 1 false), .g 10 true 16 (.bin 15 .eql (.s 12) (.s 14)), .i (.pick 16 (.s 10) (.s 15) (qb false)),qm 17 16, .g 17 true 19 (.fad 18 (.s 2) 2), .g 17 true 20 (.ldl 19 2 (.s 18) 1 false), .g 17 true 21 (.fad 20 (.s 3) 2), .g 17 true 22 (.ldl 21 3 (.s 20) 1 false), .g 17 true 23 (.bin 22 .eql (.s 19) (.s 21)), .i (.pick 23 (.s 17) (.s 22) (qb false)),qm 24 23, .g 24 true 26 (.fad 25 (.s 2) 3), .g 24 true 27 (.ldl 26 2 (.s 25) 1 false), .g 24 true 28 (.fad 27 (.s 3) 3), .g 24 true 29 (.ldl 28 3 (.s 27) 1 false), .g 24 true 30 (.call 30 21 false [(.s 26),(.s 28)]), .i (.pick 30 (.s 24) (.s 29) (qb false)),qm 31 30, .g 31 true 33 (.fad 32 (.s 2) 4), .g 31 true 34 (.ldl 33 2 (.s 32) 1 false), .g 31 true 35 (.fad 34 (.s 3) 4), .g 31 true 36 (.ldl 35 3 (.s 34) 1 false), .g 31 true 37 (.call 37 107 false [(.s 33),(.s 35)]), .i (.pick 37 (.s 31) (.s 36) (qb false)),qm 4 37]) .ret))⟩
theorem zS:cd na=some mN:=by kernel_rfl
theorem x8 (a b:bo) (ha:a.wc) (hb:b.wc):VC cd na (aE [(true,a.c),(true,b.c)]) (fun rs _=>rs=bl (iO a b)):=by
 refine aa zS rfl ?_
 simp(disch:=omega) [mN,bo.c,VY]
 refine ab (fun h1=> ?_) (fun h1=> ?_) <;>simp(disch:=omega) [h1,iO,VY]
 refine ab (fun h2=> ?_) (fun h2=> ?_) <;>simp(disch:=omega) [h1,h2,VY]
 refine ab (fun h3=> ?_) (fun h3=> ?_) <;>simp(disch:=omega) [h1,h2,h3,VY]
 refine av (aN a.tx b.tx) ?_
 simp(disch:=omega) [h1,h2,h3,VY]
 refine ab (fun h4=> ?_) (fun h4=> ?_) <;>simp(disch:=omega) [h1,h2,h3,h4,VY]
 refine av (f8 a.path b.path ha.2.2.2.2.1 hb.2.2.2.2.1) ?_
 simp(disch:=omega) [h1,h2,h3,h4,VY]
abbrev nA:Nat:=304
def nD:AF:=⟨2,6,[.tmp 4],(.seq (.ops [.i (.lbox 2 (.s 0)), .i (.lbox 3 (.s 1)), .i (.mov 4 (qb false))]) (.seq (.ops [qf 5 2 0,ql 6 2 5 1 false,qf 7 3 0,ql 8 3 7 1 false,qd 9 .eql 6 8,qm 10 9, .g 10 true 12 (.fad 11 (.s 2) 1), .g 10 true 13 (.ldl 12 2 (.s 11) 1 false), .g 10 true 14 (.fad 13 (.s 3) 1), .g 10 true 15 (.ldl 14 3 (.s 13) 1 false), .g 10 true 16 (.bin 15 .eql (.s 12) (.s 14)), .i (.pick 16 (.s 10) (.s 15) (qb false)),qm 17 16, .g 17 true 19 (.fad 18 (.s 2) 2), .g 17 true 20 (.ldl 19 2 (.s 18) 1 false), .g 17 true 21 (.fad 20 (.s 3) 2), .g 17 true 22 (.ldl 21 3 (.s 20) 1 false), .g 17 true 23 (.bin 22 .eql (.s 19) (.s 21)), .i (.pick 23 (.s 17) (.s 22) (qb false)),qm 24 23, .g 24 true 26 (.fad 25 (.s 2) 3), .g 24 true 27 (.ldl 26 2 (.s 25) 1 false), .g 24 true 28 (.fad 27 (.s 3) 3), .g 24 true 29 (.ldl 28 3 (.s 27) 1 false), .g 24 true 30 (.call 30 329 false [(.s 26),(.s 28)]), .i (.pick 30 (.s 24) (.s 29) (qb false)),qm 31 30, .g 31 true 33 (.fad 32 (.s 2) 4), .g 31 true 34 (.ldl 33 2 (.s 32) 1 false), .g 31 true 35 (.fad 34 (.s 3) 4), .g 31 true 36 (.ldl 35 3 (.s 34) 1 false), .g 31 true 37 (.call 37 336 false [(.s 33),(.s 35)]), .i (.pick 37 (.s 31) (.s 36) (qb false)),qm 4 37]) .ret))⟩
theorem zR:cd nA=some nD:=by kernel_rfl
theorem xg (a b:bo) (ha:a.wc) (hb:b.wc):VC cd nA (aE [(true,a.c),(true,b.c)]) (fun rs _=>rs=bl (iO a b)):=by
 refine aa zR rfl ?_
 simp(disch:=omega) [nD,bo.c,VY]
 refine ab (fun h1=> ?_) (fun h1=> ?_) <;>simp(disch:=omega) [h1,iO,VY]
 refine ab (fun h2=> ?_) (fun h2=> ?_) <;>simp(disch:=omega) [h1,h2,VY]
 refine ab (fun h3=> ?_) (fun h3=> ?_) <;>simp(disch:=omega) [h1,h2,h3,VY]
 refine av (aP a.tx b.tx) ?_
 simp(disch:=omega) [h1,h2,h3,VY]
 refine ab (fun h4=> ?_) (fun h4=> ?_) <;>simp(disch:=omega) [h1,h2,h3,h4,VY]
 refine av (f9 a.path b.path ha.2.2.2.2.1 hb.2.2.2.2.1) ?_
 simp(disch:=omega) [h1,h2,h3,h4,VY]
abbrev pj:Nat:=275
def pR:AF:=⟨1,5,[.cell 2 5 true],(.seq (.ops [.i (.lbox 1 (.s 0)), .i (.lal 2 [.int .i64 0, .int .i64 0, .int .i64 0, .nils, .nils])]) (.seq (.ops [qf 3 1 0,ql 4 1 3 1 false,qf 5 1 1,ql 6 1 5 1 false,qf 7 1 2,ql 8 1 7 1 false,qf 9 1 3,ql 10 1 9 1 false,qk 12 143 10,qf 12 1 4,ql 13 1 12 1 false,qk 15 316 13, .i (.bld 15 [.int .i64 0, .int .i64 0, .int .i64 0, .nils, .nils] [(0,1,(.s 4)),(1,1,(.s 6)),(2,1,(.s 8)),(3,1,(.s 11)),(4,1,(.s 14))]),qs 2 2 15 5]) .ret))⟩
theorem Bj:cd pj=some pR:=by kernel_rfl
theorem I8 (x:bo) (hw:x.wc):VC cd pj (aE [(true,x.c)]) (fun rs _=>rs= [(true,x.o)]):=by
 have w:=hw.2.2.2.1
 simp only[Sz]at w
 refine aa Bj rfl ?_
 simp(disch:=omega) [pR,bo.c,VY]
 refine av (bb x.tx (by omega)) ?_
 simp(disch:=omega) [VY]
 refine av (lD x.path hw.2.2.2.2) ?_
 simp(disch:=omega) [bo.o,VY]
def cZ {α:Type} (f:α→α→Bool) (a b:List α):Bool:=decide (a.length=b.length) && (List.range b.length).all fun i=>match a[i]?,b[i]? with|some x,some y=>f x y|_,_=>false
theorem je {α:Type} {f:α→α→Bool} {a b:List α} (h:¬a.length=b.length):cZ f a b=false:=by unfold cZ;rw[decide_eq_false h];rfl
theorem fW {α:Type} {f:α→α→Bool} {a b:List α} {i:Nat} (hi:i < a.length) (hj:i < b.length) (h:f a[i] b[i]=false):cZ f a b=false:=by
 unfold cZ
 rw[Bool.and_eq_false_iff]
 right
 rw[List.all_eq_false]
 exact⟨i,by simp[hj],by simp[hi,hj,h]⟩
theorem jd {α:Type} {f:α→α→Bool} {a b:List α} (hl:a.length=b.length) (h:∀i,i < b.length→(hi:i < a.length)→(hj:i < b.length)→f a[i] b[i]=true):cZ f a b=true:=by
 unfold cZ
 rw[Bool.and_eq_true,List.all_eq_true]
 refine⟨by simp[hl],fun i hi=> ?_⟩
 have hj:i < b.length:=by simpa using hi
 have hi2:i < a.length:=by omega
 simp[hi2,hj,h i hj hi2 hj]
theorem vE {α:Type} {f:α→α→Bool} {a b:List α} {i:Nat} (hd:∀j,j < i→(hi:j < a.length)→(hj:j < b.length)→f a[j] b[j]=true) {hi:i < a.length} {hj:i < b.length} (h:f a[i] b[i]=true):∀j,j < i+1→(hi:j < a.length)→(hj:j < b.length)→f a[j] b[j]=true:=fun j h2 hx hy=>by
 rcases Nat.lt_or_ge j i with hl|hl
 ·exact hd j hl hx hy
 ·obtain rfl:j=i:=by omega
  exact h
def d9 (a b:List Head):Bool:=cZ dX a b
def ee (a b:Proof):Bool:=d9 a.heads b.heads && lR a.qc b.qc
abbrev kR:Nat:=124
def ku:AF:=⟨2,5,[.tmp 4],(.seq (.ops [.i (.mov 4 (qb false))]) (.seq (.seq (.ops [qm 6 0,qn 7 6,qm 8 1,qn 9 8,qd 10 .neq 7 9]) (.cond (.s 10) (.seq (.ops [.i (.mov 4 (qb false))]) .ret) .skip)) (.seq (.seq (.ops [qm 11 0,qn 12 11, .i (.mov 13 (qi 0))]) (.block 0 (.loop [26,25,24,23,22,21,20,19,18,17,16,15,14,5] (.seq (.ops [qd 14 .lss 13 12]) (.seq (.cond (.s 14) .skip (.exit 0)) (.seq (.block 1 (.seq (.ops [qm 15 13,qm 5 15]) (.seq (.ops [qm 16 0,qm 17 5, .i (.iad 18 (.s 16) (.s 17) 10), .i (.ldh 19 (.s 18) 10 true),qm 20 1,qm 21 5, .i (.iad 22 (.s 20) (.s 21) 10), .i (.ldh 23 (.s 22) 10 true), .i (.call 25 32 false [(.s 19),(.s 23)]), .i (.not 25 (.s 24))]) (.cond (.s 25) (.seq (.ops [.i (.mov 4 (qb false))]) .ret) .skip)))) (.ops [.i (.bin 26 .add (.s 13) (qi 1)),qm 13 26]))))))) (.seq (.ops [.i (.mov 4 (qb true))]) .ret))))⟩
theorem ym:cd kR=some ku:=by kernel_rfl
theorem uS (a b:List Head) (ha:vR a) (hb:vR b):VC cd kR (aE [(false,[.sl (f6 a)]),(false,[.sl (f6 b)])]) (fun rs _=>rs=bl (d9 a b)):=by
 obtain⟨w1,w2⟩:=ha
 obtain⟨w3,w4⟩:=hb
 simp only[Sz]at w1 w3
 refine aa ym rfl ?_
 simp(disch:=omega) [ku,di,VY]
 refine ab (fun h1=> ?_) (fun h1=> ?_)
 case refine_2=>
  have hn:d9 a b=false:=je (fun e=>h1 (by omega))
  simp(disch:=omega) [h1,hn,VY]
 simp(disch:=omega) [h1,di,VY]
 refine bx (σ:=Nat) (f1:=_) (es0:=_) (by simp(disch:=omega) [VY];rfl) (by simp(disch:=omega) [VY];rfl) (fun i=> [(13, .val false [.int .i64 (i:Int)])]) (fun _=> []) (fun i g=>g+i=b.length∧∀j,j < i→(hi:j < a.length)→(hj:j < b.length)→dX a[j] b[j]=true) 0 b.length (by simp(disch:=omega) [h1,VY]) (by simp(disch:=omega) [VY]) ⟨by omega,fun j hj=>by omega⟩ ?_
 rintro i n g ⟨hg,hd⟩ P hP
 simp(disch:=omega) [h1,VY]
 refine ab (fun h2=> ?_) (fun h2=> ?_)
 ·have hi:i < a.length:=by omega
  have hj:i < b.length:=by omega
  simp(disch:=omega) [ib hi,ib hj,Head.c,VY]
  refine av (fU a[i] b[i] (w2 _ (List.getElem_mem hi)) (w4 _ (List.getElem_mem hj))) ?_ (ha:=by first|rfl|(simp[Head.c,VY] <;>repeat' constructor))
  simp(disch:=omega) [VY]
  refine aw (fun h3=> ?_) (fun h3=> ?_)
  ·simp(disch:=omega) [h3,VY]
   exact hP (i+1) (g - 1) _ _ (by omega) ⟨by omega,vE hd h3⟩ (by simp(disch:=omega) [VY]) (by simp(disch:=omega) [VY])
  ·simp(disch:=omega) [h3,show d9 a b=false from fW hi hj h3,VY]
 ·have he:d9 a b=true:=jd (by omega) (fun i h hi hj=>hd i (by omega) hi hj)
  simp(disch:=omega) [he,VY]
abbrev jU:Nat:=42
def kW:AF:=⟨2,5,[.tmp 4],(.seq (.ops [.i (.lbox 2 (.s 0)), .i (.lbox 3 (.s 1)), .i (.mov 4 (qb false))]) (.seq (.ops [qf 5 2 0,ql 6 2 5 1 false,qf 7 3 0,ql 8 3 7 1 false, .i (.call 10 124 false [(.s 6),(.s 8)]),qm 10 9, .g 10 true 12 (.fad 11 (.s 2) 1), .g 10 true 13 (.ldl 12 2 (.s 11) 5 true), .g 10 true 14 (.fad 13 (.s 3) 1), .g 10 true 15 (.ldl 14 3 (.s 13) 5 true), .g 10 true 16 (.call 16 29 false [(.s 12),(.s 14)]), .i (.pick 16 (.s 10) (.s 15) (qb false)),qm 4 16]) .ret))⟩
theorem xH:cd jU=some kW:=by kernel_rfl
theorem vL (a b:Proof) (ha:a.wf) (hb:b.wf):VC cd jU (aE [(true,a.c),(true,b.c)]) (fun rs _=>rs=bl (ee a b)):=by
 refine aa xH rfl ?_
 simp(disch:=omega) [kW,Proof.c,VY]
 refine av (uS a.heads b.heads ha.1 hb.1) ?_
 simp(disch:=omega) [VY]
 refine aw (fun h1=> ?_) (fun h1=> ?_) <;>simp(disch:=omega) [h1,ee,VY]
 refine av (iw a.qc b.qc ha.2 hb.2) ?_ (ha:=by first|rfl|(simp[Qc.c,VY] <;>repeat' constructor))
 simp(disch:=omega) [h1,VY]
abbrev kd:Nat:=303
def kN:AF:=⟨2,6,[.tmp 4],(.seq (.ops [.i (.lbox 2 (.s 0)), .i (.lbox 3 (.s 1)), .i (.mov 4 (qb false))]) (.seq (.seq (.ops [qf 6 2 0,ql 7 2 6 1 false,qn 8 7,qf 9 3 0,ql 10 3 9 1 false,qn 11 10,qd 12 .neq 8 11]) (.cond (.s 12) (.seq (.ops [.i (.mov 4 (qb false))]) .ret) .skip)) (.seq (.seq (.ops [qf 13 2 0,ql 14 2 13 1 false,qn 15 14, .i (.mov 16 (qi 0))]) (.block 0 (.loop [31,30,29,28,27,26,25,24,23,22,21,20,19,18,17,5] (.seq (.ops [qd 17 .lss 16 15]) (.seq (.cond (.s 17) .skip (.exit 0)) (.seq (.block 1 (.seq (.ops [qm 18 16,qm 5 18]) (.seq (.ops [qf 19 2 0,ql 20 2 19 1 false,qm 21 5, .i (.iad 22 (.s 20) (.s 21) 10), .i (.ldh 23 (.s 22) 10 true),qf 24 3 0,ql 25 3 24 1 false,qm 26 5, .i (.iad 27 (.s 25) (.s 26) 10), .i (.ldh 28 (.s 27) 10 true), .i (.call 30 300 false [(.s 23),(.s 28)]), .i (.not 30 (.s 29))]) (.cond (.s 30) (.seq (.ops [.i (.mov 4 (qb false))]) .ret) .skip)))) (.ops [.i (.bin 31 .add (.s 16) (qi 1)),qm 16 31]))))))) (.seq (.ops [qf 32 2 1,ql 33 2 32 5 true,qf 34 3 1,ql 35 3 34 5 true, .i (.call 37 299 false [(.s 33),(.s 35)]),qm 4 36]) .ret))))⟩
theorem xc:cd kd=some kN:=by kernel_rfl
theorem u3 (a b:Proof) (ha:a.wf) (hb:b.wf):VC cd kd (aE [(true,a.c),(true,b.c)]) (fun rs _=>rs=bl (ee a b)):=by
 obtain⟨⟨w1,w2⟩,wa⟩:=ha
 obtain⟨⟨w3,w4⟩,wb⟩:=hb
 simp only[Sz]at w1 w3
 refine aa xc rfl ?_
 simp(disch:=omega) [kN,Proof.c,di,VY]
 refine ab (fun h1=> ?_) (fun h1=> ?_)
 case refine_2=>
  have hn:d9 a.heads b.heads=false:=je (fun e=>h1 (by omega))
  simp(disch:=omega) [h1,hn,ee,VY]
 simp(disch:=omega) [h1,di,VY]
 refine bx (σ:=Nat) (f1:=_) (es0:=_) (by simp(disch:=omega) [VY];rfl) (by simp(disch:=omega) [VY];rfl) (fun i=> [(16, .val false [.int .i64 (i:Int)])]) (fun _=> []) (fun i g=>g+i=b.heads.length∧∀j,j < i→(hi:j < a.heads.length)→(hj:j < b.heads.length)→dX a.heads[j] b.heads[j]=true) 0 b.heads.length (by simp(disch:=omega) [h1,VY]) (by simp(disch:=omega) [VY]) ⟨by omega,fun j hj=>by omega⟩ ?_
 rintro i n g ⟨hg,hd⟩ P hP
 simp(disch:=omega) [h1,VY]
 refine ab (fun h2=> ?_) (fun h2=> ?_)
 ·have hi:i < a.heads.length:=by omega
  have hj:i < b.heads.length:=by omega
  simp(disch:=omega) [ib hi,ib hj,Head.c,VY]
  refine av (fZ a.heads[i] b.heads[i] (w2 _ (List.getElem_mem hi)) (w4 _ (List.getElem_mem hj))) ?_ (ha:=by first|rfl|(simp[Head.c,VY] <;>repeat' constructor))
  simp(disch:=omega) [VY]
  refine aw (fun h3=> ?_) (fun h3=> ?_)
  ·simp(disch:=omega) [h3,VY]
   exact hP (i+1) (g - 1) _ _ (by omega) ⟨by omega,vE hd h3⟩ (by simp(disch:=omega) [VY]) (by simp(disch:=omega) [VY])
  ·simp(disch:=omega) [h3,show d9 a.heads b.heads=false from fW hi hj h3,ee,VY]
 ·have he:d9 a.heads b.heads=true:=jd (by omega) (fun i h hi hj=>hd i (by omega) hi hj)
  simp(disch:=omega) [VY]
  refine av (iH a.qc b.qc wa wb) ?_ (ha:=by first|rfl|(simp[Qc.c,VY] <;>repeat' constructor))
  simp(disch:=omega) [he,ee,VY]
def cO (a b:Entry):Bool:=decide (a.who=b.who) && decide (a.high=b.high) && decide (a.tag=b.tag)
def eL (a b:Tc):Bool:=decide (a.view=b.view) && cZ cO a.entries b.entries
abbrev kH:Nat:=120
def kD:AF:=⟨2,5,[.tmp 4],(.seq (.ops [.i (.lbox 2 (.s 0)), .i (.lbox 3 (.s 1)), .i (.mov 4 (qb false))]) (.seq (.ops [qf 5 2 0,ql 6 2 5 1 false,qf 7 3 0,ql 8 3 7 1 false,qd 9 .eql 6 8,qm 10 9, .g 10 true 12 (.fad 11 (.s 2) 1), .g 10 true 13 (.ldl 12 2 (.s 11) 1 false), .g 10 true 14 (.fad 13 (.s 3) 1), .g 10 true 15 (.ldl 14 3 (.s 13) 1 false), .g 10 true 16 (.bin 15 .eql (.s 12) (.s 14)), .i (.pick 16 (.s 10) (.s 15) (qb false)),qm 17 16, .g 17 true 19 (.fad 18 (.s 2) 2), .g 17 true 20 (.ldl 19 2 (.s 18) 1 false), .g 17 true 21 (.fad 20 (.s 3) 2), .g 17 true 22 (.ldl 21 3 (.s 20) 1 false), .g 17 true 23 (.call 23 21 false [(.s 19),(.s 21)]), .i (.pick 23 (.s 17) (.s 22) (qb false)),qm 4 23]) .ret))⟩
theorem xP:cd kH=some kD:=by kernel_rfl
theorem wV (a b:Entry):VC cd kH (aE [(true,a.c),(true,b.c)]) (fun rs _=>rs=bl (cO a b)):=by
 refine aa xP rfl ?_
 simp(disch:=omega) [kD,Entry.c,VY]
 refine ab (fun h1=> ?_) (fun h1=> ?_) <;>simp(disch:=omega) [h1,cO,VY]
 refine ab (fun h2=> ?_) (fun h2=> ?_) <;>simp(disch:=omega) [h1,h2,VY]
 refine av (aN a.tag b.tag) ?_
 simp(disch:=omega) [h1,h2,VY]
abbrev sJ:Nat:=39
def tF:AF:=⟨2,6,[.tmp 4],(.seq (.ops [.i (.lbox 2 (.s 0)), .i (.lbox 3 (.s 1)), .i (.mov 4 (qb false))]) (.seq (.seq (.ops [qf 6 2 0,ql 7 2 6 1 false,qf 8 3 0,ql 9 3 8 1 false,qd 10 .neq 7 9,qm 11 10, .g 11 false 13 (.fad 12 (.s 2) 1), .g 11 false 14 (.ldl 13 2 (.s 12) 1 false), .g 11 false 15 (.len 14 false (.s 13)), .g 11 false 16 (.fad 15 (.s 3) 1), .g 11 false 17 (.ldl 16 3 (.s 15) 1 false), .g 11 false 18 (.len 17 false (.s 16)), .g 11 false 19 (.bin 18 .neq (.s 14) (.s 17)), .i (.pick 19 (.s 11) (qb true) (.s 18))]) (.cond (.s 19) (.seq (.ops [.i (.mov 4 (qb false))]) .ret) .skip)) (.seq (.seq (.ops [qf 20 2 1,ql 21 2 20 1 false,qn 22 21, .i (.mov 23 (qi 0))]) (.block 0 (.loop [38,37,36,35,34,33,32,31,30,29,28,27,26,25,24,5] (.seq (.ops [qd 24 .lss 23 22]) (.seq (.cond (.s 24) .skip (.exit 0)) (.seq (.block 1 (.seq (.ops [qm 25 23,qm 5 25]) (.seq (.ops [qf 26 2 1,ql 27 2 26 1 false,qm 28 5, .i (.iad 29 (.s 27) (.s 28) 3), .i (.ldh 30 (.s 29) 3 true),qf 31 3 1,ql 32 3 31 1 false,qm 33 5, .i (.iad 34 (.s 32) (.s 33) 3), .i (.ldh 35 (.s 34) 3 true), .i (.call 37 120 false [(.s 30),(.s 35)]), .i (.not 37 (.s 36))]) (.cond (.s 37) (.seq (.ops [.i (.mov 4 (qb false))]) .ret) .skip)))) (.ops [.i (.bin 38 .add (.s 23) (qi 1)),qm 23 38]))))))) (.seq (.ops [.i (.mov 4 (qb true))]) .ret))))⟩
theorem Dc:cd sJ=some tF:=by kernel_rfl
theorem Cv (a b:Tc) (ha:a.wf) (hb:b.wf):VC cd sJ (aE [(true,a.c),(true,b.c)]) (fun rs _=>rs=bl (eL a b)):=by
 have w1:=ha.2.1
 have w3:=hb.2.1
 simp only[Sz]at w1 w3
 refine aa Dc rfl ?_
 simp(disch:=omega) [tF,Tc.c,dG,VY]
 refine ab (fun h0=> ?_) (fun h0=> ?_)
 case refine_2=>simp(disch:=omega) [h0,eL,VY]
 simp(disch:=omega) [h0,dG,VY]
 refine ab (fun h1=> ?_) (fun h1=> ?_)
 case refine_2=>
  have hn:cZ cO a.entries b.entries=false:=je (fun e=>h1 (by omega))
  simp(disch:=omega) [h0,h1,hn,eL,VY]
 simp(disch:=omega) [h0,h1,dG,VY]
 refine bx (σ:=Nat) (f1:=_) (es0:=_) (by simp(disch:=omega) [VY];rfl) (by simp(disch:=omega) [VY];rfl) (fun i=> [(23, .val false [.int .i64 (i:Int)])]) (fun _=> []) (fun i g=>g+i=b.entries.length∧∀j,j < i→(hi:j < a.entries.length)→(hj:j < b.entries.length)→cO a.entries[j] b.entries[j]=true) 0 b.entries.length (by simp(disch:=omega) [h1,VY]) (by simp(disch:=omega) [VY]) ⟨by omega,fun j hj=>by omega⟩ ?_
 rintro i n g ⟨hg,hd⟩ P hP
 simp(disch:=omega) [h1,VY]
 refine ab (fun h2=> ?_) (fun h2=> ?_)
 ·have hi:i < a.entries.length:=by omega
  have hj:i < b.entries.length:=by omega
  simp(disch:=omega) [jl hi,jl hj,VY]
  refine av (wV a.entries[i] b.entries[i]) ?_ (ha:=by first|rfl|(simp[Entry.c,VY] <;>repeat' constructor))
  simp(disch:=omega) [VY]
  refine aw (fun h3=> ?_) (fun h3=> ?_)
  ·simp(disch:=omega) [h3,VY]
   exact hP (i+1) (g - 1) _ _ (by omega) ⟨by omega,vE hd h3⟩ (by simp(disch:=omega) [VY]) (by simp(disch:=omega) [VY])
  ·simp(disch:=omega) [h3,show cZ cO a.entries b.entries=false from fW hi hj h3,eL,h0,VY]
 ·have he:cZ cO a.entries b.entries=true:=jd (by omega) (fun i h hi hj=>hd i (by omega) hi hj)
  simp(disch:=omega) [he,h0,eL,VY]
abbrev tw:Nat:=302
def sP:AF:=⟨2,6,[.tmp 4],(.seq (.ops [.i (.lbox 2 (.s 0)), .i (.lbox 3 (.s 1)), .i (.mov 4 (qb false))]) (.seq (.seq (.ops [qf 8 2 0,ql 9 2 8 1 false,qf 10 3 0,ql 11 3 10 1 false,qd 12 .neq 9 11,qm 13 12, .g 13 false 15 (.fad 14 (.s 2) 1), .g 13 false 16 (.ldl 15 2 (.s 14) 1 false), .g 13 false 17 (.len 16 false (.s 15)), .g 13 false 18 (.fad 17 (.s 3) 1), .g 13 false 19 (.ldl 18 3 (.s 17) 1 false), .g 13 false 20 (.len 19 false (.s 18)), .g 13 false 21 (.bin 20 .neq (.s 16) (.s 19)), .i (.pick 21 (.s 13) (qb true) (.s 20))]) (.cond (.s 21) (.seq (.ops [.i (.mov 4 (qb false))]) .ret) .skip)) (.seq (.seq (.ops [qf 22 2 1,ql 23 2 22 1 false,qn 24 23, .i (.mov 25 (qi 0))]) (.block 0 (.loop [55,54,53,52,51,50,49,48,47,46,45,44,43,42,41,40,39,38,37,36,35,34,33,32,31,30,29,28,27,26,7,6,5] (.seq (.ops [qd 26 .lss 25 24]) (.seq (.cond (.s 26) .skip (.exit 0)) (.seq (.block 1 (.seq (.ops [qm 27 25, .i (.iad 28 (.s 23) (.s 25) 3), .i (.ldh 29 (.s 28) 3 true), .i (.lal 6 [.int .i64 0, .int .i64 0, .nils]),qm 5 27,qs 6 6 29 3]) (.seq (.ops [qf 30 3 1,ql 31 3 30 1 false,qm 32 5, .i (.iad 33 (.s 31) (.s 32) 3), .i (.ldh 34 (.s 33) 3 true), .i (.lal 7 [.int .i64 0, .int .i64 0, .nils]),qs 7 7 34 3]) (.seq (.ops [qf 35 6 0,ql 36 6 35 1 false,qf 37 7 0,ql 38 7 37 1 false,qd 39 .neq 36 38,qm 40 39, .g 40 false 42 (.fad 41 (.s 6) 1), .g 40 false 43 (.ldl 42 6 (.s 41) 1 false), .g 40 false 44 (.fad 43 (.s 7) 1), .g 40 false 45 (.ldl 44 7 (.s 43) 1 false), .g 40 false 46 (.bin 45 .neq (.s 42) (.s 44)), .i (.pick 46 (.s 40) (qb true) (.s 45)),qm 47 46, .g 47 false 49 (.fad 48 (.s 6) 2), .g 47 false 50 (.ldl 49 6 (.s 48) 1 false), .g 47 false 51 (.fad 50 (.s 7) 2), .g 47 false 52 (.ldl 51 7 (.s 50) 1 false), .g 47 false 53 (.call 53 329 false [(.s 49),(.s 51)]), .g 47 false 54 (.not 53 (.s 52)), .i (.pick 54 (.s 47) (qb true) (.s 53))]) (.cond (.s 54) (.seq (.ops [.i (.mov 4 (qb false))]) .ret) .skip))))) (.ops [.i (.bin 55 .add (.s 25) (qi 1)),qm 25 55]))))))) (.seq (.ops [.i (.mov 4 (qb true))]) .ret))))⟩
theorem Dx:cd tw=some sP:=by kernel_rfl
theorem Cm (a b:Tc) (ha:a.wf) (hb:b.wf):VC cd tw (aE [(true,a.c),(true,b.c)]) (fun rs _=>rs=bl (eL a b)):=by
 have w1:=ha.2.1
 have w3:=hb.2.1
 simp only[Sz]at w1 w3
 refine aa Dx rfl ?_
 simp(disch:=omega) [sP,Tc.c,dG,VY]
 refine ab (fun h0=> ?_) (fun h0=> ?_)
 case refine_2=>simp(disch:=omega) [h0,eL,VY]
 simp(disch:=omega) [h0,dG,VY]
 refine ab (fun h1=> ?_) (fun h1=> ?_)
 case refine_2=>
  have hn:cZ cO a.entries b.entries=false:=je (fun e=>h1 (by omega))
  simp(disch:=omega) [h0,h1,hn,eL,VY]
 simp(disch:=omega) [h0,h1,dG,VY]
 refine bx (σ:=Nat) (f1:=_) (es0:=_) (by simp(disch:=omega) [VY];rfl) (by simp(disch:=omega) [VY];rfl) (fun i=> [(25, .val false [.int .i64 (i:Int)])]) (fun _=> []) (fun i g=>g+i=b.entries.length∧∀j,j < i→(hi:j < a.entries.length)→(hj:j < b.entries.length)→cO a.entries[j] b.entries[j]=true) 0 b.entries.length (by simp(disch:=omega) [h1,VY]) (by simp(disch:=omega) [VY]) ⟨by omega,fun j hj=>by omega⟩ ?_
 rintro i n g ⟨hg,hd⟩ P hP
 simp(disch:=omega) [h1,VY]
 refine ab (fun h2=> ?_) (fun h2=> ?_)
 ·have hi:i < a.entries.length:=by omega
  have hj:i < b.entries.length:=by omega
  simp(disch:=omega) [jl hi,jl hj,VY]
  refine ab (fun h3=> ?_) (fun h3=> ?_)
  case refine_2=>
   have hn:cZ cO a.entries b.entries=false:=fW hi hj (by simp[cO,h3])
   simp(disch:=omega) [h3,hn,eL,h0,VY]
  simp(disch:=omega) [h3,VY]
  refine ab (fun h4=> ?_) (fun h4=> ?_)
  case refine_2=>
   have hn:cZ cO a.entries b.entries=false:=fW hi hj (by simp[cO,h4])
   simp(disch:=omega) [h3,h4,hn,eL,h0,VY]
  simp(disch:=omega) [h3,h4,VY]
  refine av (aP a.entries[i].tag b.entries[i].tag) ?_
  simp(disch:=omega) [h3,h4,VY]
  refine ab (fun h5=> ?_) (fun h5=> ?_)
  ·simp(disch:=omega) [h3,h4,h5,VY]
   exact hP (i+1) (g - 1) _ _ (by omega) ⟨by omega,vE hd (hi:=hi) (hj:=hj) (by simp[cO,h3,h4,h5])⟩ (by simp(disch:=omega) [VY]) (by simp(disch:=omega) [VY])
  ·have hn:cZ cO a.entries b.entries=false:=fW hi hj (by simp[cO,h5])
   simp(disch:=omega) [h3,h4,h5,hn,eL,h0,VY]
 ·have he:cZ cO a.entries b.entries=true:=jd (by omega) (fun i h hi hj=>hd i (by omega) hi hj)
  simp(disch:=omega) [he,h0,eL,VY]
end Go.Eng.F
namespace Go.Eng.F
def kx (x:Bytes):Bytes:=bg x.length++x
abbrev qC:Nat:=312
def qA:AF:=⟨2,5,[.tmp 4],(.seq (.ops [.i (.mov 4 (.c (.val false [.nils])))]) (.seq (.ops [qm 8 0,qm 9 1,qn 10 9, .i (.call 12 338 false [(.s 8),(.s 10)]),qm 7 11, .i (.ext 12 (.s 7) 0), .i (.ext 13 (.s 7) 1),qm 5 12,qm 6 13]) (.seq (.ops [qm 14 5,qm 15 1, .i (.app 16 5 1 1 (.s 14) (.s 15)),qm 4 16]) .ret)))⟩
theorem BB:cd qC=some qA:=by kernel_rfl
theorem mS (b x:Bytes) (hb:b.length≤900000000) (hx:x.length≤100000000):VC cd qC (aE [(false,[.sl (bytes b)]),(false,[.sl (bytes x)])]) (fun rs _=>rs= [(false,[.o true (some (5,1)) (bytes (b++kx x))])]):=by
 have h1:=dP (n:=x.length) (by omega)
 refine aa BB rfl ?_
 simp(disch:=omega) [qA,ae,VY]
 refine av (tY b x.length (by omega) (by omega)) ?_
 simp(disch:=omega) [ae,bE,VY]
 simp(disch:=omega) [kx,VY]
def zl (l:ah) (v:bu):Bool:=l.ok && isNum v.view && isNum v.height && hash v.block && hash v.tag && cf v.who 0 (l.n - 1)
def OQ (v:bu):Bytes:=bg v.view.toNat++(bg v.height.toNat++(v.block++(bg v.who.toNat++v.tag)))
structure N9 (v:bu):Prop where
 view:isNum v.view=true
 height:isNum v.height=true
 block:v.block.length=32
 who:isNum v.who=true
 tag:v.tag.length=32
theorem Gj {l:ah} {v:bu} (h:zl l v=true):N9 v:=by
 simp only[zl,Bool.and_eq_true]at h
 have h1:=vf h.1.1.1.1.1
 have h2:=cX h.2
 exact⟨h.1.1.1.1.2,h.1.1.1.2,gD h.1.1.2,by simp[isNum,cf];omega,gD h.1.2⟩
theorem M7 {v:bu} (h:N9 v):(OQ v).length≤100:=by
 have h1:=aT h.view
 have h2:=aT h.height
 have h3:=aT h.who
 have h4:=h.block
 have h5:=h.tag
 simp only[OQ,List.length_append]
 omega
abbrev sG:Nat:=307
def sW:AF:=⟨2,6,[.tmp 4],(.seq (.ops [.i (.lbox 2 (.s 0)), .i (.lbox 3 (.s 1)), .i (.mov 4 (qb false))]) (.seq (.ops [ql 5 2 2 5 true,qk 7 210 5,qm 7 6, .g 7 true 9 (.fad 8 (.s 3) 0), .g 7 true 10 (.ldl 9 3 (.s 8) 1 false), .g 7 true 11 (.call 11 211 false [(.s 9)]), .i (.pick 11 (.s 7) (.s 10) (qb false)),qm 12 11, .g 12 true 14 (.fad 13 (.s 3) 1), .g 12 true 15 (.ldl 14 3 (.s 13) 1 false), .g 12 true 16 (.call 16 211 false [(.s 14)]), .i (.pick 16 (.s 12) (.s 15) (qb false)),qm 17 16, .g 17 true 19 (.fad 18 (.s 3) 2), .g 17 true 20 (.ldl 19 3 (.s 18) 1 false), .g 17 true 21 (.call 21 337 false [(.s 19)]), .i (.pick 21 (.s 17) (.s 20) (qb false)),qm 22 21, .g 22 true 24 (.fad 23 (.s 3) 4), .g 22 true 25 (.ldl 24 3 (.s 23) 1 false), .g 22 true 26 (.call 26 337 false [(.s 24)]), .i (.pick 26 (.s 22) (.s 25) (qb false)),qm 27 26, .g 27 true 29 (.fad 28 (.s 3) 3), .g 27 true 30 (.ldl 29 3 (.s 28) 1 false), .g 27 true 31 (.fad 30 (.s 2) 0), .g 27 true 32 (.ldl 31 2 (.s 30) 1 false), .g 27 true 33 (.bin 32 .sub (.s 31) (qi 1)), .g 27 true 34 (.call 34 221 false [(.s 29),(qi 0),(.s 32)]), .i (.pick 34 (.s 27) (.s 33) (qb false)),qm 4 34]) .ret))⟩
theorem Da:cd sG=some sW:=by kernel_rfl
theorem AQ (l:ah) (v:bu):VC cd sG (aE [(true,l.c),(true,v.c)]) (fun rs _=>rs=bl (zl l v)):=by
 refine aa Da rfl ?_
 simp(disch:=omega) [sW,ah.c,bu.c,VY]
 refine av (ck l) ?_ (ha:=by first|rfl|(simp[ah.c,VY] <;>repeat' constructor))
 simp(disch:=omega) [VY]
 refine aw (fun h1=> ?_) (fun h1=> ?_) <;>simp(disch:=omega) [h1,zl,VY]
 have hn:=vf h1
 refine av (fb v.view) ?_
 simp(disch:=omega) [h1,VY]
 refine aw (fun h2=> ?_) (fun h2=> ?_) <;>simp(disch:=omega) [h1,h2,VY]
 refine av (fb v.height) ?_
 simp(disch:=omega) [h1,h2,VY]
 refine aw (fun h3=> ?_) (fun h3=> ?_) <;>simp(disch:=omega) [h1,h2,h3,VY]
 refine av (eV v.block) ?_
 simp(disch:=omega) [h1,h2,h3,VY]
 refine aw (fun h4=> ?_) (fun h4=> ?_) <;>simp(disch:=omega) [h1,h2,h3,h4,VY]
 refine av (eV v.tag) ?_
 simp(disch:=omega) [h1,h2,h3,h4,VY]
 refine aw (fun h5=> ?_) (fun h5=> ?_) <;>simp(disch:=omega) [h1,h2,h3,h4,h5,VY]
 refine av (bS v.who 0 (l.n - 1)) ?_
 simp(disch:=omega) [h1,h2,h3,h4,h5,VY]
abbrev rh:Nat:=257
def oO:AF:=⟨3,5,[.tmp 6, .tmp 7],(.seq (.ops [.i (.lbox 3 (.s 0)), .i (.lbox 5 (.s 2)), .i (.mov 6 (.c (.val false [.nils]))), .i (.mov 7 (qb false))]) (.seq (.seq (.ops [ql 9 3 3 5 true,ql 10 5 5 5 true, .i (.call 12 307 false [(.s 9),(.s 10)]), .i (.not 12 (.s 11))]) (.cond (.s 12) (.seq (.ops [.i (.mov 6 (.c (.val false [.nils]))), .i (.mov 7 (qb false))]) .ret) .skip)) (.seq (.ops [qm 13 1,qf 14 5 0,ql 15 5 14 1 false, .i (.call 17 308 false [(.s 13),(.s 15)]),qf 17 5 1,ql 18 5 17 1 false, .i (.call 20 308 false [(.s 16),(.s 18)]),qf 20 5 2,ql 21 5 20 1 false, .i (.app 22 5 1 1 (.s 19) (.s 21)),qm 8 22]) (.seq (.ops [qm 23 8,qf 24 5 3,ql 25 5 24 1 false, .i (.call 27 308 false [(.s 23),(.s 25)]),qf 27 5 4,ql 28 5 27 1 false, .i (.app 29 5 1 1 (.s 26) (.s 28)),qm 6 29, .i (.mov 7 (qb true))]) .ret))))⟩
theorem AD:cd rh=some oO:=by kernel_rfl
theorem ny (l:ah) (b:Bytes) (v:bu) (hb:b.length≤900000000):VC cd rh (aE [(true,l.c),(false,[.sl (bytes b)]),(true,v.c)]) (fun rs _=>rs=dw (zl l v) (b++OQ v)):=by
 refine aa AD rfl ?_
 simp(disch:=omega) [oO,bu.c,ah.c,VY]
 refine av (AQ l v) ?_ (ha:=by first|rfl|(simp[bu.c,ah.c,VY] <;>repeat' constructor))
 simp(disch:=omega) [VY]
 refine aw (fun h0=> ?_) (fun h0=> ?_)
 case refine_2=>simp(disch:=omega) [h0,dw,VY]
 have hs:=Gj h0
 have h1:=aT hs.view
 have h2:=aT hs.height
 have h3:=aT hs.who
 have h4:=hs.block
 have h5:=hs.tag
 simp(disch:=omega) [h0,VY]
 refine av (bT b v.view hs.view (by omega)) ?_
 simp(disch:=omega) [VY]
 refine av (bT (b++bg v.view.toNat) v.height hs.height (by simp only[List.length_append];omega)) ?_
 simp(disch:=omega) [bE,ae,VY]
 refine av (bT (b++(bg v.view.toNat++(bg v.height.toNat++v.block))) v.who hs.who (by simp only[List.length_append];omega)) ?_
 simp(disch:=omega) [bE,ae,dw,h0,OQ,VY]
def bj (i n:Nat):Nat:=if h:n < 2 then 0 else
 have:=eQ (n:=n) (by omega)
 if i < splitAt n then 1+bj i (splitAt n)else 1+bj (i - splitAt n) (n - splitAt n)
termination_by n
theorem uQ {i n:Nat} (h:n < 2):bj i n=0:=by rw[bj,dif_pos h]
theorem wY {i n:Nat} (h:2≤n) (hi:i < splitAt n):bj i n=1+bj i (splitAt n):=by rw[bj,dif_neg (by omega),if_pos hi]
theorem xz {i n:Nat} (h:2≤n) (hi:¬i < splitAt n):bj i n=1+bj (i - splitAt n) (n - splitAt n):=by rw[bj,dif_neg (by omega),if_neg hi]
theorem cI:∀(n i:Nat),bj i n≤n:=by
 intro n
 induction n using Nat.strongRecOn with
 |ind n ih=>
 intro i
 rcases Nat.lt_or_ge n 2 with h|h
 ·rw[uQ h];omega
 ·have h1:=eQ h
  by_cases hi:i < splitAt n
  ·rw[wY h hi];have:=ih (splitAt n) h1.2 i;omega
  ·rw[xz h hi];have:=ih (n - splitAt n) (by omega) (i - splitAt n);omega
abbrev ot:Nat:=180
def oQ:AF:=⟨2,6,[.tmp 4],(.seq (.ops [.i (.mov 4 (qi 0))]) (.seq (.seq (.ops [qm 6 1, .i (.bin 7 .lss (.s 6) (qi 2)),qm 8 7, .g 8 false 10 (.mov 9 (.s 1)), .g 8 false 11 (.bin 10 .gtr (.s 9) (qi 1048576)), .i (.pick 11 (.s 8) (qb true) (.s 10)),qm 12 11, .g 12 false 14 (.mov 13 (.s 0)), .g 12 false 15 (.mov 14 (.s 1)), .g 12 false 16 (.bin 15 .sub (.s 14) (qi 1)), .g 12 false 17 (.call 17 158 false [(.s 13),(qi 0),(.s 15)]), .g 12 false 18 (.not 17 (.s 16)), .i (.pick 18 (.s 12) (qb true) (.s 17))]) (.cond (.s 18) (.seq (.ops [.i (.mov 4 (qi 0))]) .ret) .skip)) (.seq (.ops [qm 19 1,qk 21 253 19,qm 5 20]) (.seq (.seq (.ops [qm 21 0,qm 22 5,qd 23 .lss 21 22]) (.cond (.s 23) (.seq (.ops [qm 24 0,qm 25 5, .i (.call 27 180 false [(.s 24),(.s 25)]), .i (.bin 27 .add (qi 1) (.s 26)),qm 4 27]) .ret) .skip)) (.seq (.ops [qm 28 0,qm 29 5,qd 30 .sub 28 29,qm 31 1,qm 32 5,qd 33 .sub 31 32, .i (.call 35 180 false [(.s 30),(.s 33)]), .i (.bin 35 .add (qi 1) (.s 34)),qm 4 35]) .ret)))))⟩
theorem Bp:cd ot=some oQ:=by kernel_rfl
theorem zW:∀(n i:Nat),i < n→n≤1048576→VC cd ot (aE [(false,[.int .i64 (i:Int)]),(false,[.int .i64 (n:Int)])]) (fun rs _=>rs=it (bj i n)):=by
 intro n
 induction n using Nat.strongRecOn with
 |ind n ih=>
 intro i hi hn
 have hp:=cI n i
 have he:cf (i:Int) 0 ((n:Int) - 1)=true:=by simp only[cf,decide_eq_true_eq];omega
 refine aa Bp rfl ?_
 simp(disch:=omega) [oQ,VY]
 refine ab (fun h1=> ?_) (fun h1=> ?_)
 ·simp(disch:=omega) [h1,uQ (i:=i) (n:=n) (by omega),VY]
 have h2:2≤n:=by omega
 obtain⟨k1,k2⟩:=eQ h2
 simp(disch:=omega) [h1,VY]
 refine ab (fun h3=> ?_) (fun h3=> ?_)
 ·omega
 simp(disch:=omega) [h1,h3,VY]
 refine av (bq (i:Int) 0 ((n:Int) - 1)) ?_
 simp(disch:=omega) [h1,h3,he,VY]
 refine av (ng n (by omega)) ?_
 simp(disch:=omega) [VY]
 refine ab (fun h4=> ?_) (fun h4=> ?_)
 ·have h5:i < splitAt n:=by omega
  have h6:=wY h2 h5
  simp(disch:=omega) [h4,VY]
  refine av (ih (splitAt n) k2 i h5 (by omega)) ?_
  have h7:=cI (splitAt n) i
  simp(disch:=omega) [h6,VY]
 ·have h5:¬i < splitAt n:=by omega
  have h6:=xz h2 h5
  have t1:(i:Int) - (splitAt n:Int)=((i - splitAt n:Nat):Int):=by omega
  have t2:(n:Int) - (splitAt n:Int)=((n - splitAt n:Nat):Int):=by omega
  simp(disch:=omega) [h4,t1,t2,VY]
  refine av (ih (n - splitAt n) (by omega) (i - splitAt n) (by omega) (by omega)) ?_
  have h7:=cI (n - splitAt n) (i - splitAt n)
  simp(disch:=omega) [h6,VY]
abbrev vF:Nat:=322
def wR:AF:=⟨2,4,[.tmp 4],(.seq (.ops [.i (.mov 4 (qb false))]) (.seq (.ops [qm 5 1, .i (.call 7 221 false [(.s 5),(qi 1),(qi 1048576)]),qm 7 6, .g 7 true 9 (.mov 8 (.s 0)), .g 7 true 10 (.mov 9 (.s 1)), .g 7 true 11 (.bin 10 .sub (.s 9) (qi 1)), .g 7 true 12 (.call 12 221 false [(.s 8),(qi 0),(.s 10)]), .i (.pick 12 (.s 7) (.s 11) (qb false)),qm 4 12]) .ret))⟩
theorem FX:cd vF=some wR:=by kernel_rfl
theorem MY (i n:Nat) (hn:n≤1048576):VC cd vF (aE [(false,[.int .i64 (i:Int)]),(false,[.int .i64 (n:Int)])]) (fun rs _=>rs=bl (cf (n:Int) 1 1048576 && cf (i:Int) 0 ((n:Int) - 1))):=by
 refine aa FX rfl ?_
 simp(disch:=omega) [wR,VY]
 refine av (bS (n:Int) 1 1048576) ?_
 simp(disch:=omega) [VY]
 refine aw (fun h1=> ?_) (fun h1=> ?_) <;>simp(disch:=omega) [h1,VY]
 refine av (bS (i:Int) 0 ((n:Int) - 1)) ?_
 simp(disch:=omega) [h1,VY]
abbrev qw:Nat:=276
def rK:AF:=⟨2,5,[.tmp 4],(.seq (.ops [.i (.mov 4 (qi 0))]) (.seq (.seq (.ops [qm 6 0,qm 7 1, .i (.call 9 322 false [(.s 6),(.s 7)]), .i (.not 9 (.s 8)),qm 10 9, .g 10 false 12 (.mov 11 (.s 1)), .g 10 false 13 (.bin 12 .eql (.s 11) (qi 1)), .i (.pick 13 (.s 10) (qb true) (.s 12))]) (.cond (.s 13) (.seq (.ops [.i (.mov 4 (qi 0))]) .ret) .skip)) (.seq (.ops [qm 14 1,qk 16 323 14,qm 5 15]) (.seq (.seq (.ops [qm 16 0,qm 17 5,qd 18 .lss 16 17]) (.cond (.s 18) (.seq (.ops [qm 19 0,qm 20 5, .i (.call 22 276 false [(.s 19),(.s 20)]), .i (.bin 22 .add (qi 1) (.s 21)),qm 4 22]) .ret) .skip)) (.seq (.ops [qm 23 0,qm 24 5,qd 25 .sub 23 24,qm 26 1,qm 27 5,qd 28 .sub 26 27, .i (.call 30 276 false [(.s 25),(.s 28)]), .i (.bin 30 .add (qi 1) (.s 29)),qm 4 30]) .ret)))))⟩
theorem AP:cd qw=some rK:=by kernel_rfl
theorem dO:∀(n i:Nat),i < n→n≤1048576→VC cd qw (aE [(false,[.int .i64 (i:Int)]),(false,[.int .i64 (n:Int)])]) (fun rs _=>rs=it (bj i n)):=by
 intro n
 induction n using Nat.strongRecOn with
 |ind n ih=>
 intro i hi hn
 have hp:=cI n i
 have he:cf (i:Int) 0 ((n:Int) - 1)=true:=by simp only[cf,decide_eq_true_eq];omega
 have he2:cf (n:Int) 1 1048576=true:=by simp only[cf,decide_eq_true_eq];omega
 refine aa AP rfl ?_
 simp(disch:=omega) [rK,VY]
 refine av (MY i n hn) ?_
 simp(disch:=omega) [he,he2,VY]
 refine ab (fun h1=> ?_) (fun h1=> ?_)
 ·simp(disch:=omega) [h1,uQ (i:=i) (n:=n) (by omega),VY]
 have h2:2≤n:=by omega
 obtain⟨k1,k2⟩:=eQ h2
 simp(disch:=omega) [h1,VY]
 refine av (nq n (by omega)) ?_
 simp(disch:=omega) [VY]
 refine ab (fun h4=> ?_) (fun h4=> ?_)
 ·have h5:i < splitAt n:=by omega
  have h6:=wY h2 h5
  simp(disch:=omega) [h4,VY]
  refine av (ih (splitAt n) k2 i h5 (by omega)) ?_
  have h7:=cI (splitAt n) i
  simp(disch:=omega) [h6,VY]
 ·have h5:¬i < splitAt n:=by omega
  have h6:=xz h2 h5
  have t1:(i:Int) - (splitAt n:Int)=((i - splitAt n:Nat):Int):=by omega
  have t2:(n:Int) - (splitAt n:Int)=((n - splitAt n:Nat):Int):=by omega
  simp(disch:=omega) [h4,t1,t2,VY]
  refine av (ih (n - splitAt n) (by omega) (i - splitAt n) (by omega) (by omega)) ?_
  have h7:=cI (n - splitAt n) (i - splitAt n)
  simp(disch:=omega) [h6,VY]
theorem JC {l:ah} (h:l.ok=true):0≤l.tx∧l.tx≤40∧l.txs≤8:=by
 simp only[ah.ok,Bool.and_eq_true]at h
 have h1:=fA h.1.1.1.2
 have h2:=fA h.1.1.2
 omega
def eO (l:ah) (x:bo):Bool:=l.ok && isNum x.height && cf x.n 1 l.txs && cf x.idx 0 (x.n - 1) && decide ((x.tx.length:Int)≤l.tx) && decide (x.path.length=bj x.idx.toNat x.n.toNat) && hashes x.path
def yz (x:bo):Bytes:=bg x.height.toNat++(bg x.n.toNat++(bg x.idx.toNat++(kx x.tx++x.path.flatten)))
def dS (l:ah) (t:Tc) (i:Nat):Bool:=match t.entries[i]? with
 |some e=>cf e.who 0 (l.n - 1) && cf e.high 0 (t.view - 1) && hash e.tag && (decide (i=0)||match t.entries[i - 1]? with|some d=>decide (d.who < e.who)|none=>false)
 |none=>false
def jC (l:ah) (t:Tc):Bool:=l.ok && isNum t.view && decide ((t.entries.length:Int)≤l.n) && (List.range t.entries.length).all (dS l t)
def KH (e:Entry):Bytes:=bg e.who.toNat++(bg e.high.toNat++e.tag)
def O6 (t:Tc):Bytes:=bg t.view.toNat++(bg t.entries.length++(t.entries.map KH).flatten)
def oT (x:Block):Bytes:=ep x.head++(bg x.txs.length++(x.txs.map kx).flatten)
def o7 (p:Proof):Bytes:=bg p.heads.length++((p.heads.map ep).flatten++K4 p.qc)
abbrev tp:Nat:=315
def uj:AF:=⟨2,6,[.tmp 4],(.seq (.ops [.i (.lbox 2 (.s 0)), .i (.lbox 3 (.s 1)), .i (.mov 4 (qb false))]) (.seq (.ops [ql 5 2 2 5 true,qk 7 210 5,qm 7 6, .g 7 true 9 (.fad 8 (.s 3) 0), .g 7 true 10 (.ldl 9 3 (.s 8) 1 false), .g 7 true 11 (.call 11 211 false [(.s 9)]), .i (.pick 11 (.s 7) (.s 10) (qb false)),qm 12 11, .g 12 true 14 (.fad 13 (.s 3) 1), .g 12 true 15 (.ldl 14 3 (.s 13) 1 false), .g 12 true 16 (.fad 15 (.s 2) 2), .g 12 true 17 (.ldl 16 2 (.s 15) 1 false), .g 12 true 18 (.call 18 221 false [(.s 14),(qi 1),(.s 16)]), .i (.pick 18 (.s 12) (.s 17) (qb false)),qm 19 18, .g 19 true 21 (.fad 20 (.s 3) 2), .g 19 true 22 (.ldl 21 3 (.s 20) 1 false), .g 19 true 23 (.fad 22 (.s 3) 1), .g 19 true 24 (.ldl 23 3 (.s 22) 1 false), .g 19 true 25 (.bin 24 .sub (.s 23) (qi 1)), .g 19 true 26 (.call 26 221 false [(.s 21),(qi 0),(.s 24)]), .i (.pick 26 (.s 19) (.s 25) (qb false)),qm 27 26, .g 27 true 29 (.fad 28 (.s 3) 3), .g 27 true 30 (.ldl 29 3 (.s 28) 1 false), .g 27 true 31 (.len 30 false (.s 29)), .g 27 true 32 (.fad 31 (.s 2) 1), .g 27 true 33 (.ldl 32 2 (.s 31) 1 false), .g 27 true 34 (.bin 33 .leq (.s 30) (.s 32)), .i (.pick 34 (.s 27) (.s 33) (qb false)),qm 35 34, .g 35 true 37 (.fad 36 (.s 3) 4), .g 35 true 38 (.ldl 37 3 (.s 36) 1 false), .g 35 true 39 (.len 38 false (.s 37)), .g 35 true 40 (.fad 39 (.s 3) 2), .g 35 true 41 (.ldl 40 3 (.s 39) 1 false), .g 35 true 42 (.fad 41 (.s 3) 1), .g 35 true 43 (.ldl 42 3 (.s 41) 1 false), .g 35 true 44 (.call 44 276 false [(.s 40),(.s 42)]), .g 35 true 45 (.bin 44 .eql (.s 38) (.s 43)), .i (.pick 45 (.s 35) (.s 44) (qb false)),qm 46 45, .g 46 true 48 (.fad 47 (.s 3) 4), .g 46 true 49 (.ldl 48 3 (.s 47) 1 false), .g 46 true 50 (.call 50 340 false [(.s 48)]), .i (.pick 50 (.s 46) (.s 49) (qb false)),qm 4 50]) .ret))⟩
theorem CU:cd tp=some uj:=by kernel_rfl
theorem B7 (l:ah) (x:bo) (hw:x.wc):VC cd tp (aE [(true,l.c),(true,x.c)]) (fun rs _=>rs=bl (eO l x)):=by
 obtain⟨w1,w2,w3,w4,w5,w6⟩:=hw
 simp only[Sz]at w4 w5
 refine aa CU rfl ?_
 simp(disch:=omega) [uj,ah.c,bo.c,VY]
 refine av (ck l) ?_ (ha:=by first|rfl|(simp[ah.c,VY] <;>repeat' constructor))
 simp(disch:=omega) [VY]
 refine aw (fun h1=> ?_) (fun h1=> ?_) <;>simp(disch:=omega) [h1,eO,VY]
 have hn:=vf h1
 have ht:=JC h1
 refine av (fb x.height) ?_
 simp(disch:=omega) [h1,VY]
 refine aw (fun h2=> ?_) (fun h2=> ?_) <;>simp(disch:=omega) [h1,h2,VY]
 refine av (bS x.n 1 l.txs) ?_
 simp(disch:=omega) [h1,h2,VY]
 refine aw (fun h3=> ?_) (fun h3=> ?_)
 case refine_2=>simp(disch:=omega) [h1,h2,h3,VY]
 have h3':=fA h3
 simp(disch:=omega) [h1,h2,h3,VY]
 refine av (bS x.idx 0 (x.n - 1)) ?_
 simp(disch:=omega) [h1,h2,h3,VY]
 refine aw (fun h4=> ?_) (fun h4=> ?_) <;>simp(disch:=omega) [h1,h2,h3,h4,ae,VY]
 have h4':=fA h4
 refine ab (fun h5=> ?_) (fun h5=> ?_) <;>simp(disch:=omega) [h1,h2,h3,h4,h5,aC,VY]
 obtain⟨N,hN⟩:∃N:Nat,x.n=(N:Int):=⟨x.n.toNat,by omega⟩
 obtain⟨I,hI⟩:∃I:Nat,x.idx=(I:Int):=⟨x.idx.toNat,by omega⟩
 have hp:=cI N I
 refine av (dO N I (by omega) (by omega)) ?_ (ha:=by first|rfl|(simp[hN,hI,VY] <;>repeat' constructor))
 simp(disch:=omega) [h1,h2,h3,h4,h5,aC,hN,hI,VY]
 refine ab (fun h6=> ?_) (fun h6=> ?_)
 ·have h7:x.path.length=bj I N:=by omega
  simp(disch:=omega) [h1,h2,h3,h4,h5,h6,h7,aC,hN,hI,VY]
  refine av (ve x.path (by omega)) ?_
  simp(disch:=omega) [h1,h2,h3,h4,h5,h6,h7,hN,hI,VY]
 ·have h7:¬x.path.length=bj I N:=by omega
  simp(disch:=omega) [h1,h2,h3,h4,h5,h6,h7,aC,hN,hI,VY]
def gR (l:List Bytes):Bytes:=(l.map kx).flatten
theorem HV {l:List Bytes} {i:Nat} (h:i < l.length):gR (l.take (i+1))=gR (l.take i)++kx l[i]:=by
 rw[List.take_succ_eq_append_getElem h]
 simp only[gR,List.map_append,List.map_cons,List.map_nil,List.flatten_append,List.flatten_cons,List.flatten_nil,List.append_nil]
theorem xd {x:Bytes} (h:x.length≤1000):(kx x).length≤1009:=by
 have:=dP (n:=x.length) (by omega)
 simp only[kx,List.length_append]
 omega
theorem uk:∀ {l:List Bytes},(∀x∈l,x.length≤1000)→(gR l).length≤1009 * l.length
 | [],_=>by simp[gR]
 |a::l,h=>by
  have h1:=uk (l:=l) fun x hx=>h x (by simp[hx])
  have h2:=xd (h a (by simp))
  simp only[gR,List.map_cons,List.flatten_cons,List.length_append,List.length_cons]at h1⊢
  omega
theorem lK {l:ah} {x:Block} (h:bF l x=true):bG l x.head=true:=by
 simp only[bF,Bool.and_eq_true]at h
 exact h.1.1.1
theorem yQ {l:ah} {x:Block} (h:bF l x=true):∀t∈x.txs,t.length≤1000:=fun t ht=>by
 have h0:=v9 (xQ (lK h))
 simp only[ah.ok,Bool.and_eq_true]at h0
 have h1:=cX h0.1.1.1.2
 simp only[bF,Bool.and_eq_true,vK,List.all_eq_true,decide_eq_true_eq]at h
 have:=h.1.2 t ht
 omega
theorem vg {l:ah} {t:Tc} {i:Nat} (hi:i < t.entries.length) (h:dS l t i=false):jC l t=false:=by
 unfold jC
 rw[Bool.and_eq_false_iff]
 right
 rw[List.all_eq_false]
 exact⟨i,by simp[hi],by simp[h]⟩
theorem Ma {l:ah} {t:Tc} (h:∀i,i < t.entries.length→dS l t i=true):jC l t=(l.ok && isNum t.view && decide ((t.entries.length:Int)≤l.n)):=by
 unfold jC
 have:(List.range t.entries.length).all (dS l t)=true:=by
  rw[List.all_eq_true]
  intro i hi
  exact h i (by simpa using hi)
 rw[this,Bool.and_true]
theorem G7 {l:ah} {t:Tc} {i:Nat} (hd:∀j,j < i→dS l t j=true) (h:dS l t i=true):∀j,j < i+1→dS l t j=true:=fun j hj=>by
 rcases Nat.lt_or_ge j i with hl|hl
 ·exact hd j hl
 ·obtain rfl:j=i:=by omega
  exact h
abbrev yo:Nat:=313
def yS:AF:=⟨2,7,[.tmp 4],(.seq (.ops [.i (.lbox 2 (.s 0)), .i (.lbox 3 (.s 1)), .i (.mov 4 (qb false))]) (.seq (.seq (.ops [ql 7 2 2 5 true,qk 9 210 7, .i (.not 9 (.s 8)),qm 10 9, .g 10 false 12 (.fad 11 (.s 3) 0), .g 10 false 13 (.ldl 12 3 (.s 11) 1 false), .g 10 false 14 (.call 14 211 false [(.s 12)]), .g 10 false 15 (.not 14 (.s 13)), .i (.pick 15 (.s 10) (qb true) (.s 14)),qm 16 15, .g 16 false 18 (.fad 17 (.s 3) 1), .g 16 false 19 (.ldl 18 3 (.s 17) 1 false), .g 16 false 20 (.len 19 false (.s 18)), .g 16 false 21 (.fad 20 (.s 2) 0), .g 16 false 22 (.ldl 21 2 (.s 20) 1 false), .g 16 false 23 (.bin 22 .gtr (.s 19) (.s 21)), .i (.pick 23 (.s 16) (qb true) (.s 22))]) (.cond (.s 23) (.seq (.ops [.i (.mov 4 (qb false))]) .ret) .skip)) (.seq (.seq (.ops [qf 24 3 1,ql 25 3 24 1 false,qn 26 25, .i (.mov 27 (qi 0))]) (.block 0 (.loop [73,72,71,70,69,68,67,66,65,64,63,62,61,60,59,58,57,56,55,54,53,52,51,50,49,48,47,46,45,44,43,42,41,40,39,38,37,36,35,34,33,32,31,30,29,28,6,5] (.seq (.ops [qd 28 .lss 27 26]) (.seq (.cond (.s 28) .skip (.exit 0)) (.seq (.block 1 (.seq (.ops [qm 29 27, .i (.iad 30 (.s 25) (.s 27) 3), .i (.ldh 31 (.s 30) 3 true), .i (.lal 6 [.int .i64 0, .int .i64 0, .nils]),qm 5 29,qs 6 6 31 3]) (.seq (.ops [qf 32 6 0,ql 33 6 32 1 false,qf 34 2 0,ql 35 2 34 1 false, .i (.bin 36 .sub (.s 35) (qi 1)), .i (.call 38 221 false [(.s 33),(qi 0),(.s 36)]), .i (.not 38 (.s 37)),qm 39 38, .g 39 false 41 (.fad 40 (.s 6) 1), .g 39 false 42 (.ldl 41 6 (.s 40) 1 false), .g 39 false 43 (.bin 42 .lss (.s 41) (qi 0)), .i (.pick 43 (.s 39) (qb true) (.s 42)),qm 44 43, .g 44 false 46 (.fad 45 (.s 6) 1), .g 44 false 47 (.ldl 46 6 (.s 45) 1 false), .g 44 false 48 (.fad 47 (.s 3) 0), .g 44 false 49 (.ldl 48 3 (.s 47) 1 false), .g 44 false 50 (.bin 49 .geq (.s 46) (.s 48)), .i (.pick 50 (.s 44) (qb true) (.s 49)),qm 51 50, .g 51 false 53 (.fad 52 (.s 6) 2), .g 51 false 54 (.ldl 53 6 (.s 52) 1 false), .g 51 false 55 (.call 55 337 false [(.s 53)]), .g 51 false 56 (.not 55 (.s 54)), .i (.pick 56 (.s 51) (qb true) (.s 55)),qm 57 56, .g 57 false 59 (.mov 58 (.s 5)), .g 57 false 60 (.bin 59 .gtr (.s 58) (qi 0)), .g 57 false 61 (.mov 60 (.s 59)), .g 60 true 62 (.fad 61 (.s 3) 1), .g 60 true 63 (.ldl 62 3 (.s 61) 1 false), .g 60 true 64 (.mov 63 (.s 5)), .g 60 true 65 (.bin 64 .sub (.s 63) (qi 1)), .g 60 true 66 (.iad 65 (.s 62) (.s 64) 3), .g 60 true 67 (.fad 66 (.s 65) 0), .g 60 true 68 (.ldh 67 (.s 66) 1 false), .g 60 true 69 (.fad 68 (.s 6) 0), .g 60 true 70 (.ldl 69 6 (.s 68) 1 false), .g 60 true 71 (.bin 70 .geq (.s 67) (.s 69)), .g 57 false 72 (.pick 71 (.s 60) (.s 70) (qb false)), .i (.pick 72 (.s 57) (qb true) (.s 71))]) (.cond (.s 72) (.seq (.ops [.i (.mov 4 (qb false))]) .ret) .skip)))) (.ops [.i (.bin 73 .add (.s 27) (qi 1)),qm 27 73]))))))) (.seq (.ops [.i (.mov 4 (qb true))]) .ret))))⟩
theorem GM:cd yo=some yS:=by kernel_rfl
theorem FQ (l:ah) (t:Tc) (hw:t.wf):VC cd yo (aE [(true,l.c),(true,t.c)]) (fun rs _=>rs=bl (jC l t)):=by
 have w1:=hw.2.1
 simp only[Sz]at w1
 refine aa GM rfl ?_
 simp(disch:=omega) [yS,ah.c,Tc.c,VY]
 refine av (ck l) ?_ (ha:=by first|rfl|(simp[ah.c,VY] <;>repeat' constructor))
 simp(disch:=omega) [VY]
 refine aw (fun h1=> ?_) (fun h1=> ?_)
 case refine_2=>simp(disch:=omega) [h1,jC,VY]
 simp(disch:=omega) [h1,VY]
 refine av (fb t.view) ?_
 simp(disch:=omega) [h1,VY]
 refine aw (fun h2=> ?_) (fun h2=> ?_)
 case refine_2=>simp(disch:=omega) [h1,h2,jC,VY]
 have hn:=vf h1
 have hv:=fA h2
 simp(disch:=omega) [h1,h2,dG,VY]
 refine ab (fun h3=> ?_) (fun h3=> ?_)
 ·simp(disch:=omega) [h1,h2,h3,jC,show ¬(t.entries.length:Int)≤l.n by omega,VY]
 simp(disch:=omega) [h1,h2,h3,dG,VY]
 refine bx (σ:=Nat) (f1:=_) (es0:=_) (by simp(disch:=omega) [VY];rfl) (by simp(disch:=omega) [VY];rfl) (fun i=> [(27, .val false [.int .i64 (i:Int)])]) (fun _=> []) (fun i g=>g+i=t.entries.length∧∀j,j < i→dS l t j=true) 0 t.entries.length (by simp(disch:=omega) [VY]) (by simp(disch:=omega) [VY]) ⟨by omega,fun j hj=>by omega⟩ ?_
 rintro i n g ⟨hg,hd⟩ P hP
 simp(disch:=omega) [VY]
 refine ab (fun g1=> ?_) (fun g1=> ?_)
 case refine_2=>
  have hY:=Ma (l:=l) (t:=t) (fun i hi=>hd i (by omega))
  simp(disch:=omega) [h1,h2,hY,show(t.entries.length:Int)≤l.n by omega,VY]
 have hi:i < t.entries.length:=by omega
 simp(disch:=omega) [jl hi,VY]
 refine av (bS t.entries[i].who 0 (l.n - 1)) ?_
 simp(disch:=omega) [VY]
 refine aw (fun g2=> ?_) (fun g2=> ?_)
 case refine_2=>simp(disch:=omega) [g2,vg hi (show dS l t i=false by simp[dS,hi,g2]),VY]
 simp(disch:=omega) [g2,VY]
 refine ab (fun g3=> ?_) (fun g3=> ?_)
 ·have e5:cf t.entries[i].high 0 (t.view - 1)=false:=by simp only[cf,decide_eq_false_iff_not];omega
  simp(disch:=omega) [g2,g3,vg hi (show dS l t i=false by simp[dS,hi,e5]),VY]
 simp(disch:=omega) [g2,g3,VY]
 refine ab (fun g4=> ?_) (fun g4=> ?_)
 ·have e5:cf t.entries[i].high 0 (t.view - 1)=false:=by simp only[cf,decide_eq_false_iff_not];omega
  simp(disch:=omega) [g2,g3,g4,vg hi (show dS l t i=false by simp[dS,hi,e5]),VY]
 have e5:cf t.entries[i].high 0 (t.view - 1)=true:=by simp only[cf,decide_eq_true_eq];omega
 simp(disch:=omega) [g2,g3,g4,VY]
 refine av (eV t.entries[i].tag) ?_
 simp(disch:=omega) [g2,g3,g4,VY]
 refine aw (fun g5=> ?_) (fun g5=> ?_)
 case refine_2=>simp(disch:=omega) [g2,g3,g4,g5,vg hi (show dS l t i=false by simp[dS,hi,g5]),VY]
 simp(disch:=omega) [g2,g3,g4,g5,VY]
 refine ab (fun g6=> ?_) (fun g6=> ?_)
 ·have hj:i - 1 < t.entries.length:=by omega
  have e1:((i:Int) - 1).toNat=i - 1:=by omega
  have e2:(1:Int)≤(i:Int):=by omega
  have e3:¬i=0:=by omega
  simp(disch:=omega) [g2,g3,g4,g5,g6,dG,e1,e2,jl hj,VY]
  refine ab (fun g7=> ?_) (fun g7=> ?_)
  ·simp(disch:=omega) [g2,g3,g4,g5,g6,g7,vg hi (show dS l t i=false by simp[dS,hi,hj,e3,show ¬t.entries[i - 1].who < t.entries[i].who by omega]),VY]
  have e4:t.entries[i - 1].who < t.entries[i].who:=by omega
  simp(disch:=omega) [g2,g3,g4,g5,g6,g7,VY]
  exact hP (i+1) (g - 1) _ _ (by omega) ⟨by omega,G7 hd (by simp[dS,hi,g2,e5,g5,hj,e4])⟩ (by simp(disch:=omega) [VY]) (by simp(disch:=omega) [VY])
 ·have e4:i=0:=by omega
  simp(disch:=omega) [g2,g3,g4,g5,g6,VY]
  exact hP (i+1) (g - 1) _ _ (by omega) ⟨by omega,G7 hd (by subst e4;simp[dS,hi,g2,e5,g5])⟩ (by simp(disch:=omega) [VY]) (by simp(disch:=omega) [VY])
abbrev mq:Nat:=260
def ni:AF:=⟨3,6,[.tmp 6, .tmp 7],(.seq (.ops [.i (.lbox 3 (.s 0)), .i (.lbox 5 (.s 2)), .i (.mov 6 (.c (.val false [.nils]))), .i (.mov 7 (qb false))]) (.seq (.seq (.ops [ql 12 3 3 5 true,ql 13 5 5 11 true, .i (.call 15 311 false [(.s 12),(.s 13)]), .i (.not 15 (.s 14))]) (.cond (.s 15) (.seq (.ops [.i (.mov 6 (.c (.val false [.nils]))), .i (.mov 7 (qb false))]) .ret) .skip)) (.seq (.ops [ql 17 3 3 5 true,qm 18 1,qf 19 5 0,ql 20 5 19 10 true, .i (.call 22 259 false [(.s 17),(.s 18),(.s 20)]),qm 16 21, .i (.ext 22 (.s 16) 0), .i (.ext 23 (.s 16) 1),qm 8 22,qm 9 23]) (.seq (.ops [qm 24 8,qf 25 5 10,ql 26 5 25 1 false,qn 27 26, .i (.call 29 308 false [(.s 24),(.s 27)]),qm 8 28]) (.seq (.seq (.ops [qf 29 5 10,ql 30 5 29 1 false,qn 31 30, .i (.mov 32 (qi 0))]) (.block 0 (.loop [39,38,37,36,35,34,33,11] (.seq (.ops [qd 33 .lss 32 31]) (.seq (.cond (.s 33) .skip (.exit 0)) (.seq (.block 1 (.seq (.ops [.i (.iad 34 (.s 30) (.s 32) 1), .i (.ldh 35 (.s 34) 1 false),qm 11 35]) (.ops [qm 36 8,qm 37 11, .i (.call 39 312 false [(.s 36),(.s 37)]),qm 8 38]))) (.ops [.i (.bin 39 .add (.s 32) (qi 1)),qm 32 39]))))))) (.seq (.ops [qm 40 8,qm 6 40, .i (.mov 7 (qb true))]) .ret))))))⟩
theorem zI:cd mq=some ni:=by kernel_rfl
theorem ln (l:ah) (b:Bytes) (x:Block) (hw:x.wc∧∀t∈x.txs,t.length≤100000000) (hb:b.length≤800000000):VC cd mq (aE [(true,l.c),(false,[.sl (bytes b)]),(true,x.c)]) (fun rs _=>rs=dw (bF l x) (b++oT x)):=by
 refine aa zI rfl ?_
 simp(disch:=omega) [ni,Block.c,Head.c,ah.c,VY]
 refine av (nb l x hw.1 (fun t ht=>by have:=hw.2 t ht;omega)) ?_ (ha:=by first|rfl|(simp[ah.c,Block.c,Head.c,VY] <;>repeat' constructor))
 simp(disch:=omega) [VY]
 refine aw (fun h0=> ?_) (fun h0=> ?_)
 case refine_2=>simp(disch:=omega) [h0,dw,VY]
 have hh:=lK h0
 have hf:=yH h0
 have ht:=yQ h0
 have hs:=kl (gq hh)
 simp(disch:=omega) [h0,VY]
 refine av ((c7 l b x.head hw.1.1.1 (by omega)).re (dg hh)) ?_ (ha:=by first|rfl|(simp[ah.c,Head.c,VY] <;>repeat' constructor))
 simp(disch:=omega) [h0,aC,VY]
 refine av (bT (b++ep x.head) x.txs.length (wG (by omega)) (by simp only[List.length_append];omega)) ?_
 have h1:=dP (n:=x.txs.length) (by omega)
 simp(disch:=omega) [h0,aC,VY]
 refine rq (σ:=Nat×Nat×Nat) (f1:=_) (by simp(disch:=omega) [VY];rfl) (fun p=> [(32, .val false [.int .i64 (p.1:Int)]),(8, .val false [.ow p.2.1 p.2.2])]) (fun p=> [(p.2.1, .sl p.2.2 true true (some (5,1)) (bytes (b++(ep x.head++(bg x.txs.length++gR (x.txs.take p.1))))))]) (fun p g=>g+p.1=x.txs.length∧(p.2.1=245760∨p.2.1=327680)) (0,245760,20) x.txs.length (by simp(disch:=omega) [VY]) (by simp(disch:=omega) [show gR []= []from rfl,VY]) ⟨by omega, .inl rfl⟩ ?_
 rintro⟨i,key,v⟩ n g ⟨hg,hk⟩ P hP
 simp only at hg hk
 have hlt:∀t∈x.txs.take i,t.length≤1000:=fun t h=>ht t (List.mem_of_mem_take h)
 have hl:=uk hlt
 have hl2:(x.txs.take i).length≤8:=by rw[List.length_take];omega
 have hl3:(gR (x.txs.take i)).length≤8072:=by omega
 rcases hk with rfl|rfl
 all_goals
  simp(disch:=omega) [VY]
  refine ab (fun h2=> ?_) (fun h2=> ?_)
  ·have hi:i < x.txs.length:=by omega
   have hx:=ht _ (List.getElem_mem hi)
   simp(disch:=omega) [eF hi,VY]
   refine av (mS (b++(ep x.head++(bg x.txs.length++gR (x.txs.take i)))) x.txs[i] (by simp only[List.length_append];omega) (by omega)) ?_
   simp(disch:=omega) [VY]
   exact hP (i+1,327680,_) (g - 1) _ _ (by omega) ⟨by simp only;omega, .inr rfl⟩ (by simp(disch:=omega) [VY];rfl) (by simp(disch:=omega) [HV hi,VY])
  ·have hi:i=x.txs.length:=by omega
   subst hi
   simp(disch:=omega) [dw,oT,gR,List.take_length,VY]
theorem Hk {l:ah} {t:Tc} (h:jC l t=true):t.entries.length≤10∧isNum t.view=true∧∀e∈t.entries,isNum e.who=true∧isNum e.high=true∧e.tag.length=32:=by
 simp only[jC,Bool.and_eq_true,decide_eq_true_eq,List.all_eq_true,List.mem_range]at h
 obtain⟨⟨⟨h1,h2⟩,h3⟩,h4⟩:=h
 have hn:=vf h1
 have hv:=fA h2
 refine⟨by omega,h2,fun e he=> ?_⟩
 obtain⟨i,hi,rfl⟩:=List.mem_iff_getElem.1 he
 have h5:=h4 i hi
 simp only[dS,List.getElem?_eq_getElem hi,Bool.and_eq_true]at h5
 obtain⟨⟨⟨g1,g2⟩,g3⟩,_⟩:=h5
 have g1':=fA g1
 have g2':=fA g2
 exact⟨by simp only[isNum,cf,decide_eq_true_eq];omega,by simp only[isNum,cf,decide_eq_true_eq];omega,gD g3⟩
def kz (l:List Entry):Bytes:=(l.map KH).flatten
theorem IZ {l:List Entry} {i:Nat} (h:i < l.length):kz (l.take (i+1))=kz (l.take i)++KH l[i]:=by
 rw[List.take_succ_eq_append_getElem h]
 simp only[kz,List.map_append,List.map_cons,List.map_nil,List.flatten_append,List.flatten_cons,List.flatten_nil,List.append_nil]
theorem xw:∀ {l:List Entry},(∀e∈l,isNum e.who=true∧isNum e.high=true∧e.tag.length=32)→(kz l).length≤50 * l.length
 | [],_=>by simp[kz]
 |a::l,h=>by
  have h1:=xw (l:=l) fun x hx=>h x (by simp[hx])
  obtain⟨g1,g2,g3⟩:=h a (by simp)
  have h2:=aT g1
  have h3:=aT g2
  simp only[kz,KH,List.map_cons,List.flatten_cons,List.length_append,List.length_cons]at h1⊢
  omega
abbrev u7:Nat:=261
def wq:AF:=⟨3,6,[.tmp 6, .tmp 7],(.seq (.ops [.i (.lbox 3 (.s 0)), .i (.lbox 5 (.s 2)), .i (.mov 6 (.c (.val false [.nils]))), .i (.mov 7 (qb false))]) (.seq (.seq (.ops [ql 11 3 3 5 true,ql 12 5 5 2 true, .i (.call 14 313 false [(.s 11),(.s 12)]), .i (.not 14 (.s 13))]) (.cond (.s 14) (.seq (.ops [.i (.mov 6 (.c (.val false [.nils]))), .i (.mov 7 (qb false))]) .ret) .skip)) (.seq (.ops [qm 15 1,qf 16 5 0,ql 17 5 16 1 false, .i (.call 19 308 false [(.s 15),(.s 17)]),qf 19 5 1,ql 20 5 19 1 false,qn 21 20, .i (.call 23 308 false [(.s 18),(.s 21)]),qm 8 22]) (.seq (.seq (.ops [qf 23 5 1,ql 24 5 23 1 false,qn 25 24, .i (.mov 26 (qi 0))]) (.block 0 (.loop [40,39,38,37,36,35,34,33,32,31,30,29,28,27,10] (.seq (.ops [qd 27 .lss 26 25]) (.seq (.cond (.s 27) .skip (.exit 0)) (.seq (.block 1 (.seq (.ops [.i (.iad 28 (.s 24) (.s 26) 3), .i (.ldh 29 (.s 28) 3 true), .i (.lal 10 [.int .i64 0, .int .i64 0, .nils]),qs 10 10 29 3]) (.ops [qm 30 8,qf 31 10 0,ql 32 10 31 1 false, .i (.call 34 308 false [(.s 30),(.s 32)]),qf 34 10 1,ql 35 10 34 1 false, .i (.call 37 308 false [(.s 33),(.s 35)]),qf 37 10 2,ql 38 10 37 1 false, .i (.app 39 5 1 1 (.s 36) (.s 38)),qm 8 39]))) (.ops [.i (.bin 40 .add (.s 26) (qi 1)),qm 26 40]))))))) (.seq (.ops [qm 41 8,qm 6 41, .i (.mov 7 (qb true))]) .ret)))))⟩
theorem E3:cd u7=some wq:=by kernel_rfl
theorem tj (l:ah) (b:Bytes) (t:Tc) (hw:t.wf) (hb:b.length≤800000000):VC cd u7 (aE [(true,l.c),(false,[.sl (bytes b)]),(true,t.c)]) (fun rs _=>rs=dw (jC l t) (b++O6 t)):=by
 refine aa E3 rfl ?_
 simp(disch:=omega) [wq,Tc.c,ah.c,VY]
 refine av (FQ l t hw) ?_ (ha:=by first|rfl|(simp[ah.c,Tc.c,VY] <;>repeat' constructor))
 simp(disch:=omega) [VY]
 refine aw (fun h0=> ?_) (fun h0=> ?_)
 case refine_2=>simp(disch:=omega) [h0,dw,VY]
 obtain⟨hf,hv,he⟩:=Hk h0
 have h3:=aT hv
 have h1:=dP (n:=t.entries.length) (by omega)
 simp(disch:=omega) [h0,VY]
 refine av (bT b t.view hv (by omega)) ?_
 simp(disch:=omega) [h0,dG,VY]
 refine av (bT (b++bg t.view.toNat) t.entries.length (wG (by omega)) (by simp only[List.length_append];omega)) ?_
 simp(disch:=omega) [h0,dG,VY]
 refine rq (σ:=Nat×Nat×Nat) (f1:=_) (by simp(disch:=omega) [VY];rfl) (fun p=> [(26, .val false [.int .i64 (p.1:Int)]),(8, .val false [.ow p.2.1 p.2.2])]) (fun p=> [(p.2.1, .sl p.2.2 true true (some (5,1)) (bytes (b++(bg t.view.toNat++(bg t.entries.length++kz (t.entries.take p.1))))))]) (fun p g=>g+p.1=t.entries.length∧(p.2.1=196608∨p.2.1=311296)) (0,196608,_) t.entries.length (by simp(disch:=omega) [VY];rfl) (by simp(disch:=omega) [show kz []= []from rfl,VY]) ⟨by omega, .inl rfl⟩ ?_
 rintro⟨i,key,v⟩ n g ⟨hg,hk⟩ P hP
 simp only at hg hk
 have hlt:∀e∈t.entries.take i,isNum e.who=true∧isNum e.high=true∧e.tag.length=32:=fun e h=>he e (List.mem_of_mem_take h)
 have hl:=xw hlt
 have hl2:(t.entries.take i).length≤10:=by rw[List.length_take];omega
 have hl3:(kz (t.entries.take i)).length≤500:=by omega
 rcases hk with rfl|rfl
 all_goals
  simp(disch:=omega) [VY]
  refine ab (fun h2=> ?_) (fun h2=> ?_)
  ·have hi:i < t.entries.length:=by omega
   obtain⟨g1,g2,g3⟩:=he _ (List.getElem_mem hi)
   have g4:=aT g1
   have g5:=aT g2
   simp(disch:=omega) [jl hi,VY]
   refine av (bT (b++(bg t.view.toNat++(bg t.entries.length++kz (t.entries.take i)))) t.entries[i].who g1 (by simp only[List.length_append];omega)) ?_
   simp(disch:=omega) [VY]
   refine av (bT (b++(bg t.view.toNat++(bg t.entries.length++(kz (t.entries.take i)++bg t.entries[i].who.toNat)))) t.entries[i].high g2 (by simp only[List.length_append];omega)) ?_
   simp(disch:=omega) [bE,ae,VY]
   exact hP (i+1,311296,_) (g - 1) _ _ (by omega) ⟨by simp only;omega, .inr rfl⟩ (by simp(disch:=omega) [VY];rfl) (by simp(disch:=omega) [IZ hi,KH,VY])
  ·have hi:i=t.entries.length:=by omega
   subst hi
   simp(disch:=omega) [dw,O6,kz,List.take_length,VY]
def gk (l:List Head):Bytes:=(l.map ep).flatten
theorem Hf {l:List Head} {i:Nat} (h:i < l.length):gk (l.take (i+1))=gk (l.take i)++ep l[i]:=by
 rw[List.take_succ_eq_append_getElem h]
 simp only[gk,List.map_append,List.map_cons,List.map_nil,List.flatten_append,List.flatten_cons,List.flatten_nil,List.append_nil]
theorem uD:∀ {l:List Head},(∀h∈l,Ix h)→(gk l).length≤1000 * l.length
 | [],_=>by simp[gk]
 |a::l,h=>by
  have h1:=uD (l:=l) fun x hx=>h x (by simp[hx])
  have h2:=kl (h a (by simp))
  simp only[gk,List.map_cons,List.flatten_cons,List.length_append,List.length_cons]at h1⊢
  omega
theorem yq {l:ah} {p:Proof} (h:c4 l p=true):p.heads.length≤5∧gf l p.qc=true∧∀x∈p.heads,bG l x=true:=by
 simp only[c4,Bool.and_eq_true]at h
 obtain⟨⟨⟨h1,h2⟩,h3⟩,h4⟩:=h
 have h5:=v9 h3
 simp only[ah.ok,Bool.and_eq_true]at h5
 have h6:=fA h5.2
 have h7:=fA h1
 refine⟨by omega,h3,fun x hx=> ?_⟩
 simp only[jz,List.all_eq_true]at h2
 exact h2 x hx
abbrev nk:Nat:=262
def nI:AF:=⟨3,6,[.tmp 6, .tmp 7],(.seq (.ops [.i (.lbox 3 (.s 0)), .i (.lbox 5 (.s 2)), .i (.mov 6 (.c (.val false [.nils]))), .i (.mov 7 (qb false))]) (.seq (.seq (.ops [ql 11 3 3 5 true,ql 12 5 5 6 true, .i (.call 14 314 false [(.s 11),(.s 12)]), .i (.not 14 (.s 13))]) (.cond (.s 14) (.seq (.ops [.i (.mov 6 (.c (.val false [.nils]))), .i (.mov 7 (qb false))]) .ret) .skip)) (.seq (.ops [qm 15 1,qf 16 5 0,ql 17 5 16 1 false,qn 18 17, .i (.call 20 308 false [(.s 15),(.s 18)]),qm 8 19]) (.seq (.seq (.ops [qf 20 5 0,ql 21 5 20 1 false,qn 22 21, .i (.mov 23 (qi 0))]) (.block 0 (.loop [34,33,32,31,30,29,28,27,26,25,24,10] (.seq (.ops [qd 24 .lss 23 22]) (.seq (.cond (.s 24) .skip (.exit 0)) (.seq (.block 1 (.seq (.ops [.i (.iad 25 (.s 21) (.s 23) 10), .i (.ldh 26 (.s 25) 10 true), .i (.lal 10 qz),qs 10 10 26 10]) (.ops [ql 28 3 3 5 true,qm 29 8,ql 30 10 10 10 true, .i (.call 32 259 false [(.s 28),(.s 29),(.s 30)]),qm 27 31, .i (.ext 32 (.s 27) 0), .i (.ext 33 (.s 27) 1),qm 8 32]))) (.ops [.i (.bin 34 .add (.s 23) (qi 1)),qm 23 34]))))))) (.seq (.ops [ql 35 3 3 5 true,qm 36 8,qf 37 5 1,ql 38 5 37 5 true, .i (.call 40 258 false [(.s 35),(.s 36),(.s 38)]), .i (.ext 40 (.s 39) 0), .i (.ext 41 (.s 39) 1),qm 6 40,qm 7 41]) .ret)))))⟩
theorem y0:cd nk=some nI:=by kernel_rfl
theorem jW (l:ah) (b:Bytes) (p:Proof) (hw:p.wc) (hb:b.length≤800000000):VC cd nk (aE [(true,l.c),(false,[.sl (bytes b)]),(true,p.c)]) (fun rs _=>rs=dw (c4 l p) (b++o7 p)):=by
 refine aa y0 rfl ?_
 simp(disch:=omega) [nI,Proof.c,ah.c,VY]
 refine av (zP l p hw.1) ?_ (ha:=by first|rfl|(simp[ah.c,Proof.c,VY] <;>repeat' constructor))
 simp(disch:=omega) [VY]
 refine aw (fun h0=> ?_) (fun h0=> ?_)
 case refine_2=>simp(disch:=omega) [h0,dw,VY]
 obtain⟨hf,hq,hh⟩:=yq h0
 have h1:=dP (n:=p.heads.length) (by omega)
 simp(disch:=omega) [h0,di,VY]
 refine av (bT b p.heads.length (wG (by omega)) (by omega)) ?_
 simp(disch:=omega) [h0,di,VY]
 refine rq (σ:=Nat×Nat×Nat) (f1:=_) (by simp(disch:=omega) [VY];rfl) (fun q=> [(23, .val false [.int .i64 (q.1:Int)]),(8, .val false [.ow q.2.1 q.2.2])]) (fun q=> [(q.2.1, .sl q.2.2 true true (some (5,1)) (bytes (b++(bg p.heads.length++gk (p.heads.take q.1)))))]) (fun q g=>g+q.1=p.heads.length∧(q.2.1=172032∨q.2.1=270336)) (0,172032,13) p.heads.length (by simp(disch:=omega) [VY]) (by simp(disch:=omega) [show gk []= []from rfl,VY]) ⟨by omega, .inl rfl⟩ ?_
 rintro⟨i,key,v⟩ n g ⟨hg,hk⟩ P hP
 simp only at hg hk
 have hl:=uD (l:=p.heads.take i) (fun e h=>gq (hh e (List.mem_of_mem_take h)))
 have hl2:(p.heads.take i).length≤5:=by rw[List.length_take];omega
 have hl3:(gk (p.heads.take i)).length≤5000:=by omega
 rcases hk with rfl|rfl
 all_goals
  simp(disch:=omega) [VY]
  refine ab (fun h2=> ?_) (fun h2=> ?_)
  ·have hi:i < p.heads.length:=by omega
   have hx:=hh _ (List.getElem_mem hi)
   simp(disch:=omega) [ib hi,Head.c,VY]
   refine av ((c7 l (b++(bg p.heads.length++gk (p.heads.take i))) p.heads[i] (hw.2.1 _ (List.getElem_mem hi)).1 (by simp only[List.length_append];omega)).re (dg hx)) ?_ (ha:=by first|rfl|(simp[ah.c,Head.c,VY] <;>repeat' constructor))
   simp(disch:=omega) [VY]
   exact hP (i+1,270336,_) (g - 1) _ _ (by omega) ⟨by simp only;omega, .inr rfl⟩ (by simp(disch:=omega) [VY];rfl) (by simp(disch:=omega) [Hf hi,VY])
  ·have hi:i=p.heads.length:=by omega
   subst hi
   rw[List.take_length]at hl3
   simp(disch:=omega) [List.take_length,VY]
   refine av ((gA l (b++(bg p.heads.length++gk p.heads)) p.qc hw.2.2.1 (by simp only[List.length_append];omega)).re (dg hq)) ?_ (ha:=by first|rfl|(simp[ah.c,Qc.c,VY] <;>repeat' constructor))
   simp(disch:=omega) [dw,o7,gk,VY]
theorem BG {l:ah} {x:bo} (h:eO l x=true):isNum x.height=true∧isNum x.n=true∧isNum x.idx=true∧x.tx.length≤40∧x.path.length≤8∧∀y∈x.path,y.length=32:=by
 simp only[eO,Bool.and_eq_true,decide_eq_true_eq]at h
 obtain⟨⟨⟨⟨⟨⟨h1,h2⟩,h3⟩,h4⟩,h5⟩,h6⟩,h7⟩:=h
 have g1:=JC h1
 have g3:=fA h3
 have g4:=fA h4
 have g5:=cI x.n.toNat x.idx.toNat
 refine⟨h2,by simp only[isNum,cf,decide_eq_true_eq];omega,by simp only[isNum,cf,decide_eq_true_eq];omega,by omega,by omega,fun y hy=> ?_⟩
 simp only[hashes,List.all_eq_true]at h7
 exact gD (h7 y hy)
abbrev rJ:Nat:=263
def oq:AF:=⟨3,6,[.tmp 6, .tmp 7],(.seq (.ops [.i (.lbox 3 (.s 0)), .i (.lbox 5 (.s 2)), .i (.mov 6 (.c (.val false [.nils]))), .i (.mov 7 (qb false))]) (.seq (.seq (.ops [ql 11 3 3 5 true,ql 12 5 5 5 true, .i (.call 14 315 false [(.s 11),(.s 12)]), .i (.not 14 (.s 13))]) (.cond (.s 14) (.seq (.ops [.i (.mov 6 (.c (.val false [.nils]))), .i (.mov 7 (qb false))]) .ret) .skip)) (.seq (.ops [qm 15 1,qf 16 5 0,ql 17 5 16 1 false, .i (.call 19 308 false [(.s 15),(.s 17)]),qf 19 5 1,ql 20 5 19 1 false, .i (.call 22 308 false [(.s 18),(.s 20)]),qf 22 5 2,ql 23 5 22 1 false, .i (.call 25 308 false [(.s 21),(.s 23)]),qf 25 5 3,ql 26 5 25 1 false, .i (.call 28 312 false [(.s 24),(.s 26)]),qm 8 27]) (.seq (.seq (.ops [qf 28 5 4,ql 29 5 28 1 false,qn 30 29, .i (.mov 31 (qi 0))]) (.block 0 (.loop [38,37,36,35,34,33,32,10] (.seq (.ops [qd 32 .lss 31 30]) (.seq (.cond (.s 32) .skip (.exit 0)) (.seq (.block 1 (.seq (.ops [.i (.iad 33 (.s 29) (.s 31) 1), .i (.ldh 34 (.s 33) 1 false),qm 10 34]) (.ops [qm 35 8,qm 36 10, .i (.app 37 5 1 1 (.s 35) (.s 36)),qm 8 37]))) (.ops [.i (.bin 38 .add (.s 31) (qi 1)),qm 31 38]))))))) (.seq (.ops [qm 39 8,qm 6 39, .i (.mov 7 (qb true))]) .ret)))))⟩
theorem AW:cd rJ=some oq:=by kernel_rfl
theorem mG (l:ah) (b:Bytes) (x:bo) (hw:x.wc) (htx:x.tx.length≤100000000) (hb:b.length≤800000000):VC cd rJ (aE [(true,l.c),(false,[.sl (bytes b)]),(true,x.c)]) (fun rs _=>rs=dw (eO l x) (b++yz x)):=by
 refine aa AW rfl ?_
 simp(disch:=omega) [oq,bo.c,ah.c,VY]
 refine av (B7 l x hw) ?_ (ha:=by first|rfl|(simp[ah.c,bo.c,VY] <;>repeat' constructor))
 simp(disch:=omega) [VY]
 refine aw (fun h0=> ?_) (fun h0=> ?_)
 case refine_2=>simp(disch:=omega) [h0,dw,VY]
 obtain⟨n1,n2,n3,ht,hf,hp⟩:=BG h0
 have v1:=aT n1
 have v2:=aT n2
 have v3:=aT n3
 have v4:=xd (x:=x.tx) (by omega)
 simp(disch:=omega) [h0,VY]
 refine av (bT b x.height n1 (by omega)) ?_
 simp(disch:=omega) [h0,VY]
 refine av (bT (b++bg x.height.toNat) x.n n2 (by simp only[List.length_append];omega)) ?_
 simp(disch:=omega) [h0,VY]
 refine av (bT (b++(bg x.height.toNat++bg x.n.toNat)) x.idx n3 (by simp only[List.length_append];omega)) ?_
 simp(disch:=omega) [h0,VY]
 refine av (mS (b++(bg x.height.toNat++(bg x.n.toNat++bg x.idx.toNat))) x.tx (by simp only[List.length_append];omega) (by omega)) ?_
 simp(disch:=omega) [h0,aC,VY]
 refine rq (σ:=Nat×Nat) (f1:=_) (by simp(disch:=omega) [VY];rfl) (fun q=> [(31, .val false [.int .i64 (q.1:Int)]),(8, .val false [.ow 237568 q.2])]) (fun q=> [(237568, .sl q.2 true true (some (5,1)) (bytes (b++(bg x.height.toNat++(bg x.n.toNat++(bg x.idx.toNat++(kx x.tx++(x.path.take q.1).flatten)))))))]) (fun q g=>g+q.1=x.path.length) (0,15) x.path.length (by simp(disch:=omega) [VY]) (by simp(disch:=omega) [VY]) (by omega) ?_
 rintro⟨i,v⟩ n g hg P hP
 simp only at hg
 simp(disch:=omega) [VY]
 refine ab (fun h2=> ?_) (fun h2=> ?_)
 ·have hi:i < x.path.length:=by omega
  have hy:=hp _ (List.getElem_mem hi)
  have hz:=r8 hp (i:=i) (by omega)
  simp(disch:=omega) [eF hi,bE,ae,hz,VY]
  exact hP (i+1,_) (g - 1) _ _ (by omega) (by simp only;omega) (by simp(disch:=omega) [VY];rfl) (by simp(disch:=omega) [ED hi,VY])
 ·have hi:i=x.path.length:=by omega
  subst hi
  simp(disch:=omega) [dw,yz,List.take_length,VY]
end Go.Eng.F
