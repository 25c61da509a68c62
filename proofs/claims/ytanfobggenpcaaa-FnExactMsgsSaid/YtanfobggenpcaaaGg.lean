import Derived.Test.YtanfobggenpcaaaProg
import Derived.KernelRfl
import Derived.Test.YtanfobggenpcaaaGe
import Derived.Test.YtanfobggenpcaaaGf
set_option maxRecDepth 100000
set_option linter.unusedSimpArgs false
set_option linter.unusedVariables false
namespace Go.Eng.F
def qi (n:Int):X:= .c (.val false [.int .i64 n])
def qb (b:Bool):X:= .c (.val false [.bool b])
def qm (a b:Nat):IT:= .i (.mov a (.s b))
def qf (a b n:Nat):IT:= .i (.fad a (.s b) n)
def ql (a b c n:Nat) (g:Bool):IT:= .i (.ldl a b (.s c) n g)
def qs (a b c n:Nat):IT:= .i (.stl a (.s b) (.s c) n)
def qn (a b:Nat):IT:= .i (.len a false (.s b))
def qd (a:Nat) (o:B2) (b c:Nat):IT:= .i (.bin a o (.s b) (.s c))
def qk (a b c:Nat):IT:= .i (.call a b false [(.s c)])
def qz:List C:= [.int .i64 0, .int .i64 0, .int .i64 0, .nils, .nils, .int .i64 0, .int .i64 0, .nils, .nils, .nils]
theorem VY:type_of% (And.intro @VW (And.intro @qi.eq_1 (And.intro @qb.eq_1 (And.intro @qm.eq_1 (And.intro @qf.eq_1 (And.intro @ql.eq_1 (And.intro @qs.eq_1 (And.intro @qn.eq_1 (And.intro @qd.eq_1 (And.intro @qk.eq_1 @qz.eq_1)))))))))):=And.intro @VW (And.intro @qi.eq_1 (And.intro @qb.eq_1 (And.intro @qm.eq_1 (And.intro @qf.eq_1 (And.intro @ql.eq_1 (And.intro @qs.eq_1 (And.intro @qn.eq_1 (And.intro @qd.eq_1 (And.intro @qk.eq_1 @qz.eq_1)))))))))
theorem VZ:type_of% (And.intro @VY @VQ):=And.intro @VY @VQ
noncomputable abbrev cd:=code Proofs.Try.prog
def dJ (l:List Bytes):List (List D):=l.map fun x=> [.sl (bytes x)]
theorem j0 (l:List Bytes):(dJ l).length=l.length:=by simp[dJ]
theorem sd {l:List Bytes} {i:Nat} (h:i < l.length):(dJ l)[i]? =some [.sl (bytes l[i])]:=by simp[dJ,h]
def vN (n lo hi:Int):Bool:=decide (lo≤n∧n≤hi)
structure dL where
 n:Int
 tx:Int
 txs:Int
 frame:Int
 heads:Int
def dL.c (l:dL):List D:= [.int .i64 l.n, .int .i64 l.tx, .int .i64 l.txs, .int .i64 l.frame, .int .i64 l.heads]
def dL.ok (l:dL):Bool:=vN l.n 1 10 && vN l.tx 0 40 && vN l.txs 0 8 && vN l.frame 1 4000 && vN l.heads 3 5
def isNum (n:Int):Bool:=vN n 0 1152921504606846975
def hash (x:Bytes):Bool:=x.length==32
def hashes (l:List Bytes):Bool:=l.all hash
def Cy (n:Int):Int:=if n < 1 then 0 else(n - 1) / 8+1
def zB (b:Bytes) (i:Nat):Bool:=match b[i / 8]? with|some x=>x.toNat.testBit (i % 8)|none=>false
def kM (b:Bytes):List Nat:=(List.range (8 * b.length)).filter (zB b)
def vB (l:List Nat) (n:Int):Bool:=l.all fun i=>decide ((i:Int) < n)
def tZ (b:Bytes) (n:Int):Bool:=vN n 1 10 && decide ((b.length:Int)=Cy n) && vB (kM b) n
def sG (x:Nat):Nat:=((List.range 8).filter (x.testBit)).length
end Go.Eng.F
namespace Go.Eng.F
def mz (n:Int):Prop:= -9223372036854775808≤n∧n < 9223372036854775808
def Sz (n:Nat):Prop:=n≤1073741824
structure Qc where
 view:Int
 height:Int
 block:Bytes
 bits:Bytes
 tags:List Bytes
def Qc.c (q:Qc):List D:= [.int .i64 q.view, .int .i64 q.height, .sl (bytes q.block), .sl (bytes q.bits), .sl (dJ q.tags)]
def Qc.wf (q:Qc):Prop:=mz q.view∧mz q.height∧Sz q.block.length∧Sz q.bits.length∧Sz q.tags.length
def BX (l:dL) (q:Qc):Bool:=l.ok && isNum q.view && isNum q.height && hash q.block && tZ q.bits l.n && decide (q.tags.length=(kM q.bits).length) && hashes q.tags
structure Head where
 view:Int
 height:Int
 proposer:Int
 parent:Bytes
 root:Bytes
 qc:Qc
def Head.c (h:Head):List D:= [.int .i64 h.view, .int .i64 h.height, .int .i64 h.proposer, .sl (bytes h.parent), .sl (bytes h.root), .int .i64 h.qc.view, .int .i64 h.qc.height, .sl (bytes h.qc.block), .sl (bytes h.qc.bits), .sl (dJ h.qc.tags)]
def Head.wf (h:Head):Prop:=mz h.view∧mz h.height∧mz h.proposer∧Sz h.parent.length∧Sz h.root.length∧h.qc.wf
def fits (h:Head):Bool:=decide (h.qc.view < h.view) && decide (h.qc.height=h.height - 1) && decide (h.qc.block=h.parent)
def zi (l:dL) (h:Head):Bool:=BX l h.qc && isNum h.view && vN h.height 1 1152921504606846975 && vN h.proposer 0 (l.n - 1) && hash h.parent && hash h.root && fits h
def im (l:List Head):List (List D):=l.map Head.c
theorem jZ (l:List Head):(im l).length=l.length:=by simp[im]
theorem rU {l:List Head} {i:Nat} (h:i < l.length):(im l)[i]? =some l[i].c:=by simp[im,h]
def qW (hs:List Head):Prop:=Sz hs.length∧∀h∈hs,h.wf
end Go.Eng.F
namespace Go.Eng.F
structure Proof where
 heads:List Head
 qc:Qc
def Proof.c (p:Proof):List D:= [.sl (im p.heads), .int .i64 p.qc.view, .int .i64 p.qc.height, .sl (bytes p.qc.block), .sl (bytes p.qc.bits), .sl (dJ p.qc.tags)]
def Proof.wf (p:Proof):Prop:=qW p.heads∧p.qc.wf
def yO (p:Proof):Bool:=match p.heads[p.heads.length - 1]? with|some h=>decide (p.qc.view=h.view) && decide (p.qc.height=h.height)|none=>false
abbrev ew:Nat:=67
def et:AF:=⟨1,3,[.tmp 2],(.seq (.ops [.i (.mov 2 (.c (.val false [.nils])))]) (.seq (.ops [.i (.bse 3),qm 4 0, .i (.app 5 5 1 1 (.s 3) (.s 4)),qm 2 5]) .ret))⟩
theorem jk:cd ew=some et:=by kernel_rfl
theorem br (x:Bytes) (hx:x.length≤1099511627776):VC cd ew (dK [(false,[.sl (bytes x)])]) (fun rs _=>rs= [(false,[.o true (some (5,1)) (bytes x)])]):=by
 refine aI jk rfl ?_
 simp(disch:=omega) [et,VY]
abbrev f9:Nat:=57
def gm:AF:=⟨1,3,[.tmp 2],(.seq (.ops [.i (.mov 2 (.c (.val false [.nils])))]) (.seq (.ops [.i (.bse 3),qm 4 0, .i (.app 5 5 1 1 (.s 3) (.s 4)),qm 2 5]) .ret))⟩
theorem kP:cd f9=some gm:=by kernel_rfl
theorem bU (x:Bytes) (hx:x.length≤1099511627776):VC cd f9 (dK [(false,[.sl (bytes x)])]) (fun rs _=>rs= [(false,[.o true (some (5,1)) (bytes x)])]):=by
 refine aI kP rfl ?_
 simp(disch:=omega) [gm,VY]
def oG (l:List Bytes):Prop:=Sz l.length∧∀x∈l,Sz x.length
theorem oL {l:List Bytes} {i:Nat} (h:i < l.length):dJ (l.take i)++ [[.sl (bytes l[i])]]=dJ (l.take (i+1)):=by
 have e:dJ (l.take (i+1))=dJ (l.take i)++dJ [l[i]]:=by
  rw[List.take_add_one,List.getElem?_eq_getElem h];exact List.map_append
 rw[e];rfl
abbrev fk:Nat:=68
def fc:AF:=⟨1,5,[.tmp 2],(.seq (.ops [.i (.mov 2 (.c (.val false [.nils])))]) (.seq (.ops [.i (.bse 6),qm 3 6]) (.seq (.seq (.ops [qm 7 0,qn 8 7, .i (.mov 9 (qi 0))]) (.block 0 (.loop [18,17,16,15,14,13,12,11,10,5] (.seq (.ops [qd 10 .lss 9 8]) (.seq (.cond (.s 10) .skip (.exit 0)) (.seq (.block 1 (.seq (.ops [.i (.iad 11 (.s 7) (.s 9) 1), .i (.ldh 12 (.s 11) 1 false),qm 5 12]) (.ops [qm 13 3,qm 14 5,qk 16 67 14, .i (.lsl 16 1 1 [.nils] [(0,1,(.s 15))]), .i (.app 17 34 1 24 (.s 13) (.s 16)),qm 3 17]))) (.ops [.i (.bin 18 .add (.s 9) (qi 1)),qm 9 18]))))))) (.seq (.ops [qm 19 3,qm 2 19]) .ret))))⟩
theorem jU:cd fk=some fc:=by kernel_rfl
theorem fR (l:List Bytes) (hw:oG l):VC cd fk (dK [(false,[.sl (dJ l)])]) (fun rs _=>rs= [(false,[.o true (some (34,1)) (dJ l)])]):=by
 obtain⟨w1,w2⟩:=hw
 simp only[Sz]at w1 w2
 refine aI jU rfl ?_
 simp(disch:=omega) [fc,j0,VY]
 refine iN (σ:=Nat×Nat) (f1:=_) (es0:=_) (by simp(disch:=omega) [VY];rfl) (by simp(disch:=omega) [VY];rfl) (fun p=> [(9, .val false [.int .i64 p.1]),(3, .val false [.ow 6 p.2])]) (fun p=> [(6, .sl p.2 true true (some (34,1)) (dJ (l.take p.1)))])
  (fun p g=>g+p.1=l.length) (0,1) l.length (by simp(disch:=omega) [VY]) (by simp(disch:=omega) [dJ,VY]) (by omega) ?_
 rintro⟨i,v⟩ n g hg
 simp only at hg
 simp(disch:=omega) [VY]
 refine ec (fun h1=> ?_) (fun h1=> ?_)
 ·have hx:i < l.length:=by omega
  simp(disch:=omega) [sd hx,VY]
  refine bM (br l[i] (by have:=w2 _ (List.getElem_mem hx);omega)) rfl rfl ?_
  have hl:(dJ (l.take i)).length=i:=by rw[j0];simp;omega
  simp(disch:=omega) [hl,oL hx,VY]
  exact⟨i+1,n+1,g - 1,by omega,by omega,⟨by omega,by omega⟩,by omega,rfl⟩
 ·simp(disch:=omega) [VY]
  have:i=l.length:=by omega
  subst this
  rw[List.take_length]
abbrev fW:Nat:=58
def fT:AF:=⟨1,5,[.tmp 2],(.seq (.ops [.i (.mov 2 (.c (.val false [.nils])))]) (.seq (.ops [.i (.bse 6),qm 3 6]) (.seq (.seq (.ops [qm 7 0,qn 8 7, .i (.mov 9 (qi 0))]) (.block 0 (.loop [18,17,16,15,14,13,12,11,10,5] (.seq (.ops [qd 10 .lss 9 8]) (.seq (.cond (.s 10) .skip (.exit 0)) (.seq (.block 1 (.seq (.ops [.i (.iad 11 (.s 7) (.s 9) 1), .i (.ldh 12 (.s 11) 1 false),qm 5 12]) (.ops [qm 13 3,qm 14 5,qk 16 57 14, .i (.lsl 16 1 1 [.nils] [(0,1,(.s 15))]), .i (.app 17 34 1 24 (.s 13) (.s 16)),qm 3 17]))) (.ops [.i (.bin 18 .add (.s 9) (qi 1)),qm 9 18]))))))) (.seq (.ops [qm 19 3,qm 2 19]) .ret))))⟩
theorem kZ:cd fW=some fT:=by kernel_rfl
theorem iC (l:List Bytes) (hw:oG l):VC cd fW (dK [(false,[.sl (dJ l)])]) (fun rs _=>rs= [(false,[.o true (some (34,1)) (dJ l)])]):=by
 obtain⟨w1,w2⟩:=hw
 simp only[Sz]at w1 w2
 refine aI kZ rfl ?_
 simp(disch:=omega) [fT,j0,VY]
 refine iN (σ:=Nat×Nat) (f1:=_) (es0:=_) (by simp(disch:=omega) [VY];rfl) (by simp(disch:=omega) [VY];rfl) (fun p=> [(9, .val false [.int .i64 p.1]),(3, .val false [.ow 6 p.2])]) (fun p=> [(6, .sl p.2 true true (some (34,1)) (dJ (l.take p.1)))])
  (fun p g=>g+p.1=l.length) (0,1) l.length (by simp(disch:=omega) [VY]) (by simp(disch:=omega) [dJ,VY]) (by omega) ?_
 rintro⟨i,v⟩ n g hg
 simp only at hg
 simp(disch:=omega) [VY]
 refine ec (fun h1=> ?_) (fun h1=> ?_)
 ·have hx:i < l.length:=by omega
  simp(disch:=omega) [sd hx,VY]
  refine bM (bU l[i] (by have:=w2 _ (List.getElem_mem hx);omega)) rfl rfl ?_
  have hl:(dJ (l.take i)).length=i:=by rw[j0];simp;omega
  simp(disch:=omega) [hl,oL hx,VY]
  exact⟨i+1,n+1,g - 1,by omega,by omega,⟨by omega,by omega⟩,by omega,rfl⟩
 ·simp(disch:=omega) [VY]
  have:i=l.length:=by omega
  subst this
  rw[List.take_length]
def Qc.o (q:Qc):List E:= [.p (.int .i64 q.view), .p (.int .i64 q.height), .o true (some (5,1)) (bytes q.block), .o true (some (5,1)) (bytes q.bits), .o true (some (34,1)) (dJ q.tags)]
def Qc.wc (q:Qc):Prop:=q.wf∧∀x∈q.tags,Sz x.length
theorem Qc.wc.t {q:Qc} (h:q.wc):oG q.tags:=⟨h.1.2.2.2.2,h.2⟩
abbrev eP:Nat:=37
def ey:AF:=⟨1,5,[.cell 2 5 true],(.seq (.ops [.i (.lbox 1 (.s 0)), .i (.lal 2 [.int .i64 0, .int .i64 0, .nils, .nils, .nils])]) (.seq (.ops [qf 3 1 0,ql 4 1 3 1 false,qf 5 1 1,ql 6 1 5 1 false,qf 7 1 2,ql 8 1 7 1 false,qk 10 67 8,qf 10 1 3,ql 11 1 10 1 false,qk 13 67 11,qf 13 1 4,ql 14 1 13 1 false,qk 16 68 14, .i (.bld 16 [.int .i64 0, .int .i64 0, .nils, .nils, .nils] [(0,1,(.s 4)),(1,1,(.s 6)),(2,1,(.s 9)),(3,1,(.s 12)),(4,1,(.s 15))]),qs 2 2 16 5]) .ret))⟩
theorem jn:cd eP=some ey:=by kernel_rfl
theorem eV (q:Qc) (hw:q.wc):VC cd eP (dK [(true,q.c)]) (fun rs _=>rs= [(true,q.o)]):=by
 have ht:=hw.t
 obtain⟨⟨w1,w2,w3,w4,w5⟩,w6⟩:=hw
 simp only[Sz]at w3 w4
 refine aI jn rfl ?_
 simp(disch:=omega) [ey,Qc.c,VY]
 refine bM (br _ (by omega)) rfl rfl ?_
 simp(disch:=omega) [VY]
 refine bM (br _ (by omega)) rfl rfl ?_
 simp(disch:=omega) [VY]
 refine bM (fR _ ht) rfl rfl ?_
 simp(disch:=omega) [Qc.o,VY]
abbrev gr:Nat:=29
def fD:AF:=⟨1,5,[.cell 2 5 true],(.seq (.ops [.i (.lbox 1 (.s 0)), .i (.lal 2 [.int .i64 0, .int .i64 0, .nils, .nils, .nils])]) (.seq (.ops [qf 3 1 0,ql 4 1 3 1 false,qf 5 1 1,ql 6 1 5 1 false,qf 7 1 2,ql 8 1 7 1 false,qk 10 57 8,qf 10 1 3,ql 11 1 10 1 false,qk 13 57 11,qf 13 1 4,ql 14 1 13 1 false,qk 16 58 14, .i (.bld 16 [.int .i64 0, .int .i64 0, .nils, .nils, .nils] [(0,1,(.s 4)),(1,1,(.s 6)),(2,1,(.s 9)),(3,1,(.s 12)),(4,1,(.s 15))]),qs 2 2 16 5]) .ret))⟩
theorem lu:cd gr=some fD:=by kernel_rfl
theorem iq (q:Qc) (hw:q.wc):VC cd gr (dK [(true,q.c)]) (fun rs _=>rs= [(true,q.o)]):=by
 have ht:=hw.t
 obtain⟨⟨w1,w2,w3,w4,w5⟩,w6⟩:=hw
 simp only[Sz]at w3 w4
 refine aI lu rfl ?_
 simp(disch:=omega) [fD,Qc.c,VY]
 refine bM (bU _ (by omega)) rfl rfl ?_
 simp(disch:=omega) [VY]
 refine bM (bU _ (by omega)) rfl rfl ?_
 simp(disch:=omega) [VY]
 refine bM (iC _ ht) rfl rfl ?_
 simp(disch:=omega) [Qc.o,VY]
def Head.o (h:Head):List E:= [.p (.int .i64 h.view), .p (.int .i64 h.height), .p (.int .i64 h.proposer), .o true (some (5,1)) (bytes h.parent), .o true (some (5,1)) (bytes h.root), .p (.int .i64 h.qc.view), .p (.int .i64 h.qc.height), .o true (some (5,1)) (bytes h.qc.block), .o true (some (5,1)) (bytes h.qc.bits), .o true (some (34,1)) (dJ h.qc.tags)]
def Head.wc (h:Head):Prop:=h.wf∧∀x∈h.qc.tags,Sz x.length
abbrev dT:Nat:=38
def dY:AF:=⟨1,5,[.cell 2 10 true],(.seq (.ops [.i (.lbox 1 (.s 0)), .i (.lal 2 qz)]) (.seq (.ops [qf 3 1 0,ql 4 1 3 1 false,qf 5 1 1,ql 6 1 5 1 false,qf 7 1 2,ql 8 1 7 1 false,qf 9 1 3,ql 10 1 9 1 false,qk 12 67 10,qf 12 1 4,ql 13 1 12 1 false,qk 15 67 13,qf 15 1 5,ql 16 1 15 5 true,qk 18 37 16, .i (.bld 18 qz [(0,1,(.s 4)),(1,1,(.s 6)),(2,1,(.s 8)),(3,1,(.s 11)),(4,1,(.s 14)),(5,5,(.s 17))]),qs 2 2 18 10]) .ret))⟩
theorem ie:cd dT=some dY:=by kernel_rfl
theorem dS (h:Head) (hw:h.wc):VC cd dT (dK [(true,h.c)]) (fun rs _=>rs= [(true,h.o)]):=by
 obtain⟨⟨w1,w2,w3,w4,w5,w6⟩,w7⟩:=hw
 simp only[Sz]at w4 w5
 refine aI ie rfl ?_
 simp(disch:=omega) [dY,Head.c,VY]
 refine bM (br _ (by omega)) rfl rfl ?_
 simp(disch:=omega) [VY]
 refine bM (br _ (by omega)) rfl rfl ?_
 simp(disch:=omega) [VY]
 refine bM (eV h.qc ⟨w6,w7⟩) rfl rfl ?_
 simp(disch:=omega) [Head.o,Qc.o,VY]
abbrev gd:Nat:=30
def fX:AF:=⟨1,5,[.cell 2 10 true],(.seq (.ops [.i (.lbox 1 (.s 0)), .i (.lal 2 qz)]) (.seq (.ops [qf 3 1 0,ql 4 1 3 1 false,qf 5 1 1,ql 6 1 5 1 false,qf 7 1 2,ql 8 1 7 1 false,qf 9 1 3,ql 10 1 9 1 false,qk 12 57 10,qf 12 1 4,ql 13 1 12 1 false,qk 15 57 13,qf 15 1 5,ql 16 1 15 5 true,qk 18 29 16, .i (.bld 18 qz [(0,1,(.s 4)),(1,1,(.s 6)),(2,1,(.s 8)),(3,1,(.s 11)),(4,1,(.s 14)),(5,5,(.s 17))]),qs 2 2 18 10]) .ret))⟩
theorem lp:cd gd=some fX:=by kernel_rfl
theorem hY (h:Head) (hw:h.wc):VC cd gd (dK [(true,h.c)]) (fun rs _=>rs= [(true,h.o)]):=by
 obtain⟨⟨w1,w2,w3,w4,w5,w6⟩,w7⟩:=hw
 simp only[Sz]at w4 w5
 refine aI lp rfl ?_
 simp(disch:=omega) [fX,Head.c,VY]
 refine bM (bU _ (by omega)) rfl rfl ?_
 simp(disch:=omega) [VY]
 refine bM (bU _ (by omega)) rfl rfl ?_
 simp(disch:=omega) [VY]
 refine bM (iq h.qc ⟨w6,w7⟩) rfl rfl ?_
 simp(disch:=omega) [Head.o,Qc.o,VY]
end Go.Eng.F
namespace Go.Eng.F
def turn (x:Int) (n:Nat):Int:=aS .and .i64 (aS .or .i64 (x.fdiv (2 ^ n)) (IntKind.i64.wrap (x * 2 ^ (32 - n)))) 4294967295
def zc (n:Nat):Nat:=(119 - n % 64) % 64
def AU (n:Nat):Bytes:=(List.range 8).map fun k=>UInt8.ofNat (n / 2 ^ (8 * (7 - k)))
def pad (b:Bytes):Bytes:=b++ [128]++List.replicate (zc b.length) 0++AU (8 * b.length)
def gi (l:List Int) (i:Nat):Int:=l.getD i 0
def init:List Int:= [1779033703,3144134277,1013904242,2773480762,1359893119,2600822924,528734635,1541459225]
def kk:List Int:= [1116352408,1899447441,3049323471,3921009573,961987163,1508970993,2453635748,2870763221,3624381080,310598401,607225278,1426881987,1925078388,2162078206,2614888103,3248222580,3835390401,4022224774,264347078,604807628,770255983,1249150122,1555081692,1996064986,2554220882,2821834349,2952996808,3210313671,3336571891,3584528711,113926993,338241895,666307205,773529912,1294757372,1396182291,1695183700,1986661051,2177026350,2456956037,2730485921,2820302411,3259730800,3345764771,3516065817,3600352804,4094571909,275423344,430227734,506948616,659060556,883997877,958139571,1322822218,1537002063,1747873779,1955562222,2024104815,2227730452,2361852424,2428436474,2756734187,3204031479,3329325298]
def gb (b:Bytes) (i:Nat):Int:=((b.getD i 0).toNat:Int)
def bw (b:Bytes) (i:Nat):Int:=aS .or .i64 (aS .or .i64 (aS .or .i64 (IntKind.i64.wrap (gb b i * 2 ^ min 24 IntKind.i64.bits)) (IntKind.i64.wrap (gb b (i+1) * 2 ^ min 16 IntKind.i64.bits))) (IntKind.i64.wrap (gb b (i+2) * 2 ^ min 8 IntKind.i64.bits))) (gb b (i+3))
def CS (x:Int):Int:=aS .xor .i64 (aS .xor .i64 (turn x 7) (turn x 18)) (x.fdiv (2 ^ min 3 IntKind.i64.bits))
def DW (x:Int):Int:=aS .xor .i64 (aS .xor .i64 (turn x 17) (turn x 19)) (x.fdiv (2 ^ min 10 IntKind.i64.bits))
def BC (a x c y:Int):Int:=aS .and .i64 (IntKind.i64.wrap (IntKind.i64.wrap (IntKind.i64.wrap (a+CS x)+c)+DW y)) 4294967295
def qq (b:Bytes):Nat→List Int
 |0=> []
 |n+1=>qq b n++ [if n < 16 then bw b (4 * n)else BC (gi (qq b n) (n - 16)) (gi (qq b n) (n - 15)) (gi (qq b n) (n - 7)) (gi (qq b n) (n - 2))]
def sT (v:List Int) (k w:Int):Int:=IntKind.i64.wrap (IntKind.i64.wrap (IntKind.i64.wrap (IntKind.i64.wrap (gi v 7+aS .xor .i64 (aS .xor .i64 (turn (gi v 4) 6) (turn (gi v 4) 11)) (turn (gi v 4) 25))+aS .xor .i64 (aS .and .i64 (gi v 4) (gi v 5)) (aS .and .i64 (aS .xor .i64 4294967295 (gi v 4)) (gi v 6)))+k)+w)
def sU (v:List Int):Int:=IntKind.i64.wrap (aS .xor .i64 (aS .xor .i64 (turn (gi v 0) 2) (turn (gi v 0) 13)) (turn (gi v 0) 22)+aS .xor .i64 (aS .xor .i64 (aS .and .i64 (gi v 0) (gi v 1)) (aS .and .i64 (gi v 0) (gi v 2))) (aS .and .i64 (gi v 1) (gi v 2)))
def Dv (v:List Int) (k w:Int):List Int:= [aS .and .i64 (IntKind.i64.wrap (sT v k w+sU v)) 4294967295,gi v 0,gi v 1,gi v 2,aS .and .i64 (IntKind.i64.wrap (gi v 3+sT v k w)) 4294967295,gi v 4,gi v 5,gi v 6]
def Bf (h:List Int) (b:Bytes):Nat→List Int
 |0=>h
 |n+1=>Dv (Bf h b n) (gi kk n) (gi (qq b 64) n)
def BZ (h:List Int) (b:Bytes):List Int:=(List.range 8).map fun i=>aS .and .i64 (IntKind.i64.wrap (gi h i+gi (Bf h b 64) i)) 4294967295
end Go.Eng.F
namespace Go.Eng.F
end Go.Eng.F
namespace Go.Eng.F
def arr (b:Bytes) (k:Nat):List Int:=qq b k++List.replicate (64 - k) 0
end Go.Eng.F
namespace Go.Eng.F
end Go.Eng.F
namespace Go.Eng.F
def hs (b:Bytes):Nat→List Int
 |0=>init
 |n+1=>BZ (hs b n) (((pad b).drop (64 * n)).take 64)
def b8 (y:Int):UInt8:=UInt8.ofNat (IntKind.u8.wrap y).toNat
def w4 (x:Int):Bytes:= [b8 (x.fdiv (2 ^ min 24 IntKind.i64.bits)),b8 (x.fdiv (2 ^ min 16 IntKind.i64.bits)),b8 (x.fdiv (2 ^ min 8 IntKind.i64.bits)),b8 x]
def BJ (b:Bytes):Bytes:=(hs b ((pad b).length / 64)).flatMap w4
end Go.Eng.F
namespace Go.Eng.F
def AL (n k:Nat):Nat:=if h:0 < k∧k < n - k then AL n (2 * k)else k
termination_by n - k
decreasing_by omega
def splitAt (n:Nat):Nat:=if n < 2 then 0 else AL n 1
theorem yY (n:Nat):∀(g k:Nat),g=n - k→0 < k→k < n→k≤AL n k∧AL n k < n:=by
 intro g
 induction g using Nat.strongRecOn with
 |ind g ih=>
 intro k hg h0 hk
 rw[AL]
 split
 ·rename_i h
  have:=ih (n - 2 * k) (by omega) (2 * k) rfl (by omega) (by omega)
  omega
 ·omega
theorem ly {n:Nat} (h:2≤n):0 < splitAt n∧splitAt n < n:=by
 rw[splitAt,if_neg (by omega)]
 have:=yY n _ 1 rfl (by omega) (by omega)
 omega
def lB (l:List Bytes):Bytes:=match l with
 | []=>BJ []
 | [x]=>BJ (0::x)
 |a::b::r=>BJ (1::lB ((a::b::r).take (splitAt (a::b::r).length))++lB ((a::b::r).drop (splitAt (a::b::r).length)))
termination_by l.length
decreasing_by
 all_goals
  have:=ly (n:=(a::b::r).length) (by simp)
  simp only[List.length_take,List.length_drop,List.length_cons]at *
  omega
end Go.Eng.F
namespace Go.Eng.F
def sg (n:Nat):Bytes:=if n < 128 then [UInt8.ofNat n]else UInt8.ofNat (n % 128+128)::sg (n / 128)
termination_by n
decreasing_by omega
def Di (q:Qc):Bytes:=sg q.view.toNat++sg q.height.toNat++q.block++q.bits++q.tags.flatten
def AG (h:Head):Bytes:=sg h.view.toNat++sg h.height.toNat++sg h.proposer.toNat++h.parent++h.root++Di h.qc
def AW (l:dL) (h:Head):Bytes:=if zi l h then BJ (72::AG h)else []
end Go.Eng.F
namespace Go.Eng.F
open Go.Eng.U (j8 bd bE cj)
theorem cc {n:Int} (h:IntKind.i64.min≤n∧n≤IntKind.i64.max):mz n:=by
 have h1:IntKind.i64.min= -9223372036854775808:=rfl
 have h2:IntKind.i64.max=9223372036854775807:=rfl
 unfold mz
 omega
theorem bX (l:List Bytes):enc (.sl (.sl (.int .u8))) (jz l)= [.sl (dJ l)]:=xr l
theorem bS (k:IntKind) (n:Int):enc (.int k) (.i n)= [.int k n]:=rfl
theorem cG (b:Bool):enc .bool (.b b)= [.bool b]:=rfl
theorem cA (ts:List Ty) (vs:List Tv):enc (.st ts) (.r vs)=iH ts vs:=rfl
theorem aW (t:Ty) (ts:List Ty) (v:Tv) (vs:List Tv):iH (t::ts) (v::vs)=enc t v++iH ts vs:=rfl
theorem bo:iH [] []= []:=rfl
theorem jq (t:Ty) (xs:List Tv):enc (.sl t) (.l xs)= [.sl (xs.map (enc t))]:=rfl
theorem bn {t:Ty} {ts:List Ty} {v:Tv} {vs:List Tv}:cp (t::ts) (v::vs)↔ax t v∧cp ts vs:=by simp only[cp]
theorem c7 {ts:List Ty} {vs:List Tv}:ax (.st ts) (.r vs)↔cp ts vs:=by simp only[ax]
theorem ok_int {k:IntKind} {n:Int}:ax (.int k) (.i n)↔k.min≤n∧n≤k.max:=by simp only[ax]
theorem oF {t:Ty} {xs:List Tv}:ax (.sl t) (.l xs)↔xs.length≤maxLen∧∀x∈xs,ax t x:=by simp only[ax]
theorem hU {x:Bytes} (h:wt (l8 x)≤1048576):Sz x.length:=by rw[tj]at h;unfold Sz;omega
theorem pY {l:List Bytes} (h:wt (jz l)≤1048576):Sz l.length∧∀x∈l,Sz x.length:=by
 obtain⟨h1,h2⟩:=u9 l
 unfold Sz
 exact⟨by omega,fun x hx=>by have:=h2 x hx;omega⟩
theorem dt (l:List Int):enc (.sl (.int .i64)) (yE l)= [.sl (l.map fun n=> [.int .i64 n])]:=by
 simp only[yE,jq,List.map_map]
 congr 2
theorem di (s:ByteArray):enc .str (.s s)= [.str s]:=rfl
def dL.tv (l:dL):Tv:= .r [.i l.n, .i l.tx, .i l.txs, .i l.frame, .i l.heads]
theorem dL.enc (l:dL):enc bE l.tv=l.c:=rfl
theorem dL.ex {v:Tv} (h:ax bE v):∃l:dL,v=l.tv:=by
 obtain⟨vs,rfl,h⟩:=h.st
 obtain⟨v0,_,rfl,h0,h⟩:=h.step
 obtain⟨v1,_,rfl,h1,h⟩:=h.step
 obtain⟨v2,_,rfl,h2,h⟩:=h.step
 obtain⟨v3,_,rfl,h3,h⟩:=h.step
 obtain⟨v4,_,rfl,h4,h⟩:=h.step
 obtain rfl:=h.fin
 obtain⟨n0,rfl,_⟩:=h0.int
 obtain⟨n1,rfl,_⟩:=h1.int
 obtain⟨n2,rfl,_⟩:=h2.int
 obtain⟨n3,rfl,_⟩:=h3.int
 obtain⟨n4,rfl,_⟩:=h4.int
 exact⟨⟨n0,n1,n2,n3,n4⟩,rfl⟩
def Qc.tv (q:Qc):Tv:= .r [.i q.view, .i q.height,l8 q.block,l8 q.bits,jz q.tags]
theorem Qc.enc (q:Qc):enc j8 q.tv=q.c:=by simp only[Qc.tv,cA,aW,bo,bS,dg,bX,Qc.c,List.cons_append,List.nil_append]
theorem Qc.ex {v:Tv} (h:ax j8 v):∃q:Qc,v=q.tv:=by
 obtain⟨vs,rfl,h⟩:=h.st
 obtain⟨v0,_,rfl,h0,h⟩:=h.step
 obtain⟨v1,_,rfl,h1,h⟩:=h.step
 obtain⟨v2,_,rfl,h2,h⟩:=h.step
 obtain⟨v3,_,rfl,h3,h⟩:=h.step
 obtain⟨v4,_,rfl,h4,h⟩:=h.step
 obtain rfl:=h.fin
 obtain⟨n0,rfl,_⟩:=h0.int
 obtain⟨n1,rfl,_⟩:=h1.int
 obtain⟨n2,rfl⟩:=dU h2
 obtain⟨n3,rfl⟩:=dU h3
 obtain⟨n4,rfl⟩:=mJ h4
 exact⟨⟨n0,n1,n2,n3,n4⟩,rfl⟩
theorem Qc.of {q:Qc} (h:ax j8 q.tv) (hw:wt q.tv≤1048576):q.wc:=by
 simp only[Qc.tv,c7,bn,ok_int]at h
 simp only[Qc.tv,wt,bI]at hw
 obtain⟨h0,h1,_⟩:=h
 have h4:=pY (l:=q.tags) (by omega)
 exact⟨⟨cc h0,cc h1,hU (by omega),hU (by omega),h4.1⟩,h4.2⟩
theorem Qc.rs (q:Qc):m0 q.o (Go.Eng.enc j8 q.tv):=by
 rw[Qc.enc]
 simp only[Qc.o,Qc.c,m0,D.leaf,and_self]
def Head.tv (h:Head):Tv:= .r [.i h.view, .i h.height, .i h.proposer,l8 h.parent,l8 h.root,h.qc.tv]
theorem Head.enc (h:Head):enc bd h.tv=h.c:=by simp only[Head.tv,Qc.enc,cA,aW,bo,bS,dg,bX,Head.c,Qc.c,List.cons_append,List.nil_append]
theorem Head.ex {v:Tv} (h:ax bd v):∃q:Head,v=q.tv:=by
 obtain⟨vs,rfl,h⟩:=h.st
 obtain⟨v0,_,rfl,h0,h⟩:=h.step
 obtain⟨v1,_,rfl,h1,h⟩:=h.step
 obtain⟨v2,_,rfl,h2,h⟩:=h.step
 obtain⟨v3,_,rfl,h3,h⟩:=h.step
 obtain⟨v4,_,rfl,h4,h⟩:=h.step
 obtain⟨v5,_,rfl,h5,h⟩:=h.step
 obtain rfl:=h.fin
 obtain⟨n0,rfl,_⟩:=h0.int
 obtain⟨n1,rfl,_⟩:=h1.int
 obtain⟨n2,rfl,_⟩:=h2.int
 obtain⟨n3,rfl⟩:=dU h3
 obtain⟨n4,rfl⟩:=dU h4
 obtain⟨n5,rfl⟩:=Qc.ex h5
 exact⟨⟨n0,n1,n2,n3,n4,n5⟩,rfl⟩
theorem Head.of {q:Head} (h:ax bd q.tv) (hw:wt q.tv≤1048576):q.wc:=by
 simp only[Head.tv,c7,bn]at h
 simp only[Head.tv,wt,bI]at hw
 obtain⟨h0,h1,h2,_,_,h5,_⟩:=h
 have h4:=Qc.of h5 (by omega)
 exact⟨⟨cc (ok_int.1 h0),cc (ok_int.1 h1),cc (ok_int.1 h2),hU (by omega),hU (by omega),h4.1⟩,h4.2⟩
theorem Head.rs (q:Head):m0 q.o (Go.Eng.enc bd q.tv):=by
 rw[Head.enc]
 simp only[Head.o,Head.c,m0,D.leaf,and_self]
def jT (l:List Head):Tv:= .l (l.map Head.tv)
theorem gH (l:List Head):enc (.sl bd) (jT l)= [.sl (im l)]:=by
 simp only[jT,jq,List.map_map,im]
 congr 2
 exact List.map_congr_left fun x _=>Head.enc x
theorem kb {v:Tv} (h:ax (.sl bd) v):∃l,v=jT l:=by
 obtain⟨xs,rfl,_,h2⟩:=h.sl
 obtain⟨ys,rfl⟩:=eT (f:=Head.tv) (P:=ax bd) (fun v hv=>Head.ex hv) h2
 exact⟨ys,rfl⟩
theorem nz {l:List Head} (h:ax (.sl bd) (jT l)) (hw:wt (jT l)≤1048576):Sz l.length∧∀x∈l,x.wc:=by
 unfold jT at h hw
 rw[qy]at hw
 have h2:=(oF.1 h).2
 simp only[List.length_map]at hw
 refine⟨by unfold Sz;omega,fun x hx=>Head.of (h2 _ (List.mem_map_of_mem hx)) ?_⟩
 have:=gJ (f:=Head.tv) hx
 omega
def Proof.tv (p:Proof):Tv:= .r [jT p.heads,p.qc.tv]
theorem Proof.enc (p:Proof):enc cj p.tv=p.c:=by simp only[Proof.tv,Qc.enc,gH,cA,aW,bo,bS,Proof.c,Qc.c,List.cons_append,List.nil_append]
theorem Proof.ex {v:Tv} (h:ax cj v):∃q:Proof,v=q.tv:=by
 obtain⟨vs,rfl,h⟩:=h.st
 obtain⟨v0,_,rfl,h0,h⟩:=h.step
 obtain⟨v1,_,rfl,h1,h⟩:=h.step
 obtain rfl:=h.fin
 obtain⟨n0,rfl⟩:=kb h0
 obtain⟨n1,rfl⟩:=Qc.ex h1
 exact⟨⟨n0,n1⟩,rfl⟩
theorem Proof.of {q:Proof} (h:ax cj q.tv) (hw:wt q.tv≤1048576):q.wf∧(∀h∈q.heads,h.wc)∧q.qc.wc:=by
 simp only[Proof.tv,c7,bn]at h
 simp only[Proof.tv,wt,bI]at hw
 obtain⟨h0,h1,_⟩:=h
 have h4:=Qc.of h1 (by omega)
 have h5:=nz h0 (by omega)
 exact⟨⟨⟨h5.1,fun h hh=>(h5.2 h hh).1⟩,h4.1⟩,h5.2,h4⟩
theorem _root_.Go.Eng.cI.Ck {h:H} {T:Ty} {v:Tv} {al:List (Ty×Tv)} {ms:List (Bool×List C)} (ha:cI h ((T,v)::al) ms):ax T v∧∃mr,cI h al mr:=by
 obtain⟨cs,mr,rfl,⟨S,h1⟩,h2⟩:=ha
 exact⟨h1.ok,mr,h2⟩
def Co (h:H) (ts:List (Ty×Tv)) (r:V) (h':H):Prop:=∃t css S,h'=h++t∧r=cO css∧rr h' ts css S∧cz h' S∧∀i∈S,h.length≤i
end Go.Eng.F
namespace Go.Eng.F
open Go.Eng.U (j8 bd bE cj dA dc)
theorem oe {l:List Head} {i:Nat} (h:i < l.length):im (l.take i)++ [l[i].c]=im (l.take (i+1)):=by
 have e:im (l.take (i+1))=im (l.take i)++im [l[i]]:=by
  rw[List.take_add_one,List.getElem?_eq_getElem h];exact List.map_append
 rw[e];rfl
abbrev eK:Nat:=69
def eC:AF:=⟨1,5,[.tmp 2],(.seq (.ops [.i (.mov 2 (.c (.val false [.nils])))]) (.seq (.ops [.i (.bse 6),qm 3 6]) (.seq (.seq (.ops [qm 7 0,qn 8 7, .i (.mov 9 (qi 0))]) (.block 0 (.loop [18,17,16,15,14,13,12,11,10,5] (.seq (.ops [qd 10 .lss 9 8]) (.seq (.cond (.s 10) .skip (.exit 0)) (.seq (.block 1 (.seq (.ops [.i (.iad 11 (.s 7) (.s 9) 10), .i (.ldh 12 (.s 11) 10 true), .i (.lal 5 qz),qs 5 5 12 10]) (.ops [qm 13 3,ql 14 5 5 10 true,qk 16 38 14, .i (.lsl 16 10 1 qz [(0,10,(.s 15))]), .i (.app 17 59 10 160 (.s 13) (.s 16)),qm 3 17]))) (.ops [.i (.bin 18 .add (.s 9) (qi 1)),qm 9 18]))))))) (.seq (.ops [qm 19 3,qm 2 19]) .ret))))⟩
theorem jy:cd eK=some eC:=by kernel_rfl
theorem nJ (l:List Head) (h0:Sz l.length) (hw:∀h∈l,h.wc):VC cd eK (dK [(false,[.sl (im l)])]) (fun rs _=>rs= [(false,[.o true (some (59,10)) (im l)])]):=by
 simp only[Sz]at h0
 refine aI jy rfl ?_
 simp(disch:=omega) [eC,jZ,VY]
 refine iN (σ:=Nat×Nat) (f1:=_) (es0:=_) (by simp(disch:=omega) [VY];rfl) (by simp(disch:=omega) [VY];rfl) (fun p=> [(9, .val false [.int .i64 p.1]),(3, .val false [.ow 6 p.2])]) (fun p=> [(6, .sl p.2 true true (some (59,10)) (im (l.take p.1)))])
  (fun p g=>g+p.1=l.length) (0,1) l.length (by simp(disch:=omega) [VY]) (by simp(disch:=omega) [im,VY]) (by omega) ?_
 rintro⟨i,v⟩ n g hg
 simp only at hg
 simp(disch:=omega) [VY]
 refine ec (fun h1=> ?_) (fun h1=> ?_)
 ·have hx:i < l.length:=by omega
  simp(disch:=omega) [rU hx,Head.c,VY]
  refine bM (dS l[i] (hw _ (List.getElem_mem hx))) rfl rfl ?_
  have hl:(im (l.take i)).length=i:=by rw[jZ];simp;omega
  have hs:=oe hx
  simp only[Head.c]at hs
  simp(disch:=omega) [hl,Head.o,hs,VY]
  exact⟨i+1,n+10,g - 1,by omega,by omega,⟨by omega,by omega⟩,by omega,rfl⟩
 ·simp(disch:=omega) [VY]
  have:i=l.length:=by omega
  subst this
  rw[List.take_length]
abbrev fh:Nat:=59
def fm:AF:=⟨1,5,[.tmp 2],(.seq (.ops [.i (.mov 2 (.c (.val false [.nils])))]) (.seq (.ops [.i (.bse 6),qm 3 6]) (.seq (.seq (.ops [qm 7 0,qn 8 7, .i (.mov 9 (qi 0))]) (.block 0 (.loop [18,17,16,15,14,13,12,11,10,5] (.seq (.ops [qd 10 .lss 9 8]) (.seq (.cond (.s 10) .skip (.exit 0)) (.seq (.block 1 (.seq (.ops [.i (.iad 11 (.s 7) (.s 9) 10), .i (.ldh 12 (.s 11) 10 true), .i (.lal 5 qz),qs 5 5 12 10]) (.ops [qm 13 3,ql 14 5 5 10 true,qk 16 30 14, .i (.lsl 16 10 1 qz [(0,10,(.s 15))]), .i (.app 17 59 10 160 (.s 13) (.s 16)),qm 3 17]))) (.ops [.i (.bin 18 .add (.s 9) (qi 1)),qm 9 18]))))))) (.seq (.ops [qm 19 3,qm 2 19]) .ret))))⟩
theorem jW:cd fh=some fm:=by kernel_rfl
theorem pr (l:List Head) (h0:Sz l.length) (hw:∀h∈l,h.wc):VC cd fh (dK [(false,[.sl (im l)])]) (fun rs _=>rs= [(false,[.o true (some (59,10)) (im l)])]):=by
 simp only[Sz]at h0
 refine aI jW rfl ?_
 simp(disch:=omega) [fm,jZ,VY]
 refine iN (σ:=Nat×Nat) (f1:=_) (es0:=_) (by simp(disch:=omega) [VY];rfl) (by simp(disch:=omega) [VY];rfl) (fun p=> [(9, .val false [.int .i64 p.1]),(3, .val false [.ow 6 p.2])]) (fun p=> [(6, .sl p.2 true true (some (59,10)) (im (l.take p.1)))])
  (fun p g=>g+p.1=l.length) (0,1) l.length (by simp(disch:=omega) [VY]) (by simp(disch:=omega) [im,VY]) (by omega) ?_
 rintro⟨i,v⟩ n g hg
 simp only at hg
 simp(disch:=omega) [VY]
 refine ec (fun h1=> ?_) (fun h1=> ?_)
 ·have hx:i < l.length:=by omega
  simp(disch:=omega) [rU hx,Head.c,VY]
  refine bM (hY l[i] (hw _ (List.getElem_mem hx))) rfl rfl ?_
  have hl:(im (l.take i)).length=i:=by rw[jZ];simp;omega
  have hs:=oe hx
  simp only[Head.c]at hs
  simp(disch:=omega) [hl,Head.o,hs,VY]
  exact⟨i+1,n+10,g - 1,by omega,by omega,⟨by omega,by omega⟩,by omega,rfl⟩
 ·simp(disch:=omega) [VY]
  have:i=l.length:=by omega
  subst this
  rw[List.take_length]
def Proof.wc (p:Proof):Prop:=p.wf∧(∀h∈p.heads,h.wc)∧p.qc.wc
def Proof.o (p:Proof):List E:= [.o true (some (59,10)) (im p.heads), .p (.int .i64 p.qc.view), .p (.int .i64 p.qc.height), .o true (some (5,1)) (bytes p.qc.block), .o true (some (5,1)) (bytes p.qc.bits), .o true (some (34,1)) (dJ p.qc.tags)]
abbrev dD:Nat:=41
def dB:AF:=⟨1,4,[.cell 2 6 true],(.seq (.ops [.i (.lbox 1 (.s 0)), .i (.lal 2 [.nils, .int .i64 0, .int .i64 0, .nils, .nils, .nils])]) (.seq (.ops [qf 3 1 0,ql 4 1 3 1 false,qk 6 69 4,qf 6 1 1,ql 7 1 6 5 true,qk 9 37 7, .i (.bld 9 [.nils, .int .i64 0, .int .i64 0, .nils, .nils, .nils] [(0,1,(.s 5)),(1,5,(.s 8))]),qs 2 2 9 6]) .ret))⟩
theorem gX:cd dD=some dB:=by kernel_rfl
theorem jX (p:Proof) (hw:p.wc):VC cd dD (dK [(true,p.c)]) (fun rs _=>rs= [(true,p.o)]):=by
 refine aI gX rfl ?_
 simp(disch:=omega) [dB,Proof.c,VY]
 refine bM (nJ p.heads hw.1.1.1 hw.2.1) rfl rfl ?_
 simp(disch:=omega) [VY]
 refine bM (eV p.qc hw.2.2) rfl rfl ?_
 simp(disch:=omega) [Proof.o,Qc.o,VY]
abbrev fN:Nat:=33
def gk:AF:=⟨1,4,[.cell 2 6 true],(.seq (.ops [.i (.lbox 1 (.s 0)), .i (.lal 2 [.nils, .int .i64 0, .int .i64 0, .nils, .nils, .nils])]) (.seq (.ops [qf 3 1 0,ql 4 1 3 1 false,qk 6 59 4,qf 6 1 1,ql 7 1 6 5 true,qk 9 29 7, .i (.bld 9 [.nils, .int .i64 0, .int .i64 0, .nils, .nils, .nils] [(0,1,(.s 5)),(1,5,(.s 8))]),qs 2 2 9 6]) .ret))⟩
theorem kr:cd fN=some gk:=by kernel_rfl
theorem p0 (p:Proof) (hw:p.wc):VC cd fN (dK [(true,p.c)]) (fun rs _=>rs= [(true,p.o)]):=by
 refine aI kr rfl ?_
 simp(disch:=omega) [gk,Proof.c,VY]
 refine bM (pr p.heads hw.1.1.1 hw.2.1) rfl rfl ?_
 simp(disch:=omega) [VY]
 refine bM (iq p.qc hw.2.2) rfl rfl ?_
 simp(disch:=omega) [Proof.o,Qc.o,VY]
theorem Proof.Cm {q:Proof} (h:ax cj q.tv) (hw:wt q.tv≤1048576):q.wc:=Proof.of h hw
structure Block where
 head:Head
 txs:List Bytes
def Block.c (x:Block):List D:=x.head.c++ [.sl (dJ x.txs)]
def Block.wc (x:Block):Prop:=x.head.wc∧oG x.txs
def Block.o (x:Block):List E:= [.p (.int .i64 x.head.view), .p (.int .i64 x.head.height), .p (.int .i64 x.head.proposer), .o true (some (5,1)) (bytes x.head.parent), .o true (some (5,1)) (bytes x.head.root), .p (.int .i64 x.head.qc.view), .p (.int .i64 x.head.qc.height), .o true (some (5,1)) (bytes x.head.qc.block), .o true (some (5,1)) (bytes x.head.qc.bits), .o true (some (34,1)) (dJ x.head.qc.tags), .o true (some (34,1)) (dJ x.txs)]
abbrev dF:Nat:=39
def dE:AF:=⟨1,4,[.cell 2 11 true],(.seq (.ops [.i (.lbox 1 (.s 0)), .i (.lal 2 [.int .i64 0, .int .i64 0, .int .i64 0, .nils, .nils, .int .i64 0, .int .i64 0, .nils, .nils, .nils, .nils])]) (.seq (.ops [qf 3 1 0,ql 4 1 3 10 true,qk 6 38 4,qf 6 1 10,ql 7 1 6 1 false,qk 9 68 7, .i (.bld 9 [.int .i64 0, .int .i64 0, .int .i64 0, .nils, .nils, .int .i64 0, .int .i64 0, .nils, .nils, .nils, .nils] [(0,10,(.s 5)),(10,1,(.s 8))]),qs 2 2 9 11]) .ret))⟩
theorem gR:cd dF=some dE:=by kernel_rfl
theorem jS (x:Block) (hw:x.wc):VC cd dF (dK [(true,x.c)]) (fun rs _=>rs= [(true,x.o)]):=by
 refine aI gR rfl ?_
 simp(disch:=omega) [dE,Block.c,Head.c,List.cons_append,List.nil_append,VY]
 refine bM (dS x.head hw.1) rfl rfl ?_
 simp(disch:=omega) [Head.o,VY]
 refine bM (fR x.txs hw.2) rfl rfl ?_
 simp(disch:=omega) [Block.o,VY]
abbrev fP:Nat:=31
def fU:AF:=⟨1,4,[.cell 2 11 true],(.seq (.ops [.i (.lbox 1 (.s 0)), .i (.lal 2 [.int .i64 0, .int .i64 0, .int .i64 0, .nils, .nils, .int .i64 0, .int .i64 0, .nils, .nils, .nils, .nils])]) (.seq (.ops [qf 3 1 0,ql 4 1 3 10 true,qk 6 30 4,qf 6 1 10,ql 7 1 6 1 false,qk 9 58 7, .i (.bld 9 [.int .i64 0, .int .i64 0, .int .i64 0, .nils, .nils, .int .i64 0, .int .i64 0, .nils, .nils, .nils, .nils] [(0,10,(.s 5)),(10,1,(.s 8))]),qs 2 2 9 11]) .ret))⟩
theorem lq:cd fP=some fU:=by kernel_rfl
theorem qg (x:Block) (hw:x.wc):VC cd fP (dK [(true,x.c)]) (fun rs _=>rs= [(true,x.o)]):=by
 refine aI lq rfl ?_
 simp(disch:=omega) [fU,Block.c,Head.c,List.cons_append,List.nil_append,VY]
 refine bM (hY x.head hw.1) rfl rfl ?_
 simp(disch:=omega) [Head.o,VY]
 refine bM (iC x.txs hw.2) rfl rfl ?_
 simp(disch:=omega) [Block.o,VY]
def Block.tv (x:Block):Tv:= .r [x.head.tv,jz x.txs]
theorem Block.enc (x:Block):enc dc x.tv=x.c:=by simp only[Block.tv,Head.enc,cA,aW,bo,bS,cG,di,dg,bX,dt,Block.c,Head.c,Head.c,Qc.c,List.cons_append,List.nil_append,List.append_assoc]
theorem Block.ex {v:Tv} (h:ax dc v):∃x:Block,v=x.tv:=by
 obtain⟨vs,rfl,h⟩:=h.st
 obtain⟨v0,_,rfl,h0,h⟩:=h.step
 obtain⟨v1,_,rfl,h1,h⟩:=h.step
 obtain rfl:=h.fin
 obtain⟨n0,rfl⟩:=Head.ex h0
 obtain⟨n1,rfl⟩:=mJ h1
 exact⟨⟨n0,n1⟩,rfl⟩
theorem Block.of {x:Block} (h:ax dc x.tv) (hw:wt x.tv≤1048576):x.wc:=by
 simp only[Block.tv,c7,bn]at h
 simp only[Block.tv,wt,bI]at hw
 obtain⟨h0,h1,_⟩:=h
 exact⟨Head.of h0 (by omega),pY (by omega)⟩
theorem Block.Cm {q:Block} (h:ax dc q.tv) (hw:wt q.tv≤1048576):q.wc:=Block.of h hw
end Go.Eng.F
namespace Go.Eng.F
structure bD where
 l:dL
 heads:List Head
def bD.c (f:bD):List D:=f.l.c++ [.sl (im f.heads)]
def bD.wf (f:bD):Prop:=qW f.heads
def bD.wc (f:bD):Prop:=Sz f.heads.length∧∀h∈f.heads,h.wc
theorem bD.wc.wf {f:bD} (h:f.wc):f.wf:=⟨h.1,fun x hx=>(h.2 x hx).1⟩
def hh (l:dL) (hs:List Head) (i:Nat):Bytes:=match hs[i]? with|some h=>AW l h|none=> []
def bD.o (f:bD):List E:= [.p (.int .i64 f.l.n), .p (.int .i64 f.l.tx), .p (.int .i64 f.l.txs), .p (.int .i64 f.l.frame), .p (.int .i64 f.l.heads), .o true (some (59,10)) (im f.heads)]
end Go.Eng.F
namespace Go.Eng.F
open Go.Eng.U (j8 bd bE cj lI ei fZ jJ)
structure Row where
 weight:Int
 key:Bytes
def Row.c (r:Row):List D:= [.int .i64 r.weight, .sl (bytes r.key)]
def Row.wf (r:Row):Prop:=mz r.weight∧Sz r.key.length
structure Table where
 rows:List Row
def rws (l:List Row):List (List D):=l.map Row.c
def Table.c (t:Table):List D:= [.sl (rws t.rows)]
def Table.wf (t:Table):Prop:=Sz t.rows.length∧∀r∈t.rows,r.wf
def Row.tv (x:Row):Tv:= .r [.i x.weight,l8 x.key]
theorem Row.enc (x:Row):enc lI x.tv=x.c:=by simp only[Row.tv,cA,aW,bo,bS,cG,di,dg,bX,dt,Row.c,List.cons_append,List.nil_append,List.append_assoc]
theorem Row.ex {v:Tv} (h:ax lI v):∃x:Row,v=x.tv:=by
 obtain⟨vs,rfl,h⟩:=h.st
 obtain⟨v0,_,rfl,h0,h⟩:=h.step
 obtain⟨v1,_,rfl,h1,h⟩:=h.step
 obtain rfl:=h.fin
 obtain⟨n0,rfl,_⟩:=h0.int
 obtain⟨n1,rfl⟩:=dU h1
 exact⟨⟨n0,n1⟩,rfl⟩
theorem Row.of {x:Row} (h:ax lI x.tv) (hw:wt x.tv≤1048576):x.wf:=by
 simp only[Row.tv,c7,bn]at h
 simp only[Row.tv,wt,bI]at hw
 obtain⟨h0,h1,_⟩:=h
 exact⟨cc (ok_int.1 h0),hU (by omega)⟩
def p9 (l:List Row):Tv:= .l (l.map Row.tv)
theorem vU (l:List Row):enc (.sl lI) (p9 l)= [.sl (rws l)]:=by
 simp only[p9,jq,List.map_map,rws]
 congr 2
 exact List.map_congr_left fun x _=>Row.enc x
theorem wP {v:Tv} (h:ax (.sl lI) v):∃l,v=p9 l:=by
 obtain⟨xs,rfl,_,h2⟩:=h.sl
 obtain⟨ys,rfl⟩:=eT (f:=Row.tv) (P:=ax lI) (fun v hv=>Row.ex hv) h2
 exact⟨ys,rfl⟩
theorem zY {l:List Row} (h:ax (.sl lI) (p9 l)) (hw:wt (p9 l)≤1048576):Sz l.length∧∀x∈l,x.wf:=by
 unfold p9 at h hw
 rw[qy]at hw
 have h2:=(oF.1 h).2
 simp only[List.length_map]at hw
 refine⟨by unfold Sz;omega,fun x hx=>Row.of (h2 _ (List.mem_map_of_mem hx)) ?_⟩
 have:=gJ (f:=Row.tv) hx
 omega
def Table.tv (x:Table):Tv:= .r [p9 x.rows]
theorem Table.enc (x:Table):enc ei x.tv=x.c:=by simp only[Table.tv,vU,cA,aW,bo,bS,cG,di,dg,bX,dt,Table.c,List.cons_append,List.nil_append,List.append_assoc]
theorem Table.ex {v:Tv} (h:ax ei v):∃x:Table,v=x.tv:=by
 obtain⟨vs,rfl,h⟩:=h.st
 obtain⟨v0,_,rfl,h0,h⟩:=h.step
 obtain rfl:=h.fin
 obtain⟨n0,rfl⟩:=wP h0
 exact⟨⟨n0⟩,rfl⟩
theorem Table.of {x:Table} (h:ax ei x.tv) (hw:wt x.tv≤1048576):x.wf:=by
 simp only[Table.tv,c7,bn]at h
 simp only[Table.tv,wt,bI]at hw
 obtain⟨h0,_⟩:=h
 exact zY h0 (by omega)
end Go.Eng.F
namespace Go.Eng.F
end Go.Eng.F
namespace Go.Eng.F
def ct (c:Nat):Nat:=if c % 2=1 then(c / 2) ^^^ 3988292384 else c / 2
def Cs:Nat→Nat→Nat
 |0,c=>c
 |n+1,c=>ct (Cs n c)
def BT (c:Nat) (b:Bytes):Nat:=b.foldl (fun c x=>Cs 8 (c ^^^ x.toNat)) c
def xL (c:Nat) (b:Bytes):Nat:=BT (c ^^^ 4294967295) b ^^^ 4294967295
def C8 (b:Bytes):Nat:=xL 0 b
end Go.Eng.F
namespace Go.Eng.F
def zL:Bytes→Nat
 | []=>0
 |x::r=>x.toNat+256 * zL r
def Av (s:Bytes) (a:Nat):Nat:=zL ((s.drop (a+2)).take 2)
def DR (s:Bytes) (a:Nat):Nat:=zL ((s.drop (a+4)).take 4)
def DM (s:Bytes) (a:Nat):Bytes:=(s.drop (a+8)).take (Av s a)
def j4 (l:dL) (s:Bytes) (a:Nat):Int×Int:=
 if l.ok=true∧a < s.length then
  if(s.getD a 0).toNat=181 then
   if a+1 < s.length∧¬(s.getD (a+1) 0).toNat=70 then(0,0)else
   if s.length - a < 4 then(1,0)else if ¬vN (Av s a) 1 l.frame=true then(0,0)else if s.length - a < 8+Av s a then(1,8+Av s a)else if DR s a=C8 (DM s a)then(3,8+Av s a)else(2,8+Av s a)
  else(0,0)
 else(0,0)
structure ek where
 skip:Int
 buf:Bytes
def ek.c (p:ek):List D:= [.int .i64 p.skip, .sl (bytes p.buf)]
end Go.Eng.F
namespace Go.Eng.F
end Go.Eng.F
namespace Go.Eng.F
open Go.Eng.U (j8 bd bE j7)
def bD.tv (f:bD):Tv:= .r [f.l.tv,jT f.heads]
theorem bD.enc (f:bD):enc j7 f.tv=f.c:=by simp only[bD.tv,gH,cA,aW,bo,dL.enc,bD.c,List.append_nil]
theorem bD.ex {v:Tv} (h:ax j7 v):∃q:bD,v=q.tv:=by
 obtain⟨vs,rfl,h⟩:=h.st
 obtain⟨v0,_,rfl,h0,h⟩:=h.step
 obtain⟨v1,_,rfl,h1,h⟩:=h.step
 obtain rfl:=h.fin
 obtain⟨n0,rfl⟩:=dL.ex h0
 obtain⟨n1,rfl⟩:=kb h1
 exact⟨⟨n0,n1⟩,rfl⟩
theorem bD.of {f:bD} (h:ax j7 f.tv) (hw:wt f.tv≤1048576):f.wc∧ax bE f.l.tv∧f.heads.length≤1048576:=by
 simp only[bD.tv,c7,bn]at h
 simp only[bD.tv,wt,bI]at hw
 obtain⟨h0,h1,_⟩:=h
 have h5:=nz h1 (by omega)
 have h6:f.heads.length≤wt (jT f.heads):=by unfold jT;rw[qy,List.length_map];omega
 exact⟨⟨h5.1,h5.2⟩,c7.2 (c7.1 h0),by omega⟩
theorem nM {α:Type} {f:α→Tv} {B:Nat}:∀ {l:List α},(∀x∈l,wt (f x)≤B)→bI (l.map f)≤l.length * B
 | [],_=>by simp[bI]
 |a::l,h=>by
  have h1:=h a (by simp)
  have h2:=nM (l:=l) fun x hx=>h x (by simp[hx])
  simp only[List.map_cons,bI,List.length_cons,Nat.succ_mul]
  omega
end Go.Eng.F
namespace Go.Eng.F
structure cB where
 l:dL
 t:Table
 push:ek
 chain:List Head
def cB.c (x:cB):List D:= [.int .i64 x.l.n, .int .i64 x.l.tx, .int .i64 x.l.txs, .int .i64 x.l.frame, .int .i64 x.l.heads, .sl (rws x.t.rows), .int .i64 x.push.skip, .sl (bytes x.push.buf), .sl (im x.chain)]
def cB.wc (x:cB):Prop:=x.t.wf∧x.push.buf.length≤1073741824∧Sz x.chain.length∧∀h∈x.chain,h.wc
def ht (hs:List Head) (i:Nat):Int:=match hs[i]? with|some h=>h.height|none=>0
structure gT where
 l:dL
 t:Table
 x:cB
 own:List Head
def gT.c (d:gT):List D:= [.int .i64 d.l.n, .int .i64 d.l.tx, .int .i64 d.l.txs, .int .i64 d.l.frame, .int .i64 d.l.heads, .sl (rws d.t.rows), .int .i64 d.x.l.n, .int .i64 d.x.l.tx, .int .i64 d.x.l.txs, .int .i64 d.x.l.frame, .int .i64 d.x.l.heads, .sl (rws d.x.t.rows), .int .i64 d.x.push.skip, .sl (bytes d.x.push.buf), .sl (im d.x.chain), .sl (im d.own)]
def gT.wc (d:gT):Prop:=d.t.wf∧d.x.wc∧Sz d.own.length∧∀h∈d.own,h.wc
end Go.Eng.F
namespace Go.Eng.F
open Go.Eng.U (j8 bd bE ei jJ fZ qU)
def ek.wf (p:ek):Prop:=mz p.skip∧Sz p.buf.length
def ek.tv (x:ek):Tv:= .r [.i x.skip,l8 x.buf]
theorem ek.enc (x:ek):enc jJ x.tv=x.c:=by simp only[ek.tv,cA,aW,bo,bS,cG,di,dg,bX,dt,ek.c,List.cons_append,List.nil_append,List.append_assoc]
theorem ek.ex {v:Tv} (h:ax jJ v):∃x:ek,v=x.tv:=by
 obtain⟨vs,rfl,h⟩:=h.st
 obtain⟨v0,_,rfl,h0,h⟩:=h.step
 obtain⟨v1,_,rfl,h1,h⟩:=h.step
 obtain rfl:=h.fin
 obtain⟨n0,rfl,_⟩:=h0.int
 obtain⟨n1,rfl⟩:=dU h1
 exact⟨⟨n0,n1⟩,rfl⟩
theorem ek.of {x:ek} (h:ax jJ x.tv) (hw:wt x.tv≤1048576):x.wf:=by
 simp only[ek.tv,c7,bn]at h
 simp only[ek.tv,wt,bI]at hw
 obtain⟨h0,h1,_⟩:=h
 exact⟨cc (ok_int.1 h0),hU (by omega)⟩
def cB.tv (x:cB):Tv:= .r [x.l.tv,x.t.tv,x.push.tv,jT x.chain]
theorem cB.enc (x:cB):enc fZ x.tv=x.c:=by simp only[cB.tv,gH,cA,aW,bo,dL.enc,Table.enc,ek.enc,cB.c,dL.c,Table.c,ek.c,List.cons_append,List.nil_append,List.append_nil]
theorem cB.ex {v:Tv} (h:ax fZ v):∃q:cB,v=q.tv:=by
 obtain⟨vs,rfl,h⟩:=h.st
 obtain⟨v0,_,rfl,h0,h⟩:=h.step
 obtain⟨v1,_,rfl,h1,h⟩:=h.step
 obtain⟨v2,_,rfl,h2,h⟩:=h.step
 obtain⟨v3,_,rfl,h3,h⟩:=h.step
 obtain rfl:=h.fin
 obtain⟨n0,rfl⟩:=dL.ex h0
 obtain⟨n1,rfl⟩:=Table.ex h1
 obtain⟨n2,rfl⟩:=ek.ex h2
 obtain⟨n3,rfl⟩:=kb h3
 exact⟨⟨n0,n1,n2,n3⟩,rfl⟩
theorem cB.of {x:cB} (h:ax fZ x.tv) (hw:wt x.tv≤1048576):x.wc:=by
 simp only[cB.tv,c7,bn]at h
 simp only[cB.tv,wt,bI]at hw
 obtain⟨h0,h1,h2,h3,_⟩:=h
 have k1:=Table.of h1 (by omega)
 have k2:=ek.of h2 (by omega)
 have k3:=nz h3 (by omega)
 exact⟨k1,k2.2,k3.1,k3.2⟩
def gT.tv (x:gT):Tv:= .r [x.l.tv,x.t.tv,x.x.tv,jT x.own]
theorem gT.enc (x:gT):enc qU x.tv=x.c:=by simp only[gT.tv,gH,cA,aW,bo,dL.enc,Table.enc,cB.enc,gT.c,cB.c,dL.c,Table.c,List.cons_append,List.nil_append,List.append_nil]
theorem gT.ex {v:Tv} (h:ax qU v):∃q:gT,v=q.tv:=by
 obtain⟨vs,rfl,h⟩:=h.st
 obtain⟨v0,_,rfl,h0,h⟩:=h.step
 obtain⟨v1,_,rfl,h1,h⟩:=h.step
 obtain⟨v2,_,rfl,h2,h⟩:=h.step
 obtain⟨v3,_,rfl,h3,h⟩:=h.step
 obtain rfl:=h.fin
 obtain⟨n0,rfl⟩:=dL.ex h0
 obtain⟨n1,rfl⟩:=Table.ex h1
 obtain⟨n2,rfl⟩:=cB.ex h2
 obtain⟨n3,rfl⟩:=kb h3
 exact⟨⟨n0,n1,n2,n3⟩,rfl⟩
theorem gT.of {x:gT} (h:ax qU x.tv) (hw:wt x.tv≤1048576):x.wc:=by
 simp only[gT.tv,c7,bn]at h
 simp only[gT.tv,wt,bI]at hw
 obtain⟨h0,h1,h2,h3,_⟩:=h
 have k1:=Table.of h1 (by omega)
 have k2:=cB.of h2 (by omega)
 have k3:=nz h3 (by omega)
 exact⟨k1,k2,k3.1,k3.2⟩
end Go.Eng.F
namespace Go.Eng.F
open Go.Eng.U (j8 bd bE ei jJ fZ)
end Go.Eng.F
namespace Go.Eng.F
open Go.Eng.U (j8 bd bE ei cj)
end Go.Eng.F
namespace Go.Eng.F
structure cC where
 view:Int
 height:Int
 block:Bytes
 who:Int
 tag:Bytes
def cC.c (v:cC):List D:= [.int .i64 v.view, .int .i64 v.height, .sl (bytes v.block), .int .i64 v.who, .sl (bytes v.tag)]
def cC.wf (v:cC):Prop:=mz v.view∧mz v.height∧Sz v.block.length∧mz v.who∧Sz v.tag.length
end Go.Eng.F
namespace Go.Eng.F
open Go.Eng.U (j8 bd bE cj dA dc)
end Go.Eng.F
namespace Go.Eng.F
open Go.Eng.U (j8 bd bE cj lI ei fZ jJ tf cg dA)
structure Entry where
 who:Int
 high:Int
 tag:Bytes
def Entry.c (r:Entry):List D:= [.int .i64 r.who, .int .i64 r.high, .sl (bytes r.tag)]
def Entry.wf (r:Entry):Prop:=mz r.who∧mz r.high∧Sz r.tag.length
structure Tc where
 view:Int
 entries:List Entry
def kh (l:List Entry):List (List D):=l.map Entry.c
theorem kc (l:List Entry):(kh l).length=l.length:=by simp[kh]
theorem rP {l:List Entry} {i:Nat} (h:i < l.length):(kh l)[i]? =some [.int .i64 l[i].who, .int .i64 l[i].high, .sl (bytes l[i].tag)]:=by simp[kh,h,Entry.c]
theorem oy {l:List Entry} {i:Nat} (h:i < l.length):kh (l.take i)++ [[.int .i64 l[i].who, .int .i64 l[i].high, .sl (bytes l[i].tag)]]=kh (l.take (i+1)):=by
 have e:kh (l.take (i+1))=kh (l.take i)++kh [l[i]]:=by
  rw[List.take_add_one,List.getElem?_eq_getElem h];exact List.map_append
 rw[e];rfl
def Tc.c (t:Tc):List D:= [.int .i64 t.view, .sl (kh t.entries)]
def Tc.wf (t:Tc):Prop:=mz t.view∧Sz t.entries.length∧∀r∈t.entries,r.wf
abbrev eE:Nat:=40
def eN:AF:=⟨1,5,[.cell 2 2 true],(.seq (.ops [.i (.lbox 1 (.s 0)), .i (.lal 2 [.int .i64 0, .nils])]) (.seq (.ops [qf 6 1 0,ql 7 1 6 1 false, .i (.bld 8 [.int .i64 0, .nils] [(0,1,(.s 7))]), .i (.lal 3 [.int .i64 0, .nils]),qs 3 3 8 2]) (.seq (.seq (.ops [qf 9 1 1,ql 10 1 9 1 false,qn 11 10, .i (.mov 12 (qi 0))]) (.block 0 (.loop [29,28,27,26,25,24,23,22,21,20,19,18,17,16,15,14,13,5] (.seq (.ops [qd 13 .lss 12 11]) (.seq (.cond (.s 13) .skip (.exit 0)) (.seq (.block 1 (.seq (.ops [.i (.iad 14 (.s 10) (.s 12) 3), .i (.ldh 15 (.s 14) 3 true), .i (.lal 5 [.int .i64 0, .int .i64 0, .nils]),qs 5 5 15 3]) (.ops [qf 16 3 1,ql 17 3 16 1 false,qf 18 5 0,ql 19 5 18 1 false,qf 20 5 1,ql 21 5 20 1 false,qf 22 5 2,ql 23 5 22 1 false,qk 25 67 23, .i (.bld 25 [.int .i64 0, .int .i64 0, .nils] [(0,1,(.s 19)),(1,1,(.s 21)),(2,1,(.s 24))]), .i (.lsl 26 3 1 [.int .i64 0, .int .i64 0, .nils] [(0,3,(.s 25))]), .i (.app 27 105 3 40 (.s 17) (.s 26)),qf 28 3 1,qs 3 28 27 1]))) (.ops [.i (.bin 29 .add (.s 12) (qi 1)),qm 12 29]))))))) (.seq (.ops [ql 30 3 3 2 true,qs 2 2 30 2]) .ret))))⟩
theorem jh:cd eE=some eN:=by kernel_rfl
theorem nu (t:Tc) (hw:t.wf):VC cd eE (dK [(true,t.c)]) (fun rs _=>rs= [(true,[.p (.int .i64 t.view), .o true (some (105,3)) (kh t.entries)])]):=by
 obtain⟨w0,w1,w2⟩:=hw
 simp only[Sz]at w1
 refine aI jh rfl ?_
 simp(disch:=omega) [eN,Tc.c,kc,VY]
 refine oT (σ:=Nat×Nat) (f0:=_) (by simp(disch:=omega) [VY];rfl) (dG.Bl (s:=3) (k:=3) (i:=1) rfl rfl) (f1:=_) (es0:=_) (by simp(disch:=omega) [VY];rfl) (by simp(disch:=omega) [VY];rfl) (fun p=> [(12, .val false [.int .i64 p.1]),(3, .box [.int .i64 t.view, .ow 3 p.2])]) (fun p=> [(3, .sl p.2 true true (some (105,3)) (kh (t.entries.take p.1)))])
  (fun p g=>g+p.1=t.entries.length) (0,_) t.entries.length (by simp(disch:=omega) [VY];rfl) (by simp(disch:=omega) [kh,VY]) (by omega) ?_
 rintro⟨i,v⟩ n g hg
 simp only at hg
 simp(disch:=omega) [VY]
 refine ec (fun h1=> ?_) (fun h1=> ?_)
 ·have hx:i < t.entries.length:=by omega
  have w3:=(w2 _ (List.getElem_mem hx)).2.2
  simp only[Sz]at w3
  simp(disch:=omega) [rP hx,VY]
  refine bM (br t.entries[i].tag (by omega)) rfl rfl ?_
  have hl:(kh (t.entries.take i)).length=i:=by rw[kc];simp;omega
  simp(disch:=omega) [hl,oy hx,VY]
  exact⟨i+1,n+1,g - 1,by omega,by omega,⟨by omega,by omega⟩,by omega,rfl⟩
 ·simp(disch:=omega) [VY]
  have:i=t.entries.length:=by omega
  subst this
  rw[List.take_length]
abbrev fH:Nat:=32
def fO:AF:=⟨1,5,[.cell 2 2 true],(.seq (.ops [.i (.lbox 1 (.s 0)), .i (.lal 2 [.int .i64 0, .nils])]) (.seq (.ops [qf 6 1 0,ql 7 1 6 1 false, .i (.bld 8 [.int .i64 0, .nils] [(0,1,(.s 7))]), .i (.lal 3 [.int .i64 0, .nils]),qs 3 3 8 2]) (.seq (.seq (.ops [qf 9 1 1,ql 10 1 9 1 false,qn 11 10, .i (.mov 12 (qi 0))]) (.block 0 (.loop [29,28,27,26,25,24,23,22,21,20,19,18,17,16,15,14,13,5] (.seq (.ops [qd 13 .lss 12 11]) (.seq (.cond (.s 13) .skip (.exit 0)) (.seq (.block 1 (.seq (.ops [.i (.iad 14 (.s 10) (.s 12) 3), .i (.ldh 15 (.s 14) 3 true), .i (.lal 5 [.int .i64 0, .int .i64 0, .nils]),qs 5 5 15 3]) (.ops [qf 16 3 1,ql 17 3 16 1 false,qf 18 5 0,ql 19 5 18 1 false,qf 20 5 1,ql 21 5 20 1 false,qf 22 5 2,ql 23 5 22 1 false,qk 25 57 23, .i (.bld 25 [.int .i64 0, .int .i64 0, .nils] [(0,1,(.s 19)),(1,1,(.s 21)),(2,1,(.s 24))]), .i (.lsl 26 3 1 [.int .i64 0, .int .i64 0, .nils] [(0,3,(.s 25))]), .i (.app 27 105 3 40 (.s 17) (.s 26)),qf 28 3 1,qs 3 28 27 1]))) (.ops [.i (.bin 29 .add (.s 12) (qi 1)),qm 12 29]))))))) (.seq (.ops [ql 30 3 3 2 true,qs 2 2 30 2]) .ret))))⟩
theorem ks:cd fH=some fO:=by kernel_rfl
theorem qA (t:Tc) (hw:t.wf):VC cd fH (dK [(true,t.c)]) (fun rs _=>rs= [(true,[.p (.int .i64 t.view), .o true (some (105,3)) (kh t.entries)])]):=by
 obtain⟨w0,w1,w2⟩:=hw
 simp only[Sz]at w1
 refine aI ks rfl ?_
 simp(disch:=omega) [fO,Tc.c,kc,VY]
 refine oT (σ:=Nat×Nat) (f0:=_) (by simp(disch:=omega) [VY];rfl) (dG.Bl (s:=3) (k:=3) (i:=1) rfl rfl) (f1:=_) (es0:=_) (by simp(disch:=omega) [VY];rfl) (by simp(disch:=omega) [VY];rfl) (fun p=> [(12, .val false [.int .i64 p.1]),(3, .box [.int .i64 t.view, .ow 3 p.2])]) (fun p=> [(3, .sl p.2 true true (some (105,3)) (kh (t.entries.take p.1)))])
  (fun p g=>g+p.1=t.entries.length) (0,_) t.entries.length (by simp(disch:=omega) [VY];rfl) (by simp(disch:=omega) [kh,VY]) (by omega) ?_
 rintro⟨i,v⟩ n g hg
 simp only at hg
 simp(disch:=omega) [VY]
 refine ec (fun h1=> ?_) (fun h1=> ?_)
 ·have hx:i < t.entries.length:=by omega
  have w3:=(w2 _ (List.getElem_mem hx)).2.2
  simp only[Sz]at w3
  simp(disch:=omega) [rP hx,VY]
  refine bM (bU t.entries[i].tag (by omega)) rfl rfl ?_
  have hl:(kh (t.entries.take i)).length=i:=by rw[kc];simp;omega
  simp(disch:=omega) [hl,oy hx,VY]
  exact⟨i+1,n+1,g - 1,by omega,by omega,⟨by omega,by omega⟩,by omega,rfl⟩
 ·simp(disch:=omega) [VY]
  have:i=t.entries.length:=by omega
  subst this
  rw[List.take_length]
def Entry.tv (x:Entry):Tv:= .r [.i x.who, .i x.high,l8 x.tag]
theorem Entry.enc (x:Entry):enc cg x.tv=x.c:=by simp only[Entry.tv,cA,aW,bo,bS,cG,di,dg,bX,dt,Entry.c,List.cons_append,List.nil_append,List.append_assoc]
theorem Entry.ex {v:Tv} (h:ax cg v):∃x:Entry,v=x.tv:=by
 obtain⟨vs,rfl,h⟩:=h.st
 obtain⟨v0,_,rfl,h0,h⟩:=h.step
 obtain⟨v1,_,rfl,h1,h⟩:=h.step
 obtain⟨v2,_,rfl,h2,h⟩:=h.step
 obtain rfl:=h.fin
 obtain⟨n0,rfl,_⟩:=h0.int
 obtain⟨n1,rfl,_⟩:=h1.int
 obtain⟨n2,rfl⟩:=dU h2
 exact⟨⟨n0,n1,n2⟩,rfl⟩
theorem Entry.of {x:Entry} (h:ax cg x.tv) (hw:wt x.tv≤1048576):x.wf:=by
 simp only[Entry.tv,c7,bn]at h
 simp only[Entry.tv,wt,bI]at hw
 obtain⟨h0,h1,h2,_⟩:=h
 exact⟨cc (ok_int.1 h0),cc (ok_int.1 h1),hU (by omega)⟩
def qv (l:List Entry):Tv:= .l (l.map Entry.tv)
theorem w8 (l:List Entry):enc (.sl cg) (qv l)= [.sl (kh l)]:=by
 simp only[qv,jq,List.map_map,kh]
 congr 2
 exact List.map_congr_left fun x _=>Entry.enc x
theorem w9 {v:Tv} (h:ax (.sl cg) v):∃l,v=qv l:=by
 obtain⟨xs,rfl,_,h2⟩:=h.sl
 obtain⟨ys,rfl⟩:=eT (f:=Entry.tv) (P:=ax cg) (fun v hv=>Entry.ex hv) h2
 exact⟨ys,rfl⟩
theorem zH {l:List Entry} (h:ax (.sl cg) (qv l)) (hw:wt (qv l)≤1048576):Sz l.length∧∀x∈l,x.wf:=by
 unfold qv at h hw
 rw[qy]at hw
 have h2:=(oF.1 h).2
 simp only[List.length_map]at hw
 refine⟨by unfold Sz;omega,fun x hx=>Entry.of (h2 _ (List.mem_map_of_mem hx)) ?_⟩
 have:=gJ (f:=Entry.tv) hx
 omega
def Tc.tv (x:Tc):Tv:= .r [.i x.view,qv x.entries]
theorem Tc.enc (x:Tc):enc tf x.tv=x.c:=by simp only[Tc.tv,w8,cA,aW,bo,bS,cG,di,dg,bX,dt,Tc.c,List.cons_append,List.nil_append,List.append_assoc]
theorem Tc.ex {v:Tv} (h:ax tf v):∃x:Tc,v=x.tv:=by
 obtain⟨vs,rfl,h⟩:=h.st
 obtain⟨v0,_,rfl,h0,h⟩:=h.step
 obtain⟨v1,_,rfl,h1,h⟩:=h.step
 obtain rfl:=h.fin
 obtain⟨n0,rfl,_⟩:=h0.int
 obtain⟨n1,rfl⟩:=w9 h1
 exact⟨⟨n0,n1⟩,rfl⟩
theorem Tc.of {x:Tc} (h:ax tf x.tv) (hw:wt x.tv≤1048576):x.wf:=by
 simp only[Tc.tv,c7,bn]at h
 simp only[Tc.tv,wt,bI]at hw
 obtain⟨h0,h1,_⟩:=h
 exact⟨cc (ok_int.1 h0),zH h1 (by omega)⟩
end Go.Eng.F
namespace Go.Eng.F
structure b7 where
 height:Int
 n:Int
 idx:Int
 tx:Bytes
 path:List Bytes
def b7.c (x:b7):List D:= [.int .i64 x.height, .int .i64 x.n, .int .i64 x.idx, .sl (bytes x.tx), .sl (dJ x.path)]
def b7.wc (x:b7):Prop:=mz x.height∧mz x.n∧mz x.idx∧Sz x.tx.length∧oG x.path
def b7.o (x:b7):List E:= [.p (.int .i64 x.height), .p (.int .i64 x.n), .p (.int .i64 x.idx), .o true (some (5,1)) (bytes x.tx), .o true (some (34,1)) (dJ x.path)]
abbrev dP:Nat:=42
def dR:AF:=⟨1,5,[.cell 2 5 true],(.seq (.ops [.i (.lbox 1 (.s 0)), .i (.lal 2 [.int .i64 0, .int .i64 0, .int .i64 0, .nils, .nils])]) (.seq (.ops [qf 3 1 0,ql 4 1 3 1 false,qf 5 1 1,ql 6 1 5 1 false,qf 7 1 2,ql 8 1 7 1 false,qf 9 1 3,ql 10 1 9 1 false,qk 12 67 10,qf 12 1 4,ql 13 1 12 1 false,qk 15 68 13, .i (.bld 15 [.int .i64 0, .int .i64 0, .int .i64 0, .nils, .nils] [(0,1,(.s 4)),(1,1,(.s 6)),(2,1,(.s 8)),(3,1,(.s 11)),(4,1,(.s 14))]),qs 2 2 15 5]) .ret))⟩
theorem ic:cd dP=some dR:=by kernel_rfl
theorem ln (x:b7) (hw:x.wc):VC cd dP (dK [(true,x.c)]) (fun rs _=>rs= [(true,x.o)]):=by
 have w:=hw.2.2.2.1
 simp only[Sz]at w
 refine aI ic rfl ?_
 simp(disch:=omega) [dR,b7.c,VY]
 refine kg (br x.tx (by omega)) ?_
 simp(disch:=omega) [VY]
 refine kg (fR x.path hw.2.2.2.2) ?_
 simp(disch:=omega) [b7.o,VY]
abbrev fK:Nat:=34
def fV:AF:=⟨1,5,[.cell 2 5 true],(.seq (.ops [.i (.lbox 1 (.s 0)), .i (.lal 2 [.int .i64 0, .int .i64 0, .int .i64 0, .nils, .nils])]) (.seq (.ops [qf 3 1 0,ql 4 1 3 1 false,qf 5 1 1,ql 6 1 5 1 false,qf 7 1 2,ql 8 1 7 1 false,qf 9 1 3,ql 10 1 9 1 false,qk 12 57 10,qf 12 1 4,ql 13 1 12 1 false,qk 15 58 13, .i (.bld 15 [.int .i64 0, .int .i64 0, .int .i64 0, .nils, .nils] [(0,1,(.s 4)),(1,1,(.s 6)),(2,1,(.s 8)),(3,1,(.s 11)),(4,1,(.s 14))]),qs 2 2 15 5]) .ret))⟩
theorem kY:cd fK=some fV:=by kernel_rfl
theorem qh (x:b7) (hw:x.wc):VC cd fK (dK [(true,x.c)]) (fun rs _=>rs= [(true,x.o)]):=by
 have w:=hw.2.2.2.1
 simp only[Sz]at w
 refine aI kY rfl ?_
 simp(disch:=omega) [fV,b7.c,VY]
 refine kg (bU x.tx (by omega)) ?_
 simp(disch:=omega) [VY]
 refine kg (iC x.path hw.2.2.2.2) ?_
 simp(disch:=omega) [b7.o,VY]
end Go.Eng.F
namespace Go.Eng.F
def mU (i n:Nat):Nat:=if h:n < 2 then 0 else
 have:=ly (n:=n) (by omega)
 if i < splitAt n then 1+mU i (splitAt n)else 1+mU (i - splitAt n) (n - splitAt n)
termination_by n
end Go.Eng.F
namespace Go.Eng.F
structure dv where
 kind:Int
 vote:cC
 qc:Qc
 head:Head
 block:Block
 tc:Tc
 proof:Proof
 incl:b7
def dv.c (m:dv):List D:= [.int .i64 m.kind, .int .i64 m.vote.view, .int .i64 m.vote.height, .sl (bytes m.vote.block), .int .i64 m.vote.who, .sl (bytes m.vote.tag), .int .i64 m.qc.view, .int .i64 m.qc.height, .sl (bytes m.qc.block), .sl (bytes m.qc.bits), .sl (dJ m.qc.tags), .int .i64 m.head.view, .int .i64 m.head.height, .int .i64 m.head.proposer, .sl (bytes m.head.parent), .sl (bytes m.head.root), .int .i64 m.head.qc.view, .int .i64 m.head.qc.height, .sl (bytes m.head.qc.block), .sl (bytes m.head.qc.bits), .sl (dJ m.head.qc.tags), .int .i64 m.block.head.view, .int .i64 m.block.head.height, .int .i64 m.block.head.proposer, .sl (bytes m.block.head.parent), .sl (bytes m.block.head.root), .int .i64 m.block.head.qc.view, .int .i64 m.block.head.qc.height, .sl (bytes m.block.head.qc.block), .sl (bytes m.block.head.qc.bits), .sl (dJ m.block.head.qc.tags), .sl (dJ m.block.txs), .int .i64 m.tc.view, .sl (kh m.tc.entries), .sl (im m.proof.heads), .int .i64 m.proof.qc.view, .int .i64 m.proof.qc.height, .sl (bytes m.proof.qc.block), .sl (bytes m.proof.qc.bits), .sl (dJ m.proof.qc.tags), .int .i64 m.incl.height, .int .i64 m.incl.n, .int .i64 m.incl.idx, .sl (bytes m.incl.tx), .sl (dJ m.incl.path)]
def Block.wx (x:Block):Prop:=x.wc∧∀t∈x.txs,t.length≤100000000
structure dv.wc (m:dv):Prop where
 kind:mz m.kind
 vote:m.vote.wf
 qc:m.qc.wc
 head:m.head.wc
 block:m.block.wx
 tc:m.tc.wf
 proof:m.proof.wc
 incl:m.incl.wc
 tx:m.incl.tx.length≤100000000
def Bg:cC:=⟨0,0,[],0,[]⟩
def B7:Qc:=⟨0,0,[],[],[]⟩
def xZ:Head:=⟨0,0,0,[],[],B7⟩
def zG:Block:=⟨xZ,[]⟩
def CE:Tc:=⟨0,[]⟩
def zV:Proof:=⟨[],B7⟩
def Bi:b7:=⟨0,0,0,[],[]⟩
def iZ:dv:=⟨0,Bg,B7,xZ,zG,CE,zV,Bi⟩
def gK (x:cC):List (Bool×List E):= [(true,[.p (.int .i64 1), .p (.int .i64 x.view), .p (.int .i64 x.height), .o true (some (5,1)) (bytes x.block), .p (.int .i64 x.who), .o true (some (5,1)) (bytes x.tag), .p (.int .i64 0), .p (.int .i64 0), .p .nils, .p .nils, .p .nils, .p (.int .i64 0), .p (.int .i64 0), .p (.int .i64 0), .p .nils, .p .nils, .p (.int .i64 0), .p (.int .i64 0), .p .nils, .p .nils, .p .nils, .p (.int .i64 0), .p (.int .i64 0), .p (.int .i64 0), .p .nils, .p .nils, .p (.int .i64 0), .p (.int .i64 0), .p .nils, .p .nils, .p .nils, .p .nils, .p (.int .i64 0), .p .nils, .p .nils, .p (.int .i64 0), .p (.int .i64 0), .p .nils, .p .nils, .p .nils, .p (.int .i64 0), .p (.int .i64 0), .p (.int .i64 0), .p .nils, .p .nils])]
abbrev hH:Nat:=36
def gY:AF:=⟨1,4,[.cell 2 45 true],(.seq (.ops [.i (.lbox 1 (.s 0)), .i (.lal 2 [.int .i64 0, .int .i64 0, .int .i64 0, .nils, .int .i64 0, .nils, .int .i64 0, .int .i64 0, .nils, .nils, .nils, .int .i64 0, .int .i64 0, .int .i64 0, .nils, .nils, .int .i64 0, .int .i64 0, .nils, .nils, .nils, .int .i64 0, .int .i64 0, .int .i64 0, .nils, .nils, .int .i64 0, .int .i64 0, .nils, .nils, .nils, .nils, .int .i64 0, .nils, .nils, .int .i64 0, .int .i64 0, .nils, .nils, .nils, .int .i64 0, .int .i64 0, .int .i64 0, .nils, .nils])]) (.seq (.ops [qf 3 1 2,ql 4 1 3 1 false,qk 6 67 4,qf 6 1 4,ql 7 1 6 1 false,qk 9 67 7,qf 9 1 2,qs 1 9 5 1,qf 10 1 4,qs 1 10 8 1]) (.seq (.ops [ql 11 1 1 5 true, .i (.bld 12 [.int .i64 0, .int .i64 0, .int .i64 0, .nils, .int .i64 0, .nils, .int .i64 0, .int .i64 0, .nils, .nils, .nils, .int .i64 0, .int .i64 0, .int .i64 0, .nils, .nils, .int .i64 0, .int .i64 0, .nils, .nils, .nils, .int .i64 0, .int .i64 0, .int .i64 0, .nils, .nils, .int .i64 0, .int .i64 0, .nils, .nils, .nils, .nils, .int .i64 0, .nils, .nils, .int .i64 0, .int .i64 0, .nils, .nils, .nils, .int .i64 0, .int .i64 0, .int .i64 0, .nils, .nils] [(0,1,(qi 1)),(1,5,(.s 11))]),qs 2 2 12 45]) .ret)))⟩
theorem lK:cd hH=some gY:=by kernel_rfl
theorem kV (x:cC) (hw:x.wf):VC cd hH (dK [(true,x.c)]) (fun rs _=>rs=gK x):=by
 have w1:=hw.2.2.1
 have w2:=hw.2.2.2.2
 simp only[Sz]at w1 w2
 refine aI lK rfl ?_
 simp(disch:=omega) [gY,cC.c,VY]
 refine kg (br x.block (by omega)) ?_
 simp(disch:=omega) [VY]
 refine kg (br x.tag (by omega)) ?_
 simp(disch:=omega) [gK,VY]
abbrev hG:Nat:=28
def gZ:AF:=⟨1,4,[.cell 2 45 true],(.seq (.ops [.i (.lbox 1 (.s 0)), .i (.lal 2 [.int .i64 0, .int .i64 0, .int .i64 0, .nils, .int .i64 0, .nils, .int .i64 0, .int .i64 0, .nils, .nils, .nils, .int .i64 0, .int .i64 0, .int .i64 0, .nils, .nils, .int .i64 0, .int .i64 0, .nils, .nils, .nils, .int .i64 0, .int .i64 0, .int .i64 0, .nils, .nils, .int .i64 0, .int .i64 0, .nils, .nils, .nils, .nils, .int .i64 0, .nils, .nils, .int .i64 0, .int .i64 0, .nils, .nils, .nils, .int .i64 0, .int .i64 0, .int .i64 0, .nils, .nils])]) (.seq (.ops [qf 3 1 2,ql 4 1 3 1 false,qk 6 57 4,qf 6 1 2,qs 1 6 5 1]) (.seq (.ops [qf 7 1 4,ql 8 1 7 1 false,qk 10 57 8,qf 10 1 4,qs 1 10 9 1]) (.seq (.ops [ql 11 1 1 5 true, .i (.bld 12 [.int .i64 0, .int .i64 0, .int .i64 0, .nils, .int .i64 0, .nils, .int .i64 0, .int .i64 0, .nils, .nils, .nils, .int .i64 0, .int .i64 0, .int .i64 0, .nils, .nils, .int .i64 0, .int .i64 0, .nils, .nils, .nils, .int .i64 0, .int .i64 0, .int .i64 0, .nils, .nils, .int .i64 0, .int .i64 0, .nils, .nils, .nils, .nils, .int .i64 0, .nils, .nils, .int .i64 0, .int .i64 0, .nils, .nils, .nils, .int .i64 0, .int .i64 0, .int .i64 0, .nils, .nils] [(0,1,(qi 1)),(1,5,(.s 11))]),qs 2 2 12 45]) .ret))))⟩
theorem lM:cd hG=some gZ:=by kernel_rfl
theorem kn (x:cC) (hw:x.wf):VC cd hG (dK [(true,x.c)]) (fun rs _=>rs=gK x):=by
 have w1:=hw.2.2.1
 have w2:=hw.2.2.2.2
 simp only[Sz]at w1 w2
 refine aI lM rfl ?_
 simp(disch:=omega) [gZ,cC.c,VY]
 refine kg (bU x.block (by omega)) ?_
 simp(disch:=omega) [VY]
 refine kg (bU x.tag (by omega)) ?_
 simp(disch:=omega) [gK,VY]
end Go.Eng.F
namespace Go.Eng.F
open Go.Eng.U (j8 bd bE g8 dc tf cj hM dA)
def cC.tv (x:cC):Tv:= .r [.i x.view, .i x.height,l8 x.block, .i x.who,l8 x.tag]
theorem cC.enc (x:cC):enc g8 x.tv=x.c:=by simp only[cC.tv,cA,aW,bo,bS,cG,di,dg,bX,dt,cC.c,List.cons_append,List.nil_append,List.append_assoc]
theorem cC.ex {v:Tv} (h:ax g8 v):∃x:cC,v=x.tv:=by
 obtain⟨vs,rfl,h⟩:=h.st
 obtain⟨v0,_,rfl,h0,h⟩:=h.step
 obtain⟨v1,_,rfl,h1,h⟩:=h.step
 obtain⟨v2,_,rfl,h2,h⟩:=h.step
 obtain⟨v3,_,rfl,h3,h⟩:=h.step
 obtain⟨v4,_,rfl,h4,h⟩:=h.step
 obtain rfl:=h.fin
 obtain⟨n0,rfl,_⟩:=h0.int
 obtain⟨n1,rfl,_⟩:=h1.int
 obtain⟨n2,rfl⟩:=dU h2
 obtain⟨n3,rfl,_⟩:=h3.int
 obtain⟨n4,rfl⟩:=dU h4
 exact⟨⟨n0,n1,n2,n3,n4⟩,rfl⟩
theorem cC.of {x:cC} (h:ax g8 x.tv) (hw:wt x.tv≤1048576):x.wf:=by
 simp only[cC.tv,c7,bn]at h
 simp only[cC.tv,wt,bI]at hw
 obtain⟨h0,h1,h2,h3,h4,_⟩:=h
 exact⟨cc (ok_int.1 h0),cc (ok_int.1 h1),hU (by omega),cc (ok_int.1 h3),hU (by omega)⟩
def b7.tv (x:b7):Tv:= .r [.i x.height, .i x.n, .i x.idx,l8 x.tx,jz x.path]
theorem b7.enc (x:b7):enc hM x.tv=x.c:=by simp only[b7.tv,cA,aW,bo,bS,cG,di,dg,bX,dt,b7.c,List.cons_append,List.nil_append,List.append_assoc]
theorem b7.ex {v:Tv} (h:ax hM v):∃x:b7,v=x.tv:=by
 obtain⟨vs,rfl,h⟩:=h.st
 obtain⟨v0,_,rfl,h0,h⟩:=h.step
 obtain⟨v1,_,rfl,h1,h⟩:=h.step
 obtain⟨v2,_,rfl,h2,h⟩:=h.step
 obtain⟨v3,_,rfl,h3,h⟩:=h.step
 obtain⟨v4,_,rfl,h4,h⟩:=h.step
 obtain rfl:=h.fin
 obtain⟨n0,rfl,_⟩:=h0.int
 obtain⟨n1,rfl,_⟩:=h1.int
 obtain⟨n2,rfl,_⟩:=h2.int
 obtain⟨n3,rfl⟩:=dU h3
 obtain⟨n4,rfl⟩:=mJ h4
 exact⟨⟨n0,n1,n2,n3,n4⟩,rfl⟩
theorem b7.of {x:b7} (h:ax hM x.tv) (hw:wt x.tv≤1048576):x.wc:=by
 simp only[b7.tv,c7,bn]at h
 simp only[b7.tv,wt,bI]at hw
 obtain⟨h0,h1,h2,h3,h4,_⟩:=h
 exact⟨cc (ok_int.1 h0),cc (ok_int.1 h1),cc (ok_int.1 h2),hU (by omega),pY (by omega)⟩
def dv.tv (m:dv):Tv:= .r [.i m.kind,m.vote.tv,m.qc.tv,m.head.tv,m.block.tv,m.tc.tv,m.proof.tv,m.incl.tv]
theorem dv.enc (m:dv):enc dA m.tv=m.c:=by simp only[dv.tv,cA,aW,bo,bS,cC.enc,Qc.enc,Head.enc,Block.enc,Tc.enc,Proof.enc,b7.enc,dv.c,cC.c,Qc.c,Head.c,Block.c,Tc.c,Proof.c,b7.c,List.cons_append,List.nil_append,List.append_assoc,List.append_nil]
theorem dv.ex {v:Tv} (h:ax dA v):∃m:dv,v=m.tv:=by
 obtain⟨vs,rfl,h⟩:=h.st
 obtain⟨v0,_,rfl,h0,h⟩:=h.step
 obtain⟨v1,_,rfl,h1,h⟩:=h.step
 obtain⟨v2,_,rfl,h2,h⟩:=h.step
 obtain⟨v3,_,rfl,h3,h⟩:=h.step
 obtain⟨v4,_,rfl,h4,h⟩:=h.step
 obtain⟨v5,_,rfl,h5,h⟩:=h.step
 obtain⟨v6,_,rfl,h6,h⟩:=h.step
 obtain⟨v7,_,rfl,h7,h⟩:=h.step
 obtain rfl:=h.fin
 obtain⟨n0,rfl,_⟩:=h0.int
 obtain⟨n1,rfl⟩:=cC.ex h1
 obtain⟨n2,rfl⟩:=Qc.ex h2
 obtain⟨n3,rfl⟩:=Head.ex h3
 obtain⟨n4,rfl⟩:=Block.ex h4
 obtain⟨n5,rfl⟩:=Tc.ex h5
 obtain⟨n6,rfl⟩:=Proof.ex h6
 obtain⟨n7,rfl⟩:=b7.ex h7
 exact⟨⟨n0,n1,n2,n3,n4,n5,n6,n7⟩,rfl⟩
theorem dv.of {m:dv} (h:ax dA m.tv) (hw:wt m.tv≤1048576):m.wc:=by
 simp only[dv.tv,c7,bn]at h
 simp only[dv.tv,wt,bI]at hw
 obtain⟨h0,h1,h2,h3,h4,h5,h6,h7,_⟩:=h
 have hb:wt m.block.tv=wt m.block.head.tv+(wt (jz m.block.txs)+0):=by simp only[Block.tv,wt,bI]
 have hi:wt m.incl.tv=0+(0+(0+(wt (l8 m.incl.tx)+(wt (jz m.incl.path)+0)))):=by simp only[b7.tv,wt,bI]
 refine⟨cc (ok_int.1 h0),cC.of h1 (by omega),Qc.of h2 (by omega),Head.of h3 (by omega),⟨Block.of h4 (by omega),fun t ht=> ?_⟩,Tc.of h5 (by omega),Proof.Cm h6 (by omega),b7.of h7 (by omega),?_⟩
 ·have:=(u9 m.block.txs).2 t ht
  omega
 ·rw[tj]at hi
  omega
end Go.Eng.F
namespace Go.Eng.F
open Go.Eng.U (bd bE dA)
end Go.Eng.F
namespace Go.Eng.F
def gv:Bytes→Nat→Nat→Nat×Nat×Nat
 | [],_,_=>(0,0,1)
 |c::r,k,n=>
  if(0 < k∧c.toNat=0)∨(k=8∧128≤c.toNat)then(0,0,2)
  else if c.toNat < 128 then(if n+c.toNat * 128 ^ k≤1152921504606846975 then(n+c.toNat * 128 ^ k,k+1,0)else(0,0,2))
  else gv r (k+1) (n+(c.toNat - 128) * 128 ^ k)
structure Rd where
 at_:Nat
 er:Nat
def getVar (b:Bytes) (a:Nat):Nat×Rd:=
 let x:=gv (b.drop a) 0 0
 if x.2.2=0 then(x.1,⟨a+x.2.1,0⟩)else(0,⟨0,x.2.2⟩)
def qD (b:Bytes) (a n:Nat):Bytes×Rd:=if a+n≤b.length then((b.drop a).take n,⟨a+n,0⟩)else([],⟨0,1⟩)
def xh (b:Bytes) (a m:Nat):Bytes×Rd:=
 let x:=getVar b a
 if x.2.er≠0 then([],⟨0,x.2.er⟩)else if m < x.1 then([],⟨0,3⟩)else qD b x.2.at_ x.1
def wj (b:Bytes) (a:Nat) (n:Int):Bytes×Rd:=
 let x:=qD b a (Cy n).toNat
 if x.2.er≠0 then([],⟨0,x.2.er⟩)else if tZ x.1 n then x else([],⟨0,4⟩)
def jG (b:Bytes) (r:Rd):Nat×Rd:=if r.er=0 then getVar b r.at_ else(0,r)
def hF (r:Rd) (bad:Bool) (c:Nat):Rd:=if r.er=0∧bad=true then⟨r.at_,c⟩else r
def ig (b:Bytes) (r:Rd) (n:Int) (c:Nat):Nat×Rd:=((jG b r).1,hF (jG b r).2 (decide (n≤((jG b r).1:Int))) c)
def pO (b:Bytes) (r:Rd) (n:Nat):Bytes×Rd:=if r.er=0 then qD b r.at_ n else([],r)
def yy (b:Bytes) (r:Rd) (m:Nat):Bytes×Rd:=if r.er=0 then xh b r.at_ m else([],r)
def Rd.wf (b:Bytes) (r:Rd):Prop:=r.at_≤b.length∧r.er≤9
end Go.Eng.F
namespace Go.Eng.F
def wg {α:Type} (f:Rd→α×Rd):Nat→Rd→List α×Rd
 |0,r=>([],r)
 |k+1,r=>((f r).1::(wg f k (f r).2).1,(wg f k (f r).2).2)
def sc {α:Type} (f:Rd→α×Rd):Nat→Rd→List α×Rd
 |0,r=>([],r)
 |k+1,r=>if r.er=0 then((f r).1::(sc f k (f r).2).1,(sc f k (f r).2).2)else([],r)
def yh (b:Bytes) (l:dL) (r:Rd):cC×Rd:=
 let v:=jG b r
 let h:=jG b v.2
 let k:=pO b h.2 32
 let w:=ig b k.2 l.n 5
 let t:=pO b w.2 32
 (⟨v.1,h.1,k.1,w.1,t.1⟩,t.2)
def BQ (b:Bytes) (l:dL) (r:Rd):Qc×Rd:=
 let v:=jG b r
 let h:=jG b v.2
 let k:=pO b h.2 32
 if k.2.er=0 then
  let x:=wj b k.2.at_ l.n
  let t:=wg (fun r=>pO b r 32) (kM x.1).length x.2
  (⟨v.1,h.1,k.1,x.1,t.1⟩,t.2)
 else(⟨v.1,h.1,k.1,[],[]⟩,k.2)
def rF (b:Bytes) (l:dL) (r:Rd):Head×Rd:=
 let v:=jG b r
 let h:=jG b v.2
 let p:=ig b (hF h.2 (decide (h.1=0)) 5) l.n 5
 let pa:=pO b p.2 32
 let ro:=pO b pa.2 32
 let q:=BQ b l ro.2
 (⟨v.1,h.1,p.1,pa.1,ro.1,q.1⟩,hF q.2 (!fits ⟨v.1,h.1,p.1,pa.1,ro.1,q.1⟩) 6)
def vH (b:Bytes) (l:dL) (r:Rd):Block×Rd:=
 let h:=rF b l r
 let n:=ig b h.2 (l.txs+1) 3
 let x:=sc (fun r=>yy b r l.tx.toNat) n.1 n.2
 (⟨h.1,x.1⟩,hF x.2 (decide (h.1.root≠lB x.1)) 7)
def tN (b:Bytes) (l:dL) (view:Int):Nat→Int→Rd→List Entry×Rd
 |0,_,r=>([],r)
 |k+1,bf,r=>if r.er=0 then
   let w:=ig b r l.n 5
   let h:=ig b (hF w.2 (decide ((w.1:Int)≤bf)) 6) view 6
   let t:=pO b h.2 32
   (⟨w.1,h.1,t.1⟩::(tN b l view k w.1 t.2).1,(tN b l view k w.1 t.2).2)
  else([],r)
def Cq (b:Bytes) (l:dL) (r:Rd):Tc×Rd:=
 let v:=jG b r
 let n:=ig b v.2 (l.n+1) 3
 let e:=tN b l v.1 n.1 (-1) n.2
 (⟨v.1,e.1⟩,e.2)
def vi (b:Bytes) (l:dL) (r:Rd):Proof×Rd:=
 let n:=jG b r
 let h:=sc (rF b l) n.1 (hF (hF n.2 (decide (n.1 < 3)) 5) (decide (l.heads < (n.1:Int))) 3)
 let q:=BQ b l h.2
 (⟨h.1,q.1⟩,hF q.2 (!yO ⟨h.1,q.1⟩) 6)
def zf (b:Bytes) (l:dL) (r:Rd):(Nat×Nat×Nat×Bytes)×Rd:=
 let h:=jG b r
 let n:=jG b h.2
 let a:=ig b (hF (hF n.2 (decide (n.1=0)) 5) (decide (l.txs < (n.1:Int))) 3) n.1 5
 let t:=yy b a.2 l.tx.toNat
 ((h.1,n.1,a.1,t.1),t.2)
def At (b:Bytes) (a:Nat) (s:Bytes):Prop:=∃t,b.drop a=s++t
theorem At.app {b:Bytes} {a:Nat} {s t:Bytes} (h:At b a (s++t)):At b a s∧At b (a+s.length) t:=by
 obtain⟨u,h⟩:=h
 refine⟨⟨t++u,by rw[h,List.append_assoc]⟩,u,?_⟩
 rw[←List.drop_drop,h,List.append_assoc,List.drop_left]
theorem At.len {b:Bytes} {a:Nat} {s:Bytes} (h:At b a s):a+s.length≤b.length∨s= []:=by
 obtain⟨u,h⟩:=h
 have h2:=congrArg List.length h
 simp only[List.length_drop,List.length_append]at h2
 by_cases hs:s= []
 ·exact .inr hs
 ·have:=List.length_pos_iff.2 hs
  exact .inl (by omega)
theorem At.take {b:Bytes} {a:Nat} {s:Bytes} (h:At b a s):(b.drop a).take s.length=s:=by
 obtain⟨u,h⟩:=h
 rw[h,List.take_left]
end Go.Eng.F
namespace Go.Eng.F
end Go.Eng.F
namespace Go.Eng.F
def cC.o (v:cC):List E:= [.p (.int .i64 v.view), .p (.int .i64 v.height), .o true (some (5,1)) (bytes v.block), .p (.int .i64 v.who), .o true (some (5,1)) (bytes v.tag)]
end Go.Eng.F
namespace Go.Eng.F
def zX (n:Int):Prop:=0≤n∧n≤1152921504606846975
def Qc.rd (q:Qc):Prop:=(zX q.view∧zX q.height)∧q.block.length≤32∧q.bits.length≤2∧q.tags.length≤16∧∀t∈q.tags,t.length≤32
def Head.rd (h:Head):Prop:=(zX h.view∧zX h.height∧zX h.proposer)∧h.parent.length≤32∧h.root.length≤32∧h.qc.rd
end Go.Eng.F
namespace Go.Eng.F
def dL.rd (l:dL):Prop:=(1≤l.n∧l.n≤10)∧(0≤l.tx∧l.tx≤40)∧(0≤l.txs∧l.txs≤8)∧3≤l.heads∧l.heads≤5
end Go.Eng.F
namespace Go.Eng.F
theorem zX.i64 {n:Int} (h:zX n):mz n:=⟨by have:=h.1;omega,by have:=h.2;omega⟩
theorem Qc.rd.wf {q:Qc} (h:q.rd):q.wf:=by
 obtain⟨⟨h1,h2⟩,h3,h4,h5,h6⟩:=h
 refine⟨h1.i64,h2.i64,?_,?_,?_⟩ <;>simp only[Sz] <;>omega
theorem Head.rd.wf {h:Head} (w:h.rd):h.wf:=by
 obtain⟨⟨h1,h2,h3⟩,h4,h5,h6⟩:=w
 refine⟨h1.i64,h2.i64,h3.i64,?_,?_,h6.wf⟩ <;>simp only[Sz] <;>omega
end Go.Eng.F
namespace Go.Eng.F
def Tc.o (t:Tc):List E:= [.p (.int .i64 t.view), .o true (some (105,3)) (kh t.entries)]
end Go.Eng.F
namespace Go.Eng.F
def yn (b:Bytes) (l:dL) (r:Rd):b7×Rd:=
 let i:=zf b l r
 if i.2.er=0 then
  let p:=wg (fun r=>pO b r 32) (mU i.1.2.2.1 i.1.2.1) i.2
  (⟨i.1.1,i.1.2.1,i.1.2.2.1,i.1.2.2.2,p.1⟩,p.2)
 else(⟨i.1.1,i.1.2.1,i.1.2.2.1,i.1.2.2.2,[]⟩,i.2)
end Go.Eng.F
namespace Go.Eng.F
end Go.Eng.F
namespace Go.Eng.F
def cur (b:Bytes) (i:Nat) (h:Int):List E0:= [.p (.sl (bytes b)), .p (.int .i64 (i:Int)), .p (.int .i64 h)]
theorem tm {N:Int} (h:0≤N) {n:Nat} (hn:n≠0):∃y:Nat,y < n∧N.tmod (n:Int)=(y:Int):=by
 obtain⟨m,rfl⟩:=Int.eq_ofNat_of_zero_le h
 exact⟨m % n,Nat.mod_lt _ (by omega),rfl⟩
def dL.e (l:dL):List E:= [.p (.int .i64 l.n), .p (.int .i64 l.tx), .p (.int .i64 l.txs), .p (.int .i64 l.frame), .p (.int .i64 l.heads)]
end Go.Eng.F
namespace Go.Eng.F
end Go.Eng.F
namespace Go.Eng.F
def kinds:List ByteArray:= [ByteArray.empty,⟨#[118,111,116,101]⟩,⟨#[113,99]⟩,⟨#[104,101,97,100]⟩,⟨#[98,108,111,99,107]⟩,⟨#[116,99]⟩,⟨#[112,114,111,111,102]⟩,⟨#[105,110,99,108]⟩]
end Go.Eng.F
namespace Go.Eng.F
def dv.o (m:dv):List E:= [.p (.int .i64 m.kind), .p (.int .i64 m.vote.view), .p (.int .i64 m.vote.height), .o true (some (5,1)) (bytes m.vote.block), .p (.int .i64 m.vote.who), .o true (some (5,1)) (bytes m.vote.tag), .p (.int .i64 m.qc.view), .p (.int .i64 m.qc.height), .o true (some (5,1)) (bytes m.qc.block), .o true (some (5,1)) (bytes m.qc.bits), .o true (some (34,1)) (dJ m.qc.tags), .p (.int .i64 m.head.view), .p (.int .i64 m.head.height), .p (.int .i64 m.head.proposer), .o true (some (5,1)) (bytes m.head.parent), .o true (some (5,1)) (bytes m.head.root), .p (.int .i64 m.head.qc.view), .p (.int .i64 m.head.qc.height), .o true (some (5,1)) (bytes m.head.qc.block), .o true (some (5,1)) (bytes m.head.qc.bits), .o true (some (34,1)) (dJ m.head.qc.tags), .p (.int .i64 m.block.head.view), .p (.int .i64 m.block.head.height), .p (.int .i64 m.block.head.proposer), .o true (some (5,1)) (bytes m.block.head.parent), .o true (some (5,1)) (bytes m.block.head.root), .p (.int .i64 m.block.head.qc.view), .p (.int .i64 m.block.head.qc.height), .o true (some (5,1)) (bytes m.block.head.qc.block), .o true (some (5,1)) (bytes m.block.head.qc.bits), .o true (some (34,1)) (dJ m.block.head.qc.tags), .o true (some (34,1)) (dJ m.block.txs), .p (.int .i64 m.tc.view), .o true (some (105,3)) (kh m.tc.entries), .o true (some (59,10)) (im m.proof.heads), .p (.int .i64 m.proof.qc.view), .p (.int .i64 m.proof.qc.height), .o true (some (5,1)) (bytes m.proof.qc.block), .o true (some (5,1)) (bytes m.proof.qc.bits), .o true (some (34,1)) (dJ m.proof.qc.tags), .p (.int .i64 m.incl.height), .p (.int .i64 m.incl.n), .p (.int .i64 m.incl.idx), .o true (some (5,1)) (bytes m.incl.tx), .o true (some (34,1)) (dJ m.incl.path)]
def qK (b:Bytes) (m:dv) (r:Rd):dv×Nat:=if r.er≠0 then(iZ,r.er)else if r.at_≠b.length then(iZ,9)else(m,0)
def Ch (l:dL) (b:Bytes):Nat→dv×Nat
 |1=>qK b {iZ with kind:=1,vote:=(yh b l ⟨1,0⟩).1} (yh b l ⟨1,0⟩).2
 |2=>qK b {iZ with kind:=2,qc:=(BQ b l ⟨1,0⟩).1} (BQ b l ⟨1,0⟩).2
 |3=>qK b {iZ with kind:=3,head:=(rF b l ⟨1,0⟩).1} (rF b l ⟨1,0⟩).2
 |4=>qK b {iZ with kind:=4,block:=(vH b l ⟨1,0⟩).1} (vH b l ⟨1,0⟩).2
 |5=>qK b {iZ with kind:=5,tc:=(Cq b l ⟨1,0⟩).1} (Cq b l ⟨1,0⟩).2
 |6=>qK b {iZ with kind:=6,proof:=(vi b l ⟨1,0⟩).1} (vi b l ⟨1,0⟩).2
 |7=>qK b {iZ with kind:=7,incl:=(yn b l ⟨1,0⟩).1} (yn b l ⟨1,0⟩).2
 |_=>(iZ,8)
def dec (l:dL) (b:Bytes):dv×Nat:=if l.ok=true then(match b[0]? with|none=>(iZ,1)|some c=>Ch l b c.toNat)else(iZ,5)
end Go.Eng.F
namespace Go.Eng.F
structure Ev where
 kind:Int
 n:Int
 msg:dv
def Ev.c (e:Ev):List D:= .int .i64 e.kind:: .int .i64 e.n::e.msg.c
def vM (l:List Ev):List (List D):=l.map Ev.c
theorem rX (l:List Ev):(vM l).length=l.length:=by simp[vM]
def AQ (s:Bytes) (a n:Nat):Bytes:=(s.drop (a+8)).take (n - 8)
def uz (k:Nat):List Ev:=if k=0 then []else [⟨1,k,iZ⟩]
def zd (l:dL) (d:Bytes):Ev:=if(dec l d).2=0 then⟨3,0,(dec l d).1⟩else⟨2,(dec l d).2,iZ⟩
def tP (l:dL) (s:Bytes) (cl:Bool):Nat→Nat→Nat→List Ev→List Ev×Nat×Nat
 |0,a,k,e=>(e,k,a)
 |g+1,a,k,e=>
  if a < s.length then
   if(j4 l s a).1=1∧cl=false then(e,k,a)
   else if(j4 l s a).1≠3 then tP l s cl g (a+1) (k+1) e
   else tP l s cl g (a+(j4 l s a).2.toNat) 0 (e++(uz k++ [zd l (AQ s a (j4 l s a).2.toNat)]))
  else(e,k,a)
def yb (l:dL) (s:Bytes) (cl:Bool) (k:Nat):List Ev×Nat×Nat:=
 let r:=tP l s cl s.length 0 k []
 (r.1++(if cl=true then uz r.2.1 else []),r.2)
end Go.Eng.F
namespace Go.Eng.F
def tail (l:dL) (s:Bytes):Nat×Nat:=if l.ok=true then((yb l s false 0).2.1,s.length - (yb l s false 0).2.2)else(0,0)
end Go.Eng.F
namespace Go.Eng.F
end Go.Eng.F
namespace Go.Eng.F
def pV (l:List dv):List (List D):=l.map dv.c
theorem qS (l:List dv):(pV l).length=l.length:=by simp[pV]
theorem rE (l:List dv) (m:dv):pV l++ [[.int .i64 m.kind, .int .i64 m.vote.view, .int .i64 m.vote.height, .sl (bytes m.vote.block), .int .i64 m.vote.who, .sl (bytes m.vote.tag), .int .i64 m.qc.view, .int .i64 m.qc.height, .sl (bytes m.qc.block), .sl (bytes m.qc.bits), .sl (dJ m.qc.tags), .int .i64 m.head.view, .int .i64 m.head.height, .int .i64 m.head.proposer, .sl (bytes m.head.parent), .sl (bytes m.head.root), .int .i64 m.head.qc.view, .int .i64 m.head.qc.height, .sl (bytes m.head.qc.block), .sl (bytes m.head.qc.bits), .sl (dJ m.head.qc.tags), .int .i64 m.block.head.view, .int .i64 m.block.head.height, .int .i64 m.block.head.proposer, .sl (bytes m.block.head.parent), .sl (bytes m.block.head.root), .int .i64 m.block.head.qc.view, .int .i64 m.block.head.qc.height, .sl (bytes m.block.head.qc.block), .sl (bytes m.block.head.qc.bits), .sl (dJ m.block.head.qc.tags), .sl (dJ m.block.txs), .int .i64 m.tc.view, .sl (kh m.tc.entries), .sl (im m.proof.heads), .int .i64 m.proof.qc.view, .int .i64 m.proof.qc.height, .sl (bytes m.proof.qc.block), .sl (bytes m.proof.qc.bits), .sl (dJ m.proof.qc.tags), .int .i64 m.incl.height, .int .i64 m.incl.n, .int .i64 m.incl.idx, .sl (bytes m.incl.tx), .sl (dJ m.incl.path)]]=pV (l++ [m]):=by simp[pV,dv.c]
theorem rq {l:List Ev} {i:Nat} (h:i < l.length):(vM l)[i]? =some (l[i].c):=by simp[vM,h]
abbrev ef:Nat:=16
def eb:AF:=⟨1,5,[.cell 2 45 true],(.seq (.ops [.i (.lbox 1 (.s 0)), .i (.lal 2 [.int .i64 0, .int .i64 0, .int .i64 0, .nils, .int .i64 0, .nils, .int .i64 0, .int .i64 0, .nils, .nils, .nils, .int .i64 0, .int .i64 0, .int .i64 0, .nils, .nils, .int .i64 0, .int .i64 0, .nils, .nils, .nils, .int .i64 0, .int .i64 0, .int .i64 0, .nils, .nils, .int .i64 0, .int .i64 0, .nils, .nils, .nils, .nils, .int .i64 0, .nils, .nils, .int .i64 0, .int .i64 0, .nils, .nils, .nils, .int .i64 0, .int .i64 0, .int .i64 0, .nils, .nils])]) (.seq (.ops [qf 3 1 0,ql 4 1 3 1 false,qf 5 1 1,ql 6 1 5 5 true,qk 8 36 6, .i (.fld 8 (.s 7) 1 5 true),qf 9 1 6,ql 10 1 9 5 true,qk 12 37 10,qf 12 1 11,ql 13 1 12 10 true,qk 15 38 13,qf 15 1 21,ql 16 1 15 11 true,qk 18 39 16,qf 18 1 32,ql 19 1 18 2 true,qk 21 40 19,qf 21 1 34,ql 22 1 21 6 true,qk 24 41 22,qf 24 1 40,ql 25 1 24 5 true,qk 27 42 25, .i (.bld 27 [.int .i64 0, .int .i64 0, .int .i64 0, .nils, .int .i64 0, .nils, .int .i64 0, .int .i64 0, .nils, .nils, .nils, .int .i64 0, .int .i64 0, .int .i64 0, .nils, .nils, .int .i64 0, .int .i64 0, .nils, .nils, .nils, .int .i64 0, .int .i64 0, .int .i64 0, .nils, .nils, .int .i64 0, .int .i64 0, .nils, .nils, .nils, .nils, .int .i64 0, .nils, .nils, .int .i64 0, .int .i64 0, .nils, .nils, .nils, .int .i64 0, .int .i64 0, .int .i64 0, .nils, .nils] [(0,1,(.s 4)),(1,5,(.s 8)),(6,5,(.s 11)),(11,10,(.s 14)),(21,11,(.s 17)),(32,2,(.s 20)),(34,6,(.s 23)),(40,5,(.s 26))]),qs 2 2 27 45]) .ret))⟩
theorem iJ:cd ef=some eb:=by kernel_rfl
theorem lP (m:dv) (hw:m.wc):VC cd ef (dK [(true,m.c)]) (fun rs _=>rs= [(true,m.o)]):=by
 refine aI iJ rfl ?_
 simp(disch:=omega) [eb,dv.c,VZ]
 refine kg (kV m.vote hw.vote) ?_ (ha:=by first|rfl|(simp[cC.c,VY] <;>repeat' constructor))
 simp(disch:=omega) [gK,VZ]
 refine kg (eV m.qc hw.qc) ?_ (ha:=by first|rfl|(simp[Qc.c,VY] <;>repeat' constructor))
 simp(disch:=omega) [Qc.o,VZ]
 refine kg (dS m.head hw.head) ?_ (ha:=by first|rfl|(simp[Head.c,VY] <;>repeat' constructor))
 simp(disch:=omega) [Head.o,VZ]
 refine kg (jS m.block hw.block.1) ?_ (ha:=by first|rfl|(simp[Block.c,Head.c,VY] <;>repeat' constructor))
 simp(disch:=omega) [Block.o,VZ]
 refine kg (nu m.tc hw.tc) ?_ (ha:=by first|rfl|(simp[Tc.c,VY] <;>repeat' constructor))
 simp(disch:=omega) [VZ]
 refine kg (jX m.proof hw.proof) ?_ (ha:=by first|rfl|(simp[Proof.c,VY] <;>repeat' constructor))
 simp(disch:=omega) [Proof.o,VZ]
 refine kg (ln m.incl hw.incl) ?_ (ha:=by first|rfl|(simp[b7.c,VY] <;>repeat' constructor))
 simp(disch:=omega) [b7.o,dv.o,VZ]
def aK (l:List Ev):List dv:=(l.filter fun e=>decide (e.kind=3)).map Ev.msg
theorem oo {l:List Ev} {i:Nat} (h:i < l.length) (k:l[i].kind=3):aK (l.take (i+1))=aK (l.take i)++ [l[i].msg]:=by
 rw[List.take_add_one,List.getElem?_eq_getElem h]
 show aK (l.take i++ [l[i]])=_
 rw[aK,List.filter_append,List.map_append]
 congr 1
 simp[k]
theorem pk {l:List Ev} {i:Nat} (h:i < l.length) (k:¬l[i].kind=3):aK (l.take (i+1))=aK (l.take i):=by
 rw[List.take_add_one,List.getElem?_eq_getElem h]
 show aK (l.take i++ [l[i]])=_
 rw[aK,List.filter_append,List.map_append]
 have:List.filter (fun e:Ev=>decide (e.kind=3)) [l[i]]= []:=by simp[k]
 rw[this]
 simp[aK]
theorem kB (l:List Ev) (i:Nat):(aK (l.take i)).length≤l.length:=by
 simp only[aK,List.length_map]
 exact Nat.le_trans (List.length_filter_le _ _) (by simp;omega)
abbrev gp:Nat:=7
def jL:AF:=⟨1,5,[.tmp 2],(.seq (.ops [.i (.mov 2 (.c (.val false [.nils])))]) (.seq (.ops [.i (.bse 6),qm 3 6]) (.seq (.seq (.ops [qm 7 0,qn 8 7, .i (.mov 9 (qi 0))]) (.block 0 (.loop [22,21,20,19,18,17,16,15,14,13,12,11,10,5] (.seq (.ops [qd 10 .lss 9 8]) (.seq (.cond (.s 10) .skip (.exit 0)) (.seq (.block 1 (.seq (.ops [.i (.iad 11 (.s 7) (.s 9) 47), .i (.ldh 12 (.s 11) 47 true), .i (.lal 5 [.int .i64 0, .int .i64 0, .int .i64 0, .int .i64 0, .int .i64 0, .nils, .int .i64 0, .nils, .int .i64 0, .int .i64 0, .nils, .nils, .nils, .int .i64 0, .int .i64 0, .int .i64 0, .nils, .nils, .int .i64 0, .int .i64 0, .nils, .nils, .nils, .int .i64 0, .int .i64 0, .int .i64 0, .nils, .nils, .int .i64 0, .int .i64 0, .nils, .nils, .nils, .nils, .int .i64 0, .nils, .nils, .int .i64 0, .int .i64 0, .nils, .nils, .nils, .int .i64 0, .int .i64 0, .int .i64 0, .nils, .nils]),qs 5 5 12 47]) (.seq (.ops [qf 13 5 0,ql 14 5 13 1 false, .i (.bin 15 .eql (.s 14) (qi 3))]) (.cond (.s 15) (.ops [qm 16 3,qf 17 5 2,ql 18 5 17 45 true,qk 20 16 18, .i (.lsl 20 45 1 [.int .i64 0, .int .i64 0, .int .i64 0, .nils, .int .i64 0, .nils, .int .i64 0, .int .i64 0, .nils, .nils, .nils, .int .i64 0, .int .i64 0, .int .i64 0, .nils, .nils, .int .i64 0, .int .i64 0, .nils, .nils, .nils, .int .i64 0, .int .i64 0, .int .i64 0, .nils, .nils, .int .i64 0, .int .i64 0, .nils, .nils, .nils, .nils, .int .i64 0, .nils, .nils, .int .i64 0, .int .i64 0, .nils, .nils, .nils, .int .i64 0, .int .i64 0, .int .i64 0, .nils, .nils] [(0,45,(.s 19))]), .i (.app 21 70 45 728 (.s 16) (.s 20)),qm 3 21]) .skip)))) (.ops [.i (.bin 22 .add (.s 9) (qi 1)),qm 9 22]))))))) (.seq (.ops [qm 23 3,qm 2 23]) .ret))))⟩
theorem pv:cd gp=some jL:=by kernel_rfl
theorem m8 (l:List Ev) (hl:l.length≤1073741824) (hw:∀e∈l,e.msg.wc):VC cd gp (dK [(false,[.sl (vM l)])]) (fun rs _=>rs= [(false,[.o true (some (70,45)) (pV (aK l))])]):=by
 refine aI pv rfl ?_
 simp(disch:=omega) [jL,rX,VZ]
 refine pb (σ:=Nat×Nat×List dv) (f1:=_) (es0:=_) (by simp(disch:=omega) [VZ];rfl) (by simp(disch:=omega) [VZ];rfl) (fun p=> [(9, .val false [.int .i64 (p.1:Int)]),(3, .val false [.ow 6 p.2.1])]) (fun p=> [(6, .sl p.2.1 true true (some (70,45)) (pV p.2.2))])
  (fun p g=>g+p.1=l.length∧p.2.2=aK (l.take p.1)) (0,_,[]) l.length (by simp(disch:=omega) [VZ];rfl) (by simp(disch:=omega) [pV,VZ]) ⟨by simp,by simp[aK]⟩ ?_
 rintro⟨i,v,x⟩ nx g ⟨hg,h5⟩ P hP
 simp only at hg h5
 have hml:=kB l i
 rw[←h5]at hml
 have hl2:(pV x).length=x.length:=qS x
 simp(disch:=omega) [VZ]
 refine ec (fun h8=> ?_) (fun h8=> ?_)
 ·simp(disch:=omega) [rq h8,Ev.c,dv.c,VZ]
  by_cases k3:l[i].kind=3
  ·simp(disch:=omega) [k3,VZ]
   refine kg (lP l[i].msg (hw _ (List.getElem_mem h8))) ?_ (ha:=by first|rfl|(simp[dv.c,VY] <;>repeat' constructor))
   simp(disch:=omega) [dv.o,rE,hl2,VZ]
   exact hP (i+1,_,x++ [l[i].msg]) (g - 1) _ _ (by omega) ⟨by simp only;omega,by rw[h5];exact(oo h8 k3).symm⟩ (by simp(disch:=omega) [VZ] <;>rfl) (by simp(disch:=omega) [VZ])
  ·simp(disch:=omega) [k3,VZ]
   exact hP (i+1,v,x) (g - 1) _ _ (by omega) ⟨by simp only;omega,by rw[h5];exact(pk h8 k3).symm⟩ (by simp(disch:=omega) [VZ] <;>rfl) (by simp(disch:=omega) [VZ])
 ·have:i=l.length:=by omega
  subst this
  rw[List.take_length]at h5
  simp(disch:=omega) [h5,VZ]
abbrev fJ:Nat:=14
def fM:AF:=⟨1,6,[.cell 2 45 true],(.seq (.ops [.i (.lbox 1 (.s 0)), .i (.lal 2 [.int .i64 0, .int .i64 0, .int .i64 0, .nils, .int .i64 0, .nils, .int .i64 0, .int .i64 0, .nils, .nils, .nils, .int .i64 0, .int .i64 0, .int .i64 0, .nils, .nils, .int .i64 0, .int .i64 0, .nils, .nils, .nils, .int .i64 0, .int .i64 0, .int .i64 0, .nils, .nils, .int .i64 0, .int .i64 0, .nils, .nils, .nils, .nils, .int .i64 0, .nils, .nils, .int .i64 0, .int .i64 0, .nils, .nils, .nils, .int .i64 0, .int .i64 0, .int .i64 0, .nils, .nils])]) (.seq (.ops [qf 4 1 1,ql 5 1 4 5 true,qk 7 28 5, .i (.lal 3 [.int .i64 0, .int .i64 0, .int .i64 0, .nils, .int .i64 0, .nils, .int .i64 0, .int .i64 0, .nils, .nils, .nils, .int .i64 0, .int .i64 0, .int .i64 0, .nils, .nils, .int .i64 0, .int .i64 0, .nils, .nils, .nils, .int .i64 0, .int .i64 0, .int .i64 0, .nils, .nils, .int .i64 0, .int .i64 0, .nils, .nils, .nils, .nils, .int .i64 0, .nils, .nils, .int .i64 0, .int .i64 0, .nils, .nils, .nils, .int .i64 0, .int .i64 0, .int .i64 0, .nils, .nils]),qs 3 3 6 45]) (.seq (.ops [qf 7 1 0,ql 8 1 7 1 false,qf 9 3 0,qs 3 9 8 1]) (.seq (.ops [qf 10 1 6,ql 11 1 10 5 true,qk 13 29 11,qf 13 3 6,qs 3 13 12 5]) (.seq (.ops [qf 14 1 11,ql 15 1 14 10 true,qk 17 30 15,qf 17 3 11,qs 3 17 16 10]) (.seq (.ops [qf 18 1 21,ql 19 1 18 11 true,qk 21 31 19,qf 21 3 21,qs 3 21 20 11]) (.seq (.ops [qf 22 1 32,ql 23 1 22 2 true,qk 25 32 23,qf 25 3 32,qs 3 25 24 2]) (.seq (.ops [qf 26 1 34,ql 27 1 26 6 true,qk 29 33 27,qf 29 3 34,qs 3 29 28 6]) (.seq (.ops [qf 30 1 40,ql 31 1 30 5 true,qk 33 34 31,qf 33 3 40,qs 3 33 32 5]) (.seq (.ops [ql 34 3 3 45 true,qs 2 2 34 45]) .ret))))))))))⟩
theorem kq:cd fJ=some fM:=by kernel_rfl
theorem p4 (m:dv) (hw:m.wc):VC cd fJ (dK [(true,m.c)]) (fun rs _=>rs= [(true,m.o)]):=by
 refine aI kq rfl ?_
 simp(disch:=omega) [fM,dv.c,VZ]
 refine kg (kn m.vote hw.vote) ?_ (ha:=by first|rfl|(simp[cC.c,VY] <;>repeat' constructor))
 simp(disch:=omega) [gK,VZ]
 refine kg (iq m.qc hw.qc) ?_ (ha:=by first|rfl|(simp[Qc.c,VY] <;>repeat' constructor))
 simp(disch:=omega) [Qc.o,VZ]
 refine kg (hY m.head hw.head) ?_ (ha:=by first|rfl|(simp[Head.c,VY] <;>repeat' constructor))
 simp(disch:=omega) [Head.o,VZ]
 refine kg (qg m.block hw.block.1) ?_ (ha:=by first|rfl|(simp[Block.c,Head.c,VY] <;>repeat' constructor))
 simp(disch:=omega) [Block.o,VZ]
 refine kg (qA m.tc hw.tc) ?_ (ha:=by first|rfl|(simp[Tc.c,VY] <;>repeat' constructor))
 simp(disch:=omega) [VZ]
 refine kg (p0 m.proof hw.proof) ?_ (ha:=by first|rfl|(simp[Proof.c,VY] <;>repeat' constructor))
 simp(disch:=omega) [Proof.o,VZ]
 refine kg (qh m.incl hw.incl) ?_ (ha:=by first|rfl|(simp[b7.c,VY] <;>repeat' constructor))
 simp(disch:=omega) [b7.o,dv.o,VZ]
abbrev gl:Nat:=5
def jM:AF:=⟨1,5,[.tmp 2],(.seq (.ops [.i (.mov 2 (.c (.val false [.nils])))]) (.seq (.ops [.i (.bse 6),qm 3 6]) (.seq (.seq (.ops [qm 7 0,qn 8 7, .i (.mov 9 (qi 0))]) (.block 0 (.loop [22,21,20,19,18,17,16,15,14,13,12,11,10,5] (.seq (.ops [qd 10 .lss 9 8]) (.seq (.cond (.s 10) .skip (.exit 0)) (.seq (.block 1 (.seq (.ops [.i (.iad 11 (.s 7) (.s 9) 47), .i (.ldh 12 (.s 11) 47 true), .i (.lal 5 [.int .i64 0, .int .i64 0, .int .i64 0, .int .i64 0, .int .i64 0, .nils, .int .i64 0, .nils, .int .i64 0, .int .i64 0, .nils, .nils, .nils, .int .i64 0, .int .i64 0, .int .i64 0, .nils, .nils, .int .i64 0, .int .i64 0, .nils, .nils, .nils, .int .i64 0, .int .i64 0, .int .i64 0, .nils, .nils, .int .i64 0, .int .i64 0, .nils, .nils, .nils, .nils, .int .i64 0, .nils, .nils, .int .i64 0, .int .i64 0, .nils, .nils, .nils, .int .i64 0, .int .i64 0, .int .i64 0, .nils, .nils]),qs 5 5 12 47]) (.seq (.ops [qf 13 5 0,ql 14 5 13 1 false, .i (.bin 15 .eql (.s 14) (qi 3))]) (.cond (.s 15) (.ops [qm 16 3,qf 17 5 2,ql 18 5 17 45 true,qk 20 14 18, .i (.lsl 20 45 1 [.int .i64 0, .int .i64 0, .int .i64 0, .nils, .int .i64 0, .nils, .int .i64 0, .int .i64 0, .nils, .nils, .nils, .int .i64 0, .int .i64 0, .int .i64 0, .nils, .nils, .int .i64 0, .int .i64 0, .nils, .nils, .nils, .int .i64 0, .int .i64 0, .int .i64 0, .nils, .nils, .int .i64 0, .int .i64 0, .nils, .nils, .nils, .nils, .int .i64 0, .nils, .nils, .int .i64 0, .int .i64 0, .nils, .nils, .nils, .int .i64 0, .int .i64 0, .int .i64 0, .nils, .nils] [(0,45,(.s 19))]), .i (.app 21 70 45 728 (.s 16) (.s 20)),qm 3 21]) .skip)))) (.ops [.i (.bin 22 .add (.s 9) (qi 1)),qm 9 22]))))))) (.seq (.ops [qm 23 3,qm 2 23]) .ret))))⟩
theorem o9:cd gl=some jM:=by kernel_rfl
theorem mE (l:List Ev) (hl:l.length≤1073741824) (hw:∀e∈l,e.msg.wc):VC cd gl (dK [(false,[.sl (vM l)])]) (fun rs _=>rs= [(false,[.o true (some (70,45)) (pV (aK l))])]):=by
 refine aI o9 rfl ?_
 simp(disch:=omega) [jM,rX,VZ]
 refine pb (σ:=Nat×Nat×List dv) (f1:=_) (es0:=_) (by simp(disch:=omega) [VZ];rfl) (by simp(disch:=omega) [VZ];rfl) (fun p=> [(9, .val false [.int .i64 (p.1:Int)]),(3, .val false [.ow 6 p.2.1])]) (fun p=> [(6, .sl p.2.1 true true (some (70,45)) (pV p.2.2))])
  (fun p g=>g+p.1=l.length∧p.2.2=aK (l.take p.1)) (0,_,[]) l.length (by simp(disch:=omega) [VZ];rfl) (by simp(disch:=omega) [pV,VZ]) ⟨by simp,by simp[aK]⟩ ?_
 rintro⟨i,v,x⟩ nx g ⟨hg,h5⟩ P hP
 simp only at hg h5
 have hml:=kB l i
 rw[←h5]at hml
 have hl2:(pV x).length=x.length:=qS x
 simp(disch:=omega) [VZ]
 refine ec (fun h8=> ?_) (fun h8=> ?_)
 ·simp(disch:=omega) [rq h8,Ev.c,dv.c,VZ]
  by_cases k3:l[i].kind=3
  ·simp(disch:=omega) [k3,VZ]
   refine kg (p4 l[i].msg (hw _ (List.getElem_mem h8))) ?_ (ha:=by first|rfl|(simp[dv.c,VY] <;>repeat' constructor))
   simp(disch:=omega) [dv.o,rE,hl2,VZ]
   exact hP (i+1,_,x++ [l[i].msg]) (g - 1) _ _ (by omega) ⟨by simp only;omega,by rw[h5];exact(oo h8 k3).symm⟩ (by simp(disch:=omega) [VZ] <;>rfl) (by simp(disch:=omega) [VZ])
  ·simp(disch:=omega) [k3,VZ]
   exact hP (i+1,v,x) (g - 1) _ _ (by omega) ⟨by simp only;omega,by rw[h5];exact(pk h8 k3).symm⟩ (by simp(disch:=omega) [VZ] <;>rfl) (by simp(disch:=omega) [VZ])
 ·have:i=l.length:=by omega
  subst this
  rw[List.take_length]at h5
  simp(disch:=omega) [h5,VZ]
end Go.Eng.F
namespace Go.Eng.F
open Go.Eng.U (dA TEvent)
def Ev.tv (e:Ev):Tv:= .r [.i e.kind, .i e.n,e.msg.tv]
theorem Ev.enc (e:Ev):enc TEvent e.tv=e.c:=by simp only[Ev.tv,dv.enc,cA,aW,bo,bS,Ev.c,List.cons_append,List.nil_append,List.append_nil]
theorem Ev.ex {v:Tv} (h:ax TEvent v):∃e:Ev,v=e.tv:=by
 obtain⟨vs,rfl,h⟩:=h.st
 obtain⟨v0,_,rfl,h0,h⟩:=h.step
 obtain⟨v1,_,rfl,h1,h⟩:=h.step
 obtain⟨v2,_,rfl,h2,h⟩:=h.step
 obtain rfl:=h.fin
 obtain⟨n0,rfl,_⟩:=h0.int
 obtain⟨n1,rfl,_⟩:=h1.int
 obtain⟨n2,rfl⟩:=dv.ex h2
 exact⟨⟨n0,n1,n2⟩,rfl⟩
def eX (l:List Ev):Tv:= .l (l.map Ev.tv)
theorem rj (l:List Ev):enc (.sl TEvent) (eX l)= [.sl (vM l)]:=by
 simp only[eX,jq,List.map_map,vM]
 congr 2
 exact List.map_congr_left fun x _=>Ev.enc x
theorem xn {v:Tv} (h:ax (.sl TEvent) v):∃l,v=eX l:=by
 obtain⟨xs,rfl,_,h2⟩:=h.sl
 obtain⟨ys,rfl⟩:=eT (f:=Ev.tv) (P:=ax TEvent) (fun v hv=>Ev.ex hv) h2
 exact⟨ys,rfl⟩
theorem uE {l:List Ev} (h:ax (.sl TEvent) (eX l)) (hw:wt (eX l)≤1048576):l.length≤1073741824∧(∀e∈l,e.msg.wc)∧(∀e∈l,ax dA e.msg.tv):=by
 unfold eX at h hw
 rw[qy]at hw
 have h2:=(oF.1 h).2
 simp only[List.length_map]at hw
 have h3:∀e∈l,ax dA e.msg.tv:=fun e he=>by
  have:=h2 _ (List.mem_map_of_mem he)
  simp only[Ev.tv,c7,bn]at this
  exact this.2.2.1
 refine⟨by omega,fun e he=>dv.of (h3 e he) ?_,h3⟩
 have:=gJ (f:=Ev.tv) he
 simp only[Ev.tv,wt,bI]at this
 omega
def kE (l:List dv):Tv:= .l (l.map dv.tv)
theorem xu (l:List dv):enc (.sl dA) (kE l)= [.sl (pV l)]:=by
 simp only[kE,jq,List.map_map,pV]
 congr 2
 exact List.map_congr_left fun x _=>dv.enc x
theorem xY (l:List Ev):wt (kE (aK l))≤wt (eX l):=by
 induction l with
 |nil=>simp[aK,kE,eX,wt]
 |cons e l ih=>
  simp only[kE,eX,qy,List.length_map,List.map_cons,List.length_cons]at ih⊢
  by_cases k:e.kind=3
  ·have e1:aK (e::l)=e.msg::aK l:=by simp[aK,k]
   rw[e1]
   simp only[List.map_cons,bI,List.length_cons,Ev.tv,wt]
   omega
  ·have e1:aK (e::l)=aK l:=by simp[aK,k]
   rw[e1]
   simp only[bI]
   omega
theorem r8 {l:List Ev} (hl:l.length≤1073741824) (h:∀e∈l,ax dA e.msg.tv):y4 [(false,[.o true (some (70,45)) (pV (aK l))])] [(.sl dA,kE (aK l))]:=by
 have h1:(aK l).length≤l.length:=by
  simp only[aK,List.length_map]
  exact List.length_filter_le _ _
 refine⟨rfl,by simp only[xu,m0,and_self],?_,trivial⟩
 unfold kE
 refine oF.2 ⟨by rw[List.length_map];exact Nat.le_trans (Nat.le_trans h1 hl) (by decide),fun v hv=> ?_⟩
 obtain⟨m,hm,rfl⟩:=List.mem_map.1 hv
 simp only[aK,List.mem_map,List.mem_filter]at hm
 obtain⟨e,he,rfl⟩:=hm
 exact h e he.1
theorem je {h0:H} {l:List Ev} {ms:List (Bool×List C)} (ha:cI h0 [((.sl TEvent),eX l)] ms) (hp0:wt (eX l)≤1048576):
 WC cd gp ms h0 (Co h0 [(.sl dA,kE (aK l))]):=by
 obtain⟨k0,mr0,ha0⟩:=cI.Ck ha
 obtain⟨w1,w2,w3⟩:=uE k0 hp0
 have hc:=m8 l w1 w2
 have e:oD [((.sl TEvent),eX l)]= [(false,[.sl (vM l)])]:=by simp only[oD,List.map,dL.enc,Head.enc,Qc.enc,bX,dg,bS,cG,di,gH,rj,Ty.agg]
 rw[←e]at hc
 exact hc.wc ha fun rs q=>by rw[q];exact r8 w1 w3
theorem nI {h0:H} {l:List Ev} {ms:List (Bool×List C)} (ha:cI h0 [((.sl TEvent),eX l)] ms) (hp0:wt (eX l)≤1048576):
 WC cd gl ms h0 (Co h0 [(.sl dA,kE (aK l))]):=by
 obtain⟨k0,mr0,ha0⟩:=cI.Ck ha
 obtain⟨w1,w2,w3⟩:=uE k0 hp0
 have hc:=mE l w1 w2
 have e:oD [((.sl TEvent),eX l)]= [(false,[.sl (vM l)])]:=by simp only[oD,List.map,dL.enc,Head.enc,Qc.enc,bX,dg,bS,cG,di,gH,rj,Ty.agg]
 rw[←e]at hc
 exact hc.wc ha fun rs q=>by rw[q];exact r8 w1 w3
end Go.Eng.F
