import Derived.Test.YtanfobggenpcaaaGreatGd
import Derived.Test.YtanfobggenpcaaaGreatGg
set_option maxRecDepth 100000
set_option linter.unusedSimpArgs false
set_option linter.unusedVariables false
namespace Go.Eng.F
open Go.Eng.U (df cO EU)
def zk (m:bh):UInt8:=UInt8.ofNat m.kind.toNat
theorem z8 {l:aj} {m:bh} (h:cF l m=true):bF l m=true:=by
 simp only[cF,Bool.and_eq_true]at h
 exact h.1
theorem Ga {l:aj} {m:bh} (h:bF l m=true):IntKind.u8.wrap m.kind=((zk m).toNat:Int):=by
 have h1:=nG h
 obtain⟨k,hk⟩:∃k:Nat,m.kind=(k:Int):=⟨m.kind.toNat,by omega⟩
 unfold zk
 rw[hk]
 exact PG (by omega)
abbrev iJ:Nat:=133
def rv:AF:=⟨2,5,[.tmp 4, .tmp 5],(.seq (.ops [.i (.lbox 2 (.s 0)), .i (.lbox 3 (.s 1)), .i (.mov 4 (.c (.val false [.nils]))), .i (.mov 5 (qb false))]) (.seq (.seq (.ops [ql 6 2 2 5 true,ql 7 3 3 45 true, .i (.call 9 159 false [(.s 6),(.s 7)]), .i (.not 9 (.s 8))]) (.cond (.s 9) (.seq (.ops [.i (.mov 4 (.c (.val false [.nils]))), .i (.mov 5 (qb false))]) .ret) .skip)) (.seq (.ops [ql 10 2 2 5 true,qf 11 3 0,ql 12 3 11 1 false, .i (.cvi 13 .u8 (.s 12)), .i (.bsl 14 5 1 1 [.int .u8 0] [(0,1,(.s 13))]),ql 15 3 3 45 true, .i (.call 17 183 false [(.s 10),(.s 14),(.s 15)]), .i (.ext 17 (.s 16) 0), .i (.ext 18 (.s 16) 1),qm 4 17,qm 5 18]) .ret)))⟩
theorem BG:cd iJ=some rv:=by kernel_rfl
theorem AY (l:aj) (m:bh) (hw:m.wc):VC cd iJ (aH [(true,l.c),(true,m.c)]) (fun rs _=>rs=c5 (cF l m) (zk m::eW m)):=by
 have e0: [[D.int .u8 ((zk m).toNat:Int)]]=bytes [zk m]:=rfl
 refine aa BG rfl ?_
 simp(disch:=omega) [rv,aj.c,bh.c,VY]
 refine av (BH l m hw) ?_ (ha:=by first|rfl|(simp[aj.c,bh.c,VY] <;>repeat' constructor))
 simp(disch:=omega) [VY]
 refine aA (fun h1=> ?_) (fun h1=> ?_)
 case refine_2=>simp(disch:=omega) [h1,c5,VY]
 have hp:=z8 h1
 have hk:cw m.kind 1 7=true:=by
  have:=nG hp
  simp only[cw,decide_eq_true_eq]
  omega
 simp(disch:=omega) [h1,Ga hp,e0,VY]
 refine av ((bn l [zk m] m hw hk (by simp)).re (cQ hp)) ?_ (ha:=by first|rfl|(simp[aj.c,bh.c,VY] <;>repeat' constructor))
 simp(disch:=omega) [h1,c5,VY]
theorem Ir {l:aj} {m:bh} (h:bF l m=true):(eW m).length≤20000:=by
 unfold bF at h
 unfold eW
 split at h
 ·rename_i g;rw[if_pos g];have:=KU (HU h);omega
 split at h
 ·rename_i g1 g;rw[if_neg g1,if_pos g];have:=D2 (yp h);omega
 split at h
 ·rename_i g1 g2 g;rw[if_neg g1,if_neg g2,if_pos g];have:=jJ (fv h);omega
 split at h
 ·rename_i g1 g2 g3 g
  rw[if_neg g1,if_neg g2,if_neg g3,if_pos g]
  have k1:=jJ (fv (kH h))
  have k2:=wB h
  have k3:=sC (wv h)
  have k4:=dh (n:=m.block.txs.length) (by omega)
  simp only[f5]at k3
  simp only[Av,List.length_append]
  omega
 split at h
 ·rename_i g1 g2 g3 g4 g
  rw[if_neg g1,if_neg g2,if_neg g3,if_neg g4,if_pos g]
  obtain⟨k1,k2,k3⟩:=Fk h
  have k4:=vi k3
  have k5:=aQ k2
  have k6:=dh (n:=m.tc.entries.length) (by omega)
  simp only[i9]at k4
  simp only[O4,List.length_append]
  omega
 split at h
 ·rename_i g1 g2 g3 g4 g5 g
  rw[if_neg g1,if_neg g2,if_neg g3,if_neg g4,if_neg g5,if_pos g]
  obtain⟨k1,k2,k3⟩:=wH h
  have k4:=sI (fun e he=>fv (k3 e he))
  have k5:=D2 (yp k2)
  have k6:=dh (n:=m.proof.heads.length) (by omega)
  simp only[fw]at k4
  simp only[zR,List.length_append]
  omega
 split at h
 ·rename_i g1 g2 g3 g4 g5 g6 g
  rw[if_neg g1,if_neg g2,if_neg g3,if_neg g4,if_neg g5,if_neg g6]
  obtain⟨k1,k2,k3,k4,k5,k6⟩:=yF h
  have v1:=aQ k1
  have v2:=aQ k2
  have v3:=aQ k3
  have v4:=vD (x:=m.incl.tx) (by omega)
  have v5:=qD k6 (Nat.le_refl _)
  rw[List.take_length]at v5
  simp only[F3,List.length_append]
  omega
 ·cases h
def G8 (l:aj) (m:bh):Bytes:=if cF l m then zk m::eW m else []
theorem Fe (l:aj) (m:bh):(G8 l m).length≤20001:=by
 unfold G8
 split
 ·rename_i h
  have:=Ir (z8 h)
  simp only[List.length_cons]
  omega
 ·simp
end Go.Eng.F
namespace Go.Eng.F
def gv:Bytes→Nat→Nat→Nat×Nat×Nat
 | [],_,_=>(0,0,1)
 |c::r,k,n=>
  if(0 < k∧c.toNat=0)∨(k=8∧128≤c.toNat)then(0,0,2)
  else if c.toNat < 128 then(if n+c.toNat * 128 ^ k≤1152921504606846975 then(n+c.toNat * 128 ^ k,k+1,0)else(0,0,2))
  else gv r (k+1) (n+(c.toNat - 128) * 128 ^ k)
structure Rd where
 at_:Nat
 er:Nat
def getVar (b:Bytes) (a:Nat):Nat×Rd:=
 let x:=gv (b.drop a) 0 0
 if x.2.2=0 then(x.1,⟨a+x.2.1,0⟩)else(0,⟨0,x.2.2⟩)
def hO (b:Bytes) (a n:Nat):Bytes×Rd:=if a+n≤b.length then((b.drop a).take n,⟨a+n,0⟩)else([],⟨0,1⟩)
def gG (b:Bytes) (a m:Nat):Bytes×Rd:=
 let x:=getVar b a
 if x.2.er≠0 then([],⟨0,x.2.er⟩)else if m < x.1 then([],⟨0,3⟩)else hO b x.2.at_ x.1
def d6 (b:Bytes) (a:Nat) (n:Int):Bytes×Rd:=
 let x:=hO b a (tY n).toNat
 if x.2.er≠0 then([],⟨0,x.2.er⟩)else if dN x.1 n then x else([],⟨0,4⟩)
def cT (b:Bytes) (r:Rd):Nat×Rd:=if r.er=0 then getVar b r.at_ else(0,r)
def cj (r:Rd) (bad:Bool) (c:Nat):Rd:=if r.er=0∧bad=true then⟨r.at_,c⟩else r
def bU (b:Bytes) (r:Rd) (n:Int) (c:Nat):Nat×Rd:=((cT b r).1,cj (cT b r).2 (decide (n≤((cT b r).1:Int))) c)
def db (b:Bytes) (r:Rd) (n:Nat):Bytes×Rd:=if r.er=0 then hO b r.at_ n else([],r)
def eu (b:Bytes) (r:Rd) (m:Nat):Bytes×Rd:=if r.er=0 then gG b r.at_ m else([],r)
def Rd.wf (b:Bytes) (r:Rd):Prop:=r.at_≤b.length∧r.er≤9
theorem MW:∀(s:Bytes) (k n:Nat),k≤8→(gv s k n).2.1≤k+s.length∧(gv s k n).2.2≤2∧(gv s k n).1≤1152921504606846975∧((gv s k n).2.2=0→k < (gv s k n).2.1)
 | [],k,n,h=>by simp[gv]
 |c::r,k,n,h=>by
  rw[gv]
  split
  ·simp
  ·rename_i h1
   split
   ·split
    ·rename_i h3;simp only[List.length_cons];omega
    ·simp
   ·rename_i h2
    have:=MW r (k+1) (n+(c.toNat - 128) * 128 ^ k) (by omega)
    simp only[List.length_cons]
    omega
theorem wu {b:Bytes} {a:Nat} (h:a≤b.length):(getVar b a).2.wf b∧(getVar b a).1≤1152921504606846975:=by
 have h1:=MW (b.drop a) 0 0 (by omega)
 simp only[List.length_drop]at h1
 simp only[getVar]
 split
 ·exact⟨⟨by simp only;omega,by simp⟩,h1.2.2.1⟩
 ·exact⟨⟨by simp,by simp only;omega⟩,by simp⟩
theorem qo (b:Bytes) (a n:Nat):(hO b a n).2.wf b∧(hO b a n).1.length≤n∧(hO b a n).1.length≤b.length:=by
 unfold hO
 split
 ·exact⟨⟨by simp only;omega,by simp⟩,by simp;omega,by simp;omega⟩
 ·exact⟨⟨by simp,by simp⟩,by simp,by simp⟩
theorem GR {b:Bytes} {a m:Nat} (h:a≤b.length):(gG b a m).2.wf b∧(gG b a m).1.length≤m∧(gG b a m).1.length≤b.length:=by
 have h1:=wu h
 simp only[gG]
 split
 ·exact⟨⟨by simp,h1.1.2⟩,by simp,by simp⟩
 ·split
  ·exact⟨⟨by simp,by simp⟩,by simp,by simp⟩
  ·have:=qo b (getVar b a).2.at_ (getVar b a).1
   exact⟨this.1,by omega,this.2.2⟩
theorem GH (b:Bytes) (a:Nat) (n:Int):(d6 b a n).2.wf b∧(d6 b a n).1.length≤b.length:=by
 have h1:=qo b a (tY n).toNat
 simp only[d6]
 split
 ·exact⟨⟨by simp,h1.1.2⟩,by simp⟩
 ·split
  ·exact⟨h1.1,h1.2.2⟩
  ·exact⟨⟨by simp,by simp⟩,by simp⟩
theorem cW {b:Bytes} {r:Rd} (h:r.wf b):(cT b r).2.wf b∧(cT b r).1≤1152921504606846975:=by
 unfold cT
 split
 ·exact wu h.1
 ·exact⟨h,by simp⟩
theorem dY {b:Bytes} {r:Rd} (h:r.wf b) {bad:Bool} {c:Nat} (hc:c≤9):(cj r bad c).wf b:=by
 unfold cj
 split
 ·exact⟨h.1,hc⟩
 ·exact h
theorem ey {b:Bytes} {r:Rd} (h:r.wf b) {n:Int} {c:Nat} (hc:c≤9):(bU b r n c).2.wf b∧(bU b r n c).1≤1152921504606846975:=⟨dY (cW h).1 hc,(cW h).2⟩
theorem ec {b:Bytes} {r:Rd} (h:r.wf b) (n:Nat):(db b r n).2.wf b∧(db b r n).1.length≤n∧(db b r n).1.length≤b.length:=by
 unfold db
 split
 ·exact qo b _ n
 ·exact⟨h,by simp,by simp⟩
theorem tw {b:Bytes} {r:Rd} (h:r.wf b) (m:Nat):(eu b r m).2.wf b∧(eu b r m).1.length≤m∧(eu b r m).1.length≤b.length:=by
 unfold eu
 split
 ·exact GR h.1
 ·exact⟨h,by simp,by simp⟩
def Mw (x:Nat×Rd):List (Bool×List E):= [(false,[.p (.int .i64 (x.1:Int))]),(false,[.p (.int .i64 (x.2.at_:Int))]),(false,[.p (.int .i64 (x.2.er:Int))])]
def Hs (x:Bytes×Rd):List (Bool×List E):= [(false,[.o true (some (5,1)) (bytes x.1)]),(false,[.p (.int .i64 (x.2.at_:Int))]),(false,[.p (.int .i64 (x.2.er:Int))])]
theorem Mm {b:Bytes} {a k n:Nat} (h:a+k < b.length):gv (b.drop (a+k)) k n=(if(0 < k∧b[a+k].toNat=0)∨(k=8∧128≤b[a+k].toNat)then(0,0,2)
 else if b[a+k].toNat < 128 then(if n+b[a+k].toNat * 128 ^ k≤1152921504606846975 then(n+b[a+k].toNat * 128 ^ k,k+1,0)else(0,0,2))
 else gv (b.drop (a+k+1)) (k+1) (n+(b[a+k].toNat - 128) * 128 ^ k)):=by
 rw[List.drop_eq_getElem_cons h,gv]
theorem Od {b:Bytes} {a k n:Nat} (h:b.length≤a+k):gv (b.drop (a+k)) k n=(0,0,1):=by
 rw[List.drop_eq_nil_of_le h,gv]
end Go.Eng.F
namespace Go.Eng.F
def i0 {α:Type} (f:Rd→α×Rd):Nat→Rd→List α×Rd
 |0,r=>([],r)
 |k+1,r=>((f r).1::(i0 f k (f r).2).1,(i0 f k (f r).2).2)
def dB {α:Type} (f:Rd→α×Rd):Nat→Rd→List α×Rd
 |0,r=>([],r)
 |k+1,r=>if r.er=0 then((f r).1::(dB f k (f r).2).1,(dB f k (f r).2).2)else([],r)
theorem Ht {α:Type} {b:Bytes} {f:Rd→α×Rd} (h:∀r,r.wf b→(f r).2.wf b):∀(k:Nat) (r:Rd),r.wf b→(i0 f k r).2.wf b
 |0,r,hr=>hr
 |k+1,r,hr=>Ht h k _ (h r hr)
theorem EC {α:Type} {f:Rd→α×Rd}:∀(k:Nat) (r:Rd),(i0 f k r).1.length=k
 |0,r=>rfl
 |k+1,r=>by simp only[i0,List.length_cons,EC k]
theorem E3 {α:Type} {b:Bytes} {f:Rd→α×Rd} {p:α→Prop} (h:∀r,r.wf b→(f r).2.wf b∧p (f r).1):∀(k:Nat) (r:Rd),r.wf b→∀x∈(i0 f k r).1,p x
 |0,r,hr,x,hx=>by simp[i0]at hx
 |k+1,r,hr,x,hx=>by
  simp only[i0]at hx
  rcases List.mem_cons.1 hx with rfl|hx
  ·exact(h r hr).2
  ·exact E3 h k _ (h r hr).1 x hx
theorem vU {α:Type} {b:Bytes} {f:Rd→α×Rd} {p:α→Prop} (h:∀r,r.wf b→(f r).2.wf b∧p (f r).1):∀(k:Nat) (r:Rd),r.wf b→∀x∈(dB f k r).1,p x
 |0,r,hr,x,hx=>by simp[dB]at hx
 |k+1,r,hr,x,hx=>by
  rw[dB]at hx
  split at hx
  ·rcases List.mem_cons.1 hx with rfl|hx
   ·exact(h r hr).2
   ·exact vU h k _ (h r hr).1 x hx
  ·cases hx
def kQ (b:Bytes) (l:aj) (r:Rd):bu×Rd:=
 let v:=cT b r
 let h:=cT b v.2
 let k:=db b h.2 32
 let w:=bU b k.2 l.n 5
 let t:=db b w.2 32
 (⟨v.1,h.1,k.1,w.1,t.1⟩,t.2)
def xV (b:Bytes) (l:aj) (r:Rd):Qc×Rd:=
 let v:=cT b r
 let h:=cT b v.2
 let k:=db b h.2 32
 if k.2.er=0 then
  let x:=d6 b k.2.at_ l.n
  let t:=i0 (fun r=>db b r 32) (aR x.1).length x.2
  (⟨v.1,h.1,k.1,x.1,t.1⟩,t.2)
 else(⟨v.1,h.1,k.1,[],[]⟩,k.2)
def dD (b:Bytes) (l:aj) (r:Rd):Head×Rd:=
 let v:=cT b r
 let h:=cT b v.2
 let p:=bU b (cj h.2 (decide (h.1=0)) 5) l.n 5
 let pa:=db b p.2 32
 let ro:=db b pa.2 32
 let q:=xV b l ro.2
 (⟨v.1,h.1,p.1,pa.1,ro.1,q.1⟩,cj q.2 (!fits ⟨v.1,h.1,p.1,pa.1,ro.1,q.1⟩) 6)
def fb (b:Bytes) (l:aj) (r:Rd):Block×Rd:=
 let h:=dD b l r
 let n:=bU b h.2 (l.txs+1) 3
 let x:=dB (fun r=>eu b r l.tx.toNat) n.1 n.2
 (⟨h.1,x.1⟩,cj x.2 (decide (h.1.root≠aW x.1)) 7)
def jG (b:Bytes) (l:aj) (view:Int):Nat→Int→Rd→List Entry×Rd
 |0,_,r=>([],r)
 |k+1,bf,r=>if r.er=0 then
   let w:=bU b r l.n 5
   let h:=bU b (cj w.2 (decide ((w.1:Int)≤bf)) 6) view 6
   let t:=db b h.2 32
   (⟨w.1,h.1,t.1⟩::(jG b l view k w.1 t.2).1,(jG b l view k w.1 t.2).2)
  else([],r)
def HO (b:Bytes) (l:aj) (r:Rd):Tc×Rd:=
 let v:=cT b r
 let n:=bU b v.2 (l.n+1) 3
 let e:=jG b l v.1 n.1 (-1) n.2
 (⟨v.1,e.1⟩,e.2)
def el (b:Bytes) (l:aj) (r:Rd):Proof×Rd:=
 let n:=cT b r
 let h:=dB (dD b l) n.1 (cj (cj n.2 (decide (n.1 < 3)) 5) (decide (l.heads < (n.1:Int))) 3)
 let q:=xV b l h.2
 (⟨h.1,q.1⟩,cj q.2 (!sP ⟨h.1,q.1⟩) 6)
def ou (b:Bytes) (l:aj) (r:Rd):(Nat×Nat×Nat×Bytes)×Rd:=
 let h:=cT b r
 let n:=cT b h.2
 let a:=bU b (cj (cj n.2 (decide (n.1=0)) 5) (decide (l.txs < (n.1:Int))) 3) n.1 5
 let t:=eu b a.2 l.tx.toNat
 ((h.1,n.1,a.1,t.1),t.2)
def At (b:Bytes) (a:Nat) (s:Bytes):Prop:=∃t,b.drop a=s++t
theorem At.app {b:Bytes} {a:Nat} {s t:Bytes} (h:At b a (s++t)):At b a s∧At b (a+s.length) t:=by
 obtain⟨u,h⟩:=h
 refine⟨⟨t++u,by rw[h,List.append_assoc]⟩,u,?_⟩
 rw[←List.drop_drop,h,List.append_assoc,List.drop_left]
theorem At.len {b:Bytes} {a:Nat} {s:Bytes} (h:At b a s):a+s.length≤b.length∨s= []:=by
 obtain⟨u,h⟩:=h
 have h2:=congrArg List.length h
 simp only[List.length_drop,List.length_append]at h2
 by_cases hs:s= []
 ·exact .inr hs
 ·have:=List.length_pos_iff.2 hs
  exact .inl (by omega)
theorem At.take {b:Bytes} {a:Nat} {s:Bytes} (h:At b a s):(b.drop a).take s.length=s:=by
 obtain⟨u,h⟩:=h
 rw[h,List.take_left]
end Go.Eng.F
namespace Go.Eng.F
def bp (b:Bytes) (r:Rd):List E0:= [.p (.sl (bytes b)), .p (.int .i64 (r.at_:Int)), .p (.int .i64 (r.er:Int))]
theorem gf (b:Bytes) (a n:Nat) (ha:a≤b.length) (hb:b.length≤1073741824) (hn:n≤2000000000000000000):VC cd iO (aH [(false,[.sl (bytes b)]),(false,[.int .i64 (a:Int)]),(false,[.int .i64 (n:Int)])]) (fun rs _=>rs=Hs (hO b a n)):=by
 by_cases h:a+n≤b.length
 ·refine(mN b a n h hb).mono fun rs _ q=> ?_
  rw[q,Hs,hO,if_pos h]
  rfl
 ·refine VC.oQ ?_
  have e1:cw (a:Int) 0 (b.length:Int)=true:=by simp[cw];omega
  have e2:cw (n:Int) 0 ((b.length:Int) - (a:Int))=false:=by simp[cw];omega
  refine aa rG rfl ?_
  simp(disch:=omega) [iK,VY]
  refine ah (bg _ _ _) rfl rfl ?_
  simp(disch:=omega) [e1,VY]
  refine ah (bg _ _ _) rfl rfl ?_
  simp(disch:=omega) [e2,aJ,aO,aT,ag,Hs,hO,h,VY]
theorem NI (c:UInt8):ay .and .u8 (c.toNat:Int) 127=((c.toNat % 128:Nat):Int):=by
 have h:=c.toNat_lt
 show IntKind.u8.wrap ((BitVec.ofInt 8 (c.toNat:Int) &&& BitVec.ofInt 8 127).toNat:Int)=_
 rw[BitVec.toNat_and,show BitVec.ofInt 8 (c.toNat:Int)=BitVec.ofNat 8 c.toNat from rfl,BitVec.toNat_ofNat,Nat.mod_eq_of_lt (by omega),show(BitVec.ofInt 8 127).toNat=2 ^ 7 - 1 from rfl,Nat.and_two_pow_sub_one_eq_mod]
 show(((c.toNat % 128:Nat):Int)) % 256=_
 omega
theorem Gg (k:Nat):(128:Nat) ^ k=2 ^ (7 * k):=by rw[Nat.pow_mul]
theorem P8 {n c k:Nat} (hn:n < 128 ^ k) (hc:c < 128) (hk:k≤8):ay .or .i64 (n:Int) ((c * 128 ^ k:Nat):Int)=((n+c * 128 ^ k:Nat):Int)∧n+c * 128 ^ k < 128 ^ (k+1)∧c * 128 ^ k < 9223372036854775808∧n+c * 128 ^ k < 9223372036854775808:=by
 have h1:n+c * 128 ^ k < 128 ^ (k+1):=by
  have h2:c * 128 ^ k≤127 * 128 ^ k:=Nat.mul_le_mul_right _ (by omega)
  rw[Nat.pow_succ]
  omega
 have h3:128 ^ (k+1)≤128 ^ 9:=Nat.pow_le_pow_right (by omega) (by omega)
 have h4:(128:Nat) ^ 9=9223372036854775808:=by decide
 refine⟨?_,h1,by omega,by omega⟩
 show IntKind.i64.wrap ((BitVec.ofInt 64 (n:Int)|||BitVec.ofInt 64 ((c * 128 ^ k:Nat):Int)).toNat:Int)=_
 rw[BitVec.toNat_or,show BitVec.ofInt 64 (n:Int)=BitVec.ofNat 64 n from rfl,show BitVec.ofInt 64 ((c * 128 ^ k:Nat):Int)=BitVec.ofNat 64 (c * 128 ^ k)from rfl,BitVec.toNat_ofNat,BitVec.toNat_ofNat,Nat.mod_eq_of_lt (by omega),Nat.mod_eq_of_lt (by omega)]
 rw[Gg]at hn h1⊢
 rw[Nat.mul_comm c,Nat.or_comm,←Nat.two_pow_add_eq_or_of_lt hn,Nat.add_comm]
 rw[Gg,Nat.mul_comm c]at *
 exact sO (by omega) (by omega)
abbrev sd:Nat:=243
def rX:AF:=⟨2,6,[.tmp 4, .tmp 5, .tmp 6],(.seq (.ops [.i (.mov 4 (qi 0)), .i (.mov 5 (qi 0)), .i (.mov 6 (qi 0))]) (.seq (.seq (.ops [qm 10 1,qm 11 0,qn 12 11, .i (.call 14 158 false [(.s 10),(qi 0),(.s 12)]), .i (.not 14 (.s 13))]) (.cond (.s 14) (.seq (.ops [.i (.mov 4 (qi 0)), .i (.mov 5 (qi 0)), .i (.mov 6 (qi 1))]) .ret) .skip)) (.seq (.ops [.i (.mov 7 (qi 0))]) (.seq (.ops [.i (.mov 8 (qi 0))]) (.block 0 (.loop [60,59,58,57,56,55,54,53,52,51,50,49,48,47,46,45,44,43,42,41,40,39,38,37,36,35,34,33,32,31,30,29,28,27,26,25,24,23,22,21,20,19,18,17,16,15,9] (.seq (.block 1 (.seq (.seq (.ops [qm 17 1,qm 18 8,qd 19 .add 17 18,qm 20 0,qn 21 20,qd 22 .geq 19 21]) (.cond (.s 22) (.seq (.ops [.i (.mov 4 (qi 0)), .i (.mov 5 (qi 0)), .i (.mov 6 (qi 1))]) .ret) .skip)) (.seq (.ops [qm 23 0,qm 24 1,qm 25 8,qd 26 .add 24 25, .i (.iad 27 (.s 23) (.s 26) 1), .i (.ldh 28 (.s 27) 1 false),qm 9 28]) (.seq (.seq (.ops [qm 29 8, .i (.bin 30 .gtr (.s 29) (qi 0)),qm 31 30, .g 31 true 33 (.mov 32 (.s 9)), .g 31 true 34 (.bin 33 .eql (.s 32) (.c (.val false [.int .u8 0]))), .i (.pick 34 (.s 31) (.s 33) (qb false)),qm 35 34, .g 35 false 37 (.mov 36 (.s 8)), .g 35 false 38 (.bin 37 .eql (.s 36) (qi 8)), .g 35 false 39 (.mov 38 (.s 37)), .g 38 true 40 (.mov 39 (.s 9)), .g 38 true 41 (.bin 40 .geq (.s 39) (.c (.val false [.int .u8 128]))), .g 35 false 42 (.pick 41 (.s 38) (.s 40) (qb false)), .i (.pick 42 (.s 35) (qb true) (.s 41))]) (.cond (.s 42) (.seq (.ops [.i (.mov 4 (qi 0)), .i (.mov 5 (qi 0)), .i (.mov 6 (qi 2))]) .ret) .skip)) (.seq (.ops [qm 43 7,qm 44 9, .i (.bin 45 .and (.s 44) (.c (.val false [.int .u8 127]))), .i (.cvi 46 .i64 (.s 45)),qm 47 8, .i (.bin 48 .mul (qi 7) (.s 47)),qd 49 .shl 46 48,qd 50 .or 43 49,qm 7 50]) (.seq (.ops [qm 51 9, .i (.bin 52 .lss (.s 51) (.c (.val false [.int .u8 128])))]) (.cond (.s 52) (.seq (.seq (.ops [qm 53 7,qk 55 129 53, .i (.not 55 (.s 54))]) (.cond (.s 55) (.seq (.ops [.i (.mov 4 (qi 0)), .i (.mov 5 (qi 0)), .i (.mov 6 (qi 2))]) .ret) .skip)) (.seq (.ops [qm 56 7,qm 57 1,qm 58 8,qd 59 .add 57 58, .i (.bin 60 .add (.s 59) (qi 1)),qm 4 56,qm 5 60, .i (.mov 6 (qi 0))]) .ret)) .skip))))))) (.ops [qm 15 8, .i (.bin 16 .add (.s 15) (qi 1)),qm 8 16]))))))))⟩
theorem Bk:cd sd=some rX:=by kernel_rfl
theorem nD (b:Bytes) (a:Nat) (ha:a≤b.length) (hb:b.length≤1073741824):VC cd sd (aH [(false,[.sl (bytes b)]),(false,[.int .i64 (a:Int)])]) (fun rs _=>rs=Mw (getVar b a)):=by
 have e1:cw (a:Int) 0 (b.length:Int)=true:=by simp[cw];omega
 refine aa Bk rfl ?_
 simp(disch:=omega) [rX,VY]
 refine ah (bg _ _ _) rfl rfl ?_
 simp(disch:=omega) [e1,VY]
 refine bH (σ:=Nat×Nat) (f1:=_) (es0:=_) (by simp(disch:=omega) [VY];rfl) (by simp(disch:=omega) [VY];rfl) (fun p=> [(8, .val false [.int .i64 (p.1:Int)]),(7, .val false [.int .i64 (p.2:Int)])]) (fun _=> []) (fun p g=>g+(a+p.1)=b.length∧p.1≤8∧p.2 < 128 ^ p.1∧gv (b.drop (a+p.1)) p.1 p.2=gv (b.drop a) 0 0) (0,0) (b.length - a) (by simp(disch:=omega) [VY]) (by simp(disch:=omega) [VY]) ⟨by omega,by omega,by simp,by simp⟩ ?_
 rintro⟨k,n⟩ nx g ⟨h1,h2,h3,h4⟩ P hP
 simp only at h1 h2 h3 h4
 simp(disch:=omega) [VY]
 refine ab (fun h5=> ?_) (fun h5=> ?_)
 ·have e:getVar b a=(0,⟨0,1⟩):=by simp only[getVar,←h4,Od (show b.length≤a+k by omega)];simp
  simp(disch:=omega) [Mw,e,VY]
 have hi:a+k < b.length:=by omega
 rw[Mm hi]at h4
 have hu:=b[a+k].toNat_lt
 have e6:(0:Int)≤(a:Int)+(k:Int):=by omega
 have e7:((a:Int)+(k:Int)).toNat=a+k:=by omega
 simp(disch:=omega) [e6,e7,bj hi,VY]
 generalize b[a+k]=c at h4 hu⊢
 by_cases hA:(0 < k∧c.toNat=0)∨(k=8∧128≤c.toNat)
 ·have e:getVar b a=(0,⟨0,2⟩):=by
   rw[if_pos hA]at h4
   simp only[getVar,←h4]
   simp
  rcases hA with⟨g1,g2⟩|⟨g3,g4⟩
  ·simp(disch:=omega) [g1,g2,Mw,e,VY]
  ·have g1:0 < k:=by omega
   have g2:¬c.toNat=0:=by omega
   have g4':(128:Int)≤(c.toNat:Int):=by omega
   have g3':(k:Int)=8:=by omega
   simp(disch:=omega) [g1,g2,g3',g4',Mw,e,VY]
 rw[if_neg hA]at h4
 have hcs:(¬0 < k∧¬(k:Int)=8)∨(0 < k∧¬c.toNat=0∧(k:Int)=8∧¬(128:Int)≤(c.toNat:Int))∨(0 < k∧¬c.toNat=0∧¬(k:Int)=8):=by omega
 have f1:¬(7 * (k:Int) < 0):=by omega
 have f2:(7 * (k:Int)).toNat=7 * k:=by omega
 obtain⟨d,hd⟩:∃d:Nat,d=c.toNat % 128:=⟨_,rfl⟩
 have ha127:=NI c
 rw[←hd]at ha127
 obtain⟨o1,o2,o3,o4⟩:=P8 h3 (show d < 128 by omega) h2
 have hmn:min (7 * k) IntKind.i64.bits=7 * k:=Nat.min_eq_left (by show 7 * k≤64;omega)
 obtain⟨q,hq⟩:∃q,q=d * 128 ^ k:=⟨_,rfl⟩
 obtain⟨m,hm⟩:∃m,m=n+q:=⟨_,rfl⟩
 rw[←hq]at o1 o2 o3 o4
 rw[←hm]at o1 o2 o4
 have tP:(d:Int) * 2 ^ (7 * k)=(q:Int):=by rw[hq,Gg];simp
 have tB:(k:Int)=8→(d:Int) * 2 ^ min 56 IntKind.i64.bits=(q:Int):=fun h=>by
  have h8:k=8:=by omega
  rw[←tP,h8]
  rfl
 have tC:(k:Int)=8→(d:Int) * 72057594037927936=(q:Int):=fun h=>by
  have h8:k=8:=by omega
  rw[←tP,h8]
  rfl
 rcases hcs with⟨g1,g3⟩|⟨g1,g2,g3,g4⟩|⟨g1,g2,g3⟩
 case' inl=>simp(disch:=omega) [g1,g3,ha127,f1,f2,hmn,tP,o1,VY]
 case' inr.inl=>simp(disch:=omega) [g1,g2,g3,g4,ha127,tB g3,tC g3,o1,VY]
 case' inr.inr=>simp(disch:=omega) [g1,g2,g3,ha127,f1,f2,hmn,tP,o1,VY]
 all_goals
  refine ab (fun g6=> ?_) (fun g6=> ?_)
  ·have hdc:d=c.toNat:=by omega
   rw[if_pos (by omega),←hdc,←hq,←hm]at h4
   simp(disch:=omega) [VY]
   refine ah (FB _) rfl rfl ?_
   simp(disch:=omega) [VY]
   refine aA (fun g7=> ?_) (fun g7=> ?_)
   ·have g8:m≤1152921504606846975:=by have:=dv g7;omega
    have e:getVar b a=(m,⟨a+k+1,0⟩):=by
     rw[if_pos g8]at h4
     simp only[getVar,←h4]
     simp[Nat.add_assoc]
    first
     |(simp(disch:=omega) [g7,Mw,e,VY];done)
     |(have e9:k=8:=by omega
       subst e9
       simp(disch:=omega) [g7,Mw,e,VY])
   ·have g8:¬m≤1152921504606846975:=by have:=M5 g7;omega
    have e:getVar b a=(0,⟨0,2⟩):=by
     rw[if_neg g8]at h4
     simp only[getVar,←h4]
     simp
    simp(disch:=omega) [g7,Mw,e,VY]
  ·first
    |(exfalso;omega)
    |(have hdc:d=c.toNat - 128:=by omega
      rw[if_neg (by omega),←hdc,←hq,←hm]at h4
      simp(disch:=omega) [VY]
      exact hP (k+1,m) (g - 1) _ _ (by omega) ⟨by simp only;omega,by simp only;omega,o2,h4⟩ (by simp(disch:=omega) [VY]) (by simp(disch:=omega) [VY]))
abbrev nN:Nat:=255
def nM:AF:=⟨3,5,[.tmp 6, .tmp 7, .tmp 8],(.seq (.ops [.i (.mov 6 (.c (.val false [.nils]))), .i (.mov 7 (qi 0)), .i (.mov 8 (qi 0))]) (.seq (.ops [qm 12 0,qm 13 1, .i (.call 15 243 false [(.s 12),(.s 13)]),qm 11 14, .i (.ext 15 (.s 11) 0), .i (.ext 16 (.s 11) 1), .i (.ext 17 (.s 11) 2),qm 9 15,qm 1 16,qm 10 17]) (.seq (.seq (.ops [qm 18 10, .i (.bin 19 .neq (.s 18) (qi 0))]) (.cond (.s 19) (.seq (.ops [qm 20 10, .i (.mov 6 (.c (.val false [.nils]))), .i (.mov 7 (qi 0)),qm 8 20]) .ret) .skip)) (.seq (.seq (.ops [qm 21 9,qm 22 2,qd 23 .gtr 21 22]) (.cond (.s 23) (.seq (.ops [.i (.mov 6 (.c (.val false [.nils]))), .i (.mov 7 (qi 0)), .i (.mov 8 (qi 3))]) .ret) .skip)) (.seq (.ops [qm 24 0,qm 25 1,qm 26 9, .i (.call 28 248 false [(.s 24),(.s 25),(.s 26)]), .i (.ext 28 (.s 27) 0), .i (.ext 29 (.s 27) 1), .i (.ext 30 (.s 27) 2),qm 6 28,qm 7 29,qm 8 30]) .ret)))))⟩
theorem z5:cd nN=some nM:=by kernel_rfl
theorem xD (b:Bytes) (a m:Nat) (ha:a≤b.length) (hb:b.length≤1073741824) (hm:m≤1073741824):VC cd nN (aH [(false,[.sl (bytes b)]),(false,[.int .i64 (a:Int)]),(false,[.int .i64 (m:Int)])]) (fun rs _=>rs=Hs (gG b a m)):=by
 refine VC.oQ ?_
 have hv:=wu ha
 refine aa z5 rfl ?_
 simp(disch:=omega) [nM,VY]
 refine ah (nD b a ha hb) rfl rfl ?_
 generalize hx:getVar b a=x at hv
 obtain⟨⟨h1,h2⟩,h3⟩:=hv
 simp(disch:=omega) [Mw,VY]
 by_cases h4:x.2.er=0
 ·simp(disch:=omega) [h4,VY]
  by_cases h5:m < x.1
  ·simp(disch:=omega) [h5,aJ,aO,aT,ag,Hs,gG,hx,h4,VY]
  ·simp(disch:=omega) [h5,VY]
   refine ah (gf b x.2.at_ x.1 h1 hb (by omega)) rfl rfl ?_
   simp(disch:=omega) [aJ,aO,aT,ag,Hs,gG,hx,h4,h5,VY]
 ·simp(disch:=omega) [h4,aJ,aO,aT,ag,Hs,gG,hx,VY]
abbrev ng:Nat:=170
def m8:AF:=⟨3,6,[.tmp 6, .tmp 7, .tmp 8],(.seq (.ops [.i (.mov 6 (.c (.val false [.nils]))), .i (.mov 7 (qi 0)), .i (.mov 8 (qi 0))]) (.seq (.seq (.ops [qm 12 2, .i (.call 14 158 false [(.s 12),(qi 1),(qi 10)]), .i (.not 14 (.s 13))]) (.cond (.s 14) (.seq (.ops [.i (.mov 6 (.c (.val false [.nils]))), .i (.mov 7 (qi 0)), .i (.mov 8 (qi 5))]) .ret) .skip)) (.seq (.ops [qm 16 0,qm 17 1,qm 18 2,qk 20 245 18, .i (.call 21 248 false [(.s 16),(.s 17),(.s 19)]),qm 15 20, .i (.ext 21 (.s 15) 0), .i (.ext 22 (.s 15) 1), .i (.ext 23 (.s 15) 2),qm 9 21,qm 10 22,qm 11 23]) (.seq (.seq (.ops [qm 24 11, .i (.bin 25 .neq (.s 24) (qi 0))]) (.cond (.s 25) (.seq (.ops [qm 26 11, .i (.mov 6 (.c (.val false [.nils]))), .i (.mov 7 (qi 0)),qm 8 26]) .ret) .skip)) (.seq (.seq (.ops [qm 27 9,qm 28 2, .i (.call 30 168 false [(.s 27),(.s 28)]), .i (.not 30 (.s 29))]) (.cond (.s 30) (.seq (.ops [.i (.mov 6 (.c (.val false [.nils]))), .i (.mov 7 (qi 0)), .i (.mov 8 (qi 4))]) .ret) .skip)) (.seq (.ops [qm 31 9,qm 32 10,qm 6 31,qm 7 32, .i (.mov 8 (qi 0))]) .ret))))))⟩
theorem Aj:cd ng=some m8:=by kernel_rfl
theorem xJ (b:Bytes) (a:Nat) (n:Int) (hn:1≤n∧n≤10) (ha:a≤b.length) (hb:b.length≤1073741824):VC cd ng (aH [(false,[.sl (bytes b)]),(false,[.int .i64 (a:Int)]),(false,[.int .i64 n])]) (fun rs _=>rs=Hs (d6 b a n)):=by
 refine VC.oQ ?_
 have e1:cw n 1 10=true:=by simp[cw];omega
 have e2:((tY n).toNat:Int)=tY n:=by have:=tt hn;unfold tY at *;split <;>omega
 have e3:(tY n).toNat≤2:=by have:=tt hn;omega
 have hv:=qo b a (tY n).toNat
 refine aa Aj rfl ?_
 simp(disch:=omega) [m8,VY]
 refine ah (bg _ _ _) rfl rfl ?_
 simp(disch:=omega) [e1,VY]
 refine ah (jf n (by omega) (by omega)) rfl rfl ?_
 simp(disch:=omega) [VY]
 refine av (gf b a (tY n).toNat ha hb (by omega)) ?_ (ha:=by first|rfl|(simp[e2,VY] <;>repeat' constructor))
 generalize hx:hO b a (tY n).toNat=x at hv
 obtain⟨⟨h1,h2⟩,h3,h5⟩:=hv
 simp(disch:=omega) [Hs,VY]
 by_cases h4:x.2.er=0
 ·simp(disch:=omega) [h4,VY]
  refine av (zL x.1 n (by omega) (by omega)) ?_
  simp(disch:=omega) [h4,VY]
  cases h6:dN x.1 n <;>simp(disch:=omega) [aJ,aO,aT,ag,Hs,d6,hx,h4,h6,VY]
 ·simp(disch:=omega) [h4,aJ,aO,aT,ag,Hs,d6,hx,VY]
abbrev gP:Nat:=172
def gL:AF:=⟨3,5,[],(.seq (.ops [qm 6 0, .i (.nch 7 (.s 6)),qf 8 7 2, .i (.ldh 9 (.s 8) 1 false), .i (.bin 10 .eql (.s 9) (qi 0)),qm 11 10, .g 11 true 13 (.mov 12 (.s 1)), .g 11 true 14 (.not 13 (.s 12)), .i (.pick 14 (.s 11) (.s 13) (qb false))]) (.cond (.s 14) (.ops [qm 15 0,qm 16 2, .i (.nch 17 (.s 15)),qf 18 17 2, .i (.sth (.s 18) (.s 16) 1)]) .skip))⟩
theorem sK:cd gP=some gL:=by kernel_rfl
theorem aI (b:Bytes) (r:Rd) (ok:Bool) (c:Nat):VC cd gP (ic [] 215 (bp b r) [(false,[.bool ok]),(false,[.int .i64 (c:Int)])]) (fun rs p=>rs= []∧p= [.pt 215 (bp b (cj r (!ok) c))]):=by
 refine aw sK rfl ?_
 simp(disch:=omega) [gL,bp,VZ]
 by_cases h:r.er=0
 ·cases ok <;>simp(disch:=omega) [h,cj,bp,VZ]
 ·simp(disch:=omega) [h,cj,bp,VZ]
abbrev iu:Nat:=165
def ij:AF:=⟨1,6,[.tmp 2],(.seq (.ops [.i (.mov 2 (qi 0))]) (.seq (.seq (.ops [qm 6 0, .i (.nch 7 (.s 6)),qf 8 7 2, .i (.ldh 9 (.s 8) 1 false), .i (.bin 10 .neq (.s 9) (qi 0))]) (.cond (.s 10) (.seq (.ops [.i (.mov 2 (qi 0))]) .ret) .skip)) (.seq (.ops [qm 12 0, .i (.nch 13 (.s 12)),qf 14 13 0, .i (.ldh 15 (.s 14) 1 false),qm 16 0, .i (.nch 17 (.s 16)),qf 18 17 1, .i (.ldh 19 (.s 18) 1 false), .i (.call 21 243 false [(.s 15),(.s 19)]),qm 11 20, .i (.ext 21 (.s 11) 0), .i (.ext 22 (.s 11) 1), .i (.ext 23 (.s 11) 2),qm 3 21,qm 4 22,qm 5 23]) (.seq (.ops [qm 24 0,qm 25 0,qm 26 4,qm 27 5, .i (.nch 28 (.s 24)),qf 29 28 1, .i (.sth (.s 29) (.s 26) 1), .i (.nch 30 (.s 25)),qf 31 30 2, .i (.sth (.s 31) (.s 27) 1)]) (.seq (.ops [qm 32 3,qm 2 32]) .ret)))))⟩
theorem uN:cd iu=some ij:=by kernel_rfl
theorem bC (b:Bytes) (r:Rd) (hr:r.wf b) (hb:b.length≤1073741824):VC cd iu (ic [] 215 (bp b r) []) (fun rs p=>rs=it (cT b r).1∧p= [.pt 215 (bp b (cT b r).2)]):=by
 refine aw uN rfl ?_
 simp(disch:=omega) [ij,bp,VZ]
 by_cases h:r.er=0
 ·simp(disch:=omega) [h,VZ]
  refine ah (nD b r.at_ hr.1 hb) rfl rfl ?_
  simp(disch:=omega) [Mw,cT,h,bp,VZ]
 ·simp(disch:=omega) [h,cT,bp,VZ]
abbrev gl:Nat:=167
def gm:AF:=⟨3,5,[.tmp 6],(.seq (.ops [.i (.mov 6 (qi 0))]) (.seq (.ops [qm 8 0,qk 10 165 8,qm 7 9]) (.seq (.ops [qm 10 0,qm 11 7,qm 12 1,qd 13 .lss 11 12,qm 14 2, .i (.call 16 172 false [(.s 10),(.s 13),(.s 14)])]) (.seq (.ops [qm 16 7,qm 6 16]) .ret))))⟩
theorem qL:cd gl=some gm:=by kernel_rfl
theorem cp (b:Bytes) (r:Rd) (n:Int) (c:Nat) (hr:r.wf b) (hb:b.length≤1073741824):VC cd gl (ic [] 215 (bp b r) [(false,[.int .i64 n]),(false,[.int .i64 (c:Int)])]) (fun rs p=>rs=it (bU b r n c).1∧p= [.pt 215 (bp b (bU b r n c).2)]):=by
 refine aw qL rfl ?_
 simp(disch:=omega) [gm,bp,VZ]
 refine fg (bC b r hr hb) ?_
 generalize hx:cT b r=x
 simp(disch:=omega) [bp,VZ]
 refine fg (aI b x.2 (decide ((x.1:Int) < n)) c) ?_
 have e:(!decide ((x.1:Int) < n))=decide (n≤(x.1:Int)):=by
  by_cases h:(x.1:Int) < n
  ·simp[h]
  ·simp[h];omega
 simp(disch:=omega) [bp,bU,hx,e,VZ]
abbrev im:Nat:=244
def ie:AF:=⟨2,6,[.tmp 4],(.seq (.ops [.i (.mov 4 (.c (.val false [.nils])))]) (.seq (.seq (.ops [qm 8 0, .i (.nch 9 (.s 8)),qf 10 9 2, .i (.ldh 11 (.s 10) 1 false), .i (.bin 12 .neq (.s 11) (qi 0))]) (.cond (.s 12) (.seq (.ops [.i (.mov 4 (.c (.val false [.nils])))]) .ret) .skip)) (.seq (.ops [qm 14 0, .i (.nch 15 (.s 14)),qf 16 15 0, .i (.ldh 17 (.s 16) 1 false),qm 18 0, .i (.nch 19 (.s 18)),qf 20 19 1, .i (.ldh 21 (.s 20) 1 false),qm 22 1, .i (.call 24 248 false [(.s 17),(.s 21),(.s 22)]),qm 13 23, .i (.ext 24 (.s 13) 0), .i (.ext 25 (.s 13) 1), .i (.ext 26 (.s 13) 2),qm 5 24,qm 6 25,qm 7 26]) (.seq (.ops [qm 27 0,qm 28 0,qm 29 6,qm 30 7, .i (.nch 31 (.s 27)),qf 32 31 1, .i (.sth (.s 32) (.s 29) 1), .i (.nch 33 (.s 28)),qf 34 33 2, .i (.sth (.s 34) (.s 30) 1)]) (.seq (.ops [qm 35 5,qm 4 35]) .ret)))))⟩
theorem s9:cd im=some ie:=by kernel_rfl
theorem BZ (b:Bytes) (r:Rd) (n:Nat) (hn:n≤1073741824) (hr:r.wf b) (hb:b.length≤1073741824):VC cd im (ic [] 215 (bp b r) [(false,[.int .i64 (n:Int)])]) (fun rs p=>rs= [(false,[.o true (some (5,1)) (bytes (db b r n).1)])]∧p= [.pt 215 (bp b (db b r n).2)]):=by
 refine VC.oQ ?_
 refine aw s9 rfl ?_
 simp(disch:=omega) [ie,bp,VZ]
 by_cases h:r.er=0
 ·simp(disch:=omega) [h,VZ]
  refine ah (gf b r.at_ n hr.1 hb (by omega)) rfl rfl ?_
  simp(disch:=omega) [Hs,db,h,bp,aJ,aO,aT,ag,VZ]
 ·simp(disch:=omega) [h,db,bp,aJ,aO,aT,ag,VZ]
abbrev gX:Nat:=166
def hC:AF:=⟨1,3,[.tmp 2],(.seq (.ops [.i (.mov 2 (.c (.val false [.nils])))]) (.seq (.ops [qm 3 0, .i (.call 5 244 false [(.s 3),(qi 32)]),qm 2 4]) .ret))⟩
theorem sF:cd gX=some hC:=by kernel_rfl
theorem cc (b:Bytes) (r:Rd) (hr:r.wf b) (hb:b.length≤1073741824):VC cd gX (ic [] 215 (bp b r) []) (fun rs p=>rs= [(false,[.o true (some (5,1)) (bytes (db b r 32).1)])]∧p= [.pt 215 (bp b (db b r 32).2)]):=by
 refine aw sF rfl ?_
 simp(disch:=omega) [hC,bp,VZ]
 refine fg (BZ b r 32 (by omega) hr hb) ?_
 simp(disch:=omega) [bp,VZ]
abbrev ee:Nat:=177
def g9:AF:=⟨2,6,[.tmp 4],(.seq (.ops [.i (.mov 4 (.c (.val false [.nils])))]) (.seq (.seq (.ops [qm 8 0, .i (.nch 9 (.s 8)),qf 10 9 2, .i (.ldh 11 (.s 10) 1 false), .i (.bin 12 .neq (.s 11) (qi 0))]) (.cond (.s 12) (.seq (.ops [.i (.mov 4 (.c (.val false [.nils])))]) .ret) .skip)) (.seq (.ops [qm 14 0, .i (.nch 15 (.s 14)),qf 16 15 0, .i (.ldh 17 (.s 16) 1 false),qm 18 0, .i (.nch 19 (.s 18)),qf 20 19 1, .i (.ldh 21 (.s 20) 1 false),qm 22 1, .i (.call 24 255 false [(.s 17),(.s 21),(.s 22)]),qm 13 23, .i (.ext 24 (.s 13) 0), .i (.ext 25 (.s 13) 1), .i (.ext 26 (.s 13) 2),qm 5 24,qm 6 25,qm 7 26]) (.seq (.ops [qm 27 0,qm 28 0,qm 29 6,qm 30 7, .i (.nch 31 (.s 27)),qf 32 31 1, .i (.sth (.s 32) (.s 29) 1), .i (.nch 33 (.s 28)),qf 34 33 2, .i (.sth (.s 34) (.s 30) 1)]) (.seq (.ops [qm 35 5,qm 4 35]) .ret)))))⟩
theorem sG:cd ee=some g9:=by kernel_rfl
theorem yw (b:Bytes) (r:Rd) (m:Nat) (hm:m≤1073741824) (hr:r.wf b) (hb:b.length≤1073741824):VC cd ee (ic [] 215 (bp b r) [(false,[.int .i64 (m:Int)])]) (fun rs p=>rs= [(false,[.o true (some (5,1)) (bytes (eu b r m).1)])]∧p= [.pt 215 (bp b (eu b r m).2)]):=by
 refine VC.oQ ?_
 refine aw sG rfl ?_
 simp(disch:=omega) [g9,bp,VZ]
 by_cases h:r.er=0
 ·simp(disch:=omega) [h,VZ]
  refine ah (xD b r.at_ m hr.1 hb hm) rfl rfl ?_
  simp(disch:=omega) [Hs,eu,h,bp,aJ,aO,aT,ag,VZ]
 ·simp(disch:=omega) [h,eu,bp,aJ,aO,aT,ag,VZ]
end Go.Eng.F
namespace Go.Eng.F
theorem Eo (l:List Bytes) (x:Bytes):bz l++ [[.sl (bytes x)]]=bz (l++ [x]):=by simp[bz]
theorem wI (b:Bytes) (a:Nat) (n:Int):(d6 b a n).2.wf b∧(d6 b a n).1.length≤2:=by
 refine⟨(GH b a n).1,?_⟩
 simp only[d6]
 split
 ·simp
 ·split
  ·exact Jv ‹_›
  ·simp
def bu.o (v:bu):List E:= [.p (.int .i64 v.view), .p (.int .i64 v.height), .o true (some (5,1)) (bytes v.block), .p (.int .i64 v.who), .o true (some (5,1)) (bytes v.tag)]
abbrev f6:Nat:=102
def kK:AF:=⟨2,5,[.cell 4 5 true],(.seq (.ops [.i (.lbox 2 (.s 0)), .i (.lal 4 [.int .i64 0, .int .i64 0, .nils, .int .i64 0, .nils])]) (.seq (.ops [qm 5 1,qk 7 165 5,qm 7 1,qk 9 165 7,qm 9 1,qk 11 166 9,qm 11 1,qf 12 2 0,ql 13 2 12 1 false, .i (.call 15 167 false [(.s 11),(.s 13),(qi 5)]),qm 15 1,qk 17 166 15, .i (.bld 17 [.int .i64 0, .int .i64 0, .nils, .int .i64 0, .nils] [(0,1,(.s 6)),(1,1,(.s 8)),(2,1,(.s 10)),(3,1,(.s 14)),(4,1,(.s 16))]),qs 4 4 17 5]) .ret))⟩
theorem xH:cd f6=some kK:=by kernel_rfl
theorem vh (b:Bytes) (l:aj) (r:Rd) (hr:r.wf b) (hb:b.length≤1073741824):VC cd f6 (ic [(true,l.c)] 215 (bp b r) []) (fun rs p=>rs= [(true,(kQ b l r).1.o)]∧p= [.pt 215 (bp b (kQ b l r).2)]):=by
 refine aw xH rfl ?_
 simp(disch:=omega) [kK,bp,aj.c,VZ]
 refine fg (bC b r hr hb) ?_
 have w1:=cW hr
 generalize h1:cT b r=s1 at w1⊢
 simp(disch:=omega) [bp,VZ]
 refine fg (bC b s1.2 w1.1 hb) ?_
 have w2:=cW w1.1
 generalize h2:cT b s1.2=s2 at w2⊢
 simp(disch:=omega) [bp,VZ]
 refine fg (cc b s2.2 w2.1 hb) ?_
 have w3:=ec w2.1 32
 generalize h3:db b s2.2 32=s3 at w3⊢
 simp(disch:=omega) [bp,VZ]
 refine fg (cp b s3.2 l.n 5 w3.1 hb) ?_
 have w4:=ey (n:=l.n) (c:=5) w3.1 (by omega)
 generalize h4:bU b s3.2 l.n 5=s4 at w4⊢
 simp(disch:=omega) [bp,VZ]
 refine fg (cc b s4.2 w4.1 hb) ?_
 have w5:=ec w4.1 32
 generalize h5:db b s4.2 32=s5 at w5⊢
 simp(disch:=omega) [bp,VZ]
 simp(disch:=omega) [kQ,h1,h2,h3,h4,h5,bu.o,bp,VZ]
abbrev iL:Nat:=106
def rk:AF:=⟨2,6,[.cell 4 5 true],(.seq (.ops [.i (.lbox 2 (.s 0)), .i (.lal 4 [.int .i64 0, .int .i64 0, .nils, .nils, .nils])]) (.seq (.ops [qm 6 1,qk 8 165 6,qm 8 1,qk 10 165 8,qm 10 1,qk 12 166 10, .i (.bld 12 [.int .i64 0, .int .i64 0, .nils, .nils, .nils] [(0,1,(.s 7)),(1,1,(.s 9)),(2,1,(.s 11))]), .i (.lal 5 [.int .i64 0, .int .i64 0, .nils, .nils, .nils]),qs 5 5 12 5]) (.seq (.seq (.ops [qm 13 1, .i (.nch 14 (.s 13)),qf 15 14 2, .i (.ldh 16 (.s 15) 1 false), .i (.bin 17 .neq (.s 16) (qi 0))]) (.cond (.s 17) (.seq (.ops [ql 18 5 5 5 true,qs 4 4 18 5]) .ret) .skip)) (.seq (.ops [qm 20 1,qm 21 1,qm 22 1, .i (.nch 23 (.s 22)),qf 24 23 0, .i (.ldh 25 (.s 24) 1 false),qm 26 1, .i (.nch 27 (.s 26)),qf 28 27 1, .i (.ldh 29 (.s 28) 1 false),qf 30 2 0,ql 31 2 30 1 false, .i (.call 33 170 false [(.s 25),(.s 29),(.s 31)]),qm 19 32, .i (.ext 33 (.s 19) 0), .i (.ext 34 (.s 19) 1), .i (.ext 35 (.s 19) 2),qf 36 5 3,qs 5 36 33 1, .i (.nch 37 (.s 20)),qf 38 37 1, .i (.sth (.s 38) (.s 34) 1), .i (.nch 39 (.s 21)),qf 40 39 2, .i (.sth (.s 40) (.s 35) 1)]) (.seq (.seq (.ops [qf 41 5 3,ql 42 5 41 1 false,qk 44 169 42, .i (.mov 44 (qi 0))]) (.block 0 (.loop [53,52,51,50,49,48,47,46,45] (.seq (.ops [qd 45 .lss 44 43]) (.seq (.cond (.s 45) .skip (.exit 0)) (.seq (.block 1 (.ops [qf 46 5 4,ql 47 5 46 1 false,qm 48 1,qk 50 166 48, .i (.lsl 50 1 1 [.nils] [(0,1,(.s 49))]), .i (.app 51 22 1 24 (.s 47) (.s 50)),qf 52 5 4,qs 5 52 51 1])) (.ops [.i (.bin 53 .add (.s 44) (qi 1)),qm 44 53]))))))) (.seq (.ops [ql 54 5 5 5 true,qs 4 4 54 5]) .ret))))))⟩
theorem BV:cd iL=some rk:=by kernel_rfl
theorem dA (b:Bytes) (l:aj) (r:Rd) (hl:1≤l.n∧l.n≤10) (hr:r.wf b) (hb:b.length≤1073741824):VC cd iL (ic [(true,l.c)] 215 (bp b r) []) (fun rs p=>rs= [(true,(xV b l r).1.o)]∧p= [.pt 215 (bp b (xV b l r).2)]):=by
 refine VC.oQ ?_
 refine aw BV rfl ?_
 simp(disch:=omega) [rk,bp,aj.c,VZ]
 refine fg (bC b r hr hb) ?_
 have w1:=cW hr
 generalize h1:cT b r=s1 at w1⊢
 simp(disch:=omega) [bp,VZ]
 refine fg (bC b s1.2 w1.1 hb) ?_
 have w2:=cW w1.1
 generalize h2:cT b s1.2=s2 at w2⊢
 simp(disch:=omega) [bp,VZ]
 refine fg (cc b s2.2 w2.1 hb) ?_
 have w3:=ec w2.1 32
 generalize h3:db b s2.2 32=s3 at w3⊢
 simp(disch:=omega) [bp,VZ]
 by_cases g:s3.2.er=0
 case neg=>simp(disch:=omega) [g,xV,h1,h2,h3,Qc.o,bp,aJ,aO,aT,ag,bz,VZ]
 simp(disch:=omega) [g,VZ]
 refine ah (xJ b s3.2.at_ l.n hl w3.1.1 hb) rfl rfl ?_
 have w4:=wI b s3.2.at_ l.n
 generalize h4:d6 b s3.2.at_ l.n=s4 at w4⊢
 simp(disch:=omega) [Hs,VZ]
 refine ah (uT s4.1 (by omega)) rfl rfl ?_
 simp(disch:=omega) [VZ]
 refine cY (σ:=Nat×Nat×List Bytes×Rd) (f0:=_) (by simp(disch:=omega) [VZ];rfl) (cN.xU (s:=5) (k:=5) (i:=4) rfl rfl) (f1:=_) (es0:=_) (by simp(disch:=omega) [VZ];rfl) (by simp(disch:=omega) [VZ];rfl) (fun p=> [(44, .val false [.int .i64 (p.1:Int)]),(5, .box [.int .i64 s1.1, .int .i64 s2.1, .ow 106496 19, .ow 278528 24, .ow 5 p.2.1])]) (fun p=> [(4101, .pt 5 215 [.sl (bytes b), .int .i64 (p.2.2.2.at_:Int), .int .i64 (p.2.2.2.er:Int)]),(5, .sl p.2.1 true true (some (22,1)) (bz p.2.2.1))])
  (fun p g=>(g+p.1=(aR s4.1).length∧p.2.2.1.length=p.1)∧p.2.2.2.wf b∧i0 (fun r=>db b r 32) (aR s4.1).length s4.2=(p.2.2.1++(i0 (fun r=>db b r 32) g p.2.2.2).1,(i0 (fun r=>db b r 32) g p.2.2.2).2)) (0,_,[],s4.2) (aR s4.1).length (by simp(disch:=omega) [VZ];rfl) (by simp(disch:=omega) [bz,bp,VZ]) ⟨⟨by simp,rfl⟩,w4.1,by simp⟩ ?_
 rintro⟨i,v,x,q⟩ nx g0 ⟨⟨hg,h5⟩,h6,h7⟩ P hP
 simp only at hg h5 h6 h7
 have hl:(bz x).length=i:=by rw[aB];exact h5
 simp(disch:=omega) [VZ]
 have hb4:=da s4.1
 refine ab (fun h8=> ?_) (fun h8=> ?_)
 ·simp(disch:=omega) [bp,VZ]
  refine fg (cc b q h6 hb) ?_
  have w5:=ec h6 32
  obtain⟨g1,rfl⟩:∃g1,g0=g1+1:=⟨g0 - 1,by omega⟩
  simp only[i0]at h7
  generalize h9:db b q 32=s5 at w5 h7⊢
  simp(disch:=omega) [bp,hl,Eo,VZ]
  refine hP (i+1,_,x++ [s5.1],s5.2) g1 _ _ (by omega) ⟨⟨by simp only;omega,by simp[h5]⟩,w5.1,by rw[h7];simp⟩ (by simp(disch:=omega) [VZ];rfl) (by simp(disch:=omega) [bp,VZ])
 ·obtain rfl:g0=0:=by omega
  simp only[i0,List.append_nil]at h7
  simp(disch:=omega) [xV,h1,h2,h3,h4,g,h7,Qc.o,bp,aJ,aO,aT,VZ]
end Go.Eng.F
namespace Go.Eng.F
abbrev jb:Nat:=241
def jr:AF:=⟨1,4,[.tmp 2],(.seq (.ops [.i (.mov 2 (qi 0))]) (.seq (.ops [qm 3 0,qm 4 0, .i (.call 6 97 false [(.s 4),(qi 100)]),qm 6 0, .i (.call 8 97 false [(.s 6),(qi 100000)]), .i (.bsl 8 3 1 11 [.int .i64 0] [(0,1,(qi 0)),(1,1,(qi 1)),(2,1,(qi 127)),(3,1,(qi 128)),(4,1,(qi 300)),(5,1,(qi 16383)),(6,1,(qi 16384)),(7,1,(qi 1152921504606846975)),(8,1,(qi 1152921504606846974)),(9,1,(.s 5)),(10,1,(.s 7))]), .i (.call 10 155 false [(.s 3),(.s 8)]),qm 2 9]) .ret))⟩
theorem vR:cd jb=some jr:=by kernel_rfl
theorem gD (b:Bytes) (i:Nat) (h:Int) (hi:i≤b.length) (hb:b.length≤1073741824):VC cd jb (ic [] 133 (cur b i h) []) (fun r p=>∃x:Int×Nat×Int,(isNum x.1=true∧x.2.1≤b.length)∧r=it x.1∧p= [.pt 133 (cur b x.2.1 x.2.2)]):=by
 refine aw vR rfl ?_
 simp(disch:=omega) [jr,cur,VZ]
 refine cq (an b i h 100 (by omega) hi hb) ?_
 rintro⟨k1,i1,h1⟩ ⟨g1,j1⟩
 simp only at g1 j1
 simp(disch:=omega) [cur,VZ]
 refine cq (an b i1 h1 100000 (by omega) j1 hb) ?_
 rintro⟨k2,i2,h2⟩ ⟨g2,j2⟩
 simp only at g2 j2
 simp(disch:=omega) [cur,VZ]
 refine cq (hQ b i2 h2 [0,1,127,128,300,16383,16384,1152921504606846975,1152921504606846974,(k1:Int),(k2:Int)] (by simp) (by simp) j2 hb) ?_
 rintro⟨k3,i3,h3⟩ ⟨g3,j3⟩
 simp only at g3 j3
 simp(disch:=omega) [cur,VZ]
 simp only[List.mem_cons,List.not_mem_nil,or_false]at g3
 exact⟨k3,i3,⟨by simp only[isNum,cw,decide_eq_true_eq];omega,j3⟩,rfl,rfl⟩
theorem dJ {n:Int} (h:isNum n=true):mq n:=by
 have:=dv h
 exact⟨by omega,by omega⟩
abbrev pg:Nat:=161
def nn:AF:=⟨2,5,[.cell 4 5 true],(.seq (.ops [.i (.lbox 3 (.s 1)), .i (.lal 4 [.int .i64 0, .int .i64 0, .nils, .int .i64 0, .nils])]) (.seq (.ops [qm 5 0,qk 7 241 5,qm 7 0,qk 9 241 7,qm 9 0,qk 11 242 9,qm 11 0,qf 12 3 0,ql 13 3 12 1 false, .i (.call 15 97 false [(.s 11),(.s 13)]),qm 15 0,qk 17 242 15, .i (.bld 17 [.int .i64 0, .int .i64 0, .nils, .int .i64 0, .nils] [(0,1,(.s 6)),(1,1,(.s 8)),(2,1,(.s 10)),(3,1,(.s 14)),(4,1,(.s 16))]),qs 4 4 17 5]) .ret))⟩
theorem z2:cd pg=some nn:=by kernel_rfl
theorem sS (b:Bytes) (i:Nat) (h:Int) (l:aj) (hl:1≤l.n∧l.n≤10) (hi:i≤b.length) (hb:b.length≤1073741824):VC cd pg (ic [] 133 (cur b i h) [(true,l.c)]) (fun r p=>∃x:bu×Nat×Int,((isNum x.1.view=true∧isNum x.1.height=true∧x.1.block.length=32∧cw x.1.who 0 (l.n - 1)=true∧x.1.tag.length=32)∧x.2.1≤b.length)∧r= [(true,x.1.o)]∧p= [.pt 133 (cur b x.2.1 x.2.2)]):=by
 refine aw z2 rfl ?_
 simp(disch:=omega) [nn,cur,aj.c,VZ]
 refine cq (gD b i h hi hb) ?_
 rintro⟨k1,i1,h1⟩ ⟨g1,j1⟩
 simp only at g1 j1
 simp(disch:=omega) [cur,VZ]
 refine cq (gD b i1 h1 j1 hb) ?_
 rintro⟨k2,i2,h2⟩ ⟨g2,j2⟩
 simp only at g2 j2
 simp(disch:=omega) [cur,VZ]
 refine cq (cC b i2 h2 j2 hb) ?_
 rintro⟨x3,i3,h3⟩ ⟨g3,j3⟩
 simp only at g3 j3
 obtain⟨m,hm⟩:∃m:Nat,l.n=(m:Int):=⟨l.n.toNat,by omega⟩
 simp(disch:=omega) [cur,hm,VZ]
 refine cq (an b i3 h3 m (by omega) j3 hb) ?_
 rintro⟨k4,i4,h4⟩ ⟨g4,j4⟩
 simp only at g4 j4
 simp(disch:=omega) [cur,VZ]
 refine cq (cC b i4 h4 j4 hb) ?_
 rintro⟨x5,i5,h5⟩ ⟨g5,j5⟩
 simp only at g5 j5
 simp(disch:=omega) [cur,VZ]
 refine⟨⟨k1,k2,x3,k4,x5⟩,i5,⟨⟨g1,g2,g3,by simp only[cw,decide_eq_true_eq];omega,g5⟩,j5⟩,rfl,rfl⟩
abbrev oi:Nat:=317
def oU:AF:=⟨1,4,[.tmp 2],(.seq (.ops [.i (.mov 2 (.c (.val false [.nils])))]) (.seq (.seq (.ops [qm 3 0,qk 5 279 3, .i (.not 5 (.s 4))]) (.cond (.s 5) (.seq (.ops [.i (.mov 2 (.c (.val false [.nils])))]) .ret) .skip)) (.seq (.ops [qm 6 0,qk 8 341 6, .i (.mks 8 5 1 1 [.int .u8 0] (.s 7)),qm 2 8]) .ret)))⟩
theorem AP:cd oi=some oU:=by kernel_rfl
theorem xY (n:Int) (hn:1≤n∧n≤10):VC cd oi (aH [(false,[.int .i64 n])]) (fun rs _=>rs= [(false,[.o true (some (5,1)) (bytes (List.replicate (tY n).toNat 0))])]):=by
 have h1:cw n 1 10=true:=by simp only[cw,decide_eq_true_eq];omega
 have h2:=tt hn
 have h3:0≤tY n:=by unfold tY;split <;>omega
 refine aa AP rfl ?_
 simp(disch:=omega) [oU,VY]
 refine av (eg n) ?_
 simp(disch:=omega) [h1,VY]
 refine av (jd n (by omega) (by omega)) ?_
 have e1:List.replicate (tY n).toNat [D.int .u8 0]=bytes (List.replicate (tY n).toNat 0):=Ak _
 simp(disch:=omega) [h3,e1,VY]
theorem Kz (x:Bytes) (j:Nat) (y z:Int):(bytes x).set j [.int .u8 (ay .or .u8 y z)]=bytes (x.set j (b8 ((BitVec.ofInt IntKind.u8.bits y|||BitVec.ofInt IntKind.u8.bits z).toNat:Int))):=gY x j _
abbrev ov:Nat:=265
def oS:AF:=⟨2,5,[.tmp 4],(.seq (.ops [.i (.mov 4 (.c (.val false [.nils])))]) (.seq (.ops [qm 7 1,qk 9 317 7,qm 5 8]) (.seq (.seq (.ops [.i (.mov 6 (qi 0))]) (.block 0 (.loop [29,28,27,26,25,24,23,22,21,20,19,18,17,16,15,14,13,12,11,10,9] (.seq (.seq (.ops [qm 9 6,qm 10 1,qd 11 .lss 9 10]) (.cond (.s 11) .skip (.exit 0))) (.seq (.block 1 (.seq (.ops [qm 14 0, .i (.call 16 135 false [(.s 14),(qi 3)]), .i (.not 16 (.s 15))]) (.cond (.s 16) (.ops [qm 17 5,qm 18 6, .i (.bin 19 .quo (.s 18) (qi 8)),qm 20 5,qm 21 6, .i (.bin 22 .quo (.s 21) (qi 8)), .i (.iad 23 (.s 20) (.s 22) 1), .i (.ldh 24 (.s 23) 1 false),qm 25 6, .i (.bin 26 .rem (.s 25) (qi 8)), .i (.bin 27 .shl (.c (.val false [.int .u8 1])) (.s 26)),qd 28 .or 24 27, .i (.iad 29 (.s 17) (.s 19) 1), .i (.sth (.s 29) (.s 28) 1)]) .skip))) (.ops [qm 12 6, .i (.bin 13 .add (.s 12) (qi 1)),qm 6 13])))))) (.seq (.ops [qm 30 5,qm 4 30]) .ret))))⟩
theorem A6:cd ov=some oS:=by kernel_rfl
theorem G0 (b:Bytes) (i:Nat) (h:Int) (n:Int) (hn:1≤n∧n≤10) (hi:i≤b.length) (hb:b.length≤1073741824):VC cd ov (ic [] 133 (cur b i h) [(false,[.int .i64 n])]) (fun r p=>∃x:Bytes×Nat×Int,(x.1.length≤2∧x.2.1≤b.length)∧r= [(false,[.o true (some (5,1)) (bytes x.1)])]∧p= [.pt 133 (cur b x.2.1 x.2.2)]):=by
 have h2:=tt hn
 have h3:0≤tY n:=by unfold tY;split <;>omega
 refine aw A6 rfl ?_
 simp(disch:=omega) [oS,cur,VZ]
 refine av (xY n hn) ?_
 simp(disch:=omega) [cur,VZ]
 refine bH (σ:=Nat×Nat×Nat×Int×Bytes) (f1:=_) (es0:=_) (by simp(disch:=omega) [VZ];rfl) (by simp(disch:=omega) [VZ];rfl) (fun p=> [(6, .val false [.int .i64 (p.1:Int)]),(5, .val false [.ow 81920 p.2.1])]) (fun p=> [(4096, .pt 0 133 [.sl (bytes b), .int .i64 (p.2.2.1:Int), .int .i64 p.2.2.2.1]),(81920, .sl p.2.1 true true (some (5,1)) (bytes p.2.2.2.2))])
  (fun p g=>(g:Int)+p.1=n∧p.2.2.1≤b.length∧(p.2.2.2.2.length:Int)=tY n) (0,_,i,h,List.replicate (tY n).toNat 0) n.toNat (by simp(disch:=omega) [VZ];rfl) (by simp(disch:=omega) [VZ]) ⟨by simp only;omega,hi,by simp;omega⟩ ?_
 rintro⟨m,v,i2,h2',x⟩ nx g ⟨hg,h5,h6⟩ P hP
 simp only at hg h5 h6
 simp(disch:=omega) [VZ]
 refine ab (fun h8=> ?_) (fun h8=> ?_)
 ·simp(disch:=omega) [VZ]
  refine cq (fx b i2 h2' 3 (by omega) h5 hb) ?_
  rintro⟨y,i3,h3'⟩ h9
  simp only at h9
  have hm:m / 8 < x.length:=by unfold tY at h6;split at h6 <;>omega
  cases y with
  |true=>
   simp(disch:=omega) [cur,VZ]
   exact hP (m+1,v,i3,h3',x) (g - 1) _ _ (by omega) ⟨by simp only;omega,h9,h6⟩ (by simp(disch:=omega) [VZ] <;>rfl) (by simp(disch:=omega) [VZ])
  |false=>
   obtain⟨q1,q2,q3,q4⟩:=NZ m
   simp(disch:=omega) [cur,HD,Jw,q1,q2,q3,q4,bj hm,Kz,VZ]
   exact hP (m+1,v,i3,h3',x.set (m / 8) (b8 (((x[m / 8].toNat % 2 ^ IntKind.u8.bits|||(IntKind.u8.wrap (2 ^ min (m % 8) IntKind.u8.bits) % 2 ^ IntKind.u8.bits).toNat:Nat):Nat):Int))) (g - 1) _ _ (by omega) ⟨by simp only;omega,h9,by simpa using h6⟩ (by simp(disch:=omega) [VZ] <;>rfl) (by simp(disch:=omega) [VZ])
 ·simp(disch:=omega) [cur,VZ]
  exact⟨x,i2,⟨by omega,h5⟩,rfl,rfl⟩
abbrev mI:Nat:=185
def nF:AF:=⟨2,6,[.cell 4 5 true],(.seq (.ops [.i (.lbox 3 (.s 1)), .i (.lal 4 [.int .i64 0, .int .i64 0, .nils, .nils, .nils])]) (.seq (.ops [qm 7 0,qk 9 241 7,qm 9 0,qk 11 241 9,qm 11 0,qk 13 242 11,qm 13 0,qf 14 3 0,ql 15 3 14 1 false, .i (.call 17 265 false [(.s 13),(.s 15)]), .i (.bld 17 [.int .i64 0, .int .i64 0, .nils, .nils, .nils] [(0,1,(.s 8)),(1,1,(.s 10)),(2,1,(.s 12)),(3,1,(.s 16))]), .i (.lal 5 [.int .i64 0, .int .i64 0, .nils, .nils, .nils]),qs 5 5 17 5]) (.seq (.seq (.ops [qf 18 5 3,ql 19 5 18 1 false,qk 21 266 19,qm 6 20]) (.block 0 (.loop [31,30,29,28,27,26,25,24,23,22,21] (.seq (.seq (.ops [qm 21 6, .i (.bin 22 .gtr (.s 21) (qi 0))]) (.cond (.s 22) .skip (.exit 0))) (.seq (.block 1 (.ops [qf 25 5 4,ql 26 5 25 1 false,qm 27 0,qk 29 242 27, .i (.lsl 29 1 1 [.nils] [(0,1,(.s 28))]), .i (.app 30 22 1 24 (.s 26) (.s 29)),qf 31 5 4,qs 5 31 30 1])) (.ops [qm 23 6, .i (.bin 24 .sub (.s 23) (qi 1)),qm 6 24])))))) (.seq (.ops [ql 32 5 5 5 true,qs 4 4 32 5]) .ret))))⟩
theorem y3:cd mI=some nF:=by kernel_rfl
theorem sN (b:Bytes) (i:Nat) (h:Int) (l:aj) (hl:1≤l.n∧l.n≤10) (hi:i≤b.length) (hb:b.length≤1073741824):VC cd mI (ic [] 133 (cur b i h) [(true,l.c)]) (fun r p=>∃x:Qc×Nat×Int,(IA x.1∧x.2.1≤b.length)∧r= [(true,x.1.o)]∧p= [.pt 133 (cur b x.2.1 x.2.2)]):=by
 refine aw y3 rfl ?_
 simp(disch:=omega) [nF,cur,aj.c,VZ]
 refine cq (gD b i h hi hb) ?_
 rintro⟨k1,i1,h1⟩ ⟨g1,j1⟩
 simp only at g1 j1
 simp(disch:=omega) [cur,VZ]
 refine cq (gD b i1 h1 j1 hb) ?_
 rintro⟨k2,i2,h2⟩ ⟨g2,j2⟩
 simp only at g2 j2
 simp(disch:=omega) [cur,VZ]
 refine cq (cC b i2 h2 j2 hb) ?_
 rintro⟨x3,i3,h3⟩ ⟨g3,j3⟩
 simp only at g3 j3
 simp(disch:=omega) [cur,VZ]
 refine cq (G0 b i3 h3 l.n hl j3 hb) ?_
 rintro⟨x4,i4,h4⟩ ⟨g4,j4⟩
 simp only at g4 j4
 simp(disch:=omega) [cur,VZ]
 refine av (ig x4 (by omega)) ?_
 simp(disch:=omega) [cur,VZ]
 refine cY (σ:=Nat×Nat×Nat×Int×List Bytes) (f0:=_) (by simp(disch:=omega) [VZ];rfl) (cN.xU (s:=5) (k:=5) (i:=4) rfl rfl) (f1:=_) (es0:=_) (by simp(disch:=omega) [VZ];rfl) (by simp(disch:=omega) [VZ];rfl) (fun p=> [(6, .val false [.int .i64 (p.1:Int)]),(5, .box [.int .i64 k1, .int .i64 k2, .ow 114688 19, .ow 147456 24, .ow 5 p.2.1])]) (fun p=> [(4096, .pt 0 133 [.sl (bytes b), .int .i64 (p.2.2.1:Int), .int .i64 p.2.2.2.1]),(5, .sl p.2.1 true true (some (22,1)) (bz p.2.2.2.2))])
  (fun p g=>g=p.1∧p.2.2.1≤b.length∧p.2.2.2.2.length+p.1=(aR x4).length∧∀t∈p.2.2.2.2,t.length=32) ((aR x4).length,_,i4,h4,[]) (aR x4).length (by simp(disch:=omega) [VZ];rfl) (by simp(disch:=omega) [bz,VZ]) ⟨rfl,j4,by simp,by simp⟩ ?_
 rintro⟨n,v,i5,h5,x⟩ nx g ⟨hg,a5,a6,a7⟩ P hP
 simp only at hg a5 a6 a7
 have hlb:=da x4
 simp(disch:=omega) [VZ]
 refine ab (fun h8=> ?_) (fun h8=> ?_)
 ·simp(disch:=omega) [VZ]
  refine cq (cC b i5 h5 a5 hb) ?_
  rintro⟨y,i6,h6⟩ ⟨g6,j6⟩
  simp only at g6 j6
  have e1:IntKind.i64.wrap ((n:Int) - 1)=((n - 1:Nat):Int):=by rw[sO (by omega) (by omega)];omega
  have hl:(bz x).length=x.length:=aB x
  simp(disch:=omega) [cur,hl,e1,d5,VZ]
  refine hP (n - 1,_,i6,h6,x++ [y]) (g - 1) _ _ (by omega) ⟨by simp only;omega,j6,by simp;omega,fun z hz=> ?_⟩ (by simp(disch:=omega) [VZ];rfl) (by simp(disch:=omega) [VZ])
  rcases List.mem_append.1 hz with hz|hz
  ·exact a7 z hz
  ·simp only[List.mem_singleton]at hz;subst hz;exact g6
 ·simp(disch:=omega) [cur,VZ]
  exact⟨⟨k1,k2,x3,x4,x⟩,i5,⟨⟨g1,g2,g3,g4,by simp only;omega,a7⟩,a5⟩,rfl,rfl⟩
end Go.Eng.F
namespace Go.Eng.F
def LY (n:Int):Prop:=0≤n∧n≤1152921504606846975
def Qc.rd (q:Qc):Prop:=(LY q.view∧LY q.height)∧q.block.length≤32∧q.bits.length≤2∧q.tags.length≤16∧∀t∈q.tags,t.length≤32
theorem mX {n:Nat} (h:n≤1152921504606846975):LY (n:Int):=⟨by omega,by omega⟩
theorem yP {b:Bytes} {l:aj} {r:Rd} (h:r.wf b):(xV b l r).2.wf b∧(xV b l r).1.rd:=by
 have w1:=cW h
 have w2:=cW w1.1
 have w3:=ec w2.1 32
 simp only[xV]
 split
 ·have w4:=wI b (db b (cT b (cT b r).2).2 32).2.at_ l.n
  have w5:=fun(r:Rd) (hr:r.wf b)=>ec hr 32
  have w6:=E3 (p:=fun t:Bytes=>t.length≤32) (b:=b) (f:=fun r=>db b r 32) (fun(r:Rd) hr=>⟨(w5 r hr).1,(w5 r hr).2.1⟩)
  refine⟨Ht (fun r hr=>(w5 r hr).1) _ _ w4.1,⟨mX w1.2,mX w2.2⟩,w3.2.1,w4.2,?_,w6 _ _ w4.1⟩
  simp only[EC]
  have:=da (d6 b (db b (cT b (cT b r).2).2 32).2.at_ l.n).1
  omega
 ·exact⟨w3.1,⟨mX w1.2,mX w2.2⟩,w3.2.1,by simp,by simp,by simp⟩
def Head.rd (h:Head):Prop:=(LY h.view∧LY h.height∧LY h.proposer)∧h.parent.length≤32∧h.root.length≤32∧h.qc.rd
theorem Al {b:Bytes} {l:aj} {r:Rd} (h:r.wf b):(dD b l r).2.wf b∧(dD b l r).1.rd:=by
 simp only[dD]
 have w1:=cW h
 generalize cT b r=s1 at w1⊢
 have w2:=cW w1.1
 generalize cT b s1.2=s2 at w2⊢
 have w3:=dY (bad:=decide (s2.1=0)) (c:=5) w2.1 (by omega)
 generalize cj s2.2 (decide (s2.1=0)) 5=s3 at w3⊢
 have w4:=ey (n:=l.n) (c:=5) w3 (by omega)
 generalize bU b s3 l.n 5=s4 at w4⊢
 have w5:=ec w4.1 32
 generalize db b s4.2 32=s5 at w5⊢
 have w6:=ec w5.1 32
 generalize db b s5.2 32=s6 at w6⊢
 have w7:=yP (l:=l) w6.1
 generalize xV b l s6.2=s7 at w7⊢
 exact⟨dY w7.1 (by omega),⟨mX w1.2,mX w2.2,mX w4.2⟩,w5.2.1,w6.2.1,w7.2⟩
theorem FE (h:Head) (h1:0≤h.height) (h2:mq h.height):VC cd gp (aH [(true,h.c)]) (fun rs _=>rs=bl (fits h)):=by
 simp only[mq]at h2
 refine aa qO rfl ?_
 simp(disch:=omega) [gz,Head.c,VY]
 refine ab (fun g1=> ?_) (fun g1=> ?_) <;>simp(disch:=omega) [g1,fits,VY]
 refine ab (fun g2=> ?_) (fun g2=> ?_) <;>simp(disch:=omega) [g1,g2,VY]
 refine ah (dt _ _) rfl rfl ?_
 simp(disch:=omega) [g1,g2,VY]
abbrev gk:Nat:=111
def lX:AF:=⟨2,6,[.cell 4 10 true],(.seq (.ops [.i (.lbox 2 (.s 0)), .i (.lal 4 qz)]) (.seq (.ops [qm 6 1,qk 8 165 6,qm 8 1,qk 10 165 8, .i (.bld 10 qz [(0,1,(.s 7)),(1,1,(.s 9))]), .i (.lal 5 qz),qs 5 5 10 10]) (.seq (.ops [qm 11 1,qf 12 5 1,ql 13 5 12 1 false, .i (.bin 14 .neq (.s 13) (qi 0)), .i (.call 16 172 false [(.s 11),(.s 14),(qi 5)])]) (.seq (.ops [qm 16 1,qf 17 2 0,ql 18 2 17 1 false, .i (.call 20 167 false [(.s 16),(.s 18),(qi 5)]),qf 20 5 2,qs 5 20 19 1]) (.seq (.ops [qm 21 1,qk 23 166 21,qm 23 1,qk 25 166 23,qf 25 5 3,qs 5 25 22 1,qf 26 5 4,qs 5 26 24 1]) (.seq (.ops [ql 27 2 2 5 true,qm 28 1, .i (.call 30 106 false [(.s 27),(.s 28)]),qf 30 5 5,qs 5 30 29 5]) (.seq (.ops [qm 31 1,ql 32 5 5 10 true,qk 34 171 32, .i (.call 35 172 false [(.s 31),(.s 33),(qi 6)])]) (.seq (.ops [ql 35 5 5 10 true,qs 4 4 35 10]) .ret))))))))⟩
theorem xf:cd gk=some lX:=by kernel_rfl
theorem fy (b:Bytes) (l:aj) (r:Rd) (hl:1≤l.n∧l.n≤10) (hr:r.wf b) (hb:b.length≤1073741824):VC cd gk (ic [(true,l.c)] 215 (bp b r) []) (fun rs p=>rs= [(true,(dD b l r).1.o)]∧p= [.pt 215 (bp b (dD b l r).2)]):=by
 refine aw xf rfl ?_
 simp(disch:=omega) [lX,bp,aj.c,VZ]
 refine fg (bC b r hr hb) ?_
 have w1:=cW hr
 generalize h1:cT b r=s1 at w1⊢
 simp(disch:=omega) [bp,VZ]
 refine fg (bC b s1.2 w1.1 hb) ?_
 have w2:=cW w1.1
 generalize h2:cT b s1.2=s2 at w2⊢
 simp(disch:=omega) [bp,VZ]
 refine fg (aI b s2.2 (!decide (s2.1=0)) 5) ?_
 simp only[Bool.not_not]
 have w3:=dY (bad:=decide (s2.1=0)) (c:=5) w2.1 (by omega)
 generalize h3:cj s2.2 (decide (s2.1=0)) 5=s3 at w3⊢
 simp(disch:=omega) [bp,VZ]
 refine fg (cp b s3 l.n 5 w3 hb) ?_
 have w4:=ey (n:=l.n) (c:=5) w3 (by omega)
 generalize h4:bU b s3 l.n 5=s4 at w4⊢
 simp(disch:=omega) [bp,VZ]
 refine fg (cc b s4.2 w4.1 hb) ?_
 have w5:=ec w4.1 32
 generalize h5:db b s4.2 32=s5 at w5⊢
 simp(disch:=omega) [bp,VZ]
 refine fg (cc b s5.2 w5.1 hb) ?_
 have w6:=ec w5.1 32
 generalize h6:db b s5.2 32=s6 at w6⊢
 simp(disch:=omega) [bp,VZ]
 refine fg (dA b l s6.2 hl w6.1 hb) ?_ (n1:=by simp(disch:=omega) [Qc.o,VZ]) (n3:=by simp(disch:=omega) [Qc.o,VZ])
 have w7:=yP (l:=l) w6.1
 generalize h7:xV b l s6.2=s7 at w7⊢
 simp(disch:=omega) [bp,aj.c,Qc.o,VZ]
 have w2':=mX w2.2
 simp only[LY]at w2'
 refine av (FE ⟨s1.1,s2.1,s4.1,s5.1,s6.1,s7.1⟩ w2'.1 ⟨by simp only;omega,by simp only;omega⟩) ?_ (ha:=by first|rfl|(simp[Head.c,VY] <;>repeat' constructor))
 simp(disch:=omega) [bp,VZ]
 refine fg (aI b s7.2 (fits ⟨s1.1,s2.1,s4.1,s5.1,s6.1,s7.1⟩) 6) ?_
 have w8:=dY (bad:=(!fits ⟨s1.1,s2.1,s4.1,s5.1,s6.1,s7.1⟩)) (c:=6) w7.1 (by omega)
 generalize h8:cj s7.2 ((!fits ⟨s1.1,s2.1,s4.1,s5.1,s6.1,s7.1⟩)) 6=s8 at w8⊢
 simp(disch:=omega) [bp,VZ]
 simp(disch:=omega) [dD,h1,h2,h3,h4,h5,h6,h7,h8,Head.o,bp,VZ]
end Go.Eng.F
namespace Go.Eng.F
def aj.rd (l:aj):Prop:=(1≤l.n∧l.n≤10)∧(0≤l.tx∧l.tx≤40)∧(0≤l.txs∧l.txs≤8)∧3≤l.heads∧l.heads≤5
theorem na {l:aj} (h:l.ok=true):l.rd:=by
 simp only[aj.ok,cw,Bool.and_eq_true,decide_eq_true_eq]at h
 exact⟨h.1.1.1.1,h.1.1.1.2,h.1.1.2,h.2⟩
theorem jh {r:Rd} {bad:Bool} {c:Nat} (h:(cj r bad c).er=0) (hc:c≠0):bad=false:=by
 unfold cj at h
 split at h
 ·exact absurd h hc
 ·rename_i g
  cases bad
  ·rfl
  ·exact absurd ⟨h,rfl⟩ g
theorem gK {r:Rd} {bad:Bool} {c:Nat} (h:r.er≠0):cj r bad c=r:=by
 unfold cj
 rw[if_neg (fun g=>h g.1)]
theorem Cf {α:Type} {f:Rd→α×Rd} {k:Nat} {r:Rd} (h:r.er≠0):dB f k r=([],r):=by
 cases k
 ·rfl
 ·rw[dB,if_neg h]
theorem AU {α:Type} {f:Rd→α×Rd} {k:Nat} {r:Rd} (h:r.er=0):dB f (k+1) r=((f r).1::(dB f k (f r).2).1,(dB f k (f r).2).2):=by
 rw[dB,if_pos h]
theorem lF (b:Bytes) (r:Rd) (m:Int) (h0:0≤m∧m≤1073741824) (hr:r.wf b) (hb:b.length≤1073741824):VC cd ee (ic [] 215 (bp b r) [(false,[.int .i64 m])]) (fun rs p=>rs= [(false,[.o true (some (5,1)) (bytes (eu b r m.toNat).1)])]∧p= [.pt 215 (bp b (eu b r m.toNat).2)]):=by
 obtain⟨k,rfl⟩:=Int.eq_ofNat_of_zero_le h0.1
 exact yw b r k (by omega) hr hb
abbrev fB:Nat:=116
def iU:AF:=⟨2,6,[.cell 4 11 true],(.seq (.ops [.i (.lbox 2 (.s 0)), .i (.lal 4 [.int .i64 0, .int .i64 0, .int .i64 0, .nils, .nils, .int .i64 0, .int .i64 0, .nils, .nils, .nils, .nils])]) (.seq (.ops [ql 8 2 2 5 true,qm 9 1, .i (.call 11 111 false [(.s 8),(.s 9)]), .i (.bld 11 [.int .i64 0, .int .i64 0, .int .i64 0, .nils, .nils, .int .i64 0, .int .i64 0, .nils, .nils, .nils, .nils] [(0,10,(.s 10))]), .i (.lal 5 [.int .i64 0, .int .i64 0, .int .i64 0, .nils, .nils, .int .i64 0, .int .i64 0, .nils, .nils, .nils, .nils]),qs 5 5 11 11]) (.seq (.ops [qm 12 1,qf 13 2 2,ql 14 2 13 1 false, .i (.bin 15 .add (.s 14) (qi 1)), .i (.call 17 167 false [(.s 12),(.s 15),(qi 3)]),qm 6 16]) (.seq (.seq (.ops [.i (.mov 7 (qi 0))]) (.block 0 (.loop [37,36,35,34,33,32,31,30,29,28,27,26,25,24,23,22,21,20,19,18,17] (.seq (.seq (.ops [qm 17 7,qm 18 6,qd 19 .lss 17 18,qm 20 19, .g 20 true 22 (.mov 21 (.s 1)), .g 20 true 23 (.nch 22 (.s 21)), .g 20 true 24 (.fad 23 (.s 22) 2), .g 20 true 25 (.ldh 24 (.s 23) 1 false), .g 20 true 26 (.bin 25 .eql (.s 24) (qi 0)), .i (.pick 26 (.s 20) (.s 25) (qb false))]) (.cond (.s 26) .skip (.exit 0))) (.seq (.block 1 (.ops [qf 29 5 10,ql 30 5 29 1 false,qm 31 1,qf 32 2 1,ql 33 2 32 1 false, .i (.call 35 177 false [(.s 31),(.s 33)]), .i (.lsl 35 1 1 [.nils] [(0,1,(.s 34))]), .i (.app 36 22 1 24 (.s 30) (.s 35)),qf 37 5 10,qs 5 37 36 1])) (.ops [qm 27 7, .i (.bin 28 .add (.s 27) (qi 1)),qm 7 28])))))) (.seq (.ops [qm 38 1,qm 39 1, .i (.nch 40 (.s 39)),qf 41 40 2, .i (.ldh 42 (.s 41) 1 false), .i (.bin 43 .neq (.s 42) (qi 0)),qm 44 43, .g 44 false 46 (.fad 45 (.s 5) 0), .g 44 false 47 (.fad 46 (.s 45) 4), .g 44 false 48 (.ldl 47 5 (.s 46) 1 false), .g 44 false 49 (.fad 48 (.s 5) 10), .g 44 false 50 (.ldl 49 5 (.s 48) 1 false), .g 44 false 51 (.call 51 176 false [(.s 49)]), .g 44 false 52 (.call 52 21 false [(.s 47),(.s 50)]), .i (.pick 52 (.s 44) (qb true) (.s 51)), .i (.call 54 172 false [(.s 38),(.s 52),(qi 7)])]) (.seq (.ops [ql 54 5 5 11 true,qs 4 4 54 11]) .ret))))))⟩
theorem vw:cd fB=some iU:=by kernel_rfl
theorem tu (b:Bytes) (l:aj) (r:Rd) (hL:l.rd) (hr:r.wf b) (hb:b.length≤1073741824):VC cd fB (ic [(true,l.c)] 215 (bp b r) []) (fun rs p=>rs= [(true,(fb b l r).1.o)]∧p= [.pt 215 (bp b (fb b l r).2)]):=by
 refine VC.oQ ?_
 obtain⟨hl,hx,ht,hh⟩:=hL
 refine aw vw rfl ?_
 simp(disch:=omega) [iU,bp,aj.c,VZ]
 refine fg (fy b l r hl hr hb) ?_ (n1:=by simp(disch:=omega) [Head.o,VZ]) (n3:=by simp(disch:=omega) [Head.o,VZ])
 have w1:=Al (l:=l) hr
 generalize h1:dD b l r=s1 at w1⊢
 simp(disch:=omega) [bp,aj.c,Head.o,VZ]
 refine fg (cp b s1.2 (l.txs+1) 3 w1.1 hb) ?_
 have w2:=ey (n:=(l.txs+1)) (c:=3) w1.1 (by omega)
 generalize h2:bU b s1.2 (l.txs+1) 3=s2 at w2⊢
 simp(disch:=omega) [bp,VZ]
 have hn:s2.2.er=0→(s2.1:Int)≤l.txs:=by
  intro g
  have e:(bU b s1.2 (l.txs+1) 3).2.er=0:=by rw[h2];exact g
  have:=jh e (by omega)
  simp only[bU]at h2
  rw[show(cT b s1.2).1=s2.1 by rw[←h2]]at this
  simp only[decide_eq_false_iff_not]at this
  omega
 refine cY (σ:=Nat×Nat×List Bytes×Rd) (f0:=_) (by simp(disch:=omega) [VZ];rfl) (cN.xU (s:=5) (k:=5) (i:=10) rfl rfl) (f1:=_) (es0:=_) (by simp(disch:=omega) [VZ];rfl) (by simp(disch:=omega) [VZ];rfl) (fun p=> [(7, .val false [.int .i64 (p.1:Int)]),(5, .box [.int .i64 s1.1.view, .int .i64 s1.1.height, .int .i64 s1.1.proposer, .ow 98307 12, .ow 98308 13, .int .i64 s1.1.qc.view, .int .i64 s1.1.qc.height, .ow 98311 16, .ow 98312 17, .ow 98313 18, .ow 5 p.2.1])]) (fun p=> [(4101, .pt 5 215 [.sl (bytes b), .int .i64 (p.2.2.2.at_:Int), .int .i64 (p.2.2.2.er:Int)]),(5, .sl p.2.1 true true (some (22,1)) (bz p.2.2.1))])
  (fun p g=>(g+p.1=s2.1∧p.2.2.1.length=p.1)∧(p.2.2.2.er=0→(s2.1:Int)≤l.txs)∧p.2.2.2.wf b∧dB (fun r=>eu b r l.tx.toNat) s2.1 s2.2=(p.2.2.1++(dB (fun r=>eu b r l.tx.toNat) g p.2.2.2).1,(dB (fun r=>eu b r l.tx.toNat) g p.2.2.2).2)) (0,_,[],s2.2) s2.1 (by simp(disch:=omega) [VZ];rfl) (by simp(disch:=omega) [bz,bp,VZ]) ⟨⟨by simp,rfl⟩,hn,w2.1,by simp⟩ ?_
 have hall:∀t∈(dB (fun r=>eu b r l.tx.toNat) s2.1 s2.2).1,t.length≤40:=vU (p:=fun t:Bytes=>t.length≤40) (b:=b) (fun r hr=>⟨(tw hr _).1,Nat.le_trans (tw hr _).2.1 (by omega)⟩) _ _ w2.1
 rintro⟨i,v,x,⟨qa,qe⟩⟩ nx g0 ⟨⟨hg,h5⟩,h10,h6,h7⟩ P hP
 simp only at hg h5 h6 h7 h10
 have hl2:(bz x).length=i:=by rw[aB];exact h5
 by_cases h9:qe=0
 ·subst h9
  by_cases h8:i < s2.1
  ·have h11:=h10 rfl
   simp(disch:=omega) [h8,bp,VZ]
   refine fg (lF b ⟨qa,0⟩ l.tx (by omega) h6 hb) ?_
   have w5:=tw h6 l.tx.toNat
   obtain⟨g1,rfl⟩:∃g1,g0=g1+1:=⟨g0 - 1,by omega⟩
   rw[AU rfl]at h7
   simp only at h7
   generalize h12:eu b ⟨qa,0⟩ l.tx.toNat=s5 at w5 h7⊢
   simp(disch:=omega) [bp,hl2,Eo,VZ]
   refine hP (i+1,_,x++ [s5.1],s5.2) g1 _ _ (by omega) ⟨⟨by simp only;omega,by simp[h5]⟩,fun _=>h11,w5.1,by rw[h7];simp⟩ (by simp(disch:=omega) [VZ];rfl) (by simp(disch:=omega) [bp,VZ])
  ·obtain rfl:g0=0:=by omega
   simp only[dB,List.append_nil]at h7
   have hx2:∀t∈x,t.length≤1073741823:=fun t ht=>Nat.le_trans (hall t (by rw[h7];exact ht)) (by omega)
   have h11:=h10 rfl
   simp(disch:=omega) [h8,bp,VZ]
   refine av (vl _ x rfl (by omega) hx2) ?_
   simp(disch:=omega) [VZ]
   refine av (dt _ _) ?_
   simp(disch:=omega) [bp,VZ]
   refine fg (aI b ⟨qa,0⟩ (decide (s1.1.root=aW x)) 7) ?_
   simp(disch:=omega) [fb,h1,h2,h7,Block.o,bp,aJ,aO,aT,VZ]
 ·rw[Cf (k:=g0) (r:=⟨qa,qe⟩) h9]at h7
  simp only[List.append_nil]at h7
  by_cases h8:i < s2.1
  ·skip
   have hx2:∀t∈x,t.length≤1073741823:=fun t ht=>Nat.le_trans (hall t (by rw[h7];exact ht)) (by omega)
   simp(disch:=omega) [h8,h9,bp,VZ]
   refine fg (aI b ⟨qa,qe⟩ true 7) ?_
   have h12:∀bad c,cj ⟨qa,qe⟩ bad c=⟨qa,qe⟩:=fun bad c=>gK h9
   simp(disch:=omega) [fb,h1,h2,h7,Block.o,bp,aJ,aO,aT,h12,VZ]
  ·skip
   have hx2:∀t∈x,t.length≤1073741823:=fun t ht=>Nat.le_trans (hall t (by rw[h7];exact ht)) (by omega)
   simp(disch:=omega) [h8,h9,bp,VZ]
   refine fg (aI b ⟨qa,qe⟩ true 7) ?_
   have h12:∀bad c,cj ⟨qa,qe⟩ bad c=⟨qa,qe⟩:=fun bad c=>gK h9
   simp(disch:=omega) [fb,h1,h2,h7,Block.o,bp,aJ,aO,aT,h12,VZ]
end Go.Eng.F
namespace Go.Eng.F
theorem H8 (l:List Head) (h:Head):fT l++ [[.int .i64 h.view, .int .i64 h.height, .int .i64 h.proposer, .sl (bytes h.parent), .sl (bytes h.root), .int .i64 h.qc.view, .int .i64 h.qc.height, .sl (bytes h.qc.block), .sl (bytes h.qc.bits), .sl (bz h.qc.tags)]]=fT (l++ [h]):=by simp[fT,Head.c]
theorem HQ {b:Bytes} {l:aj} {r:Rd} (h:r.er≠0):(xV b l r).2=r:=by simp[xV,cT,db,h]
theorem LY.i64 {n:Int} (h:LY n):mq n:=⟨by have:=h.1;omega,by have:=h.2;omega⟩
theorem Qc.rd.wf {q:Qc} (h:q.rd):q.wf:=by
 obtain⟨⟨h1,h2⟩,h3,h4,h5,h6⟩:=h
 refine⟨h1.i64,h2.i64,?_,?_,?_⟩ <;>simp only[Sz] <;>omega
theorem Head.rd.wf {h:Head} (w:h.rd):h.wf:=by
 obtain⟨⟨h1,h2,h3⟩,h4,h5,h6⟩:=w
 refine⟨h1.i64,h2.i64,h3.i64,?_,?_,h6.wf⟩ <;>simp only[Sz] <;>omega
abbrev fC:Nat:=123
def jF:AF:=⟨2,6,[.cell 4 6 true],(.seq (.ops [.i (.lbox 2 (.s 0)), .i (.lal 4 [.nils, .int .i64 0, .int .i64 0, .nils, .nils, .nils])]) (.seq (.ops [.i (.bld 8 [.nils, .int .i64 0, .int .i64 0, .nils, .nils, .nils] []),qm 9 1,qk 11 165 9, .i (.lal 5 [.nils, .int .i64 0, .int .i64 0, .nils, .nils, .nils]),qs 5 5 8 6,qm 6 10]) (.seq (.ops [qm 11 1,qm 12 6, .i (.bin 13 .geq (.s 12) (qi 3)), .i (.call 15 172 false [(.s 11),(.s 13),(qi 5)])]) (.seq (.ops [qm 15 1,qm 16 6,qf 17 2 4,ql 18 2 17 1 false,qd 19 .leq 16 18, .i (.call 21 172 false [(.s 15),(.s 19),(qi 3)])]) (.seq (.seq (.ops [.i (.mov 7 (qi 0))]) (.block 0 (.loop [40,39,38,37,36,35,34,33,32,31,30,29,28,27,26,25,24,23,22,21] (.seq (.seq (.ops [qm 21 7,qm 22 6,qd 23 .lss 21 22,qm 24 23, .g 24 true 26 (.mov 25 (.s 1)), .g 24 true 27 (.nch 26 (.s 25)), .g 24 true 28 (.fad 27 (.s 26) 2), .g 24 true 29 (.ldh 28 (.s 27) 1 false), .g 24 true 30 (.bin 29 .eql (.s 28) (qi 0)), .i (.pick 30 (.s 24) (.s 29) (qb false))]) (.cond (.s 30) .skip (.exit 0))) (.seq (.block 1 (.ops [qf 33 5 0,ql 34 5 33 1 false,ql 35 2 2 5 true,qm 36 1, .i (.call 38 111 false [(.s 35),(.s 36)]), .i (.lsl 38 10 1 qz [(0,10,(.s 37))]), .i (.app 39 45 10 160 (.s 34) (.s 38)),qf 40 5 0,qs 5 40 39 1])) (.ops [qm 31 7, .i (.bin 32 .add (.s 31) (qi 1)),qm 7 32])))))) (.seq (.ops [ql 41 2 2 5 true,qm 42 1, .i (.call 44 106 false [(.s 41),(.s 42)]),qf 44 5 1,qs 5 44 43 5]) (.seq (.ops [qm 45 1,qm 46 1, .i (.nch 47 (.s 46)),qf 48 47 2, .i (.ldh 49 (.s 48) 1 false), .i (.bin 50 .neq (.s 49) (qi 0)),qm 51 50, .g 51 false 53 (.ldl 52 5 (.s 5) 6 true), .g 51 false 54 (.call 54 179 false [(.s 52)]), .i (.pick 54 (.s 51) (qb true) (.s 53)), .i (.call 56 172 false [(.s 45),(.s 54),(qi 6)])]) (.seq (.ops [ql 56 5 5 6 true,qs 4 4 56 6]) .ret))))))))⟩
theorem vG:cd fC=some jF:=by kernel_rfl
theorem t7 (b:Bytes) (l:aj) (r:Rd) (hL:l.rd) (hr:r.wf b) (hb:b.length≤1073741824):VC cd fC (ic [(true,l.c)] 215 (bp b r) []) (fun rs p=>rs= [(true,(el b l r).1.o)]∧p= [.pt 215 (bp b (el b l r).2)]):=by
 refine VC.oQ ?_
 obtain⟨hl,hx,ht,hh⟩:=hL
 refine aw vG rfl ?_
 simp(disch:=omega) [jF,bp,aj.c,VZ]
 refine fg (bC b r hr hb) ?_
 have w1:=cW hr
 generalize h1:cT b r=s1 at w1⊢
 simp(disch:=omega) [bp,VZ]
 refine fg (aI b s1.2 (decide (3≤(s1.1:Int))) 5) ?_
 have e2:(!decide (3≤(s1.1:Int)))=decide (s1.1 < 3):=by rw[←decide_not,decide_eq_decide];omega
 rw[e2]
 have w2:=dY (bad:=decide (s1.1 < 3)) (c:=5) w1.1 (by omega)
 generalize h2:cj s1.2 (decide (s1.1 < 3)) 5=s2 at w2⊢
 simp(disch:=omega) [bp,VZ]
 refine fg (aI b s2 (decide ((s1.1:Int)≤l.heads)) 3) ?_
 have e3:(!decide ((s1.1:Int)≤l.heads))=decide (l.heads < (s1.1:Int)):=by rw[←decide_not,decide_eq_decide];omega
 rw[e3]
 have w3:=dY (bad:=decide (l.heads < (s1.1:Int))) (c:=3) w2 (by omega)
 generalize h3:cj s2 (decide (l.heads < (s1.1:Int))) 3=s3 at w3⊢
 simp(disch:=omega) [bp,VZ]
 have hn:s3.er=0→3≤s1.1∧(s1.1:Int)≤l.heads:=by
  intro g
  have e:=jh (by rw[h3];exact g) (by omega)
  have g2:s2.er=0:=by
   have:=gK (r:=s2) (bad:=decide (l.heads < (s1.1:Int))) (c:=3)
   rw[h3]at this
   by_cases g3:s2.er=0
   ·exact g3
   ·rw[←this g3];exact g
  have e2:=jh (by rw[h2];exact g2) (by omega)
  simp only[decide_eq_false_iff_not]at e e2
  omega
 refine cY (σ:=Nat×Nat×List Head×Rd) (f0:=_) (by simp(disch:=omega) [VZ];rfl) (cN.xU (s:=5) (k:=5) (i:=0) rfl rfl) (f1:=_) (es0:=_) (by simp(disch:=omega) [VZ];rfl) (by simp(disch:=omega) [VZ];rfl) (fun p=> [(7, .val false [.int .i64 (p.1:Int)]),(5, .box [.ow 5 p.2.1, .int .i64 0, .int .i64 0, .nils, .nils, .nils])]) (fun p=> [(4101, .pt 5 215 [.sl (bytes b), .int .i64 (p.2.2.2.at_:Int), .int .i64 (p.2.2.2.er:Int)]),(5, .sl p.2.1 true true (some (45,10)) (fT p.2.2.1))])
  (fun p g=>(g+p.1=s1.1∧p.2.2.1.length=p.1)∧(p.2.2.2.er=0→3≤s1.1∧(s1.1:Int)≤l.heads)∧p.2.2.2.wf b∧dB (dD b l) s1.1 s3=(p.2.2.1++(dB (dD b l) g p.2.2.2).1,(dB (dD b l) g p.2.2.2).2)) (0,_,[],s3) s1.1 (by simp(disch:=omega) [VZ];rfl) (by simp(disch:=omega) [fT,bp,VZ]) ⟨⟨by simp,rfl⟩,hn,w3,by simp⟩ ?_
 have hall:∀t∈(dB (dD b l) s1.1 s3).1,t.rd:=vU (p:=fun t:Head=>t.rd) (b:=b) (fun r hr=>Al hr) _ _ w3
 rintro⟨i,v,x,⟨qa,qe⟩⟩ nx g0 ⟨⟨hg,h5⟩,h10,h6,h7⟩ P hP
 simp only at hg h5 h6 h7 h10
 have hl2:(fT x).length=i:=by rw[dq];exact h5
 by_cases h9:qe=0
 ·subst h9
  by_cases h8:i < s1.1
  ·have h11:=h10 rfl
   simp(disch:=omega) [h8,bp,VZ]
   refine fg (fy b l ⟨qa,0⟩ hl h6 hb) ?_ (n1:=by simp(disch:=omega) [Head.o,VZ]) (n3:=by simp(disch:=omega) [Head.o,VZ])
   have w5:=Al (l:=l) h6
   obtain⟨g1,rfl⟩:∃g1,g0=g1+1:=⟨g0 - 1,by omega⟩
   rw[AU rfl]at h7
   simp only at h7
   generalize h12:dD b l ⟨qa,0⟩=s5 at w5 h7⊢
   simp(disch:=omega) [bp,hl2,Head.o,H8,VZ]
   refine hP (i+1,_,x++ [s5.1],s5.2) g1 _ _ (by omega) ⟨⟨by simp only;omega,by simp[h5]⟩,fun _=>h11,w5.1,by rw[h7];simp⟩ (by simp(disch:=omega) [VZ];rfl) (by simp(disch:=omega) [bp,VZ])
  ·obtain rfl:g0=0:=by omega
   simp only[dB,List.append_nil]at h7
   have hx2:∀t∈x,t.wf:=fun t ht=>(hall t (by rw[h7];exact ht)).wf
   simp(disch:=omega) [h8,bp,VZ]
   refine fg (dA b l ⟨qa,0⟩ hl h6 hb) ?_ (n1:=by simp(disch:=omega) [Qc.o,VZ]) (n3:=by simp(disch:=omega) [Qc.o,VZ])
   have w13:=yP (l:=l) h6
   generalize h13:xV b l ⟨qa,0⟩=s13 at w13⊢
   obtain⟨q2,⟨qa,qe⟩⟩:=s13
   simp only at w13
   simp(disch:=omega) [bp,Qc.o,VZ]
   by_cases h14:qe=0
   ·subst h14
    have h15:3≤x.length:=by have:=h10 rfl;omega
    simp(disch:=omega) [VZ]
    refine av (IQ ⟨x,q2⟩ (by simp only;omega) ⟨⟨by have:=h10 rfl;simp only[Sz];omega,hx2⟩,w13.2.wf⟩) ?_ (ha:=by first|rfl|(simp[Proof.c,VY] <;>repeat' constructor))
    simp(disch:=omega) [bp,VZ]
    refine fg (aI b ⟨qa,0⟩ (sP ⟨x,q2⟩) 6) ?_
    simp(disch:=omega) [el,h1,h2,h3,h7,h13,Proof.o,bp,aJ,aO,aT,VZ]
   ·simp(disch:=omega) [h14,bp,VZ]
    refine fg (aI b ⟨qa,qe⟩ true 6) ?_
    have h12:∀bad c,cj ⟨qa,qe⟩ bad c=⟨qa,qe⟩:=fun bad c=>gK h14
    simp(disch:=omega) [el,h1,h2,h3,h7,h13,Proof.o,bp,aJ,aO,aT,h12,VZ]
 ·rw[Cf (k:=g0) (r:=⟨qa,qe⟩) h9]at h7
  simp only[List.append_nil]at h7
  by_cases h8:i < s1.1
  ·skip
   have hx2:∀t∈x,t.wf:=fun t ht=>(hall t (by rw[h7];exact ht)).wf
   simp(disch:=omega) [h8,h9,bp,VZ]
   refine fg (dA b l ⟨qa,qe⟩ hl h6 hb) ?_ (n1:=by simp(disch:=omega) [Qc.o,VZ]) (n3:=by simp(disch:=omega) [Qc.o,VZ])
   have w13:=yP (l:=l) h6
   have h16:=HQ (b:=b) (l:=l) (r:=⟨qa,qe⟩) h9
   generalize h13:xV b l ⟨qa,qe⟩=s13 at w13 h16⊢
   obtain⟨q2,q3⟩:=s13
   simp only at w13 h16
   subst h16
   simp(disch:=omega) [bp,Qc.o,h9,VZ]
   refine fg (aI b ⟨qa,qe⟩ true 6) ?_
   have h12:∀bad c,cj ⟨qa,qe⟩ bad c=⟨qa,qe⟩:=fun bad c=>gK h9
   simp(disch:=omega) [el,h1,h2,h3,h7,h13,Proof.o,bp,aJ,aO,aT,h12,VZ]
  ·skip
   have hx2:∀t∈x,t.wf:=fun t ht=>(hall t (by rw[h7];exact ht)).wf
   simp(disch:=omega) [h8,h9,bp,VZ]
   refine fg (dA b l ⟨qa,qe⟩ hl h6 hb) ?_ (n1:=by simp(disch:=omega) [Qc.o,VZ]) (n3:=by simp(disch:=omega) [Qc.o,VZ])
   have w13:=yP (l:=l) h6
   have h16:=HQ (b:=b) (l:=l) (r:=⟨qa,qe⟩) h9
   generalize h13:xV b l ⟨qa,qe⟩=s13 at w13 h16⊢
   obtain⟨q2,q3⟩:=s13
   simp only at w13 h16
   subst h16
   simp(disch:=omega) [bp,Qc.o,h9,VZ]
   refine fg (aI b ⟨qa,qe⟩ true 6) ?_
   have h12:∀bad c,cj ⟨qa,qe⟩ bad c=⟨qa,qe⟩:=fun bad c=>gK h9
   simp(disch:=omega) [el,h1,h2,h3,h7,h13,Proof.o,bp,aJ,aO,aT,h12,VZ]
end Go.Eng.F
namespace Go.Eng.F
def Tc.o (t:Tc):List E:= [.p (.int .i64 t.view), .o true (some (165,3)) (kB t.entries)]
theorem Hv (l:List Entry) (w h:Int) (t:Bytes):kB l++ [[.int .i64 w, .int .i64 h, .sl (bytes t)]]=kB (l++ [⟨w,h,t⟩]):=by simp[kB,Entry.c]
theorem IU {b:Bytes} {l:aj} {v:Int} {k:Nat} {bf:Int} {r:Rd} (h:r.er≠0):jG b l v k bf r=([],r):=by
 cases k
 ·rfl
 ·rw[jG,if_neg h]
theorem Gb {b:Bytes} {l:aj} {v:Int} {k:Nat} {bf:Int} {r:Rd} (h:r.er=0):jG b l v (k+1) bf r=
 (let w:=bU b r l.n 5
  let h:=bU b (cj w.2 (decide ((w.1:Int)≤bf)) 6) v 6
  let t:=db b h.2 32
  (⟨w.1,h.1,t.1⟩::(jG b l v k w.1 t.2).1,(jG b l v k w.1 t.2).2)):=by
 rw[jG,if_pos h]
abbrev iM:Nat:=119
def qT:AF:=⟨2,6,[.cell 4 2 true],(.seq (.ops [.i (.lbox 2 (.s 0)), .i (.lal 4 [.int .i64 0, .nils])]) (.seq (.ops [qm 10 1,qk 12 165 10, .i (.bld 12 [.int .i64 0, .nils] [(0,1,(.s 11))]), .i (.lal 5 [.int .i64 0, .nils]),qs 5 5 12 2]) (.seq (.ops [qm 13 1,qf 14 2 0,ql 15 2 14 1 false, .i (.bin 16 .add (.s 15) (qi 1)), .i (.call 18 167 false [(.s 13),(.s 16),(qi 3)]),qm 6 17, .i (.mov 7 (qi (-1)))]) (.seq (.seq (.ops [.i (.mov 8 (qi 0))]) (.block 0 (.loop [56,55,54,53,52,51,50,49,48,47,46,45,44,43,42,41,40,39,38,37,36,35,34,33,32,31,30,29,28,27,26,25,24,23,22,21,20,19,18,9] (.seq (.seq (.ops [qm 18 8,qm 19 6,qd 20 .lss 18 19,qm 21 20, .g 21 true 23 (.mov 22 (.s 1)), .g 21 true 24 (.nch 23 (.s 22)), .g 21 true 25 (.fad 24 (.s 23) 2), .g 21 true 26 (.ldh 25 (.s 24) 1 false), .g 21 true 27 (.bin 26 .eql (.s 25) (qi 0)), .i (.pick 27 (.s 21) (.s 26) (qb false))]) (.cond (.s 27) .skip (.exit 0))) (.seq (.block 1 (.seq (.ops [qm 30 1,qf 31 2 0,ql 32 2 31 1 false, .i (.call 34 167 false [(.s 30),(.s 32),(qi 5)]), .i (.bld 34 [.int .i64 0, .int .i64 0, .nils] [(0,1,(.s 33))]), .i (.lal 9 [.int .i64 0, .int .i64 0, .nils]),qs 9 9 34 3]) (.seq (.ops [qm 35 1,qf 36 9 0,ql 37 9 36 1 false,qm 38 7,qd 39 .gtr 37 38, .i (.call 41 172 false [(.s 35),(.s 39),(qi 6)])]) (.seq (.ops [qf 41 9 0,ql 42 9 41 1 false,qm 7 42]) (.seq (.ops [qm 43 1,qf 44 5 0,ql 45 5 44 1 false, .i (.call 47 167 false [(.s 43),(.s 45),(qi 6)]),qf 47 9 1,qs 9 47 46 1]) (.seq (.ops [qm 48 1,qk 50 166 48,qf 50 9 2,qs 9 50 49 1]) (.ops [qf 51 5 1,ql 52 5 51 1 false,ql 53 9 9 3 true, .i (.lsl 54 3 1 [.int .i64 0, .int .i64 0, .nils] [(0,3,(.s 53))]), .i (.app 55 165 3 40 (.s 52) (.s 54)),qf 56 5 1,qs 5 56 55 1]))))))) (.ops [qm 28 8, .i (.bin 29 .add (.s 28) (qi 1)),qm 8 29])))))) (.seq (.ops [ql 57 5 5 2 true,qs 4 4 57 2]) .ret)))))⟩
theorem B3:cd iM=some qT:=by kernel_rfl
theorem zV (b:Bytes) (l:aj) (r:Rd) (hL:l.rd) (hr:r.wf b) (hb:b.length≤1073741824):VC cd iM (ic [(true,l.c)] 215 (bp b r) []) (fun rs p=>rs= [(true,(HO b l r).1.o)]∧p= [.pt 215 (bp b (HO b l r).2)]):=by
 refine VC.oQ ?_
 obtain⟨hl,hx,ht,hh⟩:=hL
 refine aw B3 rfl ?_
 simp(disch:=omega) [qT,bp,aj.c,VZ]
 refine fg (bC b r hr hb) ?_
 have w1:=cW hr
 generalize h1:cT b r=s1 at w1⊢
 simp(disch:=omega) [bp,VZ]
 refine fg (cp b s1.2 (l.n+1) 3 w1.1 hb) ?_
 have w2:=ey (n:=(l.n+1)) (c:=3) w1.1 (by omega)
 generalize h2:bU b s1.2 (l.n+1) 3=s2 at w2⊢
 simp(disch:=omega) [bp,VZ]
 have hn:s2.2.er=0→(s2.1:Int)≤l.n:=by
  intro g
  have e:(bU b s1.2 (l.n+1) 3).2.er=0:=by rw[h2];exact g
  have:=jh e (by omega)
  simp only[bU]at h2
  rw[show(cT b s1.2).1=s2.1 by rw[←h2]]at this
  simp only[decide_eq_false_iff_not]at this
  omega
 refine cY (σ:=Nat×Nat×Int×List Entry×Rd) (f0:=_) (by simp(disch:=omega) [VZ];rfl) (cN.xU (s:=5) (k:=5) (i:=1) rfl rfl) (f1:=_) (es0:=_) (by simp(disch:=omega) [VZ];rfl) (by simp(disch:=omega) [VZ];rfl) (fun p=> [(8, .val false [.int .i64 (p.1:Int)]),(7, .val false [.int .i64 p.2.2.1]),(5, .box [.int .i64 s1.1, .ow 5 p.2.1])]) (fun p=> [(4101, .pt 5 215 [.sl (bytes b), .int .i64 (p.2.2.2.2.at_:Int), .int .i64 (p.2.2.2.2.er:Int)]),(5, .sl p.2.1 true true (some (165,3)) (kB p.2.2.2.1))])
  (fun p g=>(g+p.1=s2.1∧p.2.2.2.1.length=p.1)∧(p.2.2.2.2.er=0→(s2.1:Int)≤l.n)∧p.2.2.2.2.wf b∧(-1≤p.2.2.1∧p.2.2.1≤1152921504606846975)∧jG b l s1.1 s2.1 (-1) s2.2=(p.2.2.2.1++(jG b l s1.1 g p.2.2.1 p.2.2.2.2).1,(jG b l s1.1 g p.2.2.1 p.2.2.2.2).2)) (0,_, -1,[],s2.2) s2.1 (by simp(disch:=omega) [VZ];rfl) (by simp(disch:=omega) [kB,bp,VZ]) ⟨⟨by simp,rfl⟩,hn,w2.1,⟨by simp,by simp⟩,by simp⟩ ?_
 rintro⟨i,v,bf,x,⟨qa,qe⟩⟩ nx g0 ⟨⟨hg,h5⟩,h10,h6,hbf,h7⟩ P hP
 simp only at hg h5 h6 h7 h10 hbf
 have hl2:(kB x).length=i:=by rw[d8];exact h5
 by_cases h9:qe=0
 ·subst h9
  by_cases h8:i < s2.1
  ·have h11:=h10 rfl
   simp(disch:=omega) [h8,bp,VZ]
   refine fg (cp b ⟨qa,0⟩ l.n 5 h6 hb) ?_
   have w21:=ey (n:=l.n) (c:=5) h6 (by omega)
   generalize h21:bU b ⟨qa,0⟩ l.n 5=s21 at w21⊢
   simp(disch:=omega) [bp,VZ]
   refine fg (aI b s21.2 (decide (bf < (s21.1:Int))) 6) ?_
   have e22:(!decide (bf < (s21.1:Int)))=decide ((s21.1:Int)≤bf):=by rw[←decide_not,decide_eq_decide];omega
   rw[e22]
   have w22:=dY (bad:=decide ((s21.1:Int)≤bf)) (c:=6) w21.1 (by omega)
   generalize h22:cj s21.2 (decide ((s21.1:Int)≤bf)) 6=s22 at w22⊢
   simp(disch:=omega) [bp,VZ]
   refine fg (cp b s22 (s1.1:Int) 6 w22 hb) ?_
   have w23:=ey (n:=(s1.1:Int)) (c:=6) w22 (by omega)
   generalize h23:bU b s22 (s1.1:Int) 6=s23 at w23⊢
   simp(disch:=omega) [bp,VZ]
   refine fg (cc b s23.2 w23.1 hb) ?_
   have w24:=ec w23.1 32
   generalize h24:db b s23.2 32=s24 at w24⊢
   simp(disch:=omega) [bp,VZ]
   obtain⟨g1,rfl⟩:∃g1,g0=g1+1:=⟨g0 - 1,by omega⟩
   rw[Gb rfl]at h7
   simp only[h21,h22,h23,h24]at h7
   simp(disch:=omega) [bp,hl2,Hv,VZ]
   refine hP (i+1,_,(s21.1:Int),x++ [⟨(s21.1:Int),(s23.1:Int),s24.1⟩],s24.2) g1 _ _ (by omega) ⟨⟨by simp only;omega,by simp[h5]⟩,fun _=>h11,w24.1,⟨by simp only;omega,by have:=w21.2;simp only;omega⟩,by rw[h7];simp⟩ (by simp(disch:=omega) [VZ];rfl) (by simp(disch:=omega) [bp,VZ])
  ·obtain rfl:g0=0:=by omega
   simp only[jG,List.append_nil]at h7
   simp(disch:=omega) [h8,HO,h1,h2,h7,Tc.o,bp,aJ,aO,aT,VZ]
 ·rw[IU (k:=g0) (r:=⟨qa,qe⟩) h9]at h7
  simp only[List.append_nil]at h7
  by_cases h8:i < s2.1
  ·simp(disch:=omega) [h8,h9,HO,h1,h2,h7,Tc.o,bp,aJ,aO,aT,VZ]
  ·simp(disch:=omega) [h8,h9,HO,h1,h2,h7,Tc.o,bp,aJ,aO,aT,VZ]
end Go.Eng.F
namespace Go.Eng.F
theorem Jj {r:Rd} {bad:Bool} {c:Nat} (h:(cj r bad c).er=0):r.er=0:=by
 apply Decidable.byContradiction
 intro g
 rw[gK g]at h
 exact g h
theorem K5 {b:Bytes} {r:Rd} (h:(cT b r).2.er=0):r.er=0:=by
 apply Decidable.byContradiction
 intro g
 simp[cT,g]at h
theorem JR {b:Bytes} {r:Rd} {n:Nat} (h:(eu b r n).2.er=0):r.er=0:=by
 apply Decidable.byContradiction
 intro g
 simp[eu,g]at h
theorem Iy {b:Bytes} {l:aj} {r:Rd} (h:(ou b l r).2.er=0):(ou b l r).1.2.2.1 < (ou b l r).1.2.1∧((ou b l r).1.2.1:Int)≤l.txs:=by
 simp only[ou,bU]at h⊢
 have h1:=JR h
 have h2:=jh h1 (by omega)
 have h4:=K5 (Jj h1)
 have h5:=jh h4 (by omega)
 simp only[decide_eq_false_iff_not]at h2 h5
 omega
def jw (b:Bytes) (l:aj) (r:Rd):bm×Rd:=
 let i:=ou b l r
 if i.2.er=0 then
  let p:=i0 (fun r=>db b r 32) (bk i.1.2.2.1 i.1.2.1) i.2
  (⟨i.1.1,i.1.2.1,i.1.2.2.1,i.1.2.2.2,p.1⟩,p.2)
 else(⟨i.1.1,i.1.2.1,i.1.2.2.1,i.1.2.2.2,[]⟩,i.2)
abbrev gj:Nat:=127
def lA:AF:=⟨2,6,[.cell 4 5 true],(.seq (.ops [.i (.lbox 2 (.s 0)), .i (.lal 4 [.int .i64 0, .int .i64 0, .int .i64 0, .nils, .nils])]) (.seq (.ops [qm 6 1,qk 8 165 6,qm 8 1,qk 10 165 8, .i (.bld 10 [.int .i64 0, .int .i64 0, .int .i64 0, .nils, .nils] [(0,1,(.s 7)),(1,1,(.s 9))]), .i (.lal 5 [.int .i64 0, .int .i64 0, .int .i64 0, .nils, .nils]),qs 5 5 10 5]) (.seq (.ops [qm 11 1,qf 12 5 1,ql 13 5 12 1 false, .i (.bin 14 .gtr (.s 13) (qi 0)), .i (.call 16 172 false [(.s 11),(.s 14),(qi 5)])]) (.seq (.ops [qm 16 1,qf 17 5 1,ql 18 5 17 1 false,qf 19 2 2,ql 20 2 19 1 false,qd 21 .leq 18 20, .i (.call 23 172 false [(.s 16),(.s 21),(qi 3)])]) (.seq (.ops [qm 23 1,qf 24 5 1,ql 25 5 24 1 false, .i (.call 27 167 false [(.s 23),(.s 25),(qi 5)]),qf 27 5 2,qs 5 27 26 1]) (.seq (.ops [qm 28 1,qf 29 2 1,ql 30 2 29 1 false, .i (.call 32 177 false [(.s 28),(.s 30)]),qf 32 5 3,qs 5 32 31 1]) (.seq (.seq (.ops [qm 33 1, .i (.nch 34 (.s 33)),qf 35 34 2, .i (.ldh 36 (.s 35) 1 false), .i (.bin 37 .eql (.s 36) (qi 0))]) (.cond (.s 37) (.seq (.ops [qf 38 5 2,ql 39 5 38 1 false,qf 40 5 1,ql 41 5 40 1 false, .i (.call 43 180 false [(.s 39),(.s 41)]), .i (.mov 43 (qi 0))]) (.block 0 (.loop [52,51,50,49,48,47,46,45,44] (.seq (.ops [qd 44 .lss 43 42]) (.seq (.cond (.s 44) .skip (.exit 0)) (.seq (.block 1 (.ops [qf 45 5 4,ql 46 5 45 1 false,qm 47 1,qk 49 166 47, .i (.lsl 49 1 1 [.nils] [(0,1,(.s 48))]), .i (.app 50 22 1 24 (.s 46) (.s 49)),qf 51 5 4,qs 5 51 50 1])) (.ops [.i (.bin 52 .add (.s 43) (qi 1)),qm 43 52]))))))) .skip)) (.seq (.ops [ql 53 5 5 5 true,qs 4 4 53 5]) .ret))))))))⟩
theorem xE:cd gj=some lA:=by kernel_rfl
theorem vq (b:Bytes) (l:aj) (r:Rd) (hL:l.rd) (hr:r.wf b) (hb:b.length≤1073741824):VC cd gj (ic [(true,l.c)] 215 (bp b r) []) (fun rs p=>rs= [(true,(jw b l r).1.o)]∧p= [.pt 215 (bp b (jw b l r).2)]):=by
 refine VC.oQ ?_
 obtain⟨hl,hx,ht,hh⟩:=hL
 have hi:=Iy (b:=b) (l:=l) (r:=r)
 refine aw xE rfl ?_
 simp(disch:=omega) [lA,bp,aj.c,VZ]
 refine fg (bC b r hr hb) ?_
 have w1:=cW hr
 generalize h1:cT b r=s1 at w1⊢
 simp(disch:=omega) [bp,VZ]
 refine fg (bC b s1.2 w1.1 hb) ?_
 have w2:=cW w1.1
 generalize h2:cT b s1.2=s2 at w2⊢
 simp(disch:=omega) [bp,VZ]
 refine fg (aI b s2.2 (decide (0 < s2.1)) 5) ?_
 have e3:(!decide (0 < s2.1))=decide (s2.1=0):=by rw[←decide_not,decide_eq_decide];omega
 rw[e3]
 have w3:=dY (bad:=decide (s2.1=0)) (c:=5) w2.1 (by omega)
 generalize h3:cj s2.2 (decide (s2.1=0)) 5=s3 at w3⊢
 simp(disch:=omega) [bp,VZ]
 refine fg (aI b s3 (decide ((s2.1:Int)≤l.txs)) 3) ?_
 have e4:(!decide ((s2.1:Int)≤l.txs))=decide (l.txs < (s2.1:Int)):=by rw[←decide_not,decide_eq_decide];omega
 rw[e4]
 have w4:=dY (bad:=decide (l.txs < (s2.1:Int))) (c:=3) w3 (by omega)
 generalize h4:cj s3 (decide (l.txs < (s2.1:Int))) 3=s4 at w4⊢
 simp(disch:=omega) [bp,VZ]
 refine fg (cp b s4 (s2.1:Int) 5 w4 hb) ?_
 have w5:=ey (n:=(s2.1:Int)) (c:=5) w4 (by omega)
 generalize h5:bU b s4 (s2.1:Int) 5=s5 at w5⊢
 simp(disch:=omega) [bp,VZ]
 refine fg (lF b s5.2 l.tx (by omega) w5.1 hb) ?_
 have w6:=tw w5.1 l.tx.toNat
 generalize h6:eu b s5.2 l.tx.toNat=s6 at w6⊢
 simp(disch:=omega) [bp,VZ]
 have hi0:ou b l r=((s1.1,s2.1,s5.1,s6.1),s6.2):=by simp only[ou,h1,h2,h3,h4,h5,h6]
 rw[hi0]at hi
 simp only at hi
 by_cases g:s6.2.er=0
 case neg=>simp(disch:=omega) [g,jw,hi0,bm.o,bp,aJ,aO,aT,ag,bz,VZ]
 have hi2:=hi g
 have hpl:=cA s2.1 s5.1
 simp(disch:=omega) [g,VZ]
 refine av (xm s2.1 s5.1 (by omega) (by omega)) ?_
 simp(disch:=omega) [VZ]
 refine cY (σ:=Nat×Nat×List Bytes×Rd) (f0:=_) (by simp(disch:=omega) [VZ];rfl) (cN.xU (s:=5) (k:=5) (i:=4) rfl rfl) (f1:=_) (es0:=_) (by simp(disch:=omega) [VZ];rfl) (by simp(disch:=omega) [VZ];rfl) (fun p=> [(43, .val false [.int .i64 (p.1:Int)]),(5, .box [.int .i64 s1.1, .int .i64 s2.1, .int .i64 s5.1, .ow 270336 32, .ow 5 p.2.1])]) (fun p=> [(4101, .pt 5 215 [.sl (bytes b), .int .i64 (p.2.2.2.at_:Int), .int .i64 (p.2.2.2.er:Int)]),(5, .sl p.2.1 true true (some (22,1)) (bz p.2.2.1))])
  (fun p g=>(g+p.1=(bk s5.1 s2.1)∧p.2.2.1.length=p.1)∧p.2.2.2.wf b∧i0 (fun r=>db b r 32) (bk s5.1 s2.1) s6.2=(p.2.2.1++(i0 (fun r=>db b r 32) g p.2.2.2).1,(i0 (fun r=>db b r 32) g p.2.2.2).2)) (0,_,[],s6.2) (bk s5.1 s2.1) (by simp(disch:=omega) [VZ];rfl) (by simp(disch:=omega) [bz,bp,g,VZ]) ⟨⟨by simp,rfl⟩,w6.1,by simp⟩ ?_
 rintro⟨i,v,x,q⟩ nx g0 ⟨⟨hg,h5⟩,h6,h7⟩ P hP
 simp only at hg h5 h6 h7
 have hl2:(bz x).length=i:=by rw[aB];exact h5
 simp(disch:=omega) [VZ]
 refine ab (fun h8=> ?_) (fun h8=> ?_)
 ·simp(disch:=omega) [bp,VZ]
  refine fg (cc b q h6 hb) ?_
  have w25:=ec h6 32
  obtain⟨g1,rfl⟩:∃g1,g0=g1+1:=⟨g0 - 1,by omega⟩
  simp only[i0]at h7
  generalize h9:db b q 32=s25 at w25 h7⊢
  simp(disch:=omega) [bp,hl2,Eo,VZ]
  refine hP (i+1,_,x++ [s25.1],s25.2) g1 _ _ (by omega) ⟨⟨by simp only;omega,by simp[h5]⟩,w25.1,by rw[h7];simp⟩ (by simp(disch:=omega) [VZ];rfl) (by simp(disch:=omega) [bp,VZ])
 ·obtain rfl:g0=0:=by omega
  simp only[i0,List.append_nil]at h7
  simp(disch:=omega) [jw,hi0,g,h7,bm.o,bp,aJ,aO,aT,VZ]
end Go.Eng.F
namespace Go.Eng.F
def bR (x:List E) (z:List E) (r:Rd):List (Bool×List E):=if r.er=0 then [(true,x),(false,[.p (.int .i64 (r.at_:Int))]),(false,[.p (.int .i64 0)])]else [(true,z),(false,[.p (.int .i64 0)]),(false,[.p (.int .i64 (r.er:Int))])]
def Pn:List E:= [.p (.int .i64 0), .p (.int .i64 0), .p .nils, .p .nils, .p .nils]
def Fj:List E:= [.p (.int .i64 0), .p (.int .i64 0), .p .nils, .p (.int .i64 0), .p .nils]
def FC:List E:= [.p (.int .i64 0), .p (.int .i64 0), .p (.int .i64 0), .p .nils, .p .nils, .p (.int .i64 0), .p (.int .i64 0), .p .nils, .p .nils, .p .nils]
def z7:List E:= [.p (.int .i64 0), .p (.int .i64 0), .p (.int .i64 0), .p .nils, .p .nils, .p (.int .i64 0), .p (.int .i64 0), .p .nils, .p .nils, .p .nils, .p .nils]
def Pc:List E:= [.p (.int .i64 0), .p .nils]
def zp:List E:= [.p .nils, .p (.int .i64 0), .p (.int .i64 0), .p .nils, .p .nils, .p .nils]
def Fc:List E:= [.p (.int .i64 0), .p (.int .i64 0), .p (.int .i64 0), .p .nils, .p .nils]
abbrev fi:Nat:=101
def fq:AF:=⟨4,6,[.cell 8 5 true, .tmp 9, .tmp 10],(.seq (.ops [.i (.lbox 4 (.s 0)), .i (.lal 8 [.int .i64 0, .int .i64 0, .nils, .int .i64 0, .nils]), .i (.mov 9 (qi 0)), .i (.mov 10 (qi 0))]) (.seq (.ops [.i (.lal 11 [.int .i64 0, .int .i64 0, .nils, .int .i64 0, .nils])]) (.seq (.seq (.ops [ql 14 4 4 5 true,qk 16 95 14, .i (.not 16 (.s 15))]) (.cond (.s 16) (.seq (.ops [ql 17 11 11 5 true,qs 8 8 17 5, .i (.mov 9 (qi 0)), .i (.mov 10 (qi 5))]) .ret) .skip)) (.seq (.ops [qm 18 1,qm 19 2, .i (.bld 20 [.nils, .int .i64 0, .int .i64 0] [(0,1,(.s 18)),(1,1,(.s 19))]), .i (.hbox 21 215 (.s 20)),qm 12 21]) (.seq (.ops [qm 22 3,ql 23 4 4 5 true,qm 24 12, .i (.clv 26 false (.s 22) [(.s 23),(.s 24)]), .i (.lal 13 [.int .i64 0, .int .i64 0, .nils, .int .i64 0, .nils]),qs 13 13 25 5]) (.seq (.seq (.ops [qm 26 12, .i (.nch 27 (.s 26)),qf 28 27 2, .i (.ldh 29 (.s 28) 1 false), .i (.bin 30 .neq (.s 29) (qi 0))]) (.cond (.s 30) (.seq (.ops [ql 31 11 11 5 true,qm 32 12, .i (.nch 33 (.s 32)),qf 34 33 2, .i (.ldh 35 (.s 34) 1 false),qs 8 8 31 5, .i (.mov 9 (qi 0)),qm 10 35]) .ret) .skip)) (.seq (.ops [ql 36 13 13 5 true,qm 37 12, .i (.nch 38 (.s 37)),qf 39 38 1, .i (.ldh 40 (.s 39) 1 false),qs 8 8 36 5,qm 9 40, .i (.mov 10 (qi 0))]) .ret)))))))⟩
theorem mB:cd fi=some fq:=by kernel_rfl
theorem ml (b:Bytes) (l:aj) (k:Nat) (hok:l.ok=true) (hk:k≤b.length) (hb:b.length≤1073741824):VC cd fi (aH [(true,l.c),(false,[.sl (bytes b)]),(false,[.int .i64 (k:Int)]),(false,[.fn f6])]) (fun rs _=>rs=bR (kQ b l ⟨k,0⟩).1.o Fj (kQ b l ⟨k,0⟩).2):=by
 have hr:Rd.wf b ⟨k,0⟩:=⟨hk,by simp⟩
 refine aa mB rfl ?_
 simp(disch:=omega) [fq,aj.c,VZ]
 refine av (aL l) ?_ (ha:=by first|rfl|(simp[aj.c,VY] <;>repeat' constructor))
 simp(disch:=omega) [hok,VZ]
 refine fg (vh b l ⟨k,0⟩ hr hb) ?_ (n1:=by simp(disch:=omega) [bu.o,VZ]) (n3:=by simp(disch:=omega) [bu.o,VZ])
 generalize h1:kQ b l ⟨k,0⟩=s1
 simp(disch:=omega) [bp,bu.o,VZ]
 by_cases g:s1.2.er=0
 ·simp(disch:=omega) [g,bR,bu.o,VZ]
 ·simp(disch:=omega) [g,bR,Fj,VZ]
abbrev nr:Nat:=25
def oJ:AF:=⟨3,5,[.cell 6 5 true, .tmp 7, .tmp 8],(.seq (.ops [.i (.lbox 3 (.s 0)), .i (.lal 6 [.int .i64 0, .int .i64 0, .nils, .int .i64 0, .nils]), .i (.mov 7 (qi 0)), .i (.mov 8 (qi 0))]) (.seq (.ops [ql 9 3 3 5 true,qm 10 1,qm 11 2, .i (.call 13 101 false [(.s 9),(.s 10),(.s 11),(.c (.val false [.fn 102]))]), .i (.ext 13 (.s 12) 0), .i (.ext 14 (.s 12) 1), .i (.ext 15 (.s 12) 2),qs 6 6 13 5,qm 7 14,qm 8 15]) .ret))⟩
theorem AD:cd nr=some oJ:=by kernel_rfl
theorem xA (b:Bytes) (l:aj) (k:Nat) (hok:l.ok=true) (hk:k≤b.length) (hb:b.length≤1073741824):VC cd nr (aH [(true,l.c),(false,[.sl (bytes b)]),(false,[.int .i64 (k:Int)])]) (fun rs _=>rs=bR (kQ b l ⟨k,0⟩).1.o Fj (kQ b l ⟨k,0⟩).2):=by
 refine aa AD rfl ?_
 simp(disch:=omega) [oJ,aj.c,VZ]
 have h0:=ml b l k hok hk hb
 generalize h1:kQ b l ⟨k,0⟩=s1 at h0⊢
 by_cases g:s1.2.er=0
 ·simp only[bR,if_pos g,bu.o]at h0⊢
  refine av (h0) ?_ (ha:=by first|rfl|(simp[aj.c,VY] <;>repeat' constructor))
  simp(disch:=omega) [VZ]
 ·simp only[bR,if_neg g,Fj]at h0⊢
  refine av (h0) ?_ (ha:=by first|rfl|(simp[aj.c,VY] <;>repeat' constructor))
  simp(disch:=omega) [VZ]
abbrev gx:Nat:=105
def gA:AF:=⟨4,6,[.cell 8 5 true, .tmp 9, .tmp 10],(.seq (.ops [.i (.lbox 4 (.s 0)), .i (.lal 8 [.int .i64 0, .int .i64 0, .nils, .nils, .nils]), .i (.mov 9 (qi 0)), .i (.mov 10 (qi 0))]) (.seq (.ops [.i (.lal 11 [.int .i64 0, .int .i64 0, .nils, .nils, .nils])]) (.seq (.seq (.ops [ql 14 4 4 5 true,qk 16 95 14, .i (.not 16 (.s 15))]) (.cond (.s 16) (.seq (.ops [ql 17 11 11 5 true,qs 8 8 17 5, .i (.mov 9 (qi 0)), .i (.mov 10 (qi 5))]) .ret) .skip)) (.seq (.ops [qm 18 1,qm 19 2, .i (.bld 20 [.nils, .int .i64 0, .int .i64 0] [(0,1,(.s 18)),(1,1,(.s 19))]), .i (.hbox 21 215 (.s 20)),qm 12 21]) (.seq (.ops [qm 22 3,ql 23 4 4 5 true,qm 24 12, .i (.clv 26 false (.s 22) [(.s 23),(.s 24)]), .i (.lal 13 [.int .i64 0, .int .i64 0, .nils, .nils, .nils]),qs 13 13 25 5]) (.seq (.seq (.ops [qm 26 12, .i (.nch 27 (.s 26)),qf 28 27 2, .i (.ldh 29 (.s 28) 1 false), .i (.bin 30 .neq (.s 29) (qi 0))]) (.cond (.s 30) (.seq (.ops [ql 31 11 11 5 true,qm 32 12, .i (.nch 33 (.s 32)),qf 34 33 2, .i (.ldh 35 (.s 34) 1 false),qs 8 8 31 5, .i (.mov 9 (qi 0)),qm 10 35]) .ret) .skip)) (.seq (.ops [ql 36 13 13 5 true,qm 37 12, .i (.nch 38 (.s 37)),qf 39 38 1, .i (.ldh 40 (.s 39) 1 false),qs 8 8 36 5,qm 9 40, .i (.mov 10 (qi 0))]) .ret)))))))⟩
theorem qP:cd gx=some gA:=by kernel_rfl
theorem qH (b:Bytes) (l:aj) (k:Nat) (hok:l.ok=true) (hk:k≤b.length) (hb:b.length≤1073741824):VC cd gx (aH [(true,l.c),(false,[.sl (bytes b)]),(false,[.int .i64 (k:Int)]),(false,[.fn iL])]) (fun rs _=>rs=bR (xV b l ⟨k,0⟩).1.o Pn (xV b l ⟨k,0⟩).2):=by
 have hr:Rd.wf b ⟨k,0⟩:=⟨hk,by simp⟩
 refine aa qP rfl ?_
 simp(disch:=omega) [gA,aj.c,VZ]
 refine av (aL l) ?_ (ha:=by first|rfl|(simp[aj.c,VY] <;>repeat' constructor))
 simp(disch:=omega) [hok,VZ]
 refine fg (dA b l ⟨k,0⟩ (na hok).1 hr hb) ?_ (n1:=by simp(disch:=omega) [Qc.o,VZ]) (n3:=by simp(disch:=omega) [Qc.o,VZ])
 generalize h1:xV b l ⟨k,0⟩=s1
 simp(disch:=omega) [bp,Qc.o,VZ]
 by_cases g:s1.2.er=0
 ·simp(disch:=omega) [g,bR,Qc.o,VZ]
 ·simp(disch:=omega) [g,bR,Pn,VZ]
abbrev t8:Nat:=28
def th:AF:=⟨3,5,[.cell 6 5 true, .tmp 7, .tmp 8],(.seq (.ops [.i (.lbox 3 (.s 0)), .i (.lal 6 [.int .i64 0, .int .i64 0, .nils, .nils, .nils]), .i (.mov 7 (qi 0)), .i (.mov 8 (qi 0))]) (.seq (.ops [ql 9 3 3 5 true,qm 10 1,qm 11 2, .i (.call 13 105 false [(.s 9),(.s 10),(.s 11),(.c (.val false [.fn 106]))]), .i (.ext 13 (.s 12) 0), .i (.ext 14 (.s 12) 1), .i (.ext 15 (.s 12) 2),qs 6 6 13 5,qm 7 14,qm 8 15]) .ret))⟩
theorem DR:cd t8=some th:=by kernel_rfl
theorem BL (b:Bytes) (l:aj) (k:Nat) (hok:l.ok=true) (hk:k≤b.length) (hb:b.length≤1073741824):VC cd t8 (aH [(true,l.c),(false,[.sl (bytes b)]),(false,[.int .i64 (k:Int)])]) (fun rs _=>rs=bR (xV b l ⟨k,0⟩).1.o Pn (xV b l ⟨k,0⟩).2):=by
 refine aa DR rfl ?_
 simp(disch:=omega) [th,aj.c,VZ]
 have h0:=qH b l k hok hk hb
 generalize h1:xV b l ⟨k,0⟩=s1 at h0⊢
 by_cases g:s1.2.er=0
 ·simp only[bR,if_pos g,Qc.o]at h0⊢
  refine av (h0) ?_ (ha:=by first|rfl|(simp[aj.c,VY] <;>repeat' constructor))
  simp(disch:=omega) [VZ]
 ·simp only[bR,if_neg g,Pn]at h0⊢
  refine av (h0) ?_ (ha:=by first|rfl|(simp[aj.c,VY] <;>repeat' constructor))
  simp(disch:=omega) [VZ]
abbrev fm:Nat:=110
def fh:AF:=⟨4,6,[.cell 8 10 true, .tmp 9, .tmp 10],(.seq (.ops [.i (.lbox 4 (.s 0)), .i (.lal 8 qz), .i (.mov 9 (qi 0)), .i (.mov 10 (qi 0))]) (.seq (.ops [.i (.lal 11 qz)]) (.seq (.seq (.ops [ql 14 4 4 5 true,qk 16 95 14, .i (.not 16 (.s 15))]) (.cond (.s 16) (.seq (.ops [ql 17 11 11 10 true,qs 8 8 17 10, .i (.mov 9 (qi 0)), .i (.mov 10 (qi 5))]) .ret) .skip)) (.seq (.ops [qm 18 1,qm 19 2, .i (.bld 20 [.nils, .int .i64 0, .int .i64 0] [(0,1,(.s 18)),(1,1,(.s 19))]), .i (.hbox 21 215 (.s 20)),qm 12 21]) (.seq (.ops [qm 22 3,ql 23 4 4 5 true,qm 24 12, .i (.clv 26 false (.s 22) [(.s 23),(.s 24)]), .i (.lal 13 qz),qs 13 13 25 10]) (.seq (.seq (.ops [qm 26 12, .i (.nch 27 (.s 26)),qf 28 27 2, .i (.ldh 29 (.s 28) 1 false), .i (.bin 30 .neq (.s 29) (qi 0))]) (.cond (.s 30) (.seq (.ops [ql 31 11 11 10 true,qm 32 12, .i (.nch 33 (.s 32)),qf 34 33 2, .i (.ldh 35 (.s 34) 1 false),qs 8 8 31 10, .i (.mov 9 (qi 0)),qm 10 35]) .ret) .skip)) (.seq (.ops [ql 36 13 13 10 true,qm 37 12, .i (.nch 38 (.s 37)),qf 39 38 1, .i (.ldh 40 (.s 39) 1 false),qs 8 8 36 10,qm 9 40, .i (.mov 10 (qi 0))]) .ret)))))))⟩
theorem mw:cd fm=some fh:=by kernel_rfl
theorem my (b:Bytes) (l:aj) (k:Nat) (hok:l.ok=true) (hk:k≤b.length) (hb:b.length≤1073741824):VC cd fm (aH [(true,l.c),(false,[.sl (bytes b)]),(false,[.int .i64 (k:Int)]),(false,[.fn gk])]) (fun rs _=>rs=bR (dD b l ⟨k,0⟩).1.o FC (dD b l ⟨k,0⟩).2):=by
 have hr:Rd.wf b ⟨k,0⟩:=⟨hk,by simp⟩
 refine aa mw rfl ?_
 simp(disch:=omega) [fh,aj.c,VZ]
 refine av (aL l) ?_ (ha:=by first|rfl|(simp[aj.c,VY] <;>repeat' constructor))
 simp(disch:=omega) [hok,VZ]
 refine fg (fy b l ⟨k,0⟩ (na hok).1 hr hb) ?_ (n1:=by simp(disch:=omega) [Head.o,VZ]) (n3:=by simp(disch:=omega) [Head.o,VZ])
 generalize h1:dD b l ⟨k,0⟩=s1
 simp(disch:=omega) [bp,Head.o,VZ]
 by_cases g:s1.2.er=0
 ·simp(disch:=omega) [g,bR,Head.o,VZ]
 ·simp(disch:=omega) [g,bR,FC,VZ]
abbrev mZ:Nat:=31
def nR:AF:=⟨3,5,[.cell 6 10 true, .tmp 7, .tmp 8],(.seq (.ops [.i (.lbox 3 (.s 0)), .i (.lal 6 qz), .i (.mov 7 (qi 0)), .i (.mov 8 (qi 0))]) (.seq (.ops [ql 9 3 3 5 true,qm 10 1,qm 11 2, .i (.call 13 110 false [(.s 9),(.s 10),(.s 11),(.c (.val false [.fn 111]))]), .i (.ext 13 (.s 12) 0), .i (.ext 14 (.s 12) 1), .i (.ext 15 (.s 12) 2),qs 6 6 13 10,qm 7 14,qm 8 15]) .ret))⟩
theorem zo:cd mZ=some nR:=by kernel_rfl
theorem ya (b:Bytes) (l:aj) (k:Nat) (hok:l.ok=true) (hk:k≤b.length) (hb:b.length≤1073741824):VC cd mZ (aH [(true,l.c),(false,[.sl (bytes b)]),(false,[.int .i64 (k:Int)])]) (fun rs _=>rs=bR (dD b l ⟨k,0⟩).1.o FC (dD b l ⟨k,0⟩).2):=by
 refine aa zo rfl ?_
 simp(disch:=omega) [nR,aj.c,VZ]
 have h0:=my b l k hok hk hb
 generalize h1:dD b l ⟨k,0⟩=s1 at h0⊢
 by_cases g:s1.2.er=0
 ·simp only[bR,if_pos g,Head.o]at h0⊢
  refine av (h0) ?_ (ha:=by first|rfl|(simp[aj.c,VY] <;>repeat' constructor))
  simp(disch:=omega) [VZ]
 ·simp only[bR,if_neg g,FC]at h0⊢
  refine av (h0) ?_ (ha:=by first|rfl|(simp[aj.c,VY] <;>repeat' constructor))
  simp(disch:=omega) [VZ]
abbrev eS:Nat:=115
def eG:AF:=⟨4,6,[.cell 8 11 true, .tmp 9, .tmp 10],(.seq (.ops [.i (.lbox 4 (.s 0)), .i (.lal 8 [.int .i64 0, .int .i64 0, .int .i64 0, .nils, .nils, .int .i64 0, .int .i64 0, .nils, .nils, .nils, .nils]), .i (.mov 9 (qi 0)), .i (.mov 10 (qi 0))]) (.seq (.ops [.i (.lal 11 [.int .i64 0, .int .i64 0, .int .i64 0, .nils, .nils, .int .i64 0, .int .i64 0, .nils, .nils, .nils, .nils])]) (.seq (.seq (.ops [ql 14 4 4 5 true,qk 16 95 14, .i (.not 16 (.s 15))]) (.cond (.s 16) (.seq (.ops [ql 17 11 11 11 true,qs 8 8 17 11, .i (.mov 9 (qi 0)), .i (.mov 10 (qi 5))]) .ret) .skip)) (.seq (.ops [qm 18 1,qm 19 2, .i (.bld 20 [.nils, .int .i64 0, .int .i64 0] [(0,1,(.s 18)),(1,1,(.s 19))]), .i (.hbox 21 215 (.s 20)),qm 12 21]) (.seq (.ops [qm 22 3,ql 23 4 4 5 true,qm 24 12, .i (.clv 26 false (.s 22) [(.s 23),(.s 24)]), .i (.lal 13 [.int .i64 0, .int .i64 0, .int .i64 0, .nils, .nils, .int .i64 0, .int .i64 0, .nils, .nils, .nils, .nils]),qs 13 13 25 11]) (.seq (.seq (.ops [qm 26 12, .i (.nch 27 (.s 26)),qf 28 27 2, .i (.ldh 29 (.s 28) 1 false), .i (.bin 30 .neq (.s 29) (qi 0))]) (.cond (.s 30) (.seq (.ops [ql 31 11 11 11 true,qm 32 12, .i (.nch 33 (.s 32)),qf 34 33 2, .i (.ldh 35 (.s 34) 1 false),qs 8 8 31 11, .i (.mov 9 (qi 0)),qm 10 35]) .ret) .skip)) (.seq (.ops [ql 36 13 13 11 true,qm 37 12, .i (.nch 38 (.s 37)),qf 39 38 1, .i (.ldh 40 (.s 39) 1 false),qs 8 8 36 11,qm 9 40, .i (.mov 10 (qi 0))]) .ret)))))))⟩
theorem kz:cd eS=some eG:=by kernel_rfl
theorem kC (b:Bytes) (l:aj) (k:Nat) (hok:l.ok=true) (hk:k≤b.length) (hb:b.length≤1073741824):VC cd eS (aH [(true,l.c),(false,[.sl (bytes b)]),(false,[.int .i64 (k:Int)]),(false,[.fn fB])]) (fun rs _=>rs=bR (fb b l ⟨k,0⟩).1.o z7 (fb b l ⟨k,0⟩).2):=by
 have hr:Rd.wf b ⟨k,0⟩:=⟨hk,by simp⟩
 refine aa kz rfl ?_
 simp(disch:=omega) [eG,aj.c,VZ]
 refine av (aL l) ?_ (ha:=by first|rfl|(simp[aj.c,VY] <;>repeat' constructor))
 simp(disch:=omega) [hok,VZ]
 refine fg (tu b l ⟨k,0⟩ (na hok) hr hb) ?_ (n1:=by simp(disch:=omega) [Block.o,VZ]) (n3:=by simp(disch:=omega) [Block.o,VZ])
 generalize h1:fb b l ⟨k,0⟩=s1
 simp(disch:=omega) [bp,Block.o,VZ]
 by_cases g:s1.2.er=0
 ·simp(disch:=omega) [g,bR,Block.o,VZ]
 ·simp(disch:=omega) [g,bR,z7,VZ]
abbrev l7:Nat:=35
def ld:AF:=⟨3,5,[.cell 6 11 true, .tmp 7, .tmp 8],(.seq (.ops [.i (.lbox 3 (.s 0)), .i (.lal 6 [.int .i64 0, .int .i64 0, .int .i64 0, .nils, .nils, .int .i64 0, .int .i64 0, .nils, .nils, .nils, .nils]), .i (.mov 7 (qi 0)), .i (.mov 8 (qi 0))]) (.seq (.ops [ql 9 3 3 5 true,qm 10 1,qm 11 2, .i (.call 13 115 false [(.s 9),(.s 10),(.s 11),(.c (.val false [.fn 116]))]), .i (.ext 13 (.s 12) 0), .i (.ext 14 (.s 12) 1), .i (.ext 15 (.s 12) 2),qs 6 6 13 11,qm 7 14,qm 8 15]) .ret))⟩
theorem xO:cd l7=some ld:=by kernel_rfl
theorem vK (b:Bytes) (l:aj) (k:Nat) (hok:l.ok=true) (hk:k≤b.length) (hb:b.length≤1073741824):VC cd l7 (aH [(true,l.c),(false,[.sl (bytes b)]),(false,[.int .i64 (k:Int)])]) (fun rs _=>rs=bR (fb b l ⟨k,0⟩).1.o z7 (fb b l ⟨k,0⟩).2):=by
 refine aa xO rfl ?_
 simp(disch:=omega) [ld,aj.c,VZ]
 have h0:=kC b l k hok hk hb
 generalize h1:fb b l ⟨k,0⟩=s1 at h0⊢
 by_cases g:s1.2.er=0
 ·simp only[bR,if_pos g,Block.o]at h0⊢
  refine av (h0) ?_ (ha:=by first|rfl|(simp[aj.c,VY] <;>repeat' constructor))
  simp(disch:=omega) [VZ]
 ·simp only[bR,if_neg g,z7]at h0⊢
  refine av (h0) ?_ (ha:=by first|rfl|(simp[aj.c,VY] <;>repeat' constructor))
  simp(disch:=omega) [VZ]
abbrev gq:Nat:=118
def gr:AF:=⟨4,6,[.cell 8 2 true, .tmp 9, .tmp 10],(.seq (.ops [.i (.lbox 4 (.s 0)), .i (.lal 8 [.int .i64 0, .nils]), .i (.mov 9 (qi 0)), .i (.mov 10 (qi 0))]) (.seq (.ops [.i (.lal 11 [.int .i64 0, .nils])]) (.seq (.seq (.ops [ql 14 4 4 5 true,qk 16 95 14, .i (.not 16 (.s 15))]) (.cond (.s 16) (.seq (.ops [ql 17 11 11 2 true,qs 8 8 17 2, .i (.mov 9 (qi 0)), .i (.mov 10 (qi 5))]) .ret) .skip)) (.seq (.ops [qm 18 1,qm 19 2, .i (.bld 20 [.nils, .int .i64 0, .int .i64 0] [(0,1,(.s 18)),(1,1,(.s 19))]), .i (.hbox 21 215 (.s 20)),qm 12 21]) (.seq (.ops [qm 22 3,ql 23 4 4 5 true,qm 24 12, .i (.clv 26 false (.s 22) [(.s 23),(.s 24)]), .i (.lal 13 [.int .i64 0, .nils]),qs 13 13 25 2]) (.seq (.seq (.ops [qm 26 12, .i (.nch 27 (.s 26)),qf 28 27 2, .i (.ldh 29 (.s 28) 1 false), .i (.bin 30 .neq (.s 29) (qi 0))]) (.cond (.s 30) (.seq (.ops [ql 31 11 11 2 true,qm 32 12, .i (.nch 33 (.s 32)),qf 34 33 2, .i (.ldh 35 (.s 34) 1 false),qs 8 8 31 2, .i (.mov 9 (qi 0)),qm 10 35]) .ret) .skip)) (.seq (.ops [ql 36 13 13 2 true,qm 37 12, .i (.nch 38 (.s 37)),qf 39 38 1, .i (.ldh 40 (.s 39) 1 false),qs 8 8 36 2,qm 9 40, .i (.mov 10 (qi 0))]) .ret)))))))⟩
theorem qN:cd gq=some gr:=by kernel_rfl
theorem qI (b:Bytes) (l:aj) (k:Nat) (hok:l.ok=true) (hk:k≤b.length) (hb:b.length≤1073741824):VC cd gq (aH [(true,l.c),(false,[.sl (bytes b)]),(false,[.int .i64 (k:Int)]),(false,[.fn iM])]) (fun rs _=>rs=bR (HO b l ⟨k,0⟩).1.o Pc (HO b l ⟨k,0⟩).2):=by
 have hr:Rd.wf b ⟨k,0⟩:=⟨hk,by simp⟩
 refine aa qN rfl ?_
 simp(disch:=omega) [gr,aj.c,VZ]
 refine av (aL l) ?_ (ha:=by first|rfl|(simp[aj.c,VY] <;>repeat' constructor))
 simp(disch:=omega) [hok,VZ]
 refine fg (zV b l ⟨k,0⟩ (na hok) hr hb) ?_ (n1:=by simp(disch:=omega) [Tc.o,VZ]) (n3:=by simp(disch:=omega) [Tc.o,VZ])
 generalize h1:HO b l ⟨k,0⟩=s1
 simp(disch:=omega) [bp,Tc.o,VZ]
 by_cases g:s1.2.er=0
 ·simp(disch:=omega) [g,bR,Tc.o,VZ]
 ·simp(disch:=omega) [g,bR,Pc,VZ]
abbrev uu:Nat:=38
def tI:AF:=⟨3,5,[.cell 6 2 true, .tmp 7, .tmp 8],(.seq (.ops [.i (.lbox 3 (.s 0)), .i (.lal 6 [.int .i64 0, .nils]), .i (.mov 7 (qi 0)), .i (.mov 8 (qi 0))]) (.seq (.ops [ql 9 3 3 5 true,qm 10 1,qm 11 2, .i (.call 13 118 false [(.s 9),(.s 10),(.s 11),(.c (.val false [.fn 119]))]), .i (.ext 13 (.s 12) 0), .i (.ext 14 (.s 12) 1), .i (.ext 15 (.s 12) 2),qs 6 6 13 2,qm 7 14,qm 8 15]) .ret))⟩
theorem Ej:cd uu=some tI:=by kernel_rfl
theorem Bl (b:Bytes) (l:aj) (k:Nat) (hok:l.ok=true) (hk:k≤b.length) (hb:b.length≤1073741824):VC cd uu (aH [(true,l.c),(false,[.sl (bytes b)]),(false,[.int .i64 (k:Int)])]) (fun rs _=>rs=bR (HO b l ⟨k,0⟩).1.o Pc (HO b l ⟨k,0⟩).2):=by
 refine aa Ej rfl ?_
 simp(disch:=omega) [tI,aj.c,VZ]
 have h0:=qI b l k hok hk hb
 generalize h1:HO b l ⟨k,0⟩=s1 at h0⊢
 by_cases g:s1.2.er=0
 ·simp only[bR,if_pos g,Tc.o]at h0⊢
  refine av (h0) ?_ (ha:=by first|rfl|(simp[aj.c,VY] <;>repeat' constructor))
  simp(disch:=omega) [VZ]
 ·simp only[bR,if_neg g,Pc]at h0⊢
  refine av (h0) ?_ (ha:=by first|rfl|(simp[aj.c,VY] <;>repeat' constructor))
  simp(disch:=omega) [VZ]
abbrev eF:Nat:=122
def eH:AF:=⟨4,6,[.cell 8 6 true, .tmp 9, .tmp 10],(.seq (.ops [.i (.lbox 4 (.s 0)), .i (.lal 8 [.nils, .int .i64 0, .int .i64 0, .nils, .nils, .nils]), .i (.mov 9 (qi 0)), .i (.mov 10 (qi 0))]) (.seq (.ops [.i (.lal 11 [.nils, .int .i64 0, .int .i64 0, .nils, .nils, .nils])]) (.seq (.seq (.ops [ql 14 4 4 5 true,qk 16 95 14, .i (.not 16 (.s 15))]) (.cond (.s 16) (.seq (.ops [ql 17 11 11 6 true,qs 8 8 17 6, .i (.mov 9 (qi 0)), .i (.mov 10 (qi 5))]) .ret) .skip)) (.seq (.ops [qm 18 1,qm 19 2, .i (.bld 20 [.nils, .int .i64 0, .int .i64 0] [(0,1,(.s 18)),(1,1,(.s 19))]), .i (.hbox 21 215 (.s 20)),qm 12 21]) (.seq (.ops [qm 22 3,ql 23 4 4 5 true,qm 24 12, .i (.clv 26 false (.s 22) [(.s 23),(.s 24)]), .i (.lal 13 [.nils, .int .i64 0, .int .i64 0, .nils, .nils, .nils]),qs 13 13 25 6]) (.seq (.seq (.ops [qm 26 12, .i (.nch 27 (.s 26)),qf 28 27 2, .i (.ldh 29 (.s 28) 1 false), .i (.bin 30 .neq (.s 29) (qi 0))]) (.cond (.s 30) (.seq (.ops [ql 31 11 11 6 true,qm 32 12, .i (.nch 33 (.s 32)),qf 34 33 2, .i (.ldh 35 (.s 34) 1 false),qs 8 8 31 6, .i (.mov 9 (qi 0)),qm 10 35]) .ret) .skip)) (.seq (.ops [ql 36 13 13 6 true,qm 37 12, .i (.nch 38 (.s 37)),qf 39 38 1, .i (.ldh 40 (.s 39) 1 false),qs 8 8 36 6,qm 9 40, .i (.mov 10 (qi 0))]) .ret)))))))⟩
theorem kj:cd eF=some eH:=by kernel_rfl
theorem kh (b:Bytes) (l:aj) (k:Nat) (hok:l.ok=true) (hk:k≤b.length) (hb:b.length≤1073741824):VC cd eF (aH [(true,l.c),(false,[.sl (bytes b)]),(false,[.int .i64 (k:Int)]),(false,[.fn fC])]) (fun rs _=>rs=bR (el b l ⟨k,0⟩).1.o zp (el b l ⟨k,0⟩).2):=by
 have hr:Rd.wf b ⟨k,0⟩:=⟨hk,by simp⟩
 refine aa kj rfl ?_
 simp(disch:=omega) [eH,aj.c,VZ]
 refine av (aL l) ?_ (ha:=by first|rfl|(simp[aj.c,VY] <;>repeat' constructor))
 simp(disch:=omega) [hok,VZ]
 refine fg (t7 b l ⟨k,0⟩ (na hok) hr hb) ?_ (n1:=by simp(disch:=omega) [Proof.o,VZ]) (n3:=by simp(disch:=omega) [Proof.o,VZ])
 generalize h1:el b l ⟨k,0⟩=s1
 simp(disch:=omega) [bp,Proof.o,VZ]
 by_cases g:s1.2.er=0
 ·simp(disch:=omega) [g,bR,Proof.o,VZ]
 ·simp(disch:=omega) [g,bR,zp,VZ]
abbrev mb:Nat:=41
def kS:AF:=⟨3,5,[.cell 6 6 true, .tmp 7, .tmp 8],(.seq (.ops [.i (.lbox 3 (.s 0)), .i (.lal 6 [.nils, .int .i64 0, .int .i64 0, .nils, .nils, .nils]), .i (.mov 7 (qi 0)), .i (.mov 8 (qi 0))]) (.seq (.ops [ql 9 3 3 5 true,qm 10 1,qm 11 2, .i (.call 13 122 false [(.s 9),(.s 10),(.s 11),(.c (.val false [.fn 123]))]), .i (.ext 13 (.s 12) 0), .i (.ext 14 (.s 12) 1), .i (.ext 15 (.s 12) 2),qs 6 6 13 6,qm 7 14,qm 8 15]) .ret))⟩
theorem xC:cd mb=some kS:=by kernel_rfl
theorem vj (b:Bytes) (l:aj) (k:Nat) (hok:l.ok=true) (hk:k≤b.length) (hb:b.length≤1073741824):VC cd mb (aH [(true,l.c),(false,[.sl (bytes b)]),(false,[.int .i64 (k:Int)])]) (fun rs _=>rs=bR (el b l ⟨k,0⟩).1.o zp (el b l ⟨k,0⟩).2):=by
 refine aa xC rfl ?_
 simp(disch:=omega) [kS,aj.c,VZ]
 have h0:=kh b l k hok hk hb
 generalize h1:el b l ⟨k,0⟩=s1 at h0⊢
 by_cases g:s1.2.er=0
 ·simp only[bR,if_pos g,Proof.o]at h0⊢
  refine av (h0) ?_ (ha:=by first|rfl|(simp[aj.c,VY] <;>repeat' constructor))
  simp(disch:=omega) [VZ]
 ·simp only[bR,if_neg g,zp]at h0⊢
  refine av (h0) ?_ (ha:=by first|rfl|(simp[aj.c,VY] <;>repeat' constructor))
  simp(disch:=omega) [VZ]
abbrev fk:Nat:=126
def fu:AF:=⟨4,6,[.cell 8 5 true, .tmp 9, .tmp 10],(.seq (.ops [.i (.lbox 4 (.s 0)), .i (.lal 8 [.int .i64 0, .int .i64 0, .int .i64 0, .nils, .nils]), .i (.mov 9 (qi 0)), .i (.mov 10 (qi 0))]) (.seq (.ops [.i (.lal 11 [.int .i64 0, .int .i64 0, .int .i64 0, .nils, .nils])]) (.seq (.seq (.ops [ql 14 4 4 5 true,qk 16 95 14, .i (.not 16 (.s 15))]) (.cond (.s 16) (.seq (.ops [ql 17 11 11 5 true,qs 8 8 17 5, .i (.mov 9 (qi 0)), .i (.mov 10 (qi 5))]) .ret) .skip)) (.seq (.ops [qm 18 1,qm 19 2, .i (.bld 20 [.nils, .int .i64 0, .int .i64 0] [(0,1,(.s 18)),(1,1,(.s 19))]), .i (.hbox 21 215 (.s 20)),qm 12 21]) (.seq (.ops [qm 22 3,ql 23 4 4 5 true,qm 24 12, .i (.clv 26 false (.s 22) [(.s 23),(.s 24)]), .i (.lal 13 [.int .i64 0, .int .i64 0, .int .i64 0, .nils, .nils]),qs 13 13 25 5]) (.seq (.seq (.ops [qm 26 12, .i (.nch 27 (.s 26)),qf 28 27 2, .i (.ldh 29 (.s 28) 1 false), .i (.bin 30 .neq (.s 29) (qi 0))]) (.cond (.s 30) (.seq (.ops [ql 31 11 11 5 true,qm 32 12, .i (.nch 33 (.s 32)),qf 34 33 2, .i (.ldh 35 (.s 34) 1 false),qs 8 8 31 5, .i (.mov 9 (qi 0)),qm 10 35]) .ret) .skip)) (.seq (.ops [ql 36 13 13 5 true,qm 37 12, .i (.nch 38 (.s 37)),qf 39 38 1, .i (.ldh 40 (.s 39) 1 false),qs 8 8 36 5,qm 9 40, .i (.mov 10 (qi 0))]) .ret)))))))⟩
theorem mn:cd fk=some fu:=by kernel_rfl
theorem mA (b:Bytes) (l:aj) (k:Nat) (hok:l.ok=true) (hk:k≤b.length) (hb:b.length≤1073741824):VC cd fk (aH [(true,l.c),(false,[.sl (bytes b)]),(false,[.int .i64 (k:Int)]),(false,[.fn gj])]) (fun rs _=>rs=bR (jw b l ⟨k,0⟩).1.o Fc (jw b l ⟨k,0⟩).2):=by
 have hr:Rd.wf b ⟨k,0⟩:=⟨hk,by simp⟩
 refine aa mn rfl ?_
 simp(disch:=omega) [fu,aj.c,VZ]
 refine av (aL l) ?_ (ha:=by first|rfl|(simp[aj.c,VY] <;>repeat' constructor))
 simp(disch:=omega) [hok,VZ]
 refine fg (vq b l ⟨k,0⟩ (na hok) hr hb) ?_ (n1:=by simp(disch:=omega) [bm.o,VZ]) (n3:=by simp(disch:=omega) [bm.o,VZ])
 generalize h1:jw b l ⟨k,0⟩=s1
 simp(disch:=omega) [bp,bm.o,VZ]
 by_cases g:s1.2.er=0
 ·simp(disch:=omega) [g,bR,bm.o,VZ]
 ·simp(disch:=omega) [g,bR,Fc,VZ]
abbrev oG:Nat:=44
def oK:AF:=⟨3,5,[.cell 6 5 true, .tmp 7, .tmp 8],(.seq (.ops [.i (.lbox 3 (.s 0)), .i (.lal 6 [.int .i64 0, .int .i64 0, .int .i64 0, .nils, .nils]), .i (.mov 7 (qi 0)), .i (.mov 8 (qi 0))]) (.seq (.ops [ql 9 3 3 5 true,qm 10 1,qm 11 2, .i (.call 13 126 false [(.s 9),(.s 10),(.s 11),(.c (.val false [.fn 127]))]), .i (.ext 13 (.s 12) 0), .i (.ext 14 (.s 12) 1), .i (.ext 15 (.s 12) 2),qs 6 6 13 5,qm 7 14,qm 8 15]) .ret))⟩
theorem AV:cd oG=some oK:=by kernel_rfl
theorem xw (b:Bytes) (l:aj) (k:Nat) (hok:l.ok=true) (hk:k≤b.length) (hb:b.length≤1073741824):VC cd oG (aH [(true,l.c),(false,[.sl (bytes b)]),(false,[.int .i64 (k:Int)])]) (fun rs _=>rs=bR (jw b l ⟨k,0⟩).1.o Fc (jw b l ⟨k,0⟩).2):=by
 refine aa AV rfl ?_
 simp(disch:=omega) [oK,aj.c,VZ]
 have h0:=mA b l k hok hk hb
 generalize h1:jw b l ⟨k,0⟩=s1 at h0⊢
 by_cases g:s1.2.er=0
 ·simp only[bR,if_pos g,bm.o]at h0⊢
  refine av (h0) ?_ (ha:=by first|rfl|(simp[aj.c,VY] <;>repeat' constructor))
  simp(disch:=omega) [VZ]
 ·simp only[bR,if_neg g,Fc]at h0⊢
  refine av (h0) ?_ (ha:=by first|rfl|(simp[aj.c,VY] <;>repeat' constructor))
  simp(disch:=omega) [VZ]
end Go.Eng.F
namespace Go.Eng.F
def strs (l:List ByteArray):List (List D):=l.map fun s=> [.str s]
theorem Ki (l:List ByteArray):(strs l).length=l.length:=by simp[strs]
theorem J9 {l:List ByteArray} {i:Nat} (h:i < l.length):(strs l)[i]? =some [.str l[i]]:=by simp[strs,h]
abbrev sg:Nat:=132
def qY:AF:=⟨2,4,[.tmp 4],(.seq (.ops [.i (.mov 4 (.c (.val false [.str ByteArray.empty])))]) (.seq (.seq (.ops [qm 5 0,qm 6 1,qn 7 6, .i (.bin 8 .sub (.s 7) (qi 1)), .i (.call 10 158 false [(.s 5),(qi 0),(.s 8)]), .i (.not 10 (.s 9))]) (.cond (.s 10) (.seq (.ops [.i (.mov 4 (.c (.val false [.str ByteArray.empty])))]) .ret) .skip)) (.seq (.ops [qm 11 1,qm 12 0, .i (.iad 13 (.s 11) (.s 12) 1), .i (.ldh 14 (.s 13) 1 false),qm 4 14]) .ret)))⟩
theorem BK:cd sg=some qY:=by kernel_rfl
theorem Ih (l:List ByteArray) (k:Nat) (hl:l.length≤1000):VC cd sg (aH [(false,[.int .i64 (k:Int)]),(false,[.sl (strs l)])]) (fun rs _=>rs= [(false,[.p (.str ((l[k]?).getD ByteArray.empty))])]):=by
 refine aa BK rfl ?_
 simp(disch:=omega) [qY,Ki,VY]
 refine av (bg (k:Int) 0 ((l.length:Int) - 1)) ?_
 simp(disch:=omega) [cw,VY]
 by_cases h:k < l.length
 ·have h1:(k:Int)≤(l.length:Int) - 1:=by omega
  simp(disch:=omega) [h1,J9 h,h,VY]
 ·have h1:¬(k:Int)≤(l.length:Int) - 1:=by omega
  simp(disch:=omega) [h1,h,VY]
def kinds:List ByteArray:= [ByteArray.empty,⟨#[118,111,116,101]⟩,⟨#[113,99]⟩,⟨#[104,101,97,100]⟩,⟨#[98,108,111,99,107]⟩,⟨#[116,99]⟩,⟨#[112,114,111,111,102]⟩,⟨#[105,110,99,108]⟩]
def kindName (k:Nat):ByteArray:=(kinds[k]?).getD ByteArray.empty
abbrev l8:Nat:=55
def l5:AF:=⟨1,3,[.tmp 2],(.seq (.ops [.i (.mov 2 (.c (.val false [.str ByteArray.empty])))]) (.seq (.ops [qm 3 0, .i (.bsl 4 9 1 8 [.str ByteArray.empty] [(0,1,(.c (.val false [.str ByteArray.empty]))),(1,1,(.c (.val false [.str ⟨#[118,111,116,101]⟩]))),(2,1,(.c (.val false [.str ⟨#[113,99]⟩]))),(3,1,(.c (.val false [.str ⟨#[104,101,97,100]⟩]))),(4,1,(.c (.val false [.str ⟨#[98,108,111,99,107]⟩]))),(5,1,(.c (.val false [.str ⟨#[116,99]⟩]))),(6,1,(.c (.val false [.str ⟨#[112,114,111,111,102]⟩]))),(7,1,(.c (.val false [.str ⟨#[105,110,99,108]⟩])))]), .i (.call 6 132 false [(.s 3),(.s 4)]),qm 2 5]) .ret))⟩
theorem xk:cd l8=some l5:=by kernel_rfl
theorem Fm (k:Nat):VC cd l8 (aH [(false,[.int .i64 (k:Int)])]) (fun rs _=>rs= [(false,[.p (.str (kindName k))])]):=by
 refine aa xk rfl ?_
 simp(disch:=omega) [l5,VY]
 refine av (Ih kinds k (by simp[kinds])) ?_
 simp(disch:=omega) [kindName,VY]
theorem o9 (k:Nat):kindName k=ByteArray.empty↔k=0∨8≤k:=by
 by_cases h:8≤k
 ·have:kindName k=ByteArray.empty:=by
   unfold kindName
   rw[List.getElem?_eq_none (by simp[kinds];omega)]
   rfl
  exact⟨fun _=> .inr h,fun _=>this⟩
 ·have ne:∀s:ByteArray,s.size≠0→s≠ByteArray.empty:=fun s h1 h2=>h1 (by rw[h2];rfl)
  have hk:k=0∨k=1∨k=2∨k=3∨k=4∨k=5∨k=6∨k=7:=by omega
  rcases hk with rfl|rfl|rfl|rfl|rfl|rfl|rfl|rfl
  ·exact⟨fun _=> .inl rfl,fun _=>rfl⟩
  all_goals exact⟨fun e=>absurd e (ne _ (by decide)),fun e=>by omega⟩
end Go.Eng.F
namespace Go.Eng.F
def bh.o (m:bh):List E:= [.p (.int .i64 m.kind), .p (.int .i64 m.vote.view), .p (.int .i64 m.vote.height), .o true (some (5,1)) (bytes m.vote.block), .p (.int .i64 m.vote.who), .o true (some (5,1)) (bytes m.vote.tag), .p (.int .i64 m.qc.view), .p (.int .i64 m.qc.height), .o true (some (5,1)) (bytes m.qc.block), .o true (some (5,1)) (bytes m.qc.bits), .o true (some (22,1)) (bz m.qc.tags), .p (.int .i64 m.head.view), .p (.int .i64 m.head.height), .p (.int .i64 m.head.proposer), .o true (some (5,1)) (bytes m.head.parent), .o true (some (5,1)) (bytes m.head.root), .p (.int .i64 m.head.qc.view), .p (.int .i64 m.head.qc.height), .o true (some (5,1)) (bytes m.head.qc.block), .o true (some (5,1)) (bytes m.head.qc.bits), .o true (some (22,1)) (bz m.head.qc.tags), .p (.int .i64 m.block.head.view), .p (.int .i64 m.block.head.height), .p (.int .i64 m.block.head.proposer), .o true (some (5,1)) (bytes m.block.head.parent), .o true (some (5,1)) (bytes m.block.head.root), .p (.int .i64 m.block.head.qc.view), .p (.int .i64 m.block.head.qc.height), .o true (some (5,1)) (bytes m.block.head.qc.block), .o true (some (5,1)) (bytes m.block.head.qc.bits), .o true (some (22,1)) (bz m.block.head.qc.tags), .o true (some (22,1)) (bz m.block.txs), .p (.int .i64 m.tc.view), .o true (some (165,3)) (kB m.tc.entries), .o true (some (45,10)) (fT m.proof.heads), .p (.int .i64 m.proof.qc.view), .p (.int .i64 m.proof.qc.height), .o true (some (5,1)) (bytes m.proof.qc.block), .o true (some (5,1)) (bytes m.proof.qc.bits), .o true (some (22,1)) (bz m.proof.qc.tags), .p (.int .i64 m.incl.height), .p (.int .i64 m.incl.n), .p (.int .i64 m.incl.idx), .o true (some (5,1)) (bytes m.incl.tx), .o true (some (22,1)) (bz m.incl.path)]
def fe (b:Bytes) (m:bh) (r:Rd):bh×Nat:=if r.er≠0 then(aC,r.er)else if r.at_≠b.length then(aC,9)else(m,0)
def zX (l:aj) (b:Bytes):Nat→bh×Nat
 |1=>fe b {aC with kind:=1,vote:=(kQ b l ⟨1,0⟩).1} (kQ b l ⟨1,0⟩).2
 |2=>fe b {aC with kind:=2,qc:=(xV b l ⟨1,0⟩).1} (xV b l ⟨1,0⟩).2
 |3=>fe b {aC with kind:=3,head:=(dD b l ⟨1,0⟩).1} (dD b l ⟨1,0⟩).2
 |4=>fe b {aC with kind:=4,block:=(fb b l ⟨1,0⟩).1} (fb b l ⟨1,0⟩).2
 |5=>fe b {aC with kind:=5,tc:=(HO b l ⟨1,0⟩).1} (HO b l ⟨1,0⟩).2
 |6=>fe b {aC with kind:=6,proof:=(el b l ⟨1,0⟩).1} (el b l ⟨1,0⟩).2
 |7=>fe b {aC with kind:=7,incl:=(jw b l ⟨1,0⟩).1} (jw b l ⟨1,0⟩).2
 |_=>(aC,8)
def dec (l:aj) (b:Bytes):bh×Nat:=if l.ok=true then(match b[0]? with|none=>(aC,1)|some c=>zX l b c.toNat)else(aC,5)
theorem Lm {l:aj} {b:Bytes} {k:Nat} (h:k=0∨8≤k):zX l b k=(aC,8):=by
 unfold zX
 split <;>first|omega|rfl
theorem Lu {l:aj} {b:Bytes} (h:¬l.ok=true):dec l b=(aC,5):=by simp[dec,h]
theorem ID {l:aj} {b:Bytes} (h:l.ok=true) (hc:¬0 < b.length):dec l b=(aC,1):=by
 have:b[0]? =none:=List.getElem?_eq_none (by omega)
 simp[dec,h,this]
theorem OJ {l:aj} {b:Bytes} (h:l.ok=true) (hc:0 < b.length):dec l b=zX l b b[0].toNat:=by
 have:b[0]? =some b[0]:=List.getElem?_eq_getElem hc
 simp[dec,h,this]
def fP (x:bh×Nat):List (Bool×List E):= [(true,x.1.o),(false,[.p (.int .i64 (x.2:Int))])]
theorem aU:bz []= []:=rfl
theorem aV:kB []= []:=rfl
theorem aS:fT []= []:=rfl
abbrev sf:Nat:=53
def rL:AF:=⟨2,7,[.cell 4 45 true, .tmp 5],(.seq (.ops [.i (.lbox 2 (.s 0)), .i (.lal 4 [.int .i64 0, .int .i64 0, .int .i64 0, .nils, .int .i64 0, .nils, .int .i64 0, .int .i64 0, .nils, .nils, .nils, .int .i64 0, .int .i64 0, .int .i64 0, .nils, .nils, .int .i64 0, .int .i64 0, .nils, .nils, .nils, .int .i64 0, .int .i64 0, .int .i64 0, .nils, .nils, .int .i64 0, .int .i64 0, .nils, .nils, .nils, .nils, .int .i64 0, .nils, .nils, .int .i64 0, .int .i64 0, .nils, .nils, .nils, .int .i64 0, .int .i64 0, .int .i64 0, .nils, .nils]), .i (.mov 5 (qi 0))]) (.seq (.block 0 (.seq (.ops [ql 10 2 2 5 true,qk 12 95 10, .i (.not 12 (.s 11)),qm 9 12]) (.cond (.s 9) (.seq (.ops [.i (.bld 13 [.int .i64 0, .int .i64 0, .int .i64 0, .nils, .int .i64 0, .nils, .int .i64 0, .int .i64 0, .nils, .nils, .nils, .int .i64 0, .int .i64 0, .int .i64 0, .nils, .nils, .int .i64 0, .int .i64 0, .nils, .nils, .nils, .int .i64 0, .int .i64 0, .int .i64 0, .nils, .nils, .int .i64 0, .int .i64 0, .nils, .nils, .nils, .nils, .int .i64 0, .nils, .nils, .int .i64 0, .int .i64 0, .nils, .nils, .nils, .int .i64 0, .int .i64 0, .int .i64 0, .nils, .nils] []),qs 4 4 13 45, .i (.mov 5 (qi 5))]) .ret) (.seq (.ops [qm 15 1,qn 16 15, .i (.bin 17 .eql (.s 16) (qi 0)),qm 14 17]) (.cond (.s 14) (.seq (.ops [.i (.bld 18 [.int .i64 0, .int .i64 0, .int .i64 0, .nils, .int .i64 0, .nils, .int .i64 0, .int .i64 0, .nils, .nils, .nils, .int .i64 0, .int .i64 0, .int .i64 0, .nils, .nils, .int .i64 0, .int .i64 0, .nils, .nils, .nils, .int .i64 0, .int .i64 0, .int .i64 0, .nils, .nils, .int .i64 0, .int .i64 0, .nils, .nils, .nils, .nils, .int .i64 0, .nils, .nils, .int .i64 0, .int .i64 0, .nils, .nils, .nils, .int .i64 0, .int .i64 0, .int .i64 0, .nils, .nils] []),qs 4 4 18 45, .i (.mov 5 (qi 1))]) .ret) (.seq (.ops [qm 20 1, .i (.iad 21 (.s 20) (qi 0) 1), .i (.ldh 22 (.s 21) 1 false), .i (.cvi 23 .i64 (.s 22)),qk 25 55 23, .i (.bin 25 .eql (.s 24) (.c (.val false [.str ByteArray.empty]))),qm 19 25]) (.cond (.s 19) (.seq (.ops [.i (.bld 26 [.int .i64 0, .int .i64 0, .int .i64 0, .nils, .int .i64 0, .nils, .int .i64 0, .int .i64 0, .nils, .nils, .nils, .int .i64 0, .int .i64 0, .int .i64 0, .nils, .nils, .int .i64 0, .int .i64 0, .nils, .nils, .nils, .int .i64 0, .int .i64 0, .int .i64 0, .nils, .nils, .int .i64 0, .int .i64 0, .nils, .nils, .nils, .nils, .int .i64 0, .nils, .nils, .int .i64 0, .int .i64 0, .nils, .nils, .nils, .int .i64 0, .int .i64 0, .int .i64 0, .nils, .nils] []),qs 4 4 26 45, .i (.mov 5 (qi 8))]) .ret) .skip))))))) (.seq (.ops [qm 27 1, .i (.iad 28 (.s 27) (qi 0) 1), .i (.ldh 29 (.s 28) 1 false), .i (.cvi 30 .i64 (.s 29)), .i (.bld 31 [.int .i64 0, .int .i64 0, .int .i64 0, .nils, .int .i64 0, .nils, .int .i64 0, .int .i64 0, .nils, .nils, .nils, .int .i64 0, .int .i64 0, .int .i64 0, .nils, .nils, .int .i64 0, .int .i64 0, .nils, .nils, .nils, .int .i64 0, .int .i64 0, .int .i64 0, .nils, .nils, .int .i64 0, .int .i64 0, .nils, .nils, .nils, .nils, .int .i64 0, .nils, .nils, .int .i64 0, .int .i64 0, .nils, .nils, .nils, .int .i64 0, .int .i64 0, .int .i64 0, .nils, .nils] [(0,1,(.s 30))]), .i (.lal 6 [.int .i64 0, .int .i64 0, .int .i64 0, .nils, .int .i64 0, .nils, .int .i64 0, .int .i64 0, .nils, .nils, .nils, .int .i64 0, .int .i64 0, .int .i64 0, .nils, .nils, .int .i64 0, .int .i64 0, .nils, .nils, .nils, .int .i64 0, .int .i64 0, .int .i64 0, .nils, .nils, .int .i64 0, .int .i64 0, .nils, .nils, .nils, .nils, .int .i64 0, .nils, .nils, .int .i64 0, .int .i64 0, .nils, .nils, .nils, .int .i64 0, .int .i64 0, .int .i64 0, .nils, .nils]),qs 6 6 31 45, .i (.mov 7 (qi 0)), .i (.mov 8 (qi 0))]) (.seq (.seq (.ops [qf 32 6 0,ql 33 6 32 1 false]) (.block 1 (.seq (.ops [.i (.bin 43 .eql (.s 33) (qi 1)),qm 42 43]) (.cond (.s 42) (.ops [ql 45 2 2 5 true,qm 46 1, .i (.call 48 25 false [(.s 45),(.s 46),(qi 1)]),qm 44 47, .i (.ext 48 (.s 44) 0), .i (.ext 49 (.s 44) 1), .i (.ext 50 (.s 44) 2),qf 51 6 1,qs 6 51 48 5,qm 7 49,qm 8 50]) (.seq (.ops [.i (.bin 53 .eql (.s 33) (qi 2)),qm 52 53]) (.cond (.s 52) (.ops [ql 55 2 2 5 true,qm 56 1, .i (.call 58 28 false [(.s 55),(.s 56),(qi 1)]),qm 54 57, .i (.ext 58 (.s 54) 0), .i (.ext 59 (.s 54) 1), .i (.ext 60 (.s 54) 2),qf 61 6 6,qs 6 61 58 5,qm 7 59,qm 8 60]) (.seq (.ops [.i (.bin 63 .eql (.s 33) (qi 3)),qm 62 63]) (.cond (.s 62) (.ops [ql 65 2 2 5 true,qm 66 1, .i (.call 68 31 false [(.s 65),(.s 66),(qi 1)]),qm 64 67, .i (.ext 68 (.s 64) 0), .i (.ext 69 (.s 64) 1), .i (.ext 70 (.s 64) 2),qf 71 6 11,qs 6 71 68 10,qm 7 69,qm 8 70]) (.seq (.ops [.i (.bin 73 .eql (.s 33) (qi 4)),qm 72 73]) (.cond (.s 72) (.ops [ql 75 2 2 5 true,qm 76 1, .i (.call 78 35 false [(.s 75),(.s 76),(qi 1)]),qm 74 77, .i (.ext 78 (.s 74) 0), .i (.ext 79 (.s 74) 1), .i (.ext 80 (.s 74) 2),qf 81 6 21,qs 6 81 78 11,qm 7 79,qm 8 80]) (.seq (.ops [.i (.bin 83 .eql (.s 33) (qi 5)),qm 82 83]) (.cond (.s 82) (.ops [ql 85 2 2 5 true,qm 86 1, .i (.call 88 38 false [(.s 85),(.s 86),(qi 1)]),qm 84 87, .i (.ext 88 (.s 84) 0), .i (.ext 89 (.s 84) 1), .i (.ext 90 (.s 84) 2),qf 91 6 32,qs 6 91 88 2,qm 7 89,qm 8 90]) (.seq (.ops [.i (.bin 93 .eql (.s 33) (qi 6)),qm 92 93]) (.cond (.s 92) (.ops [ql 95 2 2 5 true,qm 96 1, .i (.call 98 41 false [(.s 95),(.s 96),(qi 1)]),qm 94 97, .i (.ext 98 (.s 94) 0), .i (.ext 99 (.s 94) 1), .i (.ext 100 (.s 94) 2),qf 101 6 34,qs 6 101 98 6,qm 7 99,qm 8 100]) (.ops [ql 35 2 2 5 true,qm 36 1, .i (.call 38 44 false [(.s 35),(.s 36),(qi 1)]),qm 34 37, .i (.ext 38 (.s 34) 0), .i (.ext 39 (.s 34) 1), .i (.ext 40 (.s 34) 2),qf 41 6 40,qs 6 41 38 5,qm 7 39,qm 8 40]))))))))))))))) (.seq (.seq (.ops [qm 102 8, .i (.bin 103 .eql (.s 102) (qi 0)),qm 104 103, .g 104 true 106 (.mov 105 (.s 7)), .g 104 true 107 (.mov 106 (.s 1)), .g 104 true 108 (.len 107 false (.s 106)), .g 104 true 109 (.bin 108 .neq (.s 105) (.s 107)), .i (.pick 109 (.s 104) (.s 108) (qb false))]) (.cond (.s 109) (.ops [.i (.mov 8 (qi 9))]) .skip)) (.seq (.seq (.ops [qm 110 8, .i (.bin 111 .neq (.s 110) (qi 0))]) (.cond (.s 111) (.seq (.ops [.i (.bld 112 [.int .i64 0, .int .i64 0, .int .i64 0, .nils, .int .i64 0, .nils, .int .i64 0, .int .i64 0, .nils, .nils, .nils, .int .i64 0, .int .i64 0, .int .i64 0, .nils, .nils, .int .i64 0, .int .i64 0, .nils, .nils, .nils, .int .i64 0, .int .i64 0, .int .i64 0, .nils, .nils, .int .i64 0, .int .i64 0, .nils, .nils, .nils, .nils, .int .i64 0, .nils, .nils, .int .i64 0, .int .i64 0, .nils, .nils, .nils, .int .i64 0, .int .i64 0, .int .i64 0, .nils, .nils] []),qm 113 8,qs 4 4 112 45,qm 5 113]) .ret) .skip)) (.seq (.ops [ql 114 6 6 45 true,qs 4 4 114 45, .i (.mov 5 (qi 0))]) .ret)))))))⟩
theorem BB:cd sf=some rL:=by kernel_rfl
theorem yx (b:Bytes) (l:aj) (hb:b.length≤1073741824):VC cd sf (aH [(true,l.c),(false,[.sl (bytes b)])]) (fun rs _=>rs=fP (dec l b)):=by
 refine VC.oQ ?_
 refine aa BB rfl ?_
 simp(disch:=omega) [rL,aj.c,VZ]
 refine av (aL l) ?_ (ha:=by first|rfl|(simp[aj.c,VY] <;>repeat' constructor))
 simp(disch:=omega) [VZ]
 by_cases hok:l.ok=true
 case neg=>rw[Lu hok];simp(disch:=omega) [hok,fP,bh.o,aC,bx,fD,bb,aE,ia,aK,bq,aJ,aO,aT,ag,aU,aV,aS,VZ]
 by_cases he:b= []
 case pos=>rw[ID hok (by simp[he])];simp(disch:=omega) [hok,he,fP,bh.o,aC,bx,fD,bb,aE,ia,aK,bq,aJ,aO,aT,ag,aU,aV,aS,VZ]
 have hc:0 < b.length:=List.length_pos_iff.2 he
 have h256:b[0].toNat < 256:=UInt8.toNat_lt _
 rw[OJ hok hc]
 simp(disch:=omega) [hok,he,hc,bj hc,VZ]
 refine av (Fm b[0].toNat) ?_
 by_cases hz:b[0].toNat=0∨8≤b[0].toNat
 case pos=>
  have hz2:=(o9 _).2 hz
  rw[Lm hz]
  simp(disch:=omega) [hz2,fP,bh.o,aC,bx,fD,bb,aE,ia,aK,bq,aJ,aO,aT,ag,aU,aV,aS,VZ]
 have hz2:¬kindName b[0].toNat=ByteArray.empty:=fun e=>hz ((o9 _).1 e)
 have hk:b[0].toNat=1∨b[0].toNat=2∨b[0].toNat=3∨b[0].toNat=4∨b[0].toNat=5∨b[0].toNat=6∨b[0].toNat=7:=by omega
 simp(disch:=omega) [hz2,hc,bj hc,VZ]
 generalize b[0].toNat=k at hk⊢
 clear hz hz2
 rcases hk with rfl|rfl|rfl|rfl|rfl|rfl|rfl
 ·simp only[zX]
  have h0:=xA b l 1 hok (by omega) hb
  generalize h1:kQ b l ⟨1,0⟩=s1 at h0⊢
  by_cases g:s1.2.er=0
  ·simp only[bR,if_pos g,bu.o]at h0
   simp(disch:=omega) [VZ]
   refine av (h0) ?_ (ha:=by first|rfl|(simp[aj.c,VY] <;>repeat' constructor))
   simp(disch:=omega) [VZ]
   by_cases g2:s1.2.at_=b.length
   ·simp(disch:=omega) [g2,fe,g,fP,bh.o,aC,bx,fD,bb,aE,ia,aK,bq,aJ,aO,aT,ag,aU,aV,aS,VZ]
   ·have g3:¬(s1.2.at_:Int)=(b.length:Int):=by omega
    simp(disch:=omega) [g2,g3,fe,g,fP,bh.o,aC,bx,fD,bb,aE,ia,aK,bq,aJ,aO,aT,ag,aU,aV,aS,VZ]
  ·simp only[bR,if_neg g,Fj]at h0
   simp(disch:=omega) [VZ]
   refine av (h0) ?_ (ha:=by first|rfl|(simp[aj.c,VY] <;>repeat' constructor))
   simp(disch:=omega) [g,fe,fP,bh.o,aC,bx,fD,bb,aE,ia,aK,bq,aJ,aO,aT,ag,aU,aV,aS,VZ]
 ·simp only[zX]
  have h0:=BL b l 1 hok (by omega) hb
  generalize h1:xV b l ⟨1,0⟩=s1 at h0⊢
  by_cases g:s1.2.er=0
  ·simp only[bR,if_pos g,Qc.o]at h0
   simp(disch:=omega) [VZ]
   refine av (h0) ?_ (ha:=by first|rfl|(simp[aj.c,VY] <;>repeat' constructor))
   simp(disch:=omega) [VZ]
   by_cases g2:s1.2.at_=b.length
   ·simp(disch:=omega) [g2,fe,g,fP,bh.o,aC,bx,fD,bb,aE,ia,aK,bq,aJ,aO,aT,ag,aU,aV,aS,VZ]
   ·have g3:¬(s1.2.at_:Int)=(b.length:Int):=by omega
    simp(disch:=omega) [g2,g3,fe,g,fP,bh.o,aC,bx,fD,bb,aE,ia,aK,bq,aJ,aO,aT,ag,aU,aV,aS,VZ]
  ·simp only[bR,if_neg g,Pn]at h0
   simp(disch:=omega) [VZ]
   refine av (h0) ?_ (ha:=by first|rfl|(simp[aj.c,VY] <;>repeat' constructor))
   simp(disch:=omega) [g,fe,fP,bh.o,aC,bx,fD,bb,aE,ia,aK,bq,aJ,aO,aT,ag,aU,aV,aS,VZ]
 ·simp only[zX]
  have h0:=ya b l 1 hok (by omega) hb
  generalize h1:dD b l ⟨1,0⟩=s1 at h0⊢
  by_cases g:s1.2.er=0
  ·simp only[bR,if_pos g,Head.o]at h0
   simp(disch:=omega) [VZ]
   refine av (h0) ?_ (ha:=by first|rfl|(simp[aj.c,VY] <;>repeat' constructor))
   simp(disch:=omega) [VZ]
   by_cases g2:s1.2.at_=b.length
   ·simp(disch:=omega) [g2,fe,g,fP,bh.o,aC,bx,fD,bb,aE,ia,aK,bq,aJ,aO,aT,ag,aU,aV,aS,VZ]
   ·have g3:¬(s1.2.at_:Int)=(b.length:Int):=by omega
    simp(disch:=omega) [g2,g3,fe,g,fP,bh.o,aC,bx,fD,bb,aE,ia,aK,bq,aJ,aO,aT,ag,aU,aV,aS,VZ]
  ·simp only[bR,if_neg g,FC]at h0
   simp(disch:=omega) [VZ]
   refine av (h0) ?_ (ha:=by first|rfl|(simp[aj.c,VY] <;>repeat' constructor))
   simp(disch:=omega) [g,fe,fP,bh.o,aC,bx,fD,bb,aE,ia,aK,bq,aJ,aO,aT,ag,aU,aV,aS,VZ]
 ·simp only[zX]
  have h0:=vK b l 1 hok (by omega) hb
  generalize h1:fb b l ⟨1,0⟩=s1 at h0⊢
  by_cases g:s1.2.er=0
  ·simp only[bR,if_pos g,Block.o]at h0
   simp(disch:=omega) [VZ]
   refine av (h0) ?_ (ha:=by first|rfl|(simp[aj.c,VY] <;>repeat' constructor))
   simp(disch:=omega) [VZ]
   by_cases g2:s1.2.at_=b.length
   ·simp(disch:=omega) [g2,fe,g,fP,bh.o,aC,bx,fD,bb,aE,ia,aK,bq,aJ,aO,aT,ag,aU,aV,aS,VZ]
   ·have g3:¬(s1.2.at_:Int)=(b.length:Int):=by omega
    simp(disch:=omega) [g2,g3,fe,g,fP,bh.o,aC,bx,fD,bb,aE,ia,aK,bq,aJ,aO,aT,ag,aU,aV,aS,VZ]
  ·simp only[bR,if_neg g,z7]at h0
   simp(disch:=omega) [VZ]
   refine av (h0) ?_ (ha:=by first|rfl|(simp[aj.c,VY] <;>repeat' constructor))
   simp(disch:=omega) [g,fe,fP,bh.o,aC,bx,fD,bb,aE,ia,aK,bq,aJ,aO,aT,ag,aU,aV,aS,VZ]
 ·simp only[zX]
  have h0:=Bl b l 1 hok (by omega) hb
  generalize h1:HO b l ⟨1,0⟩=s1 at h0⊢
  by_cases g:s1.2.er=0
  ·simp only[bR,if_pos g,Tc.o]at h0
   simp(disch:=omega) [VZ]
   refine av (h0) ?_ (ha:=by first|rfl|(simp[aj.c,VY] <;>repeat' constructor))
   simp(disch:=omega) [VZ]
   by_cases g2:s1.2.at_=b.length
   ·simp(disch:=omega) [g2,fe,g,fP,bh.o,aC,bx,fD,bb,aE,ia,aK,bq,aJ,aO,aT,ag,aU,aV,aS,VZ]
   ·have g3:¬(s1.2.at_:Int)=(b.length:Int):=by omega
    simp(disch:=omega) [g2,g3,fe,g,fP,bh.o,aC,bx,fD,bb,aE,ia,aK,bq,aJ,aO,aT,ag,aU,aV,aS,VZ]
  ·simp only[bR,if_neg g,Pc]at h0
   simp(disch:=omega) [VZ]
   refine av (h0) ?_ (ha:=by first|rfl|(simp[aj.c,VY] <;>repeat' constructor))
   simp(disch:=omega) [g,fe,fP,bh.o,aC,bx,fD,bb,aE,ia,aK,bq,aJ,aO,aT,ag,aU,aV,aS,VZ]
 ·simp only[zX]
  have h0:=vj b l 1 hok (by omega) hb
  generalize h1:el b l ⟨1,0⟩=s1 at h0⊢
  by_cases g:s1.2.er=0
  ·simp only[bR,if_pos g,Proof.o]at h0
   simp(disch:=omega) [VZ]
   refine av (h0) ?_ (ha:=by first|rfl|(simp[aj.c,VY] <;>repeat' constructor))
   simp(disch:=omega) [VZ]
   by_cases g2:s1.2.at_=b.length
   ·simp(disch:=omega) [g2,fe,g,fP,bh.o,aC,bx,fD,bb,aE,ia,aK,bq,aJ,aO,aT,ag,aU,aV,aS,VZ]
   ·have g3:¬(s1.2.at_:Int)=(b.length:Int):=by omega
    simp(disch:=omega) [g2,g3,fe,g,fP,bh.o,aC,bx,fD,bb,aE,ia,aK,bq,aJ,aO,aT,ag,aU,aV,aS,VZ]
  ·simp only[bR,if_neg g,zp]at h0
   simp(disch:=omega) [VZ]
   refine av (h0) ?_ (ha:=by first|rfl|(simp[aj.c,VY] <;>repeat' constructor))
   simp(disch:=omega) [g,fe,fP,bh.o,aC,bx,fD,bb,aE,ia,aK,bq,aJ,aO,aT,ag,aU,aV,aS,VZ]
 ·simp only[zX]
  have h0:=xw b l 1 hok (by omega) hb
  generalize h1:jw b l ⟨1,0⟩=s1 at h0⊢
  by_cases g:s1.2.er=0
  ·simp only[bR,if_pos g,bm.o]at h0
   simp(disch:=omega) [VZ]
   refine av (h0) ?_ (ha:=by first|rfl|(simp[aj.c,VY] <;>repeat' constructor))
   simp(disch:=omega) [VZ]
   by_cases g2:s1.2.at_=b.length
   ·simp(disch:=omega) [g2,fe,g,fP,bh.o,aC,bx,fD,bb,aE,ia,aK,bq,aJ,aO,aT,ag,aU,aV,aS,VZ]
   ·have g3:¬(s1.2.at_:Int)=(b.length:Int):=by omega
    simp(disch:=omega) [g2,g3,fe,g,fP,bh.o,aC,bx,fD,bb,aE,ia,aK,bq,aJ,aO,aT,ag,aU,aV,aS,VZ]
  ·simp only[bR,if_neg g,Fc]at h0
   simp(disch:=omega) [VZ]
   refine av (h0) ?_ (ha:=by first|rfl|(simp[aj.c,VY] <;>repeat' constructor))
   simp(disch:=omega) [g,fe,fP,bh.o,aC,bx,fD,bb,aE,ia,aK,bq,aJ,aO,aT,ag,aU,aV,aS,VZ]
end Go.Eng.F
namespace Go.Eng.F
theorem IA.wc {q:Qc} (h:IA q):q.wc:=by
 have h1:=dv h.view
 have h2:=dv h.height
 have h3:=h.block
 have h4:=h.bits
 have h5:=h.tags
 refine⟨⟨⟨by omega,by omega⟩,⟨by omega,by omega⟩,?_,?_,?_⟩,fun x hx=> ?_⟩ <;>unfold Sz
 ·omega
 ·omega
 ·omega
 ·have:=h.tag x hx;omega
theorem iG (l:aj) (h:Head) (hw:h.wf):VC cd gh (aH [(true,l.c),(true,h.c)]) (fun rs _=>rs= [(false,[.o true (some (5,1)) (bytes (lO l h))])]):=
 (vY l h hw).own fun rs ps q=>by
   rw[q,DW,lO]
   by_cases h0:cE l h=true
   ·rw[if_pos h0,if_pos h0]
    exact⟨_,by simp[aJ,aO,aT],rfl⟩
   ·rw[if_neg h0,if_neg h0]
    exact⟨_,by simp[aJ,aO,aT,ag],rfl⟩
theorem Cv (l:aj) (h:Head):(lO l h).length≤32:=by
 unfold lO
 split
 ·rw[yn];omega
 ·simp
abbrev o8:Nat:=187
def om:AF:=⟨2,6,[.cell 4 10 true],(.seq (.ops [.i (.lbox 3 (.s 1)), .i (.lal 4 qz)]) (.seq (.ops [qm 6 0, .i (.call 8 97 false [(.s 6),(qi 200)]), .i (.bin 8 .add (qi 2) (.s 7)),qm 9 0, .i (.call 11 97 false [(.s 9),(qi 200)]), .i (.bin 11 .add (qi 1) (.s 10)),qm 12 0,qf 13 3 0,ql 14 3 13 1 false, .i (.call 16 97 false [(.s 12),(.s 14)]),qm 16 0,qk 18 242 16,qm 18 0,qk 20 242 18,qm 20 0,ql 21 3 3 5 true, .i (.call 23 185 false [(.s 20),(.s 21)]), .i (.bld 23 qz [(0,1,(.s 8)),(1,1,(.s 11)),(2,1,(.s 15)),(3,1,(.s 17)),(4,1,(.s 19)),(5,5,(.s 22))]), .i (.lal 5 qz),qs 5 5 23 10]) (.seq (.ops [qm 24 0,qf 25 5 0,ql 26 5 25 1 false, .i (.call 28 97 false [(.s 24),(.s 26)]),qf 28 5 5,qf 29 28 0,qs 5 29 27 1]) (.seq (.ops [qf 30 5 1,ql 31 5 30 1 false, .i (.bin 32 .sub (.s 31) (qi 1)),qf 33 5 5,qf 34 33 1,qs 5 34 32 1]) (.seq (.ops [qf 35 5 3,ql 36 5 35 1 false,qk 38 143 36,qf 38 5 5,qf 39 38 2,qs 5 39 37 1]) (.seq (.ops [ql 40 5 5 10 true,qs 4 4 40 10]) .ret))))))⟩
theorem yN:cd o8=some om:=by kernel_rfl
theorem kA (b:Bytes) (i:Nat) (h:Int) (l:aj) (hl:1≤l.n∧l.n≤10) (hi:i≤b.length) (hb:b.length≤1073741824):VC cd o8 (ic [] 133 (cur b i h) [(true,l.c)]) (fun r p=>∃x:Head×Nat×Int,(x.1.wc∧x.2.1≤b.length)∧r= [(true,x.1.o)]∧p= [.pt 133 (cur b x.2.1 x.2.2)]):=by
 obtain⟨m,hm⟩:∃m:Nat,l.n=(m:Int):=⟨l.n.toNat,by omega⟩
 refine aw yN rfl ?_
 simp(disch:=omega) [om,cur,aj.c,VZ]
 refine cq (an b i h 200 (by omega) hi hb) ?_
 rintro⟨k1,i1,h1⟩ ⟨g1,j1⟩
 simp only at g1 j1
 simp(disch:=omega) [cur,VZ]
 refine cq (an b i1 h1 200 (by omega) j1 hb) ?_
 rintro⟨k2,i2,h2⟩ ⟨g2,j2⟩
 simp only at g2 j2
 simp(disch:=omega) [cur,hm,VZ]
 refine cq (an b i2 h2 m (by omega) j2 hb) ?_
 rintro⟨k3,i3,h3⟩ ⟨g3,j3⟩
 simp only at g3 j3
 simp(disch:=omega) [cur,VZ]
 refine cq (cC b i3 h3 j3 hb) ?_
 rintro⟨x4,i4,h4⟩ ⟨g4,j4⟩
 simp only at g4 j4
 simp(disch:=omega) [cur,VZ]
 refine cq (cC b i4 h4 j4 hb) ?_
 rintro⟨x5,i5,h5⟩ ⟨g5,j5⟩
 simp only at g5 j5
 simp(disch:=omega) [cur,VZ]
 refine cq (sN b i5 h5 ⟨(m:Int),l.tx,l.txs,l.frame,l.heads⟩ (by simp only;omega) j5 hb) ?_ (n1:=by intro _;simp(disch:=omega) [aj.c,Qc.o,hm,VZ]) (n3:=by intro _;simp(disch:=omega) [aj.c,Qc.o,hm,VZ])
 rintro⟨q6,i6,h6⟩ ⟨g6,j6⟩
 simp only at g6 j6
 obtain⟨⟨_,_,w3,w4,w5⟩,w6⟩:=g6.wc
 simp(disch:=omega) [cur,Qc.o,VZ]
 refine cq (an b i6 h6 (2+k1) (by omega) j6 hb) ?_
 rintro⟨k7,i7,h7⟩ ⟨g7,j7⟩
 simp only at g7 j7
 simp(disch:=omega) [cur,VZ]
 refine av (aY x4 (by omega)) ?_
 simp(disch:=omega) [cur,VZ]
 refine⟨⟨2+k1,1+k2,k3,x4,x5,⟨k7,k2,x4,q6.bits,q6.tags⟩⟩,i7,⟨?_,j7⟩,?_,rfl⟩
 ·refine⟨⟨⟨by simp only;omega,by simp only;omega⟩,⟨by simp only;omega,by simp only;omega⟩,⟨by simp only;omega,by simp only;omega⟩,?_,?_,⟨⟨by simp only;omega,by simp only;omega⟩,⟨by simp only;omega,by simp only;omega⟩,?_,w4,w5⟩⟩,w6⟩
  ·unfold Sz;simp only;omega
  ·unfold Sz;simp only;omega
  ·unfold Sz;simp only;omega
 ·have e1:(1+(k2:Int) - 1)=k2:=by omega
  rw[e1]
  rfl
abbrev lN:Nat:=273
def lU:AF:=⟨3,6,[.tmp 6],(.seq (.ops [.i (.lbox 4 (.s 1)), .i (.mov 6 (.c (.val false [.nils])))]) (.seq (.ops [qm 10 0,ql 11 4 4 5 true, .i (.call 13 187 false [(.s 10),(.s 11)]), .i (.bsl 13 45 10 1 qz [(0,10,(.s 12))]),qm 7 13]) (.seq (.block 0 (.loop [59,58,57,56,55,54,53,52,51,50,49,48,47,46,45,44,43,42,41,40,39,38,37,36,35,34,33,32,31,30,29,28,27,26,25,24,23,22,21,20,19,18,17,16,15,14,9,8] (.seq (.seq (.ops [qm 14 7,qn 15 14,qm 16 2,qd 17 .lss 15 16]) (.cond (.s 17) .skip (.exit 0))) (.block 1 (.seq (.ops [qm 18 7,qm 19 7,qn 20 19, .i (.bin 21 .sub (.s 20) (qi 1)), .i (.iad 22 (.s 18) (.s 21) 10), .i (.ldh 23 (.s 22) 10 true), .i (.lal 8 qz),qs 8 8 23 10]) (.seq (.ops [qm 24 0,ql 25 4 4 5 true, .i (.call 27 187 false [(.s 24),(.s 25)]), .i (.lal 9 qz),qs 9 9 26 10]) (.seq (.ops [qf 27 8 0,ql 28 8 27 1 false, .i (.bin 29 .add (.s 28) (qi 1)),qm 30 0, .i (.call 32 97 false [(.s 30),(qi 6)]), .i (.bin 32 .quo (.s 31) (qi 5)),qd 33 .add 29 32,qf 34 9 0,qs 9 34 33 1]) (.seq (.ops [qf 35 8 1,ql 36 8 35 1 false, .i (.bin 37 .add (.s 36) (qi 1)),qf 38 9 1,qs 9 38 37 1]) (.seq (.ops [ql 39 4 4 5 true,ql 40 8 8 10 true, .i (.call 42 274 false [(.s 39),(.s 40)]),qf 42 9 3,qs 9 42 41 1]) (.seq (.ops [qf 43 8 0,ql 44 8 43 1 false,qf 45 9 5,qf 46 45 0,qs 9 46 44 1]) (.seq (.ops [qf 47 8 1,ql 48 8 47 1 false,qf 49 9 5,qf 50 49 1,qs 9 50 48 1]) (.seq (.ops [qf 51 9 3,ql 52 9 51 1 false,qk 54 143 52,qf 54 9 5,qf 55 54 2,qs 9 55 53 1]) (.ops [qm 56 7,ql 57 9 9 10 true, .i (.lsl 58 10 1 qz [(0,10,(.s 57))]), .i (.app 59 45 10 160 (.s 56) (.s 58)),qm 7 59]))))))))))))) (.seq (.ops [qm 60 7,qm 6 60]) .ret))))⟩
theorem xp:cd lN=some lU:=by kernel_rfl
theorem Fu (b:Bytes) (i:Nat) (h:Int) (l:aj) (n:Nat) (hl:1≤l.n∧l.n≤10) (hn:1≤n∧n≤10) (hi:i≤b.length) (hb:b.length≤1073741824):VC cd lN (ic [] 133 (cur b i h) [(true,l.c),(false,[.int .i64 (n:Int)])]) (fun r p=>∃x:List Head×Nat×Int,((x.1.length=n∧∀y∈x.1,y.wc)∧x.2.1≤b.length)∧r= [(false,[.o true (some (45,10)) (fT x.1)])]∧p= [.pt 133 (cur b x.2.1 x.2.2)]):=by
 refine aw xp rfl ?_
 simp(disch:=omega) [lU,cur,aj.c,VZ]
 refine cq (kA b i h l hl hi hb) ?_ (n1:=by intro _;simp(disch:=omega) [aj.c,Head.o,VZ]) (n3:=by intro _;simp(disch:=omega) [aj.c,Head.o,VZ])
 rintro⟨x1,i1,h1⟩ ⟨g1,j1⟩
 simp only at g1 j1
 simp(disch:=omega) [cur,Head.o,aj.c,VZ]
 have e0: [[D.int .i64 x1.view, .int .i64 x1.height, .int .i64 x1.proposer, .sl (bytes x1.parent), .sl (bytes x1.root), .int .i64 x1.qc.view, .int .i64 x1.qc.height, .sl (bytes x1.qc.block), .sl (bytes x1.qc.bits), .sl (bz x1.qc.tags)]]=fT [x1]:=rfl
 rw[e0]
 refine bH (σ:=Nat×Nat×Int×List Head) (f1:=_) (es0:=_) (by simp(disch:=omega) [VZ];rfl) (by simp(disch:=omega) [VZ];rfl) (fun p=> [(7, .val false [.ow 13 p.1])]) (fun p=> [(4096, .pt 0 133 [.sl (bytes b), .int .i64 (p.2.1:Int), .int .i64 p.2.2.1]),(13, .sl p.1 true true (some (45,10)) (fT p.2.2.2))])
  (fun p g=>g+p.2.2.2.length=n∧1≤p.2.2.2.length∧p.2.1≤b.length∧∀y∈p.2.2.2,y.wc) (_,i1,h1,[x1]) (n - 1) (by simp(disch:=omega) [VZ];rfl) (by simp(disch:=omega) [VZ]) ⟨by simp;omega,by simp,j1,by simpa using g1⟩ ?_
 rintro⟨v,i2,h2,x⟩ nx g ⟨hg,h5,h6,h7⟩ P hP
 simp only at hg h5 h6 h7
 have hx:(fT x).length=x.length:=dq x
 simp(disch:=omega) [hx,VZ]
 refine ab (fun h8=> ?_) (fun h8=> ?_)
 ·have e1:IntKind.i64.wrap ((x.length:Int) - 1)=((x.length - 1:Nat):Int):=by rw[sO (by omega) (by omega)];omega
  obtain⟨a,e2,hw⟩:∃a:Head,(∀hq:x.length - 1 < (fT x).length,(fT x)[x.length - 1]'hq=a.c)∧a.wc:=⟨x[x.length - 1]'(by omega),fun hq=>by simp[fT],h7 _ (List.getElem_mem _)⟩
  simp(disch:=omega) [hx,e1,e2,Head.c,VZ]
  refine cq (kA b i2 h2 l hl h6 hb) ?_ (n1:=by intro _;simp(disch:=omega) [aj.c,Head.o,VZ]) (n3:=by intro _;simp(disch:=omega) [aj.c,Head.o,VZ])
  rintro⟨y,i3,h3⟩ ⟨g3,j3⟩
  simp only at g3 j3
  simp(disch:=omega) [cur,Head.o,VZ]
  refine cq (an b i3 h3 6 (by omega) j3 hb) ?_
  rintro⟨k4,i4,h4⟩ ⟨g4,j4⟩
  simp only at g4 j4
  simp(disch:=omega) [cur,VZ]
  refine av (iG l a hw.1) ?_ (ha:=by first|rfl|(simp[aj.c,Head.c,VY] <;>repeat' constructor))
  have hhl:=Cv l a
  simp(disch:=omega) [cur,VZ]
  refine av (aY (lO l a) (by omega)) ?_
  have ez:=H8 x ⟨IntKind.i64.wrap (IntKind.i64.wrap (a.view+1)+(k4:Int) / 5),IntKind.i64.wrap (a.height+1),y.proposer,lO l a,y.root,⟨a.view,a.height,lO l a,y.qc.bits,y.qc.tags⟩⟩
  simp only at ez
  simp(disch:=omega) [cur,hx,ez,VZ]
  refine hP (_,i4,h4,x++ [⟨IntKind.i64.wrap (IntKind.i64.wrap (a.view+1)+(k4:Int) / 5),IntKind.i64.wrap (a.height+1),y.proposer,lO l a,y.root,⟨a.view,a.height,lO l a,y.qc.bits,y.qc.tags⟩⟩]) (g - 1) _ _ (by omega) ⟨by simp;omega,by simp,j4,fun z hz=> ?_⟩ (by simp(disch:=omega) [VZ];rfl) (by simp(disch:=omega) [VZ])
  rcases List.mem_append.1 hz with hz|hz
  ·exact h7 z hz
  ·simp only[List.mem_singleton]at hz
   subst hz
   obtain⟨⟨w1,w2,w3,w4,w5,⟨q1,q2,q3,q4,q5⟩⟩,w7⟩:=g3
   have hs:Sz (lO l a).length:=by unfold Sz;omega
   exact⟨⟨OB _,OB _,w3,hs,w5,⟨hw.1.1,hw.1.2.1,hs,q4,q5⟩⟩,w7⟩
 ·simp(disch:=omega) [cur,VZ]
  exact⟨x,i2,⟨⟨by omega,h7⟩,h6⟩,rfl,rfl⟩
abbrev se:Nat:=270
def rR:AF:=⟨2,5,[.tmp 4],(.seq (.ops [.i (.lbox 3 (.s 1)), .i (.mov 4 (.c (.val false [.nils])))]) (.seq (.ops [.i (.bse 8),qm 5 8]) (.seq (.seq (.ops [qm 9 0,qf 10 3 2,ql 11 3 10 1 false, .i (.bin 12 .add (.s 11) (qi 1)), .i (.call 14 97 false [(.s 9),(.s 12)]),qm 6 13]) (.block 0 (.loop [27,26,25,24,23,22,21,20,19,18,17,16,15,14,7] (.seq (.seq (.ops [qm 14 6, .i (.bin 15 .gtr (.s 14) (qi 0))]) (.cond (.s 15) .skip (.exit 0))) (.seq (.block 1 (.seq (.ops [qf 18 3 1,ql 19 3 18 1 false,qm 7 19]) (.seq (.seq (.ops [qm 20 7, .i (.bin 21 .gtr (.s 20) (qi 6))]) (.cond (.s 21) (.ops [.i (.mov 7 (qi 6))]) .skip)) (.ops [qm 22 5,qm 23 0,qm 24 7, .i (.call 26 138 false [(.s 23),(.s 24)]), .i (.lsl 26 1 1 [.nils] [(0,1,(.s 25))]), .i (.app 27 22 1 24 (.s 22) (.s 26)),qm 5 27])))) (.ops [qm 16 6, .i (.bin 17 .sub (.s 16) (qi 1)),qm 6 17])))))) (.seq (.ops [qm 28 5,qm 4 28]) .ret))))⟩
theorem BP:cd se=some rR:=by kernel_rfl
theorem Ie (b:Bytes) (i:Nat) (h:Int) (l:aj) (hl:l.rd) (hi:i≤b.length) (hb:b.length≤1073741824):VC cd se (ic [] 133 (cur b i h) [(true,l.c)]) (fun r p=>∃x:List Bytes×Nat×Int,((x.1.length≤8∧∀y∈x.1,y.length≤6)∧x.2.1≤b.length)∧r= [(false,[.o true (some (22,1)) (bz x.1)])]∧p= [.pt 133 (cur b x.2.1 x.2.2)]):=by
 have hl1:=hl.2.1
 have hl2:=hl.2.2.1
 obtain⟨m,hm⟩:∃m:Nat,l.txs=(m:Int):=⟨l.txs.toNat,by omega⟩
 obtain⟨t,ht⟩:∃t:Nat,l.tx=(t:Int):=⟨l.tx.toNat,by omega⟩
 refine aw BP rfl ?_
 simp(disch:=omega) [rR,cur,aj.c,hm,ht,VZ]
 refine cq (an b i h (m+1) (by omega) hi hb) ?_
 rintro⟨k1,i1,h1⟩ ⟨g1,j1⟩
 simp only at g1 j1
 simp(disch:=omega) [cur,VZ]
 refine bH (σ:=Nat×Nat×Nat×Int×List Bytes) (f1:=_) (es0:=_) (by simp(disch:=omega) [VZ];rfl) (by simp(disch:=omega) [VZ];rfl) (fun p=> [(6, .val false [.int .i64 (p.1:Int)]),(5, .val false [.ow 8 p.2.1])]) (fun p=> [(4096, .pt 0 133 [.sl (bytes b), .int .i64 (p.2.2.1:Int), .int .i64 p.2.2.2.1]),(8, .sl p.2.1 true true (some (22,1)) (bz p.2.2.2.2))])
  (fun p g=>g=p.1∧p.2.2.1≤b.length∧p.2.2.2.2.length+p.1≤8∧∀y∈p.2.2.2.2,y.length≤6) (k1,_,i1,h1,[]) k1 (by simp(disch:=omega) [VZ];rfl) (by simp(disch:=omega) [bz,VZ]) ⟨rfl,j1,by simp;omega,by simp⟩ ?_
 rintro⟨n,v,i2,h2,x⟩ nx g ⟨hg,h5,h6,h7⟩ P hP
 simp only at hg h5 h6 h7
 simp(disch:=omega) [VZ]
 refine ab (fun h8=> ?_) (fun h8=> ?_)
 ·have e1:IntKind.i64.wrap ((n:Int) - 1)=((n - 1:Nat):Int):=by rw[sO (by omega) (by omega)];omega
  have hlx:(bz x).length=x.length:=aB x
  simp(disch:=omega) [VZ]
  refine ab (fun h9=> ?_) (fun h9=> ?_)
  ·simp(disch:=omega) [VZ]
   refine cq (c7 b i2 h2 6 (by omega) h5 hb) ?_
   rintro⟨y,i3,h3⟩ ⟨g3,j3⟩
   simp only at g3 j3
   simp(disch:=omega) [cur,e1,hlx,d5,VZ]
   refine hP (n - 1,_,i3,h3,x++ [y]) (g - 1) _ _ (by omega) ⟨by simp only;omega,j3,by simp;omega,fun z hz=> ?_⟩ (by simp(disch:=omega) [VZ];rfl) (by simp(disch:=omega) [VZ])
   rcases List.mem_append.1 hz with hz|hz
   ·exact h7 z hz
   ·simp only[List.mem_singleton]at hz;subst hz;omega
  ·simp(disch:=omega) [VZ]
   refine cq (c7 b i2 h2 t (by omega) h5 hb) ?_
   rintro⟨y,i3,h3⟩ ⟨g3,j3⟩
   simp only at g3 j3
   simp(disch:=omega) [cur,e1,hlx,d5,VZ]
   refine hP (n - 1,_,i3,h3,x++ [y]) (g - 1) _ _ (by omega) ⟨by simp only;omega,j3,by simp;omega,fun z hz=> ?_⟩ (by simp(disch:=omega) [VZ];rfl) (by simp(disch:=omega) [VZ])
   rcases List.mem_append.1 hz with hz|hz
   ·exact h7 z hz
   ·simp only[List.mem_singleton]at hz;subst hz;omega
 ·simp(disch:=omega) [cur,VZ]
  exact⟨x,i2,⟨⟨by omega,h7⟩,h5⟩,rfl,rfl⟩
theorem AJ:bb.wc:=by
 refine⟨⟨⟨by decide,by decide⟩,⟨by decide,by decide⟩,⟨by decide,by decide⟩,by simp[bb,Sz],by simp[bb,Sz],⟨⟨by decide,by decide⟩,⟨by decide,by decide⟩,by simp[bb,fD,Sz],by simp[bb,fD,Sz],by simp[bb,fD,Sz]⟩⟩,fun x hx=>by simp[bb,fD]at hx⟩
def Ax (l:aj) (h:Head) (t:List Bytes):Block:=if cm l (eL h t)=true then eL h t else aE
theorem IK {l:aj} {h:Head} {t:List Bytes} (hw:h.wc) (ht:t.length≤8∧∀y∈t,y.length≤6):(Ax l h t).wx:=by
 have hb:oE t:=⟨by unfold Sz;omega,fun x hx=>by have:=ht.2 x hx;unfold Sz;omega⟩
 unfold Ax
 split
 ·exact⟨xb hw hb,fun x hx=>by have:=ht.2 x hx;omega⟩
 ·exact⟨⟨AJ,by simp[aE,oE,Sz]⟩,by simp[aE]⟩
theorem vF (l:aj) (h:Head) (t:List Bytes) (hw:h.wc) (ht:t.length≤8∧∀y∈t,y.length≤6):VC cd gU (aH [(true,l.c),(true,h.c),(false,[.sl (bz t)])]) (fun rs _=>rs= [(true,(Ax l h t).o),(false,[.p (.bool (cm l (eL h t)))])]):=
 (xL l h t hw ⟨by unfold Sz;omega,fun x hx=>by have:=ht.2 x hx;unfold Sz;omega⟩ (fun x hx=>by have:=ht.2 x hx;omega)).own fun rs ps q=>by
   rw[q,yI,Ax]
   by_cases h0:cm l (eL h t)=true
   ·rw[if_pos h0,if_pos h0,h0]
    exact⟨_,by simp[aJ,aO,aT,eL,Block.o],rfl⟩
   ·have h1:cm l (eL h t)=false:=by simpa using h0
    rw[if_neg h0,if_neg h0,h1]
    exact⟨_,by simp[aJ,aO,aT,Block.o,aE,bb,fD,ag,bz],rfl⟩
abbrev pR:Nat:=189
def o6:AF:=⟨2,5,[.cell 4 11 true],(.seq (.ops [.i (.lbox 3 (.s 1)), .i (.lal 4 [.int .i64 0, .int .i64 0, .int .i64 0, .nils, .nils, .int .i64 0, .int .i64 0, .nils, .nils, .nils, .nils])]) (.seq (.ops [ql 8 3 3 5 true,qm 9 0,ql 10 3 3 5 true, .i (.call 12 187 false [(.s 9),(.s 10)]),qm 12 0,ql 13 3 3 5 true, .i (.call 15 270 false [(.s 12),(.s 13)]), .i (.call 16 269 false [(.s 8),(.s 11),(.s 14)]),qm 7 15, .i (.ext 16 (.s 7) 0), .i (.ext 17 (.s 7) 1), .i (.lal 5 [.int .i64 0, .int .i64 0, .int .i64 0, .nils, .nils, .int .i64 0, .int .i64 0, .nils, .nils, .nils, .nils]),qs 5 5 16 11,qm 6 17]) (.seq (.ops [ql 18 5 5 11 true,qs 4 4 18 11]) .ret)))⟩
theorem AL:cd pR=some o6:=by kernel_rfl
theorem G3 (b:Bytes) (i:Nat) (h:Int) (l:aj) (hl:l.rd) (hi:i≤b.length) (hb:b.length≤1073741824):VC cd pR (ic [] 133 (cur b i h) [(true,l.c)]) (fun r p=>∃x:Block×Nat×Int,(x.1.wx∧x.2.1≤b.length)∧r= [(true,x.1.o)]∧p= [.pt 133 (cur b x.2.1 x.2.2)]):=by
 refine aw AL rfl ?_
 simp(disch:=omega) [o6,cur,aj.c,VZ]
 refine cq (kA b i h l hl.1 hi hb) ?_ (n1:=by intro _;simp(disch:=omega) [aj.c,Head.o,VZ]) (n3:=by intro _;simp(disch:=omega) [aj.c,Head.o,VZ])
 rintro⟨x1,i1,h1⟩ ⟨g1,j1⟩
 simp only at g1 j1
 simp(disch:=omega) [cur,Head.o,VZ]
 refine cq (Ie b i1 h1 l hl j1 hb) ?_ (n1:=by intro _;simp(disch:=omega) [aj.c,VZ]) (n3:=by intro _;simp(disch:=omega) [aj.c,VZ])
 rintro⟨x2,i2,h2⟩ ⟨g2,j2⟩
 simp only at g2 j2
 simp(disch:=omega) [cur,VZ]
 refine av (vF l x1 x2 g1 g2) ?_ (ha:=by first|rfl|(simp[aj.c,Head.c,VY] <;>repeat' constructor))
 have hw:=IK (l:=l) g1 g2
 generalize Ax l x1 x2=y at hw
 simp(disch:=omega) [cur,Block.o,VZ]
 exact⟨y,i2,⟨hw,j2⟩,by simp,rfl⟩
end Go.Eng.F
namespace Go.Eng.F
abbrev pS:Nat:=191
def pn:AF:=⟨2,6,[.cell 4 2 true],(.seq (.ops [.i (.lbox 3 (.s 1)), .i (.lal 4 [.int .i64 0, .nils])]) (.seq (.ops [qm 7 0, .i (.call 9 97 false [(.s 7),(qi 200)]), .i (.bin 9 .add (qi 1) (.s 8)), .i (.bld 10 [.int .i64 0, .nils] [(0,1,(.s 9))]), .i (.lal 5 [.int .i64 0, .nils]),qs 5 5 10 2]) (.seq (.seq (.ops [.i (.mov 6 (qi 0))]) (.block 0 (.loop [32,31,30,29,28,27,26,25,24,23,22,21,20,19,18,17,16,15,14,13,12,11] (.seq (.seq (.ops [qm 11 6,qf 12 3 0,ql 13 3 12 1 false,qd 14 .lss 11 13]) (.cond (.s 14) .skip (.exit 0))) (.seq (.block 1 (.seq (.ops [qm 17 0, .i (.call 19 135 false [(.s 17),(qi 3)]), .i (.not 19 (.s 18))]) (.cond (.s 19) (.ops [qf 20 5 1,ql 21 5 20 1 false,qm 22 6,qm 23 0,qf 24 5 0,ql 25 5 24 1 false, .i (.call 27 97 false [(.s 23),(.s 25)]),qm 27 0,qk 29 242 27, .i (.bld 29 [.int .i64 0, .int .i64 0, .nils] [(0,1,(.s 22)),(1,1,(.s 26)),(2,1,(.s 28))]), .i (.lsl 30 3 1 [.int .i64 0, .int .i64 0, .nils] [(0,3,(.s 29))]), .i (.app 31 165 3 40 (.s 21) (.s 30)),qf 32 5 1,qs 5 32 31 1]) .skip))) (.ops [qm 15 6, .i (.bin 16 .add (.s 15) (qi 1)),qm 6 16])))))) (.seq (.ops [ql 33 5 5 2 true,qs 4 4 33 2]) .ret))))⟩
theorem Aa:cd pS=some pn:=by kernel_rfl
theorem GX (b:Bytes) (i:Nat) (h:Int) (l:aj) (hl:1≤l.n∧l.n≤10) (hi:i≤b.length) (hb:b.length≤1073741824):VC cd pS (ic [] 133 (cur b i h) [(true,l.c)]) (fun r p=>∃x:Tc×Nat×Int,(x.1.wf∧x.2.1≤b.length)∧r= [(true,x.1.o)]∧p= [.pt 133 (cur b x.2.1 x.2.2)]):=by
 refine aw Aa rfl ?_
 simp(disch:=omega) [pn,cur,aj.c,VZ]
 refine cq (an b i h 200 (by omega) hi hb) ?_
 rintro⟨k1,i1,h1⟩ ⟨g1,j1⟩
 simp only at g1 j1
 simp(disch:=omega) [cur,VZ]
 refine cY (σ:=Nat×Nat×Nat×Int×List Entry) (f0:=_) (by simp(disch:=omega) [VZ];rfl) (cN.xU (s:=5) (k:=5) (i:=1) rfl rfl) (f1:=_) (es0:=_) (by simp(disch:=omega) [VZ];rfl) (by simp(disch:=omega) [VZ];rfl) (fun p=> [(6, .val false [.int .i64 (p.1:Int)]),(5, .box [.int .i64 (1+(k1:Int)), .ow 5 p.2.1])]) (fun p=> [(4096, .pt 0 133 [.sl (bytes b), .int .i64 (p.2.2.1:Int), .int .i64 p.2.2.2.1]),(5, .sl p.2.1 true true (some (165,3)) (kB p.2.2.2.2))])
  (fun p g=>(g:Int)+p.1=l.n∧p.2.2.1≤b.length∧p.2.2.2.2.length≤p.1∧∀r∈p.2.2.2.2,r.wf) (0,_,i1,h1,[]) l.n.toNat (by simp(disch:=omega) [VZ];rfl) (by simp(disch:=omega) [kB,VZ]) ⟨by simp only;omega,j1,by simp,by simp⟩ ?_
 rintro⟨n,v,i2,h2,x⟩ nx g ⟨hg,a5,a6,a7⟩ P hP
 simp only at hg a5 a6 a7
 have hlx:(kB x).length=x.length:=d8 x
 simp(disch:=omega) [VZ]
 refine ab (fun h8=> ?_) (fun h8=> ?_)
 ·simp(disch:=omega) [VZ]
  refine cq (fx b i2 h2 3 (by omega) a5 hb) ?_
  rintro⟨y,i3,h3⟩ j3
  simp only at j3
  cases y with
  |true=>
   simp(disch:=omega) [cur,VZ]
   exact hP (n+1,v,i3,h3,x) (g - 1) _ _ (by omega) ⟨by simp only;omega,j3,by simp only;omega,a7⟩ (by simp(disch:=omega) [VZ] <;>rfl) (by simp(disch:=omega) [VZ])
  |false=>
   simp(disch:=omega) [cur,VZ]
   refine cq (an b i3 h3 (1+k1) (by omega) j3 hb) ?_
   rintro⟨k4,i4,h4⟩ ⟨g4,j4⟩
   simp only at g4 j4
   simp(disch:=omega) [cur,VZ]
   refine cq (cC b i4 h4 j4 hb) ?_
   rintro⟨x5,i5,h5⟩ ⟨g5,j5⟩
   simp only at g5 j5
   simp(disch:=omega) [cur,hlx,Hv,VZ]
   refine hP (n+1,_,i5,h5,x++ [⟨n,k4,x5⟩]) (g - 1) _ _ (by omega) ⟨by simp only;omega,j5,by simp;omega,fun z hz=> ?_⟩ (by simp(disch:=omega) [VZ] <;>rfl) (by simp(disch:=omega) [VZ])
   rcases List.mem_append.1 hz with hz|hz
   ·exact a7 z hz
   ·simp only[List.mem_singleton]at hz
    subst hz
    exact⟨⟨by simp only;omega,by simp only;omega⟩,⟨by simp only;omega,by simp only;omega⟩,by unfold Sz;simp only;omega⟩
 ·simp(disch:=omega) [cur,VZ]
  refine⟨⟨1+k1,x⟩,i2,⟨⟨⟨by simp only;omega,by simp only;omega⟩,by unfold Sz;simp only;omega,a7⟩,a5⟩,rfl,rfl⟩
abbrev od:Nat:=193
def oN:AF:=⟨2,6,[.cell 4 6 true],(.seq (.ops [.i (.lbox 3 (.s 1)), .i (.lal 4 [.nils, .int .i64 0, .int .i64 0, .nils, .nils, .nils])]) (.seq (.ops [qm 7 0,ql 8 3 3 5 true,qm 9 0,qf 10 3 4,ql 11 3 10 1 false, .i (.bin 12 .sub (.s 11) (qi 2)), .i (.call 14 97 false [(.s 9),(.s 12)]), .i (.bin 14 .add (qi 3) (.s 13)), .i (.call 16 273 false [(.s 7),(.s 8),(.s 14)]),qm 16 0,ql 17 3 3 5 true, .i (.call 19 185 false [(.s 16),(.s 17)]), .i (.bld 19 [.nils, .int .i64 0, .int .i64 0, .nils, .nils, .nils] [(0,1,(.s 15)),(1,5,(.s 18))]), .i (.lal 5 [.nils, .int .i64 0, .int .i64 0, .nils, .nils, .nils]),qs 5 5 19 6]) (.seq (.ops [qf 20 5 0,ql 21 5 20 1 false,qf 22 5 0,ql 23 5 22 1 false,qn 24 23, .i (.bin 25 .sub (.s 24) (qi 1)), .i (.iad 26 (.s 21) (.s 25) 10), .i (.ldh 27 (.s 26) 10 true), .i (.lal 6 qz),qs 6 6 27 10]) (.seq (.ops [qf 28 6 0,ql 29 6 28 1 false,qf 30 5 1,qf 31 30 0,qs 5 31 29 1]) (.seq (.ops [qf 32 6 1,ql 33 6 32 1 false,qf 34 5 1,qf 35 34 1,qs 5 35 33 1]) (.seq (.ops [ql 36 3 3 5 true,ql 37 6 6 10 true, .i (.call 39 274 false [(.s 36),(.s 37)]),qf 39 5 1,qf 40 39 2,qs 5 40 38 1]) (.seq (.ops [ql 41 5 5 6 true,qs 4 4 41 6]) .ret)))))))⟩
theorem zP:cd od=some oN:=by kernel_rfl
theorem GZ (b:Bytes) (i:Nat) (h:Int) (l:aj) (hl:l.rd) (hi:i≤b.length) (hb:b.length≤1073741824):VC cd od (ic [] 133 (cur b i h) [(true,l.c)]) (fun r p=>∃x:Proof×Nat×Int,(x.1.wc∧x.2.1≤b.length)∧r= [(true,x.1.o)]∧p= [.pt 133 (cur b x.2.1 x.2.2)]):=by
 have hl4:=hl.2.2.2
 obtain⟨m,hm⟩:∃m:Nat,l.heads=(m:Int):=⟨l.heads.toNat,by omega⟩
 have em:(m:Int) - 2=((m - 2:Nat):Int):=by omega
 refine aw zP rfl ?_
 simp(disch:=omega) [oN,cur,aj.c,hm,em,VZ]
 refine cq (an b i h (m - 2) (by omega) hi hb) ?_
 rintro⟨k1,i1,h1⟩ ⟨g1,j1⟩
 simp only at g1 j1
 simp(disch:=omega) [cur,VZ]
 refine cq (Fu b i1 h1 ⟨l.n,l.tx,l.txs,l.frame,(m:Int)⟩ (3+k1) hl.1 (by omega) j1 hb) ?_ (n1:=by intro _;simp(disch:=omega) [aj.c,VZ]) (n3:=by intro _;simp(disch:=omega) [aj.c,VZ])
 rintro⟨x2,i2,h2⟩ ⟨⟨g2,w2⟩,j2⟩
 simp only at g2 w2 j2
 simp(disch:=omega) [cur,VZ]
 refine cq (sN b i2 h2 ⟨l.n,l.tx,l.txs,l.frame,(m:Int)⟩ hl.1 j2 hb) ?_ (n1:=by intro _;simp(disch:=omega) [aj.c,Qc.o,VZ]) (n3:=by intro _;simp(disch:=omega) [aj.c,Qc.o,VZ])
 rintro⟨x3,i3,h3⟩ ⟨g3,j3⟩
 simp only at g3 j3
 have w3:=g3.wc
 have hx:(fT x2).length=x2.length:=dq x2
 have e1:IntKind.i64.wrap ((x2.length:Int) - 1)=((x2.length - 1:Nat):Int):=by rw[sO (by omega) (by omega)];omega
 obtain⟨a,e2,hw⟩:∃a:Head,(∀hq:x2.length - 1 < (fT x2).length,(fT x2)[x2.length - 1]'hq=a.c)∧a.wc:=⟨x2[x2.length - 1]'(by omega),fun hq=>by simp[fT],w2 _ (List.getElem_mem _)⟩
 have hhl:=Cv ⟨l.n,l.tx,l.txs,l.frame,(m:Int)⟩ a
 simp(disch:=omega) [cur,Qc.o,hx,e1,e2,Head.c,VZ]
 refine av (iG ⟨l.n,l.tx,l.txs,l.frame,(m:Int)⟩ a hw.1) ?_ (ha:=by first|rfl|(simp[aj.c,Head.c,VY] <;>repeat' constructor))
 generalize lO ⟨l.n,l.tx,l.txs,l.frame,(m:Int)⟩ a=y at hhl
 simp(disch:=omega) [cur,Proof.o,VZ]
 refine⟨⟨x2,⟨a.view,a.height,y,x3.bits,x3.tags⟩⟩,i3,⟨?_,j3⟩,?_,rfl⟩
 ·obtain⟨⟨q1,q2,q3,q4,q5⟩,q6⟩:=w3
  have hs:Sz y.length:=by unfold Sz;omega
  exact⟨⟨⟨by unfold Sz;simp only;omega,fun z hz=>(w2 z hz).1⟩,⟨hw.1.1,hw.1.2.1,hs,q4,q5⟩⟩,w2,⟨hw.1.1,hw.1.2.1,hs,q4,q5⟩,q6⟩
 ·simp
end Go.Eng.F
namespace Go.Eng.F
structure Ev where
 kind:Int
 n:Int
 msg:bh
def Ev.c (e:Ev):List D:= .int .i64 e.kind:: .int .i64 e.n::e.msg.c
def GY (l:List Ev):List (List D):=l.map Ev.c
theorem Hl (l:List Ev):(GY l).length=l.length:=by simp[GY]
theorem Me:GY []= []:=rfl
theorem Hy (l:List Ev) (k n:Int) (m:bh):GY l++ [[.int .i64 k, .int .i64 n, .int .i64 m.kind, .int .i64 m.vote.view, .int .i64 m.vote.height, .sl (bytes m.vote.block), .int .i64 m.vote.who, .sl (bytes m.vote.tag), .int .i64 m.qc.view, .int .i64 m.qc.height, .sl (bytes m.qc.block), .sl (bytes m.qc.bits), .sl (bz m.qc.tags), .int .i64 m.head.view, .int .i64 m.head.height, .int .i64 m.head.proposer, .sl (bytes m.head.parent), .sl (bytes m.head.root), .int .i64 m.head.qc.view, .int .i64 m.head.qc.height, .sl (bytes m.head.qc.block), .sl (bytes m.head.qc.bits), .sl (bz m.head.qc.tags), .int .i64 m.block.head.view, .int .i64 m.block.head.height, .int .i64 m.block.head.proposer, .sl (bytes m.block.head.parent), .sl (bytes m.block.head.root), .int .i64 m.block.head.qc.view, .int .i64 m.block.head.qc.height, .sl (bytes m.block.head.qc.block), .sl (bytes m.block.head.qc.bits), .sl (bz m.block.head.qc.tags), .sl (bz m.block.txs), .int .i64 m.tc.view, .sl (kB m.tc.entries), .sl (fT m.proof.heads), .int .i64 m.proof.qc.view, .int .i64 m.proof.qc.height, .sl (bytes m.proof.qc.block), .sl (bytes m.proof.qc.bits), .sl (bz m.proof.qc.tags), .int .i64 m.incl.height, .int .i64 m.incl.n, .int .i64 m.incl.idx, .sl (bytes m.incl.tx), .sl (bz m.incl.path)]]=GY (l++ [⟨k,n,m⟩]):=by simp[GY,Ev.c,bh.c]
theorem CQ (l:List Ev) (k n:Int):GY l++ [[.int .i64 k, .int .i64 n, .int .i64 0, .int .i64 0, .int .i64 0, .sl [], .int .i64 0, .sl [], .int .i64 0, .int .i64 0, .sl [], .sl [], .sl [], .int .i64 0, .int .i64 0, .int .i64 0, .sl [], .sl [], .int .i64 0, .int .i64 0, .sl [], .sl [], .sl [], .int .i64 0, .int .i64 0, .int .i64 0, .sl [], .sl [], .int .i64 0, .int .i64 0, .sl [], .sl [], .sl [], .sl [], .int .i64 0, .sl [], .sl [], .int .i64 0, .int .i64 0, .sl [], .sl [], .sl [], .int .i64 0, .int .i64 0, .int .i64 0, .sl [], .sl []]]=GY (l++ [⟨k,n,aC⟩]):=by simp[GY,Ev.c,bh.c,aC,bx,fD,bb,aE,ia,aK,bq,bytes,bz,fT,kB]
def dy (s:Bytes) (a n:Nat):Bytes:=(s.drop (a+8)).take (n - 8)
def fI (k:Nat):List Ev:=if k=0 then []else [⟨1,k,aC⟩]
def vc (l:aj) (d:Bytes):Ev:=if(dec l d).2=0 then⟨3,0,(dec l d).1⟩else⟨2,(dec l d).2,aC⟩
def c8 (l:aj) (s:Bytes) (cl:Bool):Nat→Nat→Nat→List Ev→List Ev×Nat×Nat
 |0,a,k,e=>(e,k,a)
 |g+1,a,k,e=>
  if a < s.length then
   if(aq l s a).1=1∧cl=false then(e,k,a)
   else if(aq l s a).1≠3 then c8 l s cl g (a+1) (k+1) e
   else c8 l s cl g (a+(aq l s a).2.toNat) 0 (e++(fI k++ [vc l (dy s a (aq l s a).2.toNat)]))
  else(e,k,a)
def dV (l:aj) (s:Bytes) (cl:Bool) (k:Nat):List Ev×Nat×Nat:=
 let r:=c8 l s cl s.length 0 k []
 (r.1++(if cl=true then fI r.2.1 else []),r.2)
theorem IL {l:aj} {s:Bytes} {cl:Bool} {g a k:Nat} {e:List Ev} (h:¬a < s.length):c8 l s cl g a k e=(e,k,a):=by
 cases g
 ·rfl
 ·rw[c8,if_neg h]
theorem gI {l:aj} {s:Bytes} {a:Nat} (h:(aq l s a).1=3):∃n:Nat,aq l s a=(3,(n:Int))∧9≤n∧a+n≤s.length∧l.ok=true:=by
 unfold aq at h⊢
 split at h
 ·rename_i h1
  rw[if_pos h1]
  split at h
  ·rename_i h2
   rw[if_pos h2]
   split at h
   ·simp at h
   ·rename_i h3
    rw[if_neg h3]
    split at h
    ·simp at h
    ·rename_i h4
     rw[if_neg h4]
     split at h
     ·simp at h
     ·rename_i h5
      rw[if_neg h5]
      split at h
      ·simp at h
      ·rename_i h6
       rw[if_neg h6]
       split at h
       ·rename_i h7
        rw[if_pos h7]
        have h8:cw (u3 s a) 1 l.frame=true:=by simpa using h5
        have h9:=dv h8
        exact⟨8+u3 s a,by simp,by omega,by omega,h1.1⟩
       ·simp at h
  ·simp at h
 ·simp at h
theorem BF (l:aj) (s:Bytes) (a:Nat):(aq l s a).1=0∨(aq l s a).1=1∨(aq l s a).1=2∨(aq l s a).1=3:=by
 unfold aq
 repeat' split
 all_goals simp
theorem CO {s:Bytes} {a n:Nat}:(dy s a n).length≤s.length:=by simp[dy];omega
abbrev jI:Nat:=157
def jc:AF:=⟨3,5,[.tmp 6, .tmp 7],(.seq (.ops [.i (.lbox 3 (.s 0)), .i (.mov 6 (.c (.val false [.nils]))), .i (.mov 7 (qb false))]) (.seq (.ops [ql 11 3 3 5 true,qm 12 1,qm 13 2, .i (.call 15 128 false [(.s 11),(.s 12),(.s 13)]),qm 10 14, .i (.ext 15 (.s 10) 0), .i (.ext 16 (.s 10) 1),qm 8 15,qm 9 16]) (.seq (.seq (.ops [qm 17 8, .i (.bin 18 .neq (.s 17) (qi 3))]) (.cond (.s 18) (.seq (.ops [.i (.mov 6 (.c (.val false [.nils]))), .i (.mov 7 (qb false))]) .ret) .skip)) (.seq (.ops [qm 19 1,qm 20 2, .i (.bin 21 .add (.s 20) (qi 8)),qm 22 2,qm 23 9,qd 24 .add 22 23, .i (.dQ 25 1 (.s 19) (some (.s 21)) (some (.s 24))),qk 27 93 25,qm 6 26, .i (.mov 7 (qb true))]) .ret))))⟩
theorem wi:cd jI=some jc:=by kernel_rfl
theorem nh (l:aj) (s:Bytes) (a n:Nat) (hs:s.length≤1073741824) (h:aq l s a=(3,(n:Int))) (h9:9≤n) (hn:a+n≤s.length):VC cd jI (aH [(true,l.c),(false,[.sl (bytes s)]),(false,[.int .i64 (a:Int)])]) (fun rs _=>rs= [(false,[.o true (some (5,1)) (bytes (dy s a n))]),(false,[.p (.bool true)])]):=by
 have h0:=ga l s a hs (by omega)
 rw[h]at h0
 simp only[eJ]at h0
 have e1:List.take ((a:Int)+(n:Int) - ((a:Int)+8)).toNat (List.drop ((a:Int)+8).toNat (bytes s))=bytes (dy s a n):=by
  rw[show((a:Int)+8).toNat=a+8 by omega,show((a:Int)+(n:Int) - ((a:Int)+8)).toNat=n - 8 by omega,dy]
  simp only[bytes,←List.map_take,←List.map_drop]
 have f1:0≤(a:Int)+8:=by omega
 have f2:8≤(n:Int):=by omega
 have f3:(a:Int)+(n:Int)≤(s.length:Int):=by omega
 refine aa wi rfl ?_
 simp(disch:=omega) [jc,aj.c,VY]
 refine av (h0) ?_ (ha:=by first|rfl|(simp[aj.c,VY] <;>repeat' constructor))
 simp(disch:=omega) [f1,f2,f3,e1,VY]
 refine av (dL (dy s a n) (by have:=CO (s:=s) (a:=a) (n:=n);omega)) ?_
 simp(disch:=omega) [VY]
theorem Gd {l:aj} {s:Bytes} {cl:Bool} {g a k:Nat} {e:List Ev} (h:a < s.length) (h1:(aq l s a).1=1) (h2:cl=false):c8 l s cl (g+1) a k e=(e,k,a):=by
 rw[c8,if_pos h,if_pos ⟨h1,h2⟩]
theorem AK {l:aj} {s:Bytes} {cl:Bool} {g a k:Nat} {e:List Ev} (h:a < s.length) (h1:¬((aq l s a).1=1∧cl=false)) (h2:(aq l s a).1≠3):c8 l s cl (g+1) a k e=c8 l s cl g (a+1) (k+1) e:=by
 rw[c8,if_pos h,if_neg h1,if_pos h2]
theorem G4 {l:aj} {s:Bytes} {cl:Bool} {g a k n:Nat} {e:List Ev} (h:a < s.length) (h1:aq l s a=(3,(n:Int))):c8 l s cl (g+1) a k e=c8 l s cl g (a+n) 0 (e++(fI k++ [vc l (dy s a n)])):=by
 rw[c8,if_pos h,if_neg (by simp[h1]),if_neg (by simp[h1])]
 simp[h1]
def zw (r:List Ev×Nat×Nat):List (Bool×List E):= [(false,[.o true (some (107,47)) (GY r.1)]),(false,[.p (.int .i64 (r.2.1:Int))]),(false,[.p (.int .i64 (r.2.2:Int))])]
abbrev wQ:Nat:=94
def wY:AF:=⟨4,7,[.tmp 8, .tmp 9, .tmp 10],(.seq (.ops [.i (.lbox 4 (.s 0)), .i (.mov 8 (.c (.val false [.nils]))), .i (.mov 9 (qi 0)), .i (.mov 10 (qi 0))]) (.seq (.ops [.i (.bse 19),qm 11 19, .i (.mov 12 (qi 0))]) (.seq (.block 0 (.loop [80,79,78,77,76,75,74,73,72,71,70,69,68,67,66,65,64,63,62,61,60,59,58,57,56,55,54,53,52,51,50,49,48,47,46,45,44,43,42,41,40,39,38,37,36,35,34,33,32,31,30,29,28,27,26,25,24,23,22,21,20,18,17,16,15,14,13] (.seq (.seq (.ops [qm 20 12,qm 21 1,qn 22 21,qd 23 .lss 20 22]) (.cond (.s 23) .skip (.exit 0))) (.block 1 (.seq (.ops [ql 25 4 4 5 true,qm 26 1,qm 27 12, .i (.call 29 128 false [(.s 25),(.s 26),(.s 27)]),qm 24 28, .i (.ext 29 (.s 24) 0), .i (.ext 30 (.s 24) 1),qm 13 29,qm 14 30]) (.seq (.seq (.ops [qm 31 13, .i (.bin 32 .eql (.s 31) (qi 1)),qm 33 32, .g 33 true 35 (.mov 34 (.s 2)), .g 33 true 36 (.not 35 (.s 34)), .i (.pick 36 (.s 33) (.s 35) (qb false))]) (.cond (.s 36) (.seq (.ops [qm 37 11,qm 38 3,qm 39 12,qm 8 37,qm 9 38,qm 10 39]) .ret) .skip)) (.seq (.seq (.ops [qm 40 13, .i (.bin 41 .neq (.s 40) (qi 3))]) (.cond (.s 41) (.seq (.ops [qm 42 12, .i (.bin 43 .add (.s 42) (qi 1)),qm 12 43]) (.seq (.ops [qm 44 3, .i (.bin 45 .add (.s 44) (qi 1)),qm 3 45]) (.exit 1))) .skip)) (.seq (.seq (.ops [qm 46 3, .i (.bin 47 .neq (.s 46) (qi 0))]) (.cond (.s 47) (.ops [qm 48 11,qm 49 3, .i (.bld 50 [.int .i64 0, .int .i64 0, .int .i64 0, .int .i64 0, .int .i64 0, .nils, .int .i64 0, .nils, .int .i64 0, .int .i64 0, .nils, .nils, .nils, .int .i64 0, .int .i64 0, .int .i64 0, .nils, .nils, .int .i64 0, .int .i64 0, .nils, .nils, .nils, .int .i64 0, .int .i64 0, .int .i64 0, .nils, .nils, .int .i64 0, .int .i64 0, .nils, .nils, .nils, .nils, .int .i64 0, .nils, .nils, .int .i64 0, .int .i64 0, .nils, .nils, .nils, .int .i64 0, .int .i64 0, .int .i64 0, .nils, .nils] [(0,1,(qi 1)),(1,1,(.s 49))]), .i (.lsl 51 47 1 [.int .i64 0, .int .i64 0, .int .i64 0, .int .i64 0, .int .i64 0, .nils, .int .i64 0, .nils, .int .i64 0, .int .i64 0, .nils, .nils, .nils, .int .i64 0, .int .i64 0, .int .i64 0, .nils, .nils, .int .i64 0, .int .i64 0, .nils, .nils, .nils, .int .i64 0, .int .i64 0, .int .i64 0, .nils, .nils, .int .i64 0, .int .i64 0, .nils, .nils, .nils, .nils, .int .i64 0, .nils, .nils, .int .i64 0, .int .i64 0, .nils, .nils, .nils, .int .i64 0, .int .i64 0, .int .i64 0, .nils, .nils] [(0,47,(.s 50))]), .i (.app 52 107 47 744 (.s 48) (.s 51)),qm 11 52]) .skip)) (.seq (.ops [ql 54 4 4 5 true,qm 55 1,qm 56 12, .i (.call 58 157 false [(.s 54),(.s 55),(.s 56)]),qm 53 57, .i (.ext 58 (.s 53) 0), .i (.ext 59 (.s 53) 1),qm 15 58,qm 16 59]) (.seq (.seq (.ops [ql 61 4 4 5 true,qm 62 15, .i (.call 64 53 false [(.s 61),(.s 62)]),qm 60 63, .i (.ext 64 (.s 60) 0), .i (.ext 65 (.s 60) 1), .i (.lal 17 [.int .i64 0, .int .i64 0, .int .i64 0, .nils, .int .i64 0, .nils, .int .i64 0, .int .i64 0, .nils, .nils, .nils, .int .i64 0, .int .i64 0, .int .i64 0, .nils, .nils, .int .i64 0, .int .i64 0, .nils, .nils, .nils, .int .i64 0, .int .i64 0, .int .i64 0, .nils, .nils, .int .i64 0, .int .i64 0, .nils, .nils, .nils, .nils, .int .i64 0, .nils, .nils, .int .i64 0, .int .i64 0, .nils, .nils, .nils, .int .i64 0, .int .i64 0, .int .i64 0, .nils, .nils]),qs 17 17 64 45,qm 18 65]) (.seq (.ops [qm 66 18, .i (.bin 67 .eql (.s 66) (qi 0))]) (.cond (.s 67) (.ops [qm 68 11,ql 69 17 17 45 true, .i (.bld 70 [.int .i64 0, .int .i64 0, .int .i64 0, .int .i64 0, .int .i64 0, .nils, .int .i64 0, .nils, .int .i64 0, .int .i64 0, .nils, .nils, .nils, .int .i64 0, .int .i64 0, .int .i64 0, .nils, .nils, .int .i64 0, .int .i64 0, .nils, .nils, .nils, .int .i64 0, .int .i64 0, .int .i64 0, .nils, .nils, .int .i64 0, .int .i64 0, .nils, .nils, .nils, .nils, .int .i64 0, .nils, .nils, .int .i64 0, .int .i64 0, .nils, .nils, .nils, .int .i64 0, .int .i64 0, .int .i64 0, .nils, .nils] [(0,1,(qi 3)),(2,45,(.s 69))]), .i (.lsl 71 47 1 [.int .i64 0, .int .i64 0, .int .i64 0, .int .i64 0, .int .i64 0, .nils, .int .i64 0, .nils, .int .i64 0, .int .i64 0, .nils, .nils, .nils, .int .i64 0, .int .i64 0, .int .i64 0, .nils, .nils, .int .i64 0, .int .i64 0, .nils, .nils, .nils, .int .i64 0, .int .i64 0, .int .i64 0, .nils, .nils, .int .i64 0, .int .i64 0, .nils, .nils, .nils, .nils, .int .i64 0, .nils, .nils, .int .i64 0, .int .i64 0, .nils, .nils, .nils, .int .i64 0, .int .i64 0, .int .i64 0, .nils, .nils] [(0,47,(.s 70))]), .i (.app 72 107 47 744 (.s 68) (.s 71)),qm 11 72]) (.ops [qm 73 11,qm 74 18, .i (.bld 75 [.int .i64 0, .int .i64 0, .int .i64 0, .int .i64 0, .int .i64 0, .nils, .int .i64 0, .nils, .int .i64 0, .int .i64 0, .nils, .nils, .nils, .int .i64 0, .int .i64 0, .int .i64 0, .nils, .nils, .int .i64 0, .int .i64 0, .nils, .nils, .nils, .int .i64 0, .int .i64 0, .int .i64 0, .nils, .nils, .int .i64 0, .int .i64 0, .nils, .nils, .nils, .nils, .int .i64 0, .nils, .nils, .int .i64 0, .int .i64 0, .nils, .nils, .nils, .int .i64 0, .int .i64 0, .int .i64 0, .nils, .nils] [(0,1,(qi 2)),(1,1,(.s 74))]), .i (.lsl 76 47 1 [.int .i64 0, .int .i64 0, .int .i64 0, .int .i64 0, .int .i64 0, .nils, .int .i64 0, .nils, .int .i64 0, .int .i64 0, .nils, .nils, .nils, .int .i64 0, .int .i64 0, .int .i64 0, .nils, .nils, .int .i64 0, .int .i64 0, .nils, .nils, .nils, .int .i64 0, .int .i64 0, .int .i64 0, .nils, .nils, .int .i64 0, .int .i64 0, .nils, .nils, .nils, .nils, .int .i64 0, .nils, .nils, .int .i64 0, .int .i64 0, .nils, .nils, .nils, .int .i64 0, .int .i64 0, .int .i64 0, .nils, .nils] [(0,47,(.s 75))]), .i (.app 77 107 47 744 (.s 73) (.s 76)),qm 11 77])))) (.ops [qm 78 12,qm 79 14,qd 80 .add 78 79,qm 12 80, .i (.mov 3 (qi 0))]))))))))))) (.seq (.seq (.ops [qm 81 2,qm 82 81, .g 82 true 84 (.mov 83 (.s 3)), .g 82 true 85 (.bin 84 .neq (.s 83) (qi 0)), .i (.pick 85 (.s 82) (.s 84) (qb false))]) (.cond (.s 85) (.ops [qm 86 11,qm 87 3, .i (.bld 88 [.int .i64 0, .int .i64 0, .int .i64 0, .int .i64 0, .int .i64 0, .nils, .int .i64 0, .nils, .int .i64 0, .int .i64 0, .nils, .nils, .nils, .int .i64 0, .int .i64 0, .int .i64 0, .nils, .nils, .int .i64 0, .int .i64 0, .nils, .nils, .nils, .int .i64 0, .int .i64 0, .int .i64 0, .nils, .nils, .int .i64 0, .int .i64 0, .nils, .nils, .nils, .nils, .int .i64 0, .nils, .nils, .int .i64 0, .int .i64 0, .nils, .nils, .nils, .int .i64 0, .int .i64 0, .int .i64 0, .nils, .nils] [(0,1,(qi 1)),(1,1,(.s 87))]), .i (.lsl 89 47 1 [.int .i64 0, .int .i64 0, .int .i64 0, .int .i64 0, .int .i64 0, .nils, .int .i64 0, .nils, .int .i64 0, .int .i64 0, .nils, .nils, .nils, .int .i64 0, .int .i64 0, .int .i64 0, .nils, .nils, .int .i64 0, .int .i64 0, .nils, .nils, .nils, .int .i64 0, .int .i64 0, .int .i64 0, .nils, .nils, .int .i64 0, .int .i64 0, .nils, .nils, .nils, .nils, .int .i64 0, .nils, .nils, .int .i64 0, .int .i64 0, .nils, .nils, .nils, .int .i64 0, .int .i64 0, .int .i64 0, .nils, .nils] [(0,47,(.s 88))]), .i (.app 90 107 47 744 (.s 86) (.s 89)),qm 11 90]) .skip)) (.seq (.ops [qm 91 11,qm 92 3,qm 93 12,qm 8 91,qm 9 92,qm 10 93]) .ret)))))⟩
theorem Et:cd wQ=some wY:=by kernel_rfl
theorem tK (l:aj) (s:Bytes) (cl:Bool) (k0:Nat) (hs:s.length≤1073741824) (hk:k0≤1152921504606846975):VC cd wQ (aH [(true,l.c),(false,[.sl (bytes s)]),(false,[.bool cl]),(false,[.int .i64 (k0:Int)])]) (fun rs _=>rs=zw (dV l s cl k0)):=by
 refine aa Et rfl ?_
 simp(disch:=omega) [wY,aj.c,VZ]
 refine bH (σ:=Nat×Nat×Nat×List Ev) (f1:=_) (es0:=_) (by simp(disch:=omega) [VZ];rfl) (by simp(disch:=omega) [VZ];rfl) (fun p=> [(12, .val false [.int .i64 (p.1:Int)]),(3, .val false [.int .i64 (p.2.1:Int)]),(11, .val false [.ow 19 p.2.2.1])]) (fun p=> [(19, .sl p.2.2.1 true true (some (107,47)) (GY p.2.2.2))])
  (fun p g=>s.length≤g+p.1∧p.1≤s.length∧p.2.1≤k0+p.1∧p.2.2.2.length≤2 * p.1∧c8 l s cl s.length 0 k0 []=c8 l s cl g p.1 p.2.1 p.2.2.2) (0,k0,_,[]) s.length (by simp(disch:=omega) [VZ];rfl) (by simp(disch:=omega) [GY,VZ]) ⟨by simp,by simp,by simp,by simp,rfl⟩ ?_
 rintro⟨a,k,v,x⟩ nx g ⟨hg,h5,h6,h7,h8⟩ P hP
 simp only at hg h5 h6 h7 h8
 have hl:(GY x).length=x.length:=Hl x
 simp(disch:=omega) [VZ]
 refine ab (fun h9=> ?_) (fun h9=> ?_)
 ·obtain⟨g1,rfl⟩:∃g1,g=g1+1:=⟨g - 1,by omega⟩
  have h0:=ga l s a hs (by omega)
  have hc:=BF l s a
  rcases hf:aq l s a with⟨st,n⟩
  rw[hf]at h0 hc
  simp only[eJ]at h0
  simp only at hc
  simp(disch:=omega) [VZ]
  refine av (h0) ?_ (ha:=by first|rfl|(simp[aj.c,VY] <;>repeat' constructor))
  rcases hc with rfl|rfl|rfl|rfl
  case inr.inl=>
   cases cl with
   |false=>
    rw[Gd h9 (by rw[hf]) rfl]at h8
    simp(disch:=omega) [dV,zw,h8,VZ]
   |true=>
    rw[AK h9 (by simp) (by rw[hf];simp)]at h8
    simp(disch:=omega) [VZ]
    exact hP (a+1,k+1,v,x) g1 _ _ (by omega) ⟨by simp only;omega,by simp only;omega,by simp only;omega,by simp only;omega,h8⟩ (by simp(disch:=omega) [VZ] <;>rfl) (by simp(disch:=omega) [VZ])
  case inr.inr.inr=>
   obtain⟨n',hf',n9,nl,hok⟩:=gI (by rw[hf]:(aq l s a).1=3)
   rw[hf]at hf'
   obtain rfl:n=(n':Int):=by simpa using hf'
   rw[G4 h9 hf]at h8
   have hfl:=CO (s:=s) (a:=a) (n:=n')
   have hd:=yx (dy s a n') l (by omega)
   have he:vc l (dy s a n')=if(dec l (dy s a n')).2=0 then⟨3,0,(dec l (dy s a n')).1⟩else⟨2,(dec l (dy s a n')).2,aC⟩:=rfl
   rw[he]at h8
   clear he
   generalize dec l (dy s a n')=d at hd h8
   obtain⟨dm,dc⟩:=d
   simp only[fP,bh.o]at hd h8
   by_cases k1:k=0
   ·subst k1
    simp(disch:=omega) [VZ]
    refine av (nh l s a n' hs hf n9 nl) ?_ (ha:=by first|rfl|(simp[aj.c,VY] <;>repeat' constructor))
    simp(disch:=omega) [VZ]
    refine av (hd) ?_ (ha:=by first|rfl|(simp[aj.c,VY] <;>repeat' constructor))
    by_cases d0:dc=0
    ·subst d0
     simp(disch:=omega) [Hy,hl,VZ]
     exact hP (a+n',0,_,x++ [⟨3,0,dm⟩]) g1 _ _ (by omega) ⟨by simp only;omega,by simp only;omega,by simp only;omega,by simp only[List.length_append,List.length_cons,List.length_nil];omega,by rw[h8];simp[fI]⟩ (by simp(disch:=omega) [VZ] <;>rfl) (by simp(disch:=omega) [VZ])
    ·simp(disch:=omega) [d0,CQ,hl,VZ]
     exact hP (a+n',0,_,x++ [⟨2,dc,aC⟩]) g1 _ _ (by omega) ⟨by simp only;omega,by simp only;omega,by simp only;omega,by simp only[List.length_append,List.length_cons,List.length_nil];omega,by rw[h8];simp[fI,d0]⟩ (by simp(disch:=omega) [VZ] <;>rfl) (by simp(disch:=omega) [VZ])
   ·simp(disch:=omega) [k1,CQ,hl,VZ]
    refine av (nh l s a n' hs hf n9 nl) ?_ (ha:=by first|rfl|(simp[aj.c,VY] <;>repeat' constructor))
    have hl3:(GY (x++ [⟨1,(k:Int),aC⟩])).length=x.length+1:=by simp[Hl]
    simp(disch:=omega) [VZ]
    refine av (hd) ?_ (ha:=by first|rfl|(simp[aj.c,VY] <;>repeat' constructor))
    by_cases d0:dc=0
    ·subst d0
     simp(disch:=omega) [Hy,hl3,VZ]
     exact hP (a+n',0,_,x++ [⟨1,(k:Int),aC⟩]++ [⟨3,0,dm⟩]) g1 _ _ (by omega) ⟨by simp only;omega,by simp only;omega,by simp only;omega,by simp only[List.length_append,List.length_cons,List.length_nil];omega,by rw[h8];simp[fI,k1]⟩ (by simp(disch:=omega) [VZ] <;>rfl) (by simp(disch:=omega) [VZ])
    ·simp(disch:=omega) [d0,CQ,hl3,VZ]
     exact hP (a+n',0,_,x++ [⟨1,(k:Int),aC⟩]++ [⟨2,dc,aC⟩]) g1 _ _ (by omega) ⟨by simp only;omega,by simp only;omega,by simp only;omega,by simp only[List.length_append,List.length_cons,List.length_nil];omega,by rw[h8];simp[fI,k1,d0]⟩ (by simp(disch:=omega) [VZ] <;>rfl) (by simp(disch:=omega) [VZ])
  all_goals
   rw[AK h9 (by rw[hf];simp) (by rw[hf];simp)]at h8
   simp(disch:=omega) [VZ]
   exact hP (a+1,k+1,v,x) g1 _ _ (by omega) ⟨by simp only;omega,by simp only;omega,by simp only;omega,by simp only;omega,h8⟩ (by simp(disch:=omega) [VZ] <;>rfl) (by simp(disch:=omega) [VZ])
 ·rw[IL h9]at h8
  cases cl with
  |false=>simp(disch:=omega) [dV,zw,h8,VZ]
  |true=>
   by_cases k1:k=0
   ·simp(disch:=omega) [k1,dV,zw,h8,fI,VZ]
   ·simp(disch:=omega) [k1,dV,zw,h8,fI,CQ,hl,VZ]
end Go.Eng.F
