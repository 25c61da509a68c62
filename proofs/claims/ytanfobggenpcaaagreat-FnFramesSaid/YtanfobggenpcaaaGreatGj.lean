import Derived.Test.YtanfobggenpcaaaGreatGb
import Derived.Test.YtanfobggenpcaaaGreatGg
import Derived.Test.YtanfobggenpcaaaGreatGi
set_option maxRecDepth 100000
set_option linter.unusedSimpArgs false
set_option linter.unusedVariables false
namespace Go.Eng.F
def Ed (l:List aC):List (List D):=l.map aC.c
theorem Bp (l:List aC):(Ed l).length=l.length:=by simp[Ed]
theorem LS (l:List aC) (m:aC):Ed l++ [[.int .i64 m.kind, .int .i64 m.vote.view, .int .i64 m.vote.height, .sl (bytes m.vote.block), .int .i64 m.vote.who, .sl (bytes m.vote.tag), .int .i64 m.qc.view, .int .i64 m.qc.height, .sl (bytes m.qc.block), .sl (bytes m.qc.bits), .sl (bD m.qc.tags), .int .i64 m.head.view, .int .i64 m.head.height, .int .i64 m.head.proposer, .sl (bytes m.head.parent), .sl (bytes m.head.root), .int .i64 m.head.qc.view, .int .i64 m.head.qc.height, .sl (bytes m.head.qc.block), .sl (bytes m.head.qc.bits), .sl (bD m.head.qc.tags), .int .i64 m.block.head.view, .int .i64 m.block.head.height, .int .i64 m.block.head.proposer, .sl (bytes m.block.head.parent), .sl (bytes m.block.head.root), .int .i64 m.block.head.qc.view, .int .i64 m.block.head.qc.height, .sl (bytes m.block.head.qc.block), .sl (bytes m.block.head.qc.bits), .sl (bD m.block.head.qc.tags), .sl (bD m.block.txs), .int .i64 m.tc.view, .sl (g9 m.tc.entries), .sl (et m.proof.heads), .int .i64 m.proof.qc.view, .int .i64 m.proof.qc.height, .sl (bytes m.proof.qc.block), .sl (bytes m.proof.qc.bits), .sl (bD m.proof.qc.tags), .int .i64 m.incl.height, .int .i64 m.incl.n, .int .i64 m.incl.idx, .sl (bytes m.incl.tx), .sl (bD m.incl.path)]]=Ed (l++ [m]):=by simp[Ed,aC.c]
theorem Lo {l:List Ev} {i:Nat} (h:i < l.length):(EW l)[i]? =some (l[i].c):=by simp[EW,h]
abbrev jQ:Nat:=140
def jz:AF:=⟨1,5,[.cell 2 45 true],(.seq (.ops [.i (.lbox 1 (.s 0)), .i (.lal 2 [.int .i64 0, .int .i64 0, .int .i64 0, .nils, .int .i64 0, .nils, .int .i64 0, .int .i64 0, .nils, .nils, .nils, .int .i64 0, .int .i64 0, .int .i64 0, .nils, .nils, .int .i64 0, .int .i64 0, .nils, .nils, .nils, .int .i64 0, .int .i64 0, .int .i64 0, .nils, .nils, .int .i64 0, .int .i64 0, .nils, .nils, .nils, .nils, .int .i64 0, .nils, .nils, .int .i64 0, .int .i64 0, .nils, .nils, .nils, .int .i64 0, .int .i64 0, .int .i64 0, .nils, .nils])]) (.seq (.ops [qf 3 1 0,ql 4 1 3 1 false,qf 5 1 1,ql 6 1 5 5 true,qk 8 196 6, .i (.fld 8 (.s 7) 1 5 true),qf 9 1 6,ql 10 1 9 5 true,qk 12 204 10,qf 12 1 11,ql 13 1 12 10 true,qk 15 205 13,qf 15 1 21,ql 16 1 15 11 true,qk 18 206 16,qf 18 1 32,ql 19 1 18 2 true,qk 21 207 19,qf 21 1 34,ql 22 1 21 6 true,qk 24 208 22,qf 24 1 40,ql 25 1 24 5 true,qk 27 209 25, .i (.bld 27 [.int .i64 0, .int .i64 0, .int .i64 0, .nils, .int .i64 0, .nils, .int .i64 0, .int .i64 0, .nils, .nils, .nils, .int .i64 0, .int .i64 0, .int .i64 0, .nils, .nils, .int .i64 0, .int .i64 0, .nils, .nils, .nils, .int .i64 0, .int .i64 0, .int .i64 0, .nils, .nils, .int .i64 0, .int .i64 0, .nils, .nils, .nils, .nils, .int .i64 0, .nils, .nils, .int .i64 0, .int .i64 0, .nils, .nils, .nils, .int .i64 0, .int .i64 0, .int .i64 0, .nils, .nils] [(0,1,(.s 4)),(1,5,(.s 8)),(6,5,(.s 11)),(11,10,(.s 14)),(21,11,(.s 17)),(32,2,(.s 20)),(34,6,(.s 23)),(40,5,(.s 26))]),qs 2 2 27 45]) .ret))⟩
theorem x9:cd jQ=some jz:=by kernel_rfl
theorem Ez (m:aC) (hw:m.wc):VC cd jQ (aD [(true,m.c)]) (fun rs _=>rs= [(true,m.o)]):=by
 refine aa x9 rfl ?_
 simp(disch:=omega) [jz,aC.c,VZ]
 refine ao (pG m.vote hw.vote) ?_ (ha:=by first|rfl|(simp[bg.c,VY] <;>repeat' constructor))
 simp(disch:=omega) [dV,VZ]
 refine ao (iw m.qc hw.qc) ?_ (ha:=by first|rfl|(simp[Qc.c,VY] <;>repeat' constructor))
 simp(disch:=omega) [Qc.o,VZ]
 refine ao (fW m.head hw.head) ?_ (ha:=by first|rfl|(simp[Head.c,VY] <;>repeat' constructor))
 simp(disch:=omega) [Head.o,VZ]
 refine ao (ob m.block hw.block.1) ?_ (ha:=by first|rfl|(simp[Block.c,Head.c,VY] <;>repeat' constructor))
 simp(disch:=omega) [Block.o,VZ]
 refine ao (xb m.tc hw.tc) ?_ (ha:=by first|rfl|(simp[Tc.c,VY] <;>repeat' constructor))
 simp(disch:=omega) [VZ]
 refine ao (nr m.proof hw.proof) ?_ (ha:=by first|rfl|(simp[Proof.c,VY] <;>repeat' constructor))
 simp(disch:=omega) [Proof.o,VZ]
 refine ao (qP m.incl hw.incl) ?_ (ha:=by first|rfl|(simp[aX.c,VY] <;>repeat' constructor))
 simp(disch:=omega) [aX.o,aC.o,VZ]
def dS (l:List Ev):List aC:=(l.filter fun e=>decide (e.kind=3)).map Ev.msg
theorem NY {l:List Ev} {i:Nat} (h:i < l.length) (k:l[i].kind=3):dS (l.take (i+1))=dS (l.take i)++ [l[i].msg]:=by
 rw[List.take_add_one,List.getElem?_eq_getElem h]
 show dS (l.take i++ [l[i]])=_
 rw[dS,List.filter_append,List.map_append]
 congr 1
 simp[k]
theorem Nz {l:List Ev} {i:Nat} (h:i < l.length) (k:¬l[i].kind=3):dS (l.take (i+1))=dS (l.take i):=by
 rw[List.take_add_one,List.getElem?_eq_getElem h]
 show dS (l.take i++ [l[i]])=_
 rw[dS,List.filter_append,List.map_append]
 have:List.filter (fun e:Ev=>decide (e.kind=3)) [l[i]]= []:=by simp[k]
 rw[this]
 simp[dS]
theorem KL (l:List Ev) (i:Nat):(dS (l.take i)).length≤l.length:=by
 simp only[dS,List.length_map]
 exact Nat.le_trans (List.length_filter_le _ _) (by simp;omega)
abbrev zE:Nat:=62
def zW:AF:=⟨1,5,[.tmp 2],(.seq (.ops [.i (.mov 2 (.c (.val false [.nils])))]) (.seq (.ops [.i (.bse 6),qm 3 6]) (.seq (.seq (.ops [qm 7 0,qn 8 7, .i (.mov 9 (qi 0))]) (.block 0 (.loop [22,21,20,19,18,17,16,15,14,13,12,11,10,5] (.seq (.ops [qd 10 .lss 9 8]) (.seq (.cond (.s 10) .skip (.exit 0)) (.seq (.block 1 (.seq (.ops [.i (.iad 11 (.s 7) (.s 9) 47), .i (.ldh 12 (.s 11) 47 true), .i (.lal 5 [.int .i64 0, .int .i64 0, .int .i64 0, .int .i64 0, .int .i64 0, .nils, .int .i64 0, .nils, .int .i64 0, .int .i64 0, .nils, .nils, .nils, .int .i64 0, .int .i64 0, .int .i64 0, .nils, .nils, .int .i64 0, .int .i64 0, .nils, .nils, .nils, .int .i64 0, .int .i64 0, .int .i64 0, .nils, .nils, .int .i64 0, .int .i64 0, .nils, .nils, .nils, .nils, .int .i64 0, .nils, .nils, .int .i64 0, .int .i64 0, .nils, .nils, .nils, .int .i64 0, .int .i64 0, .int .i64 0, .nils, .nils]),qs 5 5 12 47]) (.seq (.ops [qf 13 5 0,ql 14 5 13 1 false, .i (.bin 15 .eql (.s 14) (qi 3))]) (.cond (.s 15) (.ops [qm 16 3,qf 17 5 2,ql 18 5 17 45 true,qk 20 140 18, .i (.lsl 20 45 1 [.int .i64 0, .int .i64 0, .int .i64 0, .nils, .int .i64 0, .nils, .int .i64 0, .int .i64 0, .nils, .nils, .nils, .int .i64 0, .int .i64 0, .int .i64 0, .nils, .nils, .int .i64 0, .int .i64 0, .nils, .nils, .nils, .int .i64 0, .int .i64 0, .int .i64 0, .nils, .nils, .int .i64 0, .int .i64 0, .nils, .nils, .nils, .nils, .int .i64 0, .nils, .nils, .int .i64 0, .int .i64 0, .nils, .nils, .nils, .int .i64 0, .int .i64 0, .int .i64 0, .nils, .nils] [(0,45,(.s 19))]), .i (.app 21 57 45 728 (.s 16) (.s 20)),qm 3 21]) .skip)))) (.ops [.i (.bin 22 .add (.s 9) (qi 1)),qm 9 22]))))))) (.seq (.ops [qm 23 3,qm 2 23]) .ret))))⟩
theorem Ih:cd zE=some zW:=by kernel_rfl
theorem Gf (l:List Ev) (hl:l.length≤1073741824) (hw:∀e∈l,e.msg.wc):VC cd zE (aD [(false,[.sl (EW l)])]) (fun rs _=>rs= [(false,[.o true (some (57,45)) (Ed (dS l))])]):=by
 refine aa Ih rfl ?_
 simp(disch:=omega) [zW,xk,VZ]
 refine bo (σ:=Nat×Nat×List aC) (f1:=_) (es0:=_) (by simp(disch:=omega) [VZ];rfl) (by simp(disch:=omega) [VZ];rfl) (fun p=> [(9, .val false [.int .i64 (p.1:Int)]),(3, .val false [.ow 6 p.2.1])]) (fun p=> [(6, .sl p.2.1 true true (some (57,45)) (Ed p.2.2))])
  (fun p g=>g+p.1=l.length∧p.2.2=dS (l.take p.1)) (0,_,[]) l.length (by simp(disch:=omega) [VZ];rfl) (by simp(disch:=omega) [Ed,VZ]) ⟨by simp,by simp[dS]⟩ ?_
 rintro⟨i,v,x⟩ nx g ⟨hg,h5⟩ P hP
 simp only at hg h5
 have hml:=KL l i
 rw[←h5]at hml
 have hl2:(Ed x).length=x.length:=Bp x
 simp(disch:=omega) [VZ]
 refine ab (fun h8=> ?_) (fun h8=> ?_)
 ·simp(disch:=omega) [Lo h8,Ev.c,aC.c,VZ]
  by_cases k3:l[i].kind=3
  ·simp(disch:=omega) [k3,VZ]
   refine ao (Ez l[i].msg (hw _ (List.getElem_mem h8))) ?_ (ha:=by first|rfl|(simp[aC.c,VY] <;>repeat' constructor))
   simp(disch:=omega) [aC.o,LS,hl2,VZ]
   exact hP (i+1,_,x++ [l[i].msg]) (g - 1) _ _ (by omega) ⟨by simp only;omega,by rw[h5];exact(NY h8 k3).symm⟩ (by simp(disch:=omega) [VZ] <;>rfl) (by simp(disch:=omega) [VZ])
  ·simp(disch:=omega) [k3,VZ]
   exact hP (i+1,v,x) (g - 1) _ _ (by omega) ⟨by simp only;omega,by rw[h5];exact(Nz h8 k3).symm⟩ (by simp(disch:=omega) [VZ] <;>rfl) (by simp(disch:=omega) [VZ])
 ·have:i=l.length:=by omega
  subst this
  rw[List.take_length]at h5
  simp(disch:=omega) [h5,VZ]
end Go.Eng.F
namespace Go.Eng.F
theorem kd {n:Int} (h:isNum n=true):((n.toNat:Nat):Int)=n∧n.toNat≤1152921504606846975:=by
 have:=cq h
 omega
theorem At.le {b:Bytes} {a:Nat} {s:Bytes} (h:At b a s) (h0:0 < s.length):a+s.length≤b.length:=by
 rcases h.len with h1|h1
 ·exact h1
 ·rw[h1]at h0;simp at h0
def Cut (b:Bytes) (a:Nat) (s:Bytes):Prop:=a≤b.length∧∃k,k < s.length∧b.drop a=s.take k
theorem Cut.app {b:Bytes} {a:Nat} {s t:Bytes} (h:Cut b a (s++t)):Cut b a s∨(At b a s∧Cut b (a+s.length) t):=by
 obtain⟨h0,k,hk,h⟩:=h
 by_cases hs:k < s.length
 ·exact .inl ⟨h0,k,hs,by rw[h,List.take_append_of_le_length (by omega)]⟩
 ·have e:b.drop a=s++t.take (k - s.length):=by rw[h,List.take_append,List.take_of_length_le (by omega)]
  have hl:=congrArg List.length e
  simp only[List.length_drop,List.length_append,List.length_take]at hl hk
  refine .inr ⟨⟨_,e⟩,by omega,k - s.length,by omega,?_⟩
  rw[←List.drop_drop,e,List.drop_left]
theorem Cut.nil {b:Bytes} {a:Nat} (h:Cut b a []):False:=by
 obtain⟨_,k,hk,_⟩:=h
 simp at hk
theorem tj {r:Rd} {c:Nat}:cp r false c=r:=by simp[cp]
theorem gk {b:Bytes} {a n:Nat} {N:Int} {c:Nat} (h:At b a (aO n)) (hn:n≤1152921504606846975) (hN:(n:Int) < N):bY b ⟨a,0⟩ N c=(n,⟨a+(aO n).length,0⟩):=by
 have e:decide (N≤(n:Int))=false:=by simp;omega
 simp only[bY,eP h hn,e,tj]
theorem mi {b:Bytes} {a:Nat} {s:Bytes} (h:At b a s) (hn:s.length=32):cE b ⟨a,0⟩ 32=(s,⟨a+s.length,0⟩):=by
 rw[Pn h hn (by omega),hn]
theorem IF {b:Bytes} {a m:Nat} {x:Bytes} (h:At b a (eH x)) (hx:x.length≤m) (hm:m≤1152921504606846975):d6 b ⟨a,0⟩ m=(x,⟨a+(eH x).length,0⟩):=by
 have hp:=OC x.length
 have hl:=h.le (by simp only[eH,List.length_append];omega)
 unfold eH at h hl⊢
 have e:=eP h.app.1 (by omega)
 simp only[df,if_true]at e
 have h2:=h.app.2.take
 rw[List.length_append]at hl⊢
 simp only[d6,if_true,gH,e,ne_eq,not_true_eq_false,if_false,if_neg (show ¬m < x.length by omega),fK,if_pos (show a+(aO x.length).length+x.length≤b.length by omega),h2]
 simp only[Nat.add_assoc]
theorem OX {x:Bytes} {n:Int} (h:dG x n=true):(vE n).toNat=x.length∧0 < x.length:=by
 simp only[dG,Bool.and_eq_true,decide_eq_true_eq]at h
 have h1:=cq h.1.1
 have h2:=h.1.2
 have h3:1≤vE n:=by unfold vE;split <;>omega
 omega
theorem J4 {b:Bytes} {a:Nat} {x:Bytes} {n:Int} (h:At b a x) (hx:dG x n=true):dU b a n=(x,⟨a+x.length,0⟩):=by
 obtain⟨e,h0⟩:=OX hx
 have hl:=h.le h0
 have h2:=h.take
 simp only[dU,e,fK,if_pos hl,h2,ne_eq,not_true_eq_false,if_false,hx,if_true]
theorem xx {α:Type} {b:Bytes} {f:Rd→α×Rd} {e:α→Bytes}:∀(xs:List α) (a:Nat),(∀x∈xs,∀a,At b a (e x)→f ⟨a,0⟩=(x,⟨a+(e x).length,0⟩))→At b a (xs.map e).flatten→dE f xs.length ⟨a,0⟩=(xs,⟨a+(xs.map e).flatten.length,0⟩)
 | [],a,_,_=>rfl
 |x::xs,a,hf,h=>by
  rw[List.map_cons,List.flatten_cons]at h⊢
  have h1:=hf x (by simp) a h.app.1
  have h2:=xx xs _ (fun y hy=>hf y (by simp[hy])) h.app.2
  rw[List.length_cons,mg rfl,h1]
  simp only[h2,List.length_append,Nat.add_assoc]
theorem LX {b:Bytes} {xs:List Bytes} {a k:Nat} (h:At b a xs.flatten) (hx:∀x∈xs,x.length=32) (hk:xs.length=k):gU (fun r=>cE b r 32) k ⟨a,0⟩=(xs,⟨a+xs.flatten.length,0⟩):=by
 subst hk
 have h2:=xx (b:=b) (f:=fun r=>cE b r 32) (e:=fun x=>x) xs a (fun x hm a h=>mi h (hx x hm)) (by simpa using h)
 have h3:=Fm (b:=b) xs.length ⟨a,0⟩
 rw[h2]at h3
 exact Prod.ext (h3.2 rfl) (by rw[h3.1];simp)
theorem NH {b:Bytes} {l:ah} {v:bg} {a:Nat} (hv:jh l v=true) (h:At b a (LU v)):jE b l ⟨a,0⟩=(v,⟨a+(LU v).length,0⟩):=by
 have hs:=xe hv
 have h4:v.who < l.n:=by simp only[jh,Bool.and_eq_true]at hv;have:=cq hv.2;omega
 obtain⟨c1,n1⟩:=kd hs.view
 obtain⟨c2,n2⟩:=kd hs.height
 obtain⟨c3,n3⟩:=kd hs.who
 unfold LU at h⊢
 obtain⟨p1,h⟩:=h.app
 obtain⟨p2,h⟩:=h.app
 obtain⟨p3,h⟩:=h.app
 obtain⟨p4,p5⟩:=h.app
 simp only[jE,eP p1 n1,eP p2 n2,mi p3 hs.block,gk (N:=l.n) (c:=5) p4 n3 (by omega),mi p5 hs.tag,c1,c2,c3]
 simp only[List.length_append,Nat.add_assoc]
theorem Rx {l:ah} {q:Qc} (h:ey l q=true):dG q.bits l.n=true∧q.tags.length=(aT q.bits).length:=by
 simp only[ey,Bool.and_eq_true,decide_eq_true_eq]at h
 exact⟨h.1.1.2,h.1.2⟩
theorem Ks {b:Bytes} {l:ah} {q:Qc} {a:Nat} (hq:ey l q=true) (h:At b a (HZ q)):yN b l ⟨a,0⟩=(q,⟨a+(HZ q).length,0⟩):=by
 have hs:=jo hq
 obtain⟨hb,ht⟩:=Rx hq
 obtain⟨c1,n1⟩:=kd hs.view
 obtain⟨c2,n2⟩:=kd hs.height
 simp only[HZ,List.append_assoc]at h⊢
 obtain⟨p1,h⟩:=h.app
 obtain⟨p2,h⟩:=h.app
 obtain⟨p3,h⟩:=h.app
 obtain⟨p4,p5⟩:=h.app
 simp only[yN,eP p1 n1,eP p2 n2,mi p3 hs.block,if_true,J4 p4 hb,LX p5 hs.tag ht,c1,c2]
 simp only[List.length_append,Nat.add_assoc]
theorem yT {l:ah} {h:Head} (w:bA l h=true):isNum h.view=true∧isNum h.height=true∧isNum h.proposer=true∧1≤h.height∧h.proposer < l.n∧h.parent.length=32∧h.root.length=32∧ey l h.qc=true∧fits h=true:=by
 simp only[bA,Bool.and_eq_true]at w
 have h1:=cq w.1.1.1.1.2
 have h2:=cq w.1.1.1.2
 have h3:l.ok=true:=by have:=w.1.1.1.1.1.1;simp only[ey,Bool.and_eq_true]at this;exact this.1.1.1.1.1.1
 have h4:=jI h3
 refine⟨w.1.1.1.1.1.2,by simp only[isNum,db,decide_eq_true_eq];omega,by simp only[isNum,db,decide_eq_true_eq];omega,h1.1,by omega,gX w.1.1.2,gX w.1.2,w.1.1.1.1.1.1,w.2⟩
theorem Dw {b:Bytes} {l:ah} {x:Head} {a:Nat} (hx:bA l x=true) (h:At b a (de x)):dH b l ⟨a,0⟩=(x,⟨a+(de x).length,0⟩):=by
 obtain⟨w1,w2,w3,w4,w5,w6,w7,w8,w9⟩:=yT hx
 obtain⟨c1,n1⟩:=kd w1
 obtain⟨c2,n2⟩:=kd w2
 obtain⟨c3,n3⟩:=kd w3
 have d0:decide (x.height.toNat=0)=false:=by simp;omega
 simp only[de,List.append_assoc]at h⊢
 obtain⟨p1,h⟩:=h.app
 obtain⟨p2,h⟩:=h.app
 obtain⟨p3,h⟩:=h.app
 obtain⟨p4,h⟩:=h.app
 obtain⟨p5,p6⟩:=h.app
 have w9':fits ⟨x.view,x.height,x.proposer,x.parent,x.root,x.qc⟩=true:=w9
 simp only[dH,eP p1 n1,eP p2 n2,d0,tj,gk p3 n3 (show((x.proposer.toNat:Nat):Int) < l.n by omega),mi p4 w6,mi p5 w7,Ks w8 p6,c1,c2,c3,w9',Bool.not_true]
 simp only[List.length_append,Nat.add_assoc]
theorem vI {l:ah} {x:Block} (h:bC l x=true):bA l x.head=true∧l.ok=true∧(x.txs.length:Int)≤l.txs∧(∀t∈x.txs,t.length≤l.tx.toNat)∧x.head.root=aZ x.txs:=by
 simp only[bC,Bool.and_eq_true,decide_eq_true_eq]at h
 have h3:l.ok=true:=by have:=h.1.1.1;simp only[bA,ey,Bool.and_eq_true]at this;exact this.1.1.1.1.1.1.1.1.1.1.1.1
 refine⟨h.1.1.1,h3,h.1.1.2,fun t ht=> ?_,h.2⟩
 have h2:=h.1.2
 simp only[DI,List.all_eq_true,decide_eq_true_eq]at h2
 have:=h2 t ht
 omega
theorem MC {b:Bytes} {l:ah} {x:Block} {a:Nat} (hx:bC l x=true) (h:At b a (gh x)):eD b l ⟨a,0⟩=(x,⟨a+(gh x).length,0⟩):=by
 obtain⟨w1,w2,w3,w4,w5⟩:=vI hx
 have hl:=gf w2
 unfold gh at h⊢
 obtain⟨p1,h⟩:=h.app
 obtain⟨p2,p3⟩:=h.app
 have e3:=xx (f:=fun r=>d6 b r l.tx.toNat) (e:=eH) x.txs _ (fun t ht a h=>IF h (w4 t ht) (by have:=hl.2.1;omega)) p3
 have d0:decide (x.head.root≠aZ x.txs)=false:=by simp[w5]
 simp only[eD,Dw w1 p1,gk p2 (show x.txs.length≤1152921504606846975 by have:=hl.2.2.1;omega) (show(x.txs.length:Int) < l.txs+1 by omega),e3,d0,tj]
 simp only[List.length_append,Nat.add_assoc]
def Cg (l:ah) (view:Int):Int→List Entry→Prop
 |_,[]=>True
 |bf,e::es=>((0≤e.who∧e.who < l.n∧bf < e.who)∧(0≤e.high∧e.high < view)∧e.tag.length=32)∧Cg l view e.who es
theorem F4 {l:ah} {t:Tc} (h:∀i < t.entries.length,b6 l t i=true):∀(es pre:List Entry) (bf:Int),t.entries=pre++es→(pre= []∧bf= -1∨∃d,pre.getLast? =some d∧d.who=bf)→Cg l t.view bf es
 | [],_,_,_,_=>trivial
 |e::es,pre,bf,he,hp=>by
  have hi:t.entries[pre.length]? =some e:=by rw[he];simp
  have h1:=h pre.length (by rw[he];simp)
  simp only[b6,hi,Bool.and_eq_true,Bool.or_eq_true,decide_eq_true_eq]at h1
  obtain⟨⟨⟨a1,a2⟩,a3⟩,a4⟩:=h1
  have b1:=cq a1
  have b2:=cq a2
  refine⟨⟨⟨by omega,by omega,?_⟩,⟨by omega,by omega⟩,gX a3⟩,F4 h es (pre++ [e]) e.who (by rw[he];simp) (.inr ⟨e,by simp,rfl⟩)⟩
  rcases hp with⟨rfl,rfl⟩|⟨d,hd,rfl⟩
  ·omega
  ·have hn:pre≠ []:=by rintro rfl;simp at hd
   have hpl:0 < pre.length:=List.length_pos_iff.2 hn
   have h2:t.entries[pre.length - 1]? =some d:=by
    rw[he,List.getElem?_append_left (by omega),←List.getLast?_eq_getElem?]
    exact hd
   rw[h2]at a4
   rcases a4 with a4|a4
   ·omega
   ·simpa using a4
theorem HO {l:ah} {t:Tc} (h:gV l t=true):l.ok=true∧isNum t.view=true∧(t.entries.length:Int)≤l.n∧Cg l t.view (-1) t.entries:=by
 simp only[gV,Bool.and_eq_true,decide_eq_true_eq,List.all_eq_true,List.mem_range]at h
 exact⟨h.1.1.1,h.1.1.2,h.1.2,F4 h.2 t.entries [] (-1) rfl (.inl ⟨rfl,rfl⟩)⟩
theorem RU {b:Bytes} {l:ah} {view bf:Int} {e:Entry} {a:Nat} (h1:0≤e.who∧e.who < l.n∧bf < e.who) (h2:0≤e.high∧e.high < view) (hl:l.n≤10) (hv:view≤1152921504606846975):((e.who.toNat:Nat):Int)=e.who∧e.who.toNat≤1152921504606846975∧((e.high.toNat:Nat):Int)=e.high∧e.high.toNat≤1152921504606846975∧decide (e.who≤bf)=false:=by
 refine⟨by omega,by omega,by omega,by omega,by simp;omega⟩
theorem H4 {b:Bytes} {l:ah} {view:Int} (hl:l.n≤10) (hv:view≤1152921504606846975):∀(es:List Entry) (bf:Int) (a:Nat),Cg l view bf es→At b a (es.map yu).flatten→jG b l view es.length bf ⟨a,0⟩=(es,⟨a+(es.map yu).flatten.length,0⟩)
 | [],bf,a,_,_=>rfl
 |e::es,bf,a,⟨⟨h1,h2,h3⟩,hr⟩,h=>by
  obtain⟨c1,n1,c2,n2,d0⟩:=RU (b:=b) (a:=a) h1 h2 hl hv
  rw[List.map_cons,List.flatten_cons]at h⊢
  obtain⟨hh,hn⟩:=h.app
  unfold yu at hh
  obtain⟨p1,hh⟩:=hh.app
  obtain⟨p2,p3⟩:=hh.app
  have h4:=H4 hl hv es e.who _ hr hn
  simp only[yu,List.length_append,←Nat.add_assoc]at h4⊢
  rw[List.length_cons,CK rfl]
  simp only[gk (N:=l.n) (c:=5) p1 n1 (by omega),d0,tj,gk (N:=view) (c:=6) p2 n2 (by omega),mi p3 h3,c1,c2,h4]
theorem Rm {b:Bytes} {l:ah} {t:Tc} {a:Nat} (hx:gV l t=true) (h:At b a (Ml t)):JN b l ⟨a,0⟩=(t,⟨a+(Ml t).length,0⟩):=by
 obtain⟨w1,w2,w3,w4⟩:=HO hx
 have hl:=gf w1
 obtain⟨c1,n1⟩:=kd w2
 unfold Ml at h⊢
 obtain⟨p1,h⟩:=h.app
 obtain⟨p2,p3⟩:=h.app
 have e3:=H4 (l:=l) (view:=t.view) hl.1.2 (by omega) t.entries (-1) _ w4 p3
 simp only[JN,eP p1 n1,gk p2 (show t.entries.length≤1152921504606846975 by have:=hl.1;omega) (show(t.entries.length:Int) < l.n+1 by omega),c1,e3]
 simp only[List.length_append,Nat.add_assoc]
theorem we {l:ah} {p:Proof} (h:cL l p=true):l.ok=true∧(3≤p.heads.length∧(p.heads.length:Int)≤l.heads)∧(∀h∈p.heads,bA l h=true)∧ey l p.qc=true∧mz p=true:=by
 simp only[cL,Bool.and_eq_true,jC,List.all_eq_true]at h
 have h3:l.ok=true:=by have:=h.1.2;simp only[ey,Bool.and_eq_true]at this;exact this.1.1.1.1.1.1
 have:=cq h.1.1.1
 exact⟨h3,by omega,h.1.1.2,h.1.2,h.2⟩
theorem Mi {b:Bytes} {l:ah} {p:Proof} {a:Nat} (hx:cL l p=true) (h:At b a (gC p)):ei b l ⟨a,0⟩=(p,⟨a+(gC p).length,0⟩):=by
 obtain⟨w1,w2,w3,w4,w5⟩:=we hx
 have hl:=gf w1
 unfold gC at h⊢
 obtain⟨p1,h⟩:=h.app
 obtain⟨p2,p3⟩:=h.app
 have e2:=xx (f:=dH b l) (e:=de) p.heads _ (fun t ht a h=>Dw (w3 t ht) h) p2
 have d1:decide (p.heads.length < 3)=false:=by simp;omega
 have d2:decide (l.heads < (p.heads.length:Int))=false:=by simp;omega
 have d3:mz ⟨p.heads,p.qc⟩=true:=w5
 simp only[ei,eP p1 (show p.heads.length≤1152921504606846975 by have:=hl.2.2.2;omega),d1,d2,tj,e2,Ks w4 p3,d3,Bool.not_true]
 simp only[List.length_append,Nat.add_assoc]
theorem yh {l:ah} {x:aX} (h:dX l x=true):l.ok=true∧isNum x.height=true∧(1≤x.n∧x.n≤l.txs)∧(0≤x.idx∧x.idx < x.n)∧(x.tx.length:Int)≤l.tx∧x.path.length=br x.idx.toNat x.n.toNat∧∀t∈x.path,t.length=32:=by
 simp only[dX,Bool.and_eq_true,decide_eq_true_eq,hashes,List.all_eq_true]at h
 have h1:=cq h.1.1.1.1.2
 have h2:=cq h.1.1.1.2
 exact⟨h.1.1.1.1.1.1,h.1.1.1.1.1.2,by omega,by omega,h.1.1.2,h.1.2,fun t ht=>gX (h.2 t ht)⟩
theorem NL {b:Bytes} {l:ah} {x:aX} {a:Nat} (hx:dX l x=true) (h:At b a (lS x)):jd b l ⟨a,0⟩=(x,⟨a+(lS x).length,0⟩):=by
 obtain⟨w1,w2,w3,w4,w5,w6,w7⟩:=yh hx
 have hl:=gf w1
 have hl1:=hl.2.1
 have hl2:=hl.2.2.1
 obtain⟨c1,n1⟩:=kd w2
 have c2:((x.n.toNat:Nat):Int)=x.n:=by omega
 have c3:((x.idx.toNat:Nat):Int)=x.idx:=by omega
 unfold lS at h⊢
 obtain⟨p1,h⟩:=h.app
 obtain⟨p2,h⟩:=h.app
 obtain⟨p3,h⟩:=h.app
 obtain⟨p4,p5⟩:=h.app
 have d1:decide (x.n.toNat=0)=false:=by simp;omega
 have d2:decide (l.txs < x.n)=false:=by simp;omega
 have e:kj b l ⟨a,0⟩=((x.height.toNat,x.n.toNat,x.idx.toNat,x.tx),⟨a+(aO x.height.toNat).length+(aO x.n.toNat).length+(aO x.idx.toNat).length+(eH x.tx).length,0⟩):=by
  simp only[kj,eP p1 n1,eP p2 (show x.n.toNat≤1152921504606846975 by omega),c2,d1,d2,tj,gk (N:=x.n) (c:=5) p3 (show x.idx.toNat≤1152921504606846975 by omega) (by omega),IF p4 (show x.tx.length≤l.tx.toNat by omega) (by omega)]
 simp only[jd,e,if_true,LX p5 w7 w6,c1,c2,c3]
 simp only[List.length_append,Nat.add_assoc]
end Go.Eng.F
namespace Go.Eng.F
theorem At.join {b:Bytes} {a:Nat} {s t:Bytes} (h1:At b a s) (h2:At b (a+s.length) t):At b a (s++t):=by
 obtain⟨u,h1⟩:=h1
 obtain⟨w,h2⟩:=h2
 refine⟨w,?_⟩
 rw[←List.drop_drop,h1,List.drop_left]at h2
 rw[h1,h2,List.append_assoc]
def L8 (b:Bytes) (r:Rd) (s:Bytes) (r':Rd):Prop:=r.er=0∧At b r.at_ s∧r'=⟨r.at_+s.length,0⟩
theorem L8.nil {b:Bytes} {r:Rd} (h:r.er=0):L8 b r [] r:=⟨h,⟨b.drop r.at_,rfl⟩,by obtain⟨x,y⟩:=r;simp only at h;subst h;rfl⟩
theorem L8.join {b:Bytes} {r r1 r2:Rd} {s t:Bytes} (h1:L8 b r s r1) (h2:L8 b r1 t r2):L8 b r (s++t) r2:=by
 obtain⟨a1,a2,rfl⟩:=h1
 obtain⟨_,b2,rfl⟩:=h2
 exact⟨a1,a2.join b2,by simp only[List.length_append,Nat.add_assoc]⟩
theorem L8.er {b:Bytes} {r r1:Rd} {s:Bytes} (h:L8 b r s r1):r1.er=0:=by rw[h.2.2]
theorem K6 {x:Bytes} (h:x.length=32):hash x=true:=by simp[hash,h]
theorem L8.len {b:Bytes} {r r':Rd} {s t:Bytes} {n m:Nat} (h:L8 b r (s++(aO n++t)) r') (e:m=n):L8 b r (s++(aO m++t)) r':=by
 rw[e]
 exact h
theorem FJ {l:ah} {view:Int}:∀(es:List Entry) (bf:Int),Cg l view bf es→∀(i:Nat) (e:Entry),es[i]? =some e→(0≤e.who∧e.who < l.n)∧(0≤e.high∧e.high < view)∧e.tag.length=32∧(i=0∧bf < e.who∨0 < i∧∃d,es[i - 1]? =some d∧d.who < e.who)
 | [],_,_,i,e,h=>by simp at h
 |x::es,bf,⟨⟨h1,h2,h3⟩,hr⟩,0,e,h=>by
  simp only[List.getElem?_cons_zero,Option.some.injEq]at h
  subst h
  exact⟨⟨h1.1,h1.2.1⟩,h2,h3, .inl ⟨rfl,h1.2.2⟩⟩
 |x::es,bf,⟨⟨h1,h2,h3⟩,hr⟩,i+1,e,h=>by
  rw[List.getElem?_cons_succ]at h
  obtain⟨a1,a2,a3,a4⟩:=FJ es x.who hr i e h
  refine⟨a1,a2,a3, .inr ⟨by omega,?_⟩⟩
  rcases a4 with⟨rfl,a4⟩|⟨a5,d,a6,a7⟩
  ·exact⟨x,rfl,a4⟩
  ·refine⟨d,?_,a7⟩
   obtain⟨j,rfl⟩:∃j,i=j+1:=⟨i - 1,by omega⟩
   simpa using a6
end Go.Eng.F
namespace Go.Eng.F
theorem GD {a b:bg}:iG a b=true↔a=b:=by
 obtain⟨_,_,_,_,_⟩:=a
 obtain⟨_,_,_,_,_⟩:=b
 simp[iG,and_assoc]
theorem vV {a b:Qc}:mF a b=true↔a=b:=by
 obtain⟨_,_,_,_,_⟩:=a
 obtain⟨_,_,_,_,_⟩:=b
 simp[mF,and_assoc]
theorem mH {a b:Head}:ee a b=true↔a=b:=by
 obtain⟨_,_,_,_,_,_⟩:=a
 obtain⟨_,_,_,_,_,_⟩:=b
 simp[ee,and_assoc,vV]
theorem EH {a b:Block}:gw a b=true↔a=b:=by
 obtain⟨_,_⟩:=a
 obtain⟨_,_⟩:=b
 simp[gw,mH]
theorem G3 {a b:aX}:i0 a b=true↔a=b:=by
 obtain⟨_,_,_,_,_⟩:=a
 obtain⟨_,_,_,_,_⟩:=b
 simp[i0,and_assoc]
theorem Js {a b:Entry}:cS a b=true↔a=b:=by
 obtain⟨_,_,_⟩:=a
 obtain⟨_,_,_⟩:=b
 simp[cS,and_assoc]
theorem zF {α:Type} {f:α→α→Bool} (hf:∀x y,f x y=true↔x=y) {a b:List α}:da f a b=true↔a=b:=by
 simp only[da,Bool.and_eq_true,decide_eq_true_eq,List.all_eq_true,List.mem_range]
 constructor
 ·rintro⟨h1,h2⟩
  refine List.ext_getElem h1 fun i hi hj=> ?_
  have:=h2 i hj
  rw[List.getElem?_eq_getElem hi,List.getElem?_eq_getElem hj]at this
  exact(hf _ _).1 this
 ·rintro rfl
  refine⟨rfl,fun i hi=> ?_⟩
  rw[List.getElem?_eq_getElem hi]
  exact(hf _ _).2 rfl
theorem EZ {a b:Proof}:ep a b=true↔a=b:=by
 obtain⟨_,_⟩:=a
 obtain⟨_,_⟩:=b
 simp[ep,ek,vV,zF (fun x y=> @mH x y)]
theorem KB {a b:Tc}:fe a b=true↔a=b:=by
 obtain⟨_,_⟩:=a
 obtain⟨_,_⟩:=b
 simp[fe,zF (fun x y=> @Js x y)]
theorem jN {a b:aC}:iu a b=true↔a=b:=by
 obtain⟨_,_,_,_,_,_,_,_⟩:=a
 obtain⟨_,_,_,_,_,_,_,_⟩:=b
 simp[iu,and_assoc,GD,vV,mH,EH,KB,EZ,G3]
theorem KG {l:ah} {m:aC} (h:aV l m=true):m=bF m:=by
 simp only[aV,Bool.and_eq_true]at h
 exact jN.1 h.2
theorem Ka {l:ah} {x:Head} (h:bA l x=true):l.ok=true:=jb (yT h).2.2.2.2.2.2.2.1
theorem NI {l:ah} {v:bg} (h:jh l v=true):l.ok=true:=by
 simp only[jh,Bool.and_eq_true]at h
 exact h.1.1.1.1.1
theorem Qk {b:Bytes} {m:aC} {r:Rd} (h:r=⟨b.length,0⟩):eZ b m r=(m,0):=by simp[eZ,h]
theorem L8.rest {c:UInt8} {t s:Bytes} {r':Rd} (h:L8 (c::t) ⟨1,0⟩ s r') (ha:r'.at_=(c::t).length):t=s:=by
 obtain⟨_,⟨u,hu⟩,h2⟩:=h
 rw[h2]at ha
 simp only[List.length_cons]at ha
 simp only[List.drop_succ_cons,List.drop_zero]at hu
 have hl:=congrArg List.length hu
 rw[List.length_append]at hl
 have:u= []:=List.eq_nil_of_length_eq_zero (by omega)
 rw[this,List.append_nil]at hu
 exact hu
theorem iD {k:Nat} (hk:k < 256) {m:aC} (h:m.kind=(k:Int)):(dI m).toNat=k:=by
 rw[dI,h]
 exact Kh hk
theorem at_one (c:UInt8) (s t:Bytes):At (c::s++t) 1 s:=⟨t,rfl⟩
theorem GF {l:ah} {m:aC} (h:m.kind=1):az l m=jh l m.vote∧a9 m=LU m.vote∧bF m= {ay with kind:=1,vote:=m.vote}∧(dI m).toNat=1:=by
 refine⟨by simp[az,h],by simp[a9,h],by simp[bF,h],iD (k:=1) (by omega) h⟩
theorem K4 {l:ah} {m:aC} (h:m.kind=2):az l m=ey l m.qc∧a9 m=HZ m.qc∧bF m= {ay with kind:=2,qc:=m.qc}∧(dI m).toNat=2:=by
 refine⟨by simp[az,h],by simp[a9,h],by simp[bF,h],iD (k:=2) (by omega) h⟩
theorem JT {l:ah} {m:aC} (h:m.kind=3):az l m=bA l m.head∧a9 m=de m.head∧bF m= {ay with kind:=3,head:=m.head}∧(dI m).toNat=3:=by
 refine⟨by simp[az,h],by simp[a9,h],by simp[bF,h],iD (k:=3) (by omega) h⟩
theorem JS {l:ah} {m:aC} (h:m.kind=4):az l m=bC l m.block∧a9 m=gh m.block∧bF m= {ay with kind:=4,block:=m.block}∧(dI m).toNat=4:=by
 refine⟨by simp[az,h],by simp[a9,h],by simp[bF,h],iD (k:=4) (by omega) h⟩
theorem Kv {l:ah} {m:aC} (h:m.kind=5):az l m=gV l m.tc∧a9 m=Ml m.tc∧bF m= {ay with kind:=5,tc:=m.tc}∧(dI m).toNat=5:=by
 refine⟨by simp[az,h],by simp[a9,h],by simp[bF,h],iD (k:=5) (by omega) h⟩
theorem JU {l:ah} {m:aC} (h:m.kind=6):az l m=cL l m.proof∧a9 m=gC m.proof∧bF m= {ay with kind:=6,proof:=m.proof}∧(dI m).toNat=6:=by
 refine⟨by simp[az,h],by simp[a9,h],by simp[bF,h],iD (k:=6) (by omega) h⟩
theorem KV {l:ah} {m:aC} (h:m.kind=7):az l m=dX l m.incl∧a9 m=lS m.incl∧bF m= {ay with kind:=7,incl:=m.incl}∧(dI m).toNat=7:=by
 refine⟨by simp[az,h],by simp[a9,h],by simp[bF,h],iD (k:=7) (by omega) h⟩
theorem TH {l:ah} {x:bg} (h:jh l x=true):aV l {ay with kind:=1,vote:=x}=true∧dI {ay with kind:=1,vote:=x}=UInt8.ofNat 1∧a9 {ay with kind:=1,vote:=x}=LU x:=by
 obtain⟨p1,p2,p3,p4⟩:=GF (l:=l) (m:= {ay with kind:=1,vote:=x}) rfl
 exact⟨by simp only[aV,p1,h,Bool.true_and,p3];exact jN.2 rfl,rfl,p2⟩
theorem wu {l:ah} {m:aC} (h:az l m=true):l.ok=true:=by
 rcases fh h with e|e|e|e|e|e|e
 ·rw[(GF (l:=l) e).1]at h;exact NI h
 ·rw[(K4 (l:=l) e).1]at h;exact jb h
 ·rw[(JT (l:=l) e).1]at h;exact Ka h
 ·rw[(JS (l:=l) e).1]at h;exact(vI h).2.1
 ·rw[(Kv (l:=l) e).1]at h;exact(HO h).1
 ·rw[(JU (l:=l) e).1]at h;exact(we h).1
 ·rw[(KV (l:=l) e).1]at h;exact(yh h).1
theorem PZ {l:ah} {m:aC} (h:aV l m=true) (t:Bytes):dec l (dI m::a9 m++t)=eZ (dI m::a9 m++t) m ⟨1+(a9 m).length,0⟩:=by
 have hp:=iI h
 have hm:=KG h
 have h1:=at_one (dI m) (a9 m) t
 rw[QH (wu hp) (by simp)]
 have e0:(dI m::a9 m++t)[0]'(by simp)=dI m:=rfl
 rw[e0]
 generalize hb:dI m::a9 m++t=b at h1⊢
 rcases fh hp with e|e|e|e|e|e|e
 ·obtain⟨p1,p2,p3,p4⟩:=GF (l:=l) e
  rw[p1]at hp
  rw[p2]at h1⊢
  rw[p4]
  simp only[oY,NH hp h1,←p3,←hm]
 ·obtain⟨p1,p2,p3,p4⟩:=K4 (l:=l) e
  rw[p1]at hp
  rw[p2]at h1⊢
  rw[p4]
  simp only[oY,Ks hp h1,←p3,←hm]
 ·obtain⟨p1,p2,p3,p4⟩:=JT (l:=l) e
  rw[p1]at hp
  rw[p2]at h1⊢
  rw[p4]
  simp only[oY,Dw hp h1,←p3,←hm]
 ·obtain⟨p1,p2,p3,p4⟩:=JS (l:=l) e
  rw[p1]at hp
  rw[p2]at h1⊢
  rw[p4]
  simp only[oY,MC hp h1,←p3,←hm]
 ·obtain⟨p1,p2,p3,p4⟩:=Kv (l:=l) e
  rw[p1]at hp
  rw[p2]at h1⊢
  rw[p4]
  simp only[oY,Rm hp h1,←p3,←hm]
 ·obtain⟨p1,p2,p3,p4⟩:=JU (l:=l) e
  rw[p1]at hp
  rw[p2]at h1⊢
  rw[p4]
  simp only[oY,Mi hp h1,←p3,←hm]
 ·obtain⟨p1,p2,p3,p4⟩:=KV (l:=l) e
  rw[p1]at hp
  rw[p2]at h1⊢
  rw[p4]
  simp only[oY,NL hp h1,←p3,←hm]
theorem PE {l:ah} {m:aC} (h:aV l m=true):dec l (dI m::a9 m)=(m,0):=by
 have:=PZ h []
 rw[List.append_nil]at this
 rw[this]
 exact Qk (by rw[List.length_cons,Nat.add_comm])
end Go.Eng.F
namespace Go.Eng.F
theorem JR {l:ah} {v:bg} (h:jh l v=true):aV l {ay with kind:=1,vote:=v}=true:=(TH h).1
theorem Sp {l:ah} {v:bg} (hl:l.ok=true) (h:isNum v.view=true∧isNum v.height=true∧v.block.length=32∧db v.who 0 (l.n - 1)=true∧v.tag.length=32):jh l v=true:=by
 simp only[jh,hl,h.1,h.2.1,K6 h.2.2.1,h.2.2.2.1,K6 h.2.2.2.2,Bool.and_self]
theorem Sb {l:ah} {v:bg} (hl:l.rd) (h:isNum v.view=true∧isNum v.height=true∧v.block.length=32∧db v.who 0 (l.n - 1)=true∧v.tag.length=32):v.wf:=by
 obtain⟨g2,g3,g4,g5,g6⟩:=h
 exact⟨iz g2,iz g3,by unfold Sz;omega,by have:=cq g5;have:=hl.1;exact⟨by omega,by omega⟩,by unfold Sz;omega⟩
abbrev nH:Nat:=96
def ox:AF:=⟨2,5,[.cell 4 45 true],(.seq (.ops [.i (.lbox 3 (.s 1)), .i (.lal 4 [.int .i64 0, .int .i64 0, .int .i64 0, .nils, .int .i64 0, .nils, .int .i64 0, .int .i64 0, .nils, .nils, .nils, .int .i64 0, .int .i64 0, .int .i64 0, .nils, .nils, .int .i64 0, .int .i64 0, .nils, .nils, .nils, .int .i64 0, .int .i64 0, .int .i64 0, .nils, .nils, .int .i64 0, .int .i64 0, .nils, .nils, .nils, .nils, .int .i64 0, .nils, .nils, .int .i64 0, .int .i64 0, .nils, .nils, .nils, .int .i64 0, .int .i64 0, .int .i64 0, .nils, .nils])]) (.seq (.ops [qm 6 0,ql 7 3 3 5 true, .i (.call 9 134 false [(.s 6),(.s 7)]), .i (.lal 5 [.int .i64 0, .int .i64 0, .int .i64 0, .nils, .int .i64 0, .nils, .int .i64 0, .int .i64 0, .nils, .nils, .nils, .int .i64 0, .int .i64 0, .int .i64 0, .nils, .nils, .int .i64 0, .int .i64 0, .nils, .nils, .nils, .int .i64 0, .int .i64 0, .int .i64 0, .nils, .nils, .int .i64 0, .int .i64 0, .nils, .nils, .nils, .nils, .int .i64 0, .nils, .nils, .int .i64 0, .int .i64 0, .nils, .nils, .nils, .int .i64 0, .int .i64 0, .int .i64 0, .nils, .nils]),qs 5 5 8 45]) (.seq (.seq (.ops [ql 9 3 3 5 true,ql 10 5 5 45 true, .i (.call 12 159 false [(.s 9),(.s 10)]), .i (.not 12 (.s 11))]) (.cond (.s 12) (.seq (.ops [qm 13 0,ql 14 3 3 5 true, .i (.call 16 161 false [(.s 13),(.s 14)]),qk 17 160 15,qs 4 4 16 45]) .ret) .skip)) (.seq (.ops [ql 17 5 5 45 true,qs 4 4 17 45]) .ret))))⟩
theorem Ap:cd nH=some ox:=by kernel_rfl
theorem Jk (b:Bytes) (i:Nat) (h:Int) (l:ah) (hl:l.ok=true) (hi:i≤b.length) (hb:b.length≤1073741824):VC cd nH (jg [] 133 (cur b i h) [(true,l.c)]) (fun r p=>∃x:aC×Nat×Int,((x.1.wc∧aV l x.1=true)∧x.2.1≤b.length)∧r= [(true,x.1.o)]∧p= [.pt 133 (cur b x.2.1 x.2.2)]):=by
 have hL:=gf hl
 refine VC.qw ?_
 refine ax Ap rfl ?_
 simp(disch:=omega) [ox,cur,ah.c,VZ]
 refine dL (KT b i h l hL hi hb) ?_ (n1:=by intro _;simp(disch:=omega) [ah.c,aC.o,VZ]) (n3:=by intro _;simp(disch:=omega) [ah.c,aC.o,VZ])
 rintro⟨m,i1,h1⟩ ⟨g1,j1⟩
 simp only at g1 j1
 simp(disch:=omega) [cur,aC.o,VZ]
 refine ao (Eg l m g1) ?_ (ha:=by first|rfl|(simp[ah.c,aC.c,VY] <;>repeat' constructor))
 simp(disch:=omega) [VZ]
 refine ak (fun h0=> ?_) (fun h0=> ?_)
 ·simp(disch:=omega) [h0,cur,aP,aY,ba,VZ]
  exact⟨[(true,aC.o m)],by simp[aP,aY,ba,aC.o],m,i1,⟨⟨g1,h0⟩,j1⟩,rfl,rfl⟩
 ·simp(disch:=omega) [h0,VZ]
  refine dL (wh b i1 h1 l hL.1 j1 hb) ?_ (n1:=by intro _;simp(disch:=omega) [ah.c,bg.o,VZ]) (n3:=by intro _;simp(disch:=omega) [ah.c,bg.o,VZ])
  rintro⟨x2,i2,h2⟩ ⟨g2,j2⟩
  simp only at g2 j2
  have hw:=Sb hL g2
  have hv:=Sp hl g2
  simp(disch:=omega) [cur,bg.o,VZ]
  refine ao (fP x2 hw) ?_ (ha:=by first|rfl|(simp[bg.c,VY] <;>repeat' constructor))
  simp(disch:=omega) [cur,dV,aP,aY,ba,VZ]
  exact⟨[(true,aC.o {ay with kind:=1,vote:=x2})],by simp[aP,aY,ba,aC.o,ay,bu,fq,bb,aK,gY,aL,bp,ae,bk,bm,bj],{ay with kind:=1,vote:=x2},i2,⟨⟨{HM with kind:=⟨by simp only;omega,by simp only;omega⟩,vote:=hw},JR hv⟩,j2⟩,rfl,rfl⟩
abbrev oR:Nat:=60
def mK:AF:=⟨2,5,[.tmp 4],(.seq (.ops [.i (.lbox 3 (.s 1)), .i (.mov 4 (.c (.val false [.nils])))]) (.seq (.ops [qm 8 0,qk 10 88 8,qm 5 9]) (.seq (.ops [.i (.bse 10),qm 6 10]) (.seq (.seq (.ops [qm 11 5, .i (.call 13 97 false [(.s 11),(qi 4)]),qm 7 12]) (.block 0 (.loop [22,21,20,19,18,17,16,15,14,13] (.seq (.seq (.ops [qm 13 7, .i (.bin 14 .gtr (.s 13) (qi 0))]) (.cond (.s 14) .skip (.exit 0))) (.seq (.block 1 (.ops [qm 17 6,qm 18 5,ql 19 3 3 5 true, .i (.call 21 96 false [(.s 18),(.s 19)]), .i (.lsl 21 45 1 [.int .i64 0, .int .i64 0, .int .i64 0, .nils, .int .i64 0, .nils, .int .i64 0, .int .i64 0, .nils, .nils, .nils, .int .i64 0, .int .i64 0, .int .i64 0, .nils, .nils, .int .i64 0, .int .i64 0, .nils, .nils, .nils, .int .i64 0, .int .i64 0, .int .i64 0, .nils, .nils, .int .i64 0, .int .i64 0, .nils, .nils, .nils, .nils, .int .i64 0, .nils, .nils, .int .i64 0, .int .i64 0, .nils, .nils, .nils, .int .i64 0, .int .i64 0, .int .i64 0, .nils, .nils] [(0,45,(.s 20))]), .i (.app 22 57 45 728 (.s 17) (.s 21)),qm 6 22])) (.ops [qm 15 7, .i (.bin 16 .sub (.s 15) (qi 1)),qm 7 16])))))) (.seq (.ops [qm 23 6,qm 4 23]) .ret)))))⟩
theorem Bg:cd oR=some mK:=by kernel_rfl
theorem I8 (b:Bytes) (l:ah) (hl:l.ok=true) (hb:b.length≤1073741824):VC cd oR (aD [(false,[.sl (bytes b)]),(true,l.c)]) (fun r _=>∃x:List aC,(x.length≤3∧∀m∈x,m.wc∧aV l m=true)∧r= [(false,[.o true (some (57,45)) (Ed x)])]):=by
 refine aa Bg rfl ?_
 simp(disch:=omega) [mK,ah.c,VY]
 refine TM (FT b hb) ?_
 intro h _
 simp(disch:=omega) [cur,Ll,VZ]
 refine dL (aG b 0 _ 4 (by omega) (Nat.zero_le _) hb) ?_
 rintro⟨k,i1,h1⟩ ⟨g1,j1⟩
 simp only at g1 j1
 simp(disch:=omega) [cur,VZ]
 refine bo (σ:=Nat×Nat×Nat×Int×List aC) (f1:=_) (es0:=_) (by simp(disch:=omega) [VZ];rfl) (by simp(disch:=omega) [VZ];rfl) (fun p=> [(7, .val false [.int .i64 (p.1:Int)]),(6, .val false [.ow 10 p.2.1])]) (fun p=> [(90112, .pt 6 133 [.sl (bytes b), .int .i64 (p.2.2.1:Int), .int .i64 p.2.2.2.1]),(10, .sl p.2.1 true true (some (57,45)) (Ed p.2.2.2.2))])
  (fun p g=>g=p.1∧p.2.2.1≤b.length∧p.2.2.2.2.length+p.1≤3∧∀m∈p.2.2.2.2,m.wc∧aV l m=true) (k,_,i1,h1,[]) k (by simp(disch:=omega) [VZ];rfl) (by simp(disch:=omega) [Ed,VZ]) ⟨rfl,j1,by simp;omega,by simp⟩ ?_
 rintro⟨n,v,i2,h2,x⟩ nx g ⟨hg,h5,h6,h7⟩ P hP
 simp only at hg h5 h6 h7
 have hlx:(Ed x).length=x.length:=Bp x
 simp(disch:=omega) [VZ]
 refine ab (fun h8=> ?_) (fun h8=> ?_)
 ·have e1:IntKind.i64.wrap ((n:Int) - 1)=((n - 1:Nat):Int):=by rw[Bu (by omega) (by omega)];omega
  simp(disch:=omega) [VZ]
  refine dL (Jk b i2 h2 l hl h5 hb) ?_ (n1:=by intro _;simp(disch:=omega) [ah.c,aC.o,VZ]) (n3:=by intro _;simp(disch:=omega) [ah.c,aC.o,VZ])
  rintro⟨m,i3,h3⟩ ⟨g3,j3⟩
  simp only at g3 j3
  simp(disch:=omega) [cur,aC.o,e1,hlx,LS,VZ]
  refine hP (n - 1,_,i3,h3,x++ [m]) (g - 1) _ _ (by omega) ⟨by simp only;omega,j3,by simp;omega,fun z hz=> ?_⟩ (by simp(disch:=omega) [VZ];rfl) (by simp(disch:=omega) [VZ])
  rcases List.mem_append.1 hz with hz|hz
  ·exact h7 z hz
  ·simp only[List.mem_singleton]at hz;subst hz;exact g3
 ·simp(disch:=omega) [VZ]
  exact⟨x,⟨by omega,h7⟩,rfl⟩
end Go.Eng.F
namespace Go.Eng.F
end Go.Eng.F
namespace Go.Eng.F
theorem Ky (s:Bytes) (a n:Nat):eG s a n=eG (s.drop a) 0 n:=by
 simp only[eG,List.drop_drop,Nat.zero_add]
theorem GX (l:ah) (s:Bytes) (a:Nat):aJ l s a=aJ l (s.drop a) 0:=by
 have e1:∀i,(s.drop a).getD i 0=s.getD (a+i) 0:=fun i=>by simp only[List.getD_eq_getElem?_getD,List.getElem?_drop]
 have e2:C2 (s.drop a) 0=C2 s a:=by simp only[C2,List.drop_drop,Nat.zero_add]
 have e3:Oo (s.drop a) 0=Oo s a:=by simp only[Oo,List.drop_drop,Nat.zero_add]
 have e4:My (s.drop a) 0=My s a:=by simp only[My,List.drop_drop,Nat.zero_add,e2]
 have c1:(0 < (s.drop a).length)=(a < s.length):=propext (by rw[List.length_drop];omega)
 have c2:(1 < (s.drop a).length)=(a+1 < s.length):=propext (by rw[List.length_drop];omega)
 have c3:(s.drop a).length - 0=s.length - a:=by rw[List.length_drop];omega
 simp only[aJ,c1,c2,c3,e1,e2,e3,e4,Nat.add_zero,Nat.zero_add]
def gP (l:ah) (cl:Bool):Nat→Bytes→Nat→List Ev×Nat×Bytes
 |0,u,k=>([],k,u)
 |g+1,u,k=>
  if u= []then([],k,[])
  else if(aJ l u 0).1=1∧cl=false then([],k,u)
  else if(aJ l u 0).1≠3 then gP l cl g (u.drop 1) (k+1)
  else((eY k++ [vX l (eG u 0 (aJ l u 0).2.toNat)])++(gP l cl g (u.drop (aJ l u 0).2.toNat) 0).1,(gP l cl g (u.drop (aJ l u 0).2.toNat) 0).2)
theorem el (l:ah) (cl:Bool) (g k:Nat):gP l cl g [] k=([],k,[]):=by
 cases g
 ·rfl
 ·rw[gP,if_pos rfl]
theorem Gl {l:ah} {s:Bytes} {cl:Bool}:∀(g a k:Nat) (e:List Ev),a≤s.length→fQ l s cl g a k e=(e++(gP l cl g (s.drop a) k).1,(gP l cl g (s.drop a) k).2.1,s.length - (gP l cl g (s.drop a) k).2.2.length)
 |0,a,k,e,h=>by simp[fQ,gP];omega
 |g+1,a,k,e,h=>by
  by_cases h0:a < s.length
  ·have hu:s.drop a≠ []:=fun x=>by have:=congrArg List.length x;simp at this;omega
   rw[fQ,if_pos h0,gP,if_neg hu,←GX,←Ky]
   by_cases h1:(aJ l s a).1=1∧cl=false
   ·rw[if_pos h1,if_pos h1]
    simp;omega
   ·rw[if_neg h1,if_neg h1]
    by_cases h2:(aJ l s a).1≠3
    ·rw[if_pos h2,if_pos h2,Gl g (a+1) (k+1) e (by omega),List.drop_drop]
    ·rw[if_neg h2,if_neg h2]
     obtain⟨n,hn,h9,hl,_⟩:=mq (Decidable.not_not.1 h2)
     have e1:(aJ l s a).2.toNat=n:=by rw[hn];rfl
     rw[e1,Gl g (a+n) 0 _ (by omega),List.drop_drop]
     simp only[List.append_assoc]
  ·have hu:s.drop a= []:=List.drop_eq_nil_of_le (by omega)
   rw[fQ,if_neg h0,hu,el]
   simp
   omega
theorem OA {l:ah} {u:Bytes} (h:¬(aJ l u 0).1≠3):∃n:Nat,aJ l u 0=(3,(n:Int))∧(aJ l u 0).2.toNat=n∧9≤n∧n≤u.length:=by
 obtain⟨n,hn,h9,hl,_⟩:=mq (Decidable.not_not.1 h)
 exact⟨n,hn,by rw[hn];rfl,h9,by omega⟩
theorem vL (l:ah) (cl:Bool):∀(n g g':Nat) (u:Bytes) (k:Nat),u.length≤n→u.length≤g→u.length≤g'→gP l cl g u k=gP l cl g' u k
 |n,0,g',u,k,_,h,_=>by
  have:u= []:=List.eq_nil_of_length_eq_zero (by omega)
  rw[this,el,el]
 |n,g+1,0,u,k,_,_,h=>by
  have:u= []:=List.eq_nil_of_length_eq_zero (by omega)
  rw[this,el,el]
 |0,g+1,g'+1,u,k,h,_,_=>by
  have:u= []:=List.eq_nil_of_length_eq_zero (by omega)
  rw[this,el,el]
 |n+1,g+1,g'+1,u,k,h,h1,h2=>by
  by_cases hu:u= []
  ·rw[hu,el,el]
  have hp:=List.length_pos_iff.2 hu
  rw[gP,gP,if_neg hu,if_neg hu]
  have e1:=vL l cl n g g' (u.drop 1) (k+1) (by rw[List.length_drop];omega) (by rw[List.length_drop];omega) (by rw[List.length_drop];omega)
  rw[e1]
  by_cases h3:(aJ l u 0).1≠3
  ·simp only[if_pos h3]
  ·obtain⟨m,_,hm,h9,hl⟩:=OA h3
   have e2:=vL l cl n g g' (u.drop m) 0 (by rw[List.length_drop];omega) (by rw[List.length_drop];omega) (by rw[List.length_drop];omega)
   rw[hm,e2]
def scan (l:ah) (cl:Bool) (u:Bytes) (k:Nat):List Ev×Nat×Bytes:=gP l cl u.length u k
theorem NU (l:ah) (cl:Bool) (k:Nat):scan l cl [] k=([],k,[]):=rfl
theorem MG {l:ah} {cl:Bool} {u:Bytes} {k n:Nat} (h:aJ l u 0=(3,(n:Int))) (hn:9≤n) (hl:n≤u.length):scan l cl u k=((eY k++ [vX l (eG u 0 n)])++(scan l cl (u.drop n) 0).1,(scan l cl (u.drop n) 0).2):=by
 have hu:u≠ []:=by rintro rfl;simp at hl;omega
 obtain⟨g,hg⟩:∃g,u.length=g+1:=⟨u.length - 1,by omega⟩
 have e:gP l cl g (u.drop n) 0=scan l cl (u.drop n) 0:=vL l cl g _ _ _ _ (by rw[List.length_drop];omega) (by rw[List.length_drop];omega) (Nat.le_refl _)
 have e1:(aJ l u 0).2.toNat=n:=by rw[h];rfl
 rw[scan,hg,gP,if_neg hu,if_neg (by rw[h];simp),if_neg (by rw[h];simp),e1,e]
theorem K2 (l:ah) (s:Bytes) (cl:Bool) (k:Nat):ur l s cl k=((scan l cl s k).1++(if cl=true then eY (scan l cl s k).2.1 else []),(scan l cl s k).2.1,s.length - (scan l cl s k).2.2.length):=by
 simp only[ur,Gl s.length 0 k [] (Nat.zero_le _),List.drop_zero,List.nil_append]
 rfl
theorem Gr (n:Nat):∀w,fY (dw n w)=n % 256 ^ w
 |0=>by simp[dw,fY,Nat.mod_one]
 |w+1=>by
  have h:=HI ((n / 256 ^ w:Nat):Int)
  have h2:IntKind.u8.wrap ((n / 256 ^ w:Nat):Int)=((n / 256 ^ w % 256:Nat):Int):=by simp[IntKind.wrap,IntKind.bits,IntKind.signed]
  rw[h2]at h
  have h3:(b8 ((n / 256 ^ w:Nat):Int)).toNat=n / 256 ^ w % 256:=by omega
  rw[kV,yn,Gr n w,bO,h3,Nat.pow_succ,Nat.mod_mul,Nat.mul_comm]
theorem iT (b:Bytes):(di b).length=8+b.length:=by
 simp only[di,List.length_append,List.length_cons,List.length_nil,bO]
theorem Mn {l:ah} {b t:Bytes} (h:cI l b=true):aJ l (di b++t) 0=(3,((8+b.length:Nat):Int))∧eG (di b++t) 0 (8+b.length)=b∧9≤8+b.length:=by
 simp only[cI,Bool.and_eq_true]at h
 have h1:=cq h.2
 have hf:=h.1
 simp only[ah.ok,db,Bool.and_eq_true,decide_eq_true_eq]at hf
 have e:di b++t=181::70::(dw b.length 2++(dw (MU b) 4++(b++t))):=by simp[di]
 have hl:(di b++t).length=8+b.length+t.length:=by rw[List.length_append,iT]
 have e2:C2 (di b++t) 0=b.length:=by
  rw[e,C2]
  simp only[Nat.zero_add,List.drop_succ_cons,List.drop_zero]
  have:List.take 2 (dw b.length 2++(dw (MU b) 4++(b++t)))=dw b.length 2:=by
   rw[List.take_append_of_le_length (by rw[bO];omega),List.take_of_length_le (by rw[bO];omega)]
  rw[this,Gr,Nat.mod_eq_of_lt (by simp;omega)]
 have e3:Oo (di b++t) 0=MU b:=by
  rw[e,Oo]
  simp only[Nat.zero_add,List.drop_succ_cons]
  rw[List.drop_append_of_le_length (by rw[bO];omega),List.drop_eq_nil_of_le (by rw[bO];omega),List.nil_append]
  rw[List.take_append_of_le_length (by rw[bO];omega),List.take_of_length_le (by rw[bO];omega),Gr,Nat.mod_eq_of_lt (Nc b)]
 have e5:(di b++t).drop 8=b++t:=by
  rw[e]
  simp only[List.drop_succ_cons]
  rw[←List.append_assoc,List.drop_append_of_le_length (by simp[bO]),List.drop_eq_nil_of_le (by simp[bO]),List.nil_append]
 have e4:My (di b++t) 0=b:=by
  rw[My,e2,Nat.zero_add,e5,List.take_left]
 have g0:((di b++t).getD 0 0).toNat=181:=by rw[e];rfl
 have g1:((di b++t).getD (0+1) 0).toNat=70:=by rw[e];rfl
 refine⟨?_,?_,by omega⟩
 ·unfold aJ
  rw[if_pos ⟨h.1,by omega⟩,if_pos g0,if_neg (fun x=>x.2 g1),if_neg (by omega),e2,if_neg (fun x=>x h.2),if_neg (by omega),e3,e4,if_pos rfl]
  simp
 ·rw[eG,show 8+b.length - 8=b.length by omega,Nat.zero_add,e5,List.take_left]
def cM (l:ah) (m:List aC):Bytes:=(m.map fun x=>di (fG l x)).flatten
theorem Ke {l:ah} {cl:Bool} {m:aC} {t:Bytes} {k:Nat} (h1:aV l m=true) (h2:cI l (fG l m)=true):scan l cl (di (fG l m)++t) k=((eY k++ [⟨3,0,m⟩])++(scan l cl t 0).1,(scan l cl t 0).2):=by
 obtain⟨e1,e2,h9⟩:=Mn (t:=t) h2
 rw[MG e1 h9 (by rw[List.length_append,iT];omega),e2]
 have e3:(di (fG l m)++t).drop (8+(fG l m).length)=t:=by rw[←iT,List.drop_left]
 have e4:vX l (fG l m)=⟨3,0,m⟩:=by
  have:fG l m=dI m::a9 m:=by rw[fG,if_pos h1]
  simp only[vX,this,PE h1,if_true]
 rw[e3,e4]
theorem z5 {l:ah} {cl:Bool} {t:Bytes}:∀(m:List aC),(∀x∈m,aV l x=true∧cI l (fG l x)=true)→scan l cl (cM l m++t) 0=((m.map fun x=>(⟨3,0,x⟩:Ev))++(scan l cl t 0).1,(scan l cl t 0).2)
 | [],_=>by simp[cM]
 |x::m,h=>by
  have h1:=h x (by simp)
  have ih:=z5 (cl:=cl) (t:=t) m (fun y hy=>h y (by simp[hy]))
  have e:cM l (x::m)++t=di (fG l x)++(cM l m++t):=by simp[cM]
  rw[e,Ke h1.1 h1.2,ih]
  simp[eY]
end Go.Eng.F
namespace Go.Eng.F
theorem Li {l:List aC} {i:Nat} (h:i < l.length):(Ed l)[i]? =some (l[i].c):=by simp[Ed,h]
def ej (l:ah) (m:List aC):Bool:=m.all fun x=>aV l x && cI l (fG l x)
def xT (l:ah) (m:List aC):List (Bool×List E):= [(false,[.o true (some (5,1)) (bytes (if ej l m=true then cM l m else []))]),(false,[.p (.bool (ej l m))])]
theorem IY {l:ah} {m:List aC} {i:Nat} (h:i < m.length) (h0:∀x∈m.take i,(aV l x && cI l (fG l x))=true) (h1:(aV l m[i] && cI l (fG l m[i]))=true):∀x∈m.take (i+1),(aV l x && cI l (fG l x))=true:=by
 rw[List.take_succ_eq_append_getElem h]
 intro x hx
 rcases List.mem_append.1 hx with hx|hx
 ·exact h0 x hx
 ·simp only[List.mem_singleton]at hx;subst hx;exact h1
theorem GW {l:ah} {m:List aC} {i:Nat} (h:i < m.length) (h1:(aV l m[i] && cI l (fG l m[i]))=false):ej l m=false:=by
 cases hb:ej l m with
 |false=>rfl
 |true=>
  simp only[ej,List.all_eq_true]at hb
  rw[hb _ (List.getElem_mem h)]at h1
  cases h1
theorem FK {l:ah} {m:List aC} {i:Nat} (h:i < m.length):cM l (m.take (i+1))=cM l (m.take i)++di (fG l m[i]):=by
 rw[List.take_succ_eq_append_getElem h]
 simp only[cM,List.map_append,List.map_cons,List.map_nil,List.flatten_append,List.flatten_cons,List.flatten_nil,List.append_nil]
theorem zC {l:ah} {m:List aC} {i:Nat}:(cM l (m.take i)).length≤20009 * i:=by
 induction i with
 |zero=>simp[cM]
 |succ i ih=>
  by_cases h:i < m.length
  ·rw[FK h,List.length_append,iT]
   have:=JK l m[i]
   omega
  ·rw[List.take_of_length_le (by omega)]at ih⊢
   omega
theorem Ps (l:ah) (m:aC) (hw:m.wc):VC cd jZ (aD [(true,l.c),(true,m.c)]) (fun rs _=>rs= [(false,[.o true (some (5,1)) (bytes (fG l m))]),(false,[.p (.bool (aV l m))])]):=
 (CL l m hw).own fun rs ps q=>by
   rw[q,fG]
   by_cases h0:aV l m=true
   ·rw[b4 h0,if_pos h0,h0]
    exact⟨_,by simp[aP,aY,ba],rfl⟩
   ·have h1:aV l m=false:=by simpa using h0
    rw[cV h1,if_neg h0,h1]
    exact⟨_,by simp[aP,aY,ba,ae],rfl⟩
abbrev uO:Nat:=61
def vm:AF:=⟨2,6,[.tmp 4, .tmp 5],(.seq (.ops [.i (.lbox 2 (.s 0)), .i (.mov 4 (.c (.val false [.nils]))), .i (.mov 5 (qb false))]) (.seq (.ops [.i (.bse 13),qm 6 13]) (.seq (.seq (.ops [qm 14 1,qn 15 14, .i (.mov 16 (qi 0))]) (.block 0 (.loop [41,40,39,38,37,36,35,34,33,32,31,30,29,28,27,26,25,24,23,22,21,20,19,18,17,12,11,10,9,8] (.seq (.ops [qd 17 .lss 16 15]) (.seq (.cond (.s 17) .skip (.exit 0)) (.seq (.block 1 (.seq (.ops [.i (.iad 18 (.s 14) (.s 16) 45), .i (.ldh 19 (.s 18) 45 true), .i (.lal 8 [.int .i64 0, .int .i64 0, .int .i64 0, .nils, .int .i64 0, .nils, .int .i64 0, .int .i64 0, .nils, .nils, .nils, .int .i64 0, .int .i64 0, .int .i64 0, .nils, .nils, .int .i64 0, .int .i64 0, .nils, .nils, .nils, .int .i64 0, .int .i64 0, .int .i64 0, .nils, .nils, .int .i64 0, .int .i64 0, .nils, .nils, .nils, .nils, .int .i64 0, .nils, .nils, .int .i64 0, .int .i64 0, .nils, .nils, .nils, .int .i64 0, .int .i64 0, .int .i64 0, .nils, .nils]),qs 8 8 19 45]) (.seq (.ops [ql 21 2 2 5 true,ql 22 8 8 45 true, .i (.call 24 52 false [(.s 21),(.s 22)]),qm 20 23, .i (.ext 24 (.s 20) 0), .i (.ext 25 (.s 20) 1),qm 9 24,qm 10 25]) (.seq (.ops [ql 27 2 2 5 true,qm 28 9, .i (.call 30 139 false [(.s 27),(.s 28)]),qm 26 29, .i (.ext 30 (.s 26) 0), .i (.ext 31 (.s 26) 1),qm 11 30,qm 12 31]) (.seq (.seq (.ops [qm 32 10, .i (.not 33 (.s 32)),qm 34 33, .g 34 false 36 (.mov 35 (.s 12)), .g 34 false 37 (.not 36 (.s 35)), .i (.pick 37 (.s 34) (qb true) (.s 36))]) (.cond (.s 37) (.seq (.ops [.i (.mov 4 (.c (.val false [.nils]))), .i (.mov 5 (qb false))]) .ret) .skip)) (.ops [qm 38 6,qm 39 11, .i (.app 40 5 1 1 (.s 38) (.s 39)),qm 6 40])))))) (.ops [.i (.bin 41 .add (.s 16) (qi 1)),qm 16 41]))))))) (.seq (.ops [qm 42 6,qm 4 42, .i (.mov 5 (qb true))]) .ret))))⟩
theorem EF:cd uO=some vm:=by kernel_rfl
theorem D4 (l:ah) (m:List aC) (hm:m.length≤10000) (hw:∀x∈m,x.wc):VC cd uO (aD [(true,l.c),(false,[.sl (Ed m)])]) (fun rs _=>rs=xT l m):=by
 refine VC.qw ?_
 refine aa EF rfl ?_
 simp(disch:=omega) [vm,ah.c,Bp,VZ]
 refine bo (σ:=Nat×Nat×Bytes) (f1:=_) (es0:=_) (by simp(disch:=omega) [VZ];rfl) (by simp(disch:=omega) [VZ];rfl) (fun p=> [(16, .val false [.int .i64 (p.1:Int)]),(6, .val false [.ow 13 p.2.1])]) (fun p=> [(13, .sl p.2.1 true true (some (5,1)) (bytes p.2.2))])
  (fun p g=>g+p.1=m.length∧p.2.2=cM l (m.take p.1)∧∀x∈m.take p.1,(aV l x && cI l (fG l x))=true) (0,_,[]) m.length (by simp(disch:=omega) [VZ];rfl) (by simp(disch:=omega) [bytes,VZ]) ⟨by simp,by simp[cM],by simp⟩ ?_
 rintro⟨i,v,x⟩ nx g ⟨hg,h5,h6⟩ P hP
 simp only at hg h5 h6
 have hlen:=zC (l:=l) (m:=m) (i:=i)
 rw[←h5]at hlen
 simp(disch:=omega) [VZ]
 refine ab (fun h8=> ?_) (fun h8=> ?_)
 ·have hml:=hw _ (List.getElem_mem h8)
  have hel:=JK l m[i]
  have hfl:=iT (fG l m[i])
  have hft:=IY (l:=l) h8 h6
  have hfn:=GW (l:=l) h8
  have hb:=FK (l:=l) h8
  have hgt:=Li h8
  generalize m[i]=y at hml hel hfl hft hfn hb hgt
  simp(disch:=omega) [hgt,aC.c,VZ]
  refine ao (Ps l y hml) ?_ (ha:=by first|rfl|(simp[ah.c,aC.c,VY] <;>repeat' constructor))
  simp(disch:=omega) [VZ]
  have hfr:=EI l (fG l y) (by omega)
  simp only[yw]at hfr
  refine ao (hfr) ?_ (ha:=by first|rfl|(simp[ah.c,VY] <;>repeat' constructor))
  by_cases k1:aV l y=true
  ·by_cases k2:cI l (fG l y)=true
   ·have e1:bytes x++bytes (di (fG l y))=bytes (cM l (m.take (i+1))):=by rw[hb,←h5];simp[bytes]
    simp(disch:=omega) [k1,k2,e1,an,hfl,VZ]
    exact hP (i+1,_,cM l (m.take (i+1))) (g - 1) _ _ (by omega) ⟨by simp only;omega,rfl,hft (by rw[k1,k2];rfl)⟩ (by simp(disch:=omega) [VZ] <;>rfl) (by simp(disch:=omega) [VZ])
   ·have k3:cI l (fG l y)=false:=by simpa using k2
    simp(disch:=omega) [k1,k2,k3,xT,hfn (by rw[k1,k3];rfl),ae,aP,aY,ba,VZ]
  ·have k3:aV l y=false:=by simpa using k1
   simp(disch:=omega) [k1,k3,xT,hfn (by rw[k3];rfl),ae,aP,aY,ba,VZ]
 ·have hi:i=m.length:=by omega
  subst hi
  rw[List.take_length]at h5 h6
  have hf:ej l m=true:=by simp only[ej,List.all_eq_true];exact h6
  subst h5
  simp(disch:=omega) [xT,hf,aP,aY,ba,VZ]
def GQ (a b:Ev):Bool:=decide (a.kind=b.kind) && decide (a.n=b.n) && iu a.msg b.msg
abbrev lN:Nat:=130
def l0:AF:=⟨2,5,[.tmp 4],(.seq (.ops [.i (.lbox 2 (.s 0)), .i (.lbox 3 (.s 1)), .i (.mov 4 (qb false))]) (.seq (.ops [qf 5 2 0,ql 6 2 5 1 false,qf 7 3 0,ql 8 3 7 1 false,qd 9 .eql 6 8,qm 10 9, .g 10 true 12 (.fad 11 (.s 2) 1), .g 10 true 13 (.ldl 12 2 (.s 11) 1 false), .g 10 true 14 (.fad 13 (.s 3) 1), .g 10 true 15 (.ldl 14 3 (.s 13) 1 false), .g 10 true 16 (.bin 15 .eql (.s 12) (.s 14)), .i (.pick 16 (.s 10) (.s 15) (qb false)),qm 17 16, .g 17 true 19 (.fad 18 (.s 2) 2), .g 17 true 20 (.ldl 19 2 (.s 18) 45 true), .g 17 true 21 (.fad 20 (.s 3) 2), .g 17 true 22 (.ldl 21 3 (.s 20) 45 true), .g 17 true 23 (.call 23 54 false [(.s 19),(.s 21)]), .i (.pick 23 (.s 17) (.s 22) (qb false)),qm 4 23]) .ret))⟩
theorem yB:cd lN=some l0:=by kernel_rfl
theorem wP (a b:Ev) (ha:a.msg.wc) (hb:b.msg.wc):VC cd lN (aD [(true,a.c),(true,b.c)]) (fun rs _=>rs=bl (GQ a b)):=by
 refine aa yB rfl ?_
 simp(disch:=omega) [l0,Ev.c,aC.c,VZ]
 refine ab (fun h1=> ?_) (fun h1=> ?_) <;>simp(disch:=omega) [h1,GQ,VZ]
 refine ab (fun h2=> ?_) (fun h2=> ?_) <;>simp(disch:=omega) [h1,h2,VZ]
 refine ao (bM a.msg b.msg ha hb) ?_ (ha:=by first|rfl|(simp[aC.c,VY] <;>repeat' constructor))
 simp(disch:=omega) [h1,h2,VZ]
theorem Ip (a:Ev):GQ a a=true:=by simp[GQ,jN.2 rfl]
abbrev jx:Nat:=49
def ju:AF:=⟨2,5,[.tmp 4],(.seq (.ops [.i (.mov 4 (qb false))]) (.seq (.seq (.ops [qm 6 0,qn 7 6,qm 8 1,qn 9 8,qd 10 .neq 7 9]) (.cond (.s 10) (.seq (.ops [.i (.mov 4 (qb false))]) .ret) .skip)) (.seq (.seq (.ops [qm 11 0,qn 12 11, .i (.mov 13 (qi 0))]) (.block 0 (.loop [26,25,24,23,22,21,20,19,18,17,16,15,14,5] (.seq (.ops [qd 14 .lss 13 12]) (.seq (.cond (.s 14) .skip (.exit 0)) (.seq (.block 1 (.seq (.ops [qm 15 13,qm 5 15]) (.seq (.ops [qm 16 0,qm 17 5, .i (.iad 18 (.s 16) (.s 17) 47), .i (.ldh 19 (.s 18) 47 true),qm 20 1,qm 21 5, .i (.iad 22 (.s 20) (.s 21) 47), .i (.ldh 23 (.s 22) 47 true), .i (.call 25 130 false [(.s 19),(.s 23)]), .i (.not 25 (.s 24))]) (.cond (.s 25) (.seq (.ops [.i (.mov 4 (qb false))]) .ret) .skip)))) (.ops [.i (.bin 26 .add (.s 13) (qi 1)),qm 13 26]))))))) (.seq (.ops [.i (.mov 4 (qb true))]) .ret))))⟩
theorem wO:cd jx=some ju:=by kernel_rfl
theorem vK (a:List Ev) (hl:a.length≤1073741824) (ha:∀x∈a,x.msg.wc):VC cd jx (aD [(false,[.sl (EW a)]),(false,[.sl (EW a)])]) (fun rs _=>rs=bl true):=by
 refine aa wO rfl ?_
 simp(disch:=omega) [ju,xk,VZ]
 refine bo (σ:=Nat) (f1:=_) (es0:=_) (by simp(disch:=omega) [VZ] <;>rfl) (by simp(disch:=omega) [VZ] <;>rfl) (fun p=> [(13, .val false [.int .i64 (p:Int)])]) (fun p=> [])
  (fun p g=>g+p=a.length) 0 a.length (by simp(disch:=omega) [VZ] <;>rfl) (by simp(disch:=omega) [VZ]) (by simp) ?_
 rintro i nx g hg P hP
 simp(disch:=omega) [VZ]
 refine ab (fun h8=> ?_) (fun h8=> ?_)
 ·have hml:=ha _ (List.getElem_mem h8)
  have hgt:=Lo h8
  generalize a[i]=y at hml hgt
  simp(disch:=omega) [hgt,Ev.c,aC.c,VZ]
  refine ao (wP y y hml hml) ?_ (ha:=by first|rfl|(simp[Ev.c,aC.c,VY] <;>repeat' constructor))
  simp(disch:=omega) [Ip,VZ]
  exact hP (i+1) (g - 1) _ _ (by omega) (by omega) (by simp(disch:=omega) [VZ] <;>rfl) (by simp(disch:=omega) [VZ])
 ·simp(disch:=omega) [VZ]
end Go.Eng.F
namespace Go.Eng.F
theorem law_code {n:Nat} (hc:∀b:Bytes,VC cd n (aD [(false,[.sl (bytes b)])]) (fun rs _=>rs=bl true)):∀h vs,Hl h [.sl (.int .u8)] vs→WC cd n vs h (fun r _=>r= .val false [.bool true]):=by
 intro h vs ha
 obtain⟨cs,v,S,r,rfl,hv,hr⟩:=ha
 obtain⟨x,rfl⟩:=hC hv.ok
 have e:Mg [(.sl (.int .u8),Ec x)]= [(false,[.sl (bytes x)])]:=by simp only[Mg,List.map,hU,Ty.agg]
 have hc:=hc x
 rw[←e]at hc
 have ha:my h [(.sl (.int .u8),Ec x)] ((Ty.agg (.sl (.int .u8)),cs)::r):=⟨cs,r,rfl,⟨S,hv⟩,hr⟩
 refine(hc.wc ha (ts:= [(.bool, .b true)]) fun rs q=>by rw[q];exact SH true).mono ?_
 rintro r' h' ⟨t,css,S',rfl,rfl,hres,_⟩
 obtain⟨cs',cr,S1,S2,rfl,rfl,h1,h2⟩:=hres
 obtain⟨rfl,rfl⟩:=h2
 obtain⟨b,rfl,e2,_⟩:=h1.bool
 simp only[Tv.b.injEq]at e2
 subst e2
 rfl
end Go.Eng.F
namespace Go.Eng.F
theorem F9 {l:ah} {q:Qc} (h:ey l q=true):(HZ q).length≤564:=by
 have s:=jo h
 have h1:=av s.view
 have h2:=av s.height
 have h3:=s.block
 have h4:=s.bits
 have h5:=s.tags
 have h6:q.tags.flatten.length≤32 * q.tags.length:=by
  have h7:=s.tag
  generalize q.tags=t at h7
  clear h5
  induction t with
  |nil=>simp
  |cons x t ih=>
   have:=h7 x (by simp)
   have:=ih fun y hy=>h7 y (by simp[hy])
   simp only[List.flatten_cons,List.length_append,List.length_cons]
   omega
 simp only[HZ,List.length_append]
 omega
theorem y4 {l:ah} {h:Head} (w:bA l h=true):(de h).length≤655:=by
 obtain⟨w1,w2,w3,w4,w5,w6,w7,w8,w9⟩:=yT w
 have h1:=av w1
 have h2:=av w2
 have h3:=av w3
 have h4:=F9 w8
 simp only[de,List.length_append]
 omega
theorem ry {α:Type} {e:α→Bytes} {N:Nat}:∀(xs:List α),(∀x∈xs,(e x).length≤N)→(xs.map e).flatten.length≤N * xs.length
 | [],_=>by simp
 |x::xs,h=>by
  have h1:=h x (by simp)
  have h2:=ry xs fun y hy=>h y (by simp[hy])
  simp only[List.map_cons,List.flatten_cons,List.length_append,List.length_cons]
  rw[Nat.mul_succ]
  omega
theorem fD {n:Nat} (h:n≤1152921504606846975):(aO n).length≤9:=b5 h
theorem Ms {l:ah} {m:aC} (h:az l m=true):(a9 m).length≤3999:=by
 have hL:=gf (wu h)
 have hl1:=hL.1
 have hl2:=hL.2.1
 have hl3:=hL.2.2.1
 have hl4:=hL.2.2.2
 rcases fh h with e|e|e|e|e|e|e
 ·obtain⟨p1,p2,_,_⟩:=GF (l:=l) e
  rw[p1]at h
  rw[p2]
  have:=Lx (xe h)
  omega
 ·obtain⟨p1,p2,_,_⟩:=K4 (l:=l) e
  rw[p1]at h
  rw[p2]
  have:=F9 h
  omega
 ·obtain⟨p1,p2,_,_⟩:=JT (l:=l) e
  rw[p1]at h
  rw[p2]
  have:=y4 h
  omega
 ·obtain⟨p1,p2,_,_⟩:=JS (l:=l) e
  rw[p1]at h
  rw[p2]
  obtain⟨w1,w2,w3,w4,w5⟩:=vI h
  have h1:=y4 w1
  have h2:=fD (n:=m.block.txs.length) (by omega)
  have h3:=ry (e:=eH) (N:=49) m.block.txs fun x hx=>by
   have:=w4 x hx
   have:=fD (n:=x.length) (by omega)
   simp only[eH,List.length_append]
   omega
  have h4:49 * m.block.txs.length≤49 * 8:=Nat.mul_le_mul_left _ (by omega)
  simp only[gh,List.length_append]
  omega
 ·obtain⟨p1,p2,_,_⟩:=Kv (l:=l) e
  rw[p1]at h
  rw[p2]
  obtain⟨w1,w2,w3,w4⟩:=HO h
  have h1:=av w2
  have h2:=fD (n:=m.tc.entries.length) (by omega)
  have h3:((m.tc.entries.map yu).flatten).length≤50 * m.tc.entries.length:=ry (e:=yu) (N:=50) m.tc.entries fun x hx=>by
   obtain⟨i,hi,rfl⟩:=List.getElem_of_mem hx
   obtain⟨a1,a2,a3,_⟩:=FJ _ _ w4 i _ (List.getElem?_eq_getElem hi)
   have hv:=cq w2
   have b1:=fD (n:=(m.tc.entries[i].who).toNat) (by omega)
   have b2:=fD (n:=(m.tc.entries[i].high).toNat) (by omega)
   simp only[yu,List.length_append]
   omega
  have h4:50 * m.tc.entries.length≤50 * 10:=Nat.mul_le_mul_left _ (by omega)
  simp only[Ml,List.length_append]
  omega
 ·obtain⟨p1,p2,_,_⟩:=JU (l:=l) e
  rw[p1]at h
  rw[p2]
  obtain⟨w1,w2,w3,w4,w5⟩:=we h
  have h1:=fD (n:=m.proof.heads.length) (by omega)
  have h2:=ry (e:=de) (N:=655) m.proof.heads fun x hx=>y4 (w3 x hx)
  have h3:=F9 w4
  have h4:655 * m.proof.heads.length≤655 * 5:=Nat.mul_le_mul_left _ (by omega)
  simp only[gC,List.length_append]
  omega
 ·obtain⟨p1,p2,_,_⟩:=KV (l:=l) e
  rw[p1]at h
  rw[p2]
  obtain⟨w1,w2,w3,w4,w5,w6,w7⟩:=yh h
  have h1:=av w2
  have h2:=fD (n:=m.incl.n.toNat) (by omega)
  have h3:=fD (n:=m.incl.idx.toNat) (by omega)
  have h4:=fD (n:=m.incl.tx.length) (by omega)
  have h5:=ry (e:=fun x:Bytes=>x) (N:=32) m.incl.path fun x hx=>Nat.le_of_eq (w7 x hx)
  have h6:=cf m.incl.n.toNat m.incl.idx.toNat
  have h7:32 * m.incl.path.length≤32 * 8:=Nat.mul_le_mul_left _ (by omega)
  simp only[List.map_id']at h5
  simp only[lS,eH,List.length_append]
  omega
theorem Ra {l:ah} {m:aC} (h:aV l m=true):fG l m=dI m::a9 m:=by rw[fG,if_pos h]
theorem Dq {l:ah} {m:aC} (h:aV l m=true) (hf:l.frame=4000):cI l (fG l m)=true:=by
 have h1:=Ms (iI h)
 rw[Ra h]
 simp only[cI,wu (iI h),hf,db,Bool.true_and,decide_eq_true_eq,List.length_cons]
 omega
theorem P0 {l:ah} {m:List aC} (h:∀x∈m,x.wc∧aV l x=true) (hf:l.frame=4000):ej l m=true:=by
 simp only[ej,List.all_eq_true]
 intro x hx
 have:=(h x hx).2
 rw[this,Dq this hf]
 rfl
def sZ (m:aC):Ev:=⟨3,0,m⟩
theorem Hy {l:ah} {m:List aC} {cl:Bool} (hl:l.ok=true) (h:∀x∈m,x.wc∧aV l x=true) (hf:l.frame=4000):parse l (cM l m) cl=m.map sZ:=by
 have h1:=z5 (l:=l) (cl:=cl) (t:= []) m fun x hx=>⟨(h x hx).2,Dq (h x hx).2 hf⟩
 rw[List.append_nil]at h1
 simp only[parse,if_pos hl,K2,h1,NU,List.append_nil]
 cases cl <;>simp[eY,sZ]
theorem J6 (m:List aC):dS (m.map sZ)=m:=by
 induction m with
 |nil=>rfl
 |cons x m ih=>
  have:dS ((x::m).map sZ)=x::dS (m.map sZ):=by simp[dS,sZ]
  rw[this,ih]
theorem Fe {l:ah} {m:List aC} (h:m.length≤3):(cM l m).length≤60027:=by
 have:=zC (l:=l) (m:=m) (i:=m.length)
 rw[List.take_length]at this
 have:20009 * m.length≤20009 * 3:=Nat.mul_le_mul_left _ h
 omega
abbrev nf:Nat:=9
def oo:AF:=⟨1,7,[.tmp 2],(.seq (.ops [.i (.mov 2 (qb false))]) (.seq (.seq (.ops [qm 10 0,qn 11 10, .i (.bin 12 .gtr (.s 11) (qi 1048576))]) (.cond (.s 12) (.seq (.ops [.i (.mov 2 (qb true))]) .ret) .skip)) (.seq (.ops [qm 13 0,qk 15 14 13, .i (.lal 3 [.int .i64 0, .int .i64 0, .int .i64 0, .int .i64 0, .int .i64 0]),qs 3 3 14 5]) (.seq (.ops [qm 15 0,ql 16 3 3 5 true, .i (.call 18 60 false [(.s 15),(.s 16)]),qm 4 17]) (.seq (.ops [ql 19 3 3 5 true,qm 20 4, .i (.call 22 61 false [(.s 19),(.s 20)]),qm 18 21, .i (.ext 22 (.s 18) 0), .i (.ext 23 (.s 18) 1),qm 5 22,qm 6 23]) (.seq (.ops [ql 24 3 3 5 true,qm 25 5, .i (.call 27 50 false [(.s 24),(.s 25),(qb false)]),qm 7 26]) (.seq (.ops [qm 27 7,qk 29 62 27,qm 8 28]) (.seq (.seq (.ops [qm 29 6, .i (.not 30 (.s 29)),qm 31 30, .g 31 false 33 (.mov 32 (.s 7)), .g 31 false 34 (.len 33 false (.s 32)), .g 31 false 35 (.mov 34 (.s 4)), .g 31 false 36 (.len 35 false (.s 34)), .g 31 false 37 (.bin 36 .neq (.s 33) (.s 35)), .i (.pick 37 (.s 31) (qb true) (.s 36)),qm 38 37, .g 38 false 40 (.mov 39 (.s 8)), .g 38 false 41 (.len 40 false (.s 39)), .g 38 false 42 (.mov 41 (.s 4)), .g 38 false 43 (.len 42 false (.s 41)), .g 38 false 44 (.bin 43 .neq (.s 40) (.s 42)), .i (.pick 44 (.s 38) (qb true) (.s 43))]) (.cond (.s 44) (.seq (.ops [.i (.mov 2 (qb false))]) .ret) .skip)) (.seq (.seq (.ops [qm 45 4,qn 46 45, .i (.mov 47 (qi 0))]) (.block 0 (.loop [60,59,58,57,56,55,54,53,52,51,50,49,48,9] (.seq (.ops [qd 48 .lss 47 46]) (.seq (.cond (.s 48) .skip (.exit 0)) (.seq (.block 1 (.seq (.ops [qm 49 47,qm 9 49]) (.seq (.ops [qm 50 8,qm 51 9, .i (.iad 52 (.s 50) (.s 51) 45), .i (.ldh 53 (.s 52) 45 true),qm 54 4,qm 55 9, .i (.iad 56 (.s 54) (.s 55) 45), .i (.ldh 57 (.s 56) 45 true), .i (.call 59 54 false [(.s 53),(.s 57)]), .i (.not 59 (.s 58))]) (.cond (.s 59) (.seq (.ops [.i (.mov 2 (qb false))]) .ret) .skip)))) (.ops [.i (.bin 60 .add (.s 47) (qi 1)),qm 47 60]))))))) (.seq (.ops [qm 61 7,ql 62 3 3 5 true,qm 63 5, .i (.call 65 50 false [(.s 62),(.s 63),(qb true)]), .i (.call 66 49 false [(.s 61),(.s 64)]),qm 2 65]) .ret))))))))))⟩
theorem Bi:cd nf=some oo:=by kernel_rfl
theorem FnFrames_ok (b:Bytes):VC cd nf (aD [(false,[.sl (bytes b)])]) (fun rs _=>rs=bl true):=by
 refine aa Bi rfl ?_
 simp(disch:=omega) [oo,an,VZ]
 refine ab (fun h0=> ?_) (fun h0=> ?_)
 ·simp(disch:=omega) [VZ]
 have hb:b.length≤1048576:=by omega
 simp(disch:=omega) [VZ]
 refine TS (E8 b (by omega)) ?_
 rintro l ⟨hl,hf⟩
 simp(disch:=omega) [ah.e,VZ]
 refine TS (I8 b l hl (by omega)) ?_ (ha:=by first|rfl|(simp[ah.c,VY] <;>repeat' constructor))
 rintro m ⟨hm3,hm⟩
 have hfr:=D4 l m (by omega) (fun x hx=>(hm x hx).1)
 simp only[xT,P0 hm hf,if_true]at hfr
 have hsl:=Fe (l:=l) hm3
 have hp1:=vu l (cM l m) false (by omega)
 have hp2:=vu l (cM l m) true (by omega)
 rw[Hy hl hm hf]at hp1 hp2
 have hw:∀e∈m.map sZ,e.msg.wc:=fun e he=>by
  obtain⟨x,hx,rfl⟩:=List.mem_map.1 he
  exact(hm x hx).1
 have hms:=Gf (m.map sZ) (by rw[List.length_map];omega) hw
 rw[J6]at hms
 have hes:=vK (m.map sZ) (by rw[List.length_map];omega) hw
 have hlen:(m.map sZ).length=m.length:=List.length_map _
 generalize cM l m=s at hfr hsl hp1 hp2
 generalize m.map sZ=e at hp1 hp2 hms hes hlen
 have hll:(EW e).length=m.length:=by rw[xk,hlen]
 have hlm:(Ed m).length=m.length:=Bp m
 simp(disch:=omega) [VZ]
 refine ao (hfr) ?_ (ha:=by first|rfl|(simp[ah.c,VY] <;>repeat' constructor))
 simp(disch:=omega) [VZ]
 refine ao (hp1) ?_ (ha:=by first|rfl|(simp[ah.c,VY] <;>repeat' constructor))
 simp(disch:=omega) [VZ]
 refine ao (hms) ?_
 simp(disch:=omega) [hll,hlm,VZ]
 refine bo (σ:=Nat) (f1:=_) (es0:=_) (by simp(disch:=omega) [VZ] <;>rfl) (by simp(disch:=omega) [VZ] <;>rfl) (fun p=> [(47, .val false [.int .i64 (p:Int)])]) (fun p=> [])
  (fun p g=>g+p=m.length) 0 m.length (by simp(disch:=omega) [VZ] <;>rfl) (by simp(disch:=omega) [VZ]) (by simp) ?_
 rintro i nx g hg P hP
 simp(disch:=omega) [VZ]
 refine ab (fun h8=> ?_) (fun h8=> ?_)
 ·obtain⟨y,hgt,hgt2,hmi⟩:∃y:aC,(Ed m)[i]? =some y.c∧(∀hq:i < (Ed m).length,(Ed m)[i]'hq=y.c)∧y.wc:=⟨m[i],Li h8,fun hq=>by simp[Ed],(hm _ (List.getElem_mem h8)).1⟩
  simp(disch:=omega) [hgt,hgt2,aC.c,VZ]
  refine ao (bM y y hmi hmi) ?_ (ha:=by first|rfl|(simp[aC.c,VY] <;>repeat' constructor))
  simp(disch:=omega) [show iu y y=true from jN.2 rfl,VZ]
  exact hP (i+1) (g - 1) _ _ (by omega) (by omega) (by simp(disch:=omega) [VZ] <;>rfl) (by simp(disch:=omega) [VZ])
 ·simp(disch:=omega) [VZ]
  refine ao (hp2) ?_ (ha:=by first|rfl|(simp[ah.c,VY] <;>repeat' constructor))
  simp(disch:=omega) [VZ]
  refine ao (hes) ?_
  simp(disch:=omega) [VZ]
end Go.Eng.F
