import Derived.Test.YtanfobggenpcaaaGreatGb
import Derived.Test.YtanfobggenpcaaaGreatGg
import Derived.Test.YtanfobggenpcaaaGreatGi
set_option maxRecDepth 100000
set_option linter.unusedSimpArgs false
set_option linter.unusedVariables false
namespace Go.Eng.F
theorem kc {n:Int} (h:isNum n=true):((n.toNat:Nat):Int)=n∧n.toNat≤1152921504606846975:=by
 have:=cu h
 omega
theorem At.le {b:Bytes} {a:Nat} {s:Bytes} (h:At b a s) (h0:0 < s.length):a+s.length≤b.length:=by
 rcases h.len with h1|h1
 ·exact h1
 ·rw[h1]at h0;simp at h0
def Cut (b:Bytes) (a:Nat) (s:Bytes):Prop:=a≤b.length∧∃k,k < s.length∧b.drop a=s.take k
theorem Cut.app {b:Bytes} {a:Nat} {s t:Bytes} (h:Cut b a (s++t)):Cut b a s∨(At b a s∧Cut b (a+s.length) t):=by
 obtain⟨h0,k,hk,h⟩:=h
 by_cases hs:k < s.length
 ·exact .inl ⟨h0,k,hs,by rw[h,List.take_append_of_le_length (by omega)]⟩
 ·have e:b.drop a=s++t.take (k - s.length):=by rw[h,List.take_append,List.take_of_length_le (by omega)]
  have hl:=congrArg List.length e
  simp only[List.length_drop,List.length_append,List.length_take]at hl hk
  refine .inr ⟨⟨_,e⟩,by omega,k - s.length,by omega,?_⟩
  rw[←List.drop_drop,e,List.drop_left]
theorem Cut.nil {b:Bytes} {a:Nat} (h:Cut b a []):False:=by
 obtain⟨_,k,hk,_⟩:=h
 simp at hk
theorem ti {r:Rd} {c:Nat}:cq r false c=r:=by simp[cq]
theorem gw {b:Bytes} {a n:Nat} {N:Int} {c:Nat} (h:At b a (aP n)) (hn:n≤1152921504606846975) (hN:(n:Int) < N):b5 b ⟨a,0⟩ N c=(n,⟨a+(aP n).length,0⟩):=by
 have e:decide (N≤(n:Int))=false:=by simp;omega
 simp only[b5,eP h hn,e,ti]
theorem mi {b:Bytes} {a:Nat} {s:Bytes} (h:At b a s) (hn:s.length=32):cH b ⟨a,0⟩ 32=(s,⟨a+s.length,0⟩):=by
 rw[Pr h hn (by omega),hn]
theorem I4 {b:Bytes} {a m:Nat} {x:Bytes} (h:At b a (eI x)) (hx:x.length≤m) (hm:m≤1152921504606846975):eg b ⟨a,0⟩ m=(x,⟨a+(eI x).length,0⟩):=by
 have hp:=NO x.length
 have hl:=h.le (by simp only[eI,List.length_append];omega)
 unfold eI at h hl⊢
 have e:=eP h.app.1 (by omega)
 simp only[dg,if_true]at e
 have h2:=h.app.2.take
 rw[List.length_append]at hl⊢
 simp only[eg,if_true,gH,e,ne_eq,not_true_eq_false,if_false,if_neg (show ¬m < x.length by omega),fy,if_pos (show a+(aP x.length).length+x.length≤b.length by omega),h2]
 simp only[Nat.add_assoc]
theorem Ph {x:Bytes} {n:Int} (h:dD x n=true):(u6 n).toNat=x.length∧0 < x.length:=by
 simp only[dD,Bool.and_eq_true,decide_eq_true_eq]at h
 have h1:=cu h.1.1
 have h2:=h.1.2
 have h3:1≤u6 n:=by unfold u6;split <;>omega
 omega
theorem JY {b:Bytes} {a:Nat} {x:Bytes} {n:Int} (h:At b a x) (hx:dD x n=true):dU b a n=(x,⟨a+x.length,0⟩):=by
 obtain⟨e,h0⟩:=Ph hx
 have hl:=h.le h0
 have h2:=h.take
 simp only[dU,e,fy,if_pos hl,h2,ne_eq,not_true_eq_false,if_false,hx,if_true]
theorem xv {α:Type} {b:Bytes} {f:Rd→α×Rd} {e:α→Bytes}:∀(xs:List α) (a:Nat),(∀x∈xs,∀a,At b a (e x)→f ⟨a,0⟩=(x,⟨a+(e x).length,0⟩))→At b a (xs.map e).flatten→dE f xs.length ⟨a,0⟩=(xs,⟨a+(xs.map e).flatten.length,0⟩)
 | [],a,_,_=>rfl
 |x::xs,a,hf,h=>by
  rw[List.map_cons,List.flatten_cons]at h⊢
  have h1:=hf x (by simp) a h.app.1
  have h2:=xv xs _ (fun y hy=>hf y (by simp[hy])) h.app.2
  rw[List.length_cons,me rfl,h1]
  simp only[h2,List.length_append,Nat.add_assoc]
theorem LS {b:Bytes} {xs:List Bytes} {a k:Nat} (h:At b a xs.flatten) (hx:∀x∈xs,x.length=32) (hk:xs.length=k):gR (fun r=>cH b r 32) k ⟨a,0⟩=(xs,⟨a+xs.flatten.length,0⟩):=by
 subst hk
 have h2:=xv (b:=b) (f:=fun r=>cH b r 32) (e:=fun x=>x) xs a (fun x hm a h=>mi h (hx x hm)) (by simpa using h)
 have h3:=Fz (b:=b) xs.length ⟨a,0⟩
 rw[h2]at h3
 exact Prod.ext (h3.2 rfl) (by rw[h3.1];simp)
theorem Nw {b:Bytes} {l:ah} {v:bg} {a:Nat} (hv:jk l v=true) (h:At b a (LK v)):ju b l ⟨a,0⟩=(v,⟨a+(LK v).length,0⟩):=by
 have hs:=xW hv
 have h4:v.who < l.n:=by simp only[jk,Bool.and_eq_true]at hv;have:=cu hv.2;omega
 obtain⟨c1,n1⟩:=kc hs.view
 obtain⟨c2,n2⟩:=kc hs.height
 obtain⟨c3,n3⟩:=kc hs.who
 unfold LK at h⊢
 obtain⟨p1,h⟩:=h.app
 obtain⟨p2,h⟩:=h.app
 obtain⟨p3,h⟩:=h.app
 obtain⟨p4,p5⟩:=h.app
 simp only[ju,eP p1 n1,eP p2 n2,mi p3 hs.block,gw (N:=l.n) (c:=5) p4 n3 (by omega),mi p5 hs.tag,c1,c2,c3]
 simp only[List.length_append,Nat.add_assoc]
theorem Rn {l:ah} {q:Qc} (h:eE l q=true):dD q.bits l.n=true∧q.tags.length=(aU q.bits).length:=by
 simp only[eE,Bool.and_eq_true,decide_eq_true_eq]at h
 exact⟨h.1.1.2,h.1.2⟩
theorem KG {b:Bytes} {l:ah} {q:Qc} {a:Nat} (hq:eE l q=true) (h:At b a (H4 q)):za b l ⟨a,0⟩=(q,⟨a+(H4 q).length,0⟩):=by
 have hs:=jq hq
 obtain⟨hb,ht⟩:=Rn hq
 obtain⟨c1,n1⟩:=kc hs.view
 obtain⟨c2,n2⟩:=kc hs.height
 simp only[H4,List.append_assoc]at h⊢
 obtain⟨p1,h⟩:=h.app
 obtain⟨p2,h⟩:=h.app
 obtain⟨p3,h⟩:=h.app
 obtain⟨p4,p5⟩:=h.app
 simp only[za,eP p1 n1,eP p2 n2,mi p3 hs.block,if_true,JY p4 hb,LS p5 hs.tag ht,c1,c2]
 simp only[List.length_append,Nat.add_assoc]
theorem yX {l:ah} {h:Head} (w:bB l h=true):isNum h.view=true∧isNum h.height=true∧isNum h.proposer=true∧1≤h.height∧h.proposer < l.n∧h.parent.length=32∧h.root.length=32∧eE l h.qc=true∧fits h=true:=by
 simp only[bB,Bool.and_eq_true]at w
 have h1:=cu w.1.1.1.1.2
 have h2:=cu w.1.1.1.2
 have h3:l.ok=true:=by have:=w.1.1.1.1.1.1;simp only[eE,Bool.and_eq_true]at this;exact this.1.1.1.1.1.1
 have h4:=jH h3
 refine⟨w.1.1.1.1.1.2,by simp only[isNum,de,decide_eq_true_eq];omega,by simp only[isNum,de,decide_eq_true_eq];omega,h1.1,by omega,gV w.1.1.2,gV w.1.2,w.1.1.1.1.1.1,w.2⟩
theorem Cm {b:Bytes} {l:ah} {x:Head} {a:Nat} (hx:bB l x=true) (h:At b a (df x)):dI b l ⟨a,0⟩=(x,⟨a+(df x).length,0⟩):=by
 obtain⟨w1,w2,w3,w4,w5,w6,w7,w8,w9⟩:=yX hx
 obtain⟨c1,n1⟩:=kc w1
 obtain⟨c2,n2⟩:=kc w2
 obtain⟨c3,n3⟩:=kc w3
 have d0:decide (x.height.toNat=0)=false:=by simp;omega
 simp only[df,List.append_assoc]at h⊢
 obtain⟨p1,h⟩:=h.app
 obtain⟨p2,h⟩:=h.app
 obtain⟨p3,h⟩:=h.app
 obtain⟨p4,h⟩:=h.app
 obtain⟨p5,p6⟩:=h.app
 have w9':fits ⟨x.view,x.height,x.proposer,x.parent,x.root,x.qc⟩=true:=w9
 simp only[dI,eP p1 n1,eP p2 n2,d0,ti,gw p3 n3 (show((x.proposer.toNat:Nat):Int) < l.n by omega),mi p4 w6,mi p5 w7,KG w8 p6,c1,c2,c3,w9',Bool.not_true]
 simp only[List.length_append,Nat.add_assoc]
theorem vK {l:ah} {x:Block} (h:bC l x=true):bB l x.head=true∧l.ok=true∧(x.txs.length:Int)≤l.txs∧(∀t∈x.txs,t.length≤l.tx.toNat)∧x.head.root=aY x.txs:=by
 simp only[bC,Bool.and_eq_true,decide_eq_true_eq]at h
 have h3:l.ok=true:=by have:=h.1.1.1;simp only[bB,eE,Bool.and_eq_true]at this;exact this.1.1.1.1.1.1.1.1.1.1.1.1
 refine⟨h.1.1.1,h3,h.1.1.2,fun t ht=> ?_,h.2⟩
 have h2:=h.1.2
 simp only[CG,List.all_eq_true,decide_eq_true_eq]at h2
 have:=h2 t ht
 omega
theorem MC {b:Bytes} {l:ah} {x:Block} {a:Nat} (hx:bC l x=true) (h:At b a (gD x)):eB b l ⟨a,0⟩=(x,⟨a+(gD x).length,0⟩):=by
 obtain⟨w1,w2,w3,w4,w5⟩:=vK hx
 have hl:=gk w2
 unfold gD at h⊢
 obtain⟨p1,h⟩:=h.app
 obtain⟨p2,p3⟩:=h.app
 have e3:=xv (f:=fun r=>eg b r l.tx.toNat) (e:=eI) x.txs _ (fun t ht a h=>I4 h (w4 t ht) (by have:=hl.2.1;omega)) p3
 have d0:decide (x.head.root≠aY x.txs)=false:=by simp[w5]
 simp only[eB,Cm w1 p1,gw p2 (show x.txs.length≤1152921504606846975 by have:=hl.2.2.1;omega) (show(x.txs.length:Int) < l.txs+1 by omega),e3,d0,ti]
 simp only[List.length_append,Nat.add_assoc]
def Du (l:ah) (view:Int):Int→List Entry→Prop
 |_,[]=>True
 |bf,e::es=>((0≤e.who∧e.who < l.n∧bf < e.who)∧(0≤e.high∧e.high < view)∧e.tag.length=32)∧Du l view e.who es
theorem F0 {l:ah} {t:Tc} (h:∀i < t.entries.length,b9 l t i=true):∀(es pre:List Entry) (bf:Int),t.entries=pre++es→(pre= []∧bf= -1∨∃d,pre.getLast? =some d∧d.who=bf)→Du l t.view bf es
 | [],_,_,_,_=>trivial
 |e::es,pre,bf,he,hp=>by
  have hi:t.entries[pre.length]? =some e:=by rw[he];simp
  have h1:=h pre.length (by rw[he];simp)
  simp only[b9,hi,Bool.and_eq_true,Bool.or_eq_true,decide_eq_true_eq]at h1
  obtain⟨⟨⟨a1,a2⟩,a3⟩,a4⟩:=h1
  have b1:=cu a1
  have b2:=cu a2
  refine⟨⟨⟨by omega,by omega,?_⟩,⟨by omega,by omega⟩,gV a3⟩,F0 h es (pre++ [e]) e.who (by rw[he];simp) (.inr ⟨e,by simp,rfl⟩)⟩
  rcases hp with⟨rfl,rfl⟩|⟨d,hd,rfl⟩
  ·omega
  ·have hn:pre≠ []:=by rintro rfl;simp at hd
   have hpl:0 < pre.length:=List.length_pos_iff.2 hn
   have h2:t.entries[pre.length - 1]? =some d:=by
    rw[he,List.getElem?_append_left (by omega),←List.getLast?_eq_getElem?]
    exact hd
   rw[h2]at a4
   rcases a4 with a4|a4
   ·omega
   ·simpa using a4
theorem Gt {l:ah} {t:Tc} (h:gY l t=true):l.ok=true∧isNum t.view=true∧(t.entries.length:Int)≤l.n∧Du l t.view (-1) t.entries:=by
 simp only[gY,Bool.and_eq_true,decide_eq_true_eq,List.all_eq_true,List.mem_range]at h
 exact⟨h.1.1.1,h.1.1.2,h.1.2,F0 h.2 t.entries [] (-1) rfl (.inl ⟨rfl,rfl⟩)⟩
theorem Ri {b:Bytes} {l:ah} {view bf:Int} {e:Entry} {a:Nat} (h1:0≤e.who∧e.who < l.n∧bf < e.who) (h2:0≤e.high∧e.high < view) (hl:l.n≤10) (hv:view≤1152921504606846975):((e.who.toNat:Nat):Int)=e.who∧e.who.toNat≤1152921504606846975∧((e.high.toNat:Nat):Int)=e.high∧e.high.toNat≤1152921504606846975∧decide (e.who≤bf)=false:=by
 refine⟨by omega,by omega,by omega,by omega,by simp;omega⟩
theorem IZ {b:Bytes} {l:ah} {view:Int} (hl:l.n≤10) (hv:view≤1152921504606846975):∀(es:List Entry) (bf:Int) (a:Nat),Du l view bf es→At b a (es.map yh).flatten→jt b l view es.length bf ⟨a,0⟩=(es,⟨a+(es.map yh).flatten.length,0⟩)
 | [],bf,a,_,_=>rfl
 |e::es,bf,a,⟨⟨h1,h2,h3⟩,hr⟩,h=>by
  obtain⟨c1,n1,c2,n2,d0⟩:=Ri (b:=b) (a:=a) h1 h2 hl hv
  rw[List.map_cons,List.flatten_cons]at h⊢
  obtain⟨hh,hn⟩:=h.app
  unfold yh at hh
  obtain⟨p1,hh⟩:=hh.app
  obtain⟨p2,p3⟩:=hh.app
  have h4:=IZ hl hv es e.who _ hr hn
  simp only[yh,List.length_append,←Nat.add_assoc]at h4⊢
  rw[List.length_cons,DO rfl]
  simp only[gw (N:=l.n) (c:=5) p1 n1 (by omega),d0,ti,gw (N:=view) (c:=6) p2 n2 (by omega),mi p3 h3,c1,c2,h4]
theorem Q4 {b:Bytes} {l:ah} {t:Tc} {a:Nat} (hx:gY l t=true) (h:At b a (MO t)):JR b l ⟨a,0⟩=(t,⟨a+(MO t).length,0⟩):=by
 obtain⟨w1,w2,w3,w4⟩:=Gt hx
 have hl:=gk w1
 obtain⟨c1,n1⟩:=kc w2
 unfold MO at h⊢
 obtain⟨p1,h⟩:=h.app
 obtain⟨p2,p3⟩:=h.app
 have e3:=IZ (l:=l) (view:=t.view) hl.1.2 (by omega) t.entries (-1) _ w4 p3
 simp only[JR,eP p1 n1,gw p2 (show t.entries.length≤1152921504606846975 by have:=hl.1;omega) (show(t.entries.length:Int) < l.n+1 by omega),c1,e3]
 simp only[List.length_append,Nat.add_assoc]
theorem wu {l:ah} {p:Proof} (h:cL l p=true):l.ok=true∧(3≤p.heads.length∧(p.heads.length:Int)≤l.heads)∧(∀h∈p.heads,bB l h=true)∧eE l p.qc=true∧l6 p=true:=by
 simp only[cL,Bool.and_eq_true,jA,List.all_eq_true]at h
 have h3:l.ok=true:=by have:=h.1.2;simp only[eE,Bool.and_eq_true]at this;exact this.1.1.1.1.1.1
 have:=cu h.1.1.1
 exact⟨h3,by omega,h.1.1.2,h.1.2,h.2⟩
theorem Mw {b:Bytes} {l:ah} {p:Proof} {a:Nat} (hx:cL l p=true) (h:At b a (gj p)):ec b l ⟨a,0⟩=(p,⟨a+(gj p).length,0⟩):=by
 obtain⟨w1,w2,w3,w4,w5⟩:=wu hx
 have hl:=gk w1
 unfold gj at h⊢
 obtain⟨p1,h⟩:=h.app
 obtain⟨p2,p3⟩:=h.app
 have e2:=xv (f:=dI b l) (e:=df) p.heads _ (fun t ht a h=>Cm (w3 t ht) h) p2
 have d1:decide (p.heads.length < 3)=false:=by simp;omega
 have d2:decide (l.heads < (p.heads.length:Int))=false:=by simp;omega
 have d3:l6 ⟨p.heads,p.qc⟩=true:=w5
 simp only[ec,eP p1 (show p.heads.length≤1152921504606846975 by have:=hl.2.2.2;omega),d1,d2,ti,e2,KG w4 p3,d3,Bool.not_true]
 simp only[List.length_append,Nat.add_assoc]
theorem zo {l:ah} {x:aZ} (h:dV l x=true):l.ok=true∧isNum x.height=true∧(1≤x.n∧x.n≤l.txs)∧(0≤x.idx∧x.idx < x.n)∧(x.tx.length:Int)≤l.tx∧x.path.length=bq x.idx.toNat x.n.toNat∧∀t∈x.path,t.length=32:=by
 simp only[dV,Bool.and_eq_true,decide_eq_true_eq,hashes,List.all_eq_true]at h
 have h1:=cu h.1.1.1.1.2
 have h2:=cu h.1.1.1.2
 exact⟨h.1.1.1.1.1.1,h.1.1.1.1.1.2,by omega,by omega,h.1.1.2,h.1.2,fun t ht=>gV (h.2 t ht)⟩
theorem On {b:Bytes} {l:ah} {x:aZ} {a:Nat} (hx:dV l x=true) (h:At b a (lV x)):iX b l ⟨a,0⟩=(x,⟨a+(lV x).length,0⟩):=by
 obtain⟨w1,w2,w3,w4,w5,w6,w7⟩:=zo hx
 have hl:=gk w1
 have hl1:=hl.2.1
 have hl2:=hl.2.2.1
 obtain⟨c1,n1⟩:=kc w2
 have c2:((x.n.toNat:Nat):Int)=x.n:=by omega
 have c3:((x.idx.toNat:Nat):Int)=x.idx:=by omega
 unfold lV at h⊢
 obtain⟨p1,h⟩:=h.app
 obtain⟨p2,h⟩:=h.app
 obtain⟨p3,h⟩:=h.app
 obtain⟨p4,p5⟩:=h.app
 have d1:decide (x.n.toNat=0)=false:=by simp;omega
 have d2:decide (l.txs < x.n)=false:=by simp;omega
 have e:ke b l ⟨a,0⟩=((x.height.toNat,x.n.toNat,x.idx.toNat,x.tx),⟨a+(aP x.height.toNat).length+(aP x.n.toNat).length+(aP x.idx.toNat).length+(eI x.tx).length,0⟩):=by
  simp only[ke,eP p1 n1,eP p2 (show x.n.toNat≤1152921504606846975 by omega),c2,d1,d2,ti,gw (N:=x.n) (c:=5) p3 (show x.idx.toNat≤1152921504606846975 by omega) (by omega),I4 p4 (show x.tx.length≤l.tx.toNat by omega) (by omega)]
 simp only[iX,e,if_true,LS p5 w7 w6,c1,c2,c3]
 simp only[List.length_append,Nat.add_assoc]
end Go.Eng.F
namespace Go.Eng.F
theorem At.join {b:Bytes} {a:Nat} {s t:Bytes} (h1:At b a s) (h2:At b (a+s.length) t):At b a (s++t):=by
 obtain⟨u,h1⟩:=h1
 obtain⟨w,h2⟩:=h2
 refine⟨w,?_⟩
 rw[←List.drop_drop,h1,List.drop_left]at h2
 rw[h1,h2,List.append_assoc]
def MR (b:Bytes) (r:Rd) (s:Bytes) (r':Rd):Prop:=r.er=0∧At b r.at_ s∧r'=⟨r.at_+s.length,0⟩
theorem MR.nil {b:Bytes} {r:Rd} (h:r.er=0):MR b r [] r:=⟨h,⟨b.drop r.at_,rfl⟩,by obtain⟨x,y⟩:=r;simp only at h;subst h;rfl⟩
theorem MR.join {b:Bytes} {r r1 r2:Rd} {s t:Bytes} (h1:MR b r s r1) (h2:MR b r1 t r2):MR b r (s++t) r2:=by
 obtain⟨a1,a2,rfl⟩:=h1
 obtain⟨_,b2,rfl⟩:=h2
 exact⟨a1,a2.join b2,by simp only[List.length_append,Nat.add_assoc]⟩
theorem MR.er {b:Bytes} {r r1:Rd} {s:Bytes} (h:MR b r s r1):r1.er=0:=by rw[h.2.2]
theorem LH {x:Bytes} (h:x.length=32):hash x=true:=by simp[hash,h]
theorem MR.len {b:Bytes} {r r':Rd} {s t:Bytes} {n m:Nat} (h:MR b r (s++(aP n++t)) r') (e:m=n):MR b r (s++(aP m++t)) r':=by
 rw[e]
 exact h
theorem FA {l:ah} {view:Int}:∀(es:List Entry) (bf:Int),Du l view bf es→∀(i:Nat) (e:Entry),es[i]? =some e→(0≤e.who∧e.who < l.n)∧(0≤e.high∧e.high < view)∧e.tag.length=32∧(i=0∧bf < e.who∨0 < i∧∃d,es[i - 1]? =some d∧d.who < e.who)
 | [],_,_,i,e,h=>by simp at h
 |x::es,bf,⟨⟨h1,h2,h3⟩,hr⟩,0,e,h=>by
  simp only[List.getElem?_cons_zero,Option.some.injEq]at h
  subst h
  exact⟨⟨h1.1,h1.2.1⟩,h2,h3, .inl ⟨rfl,h1.2.2⟩⟩
 |x::es,bf,⟨⟨h1,h2,h3⟩,hr⟩,i+1,e,h=>by
  rw[List.getElem?_cons_succ]at h
  obtain⟨a1,a2,a3,a4⟩:=FA es x.who hr i e h
  refine⟨a1,a2,a3, .inr ⟨by omega,?_⟩⟩
  rcases a4 with⟨rfl,a4⟩|⟨a5,d,a6,a7⟩
  ·exact⟨x,rfl,a4⟩
  ·refine⟨d,?_,a7⟩
   obtain⟨j,rfl⟩:∃j,i=j+1:=⟨i - 1,by omega⟩
   simpa using a6
end Go.Eng.F
namespace Go.Eng.F
theorem G0 {a b:bg}:iT a b=true↔a=b:=by
 obtain⟨_,_,_,_,_⟩:=a
 obtain⟨_,_,_,_,_⟩:=b
 simp[iT,and_assoc]
theorem v9 {a b:Qc}:mw a b=true↔a=b:=by
 obtain⟨_,_,_,_,_⟩:=a
 obtain⟨_,_,_,_,_⟩:=b
 simp[mw,and_assoc]
theorem l7 {a b:Head}:ed a b=true↔a=b:=by
 obtain⟨_,_,_,_,_,_⟩:=a
 obtain⟨_,_,_,_,_,_⟩:=b
 simp[ed,and_assoc,v9]
theorem Fh {a b:Block}:gh a b=true↔a=b:=by
 obtain⟨_,_⟩:=a
 obtain⟨_,_⟩:=b
 simp[gh,l7]
theorem GD {a b:aZ}:iM a b=true↔a=b:=by
 obtain⟨_,_,_,_,_⟩:=a
 obtain⟨_,_,_,_,_⟩:=b
 simp[iM,and_assoc]
theorem IM {a b:Entry}:cV a b=true↔a=b:=by
 obtain⟨_,_,_⟩:=a
 obtain⟨_,_,_⟩:=b
 simp[cV,and_assoc]
theorem zX {α:Type} {f:α→α→Bool} (hf:∀x y,f x y=true↔x=y) {a b:List α}:db f a b=true↔a=b:=by
 simp only[db,Bool.and_eq_true,decide_eq_true_eq,List.all_eq_true,List.mem_range]
 constructor
 ·rintro⟨h1,h2⟩
  refine List.ext_getElem h1 fun i hi hj=> ?_
  have:=h2 i hj
  rw[List.getElem?_eq_getElem hi,List.getElem?_eq_getElem hj]at this
  exact(hf _ _).1 this
 ·rintro rfl
  refine⟨rfl,fun i hi=> ?_⟩
  rw[List.getElem?_eq_getElem hi]
  exact(hf _ _).2 rfl
theorem EN {a b:Proof}:eu a b=true↔a=b:=by
 obtain⟨_,_⟩:=a
 obtain⟨_,_⟩:=b
 simp[eu,ek,v9,zX (fun x y=> @l7 x y)]
theorem K6 {a b:Tc}:fe a b=true↔a=b:=by
 obtain⟨_,_⟩:=a
 obtain⟨_,_⟩:=b
 simp[fe,zX (fun x y=> @IM x y)]
theorem sx {a b:aF}:jF a b=true↔a=b:=by
 obtain⟨_,_,_,_,_,_,_,_⟩:=a
 obtain⟨_,_,_,_,_,_,_,_⟩:=b
 simp[jF,and_assoc,G0,v9,l7,Fh,K6,EN,GD]
theorem KL {l:ah} {m:aF} (h:aS l m=true):m=bG m:=by
 simp only[aS,Bool.and_eq_true]at h
 exact sx.1 h.2
theorem KK {l:ah} {x:Head} (h:bB l x=true):l.ok=true:=iE (yX h).2.2.2.2.2.2.2.1
theorem Nx {l:ah} {v:bg} (h:jk l v=true):l.ok=true:=by
 simp only[jk,Bool.and_eq_true]at h
 exact h.1.1.1.1.1
theorem PW {b:Bytes} {m:aF} {r:Rd} (h:r=⟨b.length,0⟩):eW b m r=(m,0):=by simp[eW,h]
theorem MR.rest {c:UInt8} {t s:Bytes} {r':Rd} (h:MR (c::t) ⟨1,0⟩ s r') (ha:r'.at_=(c::t).length):t=s:=by
 obtain⟨_,⟨u,hu⟩,h2⟩:=h
 rw[h2]at ha
 simp only[List.length_cons]at ha
 simp only[List.drop_succ_cons,List.drop_zero]at hu
 have hl:=congrArg List.length hu
 rw[List.length_append]at hl
 have:u= []:=List.eq_nil_of_length_eq_zero (by omega)
 rw[this,List.append_nil]at hu
 exact hu
theorem iH {k:Nat} (hk:k < 256) {m:aF} (h:m.kind=(k:Int)):(dH m).toNat=k:=by
 rw[dH,h]
 exact KU hk
theorem at_one (c:UInt8) (s t:Bytes):At (c::s++t) 1 s:=⟨t,rfl⟩
theorem Hg {l:ah} {m:aF} (h:m.kind=1):az l m=jk l m.vote∧a9 m=LK m.vote∧bG m= {aw with kind:=1,vote:=m.vote}∧(dH m).toNat=1:=by
 refine⟨by simp[az,h],by simp[a9,h],by simp[bG,h],iH (k:=1) (by omega) h⟩
theorem KR {l:ah} {m:aF} (h:m.kind=2):az l m=eE l m.qc∧a9 m=H4 m.qc∧bG m= {aw with kind:=2,qc:=m.qc}∧(dH m).toNat=2:=by
 refine⟨by simp[az,h],by simp[a9,h],by simp[bG,h],iH (k:=2) (by omega) h⟩
theorem KW {l:ah} {m:aF} (h:m.kind=3):az l m=bB l m.head∧a9 m=df m.head∧bG m= {aw with kind:=3,head:=m.head}∧(dH m).toNat=3:=by
 refine⟨by simp[az,h],by simp[a9,h],by simp[bG,h],iH (k:=3) (by omega) h⟩
theorem K7 {l:ah} {m:aF} (h:m.kind=4):az l m=bC l m.block∧a9 m=gD m.block∧bG m= {aw with kind:=4,block:=m.block}∧(dH m).toNat=4:=by
 refine⟨by simp[az,h],by simp[a9,h],by simp[bG,h],iH (k:=4) (by omega) h⟩
theorem KY {l:ah} {m:aF} (h:m.kind=5):az l m=gY l m.tc∧a9 m=MO m.tc∧bG m= {aw with kind:=5,tc:=m.tc}∧(dH m).toNat=5:=by
 refine⟨by simp[az,h],by simp[a9,h],by simp[bG,h],iH (k:=5) (by omega) h⟩
theorem Kr {l:ah} {m:aF} (h:m.kind=6):az l m=cL l m.proof∧a9 m=gj m.proof∧bG m= {aw with kind:=6,proof:=m.proof}∧(dH m).toNat=6:=by
 refine⟨by simp[az,h],by simp[a9,h],by simp[bG,h],iH (k:=6) (by omega) h⟩
theorem K2 {l:ah} {m:aF} (h:m.kind=7):az l m=dV l m.incl∧a9 m=lV m.incl∧bG m= {aw with kind:=7,incl:=m.incl}∧(dH m).toNat=7:=by
 refine⟨by simp[az,h],by simp[a9,h],by simp[bG,h],iH (k:=7) (by omega) h⟩
theorem TN {l:ah} {x:bg} (h:jk l x=true):aS l {aw with kind:=1,vote:=x}=true∧dH {aw with kind:=1,vote:=x}=UInt8.ofNat 1∧a9 {aw with kind:=1,vote:=x}=LK x:=by
 obtain⟨p1,p2,p3,p4⟩:=Hg (l:=l) (m:= {aw with kind:=1,vote:=x}) rfl
 exact⟨by simp only[aS,p1,h,Bool.true_and,p3];exact sx.2 rfl,rfl,p2⟩
theorem vY {l:ah} {m:aF} (h:az l m=true):l.ok=true:=by
 rcases fj h with e|e|e|e|e|e|e
 ·rw[(Hg (l:=l) e).1]at h;exact Nx h
 ·rw[(KR (l:=l) e).1]at h;exact iE h
 ·rw[(KW (l:=l) e).1]at h;exact KK h
 ·rw[(K7 (l:=l) e).1]at h;exact(vK h).2.1
 ·rw[(KY (l:=l) e).1]at h;exact(Gt h).1
 ·rw[(Kr (l:=l) e).1]at h;exact(wu h).1
 ·rw[(K2 (l:=l) e).1]at h;exact(zo h).1
theorem PD {l:ah} {m:aF} (h:aS l m=true) (t:Bytes):dec l (dH m::a9 m++t)=eW (dH m::a9 m++t) m ⟨1+(a9 m).length,0⟩:=by
 have hp:=iQ h
 have hm:=KL h
 have h1:=at_one (dH m) (a9 m) t
 rw[Qv (vY hp) (by simp)]
 have e0:(dH m::a9 m++t)[0]'(by simp)=dH m:=rfl
 rw[e0]
 generalize hb:dH m::a9 m++t=b at h1⊢
 rcases fj hp with e|e|e|e|e|e|e
 ·obtain⟨p1,p2,p3,p4⟩:=Hg (l:=l) e
  rw[p1]at hp
  rw[p2]at h1⊢
  rw[p4]
  simp only[o5,Nw hp h1,←p3,←hm]
 ·obtain⟨p1,p2,p3,p4⟩:=KR (l:=l) e
  rw[p1]at hp
  rw[p2]at h1⊢
  rw[p4]
  simp only[o5,KG hp h1,←p3,←hm]
 ·obtain⟨p1,p2,p3,p4⟩:=KW (l:=l) e
  rw[p1]at hp
  rw[p2]at h1⊢
  rw[p4]
  simp only[o5,Cm hp h1,←p3,←hm]
 ·obtain⟨p1,p2,p3,p4⟩:=K7 (l:=l) e
  rw[p1]at hp
  rw[p2]at h1⊢
  rw[p4]
  simp only[o5,MC hp h1,←p3,←hm]
 ·obtain⟨p1,p2,p3,p4⟩:=KY (l:=l) e
  rw[p1]at hp
  rw[p2]at h1⊢
  rw[p4]
  simp only[o5,Q4 hp h1,←p3,←hm]
 ·obtain⟨p1,p2,p3,p4⟩:=Kr (l:=l) e
  rw[p1]at hp
  rw[p2]at h1⊢
  rw[p4]
  simp only[o5,Mw hp h1,←p3,←hm]
 ·obtain⟨p1,p2,p3,p4⟩:=K2 (l:=l) e
  rw[p1]at hp
  rw[p2]at h1⊢
  rw[p4]
  simp only[o5,On hp h1,←p3,←hm]
theorem Qp {l:ah} {m:aF} (h:aS l m=true):dec l (dH m::a9 m)=(m,0):=by
 have:=PD h []
 rw[List.append_nil]at this
 rw[this]
 exact PW (by rw[List.length_cons,Nat.add_comm])
end Go.Eng.F
namespace Go.Eng.F
theorem KP {l:ah} {v:bg} (h:jk l v=true):aS l {aw with kind:=1,vote:=v}=true:=(TN h).1
theorem Sw {l:ah} {v:bg} (hl:l.ok=true) (h:isNum v.view=true∧isNum v.height=true∧v.block.length=32∧de v.who 0 (l.n - 1)=true∧v.tag.length=32):jk l v=true:=by
 simp only[jk,hl,h.1,h.2.1,LH h.2.2.1,h.2.2.2.1,LH h.2.2.2.2,Bool.and_self]
theorem SM {l:ah} {v:bg} (hl:l.rd) (h:isNum v.view=true∧isNum v.height=true∧v.block.length=32∧de v.who 0 (l.n - 1)=true∧v.tag.length=32):v.wf:=by
 obtain⟨g2,g3,g4,g5,g6⟩:=h
 exact⟨iA g2,iA g3,by unfold Sz;omega,by have:=cu g5;have:=hl.1;exact⟨by omega,by omega⟩,by unfold Sz;omega⟩
abbrev ox:Nat:=96
def ob:AF:=⟨2,5,[.cell 4 45 true],(.seq (.ops [.i (.lbox 3 (.s 1)), .i (.lal 4 [.int .i64 0, .int .i64 0, .int .i64 0, .nils, .int .i64 0, .nils, .int .i64 0, .int .i64 0, .nils, .nils, .nils, .int .i64 0, .int .i64 0, .int .i64 0, .nils, .nils, .int .i64 0, .int .i64 0, .nils, .nils, .nils, .int .i64 0, .int .i64 0, .int .i64 0, .nils, .nils, .int .i64 0, .int .i64 0, .nils, .nils, .nils, .nils, .int .i64 0, .nils, .nils, .int .i64 0, .int .i64 0, .nils, .nils, .nils, .int .i64 0, .int .i64 0, .int .i64 0, .nils, .nils])]) (.seq (.ops [qm 6 0,ql 7 3 3 5 true, .i (.call 9 134 false [(.s 6),(.s 7)]), .i (.lal 5 [.int .i64 0, .int .i64 0, .int .i64 0, .nils, .int .i64 0, .nils, .int .i64 0, .int .i64 0, .nils, .nils, .nils, .int .i64 0, .int .i64 0, .int .i64 0, .nils, .nils, .int .i64 0, .int .i64 0, .nils, .nils, .nils, .int .i64 0, .int .i64 0, .int .i64 0, .nils, .nils, .int .i64 0, .int .i64 0, .nils, .nils, .nils, .nils, .int .i64 0, .nils, .nils, .int .i64 0, .int .i64 0, .nils, .nils, .nils, .int .i64 0, .int .i64 0, .int .i64 0, .nils, .nils]),qs 5 5 8 45]) (.seq (.seq (.ops [ql 9 3 3 5 true,ql 10 5 5 45 true, .i (.call 12 159 false [(.s 9),(.s 10)]), .i (.not 12 (.s 11))]) (.cond (.s 12) (.seq (.ops [qm 13 0,ql 14 3 3 5 true, .i (.call 16 161 false [(.s 13),(.s 14)]),qk 17 160 15,qs 4 4 16 45]) .ret) .skip)) (.seq (.ops [ql 17 5 5 45 true,qs 4 4 17 45]) .ret))))⟩
theorem Av:cd ox=some ob:=by kernel_rfl
theorem I6 (b:Bytes) (i:Nat) (h:Int) (l:ah) (hl:l.ok=true) (hi:i≤b.length) (hb:b.length≤1073741824):VC cd ox (jg [] 133 (cur b i h) [(true,l.c)]) (fun r p=>∃x:aF×Nat×Int,((x.1.wc∧aS l x.1=true)∧x.2.1≤b.length)∧r= [(true,x.1.o)]∧p= [.pt 133 (cur b x.2.1 x.2.2)]):=by
 have hL:=gk hl
 refine VC.qx ?_
 refine ay Av rfl ?_
 simp(disch:=omega) [ob,cur,ah.c,VZ]
 refine dL (J8 b i h l hL hi hb) ?_ (n1:=by intro _;simp(disch:=omega) [ah.c,aF.o,VZ]) (n3:=by intro _;simp(disch:=omega) [ah.c,aF.o,VZ])
 rintro⟨m,i1,h1⟩ ⟨g1,j1⟩
 simp only at g1 j1
 simp(disch:=omega) [cur,aF.o,VZ]
 refine ao (Er l m g1) ?_ (ha:=by first|rfl|(simp[ah.c,aF.c,VY] <;>repeat' constructor))
 simp(disch:=omega) [VZ]
 refine ak (fun h0=> ?_) (fun h0=> ?_)
 ·simp(disch:=omega) [h0,cur,aO,aX,ba,VZ]
  exact⟨[(true,aF.o m)],by simp[aO,aX,ba,aF.o],m,i1,⟨⟨g1,h0⟩,j1⟩,rfl,rfl⟩
 ·simp(disch:=omega) [h0,VZ]
  refine dL (vN b i1 h1 l hL.1 j1 hb) ?_ (n1:=by intro _;simp(disch:=omega) [ah.c,bg.o,VZ]) (n3:=by intro _;simp(disch:=omega) [ah.c,bg.o,VZ])
  rintro⟨x2,i2,h2⟩ ⟨g2,j2⟩
  simp only at g2 j2
  have hw:=SM hL g2
  have hv:=Sw hl g2
  simp(disch:=omega) [cur,bg.o,VZ]
  refine ao (fG x2 hw) ?_ (ha:=by first|rfl|(simp[bg.c,VY] <;>repeat' constructor))
  simp(disch:=omega) [cur,eo,aO,aX,ba,VZ]
  exact⟨[(true,aF.o {aw with kind:=1,vote:=x2})],by simp[aO,aX,ba,aF.o,aw,br,fh,bd,aK,gZ,aL,bo,ae,bm,bj,bk],{aw with kind:=1,vote:=x2},i2,⟨⟨{GV with kind:=⟨by simp only;omega,by simp only;omega⟩,vote:=hw},KP hv⟩,j2⟩,rfl,rfl⟩
abbrev lD:Nat:=59
def lp:AF:=⟨2,5,[.tmp 4],(.seq (.ops [.i (.mov 4 (.c (.val false [.nils])))]) (.seq (.ops [qm 6 0,qk 8 88 6,qm 5 7]) (.seq (.ops [qm 8 5,qm 9 5, .i (.nch 10 (.s 9)),qf 11 10 2, .i (.ldh 12 (.s 11) 1 false),qm 13 1,qd 14 .add 12 13, .i (.nch 15 (.s 8)),qf 16 15 2, .i (.sth (.s 16) (.s 14) 1)]) (.seq (.ops [qm 17 5,qm 18 1, .i (.call 20 138 false [(.s 17),(.s 18)]),qm 4 19]) .ret))))⟩
theorem y9:cd lD=some lp:=by kernel_rfl
theorem HV (b:Bytes) (m:Nat) (hm:m≤1000000) (hb:b.length≤1073741824):VC cd lD (aD [(false,[.sl (bytes b)]),(false,[.int .i64 (m:Int)])]) (fun r _=>∃x:Bytes,x.length≤m∧r= [(false,[.o true (some (5,1)) (bytes x)])]):=by
 refine aa y9 rfl ?_
 simp(disch:=omega) [lp,VY]
 refine TA (yV b hb) ?_
 intro h _
 simp(disch:=omega) [cur,F3,VZ]
 refine dL (gW b 0 _ m hm (Nat.zero_le _) hb) ?_
 rintro⟨x,i1,h1⟩ ⟨g1,j1⟩
 simp only at g1 j1
 simp(disch:=omega) [cur,VZ]
 exact⟨x,g1,rfl⟩
abbrev nV:Nat:=60
def nh:AF:=⟨2,5,[.tmp 4],(.seq (.ops [.i (.lbox 3 (.s 1)), .i (.mov 4 (.c (.val false [.nils])))]) (.seq (.ops [qm 8 0,qk 10 88 8,qm 5 9]) (.seq (.ops [.i (.bse 10),qm 6 10]) (.seq (.seq (.ops [qm 11 5, .i (.call 13 97 false [(.s 11),(qi 4)]),qm 7 12]) (.block 0 (.loop [22,21,20,19,18,17,16,15,14,13] (.seq (.seq (.ops [qm 13 7, .i (.bin 14 .gtr (.s 13) (qi 0))]) (.cond (.s 14) .skip (.exit 0))) (.seq (.block 1 (.ops [qm 17 6,qm 18 5,ql 19 3 3 5 true, .i (.call 21 96 false [(.s 18),(.s 19)]), .i (.lsl 21 45 1 [.int .i64 0, .int .i64 0, .int .i64 0, .nils, .int .i64 0, .nils, .int .i64 0, .int .i64 0, .nils, .nils, .nils, .int .i64 0, .int .i64 0, .int .i64 0, .nils, .nils, .int .i64 0, .int .i64 0, .nils, .nils, .nils, .int .i64 0, .int .i64 0, .int .i64 0, .nils, .nils, .int .i64 0, .int .i64 0, .nils, .nils, .nils, .nils, .int .i64 0, .nils, .nils, .int .i64 0, .int .i64 0, .nils, .nils, .nils, .int .i64 0, .int .i64 0, .int .i64 0, .nils, .nils] [(0,45,(.s 20))]), .i (.app 22 57 45 728 (.s 17) (.s 21)),qm 6 22])) (.ops [qm 15 7, .i (.bin 16 .sub (.s 15) (qi 1)),qm 7 16])))))) (.seq (.ops [qm 23 6,qm 4 23]) .ret)))))⟩
theorem Bh:cd nV=some nh:=by kernel_rfl
theorem JG (b:Bytes) (l:ah) (hl:l.ok=true) (hb:b.length≤1073741824):VC cd nV (aD [(false,[.sl (bytes b)]),(true,l.c)]) (fun r _=>∃x:List aF,(x.length≤3∧∀m∈x,m.wc∧aS l m=true)∧r= [(false,[.o true (some (57,45)) (Lg x)])]):=by
 refine aa Bh rfl ?_
 simp(disch:=omega) [nh,ah.c,VY]
 refine TA (yV b hb) ?_
 intro h _
 simp(disch:=omega) [cur,F3,VZ]
 refine dL (aH b 0 _ 4 (by omega) (Nat.zero_le _) hb) ?_
 rintro⟨k,i1,h1⟩ ⟨g1,j1⟩
 simp only at g1 j1
 simp(disch:=omega) [cur,VZ]
 refine bA (σ:=Nat×Nat×Nat×Int×List aF) (f1:=_) (es0:=_) (by simp(disch:=omega) [VZ];rfl) (by simp(disch:=omega) [VZ];rfl) (fun p=> [(7, .val false [.int .i64 (p.1:Int)]),(6, .val false [.ow 10 p.2.1])]) (fun p=> [(90112, .pt 6 133 [.sl (bytes b), .int .i64 (p.2.2.1:Int), .int .i64 p.2.2.2.1]),(10, .sl p.2.1 true true (some (57,45)) (Lg p.2.2.2.2))])
  (fun p g=>g=p.1∧p.2.2.1≤b.length∧p.2.2.2.2.length+p.1≤3∧∀m∈p.2.2.2.2,m.wc∧aS l m=true) (k,_,i1,h1,[]) k (by simp(disch:=omega) [VZ];rfl) (by simp(disch:=omega) [Lg,VZ]) ⟨rfl,j1,by simp;omega,by simp⟩ ?_
 rintro⟨n,v,i2,h2,x⟩ nx g ⟨hg,h5,h6,h7⟩ P hP
 simp only at hg h5 h6 h7
 have hlx:(Lg x).length=x.length:=Ga x
 simp(disch:=omega) [VZ]
 refine ab (fun h8=> ?_) (fun h8=> ?_)
 ·have e1:IntKind.i64.wrap ((n:Int) - 1)=((n - 1:Nat):Int):=by rw[Bx (by omega) (by omega)];omega
  simp(disch:=omega) [VZ]
  refine dL (I6 b i2 h2 l hl h5 hb) ?_ (n1:=by intro _;simp(disch:=omega) [ah.c,aF.o,VZ]) (n3:=by intro _;simp(disch:=omega) [ah.c,aF.o,VZ])
  rintro⟨m,i3,h3⟩ ⟨g3,j3⟩
  simp only at g3 j3
  simp(disch:=omega) [cur,aF.o,e1,hlx,OY,VZ]
  refine hP (n - 1,_,i3,h3,x++ [m]) (g - 1) _ _ (by omega) ⟨by simp only;omega,j3,by simp;omega,fun z hz=> ?_⟩ (by simp(disch:=omega) [VZ];rfl) (by simp(disch:=omega) [VZ])
  rcases List.mem_append.1 hz with hz|hz
  ·exact h7 z hz
  ·simp only[List.mem_singleton]at hz;subst hz;exact g3
 ·simp(disch:=omega) [VZ]
  exact⟨x,⟨by omega,h7⟩,rfl⟩
end Go.Eng.F
namespace Go.Eng.F
end Go.Eng.F
namespace Go.Eng.F
theorem Kq (s:Bytes) (a n:Nat):eK s a n=eK (s.drop a) 0 n:=by
 simp only[eK,List.drop_drop,Nat.zero_add]
theorem F4 (l:ah) (s:Bytes) (a:Nat):aC l s a=aC l (s.drop a) 0:=by
 have e1:∀i,(s.drop a).getD i 0=s.getD (a+i) 0:=fun i=>by simp only[List.getD_eq_getElem?_getD,List.getElem?_drop]
 have e2:C1 (s.drop a) 0=C1 s a:=by simp only[C1,List.drop_drop,Nat.zero_add]
 have e3:Ot (s.drop a) 0=Ot s a:=by simp only[Ot,List.drop_drop,Nat.zero_add]
 have e4:MS (s.drop a) 0=MS s a:=by simp only[MS,List.drop_drop,Nat.zero_add,e2]
 have c1:(0 < (s.drop a).length)=(a < s.length):=propext (by rw[List.length_drop];omega)
 have c2:(1 < (s.drop a).length)=(a+1 < s.length):=propext (by rw[List.length_drop];omega)
 have c3:(s.drop a).length - 0=s.length - a:=by rw[List.length_drop];omega
 simp only[aC,c1,c2,c3,e1,e2,e3,e4,Nat.add_zero,Nat.zero_add]
def ga (l:ah) (cl:Bool):Nat→Bytes→Nat→List Ev×Nat×Bytes
 |0,u,k=>([],k,u)
 |g+1,u,k=>
  if u= []then([],k,[])
  else if(aC l u 0).1=1∧cl=false then([],k,u)
  else if(aC l u 0).1≠3 then ga l cl g (u.drop 1) (k+1)
  else((dJ k++ [wk l (eK u 0 (aC l u 0).2.toNat)])++(ga l cl g (u.drop (aC l u 0).2.toNat) 0).1,(ga l cl g (u.drop (aC l u 0).2.toNat) 0).2)
theorem et (l:ah) (cl:Bool) (g k:Nat):ga l cl g [] k=([],k,[]):=by
 cases g
 ·rfl
 ·rw[ga,if_pos rfl]
theorem Gd {l:ah} {s:Bytes} {cl:Bool}:∀(g a k:Nat) (e:List Ev),a≤s.length→fA l s cl g a k e=(e++(ga l cl g (s.drop a) k).1,(ga l cl g (s.drop a) k).2.1,s.length - (ga l cl g (s.drop a) k).2.2.length)
 |0,a,k,e,h=>by simp[fA,ga];omega
 |g+1,a,k,e,h=>by
  by_cases h0:a < s.length
  ·have hu:s.drop a≠ []:=fun x=>by have:=congrArg List.length x;simp at this;omega
   rw[fA,if_pos h0,ga,if_neg hu,←F4,←Kq]
   by_cases h1:(aC l s a).1=1∧cl=false
   ·rw[if_pos h1,if_pos h1]
    simp;omega
   ·rw[if_neg h1,if_neg h1]
    by_cases h2:(aC l s a).1≠3
    ·rw[if_pos h2,if_pos h2,Gd g (a+1) (k+1) e (by omega),List.drop_drop]
    ·rw[if_neg h2,if_neg h2]
     obtain⟨n,hn,h9,hl,_⟩:=mc (Decidable.not_not.1 h2)
     have e1:(aC l s a).2.toNat=n:=by rw[hn];rfl
     rw[e1,Gd g (a+n) 0 _ (by omega),List.drop_drop]
     simp only[List.append_assoc]
  ·have hu:s.drop a= []:=List.drop_eq_nil_of_le (by omega)
   rw[fA,if_neg h0,hu,et]
   simp
   omega
theorem Nh {l:ah} {u:Bytes} (h:¬(aC l u 0).1≠3):∃n:Nat,aC l u 0=(3,(n:Int))∧(aC l u 0).2.toNat=n∧9≤n∧n≤u.length:=by
 obtain⟨n,hn,h9,hl,_⟩:=mc (Decidable.not_not.1 h)
 exact⟨n,hn,by rw[hn];rfl,h9,by omega⟩
theorem ma (l:ah) (cl:Bool):∀(n g g':Nat) (u:Bytes) (k:Nat),u.length≤n→u.length≤g→u.length≤g'→ga l cl g u k=ga l cl g' u k
 |n,0,g',u,k,_,h,_=>by
  have:u= []:=List.eq_nil_of_length_eq_zero (by omega)
  rw[this,et,et]
 |n,g+1,0,u,k,_,_,h=>by
  have:u= []:=List.eq_nil_of_length_eq_zero (by omega)
  rw[this,et,et]
 |0,g+1,g'+1,u,k,h,_,_=>by
  have:u= []:=List.eq_nil_of_length_eq_zero (by omega)
  rw[this,et,et]
 |n+1,g+1,g'+1,u,k,h,h1,h2=>by
  by_cases hu:u= []
  ·rw[hu,et,et]
  have hp:=List.length_pos_iff.2 hu
  rw[ga,ga,if_neg hu,if_neg hu]
  have e1:=ma l cl n g g' (u.drop 1) (k+1) (by rw[List.length_drop];omega) (by rw[List.length_drop];omega) (by rw[List.length_drop];omega)
  rw[e1]
  by_cases h3:(aC l u 0).1≠3
  ·simp only[if_pos h3]
  ·obtain⟨m,_,hm,h9,hl⟩:=Nh h3
   have e2:=ma l cl n g g' (u.drop m) 0 (by rw[List.length_drop];omega) (by rw[List.length_drop];omega) (by rw[List.length_drop];omega)
   rw[hm,e2]
def scan (l:ah) (cl:Bool) (u:Bytes) (k:Nat):List Ev×Nat×Bytes:=ga l cl u.length u k
theorem Is (l:ah) (cl:Bool) (k:Nat):scan l cl [] k=([],k,[]):=rfl
theorem Mr {l:ah} {cl:Bool} {u:Bytes} {k:Nat} (hu:u≠ []) (h:¬((aC l u 0).1=1∧cl=false)) (h2:(aC l u 0).1≠3):scan l cl u k=scan l cl (u.drop 1) (k+1):=by
 have hp:=List.length_pos_iff.2 hu
 obtain⟨g,hg⟩:∃g,u.length=g+1:=⟨u.length - 1,by omega⟩
 rw[scan,hg,ga,if_neg hu,if_neg h,if_pos h2,scan]
 exact ma l cl g _ _ _ _ (by rw[List.length_drop];omega) (by rw[List.length_drop];omega) (Nat.le_refl _)
theorem Mz {l:ah} {cl:Bool} {u:Bytes} {k n:Nat} (h:aC l u 0=(3,(n:Int))) (hn:9≤n) (hl:n≤u.length):scan l cl u k=((dJ k++ [wk l (eK u 0 n)])++(scan l cl (u.drop n) 0).1,(scan l cl (u.drop n) 0).2):=by
 have hu:u≠ []:=by rintro rfl;simp at hl;omega
 obtain⟨g,hg⟩:∃g,u.length=g+1:=⟨u.length - 1,by omega⟩
 have e:ga l cl g (u.drop n) 0=scan l cl (u.drop n) 0:=ma l cl g _ _ _ _ (by rw[List.length_drop];omega) (by rw[List.length_drop];omega) (Nat.le_refl _)
 have e1:(aC l u 0).2.toNat=n:=by rw[h];rfl
 rw[scan,hg,ga,if_neg hu,if_neg (by rw[h];simp),if_neg (by rw[h];simp),e1,e]
theorem Di (l:ah) (s:Bytes) (cl:Bool) (k:Nat):uE l s cl k=((scan l cl s k).1++(if cl=true then dJ (scan l cl s k).2.1 else []),(scan l cl s k).2.1,s.length - (scan l cl s k).2.2.length):=by
 simp only[uE,Gd s.length 0 k [] (Nat.zero_le _),List.drop_zero,List.nil_append]
 rfl
theorem Kb {l:ah} {s:Bytes} (hl:l.ok=true):parse l s false=(scan l false s 0).1:=by
 simp[parse,hl,Di]
theorem Ge (n:Nat):∀w,fX (dw n w)=n % 256 ^ w
 |0=>by simp[dw,fX,Nat.mod_one]
 |w+1=>by
  have h:=HZ ((n / 256 ^ w:Nat):Int)
  have h2:IntKind.u8.wrap ((n / 256 ^ w:Nat):Int)=((n / 256 ^ w % 256:Nat):Int):=by simp[IntKind.wrap,IntKind.bits,IntKind.signed]
  rw[h2]at h
  have h3:(b8 ((n / 256 ^ w:Nat):Int)).toNat=n / 256 ^ w % 256:=by omega
  rw[lv,yT,Ge n w,bU,h3,Nat.pow_succ,Nat.mod_mul,Nat.mul_comm]
theorem iL (b:Bytes):(c4 b).length=8+b.length:=by
 simp only[c4,List.length_append,List.length_cons,List.length_nil,bU]
theorem MM {l:ah} {b t:Bytes} (h:cM l b=true):aC l (c4 b++t) 0=(3,((8+b.length:Nat):Int))∧eK (c4 b++t) 0 (8+b.length)=b∧9≤8+b.length:=by
 simp only[cM,Bool.and_eq_true]at h
 have h1:=cu h.2
 have hf:=h.1
 simp only[ah.ok,de,Bool.and_eq_true,decide_eq_true_eq]at hf
 have e:c4 b++t=181::70::(dw b.length 2++(dw (MU b) 4++(b++t))):=by simp[c4]
 have hl:(c4 b++t).length=8+b.length+t.length:=by rw[List.length_append,iL]
 have e2:C1 (c4 b++t) 0=b.length:=by
  rw[e,C1]
  simp only[Nat.zero_add,List.drop_succ_cons,List.drop_zero]
  have:List.take 2 (dw b.length 2++(dw (MU b) 4++(b++t)))=dw b.length 2:=by
   rw[List.take_append_of_le_length (by rw[bU];omega),List.take_of_length_le (by rw[bU];omega)]
  rw[this,Ge,Nat.mod_eq_of_lt (by simp;omega)]
 have e3:Ot (c4 b++t) 0=MU b:=by
  rw[e,Ot]
  simp only[Nat.zero_add,List.drop_succ_cons]
  rw[List.drop_append_of_le_length (by rw[bU];omega),List.drop_eq_nil_of_le (by rw[bU];omega),List.nil_append]
  rw[List.take_append_of_le_length (by rw[bU];omega),List.take_of_length_le (by rw[bU];omega),Ge,Nat.mod_eq_of_lt (OD b)]
 have e5:(c4 b++t).drop 8=b++t:=by
  rw[e]
  simp only[List.drop_succ_cons]
  rw[←List.append_assoc,List.drop_append_of_le_length (by simp[bU]),List.drop_eq_nil_of_le (by simp[bU]),List.nil_append]
 have e4:MS (c4 b++t) 0=b:=by
  rw[MS,e2,Nat.zero_add,e5,List.take_left]
 have g0:((c4 b++t).getD 0 0).toNat=181:=by rw[e];rfl
 have g1:((c4 b++t).getD (0+1) 0).toNat=70:=by rw[e];rfl
 refine⟨?_,?_,by omega⟩
 ·unfold aC
  rw[if_pos ⟨h.1,by omega⟩,if_pos g0,if_neg (fun x=>x.2 g1),if_neg (by omega),e2,if_neg (fun x=>x h.2),if_neg (by omega),e3,e4,if_pos rfl]
  simp
 ·rw[eK,show 8+b.length - 8=b.length by omega,Nat.zero_add,e5,List.take_left]
def bE (l:ah) (m:List aF):Bytes:=(m.map fun x=>c4 (fu l x)).flatten
theorem BM {l:ah} {cl:Bool} {m:aF} {t:Bytes} {k:Nat} (h1:aS l m=true) (h2:cM l (fu l m)=true):scan l cl (c4 (fu l m)++t) k=((dJ k++ [⟨3,0,m⟩])++(scan l cl t 0).1,(scan l cl t 0).2):=by
 obtain⟨e1,e2,h9⟩:=MM (t:=t) h2
 rw[Mz e1 h9 (by rw[List.length_append,iL];omega),e2]
 have e3:(c4 (fu l m)++t).drop (8+(fu l m).length)=t:=by rw[←iL,List.drop_left]
 have e4:wk l (fu l m)=⟨3,0,m⟩:=by
  have:fu l m=dH m::a9 m:=by rw[fu,if_pos h1]
  simp only[wk,this,Qp h1,if_true]
 rw[e3,e4]
theorem sM {l:ah} {cl:Bool} {t:Bytes}:∀(m:List aF),(∀x∈m,aS l x=true∧cM l (fu l x)=true)→scan l cl (bE l m++t) 0=((m.map fun x=>(⟨3,0,x⟩:Ev))++(scan l cl t 0).1,(scan l cl t 0).2)
 | [],_=>by simp[bE]
 |x::m,h=>by
  have h1:=h x (by simp)
  have ih:=sM (cl:=cl) (t:=t) m (fun y hy=>h y (by simp[hy]))
  have e:bE l (x::m)++t=c4 (fu l x)++(bE l m++t):=by simp[bE]
  rw[e,BM h1.1 h1.2,ih]
  simp[dJ]
theorem J2 {l:ah} {c:UInt8} {u:Bytes} (h:c≠181):aC l (c::u) 0=(0,0):=by
 unfold aC
 split
 ·rw[if_neg]
  intro e
  apply h
  apply UInt8.toNat_inj.1
  simpa using e
 ·rfl
theorem FX {l:ah} {cl:Bool} {t:Bytes}:∀(g:Bytes) (k:Nat),(∀c∈g,c≠181)→scan l cl (g++t) k=scan l cl t (k+g.length)
 | [],k,_=>by simp
 |c::g,k,h=>by
  have e:=J2 (l:=l) (u:=g++t) (h c (by simp))
  rw[List.cons_append,Mr (by simp) (by rw[e];simp) (by rw[e];simp),List.drop_succ_cons,List.drop_zero,FX g (k+1) (fun x hx=>h x (by simp[hx])),List.length_cons]
  congr 1
  omega
end Go.Eng.F
namespace Go.Eng.F
theorem O8 {l:List aF} {i:Nat} (h:i < l.length):(Lg l)[i]? =some (l[i].c):=by simp[Lg,h]
def el (l:ah) (m:List aF):Bool:=m.all fun x=>aS l x && cM l (fu l x)
def wy (l:ah) (m:List aF):List (Bool×List E):= [(false,[.o true (some (5,1)) (bytes (if el l m=true then bE l m else []))]),(false,[.p (.bool (el l m))])]
theorem I9 {l:ah} {m:List aF} {i:Nat} (h:i < m.length) (h0:∀x∈m.take i,(aS l x && cM l (fu l x))=true) (h1:(aS l m[i] && cM l (fu l m[i]))=true):∀x∈m.take (i+1),(aS l x && cM l (fu l x))=true:=by
 rw[List.take_succ_eq_append_getElem h]
 intro x hx
 rcases List.mem_append.1 hx with hx|hx
 ·exact h0 x hx
 ·simp only[List.mem_singleton]at hx;subst hx;exact h1
theorem HU {l:ah} {m:List aF} {i:Nat} (h:i < m.length) (h1:(aS l m[i] && cM l (fu l m[i]))=false):el l m=false:=by
 cases hb:el l m with
 |false=>rfl
 |true=>
  simp only[el,List.all_eq_true]at hb
  rw[hb _ (List.getElem_mem h)]at h1
  cases h1
theorem F2 {l:ah} {m:List aF} {i:Nat} (h:i < m.length):bE l (m.take (i+1))=bE l (m.take i)++c4 (fu l m[i]):=by
 rw[List.take_succ_eq_append_getElem h]
 simp only[bE,List.map_append,List.map_cons,List.map_nil,List.flatten_append,List.flatten_cons,List.flatten_nil,List.append_nil]
theorem z0 {l:ah} {m:List aF} {i:Nat}:(bE l (m.take i)).length≤20009 * i:=by
 induction i with
 |zero=>simp[bE]
 |succ i ih=>
  by_cases h:i < m.length
  ·rw[F2 h,List.length_append,iL]
   have:=Jd l m[i]
   omega
  ·rw[List.take_of_length_le (by omega)]at ih⊢
   omega
theorem P3 (l:ah) (m:aF) (hw:m.wc):VC cd jX (aD [(true,l.c),(true,m.c)]) (fun rs _=>rs= [(false,[.o true (some (5,1)) (bytes (fu l m))]),(false,[.p (.bool (aS l m))])]):=
 (Dg l m hw).own fun rs ps q=>by
   rw[q,fu]
   by_cases h0:aS l m=true
   ·rw[b4 h0,if_pos h0,h0]
    exact⟨_,by simp[aO,aX,ba],rfl⟩
   ·have h1:aS l m=false:=by simpa using h0
    rw[cW h1,if_neg h0,h1]
    exact⟨_,by simp[aO,aX,ba,ae],rfl⟩
abbrev vA:Nat:=61
def uc:AF:=⟨2,6,[.tmp 4, .tmp 5],(.seq (.ops [.i (.lbox 2 (.s 0)), .i (.mov 4 (.c (.val false [.nils]))), .i (.mov 5 (qb false))]) (.seq (.ops [.i (.bse 13),qm 6 13]) (.seq (.seq (.ops [qm 14 1,qn 15 14, .i (.mov 16 (qi 0))]) (.block 0 (.loop [41,40,39,38,37,36,35,34,33,32,31,30,29,28,27,26,25,24,23,22,21,20,19,18,17,12,11,10,9,8] (.seq (.ops [qd 17 .lss 16 15]) (.seq (.cond (.s 17) .skip (.exit 0)) (.seq (.block 1 (.seq (.ops [.i (.iad 18 (.s 14) (.s 16) 45), .i (.ldh 19 (.s 18) 45 true), .i (.lal 8 [.int .i64 0, .int .i64 0, .int .i64 0, .nils, .int .i64 0, .nils, .int .i64 0, .int .i64 0, .nils, .nils, .nils, .int .i64 0, .int .i64 0, .int .i64 0, .nils, .nils, .int .i64 0, .int .i64 0, .nils, .nils, .nils, .int .i64 0, .int .i64 0, .int .i64 0, .nils, .nils, .int .i64 0, .int .i64 0, .nils, .nils, .nils, .nils, .int .i64 0, .nils, .nils, .int .i64 0, .int .i64 0, .nils, .nils, .nils, .int .i64 0, .int .i64 0, .int .i64 0, .nils, .nils]),qs 8 8 19 45]) (.seq (.ops [ql 21 2 2 5 true,ql 22 8 8 45 true, .i (.call 24 52 false [(.s 21),(.s 22)]),qm 20 23, .i (.ext 24 (.s 20) 0), .i (.ext 25 (.s 20) 1),qm 9 24,qm 10 25]) (.seq (.ops [ql 27 2 2 5 true,qm 28 9, .i (.call 30 139 false [(.s 27),(.s 28)]),qm 26 29, .i (.ext 30 (.s 26) 0), .i (.ext 31 (.s 26) 1),qm 11 30,qm 12 31]) (.seq (.seq (.ops [qm 32 10, .i (.not 33 (.s 32)),qm 34 33, .g 34 false 36 (.mov 35 (.s 12)), .g 34 false 37 (.not 36 (.s 35)), .i (.pick 37 (.s 34) (qb true) (.s 36))]) (.cond (.s 37) (.seq (.ops [.i (.mov 4 (.c (.val false [.nils]))), .i (.mov 5 (qb false))]) .ret) .skip)) (.ops [qm 38 6,qm 39 11, .i (.app 40 5 1 1 (.s 38) (.s 39)),qm 6 40])))))) (.ops [.i (.bin 41 .add (.s 16) (qi 1)),qm 16 41]))))))) (.seq (.ops [qm 42 6,qm 4 42, .i (.mov 5 (qb true))]) .ret))))⟩
theorem EV:cd vA=some uc:=by kernel_rfl
theorem DX (l:ah) (m:List aF) (hm:m.length≤10000) (hw:∀x∈m,x.wc):VC cd vA (aD [(true,l.c),(false,[.sl (Lg m)])]) (fun rs _=>rs=wy l m):=by
 refine VC.qx ?_
 refine aa EV rfl ?_
 simp(disch:=omega) [uc,ah.c,Ga,VZ]
 refine bA (σ:=Nat×Nat×Bytes) (f1:=_) (es0:=_) (by simp(disch:=omega) [VZ];rfl) (by simp(disch:=omega) [VZ];rfl) (fun p=> [(16, .val false [.int .i64 (p.1:Int)]),(6, .val false [.ow 13 p.2.1])]) (fun p=> [(13, .sl p.2.1 true true (some (5,1)) (bytes p.2.2))])
  (fun p g=>g+p.1=m.length∧p.2.2=bE l (m.take p.1)∧∀x∈m.take p.1,(aS l x && cM l (fu l x))=true) (0,_,[]) m.length (by simp(disch:=omega) [VZ];rfl) (by simp(disch:=omega) [bytes,VZ]) ⟨by simp,by simp[bE],by simp⟩ ?_
 rintro⟨i,v,x⟩ nx g ⟨hg,h5,h6⟩ P hP
 simp only at hg h5 h6
 have hlen:=z0 (l:=l) (m:=m) (i:=i)
 rw[←h5]at hlen
 simp(disch:=omega) [VZ]
 refine ab (fun h8=> ?_) (fun h8=> ?_)
 ·have hml:=hw _ (List.getElem_mem h8)
  have hel:=Jd l m[i]
  have hfl:=iL (fu l m[i])
  have hft:=I9 (l:=l) h8 h6
  have hfn:=HU (l:=l) h8
  have hb:=F2 (l:=l) h8
  have hgt:=O8 h8
  generalize m[i]=y at hml hel hfl hft hfn hb hgt
  simp(disch:=omega) [hgt,aF.c,VZ]
  refine ao (P3 l y hml) ?_ (ha:=by first|rfl|(simp[ah.c,aF.c,VY] <;>repeat' constructor))
  simp(disch:=omega) [VZ]
  have hfr:=E9 l (fu l y) (by omega)
  simp only[y3]at hfr
  refine ao (hfr) ?_ (ha:=by first|rfl|(simp[ah.c,VY] <;>repeat' constructor))
  by_cases k1:aS l y=true
  ·by_cases k2:cM l (fu l y)=true
   ·have e1:bytes x++bytes (c4 (fu l y))=bytes (bE l (m.take (i+1))):=by rw[hb,←h5];simp[bytes]
    simp(disch:=omega) [k1,k2,e1,an,hfl,VZ]
    exact hP (i+1,_,bE l (m.take (i+1))) (g - 1) _ _ (by omega) ⟨by simp only;omega,rfl,hft (by rw[k1,k2];rfl)⟩ (by simp(disch:=omega) [VZ] <;>rfl) (by simp(disch:=omega) [VZ])
   ·have k3:cM l (fu l y)=false:=by simpa using k2
    simp(disch:=omega) [k1,k2,k3,wy,hfn (by rw[k1,k3];rfl),ae,aO,aX,ba,VZ]
  ·have k3:aS l y=false:=by simpa using k1
   simp(disch:=omega) [k1,k3,wy,hfn (by rw[k3];rfl),ae,aO,aX,ba,VZ]
 ·have hi:i=m.length:=by omega
  subst hi
  rw[List.take_length]at h5 h6
  have hf:el l m=true:=by simp only[el,List.all_eq_true];exact h6
  subst h5
  simp(disch:=omega) [wy,hf,aO,aX,ba,VZ]
def Hr (a b:Ev):Bool:=decide (a.kind=b.kind) && decide (a.n=b.n) && jF a.msg b.msg
abbrev lg:Nat:=130
def lz:AF:=⟨2,5,[.tmp 4],(.seq (.ops [.i (.lbox 2 (.s 0)), .i (.lbox 3 (.s 1)), .i (.mov 4 (qb false))]) (.seq (.ops [qf 5 2 0,ql 6 2 5 1 false,qf 7 3 0,ql 8 3 7 1 false,qd 9 .eql 6 8,qm 10 9, .g 10 true 12 (.fad 11 (.s 2) 1), .g 10 true 13 (.ldl 12 2 (.s 11) 1 false), .g 10 true 14 (.fad 13 (.s 3) 1), .g 10 true 15 (.ldl 14 3 (.s 13) 1 false), .g 10 true 16 (.bin 15 .eql (.s 12) (.s 14)), .i (.pick 16 (.s 10) (.s 15) (qb false)),qm 17 16, .g 17 true 19 (.fad 18 (.s 2) 2), .g 17 true 20 (.ldl 19 2 (.s 18) 45 true), .g 17 true 21 (.fad 20 (.s 3) 2), .g 17 true 22 (.ldl 21 3 (.s 20) 45 true), .g 17 true 23 (.call 23 54 false [(.s 19),(.s 21)]), .i (.pick 23 (.s 17) (.s 22) (qb false)),qm 4 23]) .ret))⟩
theorem yO:cd lg=some lz:=by kernel_rfl
theorem xg (a b:Ev) (ha:a.msg.wc) (hb:b.msg.wc):VC cd lg (aD [(true,a.c),(true,b.c)]) (fun rs _=>rs=bl (Hr a b)):=by
 refine aa yO rfl ?_
 simp(disch:=omega) [lz,Ev.c,aF.c,VZ]
 refine ab (fun h1=> ?_) (fun h1=> ?_) <;>simp(disch:=omega) [h1,Hr,VZ]
 refine ab (fun h2=> ?_) (fun h2=> ?_) <;>simp(disch:=omega) [h1,h2,VZ]
 refine ao (b7 a.msg b.msg ha hb) ?_ (ha:=by first|rfl|(simp[aF.c,VY] <;>repeat' constructor))
 simp(disch:=omega) [h1,h2,VZ]
theorem Iq (a:Ev):Hr a a=true:=by simp[Hr,sx.2 rfl]
abbrev jP:Nat:=49
def jl:AF:=⟨2,5,[.tmp 4],(.seq (.ops [.i (.mov 4 (qb false))]) (.seq (.seq (.ops [qm 6 0,qn 7 6,qm 8 1,qn 9 8,qd 10 .neq 7 9]) (.cond (.s 10) (.seq (.ops [.i (.mov 4 (qb false))]) .ret) .skip)) (.seq (.seq (.ops [qm 11 0,qn 12 11, .i (.mov 13 (qi 0))]) (.block 0 (.loop [26,25,24,23,22,21,20,19,18,17,16,15,14,5] (.seq (.ops [qd 14 .lss 13 12]) (.seq (.cond (.s 14) .skip (.exit 0)) (.seq (.block 1 (.seq (.ops [qm 15 13,qm 5 15]) (.seq (.ops [qm 16 0,qm 17 5, .i (.iad 18 (.s 16) (.s 17) 47), .i (.ldh 19 (.s 18) 47 true),qm 20 1,qm 21 5, .i (.iad 22 (.s 20) (.s 21) 47), .i (.ldh 23 (.s 22) 47 true), .i (.call 25 130 false [(.s 19),(.s 23)]), .i (.not 25 (.s 24))]) (.cond (.s 25) (.seq (.ops [.i (.mov 4 (qb false))]) .ret) .skip)))) (.ops [.i (.bin 26 .add (.s 13) (qi 1)),qm 13 26]))))))) (.seq (.ops [.i (.mov 4 (qb true))]) .ret))))⟩
theorem xi:cd jP=some jl:=by kernel_rfl
theorem we (a:List Ev) (hl:a.length≤1073741824) (ha:∀x∈a,x.msg.wc):VC cd jP (aD [(false,[.sl (ye a)]),(false,[.sl (ye a)])]) (fun rs _=>rs=bl true):=by
 refine aa xi rfl ?_
 simp(disch:=omega) [jl,tk,VZ]
 refine bA (σ:=Nat) (f1:=_) (es0:=_) (by simp(disch:=omega) [VZ] <;>rfl) (by simp(disch:=omega) [VZ] <;>rfl) (fun p=> [(13, .val false [.int .i64 (p:Int)])]) (fun p=> [])
  (fun p g=>g+p=a.length) 0 a.length (by simp(disch:=omega) [VZ] <;>rfl) (by simp(disch:=omega) [VZ]) (by simp) ?_
 rintro i nx g hg P hP
 simp(disch:=omega) [VZ]
 refine ab (fun h8=> ?_) (fun h8=> ?_)
 ·have hml:=ha _ (List.getElem_mem h8)
  have hgt:=Pb h8
  generalize a[i]=y at hml hgt
  simp(disch:=omega) [hgt,Ev.c,aF.c,VZ]
  refine ao (xg y y hml hml) ?_ (ha:=by first|rfl|(simp[Ev.c,aF.c,VY] <;>repeat' constructor))
  simp(disch:=omega) [Iq,VZ]
  exact hP (i+1) (g - 1) _ _ (by omega) (by omega) (by simp(disch:=omega) [VZ] <;>rfl) (by simp(disch:=omega) [VZ])
 ·simp(disch:=omega) [VZ]
end Go.Eng.F
namespace Go.Eng.F
theorem law_code {n:Nat} (hc:∀b:Bytes,VC cd n (aD [(false,[.sl (bytes b)])]) (fun rs _=>rs=bl true)):∀h vs,HI h [.sl (.int .u8)] vs→WC cd n vs h (fun r _=>r= .val false [.bool true]):=by
 intro h vs ha
 obtain⟨cs,v,S,r,rfl,hv,hr⟩:=ha
 obtain⟨x,rfl⟩:=hC hv.ok
 have e:Mn [(.sl (.int .u8),Ec x)]= [(false,[.sl (bytes x)])]:=by simp only[Mn,List.map,hG,Ty.agg]
 have hc:=hc x
 rw[←e]at hc
 have ha:mD h [(.sl (.int .u8),Ec x)] ((Ty.agg (.sl (.int .u8)),cs)::r):=⟨cs,r,rfl,⟨S,hv⟩,hr⟩
 refine(hc.wc ha (ts:= [(.bool, .b true)]) fun rs q=>by rw[q];exact SZ true).mono ?_
 rintro r' h' ⟨t,css,S',rfl,rfl,hres,_⟩
 obtain⟨cs',cr,S1,S2,rfl,rfl,h1,h2⟩:=hres
 obtain⟨rfl,rfl⟩:=h2
 obtain⟨b,rfl,e2,_⟩:=h1.bool
 simp only[Tv.b.injEq]at e2
 subst e2
 rfl
end Go.Eng.F
namespace Go.Eng.F
theorem G2 {l:ah} {q:Qc} (h:eE l q=true):(H4 q).length≤564:=by
 have s:=jq h
 have h1:=av s.view
 have h2:=av s.height
 have h3:=s.block
 have h4:=s.bits
 have h5:=s.tags
 have h6:q.tags.flatten.length≤32 * q.tags.length:=by
  have h7:=s.tag
  generalize q.tags=t at h7
  clear h5
  induction t with
  |nil=>simp
  |cons x t ih=>
   have:=h7 x (by simp)
   have:=ih fun y hy=>h7 y (by simp[hy])
   simp only[List.flatten_cons,List.length_append,List.length_cons]
   omega
 simp only[H4,List.length_append]
 omega
theorem yz {l:ah} {h:Head} (w:bB l h=true):(df h).length≤655:=by
 obtain⟨w1,w2,w3,w4,w5,w6,w7,w8,w9⟩:=yX w
 have h1:=av w1
 have h2:=av w2
 have h3:=av w3
 have h4:=G2 w8
 simp only[df,List.length_append]
 omega
theorem qL {α:Type} {e:α→Bytes} {N:Nat}:∀(xs:List α),(∀x∈xs,(e x).length≤N)→(xs.map e).flatten.length≤N * xs.length
 | [],_=>by simp
 |x::xs,h=>by
  have h1:=h x (by simp)
  have h2:=qL xs fun y hy=>h y (by simp[hy])
  simp only[List.map_cons,List.flatten_cons,List.length_append,List.length_cons]
  rw[Nat.mul_succ]
  omega
theorem fR {n:Nat} (h:n≤1152921504606846975):(aP n).length≤9:=b6 h
theorem Mq {l:ah} {m:aF} (h:az l m=true):(a9 m).length≤3999:=by
 have hL:=gk (vY h)
 have hl1:=hL.1
 have hl2:=hL.2.1
 have hl3:=hL.2.2.1
 have hl4:=hL.2.2.2
 rcases fj h with e|e|e|e|e|e|e
 ·obtain⟨p1,p2,_,_⟩:=Hg (l:=l) e
  rw[p1]at h
  rw[p2]
  have:=L6 (xW h)
  omega
 ·obtain⟨p1,p2,_,_⟩:=KR (l:=l) e
  rw[p1]at h
  rw[p2]
  have:=G2 h
  omega
 ·obtain⟨p1,p2,_,_⟩:=KW (l:=l) e
  rw[p1]at h
  rw[p2]
  have:=yz h
  omega
 ·obtain⟨p1,p2,_,_⟩:=K7 (l:=l) e
  rw[p1]at h
  rw[p2]
  obtain⟨w1,w2,w3,w4,w5⟩:=vK h
  have h1:=yz w1
  have h2:=fR (n:=m.block.txs.length) (by omega)
  have h3:=qL (e:=eI) (N:=49) m.block.txs fun x hx=>by
   have:=w4 x hx
   have:=fR (n:=x.length) (by omega)
   simp only[eI,List.length_append]
   omega
  have h4:49 * m.block.txs.length≤49 * 8:=Nat.mul_le_mul_left _ (by omega)
  simp only[gD,List.length_append]
  omega
 ·obtain⟨p1,p2,_,_⟩:=KY (l:=l) e
  rw[p1]at h
  rw[p2]
  obtain⟨w1,w2,w3,w4⟩:=Gt h
  have h1:=av w2
  have h2:=fR (n:=m.tc.entries.length) (by omega)
  have h3:((m.tc.entries.map yh).flatten).length≤50 * m.tc.entries.length:=qL (e:=yh) (N:=50) m.tc.entries fun x hx=>by
   obtain⟨i,hi,rfl⟩:=List.getElem_of_mem hx
   obtain⟨a1,a2,a3,_⟩:=FA _ _ w4 i _ (List.getElem?_eq_getElem hi)
   have hv:=cu w2
   have b1:=fR (n:=(m.tc.entries[i].who).toNat) (by omega)
   have b2:=fR (n:=(m.tc.entries[i].high).toNat) (by omega)
   simp only[yh,List.length_append]
   omega
  have h4:50 * m.tc.entries.length≤50 * 10:=Nat.mul_le_mul_left _ (by omega)
  simp only[MO,List.length_append]
  omega
 ·obtain⟨p1,p2,_,_⟩:=Kr (l:=l) e
  rw[p1]at h
  rw[p2]
  obtain⟨w1,w2,w3,w4,w5⟩:=wu h
  have h1:=fR (n:=m.proof.heads.length) (by omega)
  have h2:=qL (e:=df) (N:=655) m.proof.heads fun x hx=>yz (w3 x hx)
  have h3:=G2 w4
  have h4:655 * m.proof.heads.length≤655 * 5:=Nat.mul_le_mul_left _ (by omega)
  simp only[gj,List.length_append]
  omega
 ·obtain⟨p1,p2,_,_⟩:=K2 (l:=l) e
  rw[p1]at h
  rw[p2]
  obtain⟨w1,w2,w3,w4,w5,w6,w7⟩:=zo h
  have h1:=av w2
  have h2:=fR (n:=m.incl.n.toNat) (by omega)
  have h3:=fR (n:=m.incl.idx.toNat) (by omega)
  have h4:=fR (n:=m.incl.tx.length) (by omega)
  have h5:=qL (e:=fun x:Bytes=>x) (N:=32) m.incl.path fun x hx=>Nat.le_of_eq (w7 x hx)
  have h6:=ck m.incl.n.toNat m.incl.idx.toNat
  have h7:32 * m.incl.path.length≤32 * 8:=Nat.mul_le_mul_left _ (by omega)
  simp only[List.map_id']at h5
  simp only[lV,eI,List.length_append]
  omega
theorem Rr {l:ah} {m:aF} (h:aS l m=true):fu l m=dH m::a9 m:=by rw[fu,if_pos h]
theorem mH {l:ah} {m:aF} (h:aS l m=true) (hf:l.frame=4000):cM l (fu l m)=true:=by
 have h1:=Mq (iQ h)
 rw[Rr h]
 simp only[cM,vY (iQ h),hf,de,Bool.true_and,decide_eq_true_eq,List.length_cons]
 omega
theorem OO {l:ah} {m:List aF} (h:∀x∈m,x.wc∧aS l x=true) (hf:l.frame=4000):el l m=true:=by
 simp only[el,List.all_eq_true]
 intro x hx
 have:=(h x hx).2
 rw[this,mH this hf]
 rfl
def qt (m:aF):Ev:=⟨3,0,m⟩
theorem GH {l:ah} {m:List aF} {cl:Bool} (hl:l.ok=true) (h:∀x∈m,x.wc∧aS l x=true) (hf:l.frame=4000):parse l (bE l m) cl=m.map qt:=by
 have h1:=sM (l:=l) (cl:=cl) (t:= []) m fun x hx=>⟨(h x hx).2,mH (h x hx).2 hf⟩
 rw[List.append_nil]at h1
 simp only[parse,if_pos hl,Di,h1,Is,List.append_nil]
 cases cl <;>simp[dJ,qt]
theorem Ee {l:ah} {m:List aF} (h:m.length≤3):(bE l m).length≤60027:=by
 have:=z0 (l:=l) (m:=m) (i:=m.length)
 rw[List.take_length]at this
 have:20009 * m.length≤20009 * 3:=Nat.mul_le_mul_left _ h
 omega
def Je (c:UInt8):UInt8:=if c=181 then 0 else c
theorem QP (c:UInt8):Je c≠181:=by
 unfold Je
 split
 ·decide
 ·assumption
theorem Ik {g:Bytes} {i:Nat} (h:i < g.length):((g.take i).map Je++g.drop i).set i (Je g[i])=(g.take (i+1)).map Je++g.drop (i+1):=by
 have h1:((g.take i).map Je).length=i:=by rw[List.length_map,List.length_take];omega
 rw[List.drop_eq_getElem_cons h,List.set_append_right _ _ (by omega),h1,Nat.sub_self,List.set_cons_zero,List.take_succ_eq_append_getElem h]
 simp only[List.map_append,List.map_cons,List.map_nil,List.append_assoc,List.cons_append,List.nil_append]
theorem Nv {g:Bytes} {i:Nat} (h:i < g.length) (hc:g[i]≠181):(g.take i).map Je++g.drop i=(g.take (i+1)).map Je++g.drop (i+1):=by
 rw[←Ik h,show Je g[i]=g[i]by simp[Je,hc]]
 have h1:((g.take i).map Je).length=i:=by rw[List.length_map,List.length_take];omega
 rw[List.set_append_right _ _ (by omega),h1,Nat.sub_self,List.drop_eq_getElem_cons h,List.set_cons_zero]
theorem RF {g:Bytes} {i:Nat} (h:i < g.length):((g.take i).map Je++g.drop i)[i]? =some g[i]:=by
 have h1:((g.take i).map Je).length=i:=by rw[List.length_map,List.length_take];omega
 rw[List.getElem?_append_right (by omega),h1,Nat.sub_self,List.getElem?_drop,Nat.add_zero,List.getElem?_eq_getElem h]
theorem Pa (l:List Ev):wid 47 (ye l)=true:=by
 induction l with
 |nil=>rfl
 |cons x l ih=>
  have:ye (x::l)=x.c::ye l:=rfl
  rw[this,wid,ih]
  rfl
theorem F6 {l:ah} {m:List aF} {x:Bytes} (hl:l.ok=true) (h:∀x∈m,x.wc∧aS l x=true) (hf:l.frame=4000) (hno:∀c∈x,c≠181):parse l (x++bE l m) false=if m= []then []else dJ x.length++m.map qt:=by
 have h1:=FX (l:=l) (cl:=false) (t:=bE l m) x 0 hno
 rw[Kb hl,h1]
 cases m with
 |nil=>rfl
 |cons y m=>
  have hy:=h y (by simp)
  have h2:=sM (l:=l) (cl:=false) (t:= []) m fun x hx=>⟨(h x (by simp[hx])).2,mH (h x (by simp[hx])).2 hf⟩
  rw[List.append_nil]at h2
  have e:bE l (y::m)=c4 (fu l y)++bE l m:=by simp[bE]
  rw[e,BM hy.2 (mH hy.2 hf),h2,if_neg (by simp)]
  simp[Is,qt]
abbrev kF:Nat:=8
def lT:AF:=⟨1,7,[.tmp 2],(.seq (.ops [.i (.mov 2 (qb false))]) (.seq (.seq (.ops [qm 10 0,qn 11 10, .i (.bin 12 .gtr (.s 11) (qi 1048576))]) (.cond (.s 12) (.seq (.ops [.i (.mov 2 (qb true))]) .ret) .skip)) (.seq (.ops [qm 13 0,qk 15 14 13, .i (.lal 3 [.int .i64 0, .int .i64 0, .int .i64 0, .int .i64 0, .int .i64 0]),qs 3 3 14 5]) (.seq (.ops [qm 15 0, .i (.call 17 59 false [(.s 15),(qi 9)]),qm 4 16]) (.seq (.seq (.ops [qm 17 4,qn 18 17, .i (.mov 19 (qi 0))]) (.block 0 (.loop [30,29,28,27,26,25,24,23,22,21,20,5] (.seq (.ops [qd 20 .lss 19 18]) (.seq (.cond (.s 20) .skip (.exit 0)) (.seq (.block 1 (.seq (.ops [qm 21 19,qm 5 21]) (.seq (.ops [qm 22 4,qm 23 5, .i (.iad 24 (.s 22) (.s 23) 1), .i (.ldh 25 (.s 24) 1 false), .i (.bin 26 .eql (.s 25) (.c (.val false [.int .u8 181])))]) (.cond (.s 26) (.ops [qm 27 4,qm 28 5, .i (.iad 29 (.s 27) (.s 28) 1), .i (.sth (.s 29) (.c (.val false [.int .u8 0])) 1)]) .skip)))) (.ops [.i (.bin 30 .add (.s 19) (qi 1)),qm 19 30]))))))) (.seq (.ops [qm 31 0,ql 32 3 3 5 true, .i (.call 34 60 false [(.s 31),(.s 32)]),qm 6 33]) (.seq (.ops [ql 35 3 3 5 true,qm 36 6, .i (.call 38 61 false [(.s 35),(.s 36)]),qm 34 37, .i (.ext 38 (.s 34) 0), .i (.ext 39 (.s 34) 1),qm 7 38,qm 8 39]) (.seq (.ops [ql 40 3 3 5 true, .i (.bse 41),qm 42 4, .i (.app 43 5 1 1 (.s 41) (.s 42)),qm 44 7, .i (.app 45 5 1 1 (.s 43) (.s 44)), .i (.call 47 50 false [(.s 40),(.s 45),(qb false)]),qm 9 46]) (.seq (.seq (.ops [qm 47 6,qn 48 47, .i (.bin 49 .eql (.s 48) (qi 0))]) (.cond (.s 49) (.seq (.ops [qm 50 9,qn 51 50, .i (.bin 52 .eql (.s 51) (qi 0)),qm 2 52]) .ret) .skip)) (.seq (.seq (.ops [qm 53 4,qn 54 53, .i (.bin 55 .gtr (.s 54) (qi 0))]) (.cond (.s 55) (.seq (.seq (.ops [qm 56 9,qn 57 56, .i (.bin 58 .eql (.s 57) (qi 0)),qm 59 58, .g 59 false 61 (.mov 60 (.s 9)), .g 59 false 62 (.iad 61 (.s 60) (qi 0) 47), .g 59 false 63 (.fad 62 (.s 61) 0), .g 59 false 64 (.ldh 63 (.s 62) 1 false), .g 59 false 65 (.bin 64 .neq (.s 63) (qi 1)), .i (.pick 65 (.s 59) (qb true) (.s 64)),qm 66 65, .g 66 false 68 (.mov 67 (.s 9)), .g 66 false 69 (.iad 68 (.s 67) (qi 0) 47), .g 66 false 70 (.fad 69 (.s 68) 1), .g 66 false 71 (.ldh 70 (.s 69) 1 false), .g 66 false 72 (.mov 71 (.s 4)), .g 66 false 73 (.len 72 false (.s 71)), .g 66 false 74 (.bin 73 .neq (.s 70) (.s 72)), .i (.pick 74 (.s 66) (qb true) (.s 73))]) (.cond (.s 74) (.seq (.ops [.i (.mov 2 (qb false))]) .ret) .skip)) (.ops [qm 75 9, .i (.fv 76 47 (.s 75) (some (qi 1)) none),qm 9 76])) .skip)) (.seq (.ops [qm 77 9,ql 78 3 3 5 true,qm 79 7, .i (.call 81 50 false [(.s 78),(.s 79),(qb false)]), .i (.call 82 49 false [(.s 77),(.s 80)]),qm 2 81]) .ret)))))))))))⟩
theorem zw:cd kF=some lT:=by kernel_rfl
theorem FnGarbage_ok (b:Bytes):VC cd kF (aD [(false,[.sl (bytes b)])]) (fun rs _=>rs=bl true):=by
 refine aa zw rfl ?_
 simp(disch:=omega) [lT,an,VZ]
 refine ab (fun h0=> ?_) (fun h0=> ?_)
 ·simp(disch:=omega) [VZ]
 have hb:b.length≤1048576:=by omega
 simp(disch:=omega) [VZ]
 refine TO (Eu b (by omega)) ?_
 rintro l ⟨hl,hf⟩
 simp(disch:=omega) [ah.e,VZ]
 refine TO (HV b 9 (by omega) (by omega)) ?_
 rintro g0 hg0
 simp(disch:=omega) [an,VZ]
 refine bA (σ:=Nat×Nat×Bytes) (f1:=_) (es0:=_) (by simp(disch:=omega) [VZ] <;>rfl) (by simp(disch:=omega) [VZ] <;>rfl) (fun p=> [(19, .val false [.int .i64 (p.1:Int)]),(4, .val false [.ow 147456 p.2.1])]) (fun p=> [(147456, .sl p.2.1 true true (some (5,1)) (bytes p.2.2))])
  (fun p g=>g+p.1=g0.length∧p.2.2=(g0.take p.1).map Je++g0.drop p.1) (0,_,g0) g0.length (by simp(disch:=omega) [VZ] <;>rfl) (by simp(disch:=omega) [VZ]) ⟨by simp,by simp⟩ ?_
 rintro⟨i,v,x⟩ nx gg ⟨hg,h5⟩ P hP
 simp only at hg h5
 have hxl:x.length=g0.length:=by rw[h5];simp;omega
 simp(disch:=omega) [VZ]
 refine ab (fun h8=> ?_) (fun h8=> ?_)
 ·have hat:=RF h8
  rw[←h5]at hat
  have hxi:i < x.length:=by omega
  have hxg:x[i]'hxi=g0[i]:=by rw[List.getElem?_eq_getElem hxi]at hat;simpa using hat
  simp(disch:=omega) [bS hxi,VZ]
  by_cases hc:g0[i]=181
  ·have hc2:(x[i]'hxi).toNat=181:=by rw[hxg,hc];rfl
   have hc3:Je g0[i]=0:=by simp[Je,hc]
   have hst:=Ik h8
   rw[←h5,hc3]at hst
   have hb0:(bytes x).set i [D.int .u8 0]=bytes (x.set i 0):=by simp[bytes,List.map_set]
   simp(disch:=omega) [hc2,bS hxi,hb0,hst,VZ]
   exact hP (i+1,v,(g0.take (i+1)).map Je++g0.drop (i+1)) (gg - 1) _ _ (by omega) ⟨by simp only;omega,rfl⟩ (by simp(disch:=omega) [VZ] <;>rfl) (by simp(disch:=omega) [VZ])
  ·have hc2:¬(x[i]'hxi).toNat=181:=fun e=>hc (by rw[←hxg];exact UInt8.toNat_inj.1 e)
   have hc4:¬((x[i]'hxi).toNat:Int)=181:=by omega
   simp(disch:=omega) [hc2,hc4,VZ]
   exact hP (i+1,v,x) (gg - 1) _ _ (by omega) ⟨by simp only;omega,by rw[h5];exact Nv h8 hc⟩ (by simp(disch:=omega) [VZ] <;>rfl) (by simp(disch:=omega) [VZ])
 ·have hi:i=g0.length:=by omega
  subst hi
  rw[List.take_length,List.drop_length,List.append_nil]at h5
  have hno:∀c∈x,c≠181:=fun c hc=>by
   rw[h5]at hc
   obtain⟨d,_,rfl⟩:=List.mem_map.1 hc
   exact QP d
  simp(disch:=omega) [VZ]
  refine TO (JG b l hl (by omega)) ?_ (ha:=by first|rfl|(simp[ah.c,VY] <;>repeat' constructor))
  rintro m ⟨hm3,hm⟩
  have hfr:=DX l m (by omega) (fun x hx=>(hm x hx).1)
  simp only[wy,OO hm hf,if_true]at hfr
  have hsl:=Ee (l:=l) hm3
  have hp1:=uX l (bE l m) false (by omega)
  rw[GH hl hm hf]at hp1
  have hp2:=uX l (x++bE l m) false (by rw[List.length_append];omega)
  have hpe:=F6 hl hm hf hno
  rw[hpe]at hp2
  have hlm:(Lg m).length=m.length:=Ga m
  have hw:∀e∈m.map qt,e.msg.wc:=fun e he=>by
   obtain⟨x,hx,rfl⟩:=List.mem_map.1 he
   exact(hm x hx).1
  have hes:=we (m.map qt) (by rw[List.length_map];omega) hw
  have hbs:bytes x++bytes (bE l m)=bytes (x++bE l m):=by simp[bytes]
  by_cases hm0:m= []
  ·subst hm0
   simp only[if_true,List.map_nil,List.append_nil]at hp2
   simp(disch:=omega) [VZ]
   refine ao (hfr) ?_ (ha:=by first|rfl|(simp[ah.c,VY] <;>repeat' constructor))
   simp(disch:=omega) [hbs,VZ]
   refine ao (hp2) ?_ (ha:=by first|rfl|(simp[ah.c,VY] <;>repeat' constructor))
   simp(disch:=omega) [hlm,Lv,Pn,VZ]
  ·rw[if_neg hm0]at hp2
   have hlen:(m.map qt).length=m.length:=List.length_map _
   by_cases hx0:x= []
   ·subst hx0
    simp only[List.length_nil,dJ,if_true,List.nil_append]at hp2
    generalize bE l m=s at hfr hsl hp1 hp2 hbs
    generalize m.map qt=e at hp1 hp2 hes hlen
    have hll:(ye e).length=m.length:=by rw[tk,hlen]
    simp only[List.nil_append]at hbs
    simp(disch:=omega) [VZ]
    refine ao (hfr) ?_ (ha:=by first|rfl|(simp[ah.c,VY] <;>repeat' constructor))
    simp(disch:=omega) [hbs,VZ]
    refine ao (hp2) ?_ (ha:=by first|rfl|(simp[ah.c,VY] <;>repeat' constructor))
    simp(disch:=omega) [hlm,hm0,hll,VZ]
    refine ao (hp1) ?_ (ha:=by first|rfl|(simp[ah.c,VY] <;>repeat' constructor))
    simp(disch:=omega) [VZ]
    refine ao (hes) ?_
    simp(disch:=omega) [VZ]
   ·have hxp:=List.length_pos_iff.2 hx0
    have hsk:dJ x.length++m.map qt=⟨1,(x.length:Int),aw⟩::m.map qt:=by
     rw[dJ,if_neg (by omega)]
     rfl
    rw[hsk]at hp2
    generalize bE l m=s at hfr hsl hp1 hp2 hbs
    generalize m.map qt=e at hp1 hp2 hes hlen
    have hll:(ye e).length=m.length:=by rw[tk,hlen]
    obtain⟨ee,hee⟩:∃ee:List (List D),ee=ye (⟨1,(x.length:Int),aw⟩::e):=⟨_,rfl⟩
    rw[←hee]at hp2
    have he1:ee.length=m.length+1:=by rw[hee,tk,List.length_cons,hlen]
    have he2:ee[0]? =some (Ev.c ⟨1,(x.length:Int),aw⟩):=by rw[hee];rfl
    have he3:∀hq:0 < ee.length,ee[0]'hq=Ev.c ⟨1,(x.length:Int),aw⟩:=fun hq=>by subst hee;rfl
    have he4:ee.drop 1=ye e:=by rw[hee];rfl
    have he5:(ye e).take m.length=ye e:=List.take_of_length_le (by rw[hll];omega)
    have he6:wid 47 ee=true:=by rw[hee];exact Pa _
    clear hee
    simp(disch:=omega) [VZ]
    refine ao (hfr) ?_ (ha:=by first|rfl|(simp[ah.c,VY] <;>repeat' constructor))
    simp(disch:=omega) [hbs,VZ]
    refine ao (hp2) ?_ (ha:=by first|rfl|(simp[ah.c,VY] <;>repeat' constructor))
    simp(disch:=omega) [hlm,hm0,hll,hx0,an,hxp,he1,he2,he3,he4,he5,he6,Ev.c,aF.c,show(1:Int)≤(m.length:Int)+1 by omega,show((m.length:Int)+1).toNat=m.length+1 by omega,show ¬((m.length:Int)+1=0)by omega,VZ]
    refine ao (hp1) ?_ (ha:=by first|rfl|(simp[ah.c,VY] <;>repeat' constructor))
    simp(disch:=omega) [VZ]
    refine ao (hes) ?_
    simp(disch:=omega) [VZ]
end Go.Eng.F
