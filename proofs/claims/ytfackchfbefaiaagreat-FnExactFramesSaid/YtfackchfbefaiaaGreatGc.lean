import Derived.Test.YtfackchfbefaiaaGreatGb
set_option linter.unusedVariables false
set_option linter.unusedSimpArgs false
set_option maxRecDepth 100000
namespace Go.Eng
theorem G7 {cd:Nat→Option AF} {g gE:Nat} {T:Ty} (hcd:cd g=some (zw T.size gE T.agg)) (hE:da cd gE T):da cd g (.sl T):=by
 intro h cs v S k hv hk
 obtain⟨c,xs,id,off,bs,S',rfl,rfl,hm,hl,hat,hce,hbs,hel,hS⟩:=hv.view
 have hw:wt (.l xs)=xs.length+dq xs:=by simp[wt]
 rw[hw]
 refine aD hcd rfl ?_
 simp(disch:=omega) only[zw,hl,au,SQ,SU,SL,reduceCtorEq,Nat.reduceAdd,Nat.reduceLeDiff,reduceIte]
 refine ao (fun hb=> ?_) (fun hb=> ?_)
 ·simp(disch:=omega) only[zw,au,SQ,SU,SL,reduceCtorEq,Nat.reduceAdd,Nat.reduceLeDiff,reduceIte]
  rw[if_neg (by omega)]
 ·simp(disch:=omega) only[zw,au,SQ,SU,SL,reduceCtorEq,Nat.reduceAdd,Nat.reduceLeDiff,reduceIte]
  refine fR (σ:=Nat) (f1:=_) (by simp only[SQ,SU,SL,reduceCtorEq,Nat.reduceAdd,Nat.reduceLeDiff,reduceIte];rfl) (fun i=> [(5, .val false [.int .i64 i]),(1, .val false [.int .i64 ((k - xs.length - dq (xs.take i):Nat):Int)])])
   (fun i g h'=>g=xs.length - i∧i≤xs.length∧h'=h∧xs.length+dq (xs.take i)≤k) 0 xs.length ?_ ⟨by omega,by omega,rfl,by simp[dq];omega⟩ ?_
  ·have:((k - xs.length - dq (xs.take 0):Nat):Int)=(k:Int) - xs.length:=by simp[dq];omega
   rw[this]
   simp only[SQ,SU,SL,reduceCtorEq,Nat.reduceAdd,Nat.reduceLeDiff,reduceIte];rfl
  rintro i g h' ⟨hg,hi,rfl,hle⟩
  simp(disch:=omega) only[zw,hl,au,SQ,SU,SL,reduceCtorEq,Nat.reduceAdd,Nat.reduceLeDiff,reduceIte]
  refine ao (fun hlt=> ?_) (fun hlt=> ?_)
  ·have hix:i < xs.length:=by omega
   obtain⟨Si,hx⟩:=hel.at hix
   have hsz:=hx.size
   have hb2:off+i * T.size+T.size≤bs.length:=by
    have:=Nat.mul_le_mul_right T.size hix
    rw[Nat.succ_mul]at this
    omega
   simp(disch:=omega) only[zw,hl,hat i hix,(hce (by omega)).1,aB,au,SQ,SU,SL,reduceCtorEq,Nat.reduceAdd,Nat.reduceLeDiff,reduceIte]
   refine aI (hE hx (k:=k - xs.length - dq (xs.take i)) (by omega)) ?_
   rintro r h'' ⟨rfl,rfl⟩
   have hwt:=E1 (List.getElem?_eq_getElem hix)
   have hwl:=C6 xs (i+1)
   by_cases hf:wt xs[i]≤k - xs.length - dq (xs.take i)
   ·rw[if_pos hf]
    simp(disch:=omega) only[ae,au,SQ,SU,SL,reduceCtorEq,Nat.reduceAdd,Nat.reduceLeDiff,reduceIte]
    refine ao (fun hn=> ?_) (fun hn=> ?_)
    ·omega
    ·simp(disch:=omega) only[au,SQ,SU,SL,reduceCtorEq,Nat.reduceAdd,Nat.reduceLeDiff,reduceIte]
     refine⟨i+1,xs.length - (i+1),by omega,?_,rfl,by omega,by omega⟩
     have:((k - xs.length - dq (xs.take (i+1)):Nat):Int)=((k - xs.length - dq (xs.take i):Nat):Int) - (wt xs[i]:Int):=by omega
     rw[this]
     rfl
   ·rw[if_neg hf]
    simp(disch:=omega) only[ae,au,SQ,SU,SL,reduceCtorEq,Nat.reduceAdd,Nat.reduceLeDiff,reduceIte]
    refine ao (fun hn=> ?_) (fun hn=> ?_)
    ·simp(disch:=omega) only[au,SQ,SU,SL,reduceCtorEq,Nat.reduceAdd,Nat.reduceLeDiff,reduceIte]
     rw[if_neg (by omega)]
    ·omega
  ·simp(disch:=omega) only[zw,au,SQ,SU,SL,reduceCtorEq,Nat.reduceAdd,Nat.reduceLeDiff,reduceIte]
   have:i=xs.length:=by omega
   subst this
   rw[List.take_length]at hle⊢
   rw[if_pos (by omega)]
   congr 3
   omega
theorem Hr {cd:Nat→Option AF} {g gE:Nat} {T:Ty} (hcd:cd g=some (zQ T.size gE T.agg)) (hE:cV cd gE T):cV cd g (.sl T):=by
 intro h ca cb va vb Sa Sb ha hb
 obtain⟨c1,xs,id1,off1,bs1,S1,rfl,rfl,hm1,hl1,hat1,hce1,hbs1,hel1,hS1⟩:=ha.view
 obtain⟨c2,ys,id2,off2,bs2,S2,rfl,rfl,hm2,hl2,hat2,hce2,hbs2,hel2,hS2⟩:=hb.view
 refine aD hcd rfl ?_
 simp(disch:=omega) only[zQ,hl1,hl2,au,SQ,SU,SL,reduceCtorEq,Nat.reduceAdd,Nat.reduceLeDiff,reduceIte]
 refine ao (fun hne=> ?_) (fun hne=> ?_)
 ·simp(disch:=omega) only[zQ,SQ,SU,SL,reduceCtorEq,Nat.reduceAdd,Nat.reduceLeDiff,reduceIte]
  have:¬xs=ys:=fun e=>hne (by rw[e])
  simp[this]
 ·have hlen:xs.length=ys.length:=by omega
  simp(disch:=omega) only[zQ,SQ,SU,SL,reduceCtorEq,Nat.reduceAdd,Nat.reduceLeDiff,reduceIte]
  refine fR (σ:=Nat) (f1:=_) (by simp only[SQ,SU,SL,reduceCtorEq,Nat.reduceAdd,Nat.reduceLeDiff,reduceIte];rfl) (fun i=> [(5, .val false [.int .i64 i])]) (fun i g h'=>g=xs.length - i∧i≤xs.length∧h'=h∧∀j,j < i→xs[j]? =ys[j]?) 0 xs.length (by simp only[SQ,SU,SL,reduceCtorEq,Nat.reduceAdd,Nat.reduceLeDiff,reduceIte];rfl) ⟨by omega,by omega,rfl,fun j hj=>by omega⟩ ?_
  rintro i g h' ⟨hg,hi,rfl,hall⟩
  simp(disch:=omega) only[zQ,hl1,hl2,au,SQ,SU,SL,reduceCtorEq,Nat.reduceAdd,Nat.reduceLeDiff,reduceIte]
  refine ao (fun hlt=> ?_) (fun hlt=> ?_)
  ·have hix:i < xs.length:=by omega
   have hiy:i < ys.length:=by omega
   obtain⟨_,k1⟩:=hel1.at hix
   obtain⟨_,q1⟩:=hel2.at hiy
   have hb1:off1+i * T.size+T.size≤bs1.length:=by
    have:=Nat.mul_le_mul_right T.size hix
    rw[Nat.succ_mul]at this
    omega
   have hb2:off2+i * T.size+T.size≤bs2.length:=by
    have:=Nat.mul_le_mul_right T.size hiy
    rw[Nat.succ_mul]at this
    omega
   simp(disch:=omega) only[zQ,hl1,hl2,hat1 i hix,hat2 i hiy,(hce1 (by omega)).1,(hce2 (by omega)).1,aB,au,SQ,SU,SL,reduceCtorEq,Nat.reduceAdd,Nat.reduceLeDiff,reduceIte]
   refine aI (hE k1 q1) ?_
   rintro r h'' ⟨rfl,rfl⟩
   simp(disch:=omega) only[ae,au,SQ,SU,SL,reduceCtorEq,Nat.reduceAdd,Nat.reduceLeDiff,reduceIte]
   by_cases he:xs[i]=ys[i]
   ·simp(disch:=omega) only[he,au,SQ,SU,SL,reduceCtorEq,Nat.reduceAdd,Nat.reduceLeDiff,reduceIte]
    refine⟨i+1,xs.length - (i+1),by omega,rfl,rfl,by omega,fun j hj=> ?_⟩
    by_cases e:j=i
    ·subst e
     rw[List.getElem?_eq_getElem hix,List.getElem?_eq_getElem hiy,he]
    ·exact hall j (by omega)
   ·simp(disch:=omega) only[he,au,SQ,SU,SL,reduceCtorEq,Nat.reduceAdd,Nat.reduceLeDiff,reduceIte]
    have:¬xs=ys:=fun e=>by subst e;exact he rfl
    simp[this]
  ·simp(disch:=omega) only[zQ,SQ,SU,SL,reduceCtorEq,Nat.reduceAdd,Nat.reduceLeDiff,reduceIte]
   have:xs=ys:=List.ext_getElem? fun j=>by
    by_cases hj:j < i
    ·exact hall j hj
    ·rw[List.getElem?_eq_none (by omega),List.getElem?_eq_none (by omega)]
   simp[this]
theorem Hq {h:H} {b b':uq} {t:H} {i:Nat} (hi:i≠h.length):(h++b'::t)[i]? =(h++b::t)[i]? :=by
 by_cases hl:i < h.length
 ·rw[List.getElem?_append_left hl,List.getElem?_append_left hl]
 ·rw[List.getElem?_append_right (by omega),List.getElem?_append_right (by omega)]
  obtain⟨j,e⟩:∃j,i - h.length=j+1:=⟨i - h.length - 1,by omega⟩
  rw[e,List.getElem?_cons_succ,List.getElem?_cons_succ]
theorem dK.app {h t:H} {S:List Nat} (ho:dK h S):dK (h++t) S:=⟨ho.1,fun i hi=>by
 obtain⟨ty,cs,e⟩:=ho.2 i hi
 exact⟨ty,cs,by rw[List.getElem?_append_left (List.getElem?_eq_some_iff.1 e).1];exact e⟩⟩
theorem dK.Qp {h:H} {b b':uq} {t:H} {S:List Nat} (ho:dK (h++b::t) S) (hs:∀i∈S,i≠h.length):dK (h++b'::t) S:=⟨ho.1,fun i hi=>by
 obtain⟨ty,cs,e⟩:=ho.2 i hi
 exact⟨ty,cs,by rw[Hq (b:=b) (hs i hi)];exact e⟩⟩
theorem Rp.Qp {h:H} {b b':uq} {t:H} {T:Ty} {cs:List C} {v:Tv} {S:List Nat} (hr:Rp (h++b::t) T cs v S) (hs:∀i∈S,i≠h.length):Rp (h++b'::t) T cs v S:=hr.frame fun i hi=>bG (Hq (hs i hi))
theorem bb.lt {h:H} {T:Ty} {xs:List Tv} {cs:List C} {S:List Nat} (hr:bb (Rp h T) xs cs S):∀i∈S,i < h.length:=bb.all (hr.imp fun c x S' _ hx=>hx.lt)
theorem Hj {z:List C} {e:Nat} (hz:z.length=e) (n:Nat):(List.replicate n z).flatten.length=n * e:=by simp[hz]
theorem HZ {D cs z:List C} {e n i:Nat} (hD:D.length=i * e) (hz:z.length=e) (hc:cs.length=e) (hi:i < n):aR (D++(List.replicate (n - i) z).flatten) (i * e) cs=(D++cs)++(List.replicate (n - (i+1)) z).flatten:=by
 have e1:n - i=(n - (i+1))+1:=by omega
 rw[df _ _ _ (by simp only[List.length_append,Hj hz,hD,hc,e1,Nat.add_mul,Nat.one_mul];omega),e1,List.replicate_succ,List.flatten_cons,←hD,List.take_left,hc,List.drop_append,List.drop_eq_nil_of_le (by omega)]
 have e2:D.length+e - D.length=e:=by omega
 rw[e2,List.drop_append,List.drop_eq_nil_of_le (by omega),hz]
 simp
theorem Hc {cd:Nat→Option AF} {g gE ty by_:Nat} {z:List C} {T:Ty} (hcd:cd g=some (El ty T.size by_ gE z T.agg)) (hby:by_≤4096) (hz:z.length=T.size) (hE:lZ cd gE T):lZ cd g (.sl T):=by
 intro h cs v S hv hw
 obtain⟨c,xs,id,off,bs,S',rfl,rfl,hm,hl,hat,hce,hbs,hel,hS⟩:=hv.view
 have hwx:xs.length+dq xs≤1048576:=by simp only[wt]at hw;omega
 have hroom:dt (xs.length * by_+xs.length)=true:=Dx (by have:=Nat.mul_le_mul (show xs.length≤1048576 by omega) hby;omega)
 refine aD hcd rfl ?_
 simp(disch:=omega) only[El,hl,au,Int.toNat_natCast,hroom,aB,Int.natCast_nonneg,SQ,SU,SL,reduceCtorEq,Nat.reduceAdd,Nat.reduceLeDiff,reduceIte]
 refine fR (σ:=Nat) (f1:=_) (by simp only[SQ,SU,SL,reduceCtorEq,Nat.reduceAdd,Nat.reduceLeDiff,reduceIte];rfl) (fun i=> [(4, .val false [.int .i64 i])])
  (fun i g h'=>g=xs.length - i∧i≤xs.length∧∃D Sd t,h'=h++ .own ty (D++(List.replicate (xs.length - i) z).flatten)::t∧bb (Rp h' T) (xs.take i) D Sd∧dK h' Sd∧∀j∈Sd,h.length < j) 0 xs.length (by simp only[SQ,SU,SL,reduceCtorEq,Nat.reduceAdd,Nat.reduceLeDiff,reduceIte];rfl)
  ⟨by omega,by omega,[],[],[],by simp,by simp[bb],⟨by simp,by simp⟩,by simp⟩ ?_
 rintro i g h' ⟨hg,hi,D,Sd,t,rfl,hD,hO,hlo⟩
 simp(disch:=omega) only[El,hl,au,SQ,SU,SL,reduceCtorEq,Nat.reduceAdd,Nat.reduceLeDiff,reduceIte]
 have hDl:D.length=i * T.size:=by
  have:=hD.len Rp.Hl
  rw[List.length_take,Nat.min_eq_left hi]at this
  exact this
 refine ao (fun hlt=> ?_) (fun hlt=> ?_)
 ·have hix:i < xs.length:=by omega
  obtain⟨Si,hx⟩:=hel.at hix
  have hcells:=yr (hce (by omega)).1
  have hb2:off+i * T.size+T.size≤bs.length:=by
   have:=Nat.mul_le_mul_right T.size hix
   rw[Nat.succ_mul]at this
   omega
  simp(disch:=omega) only[El,hl,hat i hix,hcells,aB,au,SQ,SU,SL,reduceCtorEq,Nat.reduceAdd,Nat.reduceLeDiff,reduceIte]
  have hwt:=E1 (List.getElem?_eq_getElem hix)
  have hwl:=C6 xs (i+1)
  refine aI (hE (hx.app (t:= .own ty (D++(List.replicate (xs.length - i) z).flatten)::t)) (by omega)) ?_
  rintro r h'' ⟨t',cs',S2,rfl,rfl,hr,hO2,hlo2⟩
  have hcl:=hr.size
  have hfit:i * T.size+T.size≤(D++(List.replicate (xs.length - i) z).flatten).length:=by
   have e1:xs.length - i=(xs.length - (i+1))+1:=by omega
   rw[List.length_append,Hj hz,hDl,e1,Nat.add_mul,Nat.one_mul]
   omega
  have hset:=HZ hDl hz hcl hix
  simp(disch:=omega) only[ae,Kn,Int.toNat_natCast,List.append_assoc,List.cons_append,gL,D7,hcl,hset,hfit,aB,au,SQ,SU,SL,reduceCtorEq,Nat.reduceAdd,Nat.reduceLeDiff,reduceIte]
  have hd1:∀j∈Sd,j≠h.length:=fun j hj=>by have:=hlo j hj;omega
  have hd2:∀j∈S2,j≠h.length:=fun j hj=>by have:=hlo2 j hj;simp at this;omega
  have hdl:∀j∈Sd,j < (h++uq.own ty (D++(List.replicate (xs.length - i) z).flatten)::t).length:=hD.lt
  refine⟨i+1,xs.length - (i+1),by omega,rfl,rfl,by omega,D++cs',Sd++S2,t++t',by rw[List.append_assoc],?_,⟨?_,?_⟩,?_⟩
  ·have e1:xs.take (i+1)=xs.take i++ [xs[i]]:=by rw[List.take_add_one,List.getElem?_eq_getElem hix];rfl
   rw[e1]
   refine(hD.imp fun c x S' hs hx=> ?_).join (bb.one ?_)
   ·have:=hx.app (t:=t')
    rw[List.append_assoc,List.cons_append]at this
    exact this.Qp fun j hj=>hd1 j (hs j hj)
   ·rw[List.append_assoc,List.cons_append]at hr
    exact hr.Qp hd2
  ·rw[List.nodup_append]
   refine⟨hO.1,hO2.1,fun a ha b hb e=> ?_⟩
   have h1:=hdl a ha
   have h2:=hlo2 b hb
   omega
  ·intro j hj
   rcases List.mem_append.1 hj with hj|hj
   ·have:=(hO.app (t:=t'))
    rw[List.append_assoc,List.cons_append]at this
    exact(this.Qp (b':= .own ty (D++(cs'++(List.replicate (xs.length - (i+1)) z).flatten))) hd1).2 j hj
   ·have:=hO2
    rw[List.append_assoc,List.cons_append]at this
    exact(this.Qp (b':= .own ty (D++(cs'++(List.replicate (xs.length - (i+1)) z).flatten))) hd2).2 j hj
  ·intro j hj
   rcases List.mem_append.1 hj with hj|hj
   ·exact hlo j hj
   ·have:=hlo2 j hj
    simp at this
    omega
 ·simp(disch:=omega) only[El,SQ,SU,SL,reduceCtorEq,Nat.reduceAdd,Nat.reduceLeDiff,reduceIte]
  have hi':i=xs.length:=by omega
  subst hi'
  refine⟨_,[.sl h.length 0 xs.length T.size],h.length::Sd,rfl,rfl,?_,⟨List.nodup_cons.2 ⟨fun hm=>absurd (hlo _ hm) (by omega),hO.1⟩,fun j hj=> ?_⟩,fun j hj=> ?_⟩
  ·refine⟨xs,rfl,by simp only[maxLen];omega, .inr ⟨h.length,0,_,Sd,_,rfl,bR (gL h _ t),?_,rfl,?_, .inl rfl⟩⟩
   ·simp[hDl]
   ·have e1:(List.drop 0 (D++(List.replicate (xs.length - xs.length) z).flatten)).take (xs.length * T.size)=D:=by
     simp[←hDl]
    rw[e1]
    rw[List.take_length]at hD
    exact hD
  ·rcases List.mem_cons.1 hj with rfl|hj
   ·exact⟨_,_,gL h _ t⟩
   ·exact hO.2 j hj
  ·rcases List.mem_cons.1 hj with rfl|hj
   ·exact Nat.le_refl _
   ·exact Nat.le_of_lt (hlo j hj)
theorem bb.turn {h:H} {T:Ty}:∀ {xs:List Tv} {cs:List C} {S:List Nat},bb (Rp h T) xs cs S→S.Nodup→∀ {i:Nat} {x:Tv},xs[i]? =some x→
 ∃Si,Rp h T ((cs.drop (i * T.size)).take T.size) x Si∧(∀j∈Si,j∈S)∧Si.Nodup∧
  ∀(h':H) (x':Tv) (c':List C),(∀j∈S,j∉Si→h'.cells j=h.cells j)→Rp h' T c' x' Si→bb (Rp h' T) (xs.set i x') (aR cs (i * T.size) c') S:=by
 intro xs cs S hr hn i x hx
 obtain⟨S1,Si,S2,k1,k2,k3,k4⟩:=hr.split Rp.Hl hx
 rw[k1,List.nodup_append]at hn
 obtain⟨n1,n2,n3⟩:=hn
 rw[List.nodup_append]at n2
 obtain⟨n4,n5,n6⟩:=n2
 have hlt:=(List.getElem?_eq_some_iff.1 hx).1
 have hlen:=hr.len Rp.Hl
 refine⟨Si,k3,fun j hj=>by rw[k1];simp[hj],n4,fun h' x' c' hf hx'=> ?_⟩
 have hcl:=hx'.size
 have hle:(i+1) * T.size≤xs.length * T.size:=Nat.mul_le_mul_right _ hlt
 have e1:(i+1) * T.size=i * T.size+T.size:=by rw[Nat.add_mul,Nat.one_mul]
 rw[df _ _ _ (by omega),List.set_eq_take_append_cons_drop,if_pos hlt,k1,hcl,←e1]
 have a1:bb (Rp h' T) (xs.take i) (cs.take (i * T.size)) S1:=k2.imp fun c y S' hs hy=>hy.frame fun j hj=>hf j (by rw[k1];simp[hs j hj]) (fun hm=>n3 j (hs j hj) j (by simp[hm]) rfl)
 have a2:bb (Rp h' T) (xs.drop (i+1)) (cs.drop ((i+1) * T.size)) S2:=k4.imp fun c y S' hs hy=>hy.frame fun j hj=>hf j (by rw[k1];simp[hs j hj]) (fun hm=>n6 j hm j (hs j hj) rfl)
 rw[List.append_assoc]
 refine a1.join ?_
 exact(bb.one hx').join a2
theorem Iw {α:Type} {cs:List α} {o n:Nat} (h:o+n≤cs.length):aR cs o ((cs.drop o).take n)=cs:=by
 have hl:((cs.drop o).take n).length=n:=by simp;omega
 rw[df _ _ _ (by omega),hl,List.append_assoc]
 have:(cs.drop o).take n++cs.drop (o+n)=cs.drop o:=by rw[←List.drop_drop,List.take_append_drop]
 rw[this,List.take_append_drop]
theorem GO (f:Tv→Nat→Tv) (g:Tv→Nat):∀(xs ys:List Tv) (n:Nat),ym f g (xs++ys) n=ym f g xs n++ym f g ys (n+(xs.map g).sum)
 | [],ys,n=>by simp[ym]
 |x::xs,ys,n=>by
  simp only[List.cons_append,ym,GO f g xs,List.map_cons,List.sum_cons]
  congr 3
  omega
theorem eP (f:Tv→Nat→Tv) (g:Tv→Nat):∀(xs:List Tv) (n:Nat),(ym f g xs n).length=xs.length
 | [],n=>rfl
 |x::xs,n=>by simp[ym,eP f g xs]
theorem Fq {g:Tv→Nat} {xs:List Tv} {i:Nat} {x:Tv} (h:xs[i]? =some x):((xs.take (i+1)).map g).sum=((xs.take i).map g).sum+g x:=by
 rw[List.take_add_one,h]
 simp
theorem K4 {g:Tv→Nat} (xs:List Tv) (i:Nat):((xs.take i).map g).sum≤(xs.map g).sum:=by
 have:=List.take_append_drop i xs
 have e:(xs.map g).sum=((xs.take i).map g).sum+((xs.drop i).map g).sum:=by
  rw[←List.sum_append,←List.map_append,this]
 omega
def J0 (T:Ty) (xs:List Tv) (n i:Nat):List Tv:=ym (Al T) (fX T) (xs.take i) n++xs.drop i
theorem Hn {T:Ty} {xs:List Tv} {n i:Nat} (hi:i < xs.length):(J0 T xs n i)[i]? =some xs[i]:=by
 unfold J0
 have hl:(ym (Al T) (fX T) (xs.take i) n).length=i:=by rw[eP,List.length_take];omega
 rw[List.getElem?_append_right (by omega),hl,Nat.sub_self,List.getElem?_drop,Nat.add_zero,List.getElem?_eq_getElem hi]
theorem Fz {T:Ty} {xs:List Tv} {n i:Nat} (hi:i < xs.length):(J0 T xs n i).set i (Al T xs[i] (n+((xs.take i).map (fX T)).sum))=J0 T xs n (i+1):=by
 unfold J0
 have hl:(ym (Al T) (fX T) (xs.take i) n).length=i:=by rw[eP,List.length_take];omega
 have e1:xs.take (i+1)=xs.take i++ [xs[i]]:=by rw[List.take_add_one,List.getElem?_eq_getElem hi];rfl
 rw[List.set_append_right _ _ (by omega),hl,Nat.sub_self,List.drop_eq_getElem_cons hi,List.set_cons_zero,e1,GO]
 simp[ym]
theorem GQ {T:Ty} {xs:List Tv} {n:Nat}:J0 T xs n xs.length=ym (Al T) (fX T) xs n:=by simp[J0]
theorem Fm {T:Ty} {xs:List Tv} {n:Nat}:J0 T xs n 0=xs:=by simp[J0,ym]
theorem dL.refl {h:H} {S:List Nat} (ho:∀i∈S,∃ty cs,h[i]? =some (.own ty cs)):dL h h S:=⟨rfl,fun _ _=>rfl,ho⟩
theorem dL.more {h h1 h2:H} {S S':List Nat} (h0:dL h h1 S) (h':dL h1 h2 S') (hs:∀i∈S',i∈S):dL h h2 S:=by
 refine⟨h'.1.trans h0.1,fun i hi=>(h'.2.1 i (fun hm=>hi (hs i hm))).trans (h0.2.1 i hi),fun i hi=> ?_⟩
 by_cases hm:i∈S'
 ·exact h'.2.2 i hm
 ·rw[h'.2.1 i hm];exact h0.2.2 i hi
theorem dL.Mw {h h':H} {S S':List Nat} (hw:dL h h' S) (ho:dK h S'):dK h' S':=⟨ho.1,fun i hi=>by
 by_cases hm:i∈S
 ·exact hw.2.2 i hm
 ·rw[hw.2.1 i hm];exact ho.2 i hi⟩
theorem Rp.wrote {h h':H} {S S':List Nat} {T:Ty} {cs:List C} {v:Tv} (hr:Rp h T cs v S') (hw:dL h h' S) (hd:∀i∈S',i∉S):Rp h' T cs v S':=hr.frame fun i hi=>bG (hw.2.1 i (hd i hi))
theorem Gy {t:Ty} {v:Tv} {n:Nat}:IV (.sl t) v n=Al (.sl t) v n:=by cases v <;>rfl
theorem yX {t:Ty} {v:Tv}:uN (.sl t) v=fX (.sl t) v:=by cases v <;>rfl
theorem P9 {cd:Nat→Option AF} {g0 gE:Nat} {t:Ty} (hcd:cd g0=some (EB gE)) (hE:rQ cd gE (.sl t)):rQ cd g0 (.sl (.sl t)):=by
 intro h cs v S k hv ho hk
 obtain⟨c,xs,id,off,bs,S',rfl,rfl,hm,hl,hat,hce,hbs,hel,hS⟩:=hv.view
 have hcn:uN (.sl (.sl t)) (.l xs)=(xs.map (fX (.sl t))).sum:=rfl
 have hmk:IV (.sl (.sl t)) (.l xs) k= .l (ym (Al (.sl t)) (fX (.sl t)) xs k):=rfl
 rw[hcn]at hk⊢
 rw[hmk]
 have hsub:∀j∈S',j∈S:=fun j hj=>by
  rcases hS with e|⟨_,_,e⟩
  ·rw[e];simp[hj]
  ·rw[e]at hj;cases hj
 have hnd:S'.Nodup:=by
  rcases hS with e|⟨_,_,e⟩
  ·have:=ho.1
   rw[e]at this
   exact(List.nodup_cons.1 this).2
  ·rw[e];simp
 have hid:0 < xs.length→id∉S'∧id∈S:=fun hp=>by
  rcases hS with e|⟨e,_,_⟩
  ·have:=ho.1
   rw[e]at this
   exact⟨(List.nodup_cons.1 this).1,by rw[e];simp⟩
  ·rw[e]at hp;simp at hp
 have hs1:(Ty.sl t).size=1:=rfl
 refine aD hcd rfl ?_
 simp(disch:=omega) only[EB,SQ,SU,SL,reduceCtorEq,Nat.reduceAdd,Nat.reduceLeDiff,reduceIte]
 refine fR (σ:=Nat) (f1:=_) (by simp only[SQ,SU,SL,reduceCtorEq,Nat.reduceAdd,Nat.reduceLeDiff,reduceIte];rfl) (fun i=> [(5, .val false [.int .i64 i]),(1, .val false [.int .i64 ((k+((xs.take i).map (fX (.sl t))).sum:Nat):Int)])])
  (fun i g h'=>g=xs.length - i∧i≤xs.length∧dL h h' S∧(∀j,j∉S'→h'[j]? =h[j]?)∧bb (Rp h' (.sl t)) (J0 (.sl t) xs k i) ((bs.drop off).take (xs.length * (Ty.sl t).size)) S') 0 xs.length (by simp only[SQ,SU,SL,List.map_nil,List.sum_nil,reduceCtorEq,Nat.reduceAdd,Nat.reduceLeDiff,reduceIte];rfl)
  ⟨by omega,by omega,dL.refl ho.2,fun _ _=>rfl,by rw[Fm];exact hel⟩ ?_
 rintro i g h' ⟨hg,hi,hw,hsame,he⟩
 simp(disch:=omega) only[EB,hl,au,SQ,SU,SL,reduceCtorEq,Nat.reduceAdd,Nat.reduceLeDiff,reduceIte]
 refine ao (fun hlt=> ?_) (fun hlt=> ?_)
 ·have hix:i < xs.length:=by omega
  have hsi:=Fq (g:=fX (.sl t)) (List.getElem?_eq_getElem hix)
  have hsl:=K4 (g:=fX (.sl t)) xs (i+1)
  obtain⟨Si,k1,k2,k3,k4⟩:=he.turn hnd (Hn hix)
  rw[jg hix]at k1
  have hcell:h'.cells id=some bs:=by
   rw[bG (hsame id (hid (by omega)).1)]
   exact(hce (by omega)).1
  rw[hs1,Nat.mul_one]at k1
  have hat':=hat i hix
  rw[hs1,Nat.mul_one]at hat'
  have hbs':off+xs.length≤bs.length:=by rw[hs1,Nat.mul_one]at hbs;exact hbs
  simp(disch:=omega) only[EB,hl,hat',hcell,aB,au,SQ,SU,SL,reduceCtorEq,Nat.reduceAdd,Nat.reduceLeDiff,reduceIte]
  refine aI (hE k1 ⟨k3,fun j hj=>(hw.Mw ho).2 j (hsub j (k2 j hj))⟩ (by rw[yX];omega)) ?_
  rintro r h'' ⟨rfl,hw2,hr2⟩
  simp(disch:=omega) only[ae,au,yX,SQ,SU,SL,reduceCtorEq,Nat.reduceAdd,Nat.reduceLeDiff,reduceIte]
  refine⟨i+1,xs.length - (i+1),by omega,?_,rfl,by omega,hw.more hw2 (fun j hj=>hsub j (k2 j hj)),fun j hj=> ?_,?_⟩
  ·have e1:k+((xs.take (i+1)).map (fX (.sl t))).sum=k+((xs.take i).map (fX (.sl t))).sum+fX (.sl t) xs[i]:=by omega
   rw[e1]
   rfl
  ·rw[hw2.2.1 j (fun hm=>hj (k2 j hm))]
   exact hsame j hj
  ·rw[Gy]at hr2
   have k5:=k4 h'' _ _ (fun j hj hn=>bG (hw2.2.1 j hn)) hr2
   rw[Fz hix]at k5
   have e2:aR ((bs.drop off).take (xs.length * (Ty.sl t).size)) (i * (Ty.sl t).size) ((bs.drop (off+i)).take 1)=(bs.drop off).take (xs.length * (Ty.sl t).size):=by
    have e3:(bs.drop (off+i)).take 1=(((bs.drop off).take (xs.length * (Ty.sl t).size)).drop (i * (Ty.sl t).size)).take (Ty.sl t).size:=by
     rw[jg hix,hs1,Nat.mul_one]
    rw[e3]
    refine Iw ?_
    rw[hs1]
    simp
    omega
   rw[e2]at k5
   simpa only[hs1,Nat.mul_one]using k5
 ·simp(disch:=omega) only[EB,SQ,SU,SL,reduceCtorEq,Nat.reduceAdd,Nat.reduceLeDiff,reduceIte]
  have hi':i=xs.length:=by omega
  subst hi'
  rw[GQ]at he
  rw[List.take_length]
  refine⟨rfl,hw,?_⟩
  by_cases hp:0 < xs.length
  ·refine⟨_,rfl,?_, .inr ⟨id,off,bs,S',(Ty.sl t).size,?_,?_,?_,?_,?_, .inl rfl⟩⟩
   ·rw[eP];simp only[maxLen];omega
   ·rw[eP];rw[(hce hp).2]
   ·rw[bG (hsame id (hid hp).1)];exact(hce hp).1
   ·rw[eP];exact hbs
   ·rcases hS with e|⟨e,_⟩
    ·exact e
    ·rw[e]at hp;simp at hp
   ·rw[eP];exact he
  ·have hx:xs= []:=List.eq_nil_of_length_eq_zero (by omega)
   subst hx
   refine⟨[],rfl,by simp,?_⟩
   obtain⟨zs,e1,_,e2⟩:=hv.sl
   simp at e1
   subst e1
   rcases e2 with e2|⟨id2,off2,bs2,S2,e3,f1,f2,f3,f4,f5,f6⟩
   ·exact .inl e2
   ·have hS2:S2= []:=by simp[bb]at f5;exact f5
    refine .inr ⟨id2,off2,bs2,S2,e3,f1,?_,f3,f4,by simp[bb];exact hS2, .inr rfl⟩
    have hid2:id2∉S':=fun hm=>by
     rcases hS with e|⟨_,e,_⟩
     ·rw[f4,hS2]at e
      have:S'= []:=((List.cons.inj e).2).symm
      rw[this]at hm;cases hm
     ·rw[f4]at e;cases e
    rw[bG (hsame id2 hid2)]
    exact f2
theorem da.go {cd:Nat→Option AF} {g:Nat} {T:Ty} (hE:da cd g T) {h:H} {cs:List C} {v:Tv} {S:List Nat} (hv:Rp h T cs v S) {k:Nat} (hk:k≤1048576) {K:V→H→Prop}
 (h1:wt v≤k→K (.val false [.int .i64 ((k - wt v:Nat):Int)]) h) (h2:¬wt v≤k→K (.val false [.int .i64 (-1)]) h):WC cd g [(T.agg,cs),(false,[.int .i64 k])] h K:=by
 refine aI (hE hv hk) ?_
 rintro r h' ⟨rfl,rfl⟩
 by_cases hf:wt v≤k
 ·rw[if_pos hf]
  have:(k:Int) - wt v=((k - wt v:Nat):Int):=by omega
  rw[this]
  exact h1 hf
 ·rw[if_neg hf];exact h2 hf
theorem cV.go {cd:Nat→Option AF} {g:Nat} {T:Ty} (hE:cV cd g T) {h:H} {ca cb:List C} {va vb:Tv} {Sa Sb:List Nat} (ha:Rp h T ca va Sa) (hb:Rp h T cb vb Sb) {K:V→H→Prop}
 (h1:va=vb→K (.val false [.bool true]) h) (h2:¬va=vb→K (.val false [.bool false]) h):WC cd g [(T.agg,ca),(T.agg,cb)] h K:=by
 refine aI (hE ha hb) ?_
 rintro r h' ⟨rfl,rfl⟩
 by_cases hf:va=vb
 ·simp only[hf,decide_true];exact h1 hf
 ·simp only[hf,decide_false];exact h2 hf
theorem Rs.nil {h:H}:Rs h [] [] [] []:=⟨rfl,rfl,rfl⟩
theorem Rs.mk {h:H} {t:Ty} {ts:List Ty} {c1 c2:List C} {v:Tv} {vr:List Tv} {S1 S2:List Nat} (h1:Rp h t c1 v S1) (h2:Rs h ts c2 vr S2):Rs h (t::ts) (c1++c2) (v::vr) (S1++S2):=⟨c1,c2,v,vr,S1,S2,rfl,rfl,rfl,h1,h2⟩
theorem Rp.mkInt {h:H} {k:IntKind} {n:Int} (h1:k.min≤n) (h2:n≤k.max):Rp h (.int k) [.int k n] (.i n) []:=⟨n,rfl,rfl,rfl,h1,h2⟩
def kg (h0 h1:H) (S:List Nat):Prop:=dK h1 S∧h0.length≤h1.length∧∀i∈S,h0.length≤i∧i < h1.length
theorem kg.nil (h:H):kg h h []:=⟨⟨by simp,by simp⟩,Nat.le_refl _,by simp⟩
theorem kg.step {h0 h1 t:H} {S1 S2:List Nat} (h:kg h0 h1 S1) (hl:∀i∈S2,i < (h1++t).length) (ho:dK (h1++t) S2) (hg:∀i∈S2,h1.length≤i):kg h0 (h1++t) (S1++S2):=by
 refine⟨⟨List.nodup_append.2 ⟨h.1.1,ho.1,fun a ha b hb e=> ?_⟩,fun i hi=> ?_⟩,by have:=h.2.1;simp;omega,fun i hi=> ?_⟩
 ·have h1:=(h.2.2 a ha).2
  have h2:=hg b hb
  omega
 ·rcases List.mem_append.1 hi with hi|hi
  ·exact(h.1.app (t:=t)).2 i hi
  ·exact ho.2 i hi
 ·rcases List.mem_append.1 hi with hi|hi
  ·have:=h.2.2 i hi
   simp
   omega
  ·have:=h.2.1
   have:=hg i hi
   exact⟨by omega,hl i hi⟩
theorem kg.both {h0 h1:H} {S:List Nat} (h:kg h0 h1 S):dK h1 S∧∀i∈S,h0.length≤i:=⟨h.1,fun i hi=>(h.2.2 i hi).1⟩
theorem rQ.go {cd:Nat→Option AF} {g:Nat} {T:Ty} (hE:rQ cd g T) {h:H} {cs:List C} {v:Tv} {S:List Nat} {k:Nat} (hv:Rp h T cs v S) (ho:dK h S) (hk:k+uN T v≤1152921504606846976) {K:V→H→Prop}
 (h1:∀h',dL h h' S→Rp h' T cs (IV T v k) S→K (.val false [.int .i64 ((k+uN T v:Nat):Int)]) h'):WC cd g [(T.agg,cs),(false,[.int .i64 k])] h K:=by
 refine aI (hE hv ho hk) ?_
 rintro r h' ⟨rfl,a,b⟩
 exact h1 h' a b
theorem Ea.go {cd:Nat→Option AF} {g:Nat} {T:Ty} (hE:Ea cd g T) {h:H} {cs:List C} {v:Tv} {S:List Nat} {k:Nat} (hT:QF T v) (hv:Rp h T cs (IV T v k) S) (hk:k+uN T v≤1152921504606846976) {K:V→H→Prop}
 (h1:K (.val false [.int .i64 ((k+uN T v:Nat):Int)]) h):WC cd g [(T.agg,cs),(false,[.int .i64 k])] h K:=by
 refine aI (hE hT hv hk) ?_
 rintro r h' ⟨rfl,rfl⟩
 exact h1
theorem dK.split {h:H} {A B:List Nat} (ho:dK h (A++B)):dK h A∧dK h B∧(∀i∈A,i∉B)∧∀i∈B,i∉A:=by
 obtain⟨h1,h2⟩:=ho
 rw[List.nodup_append]at h1
 exact⟨⟨h1.1,fun i hi=>h2 i (by simp[hi])⟩,⟨h1.2.1,fun i hi=>h2 i (by simp[hi])⟩,fun i hi hn=>h1.2.2 i hi i hn rfl,fun i hi hn=>h1.2.2 i hn i hi rfl⟩
theorem Rs.fin {h:H} {cs:List C} {o:Nat} (e:cs.length≤o):Rs h [] (cs.drop o) [] []:=⟨List.drop_eq_nil_of_le e,rfl,rfl⟩
theorem Rp.set {h:H} {id:Nat} {b:uq} {T:Ty} {cs:List C} {v:Tv} {S:List Nat} (hr:Rp h T cs v S) (hn:id∉S):Rp (h.set id b) T cs v S:=hr.frame fun i hi=>bG (bI (fun e=>hn (e▸hi)))
theorem dK.set {h:H} {id ty:Nat} {cs:List C} {S:List Nat} (ho:dK h S) (hl:id < h.length):dK (h.set id (.own ty cs)) S:=⟨ho.1,fun i hi=>by
 by_cases e:i=id
 ·subst e;exact⟨ty,cs,fJ hl⟩
 ·rw[bI e];exact ho.2 i hi⟩
theorem dL.set {h h':H} {id ty:Nat} {cs:List C} {S:List Nat} (hw:dL h h' S) (hi:id∈S) (hl:id < h'.length):dL h (h'.set id (.own ty cs)) S:=by
 refine⟨by rw[List.length_set];exact hw.1,fun i hn=> ?_,fun i hm=> ?_⟩
 ·rw[bI (fun e=>hn (by rw[e];exact hi))];exact hw.2.1 i hn
 ·by_cases e:i=id
  ·subst e;exact⟨ty,cs,fJ hl⟩
  ·rw[bI e];exact hw.2.2 i hm
theorem Rp.bB {h h' t:H} {T:Ty} {cs:List C} {v:Tv} {S:List Nat} (e:h'=h++t) (hr:Rp h T cs v S):Rp h' T cs v S:=by subst e;exact hr.app
theorem dK.bB {h h' t:H} {S:List Nat} (e:h'=h++t) (ho:dK h S):dK h' S:=by subst e;exact ho.app
theorem el {h h' t:H} (e:h'=h++t):h.length≤h'.length:=by subst e;simp
mutual
def lv:Ty→Nat
 | .st ts=>N8 ts
 | .sl t=>lv t
 |_=>1
def N8:List Ty→Nat
 | []=>0
 |t::ts=>lv t+N8 ts
end
mutual
theorem Dv:∀(T:Ty) (v:Tv),fX T v≤lv T * (1+wt v)
 | .int k,v=>by
   have:fX (.int k) v=1:=rfl
   rw[this]
   show 1≤1 * (1+wt v)
   omega
 | .bool,v=>Nat.zero_le _
 | .str,v=>Nat.zero_le _
 | .sl t, .l xs=>by
   show(xs.map (fX t)).sum≤lv t * (1+(xs.length+dq xs))
   have key:∀ys:List Tv,(ys.map (fX t)).sum≤lv t * (ys.length+dq ys):=by
    intro ys
    induction ys with
    |nil=>simp
    |cons y ys ih=>
     have h1:=Dv t y
     simp only[List.map_cons,List.sum_cons,List.length_cons,dq]
     have e:lv t * (ys.length+1+(wt y+dq ys))=lv t * (1+wt y)+lv t * (ys.length+dq ys):=by rw[←Nat.mul_add];congr 1;omega
     omega
   exact Nat.le_trans (key xs) (Nat.mul_le_mul_left _ (by omega))
 | .st ts, .r vs=>by
   show J9 ts vs≤N8 ts * (1+dq vs)
   exact KB ts vs
 | .sl t, .i _=>Nat.zero_le _
 | .sl t, .b _=>Nat.zero_le _
 | .sl t, .s _=>Nat.zero_le _
 | .sl t, .r _=>Nat.zero_le _
 | .st t, .i _=>Nat.zero_le _
 | .st t, .b _=>Nat.zero_le _
 | .st t, .s _=>Nat.zero_le _
 | .st t, .l _=>Nat.zero_le _
theorem KB:∀(ts:List Ty) (vs:List Tv),J9 ts vs≤N8 ts * (1+dq vs)
 | [],vs=>by cases vs <;>exact Nat.zero_le _
 |t::ts,[]=>Nat.zero_le _
 |t::ts,v::vs=>by
  have h1:=Dv t v
  have h2:=KB ts vs
  show fX t v+J9 ts vs≤(lv t+N8 ts) * (1+(wt v+dq vs))
  rw[Nat.add_mul]
  have h3:lv t * (1+wt v)≤lv t * (1+(wt v+dq vs)):=Nat.mul_le_mul_left _ (by omega)
  have h4:N8 ts * (1+dq vs)≤N8 ts * (1+(wt v+dq vs)):=Nat.mul_le_mul_left _ (by omega)
  omega
end
mutual
theorem GH:∀(T:Ty) (v:Tv),uN T v≤fX T v
 | .int k,v=>Nat.zero_le _
 | .bool,v=>Nat.zero_le _
 | .str,v=>Nat.zero_le _
 | .sl t,v=>by rw[yX];exact Nat.le_refl _
 | .st ts, .r vs=>GN ts vs
 | .st t, .i _=>Nat.zero_le _
 | .st t, .b _=>Nat.zero_le _
 | .st t, .s _=>Nat.zero_le _
 | .st t, .l _=>Nat.zero_le _
theorem GN:∀(ts:List Ty) (vs:List Tv),Ov ts vs≤J9 ts vs
 | [],vs=>by cases vs <;>exact Nat.zero_le _
 |t::ts,[]=>Nat.zero_le _
 |t::ts,v::vs=>Nat.add_le_add (GH t v) (GN ts vs)
end
end Go.Eng
namespace Go.Eng
structure LD where
 path:List Nat
 fn:Option Nat
mutual
def Ns (fn:Ty→Nat):Ty→List Nat→List LD
 | .st ts,p=>uR fn ts 0 p
 | .int _,p=> [⟨p,none⟩]
 | .bool,p=> [⟨p,some (fn .bool)⟩]
 | .str,p=> [⟨p,some (fn .str)⟩]
 | .sl t,p=> [⟨p,some (fn (.sl t))⟩]
def uR (fn:Ty→Nat):List Ty→Nat→List Nat→List LD
 | [],_,_=> []
 |t::ts,o,p=>Ns fn t (p++ [o])++uR fn ts (o+t.size) p
end
def G0:Nat→List Nat→List IT
 |_,[]=> []
 |x,o::r=> .i (.fad (x+1) (.s x) o)::G0 (x+1) r
def Nk (d s:Nat):AC:= .ops [.i (.mov d (.s s)), .i (.bin (d+1) .add (.s d) (.c (.val false [.int .i64 1]))), .i (.mov s (.s (d+1)))]
def OM (sz d:Nat) (p:List Nat) (l:List IT):List IT:=
 .i (.mov d (.s 0)):: .i (.mov (d+1) (.s 5)):: .i (.iad (d+2) (.s d) (.s (d+1)) sz)::(G0 (d+2) p++ .i (.ldh (d+3+p.length) (.s (d+2+p.length)) 1 false):: .i (.mov (d+4+p.length) (.s 1))::l)
def I9:List AC→AC
 | []=> .skip
 | [a]=>a
 |a::b::r=> .seq a (I9 (b::r))
def Pz:Nat→Nat→List Nat
 |0,_=> []
 |n+1,lo=>(lo+n)::Pz n lo
def G9 (dep e:Nat) (body:List AC):AF:=⟨2,dep,[.tmp 4], .seq (.ops [.i (.mov 4 (.c (.val false [.int .i64 0])))]) (.seq (.seq (.ops [.i (.mov 5 (.c (.val false [.int .i64 0])))]) (.block 0 (.loop (Pz (e - 6) 6) (.seq (.seq (.ops [.i (.mov 6 (.s 5)), .i (.mov 7 (.s 0)), .i (.len 8 false (.s 7)), .i (.bin 9 .lss (.s 6) (.s 8))]) (.cond (.s 9) .skip (.exit 0))) (.seq (.block 1 (I9 body)) (Nk 10 5)))))) (.seq (.ops [.i (.mov e (.s 1)), .i (.mov 4 (.s e))]) .ret))⟩
section
variable {cd:Nat→Option AF} {f:Fr} {h:H} {R:List RV} {Q:V→H→Prop} {k:List KI} {l:List IT}
def Ag (d:Nat) (f f':Fr):Prop:=∀t,t < d→f'.get t=f.get t
theorem Ag.refl (d:Nat) (f:Fr):Ag d f f:=fun _ _=>rfl
theorem Ag.trans {d e:Nat} {f g i:Fr} (h1:Ag d f g) (h2:Ag e g i) (hde:d≤e):Ag d f i:=fun t ht=>(h2 t (by omega)).trans (h1 t ht)
theorem Ag.set (d:Nat) (f:Fr) (v:V):Ag d f (f.set d v):=fun t ht=>Fr.dR f v (by omega)
theorem mU {d s:Nat} {c:C} (hs:f.get s= .val false [c]) (hw:∀f',Ag d f f'→f'.get d= .val false [c]→WS cd (.c (.ops l)::k) f' h R Q):WS cd (.c (.ops (.i (.mov d (.s s))::l))::k) f h R Q:=by
 rw[dB _ rfl]
 simp only[ai,ev,hs]
 exact hw _ (Ag.set _ _ _) (Fr.bj _ _ _)
theorem Kc {d:Nat} {c:C} (hw:∀f',Ag d f f'→f'.get d= .val false [c]→WS cd (.c (.ops l)::k) f' h R Q):WS cd (.c (.ops (.i (.mov d (.c (.val false [c])))::l))::k) f h R Q:=by
 rw[dB _ rfl]
 simp only[ai,ev]
 exact hw _ (Ag.set _ _ _) (Fr.bj _ _ _)
theorem Dz {d s:Nat} {c:C} (hs:f.get s= .val false [c]) (hw:∀f',(∀t,t≠d→f'.get t=f.get t)→f'.get d= .val false [c]→WS cd (.c (.ops l)::k) f' h R Q):WS cd (.c (.ops (.i (.mov d (.s s))::l))::k) f h R Q:=by
 rw[dB _ rfl]
 simp only[ai,ev,hs]
 exact hw _ (fun t ht=>Fr.dR f _ ht) (Fr.bj _ _ _)
theorem Qn {d x y:Nat} {op:B2} {a b c:C} (hx:f.get x= .val false [a]) (hy:f.get y= .val false [b]) (hb:bk op a b=some c) (hw:∀f',Ag d f f'→f'.get d= .val false [c]→WS cd (.c (.ops l)::k) f' h R Q):WS cd (.c (.ops (.i (.bin d op (.s x) (.s y))::l))::k) f h R Q:=by
 rw[dB _ rfl]
 simp only[ai,dc,ev,hx,hy,hb]
 exact hw _ (Ag.set _ _ _) (Fr.bj _ _ _)
theorem Kp {d x:Nat} {op:B2} {a b c:C} (hx:f.get x= .val false [a]) (hb:bk op a b=some c) (hw:∀f',Ag d f f'→f'.get d= .val false [c]→WS cd (.c (.ops l)::k) f' h R Q):WS cd (.c (.ops (.i (.bin d op (.s x) (.c (.val false [b])))::l))::k) f h R Q:=by
 rw[dB _ rfl]
 simp only[ai,dc,ev,hx,hb]
 exact hw _ (Ag.set _ _ _) (Fr.bj _ _ _)
theorem NV {d x y e id o:Nat} {c:C} {ki:IntKind} {j:Int} (hx:f.get x= .val false [c]) (hy:f.get y= .val false [.int ki j]) (ha:Ge c e j=some (id,o)) (hw:∀f',Ag d f f'→f'.get d= .val false [.ptr id o]→WS cd (.c (.ops l)::k) f' h R Q):WS cd (.c (.ops (.i (.iad d (.s x) (.s y) e)::l))::k) f h R Q:=by
 rw[dB _ rfl]
 simp only[ai,dc,ev,hx,hy,ha]
 exact hw _ (Ag.set _ _ _) (Fr.bj _ _ _)
theorem Qi {d x o id p:Nat} (hx:f.get x= .val false [.ptr id p]) (hw:∀f',Ag d f f'→f'.get d= .val false [.ptr id (p+o)]→WS cd (.c (.ops l)::k) f' h R Q):WS cd (.c (.ops (.i (.fad d (.s x) o)::l))::k) f h R Q:=by
 rw[dB _ rfl]
 simp only[ai,ev,hx]
 exact hw _ (Ag.set _ _ _) (Fr.bj _ _ _)
theorem GF:∀(q:List Nat) {x id p:Nat} {f:Fr},f.get x= .val false [.ptr id p]→(∀f',Ag (x+1) f f'→f'.get (x+q.length)= .val false [.ptr id (p+q.sum)]→WS cd (.c (.ops l)::k) f' h R Q)→WS cd (.c (.ops (G0 x q++l))::k) f h R Q
 | [],x,id,p,f,hx,hw=>hw f (Ag.refl _ _) hx
 |o::q,x,id,p,f,hx,hw=>by
  refine Qi hx fun f1 a1 v1=> ?_
  refine GF q v1 fun f2 a2 v2=> ?_
  refine hw f2 (a1.trans a2 (by omega)) ?_
  have e1:x+(o::q).length=x+1+q.length:=by rw[List.length_cons];omega
  have e2:p+(o::q).sum=p+o+q.sum:=by rw[List.sum_cons];omega
  rw[e1,e2]
  exact v2
theorem PH {d x id o:Nat} {bs:List C} {c:C} (hx:f.get x= .val false [.ptr id o]) (hc:h.cells id=some bs) (hb:bs[o]? =some c) (hw:∀f',Ag d f f'→f'.get d= .val false [c]→WS cd (.c (.ops l)::k) f' h R Q):WS cd (.c (.ops (.i (.ldh d (.s x) 1 false)::l))::k) f h R Q:=by
 rw[dB _ rfl]
 obtain⟨hlt,he⟩:=List.getElem?_eq_some_iff.1 hb
 have e1:(bs.drop o).take 1= [c]:=by rw[List.drop_eq_getElem_cons hlt,he];rfl
 simp only[ai,dc,ev,hx,hc]
 rw[if_pos (by omega),e1]
 exact hw _ (Ag.set _ _ _) (Fr.bj _ _ _)
theorem Qw {d x n:Nat} {c:C} (hx:f.get x= .val false [c]) (hl:yc c=some n) (hw:∀f',Ag d f f'→f'.get d= .val false [.int .i64 (n:Int)]→WS cd (.c (.ops l)::k) f' h R Q):WS cd (.c (.ops (.i (.len d false (.s x))::l))::k) f h R Q:=by
 rw[dB _ rfl]
 have:ai (.len d false (.s x)) f h=some (f.set d (.val false [.int .i64 (n:Int)]),h):=by
  simp only[ai,dc,ev,hx]
  first|(rw[hl])|(simp only[hl])|skip
 rw[this]
 exact hw _ (Ag.set _ _ _) (Fr.bj _ _ _)
def tl (as:List AC) (K:List KI):List KI:=
 match as with
 | []=>K
 |a::r=> .c (I9 (a::r))::K
theorem KR (a:AC) (r:List AC):WS cd (tl (a::r) k) f h R Q=WS cd (.c a::tl r k) f h R Q:=by
 cases r with
 |nil=>rfl
 |cons b r=>exact iG _ _
structure Inv (f:Fr) (c:C) (i kk:Nat):Prop where
 g0:f.get 0= .val false [c]
 g5:f.get 5= .val false [.int .i64 (i:Int)]
 g1:f.get 1= .val false [.int .i64 (kk:Int)]
variable {f':Fr} {c:C} {i kk d sz:Nat}
theorem Inv.ag (I:Inv f c i kk) (a:Ag d f f') (hd:6≤d):Inv f' c i kk:=⟨(a 0 (by omega)).trans I.g0,(a 5 (by omega)).trans I.g5,(a 1 (by omega)).trans I.g1⟩
theorem Qa (hd:6≤d) (I:Inv f c i kk) (hk:kk+1≤1152921504606846976) (hw:∀f',Inv f' c i (kk+1)→WS cd k f' h R Q):WS cd (.c (Nk d 1)::k) f h R Q:=by
 refine mU I.g1 fun f1 a1 v1=> ?_
 have I1:=I.ag a1 hd
 refine Kp (c:= .int .i64 ((kk+1:Nat):Int)) v1 (by rw[EJ,au (by omega) (by omega)];rfl) fun f2 a2 v2=> ?_
 have I2:=I1.ag a2 (by omega)
 refine Dz v2 fun f3 a3 v3=> ?_
 rw[db]
 exact hw f3 ⟨(a3 0 (by omega)).trans I2.g0,(a3 5 (by omega)).trans I2.g5,v3⟩
theorem PN {id p:Nat} {q:List Nat} {bs:List C} {x:C} (hd:6≤d) (I:Inv f c i kk) (ha:Ge c sz (i:Int)=some (id,p)) (hc:h.cells id=some bs) (hb:bs[p+q.sum]? =some x)
 (hw:∀f',Inv f' c i kk→f'.get (d+3+q.length)= .val false [x]→f'.get (d+4+q.length)= .val false [.int .i64 (kk:Int)]→WS cd (.c (.ops l)::k) f' h R Q):WS cd (.c (.ops (OM sz d q l))::k) f h R Q:=by
 unfold OM
 refine mU I.g0 fun f1 a1 v1=> ?_
 have I1:=I.ag a1 hd
 refine mU I1.g5 fun f2 a2 v2=> ?_
 have I2:=I1.ag a2 (by omega)
 refine NV ((a2 d (by omega)).trans v1) v2 ha fun f3 a3 v3=> ?_
 have I3:=I2.ag a3 (by omega)
 refine GF q v3 fun f4 a4 v4=> ?_
 have I4:=I3.ag a4 (by omega)
 refine PH v4 hc hb fun f5 a5 v5=> ?_
 have I5:=I4.ag a5 (by omega)
 refine mU I5.g1 fun f6 a6 v6=> ?_
 exact hw f6 (I5.ag a6 (by omega)) ((a6 _ (by omega)).trans v5) v6
inductive FQ (cd:Nat→Option AF) (h:H) (bs:List C) (p:Nat):List LD→Nat→Nat→Prop
 |nil {n:Nat}:FQ cd h bs p [] n n
 |int {q:List Nat} {r:List LD} {n m:Nat}:bs[p+q.sum]? =some (.int .i64 (n:Int))→FQ cd h bs p r (n+1) m→FQ cd h bs p (⟨q,none⟩::r) n m
 |call {q:List Nat} {g:Nat} {r:List LD} {n m:Nat} {x:C} {T:Ty} {v:Tv} {S:List Nat}:bs[p+q.sum]? =some x→Ea cd g (.sl T)→QF (.sl T) v→Rp h (.sl T) [x] (IV (.sl T) v n) S→FQ cd h bs p r (n+uN (.sl T) v) m→FQ cd h bs p (⟨q,some g⟩::r) n m
theorem FQ.le {bs:List C} {p:Nat} {ls:List LD} {kk k':Nat} (hL:FQ cd h bs p ls kk k'):kk≤k':=by
 induction hL with
 |nil=>omega
 |int _ _ ih=>omega
 |call _ _ _ _ _ ih=>omega
end
mutual
def O6 (cd:Nat→Option AF) (fn:Ty→Nat):Ty→Prop
 | .st ts=>L9 cd fn ts
 | .int k=>k= .i64
 | .sl t=>Ea cd (fn (.sl t)) (.sl t)
 | .bool=>False
 | .str=>False
def L9 (cd:Nat→Option AF) (fn:Ty→Nat):List Ty→Prop
 | []=>True
 |t::ts=>O6 cd fn t∧L9 cd fn ts
end
theorem cell_of {bs:List C} {o:Nat} {x:C} (h:(bs.drop o).take 1= [x]):bs[o]? =some x:=by
 have:((bs.drop o).take 1)[0]? =some x:=by rw[h];rfl
 rw[List.getElem?_take,if_pos (by omega),List.getElem?_drop,Nat.add_zero]at this
 exact this
mutual
theorem FQ.of {cd:Nat→Option AF} {fn:Ty→Nat} {h:H} {bs:List C} {p:Nat}:∀(T:Ty) {v:Tv} {S:List Nat} {o:Nat} {q:List Nat} {n m:Nat} {r:List LD},O6 cd fn T→QF T v→Rp h T ((bs.drop (p+o)).take T.size) (Al T v n) S→q.sum=o→p+o+T.size≤bs.length→m≤1152921504606846976→FQ cd h bs p r (n+fX T v) m→FQ cd h bs p (Ns fn T q++r) n m
 | .int k,v,S,o,q,n,m,r,hg,hT,hr,hq,hl,hm,hL=>by
   simp only[O6]at hg
   subst hg hq
   obtain⟨n',e1,e2,_⟩:=hr.int
   have hle:=hL.le
   simp only[fX]at hL hle
   simp only[Al,Tv.i.injEq]at e2
   rw[au (by omega) (by omega)]at e2
   subst e2
   exact .int (cell_of e1) hL
 | .bool,_,_,_,_,_,_,_,hg,_,_,_,_,_,_=>by simp only[O6]at hg
 | .str,_,_,_,_,_,_,_,hg,_,_,_,_,_,_=>by simp only[O6]at hg
 | .sl t,v,S,o,q,n,m,r,hg,hT,hr,hq,hl,hm,hL=>by
   simp only[O6]at hg
   subst hq
   obtain⟨x,hx⟩:=hr.one rfl
   rw[hx,←Gy]at hr
   rw[←yX]at hL
   exact .call (cell_of hx) hg hT hr hL
 | .st ts,v,S,o,q,n,m,r,hg,hT,hr,hq,hl,hm,hL=>by
   simp only[O6]at hg
   obtain⟨h0,cs0,S0,hT⟩:=hT
   obtain⟨vs,rfl,hT2⟩:=hT.st
   simp only[Al]at hr
   obtain⟨vs',e,hr2⟩:=hr.st
   simp only[Tv.r.injEq]at e
   subst e hq
   simp only[fX]at hL
   rw[List.drop_zero]at hr2
   rw[Ns]
   exact FQ.Rx ts (o0:=0) hg ⟨_,_,_,hT2⟩ hr2 (by simpa[Ty.size]using hl) hm hL
theorem FQ.Rx {cd:Nat→Option AF} {fn:Ty→Nat} {h:H} {bs:List C} {p:Nat}:∀(ts:List Ty) {vs:List Tv} {S:List Nat} {o0:Nat} {q:List Nat} {n m:Nat} {r:List LD},L9 cd fn ts→(∃h0 cs0 S0,Rs h0 ts cs0 vs S0)→Rs h ts ((bs.drop (p+q.sum+o0)).take (Ty.aK ts)) (Pv ts vs n) S→p+q.sum+o0+Ty.aK ts≤bs.length→m≤1152921504606846976→FQ cd h bs p r (n+J9 ts vs) m→FQ cd h bs p (uR fn ts o0 q++r) n m
 | [],vs,S,o0,q,n,m,r,hg,hT,hr,hl,hm,hL=>by
   obtain⟨h0,cs0,S0,hT⟩:=hT
   obtain⟨rfl,rfl,rfl⟩:=hT
   exact hL
 |t::ts,vs,S,o0,q,n,m,r,hg,hT,hr,hl,hm,hL=>by
  simp only[L9]at hg
  obtain⟨h0,cs0,S0,hT⟩:=hT
  obtain⟨d1,d2,v,vr,S3,S4,rfl,rfl,rfl,hT1,hT2⟩:=hT
  simp only[Pv]at hr
  obtain⟨c1,c2,v',vr',S1,S2,e1,e2,rfl,hr1,hr2⟩:=hr
  simp only[List.cons.injEq]at e2
  obtain⟨rfl,rfl⟩:=e2
  simp only[Ty.aK]at e1 hl
  have hc1:=hr1.size
  have k1:c1=(bs.drop (p+(q.sum+o0))).take t.size:=by
   have:=congrArg (List.take t.size) e1
   rw[List.take_take,Nat.min_eq_left (by omega),←hc1,List.take_left]at this
   rw[←this,hc1,Nat.add_assoc]
  have k2:c2=(bs.drop (p+q.sum+(o0+t.size))).take (Ty.aK ts):=by
   have:=congrArg (List.drop t.size) e1
   rw[←hc1,List.drop_left,hc1,List.drop_take,List.drop_drop,show t.size+Ty.aK ts - t.size=Ty.aK ts by omega]at this
   rw[←this]
   congr 2
   omega
  simp only[J9]at hL
  rw[uR,List.append_assoc]
  rw[k1]at hr1
  rw[k2]at hr2
  exact FQ.of t hg.1 ⟨_,_,_,hT1⟩ hr1 (by simp) (by omega) hm (FQ.Rx ts hg.2 ⟨_,_,_,hT2⟩ hr2 (by omega) hm (by rw[Nat.add_assoc];exact hL))
end
theorem km:∀(ds:List Nat) (f:Fr) {t:Nat},t∉ds→(forget f ds).get t=f.get t
 | [],f,t,_=>rfl
 |d::ds,f,t,h=>by
  rw[forget,km ds _ (fun hm=>h (List.mem_cons_of_mem _ hm)),Fr.dR _ _ (fun e=>h (by rw[e];exact List.mem_cons_self))]
theorem KG:∀(n lo:Nat) {t:Nat},t∈Pz n lo→lo≤t
 |0,lo,t,h=>by cases h
 |n+1,lo,t,h=>by
  rw[Pz,List.mem_cons]at h
  rcases h with rfl|h
  ·omega
  ·exact KG n lo h
section
variable {cd:Nat→Option AF} {f:Fr} {h:H} {R:List RV} {Q:V→H→Prop} {k:List KI} {c:C} {i kk d:Nat}
theorem Inv.forget (I:Inv f c i kk) (n:Nat):Inv (Go.Eng.forget f (Pz n 6)) c i kk:=by
 have:∀t,t < 6→t∉Pz n 6:=fun t ht hm=>by have:=KG n 6 hm;omega
 exact⟨(km _ _ (this 0 (by omega))).trans I.g0,(km _ _ (this 5 (by omega))).trans I.g5,(km _ _ (this 1 (by omega))).trans I.g1⟩
theorem O9 (I:Inv f c i kk) (hi:i+1≤9223372036854775807) (hw:∀f',Inv f' c (i+1) kk→WS cd k f' h R Q):WS cd (.c (Nk 10 5)::k) f h R Q:=by
 refine mU I.g5 fun f1 a1 v1=> ?_
 have I1:=I.ag a1 (by omega)
 refine Kp (c:= .int .i64 ((i+1:Nat):Int)) v1 (by rw[EJ,au (by omega) (by omega)];rfl) fun f2 a2 v2=> ?_
 have I2:=I1.ag a2 (by omega)
 refine Dz v2 fun f3 a3 v3=> ?_
 rw[db]
 exact hw f3 ⟨(a3 0 (by omega)).trans I2.g0,v3,(a3 1 (by omega)).trans I2.g1⟩
theorem LP {as:List AC} (hw:WS cd (tl as k) f h R Q):WS cd (.c (I9 as)::k) f h R Q:=by
 cases as with
 |nil=>rw[I9,xD];exact hw
 |cons a r=>exact hw
theorem MO {g dep e n k0:Nat} {body:List AC} (hcd:cd g=some (G9 dep e body)) (he:6≤e) (hl:yc c=some n) (hn:n≤9223372036854775807) (cnt:Nat→Nat) (h0:cnt 0=k0) (J:Nat→H→Prop) (hJ:J 0 h)
 (round:∀(i:Nat) (f:Fr) (h':H) (K:List KI),i < n→J i h'→Inv f c i (cnt i)→(∀f' h'',J (i+1) h''→Inv f' c i (cnt (i+1))→WS cd K f' h'' [.tmp 4] Q)→WS cd (tl body K) f h' [.tmp 4] Q)
 (hQ:∀h',J n h'→Q (.val false [.int .i64 ((cnt n:Nat):Int)]) h'):WC cd g [(false,[c]),(false,[.int .i64 (k0:Int)])] h Q:=by
 refine aD hcd rfl ?_
 have g0:(cF (PT.full dep) 0 [(false,[c]),(false,[.int .i64 (k0:Int)])]).get 0= .val false [c]:=by
  simp only[cF]
  rw[Fr.dR _ _ (by omega),Fr.bj]
 have g1:(cF (PT.full dep) 0 [(false,[c]),(false,[.int .i64 (k0:Int)])]).get 1= .val false [.int .i64 (k0:Int)]:=by
  simp only[cF]
  rw[Fr.bj]
 show WS cd [.c (G9 dep e body).body] (cF (PT.full dep) 0 [(false,[c]),(false,[.int .i64 (k0:Int)])]) h [.tmp 4] Q
 generalize cF (PT.full dep) 0 [(false,[c]),(false,[.int .i64 (k0:Int)])]=f0 at g0 g1
 simp only[G9]
 rw[iG]
 refine Kc fun f1 a1 v1=> ?_
 rw[db,iG,iG]
 refine Kc fun f2 a2 v2=> ?_
 rw[db,s7]
 have I0:Inv f2 c 0 (cnt 0):=⟨(a2 0 (by omega)).trans ((a1 0 (by omega)).trans g0),v2,by rw[h0];exact(a2 1 (by omega)).trans ((a1 1 (by omega)).trans g1)⟩
 refine Cc (fun g f h'=>∃i,g=n - i∧i≤n∧J i h'∧Inv f c i (cnt i)) n ⟨0,by omega,by omega,hJ,I0⟩ ?_
 rintro g f h' ⟨i,rfl,hi,hj,I⟩
 have I1:=I.forget (e - 6)
 rw[iG,iG]
 refine mU I1.g5 fun f3 a3 v3=> ?_
 have I3:=I1.ag a3 (by omega)
 refine mU I3.g0 fun f4 a4 v4=> ?_
 have I4:=I3.ag a4 (by omega)
 refine Qw v4 hl fun f5 a5 v5=> ?_
 have I5:=I4.ag a5 (by omega)
 refine Qn ((a5 6 (by omega)).trans ((a4 6 (by omega)).trans v3)) v5 (Hu _ _ _) fun f6 a6 v6=> ?_
 have I6:=I5.ag a6 (by omega)
 rw[db,DN,show dc f6 (.s 9)=some (.bool (decide ((i:Int) < (n:Int))))by simp only[dc,ev,v6]]
 refine ao (fun hlt=> ?_) (fun hlt=> ?_)
 ·rw[xD,iG,s7]
  refine LP (round i f6 h' _ (by omega) hj I6 fun f7 h7 hj7 I7=> ?_)
  rw[N3]
  refine O9 I7 (by omega) fun f8 I8=> ?_
  rw[Dh]
  exact⟨n - (i+1),by omega,i+1,rfl,by omega,hj7,I8⟩
 ·have hin:i=n:=by omega
  subst hin
  rw[DT]
  rw[OE,CG,N9,if_pos rfl,iG]
  refine mU I6.g1 fun f7 a7 v7=> ?_
  refine Dz v7 fun f8 a8 v8=> ?_
  rw[db,Ga]
  have:jB f8 [.tmp 4]=some (.val false [.int .i64 ((cnt i:Nat):Int)]):=by simp only[jB,tO,A3,sr,ev,v8]
  rw[this]
  exact hQ h' hj
end
end Go.Eng
namespace Go.Eng
def PJ (sz d:Nat):LD→List AC
 |⟨p,none⟩=> [.ops (.i (.mov d (.s 0)):: .i (.mov (d+1) (.s 5)):: .i (.mov (d+2) (.s 1)):: .i (.iad (d+3) (.s d) (.s (d+1)) sz)::(G0 (d+3) p++ [.i (.sth (.s (d+3+p.length)) (.s (d+2)) 1)])),Nk (d+4+p.length) 1]
 |⟨p,some g⟩=> [.ops (OM sz d p [.i (.call (d+6+p.length) g false [.s (d+3+p.length), .s (d+4+p.length)]), .i (.mov 1 (.s (d+5+p.length)))])]
def HW (sz:Nat):Nat→List LD→List AC
 |_,[]=> []
 |d,l::r=>PJ sz d l++HW sz (d+6+l.path.length) r
def tG:Nat→List LD→Nat
 |d,[]=>d
 |d,l::r=>tG (d+6+l.path.length) r
theorem BO:∀(a b:List LD) (d:Nat),tG d (a++b)=tG (tG d a) b
 | [],b,d=>rfl
 |l::a,b,d=>BO a b _
theorem yR:∀(ls:List LD) (d:Nat),d≤tG d ls
 | [],d=>Nat.le_refl _
 |l::r,d=>by have:=yR r (d+6+l.path.length);rw[tG];omega
def QI (dep sz:Nat) (ls:List LD):AF:=G9 dep (tG 12 ls) (HW sz 12 ls)
theorem pH {bs bs':List C} {o n:Nat} (h:∀j,o≤j→j < o+n→bs'[j]? =bs[j]?):(bs'.drop o).take n=(bs.drop o).take n:=by
 apply List.ext_getElem?
 intro j
 rw[List.getElem?_take,List.getElem?_take,List.getElem?_drop,List.getElem?_drop]
 split
 ·exact h _ (by omega) (by omega)
 ·rfl
theorem patch {bs bs':List C} {off N o sz:Nat} (hl:bs'.length=bs.length) (hN:off+N≤bs.length) (ho:o+sz≤N) (hs:∀j,j < off+o∨off+o+sz≤j→bs'[j]? =bs[j]?):
 aR ((bs.drop off).take N) o ((bs'.drop (off+o)).take sz)=(bs'.drop off).take N:=by
 have l1:((bs.drop off).take N).length=N:=by rw[List.length_take,List.length_drop];omega
 have l2:((bs'.drop (off+o)).take sz).length=sz:=by rw[List.length_take,List.length_drop];omega
 rw[df _ _ _ (by rw[l1,l2];omega),l2]
 have e1:((bs.drop off).take N).take o=(bs'.drop off).take o:=by
  rw[List.take_take,Nat.min_eq_left (by omega)]
  exact(pH fun j h1 h2=>hs j (by omega)).symm
 have e2:((bs.drop off).take N).drop (o+sz)=(bs'.drop (off+(o+sz))).take (N - (o+sz)):=by
  rw[List.drop_take,List.drop_drop]
  exact(pH fun j h1 h2=>hs j (by omega)).symm
 rw[e1,e2]
 have e3:N=o+(sz+(N - (o+sz))):=by omega
 conv=>rhs;rw[e3,List.take_add,List.take_add,List.drop_drop,List.drop_drop]
 simp only[Nat.add_assoc,List.append_assoc]
section
variable {cd:Nat→Option AF} {f:Fr} {h:H} {R:List RV} {Q:V→H→Prop} {k:List KI} {l:List IT} {c:C} {i kk d sz:Nat}
theorem Qu {x y id o ty:Nat} {bs:List C} {u:C} (hx:f.get x= .val false [.ptr id o]) (hy:f.get y= .val false [u]) (hc:h[id]? =some (.own ty bs)) (hl:o < bs.length) (hw:WS cd (.c (.ops l)::k) f (h.set id (.own ty (bs.set o u))) R Q):WS cd (.c (.ops (.i (.sth (.s x) (.s y) 1)::l))::k) f h R Q:=by
 rw[dB _ rfl]
 simp only[ai,dc,sr,ev,hx,hy,hc]
 rw[if_pos ⟨rfl,by omega⟩]
 exact hw
theorem PA {id p ty:Nat} {q:List Nat} {bs:List C} (hd:6≤d) (I:Inv f c i kk) (ha:Ge c sz (i:Int)=some (id,p)) (hc:h[id]? =some (.own ty bs)) (hb:p+q.sum < bs.length) (hk:kk+1≤1152921504606846976)
 {r:List AC} (hw:∀f',Inv f' c i (kk+1)→WS cd (tl r k) f' (h.set id (.own ty (bs.set (p+q.sum) (.int .i64 (kk:Int))))) R Q):WS cd (tl (PJ sz d ⟨q,none⟩++r) k) f h R Q:=by
 simp only[PJ,List.cons_append,List.nil_append]
 rw[KR]
 refine mU I.g0 fun f1 a1 v1=> ?_
 have I1:=I.ag a1 hd
 refine mU I1.g5 fun f2 a2 v2=> ?_
 have I2:=I1.ag a2 (by omega)
 refine mU I2.g1 fun f3 a3 v3=> ?_
 have I3:=I2.ag a3 (by omega)
 refine NV ((a3 d (by omega)).trans ((a2 d (by omega)).trans v1)) ((a3 (d+1) (by omega)).trans v2) ha fun f4 a4 v4=> ?_
 have I4:=I3.ag a4 (by omega)
 refine GF q v4 fun f5 a5 v5=> ?_
 have I5:=I4.ag a5 (by omega)
 refine Qu v5 ((a5 (d+2) (by omega)).trans ((a4 (d+2) (by omega)).trans v3)) hc hb ?_
 rw[db,KR]
 exact Qa (by omega) I5 hk hw
theorem Qt {id p g:Nat} {q:List Nat} {bs:List C} {x:C} {T:Ty} {v:Tv} {S:List Nat} (hd:6≤d) (I:Inv f c i kk) (ha:Ge c sz (i:Int)=some (id,p)) (hc:h.cells id=some bs) (hb:bs[p+q.sum]? =some x)
 (hE:rQ cd g (.sl T)) (hv:Rp h (.sl T) [x] v S) (ho:dK h S) (hk:kk+uN (.sl T) v≤1152921504606846976)
 {r:List AC} (hw:∀f' h',Inv f' c i (kk+uN (.sl T) v)→dL h h' S→Rp h' (.sl T) [x] (IV (.sl T) v kk) S→WS cd (tl r k) f' h' R Q):WS cd (tl (PJ sz d ⟨q,some g⟩++r) k) f h R Q:=by
 simp only[PJ,List.cons_append,List.nil_append]
 rw[KR]
 refine PN hd I ha hc hb fun f1 I1 v1 w1=> ?_
 rw[xH]
 have e1:args f1 [.s (d+3+q.length), .s (d+4+q.length)]=some [(false,[x]),(false,[.int .i64 (kk:Int)])]:=by simp only[args,sr,ev,v1,w1]
 rw[e1]
 refine(hE hv ho hk).mono ?_
 rintro v' h' ⟨rfl,hw2,hr2⟩
 unfold KC
 have e2:dT f1 (d+6+q.length) (.val false [.int .i64 ((kk+uN (.sl T) v:Nat):Int)])=f1.set (d+5+q.length) (.val false [.int .i64 ((kk+uN (.sl T) v:Nat):Int)]):=by
  rw[show d+6+q.length=(d+5+q.length)+1 by omega];rfl
 rw[e2]
 have I2:=I1.ag (Ag.set (d+5+q.length) f1 (.val false [.int .i64 ((kk+uN (.sl T) v:Nat):Int)])) (by omega)
 refine Dz (Fr.bj _ _ _) fun f3 a3 v3=> ?_
 rw[db]
 exact hw f3 h' ⟨(a3 0 (by omega)).trans I2.g0,(a3 5 (by omega)).trans I2.g5,v3⟩ hw2 hr2
end
mutual
def NY (cd:Nat→Option AF) (fn:Ty→Nat):Ty→Prop
 | .st ts=>JU cd fn ts
 | .int k=>k= .i64
 | .sl t=>rQ cd (fn (.sl t)) (.sl t)
 | .bool=>False
 | .str=>False
def JU (cd:Nat→Option AF) (fn:Ty→Nat):List Ty→Prop
 | []=>True
 |t::ts=>NY cd fn t∧JU cd fn ts
end
structure Rv (h h':H) (id ty:Nat) (S:List Nat) (bs bs':List C) (o n:Nat):Prop where
 own:h'[id]? =some (.own ty bs')
 len:bs'.length=bs.length
 out:∀j,j < o∨o+n≤j→bs'[j]? =bs[j]?
 wr:dL h h' (id::S)
mutual
theorem RB {cd:Nat→Option AF} {fn:Ty→Nat} {R:List RV} {Q:V→H→Prop} {K:List KI} {c:C} {i sz id p ty:Nat} (ha:Ge c sz (i:Int)=some (id,p)):∀(T:Ty) {v:Tv} {S:List Nat} {o:Nat} {q:List Nat} {n d:Nat} {f:Fr} {h:H} {bs:List C} {r:List LD},
 NY cd fn T→Rp h T ((bs.drop (p+o)).take T.size) v S→dK h S→id∉S→h[id]? =some (.own ty bs)→q.sum=o→p+o+T.size≤bs.length→n+fX T v≤1152921504606846976→6≤d→Inv f c i n→
 (∀f' h' bs',Inv f' c i (n+fX T v)→Rv h h' id ty S bs bs' (p+o) T.size→Rp h' T ((bs'.drop (p+o)).take T.size) (Al T v n) S→WS cd (tl (HW sz (tG d (Ns fn T q)) r) K) f' h' R Q)→
 WS cd (tl (HW sz d (Ns fn T q++r)) K) f h R Q
 | .int kd,v,S,o,q,n,d,f,h,bs,r,hg,hr,ho,hid,hc,hq,hl,hk,hd,I,hw=>by
   simp only[NY]at hg
   subst hg hq
   obtain⟨n',e1,rfl,rfl,_⟩:=hr.int
   simp only[Ty.size]at hl
   simp only[fX]at hk hw
   have hlt:id < h.length:=(List.getElem?_eq_some_iff.1 hc).1
   refine PA hd I ha hc (by omega) (by omega) fun f1 I1=> ?_
   refine hw f1 _ (bs.set (p+q.sum) (.int .i64 (n:Int))) I1 ⟨by rw[List.getElem?_set_self hlt],List.length_set,fun j hj=> ?_,?_⟩ ?_
   ·simp only[Ty.size]at hj
    rw[List.getElem?_set_ne (by omega)]
   ·exact(dL.refl (h:=h) (S:= [id]) fun j hj=>by rw[List.mem_singleton]at hj;subst hj;exact⟨_,_,hc⟩).set (by simp) hlt
   ·have e2:((bs.set (p+q.sum) (C.int .i64 (n:Int))).drop (p+q.sum)).take (Ty.int .i64).size= [.int .i64 (n:Int)]:=by
     have hx:(bs.set (p+q.sum) (C.int .i64 (n:Int)))[p+q.sum]'(by rw[List.length_set];omega)= .int .i64 (n:Int):=List.getElem_set_self _
     rw[List.drop_eq_getElem_cons (by rw[List.length_set];omega),hx]
     rfl
    rw[e2]
    simp only[Al]
    rw[au (by omega) (by omega)]
    have m1:IntKind.min .i64= -9223372036854775808:=by decide
    have m2:IntKind.max .i64=9223372036854775807:=by decide
    exact Rp.mkInt (by rw[m1];omega) (by rw[m2];omega)
 | .bool,_,_,_,_,_,_,_,_,_,_,hg,_,_,_,_,_,_,_,_,_,_=>by simp only[NY]at hg
 | .str,_,_,_,_,_,_,_,_,_,_,hg,_,_,_,_,_,_,_,_,_,_=>by simp only[NY]at hg
 | .sl t,v,S,o,q,n,d,f,h,bs,r,hg,hr,ho,hid,hc,hq,hl,hk,hd,I,hw=>by
   simp only[NY]at hg
   subst hq
   obtain⟨x,hx⟩:=hr.one rfl
   rw[hx]at hr
   rw[←yX]at hk hw
   refine Qt hd I ha (bR hc) (cell_of hx) hg hr ho hk fun f1 h1 I1 hw1 hr1=> ?_
   have hc1:h1[id]? =some (.own ty bs):=by rw[hw1.2.1 id hid];exact hc
   refine hw f1 h1 bs I1 ⟨hc1,rfl,fun _ _=>rfl,hw1.1,fun j hj=>hw1.2.1 j (fun hm=>hj (List.mem_cons_of_mem _ hm)),fun j hj=> ?_⟩ (by rw[hx,←Gy];exact hr1)
   rcases List.mem_cons.1 hj with rfl|hj
   ·exact⟨_,_,hc1⟩
   ·exact hw1.2.2 j hj
 | .st ts,v,S,o,q,n,d,f,h,bs,r,hg,hr,ho,hid,hc,hq,hl,hk,hd,I,hw=>by
   simp only[NY]at hg
   obtain⟨vs,rfl,hr2⟩:=hr.st
   subst hq
   rw[List.drop_zero]at hr2
   simp only[fX]at hk hw
   rw[Ns]
   refine PU ha ts (o0:=0) hg hr2 ho hid hc (by simpa[Ty.size]using hl) hk hd I fun f' h' bs' I' m' r'=> ?_
   exact hw f' h' bs' I' m' (by simp only[Al];exact⟨_,rfl,r'⟩)
theorem PU {cd:Nat→Option AF} {fn:Ty→Nat} {R:List RV} {Q:V→H→Prop} {K:List KI} {c:C} {i sz id p ty:Nat} (ha:Ge c sz (i:Int)=some (id,p)):∀(ts:List Ty) {vs:List Tv} {S:List Nat} {o0:Nat} {q:List Nat} {n d:Nat} {f:Fr} {h:H} {bs:List C} {r:List LD},
 JU cd fn ts→Rs h ts ((bs.drop (p+q.sum+o0)).take (Ty.aK ts)) vs S→dK h S→id∉S→h[id]? =some (.own ty bs)→p+q.sum+o0+Ty.aK ts≤bs.length→n+J9 ts vs≤1152921504606846976→6≤d→Inv f c i n→
 (∀f' h' bs',Inv f' c i (n+J9 ts vs)→Rv h h' id ty S bs bs' (p+q.sum+o0) (Ty.aK ts)→Rs h' ts ((bs'.drop (p+q.sum+o0)).take (Ty.aK ts)) (Pv ts vs n) S→WS cd (tl (HW sz (tG d (uR fn ts o0 q)) r) K) f' h' R Q)→
 WS cd (tl (HW sz d (uR fn ts o0 q++r)) K) f h R Q
 | [],vs,S,o0,q,n,d,f,h,bs,r,hg,hr,ho,hid,hc,hl,hk,hd,I,hw=>by
   obtain⟨e1,rfl,rfl⟩:=hr
   refine hw f h bs I ⟨hc,rfl,fun _ _=>rfl,dL.refl fun j hj=> ?_⟩ ⟨e1,rfl,rfl⟩
   rw[List.mem_singleton]at hj
   subst hj
   exact⟨_,_,hc⟩
 |t::ts,vs,S,o0,q,n,d,f,h,bs,r,hg,hr,ho,hid,hc,hl,hk,hd,I,hw=>by
  simp only[JU]at hg
  obtain⟨c1,c2,v,vr,S1,S2,e1,rfl,rfl,hr1,hr2⟩:=hr
  simp only[Ty.aK]at e1 hl
  simp only[J9]at hk hw
  have hc1:=hr1.size
  have hc2:=hr2.size
  have k1:c1=(bs.drop (p+(q.sum+o0))).take t.size:=by
   have:=congrArg (List.take t.size) e1
   rw[List.take_take,Nat.min_eq_left (by omega),←hc1,List.take_left]at this
   rw[←this,hc1,Nat.add_assoc]
  have k2:c2=(bs.drop (p+q.sum+(o0+t.size))).take (Ty.aK ts):=by
   have:=congrArg (List.drop t.size) e1
   rw[←hc1,List.drop_left,hc1,List.drop_take,List.drop_drop,show t.size+Ty.aK ts - t.size=Ty.aK ts by omega]at this
   rw[←this]
   congr 2
   omega
  rw[k1]at hr1
  rw[k2]at hr2
  have hnd:=List.nodup_append.1 ho.1
  simp only[List.mem_append,not_or]at hid
  rw[uR,List.append_assoc]
  refine RB ha t (q:=q++ [o0]) (o:=q.sum+o0) hg.1 hr1 ⟨hnd.1,fun j hj=>ho.2 j (List.mem_append_left _ hj)⟩ hid.1 hc (by simp) (by omega) (by omega) hd I fun f1 h1 bs1 I1 m1 r1=> ?_
  have hd1:=yR (Ns fn t (q++ [o0])) d
  have hs2:∀j∈S2,j∉id::S1:=fun j hj hm=>by
   rcases List.mem_cons.1 hm with rfl|hm
   ·exact hid.2 hj
   ·exact hnd.2.2 j hm j hj rfl
  have b1:(bs1.drop (p+q.sum+(o0+t.size))).take (Ty.aK ts)=(bs.drop (p+q.sum+(o0+t.size))).take (Ty.aK ts):=pH fun j h1 h2=>m1.out j (by omega)
  have hl1:=m1.len
  refine PU ha ts (o0:=o0+t.size) (n:=n+fX t v) hg.2 (by rw[b1];exact hr2.frame fun j hj=>bG (m1.wr.2.1 j (hs2 j hj))) (m1.wr.Mw ⟨hnd.2.1,fun j hj=>ho.2 j (List.mem_append_right _ hj)⟩) hid.2 m1.own (by omega) (by omega) (by omega) I1 fun f2 h2 bs2 I2 m2 r2=> ?_
  have hs1:∀j∈S1,j∉id::S2:=fun j hj hm=>by
   rcases List.mem_cons.1 hm with rfl|hm
   ·exact hid.1 hj
   ·exact hnd.2.2 j hj j hm rfl
  have b2:(bs2.drop (p+(q.sum+o0))).take t.size=(bs1.drop (p+(q.sum+o0))).take t.size:=pH fun j h1 h2=>m2.out j (by omega)
  have hr3:=r1.frame fun j hj=>bG (m2.wr.2.1 j (hs1 j hj))
  rw[←b2]at hr3
  have e4:(bs2.drop (p+q.sum+o0)).take (Ty.aK (t::ts))=(bs2.drop (p+(q.sum+o0))).take t.size++(bs2.drop (p+q.sum+(o0+t.size))).take (Ty.aK ts):=by
   rw[Ty.aK,List.take_add,List.drop_drop]
   simp only[Nat.add_assoc]
  have:=hw f2 h2 bs2 (by rw[←Nat.add_assoc];exact I2) ⟨m2.own,m2.len.trans m1.len,fun j hj=> ?_,?_⟩ (by rw[e4,Pv];exact⟨_,_,_,_,_,_,rfl,rfl,rfl,hr3,r2⟩)
  ·rw[uR,BO]at this
   exact this
  ·simp only[Ty.aK]at hj
   rw[m2.out j (by omega),m1.out j (by omega)]
  ·refine⟨m2.wr.1.trans m1.wr.1,fun j hj=> ?_,fun j hj=> ?_⟩
   ·simp only[List.mem_cons,List.mem_append,not_or]at hj
    rw[m2.wr.2.1 j (by simp only[List.mem_cons,not_or];exact⟨hj.1,hj.2.2⟩),m1.wr.2.1 j (by simp only[List.mem_cons,not_or];exact⟨hj.1,hj.2.1⟩)]
   ·by_cases h2:j∈id::S2
    ·exact m2.wr.2.2 j h2
    ·rw[m2.wr.2.1 j h2]
     refine m1.wr.2.2 j ?_
     simp only[List.mem_cons,List.mem_append,not_or]at hj h2⊢
     rcases hj with rfl|hj|hj
     ·exact .inl rfl
     ·exact .inr hj
     ·exact absurd hj h2.2
end
theorem K5 {cd:Nat→Option AF} {g dep:Nat} {ts:List Ty} {fn:Ty→Nat} (hcd:cd g=some (QI dep (Ty.aK ts) (uR fn ts 0 []))) (hg:JU cd fn ts):rQ cd g (.sl (.st ts)):=by
 intro h cs v S k hv ho hk
 obtain⟨c,xs,id,off,bs,S',rfl,rfl,hm,hl,hat,hce,hbs,hel,hS⟩:=hv.view
 have hcn:uN (.sl (.st ts)) (.l xs)=(xs.map (fX (.st ts))).sum:=rfl
 have hmk:IV (.sl (.st ts)) (.l xs) k= .l (ym (Al (.st ts)) (fX (.st ts)) xs k):=rfl
 rw[hcn]at hk⊢
 rw[hmk]
 have hsub:∀j∈S',j∈S:=fun j hj=>by
  rcases hS with e|⟨_,_,e⟩
  ·rw[e];simp[hj]
  ·rw[e]at hj;cases hj
 have hnd:S'.Nodup:=by
  rcases hS with e|⟨_,_,e⟩
  ·have:=ho.1
   rw[e]at this
   exact(List.nodup_cons.1 this).2
  ·rw[e];simp
 have hid:0 < xs.length→id∉S'∧id∈S:=fun hp=>by
  rcases hS with e|⟨e,_,_⟩
  ·have:=ho.1
   rw[e]at this
   exact⟨(List.nodup_cons.1 this).1,by rw[e];simp⟩
  ·rw[e]at hp;simp at hp
 have hs1:(Ty.st ts).size=Ty.aK ts:=rfl
 have hty:∃ty,0 < xs.length→h[id]? =some (.own ty bs):=by
  by_cases hp:0 < xs.length
  ·obtain⟨ty,cs,e⟩:=ho.2 id (hid hp).2
   have e2:=(hce hp).1
   rw[bR e]at e2
   simp only[Option.some.injEq]at e2
   subst e2
   exact⟨ty,fun _=>e⟩
  ·exact⟨0,fun e=>absurd e hp⟩
 obtain⟨ty,hty⟩:=hty
 refine MO hcd (by have:=yR (uR fn ts 0 []) 12;omega) hl hm (fun i=>k+((xs.take i).map (fX (.st ts))).sum) (by simp)
  (fun i h'=>dL h h' S∧(xs.length=0→h'=h)∧∃bs',(0 < xs.length→h'[id]? =some (.own ty bs'))∧bs'.length=bs.length∧bb (Rp h' (.st ts)) (J0 (.st ts) xs k i) ((bs'.drop off).take (xs.length * (Ty.st ts).size)) S')
  ⟨dL.refl ho.2,fun _=>rfl,bs,hty,rfl,by rw[Fm];exact hel⟩ ?_ ?_
 ·rintro i f h' K hi ⟨hw,_,bs',hown,hlen,he⟩ I hK
  have hsi:=Fq (g:=fX (.st ts)) (List.getElem?_eq_getElem hi)
  have hsl:=K4 (g:=fX (.st ts)) xs (i+1)
  obtain⟨Si,k1,k2,k3,k4⟩:=he.turn hnd (Hn hi)
  rw[jg hi]at k1
  have hle:=Nat.mul_le_mul_right (Ty.aK ts) hi
  rw[Nat.succ_mul]at hle
  rw[hs1]at hbs
  have hidS:id∉Si:=fun hm=>(hid (by omega)).1 (k2 id hm)
  have hr:=RB (cd:=cd) (fn:=fn) (R:= [.tmp 4]) (K:=K) (f:=f) (h:=h') (bs:=bs') (ty:=ty) (hat i hi) (.st ts) (q:= []) (o:=0) (r:= []) (n:=k+((xs.take i).map (fX (.st ts))).sum) (d:=12) (by simpa only[NY]using hg) (by simpa only[Nat.add_zero]using k1)
   ⟨k3,fun j hj=>(hw.Mw ho).2 j (hsub j (k2 j hj))⟩ hidS (hown (by omega)) rfl (by rw[hs1,hlen];omega) (by omega) (by omega) I (Q:=fun r h'=>r= .val false [.int .i64 ((k+(xs.map (fX (.st ts))).sum:Nat):Int)]∧dL h h' S∧Rp h' (.sl (.st ts)) [c] (.l (ym (Al (.st ts)) (fX (.st ts)) xs k)) S)
   fun f2 h2 bs2 I2 m2 r2=> ?_
  ·rw[List.append_nil,Ns]at hr
   exact hr
  ·simp only[Nat.add_zero]at m2 r2
   refine hK f2 h2 ⟨hw.more m2.wr (fun j hj=> ?_),fun e=>by omega,bs2,fun _=>m2.own,m2.len.trans hlen,?_⟩ ?_
   ·rcases List.mem_cons.1 hj with rfl|hj
    ·exact(hid (by omega)).2
    ·exact hsub j (k2 j hj)
   ·have k5:=k4 h2 _ _ (fun j hj hn=>bG (m2.wr.2.1 j (fun hm=>by
     rcases List.mem_cons.1 hm with rfl|hm
     ·exact(hid (by omega)).1 hj
     ·exact hn hm))) r2
    rw[Fz hi]at k5
    have hp:=patch (bs:=bs') (bs':=bs2) (off:=off) (N:=xs.length * (Ty.st ts).size) (o:=i * (Ty.st ts).size) (sz:=(Ty.st ts).size) m2.len (by rw[hs1,hlen];omega) (by rw[hs1];omega) (fun j hj=>m2.out j hj)
    rw[hp]at k5
    exact k5
   ·have:k+((xs.take (i+1)).map (fX (.st ts))).sum=k+((xs.take i).map (fX (.st ts))).sum+fX (.st ts) xs[i]:=by omega
    rw[this]
    exact I2
 ·rintro h' ⟨hw,hz,bs',hown,hlen,he⟩
  rw[GQ]at he
  rw[List.take_length]
  refine⟨rfl,hw,?_⟩
  by_cases hp:0 < xs.length
  ·refine⟨_,rfl,?_, .inr ⟨id,off,bs',S',(Ty.st ts).size,?_,?_,?_,?_,?_, .inl rfl⟩⟩
   ·rw[eP];simp only[maxLen];omega
   ·rw[eP];rw[(hce hp).2]
   ·exact bR (hown hp)
   ·rw[eP,hlen];exact hbs
   ·rcases hS with e|⟨e,_⟩
    ·exact e
    ·rw[e]at hp;simp at hp
   ·rw[eP];exact he
  ·have hx:xs= []:=List.eq_nil_of_length_eq_zero (by omega)
   subst hx
   rw[hz rfl]
   exact hv
end Go.Eng
