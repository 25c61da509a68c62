import Derived.Test.YtlhapfligolmcaaGreatGb
set_option linter.unusedVariables false
set_option linter.unusedSimpArgs false
set_option maxRecDepth 100000
namespace Go.Eng
theorem CC {cd:Nat→Option AF} {g gE:Nat} {T:Ty} (hcd:cd g=some (sL T.size gE T.agg)) (hE:eN cd gE T):eN cd g (.sl T):=by
 intro h cs v S k hv hk
 obtain⟨c,xs,id,off,bs,S',rfl,rfl,hm,hl,hat,hce,hbs,hel,hS⟩:=hv.view
 have hw:wt (.l xs)=xs.length+cW xs:=by simp[wt]
 rw[hw]
 refine aC hcd rfl ?_
 simp(disch:=omega) only[sL,hl,aB,SQ,SU,SL,reduceCtorEq,Nat.reduceAdd,Nat.reduceLeDiff,reduceIte]
 refine aw (fun hb=> ?_) (fun hb=> ?_)
 ·simp(disch:=omega) only[sL,aB,SQ,SU,SL,reduceCtorEq,Nat.reduceAdd,Nat.reduceLeDiff,reduceIte]
  rw[if_neg (by omega)]
 ·simp(disch:=omega) only[sL,aB,SQ,SU,SL,reduceCtorEq,Nat.reduceAdd,Nat.reduceLeDiff,reduceIte]
  refine cP (σ:=Nat) (f1:=_) (by simp only[SQ,SU,SL,reduceCtorEq,Nat.reduceAdd,Nat.reduceLeDiff,reduceIte];rfl) (fun i=> [(5, .val false [.int .i64 i]),(1, .val false [.int .i64 ((k - xs.length - cW (xs.take i):Nat):Int)])])
   (fun i g h'=>g=xs.length - i∧i≤xs.length∧h'=h∧xs.length+cW (xs.take i)≤k) 0 xs.length ?_ ⟨by omega,by omega,rfl,by simp[cW];omega⟩ ?_
  ·have:((k - xs.length - cW (xs.take 0):Nat):Int)=(k:Int) - xs.length:=by simp[cW];omega
   rw[this]
   simp only[SQ,SU,SL,reduceCtorEq,Nat.reduceAdd,Nat.reduceLeDiff,reduceIte];rfl
  rintro i g h' ⟨hg,hi,rfl,hle⟩
  simp(disch:=omega) only[sL,hl,aB,SQ,SU,SL,reduceCtorEq,Nat.reduceAdd,Nat.reduceLeDiff,reduceIte]
  refine aw (fun hlt=> ?_) (fun hlt=> ?_)
  ·have hix:i < xs.length:=by omega
   obtain⟨Si,hx⟩:=hel.at hix
   have hsz:=hx.size
   have hb2:off+i * T.size+T.size≤bs.length:=by
    have:=Nat.mul_le_mul_right T.size hix
    rw[Nat.succ_mul]at this
    omega
   simp(disch:=omega) only[sL,hl,hat i hix,(hce (by omega)).1,aK,aB,SQ,SU,SL,reduceCtorEq,Nat.reduceAdd,Nat.reduceLeDiff,reduceIte]
   refine aT (hE hx (k:=k - xs.length - cW (xs.take i)) (by omega)) ?_
   rintro r h'' ⟨rfl,rfl⟩
   have hwt:=yo (List.getElem?_eq_getElem hix)
   have hwl:=wB xs (i+1)
   by_cases hf:wt xs[i]≤k - xs.length - cW (xs.take i)
   ·rw[if_pos hf]
    simp(disch:=omega) only[ae,aB,SQ,SU,SL,reduceCtorEq,Nat.reduceAdd,Nat.reduceLeDiff,reduceIte]
    refine aw (fun hn=> ?_) (fun hn=> ?_)
    ·omega
    ·simp(disch:=omega) only[aB,SQ,SU,SL,reduceCtorEq,Nat.reduceAdd,Nat.reduceLeDiff,reduceIte]
     refine⟨i+1,xs.length - (i+1),by omega,?_,rfl,by omega,by omega⟩
     have:((k - xs.length - cW (xs.take (i+1)):Nat):Int)=((k - xs.length - cW (xs.take i):Nat):Int) - (wt xs[i]:Int):=by omega
     rw[this]
     rfl
   ·rw[if_neg hf]
    simp(disch:=omega) only[ae,aB,SQ,SU,SL,reduceCtorEq,Nat.reduceAdd,Nat.reduceLeDiff,reduceIte]
    refine aw (fun hn=> ?_) (fun hn=> ?_)
    ·simp(disch:=omega) only[aB,SQ,SU,SL,reduceCtorEq,Nat.reduceAdd,Nat.reduceLeDiff,reduceIte]
     rw[if_neg (by omega)]
    ·omega
  ·simp(disch:=omega) only[sL,aB,SQ,SU,SL,reduceCtorEq,Nat.reduceAdd,Nat.reduceLeDiff,reduceIte]
   have:i=xs.length:=by omega
   subst this
   rw[List.take_length]at hle⊢
   rw[if_pos (by omega)]
   congr 3
   omega
theorem Ct {cd:Nat→Option AF} {g gE:Nat} {T:Ty} (hcd:cd g=some (rY T.size gE T.agg)) (hE:dO cd gE T):dO cd g (.sl T):=by
 intro h ca cb va vb Sa Sb ha hb
 obtain⟨c1,xs,id1,off1,bs1,S1,rfl,rfl,hm1,hl1,hat1,hce1,hbs1,hel1,hS1⟩:=ha.view
 obtain⟨c2,ys,id2,off2,bs2,S2,rfl,rfl,hm2,hl2,hat2,hce2,hbs2,hel2,hS2⟩:=hb.view
 refine aC hcd rfl ?_
 simp(disch:=omega) only[rY,hl1,hl2,aB,SQ,SU,SL,reduceCtorEq,Nat.reduceAdd,Nat.reduceLeDiff,reduceIte]
 refine aw (fun hne=> ?_) (fun hne=> ?_)
 ·simp(disch:=omega) only[rY,SQ,SU,SL,reduceCtorEq,Nat.reduceAdd,Nat.reduceLeDiff,reduceIte]
  have:¬xs=ys:=fun e=>hne (by rw[e])
  simp[this]
 ·have hlen:xs.length=ys.length:=by omega
  simp(disch:=omega) only[rY,SQ,SU,SL,reduceCtorEq,Nat.reduceAdd,Nat.reduceLeDiff,reduceIte]
  refine cP (σ:=Nat) (f1:=_) (by simp only[SQ,SU,SL,reduceCtorEq,Nat.reduceAdd,Nat.reduceLeDiff,reduceIte];rfl) (fun i=> [(5, .val false [.int .i64 i])]) (fun i g h'=>g=xs.length - i∧i≤xs.length∧h'=h∧∀j,j < i→xs[j]? =ys[j]?) 0 xs.length (by simp only[SQ,SU,SL,reduceCtorEq,Nat.reduceAdd,Nat.reduceLeDiff,reduceIte];rfl) ⟨by omega,by omega,rfl,fun j hj=>by omega⟩ ?_
  rintro i g h' ⟨hg,hi,rfl,hall⟩
  simp(disch:=omega) only[rY,hl1,hl2,aB,SQ,SU,SL,reduceCtorEq,Nat.reduceAdd,Nat.reduceLeDiff,reduceIte]
  refine aw (fun hlt=> ?_) (fun hlt=> ?_)
  ·have hix:i < xs.length:=by omega
   have hiy:i < ys.length:=by omega
   obtain⟨_,k1⟩:=hel1.at hix
   obtain⟨_,q1⟩:=hel2.at hiy
   have hb1:off1+i * T.size+T.size≤bs1.length:=by
    have:=Nat.mul_le_mul_right T.size hix
    rw[Nat.succ_mul]at this
    omega
   have hb2:off2+i * T.size+T.size≤bs2.length:=by
    have:=Nat.mul_le_mul_right T.size hiy
    rw[Nat.succ_mul]at this
    omega
   simp(disch:=omega) only[rY,hl1,hl2,hat1 i hix,hat2 i hiy,(hce1 (by omega)).1,(hce2 (by omega)).1,aK,aB,SQ,SU,SL,reduceCtorEq,Nat.reduceAdd,Nat.reduceLeDiff,reduceIte]
   refine aT (hE k1 q1) ?_
   rintro r h'' ⟨rfl,rfl⟩
   simp(disch:=omega) only[ae,aB,SQ,SU,SL,reduceCtorEq,Nat.reduceAdd,Nat.reduceLeDiff,reduceIte]
   by_cases he:xs[i]=ys[i]
   ·simp(disch:=omega) only[he,aB,SQ,SU,SL,reduceCtorEq,Nat.reduceAdd,Nat.reduceLeDiff,reduceIte]
    refine⟨i+1,xs.length - (i+1),by omega,rfl,rfl,by omega,fun j hj=> ?_⟩
    by_cases e:j=i
    ·subst e
     rw[List.getElem?_eq_getElem hix,List.getElem?_eq_getElem hiy,he]
    ·exact hall j (by omega)
   ·simp(disch:=omega) only[he,aB,SQ,SU,SL,reduceCtorEq,Nat.reduceAdd,Nat.reduceLeDiff,reduceIte]
    have:¬xs=ys:=fun e=>by subst e;exact he rfl
    simp[this]
  ·simp(disch:=omega) only[rY,SQ,SU,SL,reduceCtorEq,Nat.reduceAdd,Nat.reduceLeDiff,reduceIte]
   have:xs=ys:=List.ext_getElem? fun j=>by
    by_cases hj:j < i
    ·exact hall j hj
    ·rw[List.getElem?_eq_none (by omega),List.getElem?_eq_none (by omega)]
   simp[this]
theorem An {h:H} {b b':qv} {t:H} {i:Nat} (hi:i≠h.length):(h++b'::t)[i]? =(h++b::t)[i]? :=by
 by_cases hl:i < h.length
 ·rw[List.getElem?_append_left hl,List.getElem?_append_left hl]
 ·rw[List.getElem?_append_right (by omega),List.getElem?_append_right (by omega)]
  obtain⟨j,e⟩:∃j,i - h.length=j+1:=⟨i - h.length - 1,by omega⟩
  rw[e,List.getElem?_cons_succ,List.getElem?_cons_succ]
theorem bW.app {h t:H} {S:List Nat} (ho:bW h S):bW (h++t) S:=⟨ho.1,fun i hi=>by
 obtain⟨ty,cs,e⟩:=ho.2 i hi
 exact⟨ty,cs,by rw[List.getElem?_append_left (List.getElem?_eq_some_iff.1 e).1];exact e⟩⟩
theorem bW.HT {h:H} {b b':qv} {t:H} {S:List Nat} (ho:bW (h++b::t) S) (hs:∀i∈S,i≠h.length):bW (h++b'::t) S:=⟨ho.1,fun i hi=>by
 obtain⟨ty,cs,e⟩:=ho.2 i hi
 exact⟨ty,cs,by rw[An (b:=b) (hs i hi)];exact e⟩⟩
theorem Rp.HT {h:H} {b b':qv} {t:H} {T:Ty} {cs:List C} {v:Tv} {S:List Nat} (hr:Rp (h++b::t) T cs v S) (hs:∀i∈S,i≠h.length):Rp (h++b'::t) T cs v S:=hr.frame fun i hi=>bF (An (hs i hi))
theorem aP.lt {h:H} {T:Ty} {xs:List Tv} {cs:List C} {S:List Nat} (hr:aP (Rp h T) xs cs S):∀i∈S,i < h.length:=aP.all (hr.imp fun c x S' _ hx=>hx.lt)
theorem AK {z:List C} {e:Nat} (hz:z.length=e) (n:Nat):(List.replicate n z).flatten.length=n * e:=by simp[hz]
theorem Bv {D cs z:List C} {e n i:Nat} (hD:D.length=i * e) (hz:z.length=e) (hc:cs.length=e) (hi:i < n):aE (D++(List.replicate (n - i) z).flatten) (i * e) cs=(D++cs)++(List.replicate (n - (i+1)) z).flatten:=by
 have e1:n - i=(n - (i+1))+1:=by omega
 rw[cm _ _ _ (by simp only[List.length_append,AK hz,hD,hc,e1,Nat.add_mul,Nat.one_mul];omega),e1,List.replicate_succ,List.flatten_cons,←hD,List.take_left,hc,List.drop_append,List.drop_eq_nil_of_le (by omega)]
 have e2:D.length+e - D.length=e:=by omega
 rw[e2,List.drop_append,List.drop_eq_nil_of_le (by omega),hz]
 simp
theorem CU {cd:Nat→Option AF} {g gE ty by_:Nat} {z:List C} {T:Ty} (hcd:cd g=some (yp ty T.size by_ gE z T.agg)) (hby:by_≤4096) (hz:z.length=T.size) (hE:po cd gE T):po cd g (.sl T):=by
 intro h cs v S hv hw
 obtain⟨c,xs,id,off,bs,S',rfl,rfl,hm,hl,hat,hce,hbs,hel,hS⟩:=hv.view
 have hwx:xs.length+cW xs≤1048576:=by simp only[wt]at hw;omega
 have hroom:cM (xs.length * by_+xs.length)=true:=v8 (by have:=Nat.mul_le_mul (show xs.length≤1048576 by omega) hby;omega)
 refine aC hcd rfl ?_
 simp(disch:=omega) only[yp,hl,aB,Int.toNat_natCast,hroom,aK,Int.natCast_nonneg,SQ,SU,SL,reduceCtorEq,Nat.reduceAdd,Nat.reduceLeDiff,reduceIte]
 refine cP (σ:=Nat) (f1:=_) (by simp only[SQ,SU,SL,reduceCtorEq,Nat.reduceAdd,Nat.reduceLeDiff,reduceIte];rfl) (fun i=> [(4, .val false [.int .i64 i])])
  (fun i g h'=>g=xs.length - i∧i≤xs.length∧∃D Sd t,h'=h++ .own ty (D++(List.replicate (xs.length - i) z).flatten)::t∧aP (Rp h' T) (xs.take i) D Sd∧bW h' Sd∧∀j∈Sd,h.length < j) 0 xs.length (by simp only[SQ,SU,SL,reduceCtorEq,Nat.reduceAdd,Nat.reduceLeDiff,reduceIte];rfl)
  ⟨by omega,by omega,[],[],[],by simp,by simp[aP],⟨by simp,by simp⟩,by simp⟩ ?_
 rintro i g h' ⟨hg,hi,D,Sd,t,rfl,hD,hO,hlo⟩
 simp(disch:=omega) only[yp,hl,aB,SQ,SU,SL,reduceCtorEq,Nat.reduceAdd,Nat.reduceLeDiff,reduceIte]
 have hDl:D.length=i * T.size:=by
  have:=hD.len Rp.Ag
  rw[List.length_take,Nat.min_eq_left hi]at this
  exact this
 refine aw (fun hlt=> ?_) (fun hlt=> ?_)
 ·have hix:i < xs.length:=by omega
  obtain⟨Si,hx⟩:=hel.at hix
  have hcells:=sD (hce (by omega)).1
  have hb2:off+i * T.size+T.size≤bs.length:=by
   have:=Nat.mul_le_mul_right T.size hix
   rw[Nat.succ_mul]at this
   omega
  simp(disch:=omega) only[yp,hl,hat i hix,hcells,aK,aB,SQ,SU,SL,reduceCtorEq,Nat.reduceAdd,Nat.reduceLeDiff,reduceIte]
  have hwt:=yo (List.getElem?_eq_getElem hix)
  have hwl:=wB xs (i+1)
  refine aT (hE (hx.app (t:= .own ty (D++(List.replicate (xs.length - i) z).flatten)::t)) (by omega)) ?_
  rintro r h'' ⟨t',cs',S2,rfl,rfl,hr,hO2,hlo2⟩
  have hcl:=hr.size
  have hfit:i * T.size+T.size≤(D++(List.replicate (xs.length - i) z).flatten).length:=by
   have e1:xs.length - i=(xs.length - (i+1))+1:=by omega
   rw[List.length_append,AK hz,hDl,e1,Nat.add_mul,Nat.one_mul]
   omega
  have hset:=Bv hDl hz hcl hix
  simp(disch:=omega) only[ae,Cq,Int.toNat_natCast,List.append_assoc,List.cons_append,fb,xW,hcl,hset,hfit,aK,aB,SQ,SU,SL,reduceCtorEq,Nat.reduceAdd,Nat.reduceLeDiff,reduceIte]
  have hd1:∀j∈Sd,j≠h.length:=fun j hj=>by have:=hlo j hj;omega
  have hd2:∀j∈S2,j≠h.length:=fun j hj=>by have:=hlo2 j hj;simp at this;omega
  have hdl:∀j∈Sd,j < (h++qv.own ty (D++(List.replicate (xs.length - i) z).flatten)::t).length:=hD.lt
  refine⟨i+1,xs.length - (i+1),by omega,rfl,rfl,by omega,D++cs',Sd++S2,t++t',by rw[List.append_assoc],?_,⟨?_,?_⟩,?_⟩
  ·have e1:xs.take (i+1)=xs.take i++ [xs[i]]:=by rw[List.take_add_one,List.getElem?_eq_getElem hix];rfl
   rw[e1]
   refine(hD.imp fun c x S' hs hx=> ?_).join (aP.one ?_)
   ·have:=hx.app (t:=t')
    rw[List.append_assoc,List.cons_append]at this
    exact this.HT fun j hj=>hd1 j (hs j hj)
   ·rw[List.append_assoc,List.cons_append]at hr
    exact hr.HT hd2
  ·rw[List.nodup_append]
   refine⟨hO.1,hO2.1,fun a ha b hb e=> ?_⟩
   have h1:=hdl a ha
   have h2:=hlo2 b hb
   omega
  ·intro j hj
   rcases List.mem_append.1 hj with hj|hj
   ·have:=(hO.app (t:=t'))
    rw[List.append_assoc,List.cons_append]at this
    exact(this.HT (b':= .own ty (D++(cs'++(List.replicate (xs.length - (i+1)) z).flatten))) hd1).2 j hj
   ·have:=hO2
    rw[List.append_assoc,List.cons_append]at this
    exact(this.HT (b':= .own ty (D++(cs'++(List.replicate (xs.length - (i+1)) z).flatten))) hd2).2 j hj
  ·intro j hj
   rcases List.mem_append.1 hj with hj|hj
   ·exact hlo j hj
   ·have:=hlo2 j hj
    simp at this
    omega
 ·simp(disch:=omega) only[yp,SQ,SU,SL,reduceCtorEq,Nat.reduceAdd,Nat.reduceLeDiff,reduceIte]
  have hi':i=xs.length:=by omega
  subst hi'
  refine⟨_,[.sl h.length 0 xs.length T.size],h.length::Sd,rfl,rfl,?_,⟨List.nodup_cons.2 ⟨fun hm=>absurd (hlo _ hm) (by omega),hO.1⟩,fun j hj=> ?_⟩,fun j hj=> ?_⟩
  ·refine⟨xs,rfl,by simp only[maxLen];omega, .inr ⟨h.length,0,_,Sd,_,rfl,az (fb h _ t),?_,rfl,?_, .inl rfl⟩⟩
   ·simp[hDl]
   ·have e1:(List.drop 0 (D++(List.replicate (xs.length - xs.length) z).flatten)).take (xs.length * T.size)=D:=by
     simp[←hDl]
    rw[e1]
    rw[List.take_length]at hD
    exact hD
  ·rcases List.mem_cons.1 hj with rfl|hj
   ·exact⟨_,_,fb h _ t⟩
   ·exact hO.2 j hj
  ·rcases List.mem_cons.1 hj with rfl|hj
   ·exact Nat.le_refl _
   ·exact Nat.le_of_lt (hlo j hj)
theorem aP.turn {h:H} {T:Ty}:∀ {xs:List Tv} {cs:List C} {S:List Nat},aP (Rp h T) xs cs S→S.Nodup→∀ {i:Nat} {x:Tv},xs[i]? =some x→
 ∃Si,Rp h T ((cs.drop (i * T.size)).take T.size) x Si∧(∀j∈Si,j∈S)∧Si.Nodup∧
  ∀(h':H) (x':Tv) (c':List C),(∀j∈S,j∉Si→h'.cells j=h.cells j)→Rp h' T c' x' Si→aP (Rp h' T) (xs.set i x') (aE cs (i * T.size) c') S:=by
 intro xs cs S hr hn i x hx
 obtain⟨S1,Si,S2,k1,k2,k3,k4⟩:=hr.split Rp.Ag hx
 rw[k1,List.nodup_append]at hn
 obtain⟨n1,n2,n3⟩:=hn
 rw[List.nodup_append]at n2
 obtain⟨n4,n5,n6⟩:=n2
 have hlt:=(List.getElem?_eq_some_iff.1 hx).1
 have hlen:=hr.len Rp.Ag
 refine⟨Si,k3,fun j hj=>by rw[k1];simp[hj],n4,fun h' x' c' hf hx'=> ?_⟩
 have hcl:=hx'.size
 have hle:(i+1) * T.size≤xs.length * T.size:=Nat.mul_le_mul_right _ hlt
 have e1:(i+1) * T.size=i * T.size+T.size:=by rw[Nat.add_mul,Nat.one_mul]
 rw[cm _ _ _ (by omega),List.set_eq_take_append_cons_drop,if_pos hlt,k1,hcl,←e1]
 have a1:aP (Rp h' T) (xs.take i) (cs.take (i * T.size)) S1:=k2.imp fun c y S' hs hy=>hy.frame fun j hj=>hf j (by rw[k1];simp[hs j hj]) (fun hm=>n3 j (hs j hj) j (by simp[hm]) rfl)
 have a2:aP (Rp h' T) (xs.drop (i+1)) (cs.drop ((i+1) * T.size)) S2:=k4.imp fun c y S' hs hy=>hy.frame fun j hj=>hf j (by rw[k1];simp[hs j hj]) (fun hm=>n6 j hm j (hs j hj) rfl)
 rw[List.append_assoc]
 refine a1.join ?_
 exact(aP.one hx').join a2
theorem Bg {α:Type} {cs:List α} {o n:Nat} (h:o+n≤cs.length):aE cs o ((cs.drop o).take n)=cs:=by
 have hl:((cs.drop o).take n).length=n:=by simp;omega
 rw[cm _ _ _ (by omega),hl,List.append_assoc]
 have:(cs.drop o).take n++cs.drop (o+n)=cs.drop o:=by rw[←List.drop_drop,List.take_append_drop]
 rw[this,List.take_append_drop]
theorem rR (f:Tv→Nat→Tv) (g:Tv→Nat):∀(xs ys:List Tv) (n:Nat),nm f g (xs++ys) n=nm f g xs n++nm f g ys (n+(xs.map g).sum)
 | [],ys,n=>by simp[nm]
 |x::xs,ys,n=>by
  simp only[List.cons_append,nm,rR f g xs,List.map_cons,List.sum_cons]
  congr 3
  omega
theorem bV (f:Tv→Nat→Tv) (g:Tv→Nat):∀(xs:List Tv) (n:Nat),(nm f g xs n).length=xs.length
 | [],n=>rfl
 |x::xs,n=>by simp[nm,bV f g xs]
theorem kI {g:Tv→Nat} {xs:List Tv} {i:Nat} {x:Tv} (h:xs[i]? =some x):((xs.take (i+1)).map g).sum=((xs.take i).map g).sum+g x:=by
 rw[List.take_add_one,h]
 simp
theorem sY {g:Tv→Nat} (xs:List Tv) (i:Nat):((xs.take i).map g).sum≤(xs.map g).sum:=by
 have:=List.take_append_drop i xs
 have e:(xs.map g).sum=((xs.take i).map g).sum+((xs.drop i).map g).sum:=by
  rw[←List.sum_append,←List.map_append,this]
 omega
def B6 (T:Ty) (xs:List Tv) (n i:Nat):List Tv:=nm (jh T) (aD T) (xs.take i) n++xs.drop i
theorem wE {T:Ty} {xs:List Tv} {n i:Nat} (hi:i < xs.length):(B6 T xs n i)[i]? =some xs[i]:=by
 unfold B6
 have hl:(nm (jh T) (aD T) (xs.take i) n).length=i:=by rw[bV,List.length_take];omega
 rw[List.getElem?_append_right (by omega),hl,Nat.sub_self,List.getElem?_drop,Nat.add_zero,List.getElem?_eq_getElem hi]
theorem tf {T:Ty} {xs:List Tv} {n i:Nat} (hi:i < xs.length):(B6 T xs n i).set i (jh T xs[i] (n+((xs.take i).map (aD T)).sum))=B6 T xs n (i+1):=by
 unfold B6
 have hl:(nm (jh T) (aD T) (xs.take i) n).length=i:=by rw[bV,List.length_take];omega
 have e1:xs.take (i+1)=xs.take i++ [xs[i]]:=by rw[List.take_add_one,List.getElem?_eq_getElem hi];rfl
 rw[List.set_append_right _ _ (by omega),hl,Nat.sub_self,List.drop_eq_getElem_cons hi,List.set_cons_zero,e1,rR]
 simp[nm]
theorem wh {T:Ty} {xs:List Tv} {n:Nat}:B6 T xs n xs.length=nm (jh T) (aD T) xs n:=by simp[B6]
theorem sv {T:Ty} {xs:List Tv} {n:Nat}:B6 T xs n 0=xs:=by simp[B6,nm]
theorem cI.refl {h:H} {S:List Nat} (ho:∀i∈S,∃ty cs,h[i]? =some (.own ty cs)):cI h h S:=⟨rfl,fun _ _=>rfl,ho⟩
theorem cI.more {h h1 h2:H} {S S':List Nat} (h0:cI h h1 S) (h':cI h1 h2 S') (hs:∀i∈S',i∈S):cI h h2 S:=by
 refine⟨h'.1.trans h0.1,fun i hi=>(h'.2.1 i (fun hm=>hi (hs i hm))).trans (h0.2.1 i hi),fun i hi=> ?_⟩
 by_cases hm:i∈S'
 ·exact h'.2.2 i hm
 ·rw[h'.2.1 i hm];exact h0.2.2 i hi
theorem cI.mh {h h':H} {S S':List Nat} (hw:cI h h' S) (ho:bW h S'):bW h' S':=⟨ho.1,fun i hi=>by
 by_cases hm:i∈S
 ·exact hw.2.2 i hm
 ·rw[hw.2.1 i hm];exact ho.2 i hi⟩
theorem Rp.wrote {h h':H} {S S':List Nat} {T:Ty} {cs:List C} {v:Tv} (hr:Rp h T cs v S') (hw:cI h h' S) (hd:∀i∈S',i∉S):Rp h' T cs v S':=hr.frame fun i hi=>bF (hw.2.1 i (hd i hi))
theorem iL {t:Ty} {v:Tv} {n:Nat}:nG (.sl t) v n=jh (.sl t) v n:=by cases v <;>rfl
theorem aO {t:Ty} {v:Tv}:ic (.sl t) v=aD (.sl t) v:=by cases v <;>rfl
theorem H3 {cd:Nat→Option AF} {g0 gE:Nat} {t:Ty} (hcd:cd g0=some (xS gE)) (hE:fA cd gE (.sl t)):fA cd g0 (.sl (.sl t)):=by
 intro h cs v S k hv ho hk
 obtain⟨c,xs,id,off,bs,S',rfl,rfl,hm,hl,hat,hce,hbs,hel,hS⟩:=hv.view
 have hcn:ic (.sl (.sl t)) (.l xs)=(xs.map (aD (.sl t))).sum:=rfl
 have hmk:nG (.sl (.sl t)) (.l xs) k= .l (nm (jh (.sl t)) (aD (.sl t)) xs k):=rfl
 rw[hcn]at hk⊢
 rw[hmk]
 have hsub:∀j∈S',j∈S:=fun j hj=>by
  rcases hS with e|⟨_,_,e⟩
  ·rw[e];simp[hj]
  ·rw[e]at hj;cases hj
 have hnd:S'.Nodup:=by
  rcases hS with e|⟨_,_,e⟩
  ·have:=ho.1
   rw[e]at this
   exact(List.nodup_cons.1 this).2
  ·rw[e];simp
 have hid:0 < xs.length→id∉S'∧id∈S:=fun hp=>by
  rcases hS with e|⟨e,_,_⟩
  ·have:=ho.1
   rw[e]at this
   exact⟨(List.nodup_cons.1 this).1,by rw[e];simp⟩
  ·rw[e]at hp;simp at hp
 have hs1:(Ty.sl t).size=1:=rfl
 refine aC hcd rfl ?_
 simp(disch:=omega) only[xS,SQ,SU,SL,reduceCtorEq,Nat.reduceAdd,Nat.reduceLeDiff,reduceIte]
 refine cP (σ:=Nat) (f1:=_) (by simp only[SQ,SU,SL,reduceCtorEq,Nat.reduceAdd,Nat.reduceLeDiff,reduceIte];rfl) (fun i=> [(5, .val false [.int .i64 i]),(1, .val false [.int .i64 ((k+((xs.take i).map (aD (.sl t))).sum:Nat):Int)])])
  (fun i g h'=>g=xs.length - i∧i≤xs.length∧cI h h' S∧(∀j,j∉S'→h'[j]? =h[j]?)∧aP (Rp h' (.sl t)) (B6 (.sl t) xs k i) ((bs.drop off).take (xs.length * (Ty.sl t).size)) S') 0 xs.length (by simp only[SQ,SU,SL,List.map_nil,List.sum_nil,reduceCtorEq,Nat.reduceAdd,Nat.reduceLeDiff,reduceIte];rfl)
  ⟨by omega,by omega,cI.refl ho.2,fun _ _=>rfl,by rw[sv];exact hel⟩ ?_
 rintro i g h' ⟨hg,hi,hw,hsame,he⟩
 simp(disch:=omega) only[xS,hl,aB,SQ,SU,SL,reduceCtorEq,Nat.reduceAdd,Nat.reduceLeDiff,reduceIte]
 refine aw (fun hlt=> ?_) (fun hlt=> ?_)
 ·have hix:i < xs.length:=by omega
  have hsi:=kI (g:=aD (.sl t)) (List.getElem?_eq_getElem hix)
  have hsl:=sY (g:=aD (.sl t)) xs (i+1)
  obtain⟨Si,k1,k2,k3,k4⟩:=he.turn hnd (wE hix)
  rw[eW hix]at k1
  have hcell:h'.cells id=some bs:=by
   rw[bF (hsame id (hid (by omega)).1)]
   exact(hce (by omega)).1
  rw[hs1,Nat.mul_one]at k1
  have hat':=hat i hix
  rw[hs1,Nat.mul_one]at hat'
  have hbs':off+xs.length≤bs.length:=by rw[hs1,Nat.mul_one]at hbs;exact hbs
  simp(disch:=omega) only[xS,hl,hat',hcell,aK,aB,SQ,SU,SL,reduceCtorEq,Nat.reduceAdd,Nat.reduceLeDiff,reduceIte]
  refine aT (hE k1 ⟨k3,fun j hj=>(hw.mh ho).2 j (hsub j (k2 j hj))⟩ (by rw[aO];omega)) ?_
  rintro r h'' ⟨rfl,hw2,hr2⟩
  simp(disch:=omega) only[ae,aB,aO,SQ,SU,SL,reduceCtorEq,Nat.reduceAdd,Nat.reduceLeDiff,reduceIte]
  refine⟨i+1,xs.length - (i+1),by omega,?_,rfl,by omega,hw.more hw2 (fun j hj=>hsub j (k2 j hj)),fun j hj=> ?_,?_⟩
  ·have e1:k+((xs.take (i+1)).map (aD (.sl t))).sum=k+((xs.take i).map (aD (.sl t))).sum+aD (.sl t) xs[i]:=by omega
   rw[e1]
   rfl
  ·rw[hw2.2.1 j (fun hm=>hj (k2 j hm))]
   exact hsame j hj
  ·rw[iL]at hr2
   have k5:=k4 h'' _ _ (fun j hj hn=>bF (hw2.2.1 j hn)) hr2
   rw[tf hix]at k5
   have e2:aE ((bs.drop off).take (xs.length * (Ty.sl t).size)) (i * (Ty.sl t).size) ((bs.drop (off+i)).take 1)=(bs.drop off).take (xs.length * (Ty.sl t).size):=by
    have e3:(bs.drop (off+i)).take 1=(((bs.drop off).take (xs.length * (Ty.sl t).size)).drop (i * (Ty.sl t).size)).take (Ty.sl t).size:=by
     rw[eW hix,hs1,Nat.mul_one]
    rw[e3]
    refine Bg ?_
    rw[hs1]
    simp
    omega
   rw[e2]at k5
   simpa only[hs1,Nat.mul_one]using k5
 ·simp(disch:=omega) only[xS,SQ,SU,SL,reduceCtorEq,Nat.reduceAdd,Nat.reduceLeDiff,reduceIte]
  have hi':i=xs.length:=by omega
  subst hi'
  rw[wh]at he
  rw[List.take_length]
  refine⟨rfl,hw,?_⟩
  by_cases hp:0 < xs.length
  ·refine⟨_,rfl,?_, .inr ⟨id,off,bs,S',(Ty.sl t).size,?_,?_,?_,?_,?_, .inl rfl⟩⟩
   ·rw[bV];simp only[maxLen];omega
   ·rw[bV];rw[(hce hp).2]
   ·rw[bF (hsame id (hid hp).1)];exact(hce hp).1
   ·rw[bV];exact hbs
   ·rcases hS with e|⟨e,_⟩
    ·exact e
    ·rw[e]at hp;simp at hp
   ·rw[bV];exact he
  ·have hx:xs= []:=List.eq_nil_of_length_eq_zero (by omega)
   subst hx
   refine⟨[],rfl,by simp,?_⟩
   obtain⟨zs,e1,_,e2⟩:=hv.sl
   simp at e1
   subst e1
   rcases e2 with e2|⟨id2,off2,bs2,S2,e3,f1,f2,f3,f4,f5,f6⟩
   ·exact .inl e2
   ·have hS2:S2= []:=by simp[aP]at f5;exact f5
    refine .inr ⟨id2,off2,bs2,S2,e3,f1,?_,f3,f4,by simp[aP];exact hS2, .inr rfl⟩
    have hid2:id2∉S':=fun hm=>by
     rcases hS with e|⟨_,e,_⟩
     ·rw[f4,hS2]at e
      have:S'= []:=((List.cons.inj e).2).symm
      rw[this]at hm;cases hm
     ·rw[f4]at e;cases e
    rw[bF (hsame id2 hid2)]
    exact f2
theorem HQ {cd:Nat→Option AF} {g0 gE:Nat} {t:Ty} (hcd:cd g0=some (xH gE)) (hE:ny cd gE (.sl t)):ny cd g0 (.sl (.sl t)):=by
 intro h cs v S k hT hv hk
 by_cases hsl:∃xs,v= .l xs
 case neg=>
  obtain⟨xs,e,_⟩:=hv.sl
  cases v <;>simp[nG]at e
  exact absurd ⟨_,rfl⟩ hsl
 obtain⟨zs,rfl⟩:=hsl
 have hTe:∀i (hi:i < zs.length),IK (.sl t) zs[i]:=fun i hi=>by
  obtain⟨h0,cs0,S0,hT⟩:=hT
  obtain⟨_,ys,_,_,_,_,_,e,_,_,_,_,_,hel0,_⟩:=hT.view
  simp at e
  subst e
  obtain⟨Si,hx⟩:=hel0.at hi
  exact⟨_,_,_,hx⟩
 obtain⟨c,xs,id,off,bs,S',rfl,hxs,hm,hl,hat,hce,hbs,hel,hS⟩:=hv.view
 have hcn:ic (.sl (.sl t)) (.l zs)=(zs.map (aD (.sl t))).sum:=rfl
 rw[hcn]at hk⊢
 have hxs':xs=nm (jh (.sl t)) (aD (.sl t)) zs k:=by
  have e:nG (.sl (.sl t)) (.l zs) k= .l (nm (jh (.sl t)) (aD (.sl t)) zs k):=rfl
  rw[e]at hxs
  exact(by simpa using hxs.symm)
 have hlen:xs.length=zs.length:=by rw[hxs',bV]
 have hs1:(Ty.sl t).size=1:=rfl
 refine aC hcd rfl ?_
 simp(disch:=omega) only[xH,SQ,SU,SL,reduceCtorEq,Nat.reduceAdd,Nat.reduceLeDiff,reduceIte]
 refine cP (σ:=Nat) (f1:=_) (by simp only[SQ,SU,SL,reduceCtorEq,Nat.reduceAdd,Nat.reduceLeDiff,reduceIte];rfl) (fun i=> [(5, .val false [.int .i64 i]),(1, .val false [.int .i64 ((k+((zs.take i).map (aD (.sl t))).sum:Nat):Int)])])
  (fun i g h'=>g=xs.length - i∧i≤xs.length∧h'=h) 0 xs.length (by simp only[SQ,SU,SL,List.map_nil,List.sum_nil,reduceCtorEq,Nat.reduceAdd,Nat.reduceLeDiff,reduceIte];rfl) ⟨by omega,by omega,rfl⟩ ?_
 rintro i g h' ⟨hg,hi,rfl⟩
 simp(disch:=omega) only[xH,hl,aB,SQ,SU,SL,reduceCtorEq,Nat.reduceAdd,Nat.reduceLeDiff,reduceIte]
 refine aw (fun hlt=> ?_) (fun hlt=> ?_)
 ·have hix:i < xs.length:=by omega
  have hiz:i < zs.length:=by omega
  have hsi:=kI (g:=aD (.sl t)) (List.getElem?_eq_getElem hiz)
  have hsl:=sY (g:=aD (.sl t)) zs (i+1)
  obtain⟨Si,k1⟩:=hel.at hix
  have hxi:xs[i]=nG (.sl t) zs[i] (k+((zs.take i).map (aD (.sl t))).sum):=by
   rw[iL]
   have e1:xs[i]? =some (jh (.sl t) zs[i] (k+((zs.take i).map (aD (.sl t))).sum)):=by
    rw[hxs']
    have e2:zs=zs.take i++zs[i]::zs.drop (i+1):=by rw[←List.drop_eq_getElem_cons hiz,List.take_append_drop]
    conv=>lhs;rw[e2,rR,nm]
    have hl2:(nm (jh (.sl t)) (aD (.sl t)) (zs.take i) k).length=i:=by rw[bV,List.length_take];omega
    rw[List.getElem?_append_right (by omega),hl2,Nat.sub_self,List.getElem?_cons_zero]
   rw[List.getElem?_eq_getElem hix]at e1
   simpa using e1
  rw[hxi]at k1
  rw[hs1,Nat.mul_one]at k1
  have hat':=hat i hix
  rw[hs1,Nat.mul_one]at hat'
  have hbs':off+xs.length≤bs.length:=by rw[hs1,Nat.mul_one]at hbs;exact hbs
  simp(disch:=omega) only[xH,hl,hat',(hce (by omega)).1,aK,aB,SQ,SU,SL,reduceCtorEq,Nat.reduceAdd,Nat.reduceLeDiff,reduceIte]
  refine aT (hE (hTe i hiz) k1 (by rw[aO];omega)) ?_
  rintro r h'' ⟨rfl,rfl⟩
  simp(disch:=omega) only[ae,aB,aO,SQ,SU,SL,reduceCtorEq,Nat.reduceAdd,Nat.reduceLeDiff,reduceIte]
  refine aw (fun hn=> ?_) (fun hn=> ?_)
  ·omega
  ·simp(disch:=omega) only[aB,SQ,SU,SL,reduceCtorEq,Nat.reduceAdd,Nat.reduceLeDiff,reduceIte]
   refine⟨i+1,xs.length - (i+1),by omega,?_,rfl,by omega⟩
   have e1:k+((zs.take (i+1)).map (aD (.sl t))).sum=k+((zs.take i).map (aD (.sl t))).sum+aD (.sl t) zs[i]:=by omega
   rw[e1]
   rfl
 ·simp(disch:=omega) only[xH,SQ,SU,SL,reduceCtorEq,Nat.reduceAdd,Nat.reduceLeDiff,reduceIte]
  have:i=zs.length:=by omega
  rw[this,List.take_length]
theorem eN.go {cd:Nat→Option AF} {g:Nat} {T:Ty} (hE:eN cd g T) {h:H} {cs:List C} {v:Tv} {S:List Nat} (hv:Rp h T cs v S) {k:Nat} (hk:k≤1048576) {K:V→H→Prop}
 (h1:wt v≤k→K (.val false [.int .i64 ((k - wt v:Nat):Int)]) h) (h2:¬wt v≤k→K (.val false [.int .i64 (-1)]) h):WC cd g [(T.agg,cs),(false,[.int .i64 k])] h K:=by
 refine aT (hE hv hk) ?_
 rintro r h' ⟨rfl,rfl⟩
 by_cases hf:wt v≤k
 ·rw[if_pos hf]
  have:(k:Int) - wt v=((k - wt v:Nat):Int):=by omega
  rw[this]
  exact h1 hf
 ·rw[if_neg hf];exact h2 hf
theorem dO.go {cd:Nat→Option AF} {g:Nat} {T:Ty} (hE:dO cd g T) {h:H} {ca cb:List C} {va vb:Tv} {Sa Sb:List Nat} (ha:Rp h T ca va Sa) (hb:Rp h T cb vb Sb) {K:V→H→Prop}
 (h1:va=vb→K (.val false [.bool true]) h) (h2:¬va=vb→K (.val false [.bool false]) h):WC cd g [(T.agg,ca),(T.agg,cb)] h K:=by
 refine aT (hE ha hb) ?_
 rintro r h' ⟨rfl,rfl⟩
 by_cases hf:va=vb
 ·simp only[hf,decide_true];exact h1 hf
 ·simp only[hf,decide_false];exact h2 hf
theorem Rs.nil {h:H}:Rs h [] [] [] []:=⟨rfl,rfl,rfl⟩
theorem Rs.mk {h:H} {t:Ty} {ts:List Ty} {c1 c2:List C} {v:Tv} {vr:List Tv} {S1 S2:List Nat} (h1:Rp h t c1 v S1) (h2:Rs h ts c2 vr S2):Rs h (t::ts) (c1++c2) (v::vr) (S1++S2):=⟨c1,c2,v,vr,S1,S2,rfl,rfl,rfl,h1,h2⟩
theorem Rp.mkInt {h:H} {k:IntKind} {n:Int} (h1:k.min≤n) (h2:n≤k.max):Rp h (.int k) [.int k n] (.i n) []:=⟨n,rfl,rfl,rfl,h1,h2⟩
def uk (h0 h1:H) (S:List Nat):Prop:=bW h1 S∧h0.length≤h1.length∧∀i∈S,h0.length≤i∧i < h1.length
theorem uk.nil (h:H):uk h h []:=⟨⟨by simp,by simp⟩,Nat.le_refl _,by simp⟩
theorem uk.step {h0 h1 t:H} {S1 S2:List Nat} (h:uk h0 h1 S1) (hl:∀i∈S2,i < (h1++t).length) (ho:bW (h1++t) S2) (hg:∀i∈S2,h1.length≤i):uk h0 (h1++t) (S1++S2):=by
 refine⟨⟨List.nodup_append.2 ⟨h.1.1,ho.1,fun a ha b hb e=> ?_⟩,fun i hi=> ?_⟩,by have:=h.2.1;simp;omega,fun i hi=> ?_⟩
 ·have h1:=(h.2.2 a ha).2
  have h2:=hg b hb
  omega
 ·rcases List.mem_append.1 hi with hi|hi
  ·exact(h.1.app (t:=t)).2 i hi
  ·exact ho.2 i hi
 ·rcases List.mem_append.1 hi with hi|hi
  ·have:=h.2.2 i hi
   simp
   omega
  ·have:=h.2.1
   have:=hg i hi
   exact⟨by omega,hl i hi⟩
theorem uk.both {h0 h1:H} {S:List Nat} (h:uk h0 h1 S):bW h1 S∧∀i∈S,h0.length≤i:=⟨h.1,fun i hi=>(h.2.2 i hi).1⟩
theorem fA.go {cd:Nat→Option AF} {g:Nat} {T:Ty} (hE:fA cd g T) {h:H} {cs:List C} {v:Tv} {S:List Nat} {k:Nat} (hv:Rp h T cs v S) (ho:bW h S) (hk:k+ic T v≤1152921504606846976) {K:V→H→Prop}
 (h1:∀h',cI h h' S→Rp h' T cs (nG T v k) S→K (.val false [.int .i64 ((k+ic T v:Nat):Int)]) h'):WC cd g [(T.agg,cs),(false,[.int .i64 k])] h K:=by
 refine aT (hE hv ho hk) ?_
 rintro r h' ⟨rfl,a,b⟩
 exact h1 h' a b
theorem ny.go {cd:Nat→Option AF} {g:Nat} {T:Ty} (hE:ny cd g T) {h:H} {cs:List C} {v:Tv} {S:List Nat} {k:Nat} (hT:IK T v) (hv:Rp h T cs (nG T v k) S) (hk:k+ic T v≤1152921504606846976) {K:V→H→Prop}
 (h1:K (.val false [.int .i64 ((k+ic T v:Nat):Int)]) h):WC cd g [(T.agg,cs),(false,[.int .i64 k])] h K:=by
 refine aT (hE hT hv hk) ?_
 rintro r h' ⟨rfl,rfl⟩
 exact h1
theorem bW.split {h:H} {A B:List Nat} (ho:bW h (A++B)):bW h A∧bW h B∧(∀i∈A,i∉B)∧∀i∈B,i∉A:=by
 obtain⟨h1,h2⟩:=ho
 rw[List.nodup_append]at h1
 exact⟨⟨h1.1,fun i hi=>h2 i (by simp[hi])⟩,⟨h1.2.1,fun i hi=>h2 i (by simp[hi])⟩,fun i hi hn=>h1.2.2 i hi i hn rfl,fun i hi hn=>h1.2.2 i hn i hi rfl⟩
theorem Rs.zo {h:H} {t:Ty} {ts:List Ty} {cs:List C} {o:Nat} {v:Tv} {vr:List Tv} {S1 S2:List Nat} (h1:Rp h t ((cs.drop o).take t.size) v S1) (h2:Rs h ts (cs.drop (o+t.size)) vr S2):Rs h (t::ts) (cs.drop o) (v::vr) (S1++S2):=by
 refine⟨_,_,v,vr,S1,S2,?_,rfl,rfl,h1,h2⟩
 rw[←List.drop_drop,List.take_append_drop]
theorem Rs.fin {h:H} {cs:List C} {o:Nat} (e:cs.length≤o):Rs h [] (cs.drop o) [] []:=⟨List.drop_eq_nil_of_le e,rfl,rfl⟩
theorem Rp.F2 {h:H} {t:Ty} {cs ds:List C} {v:Tv} {S:List Nat} (e:cs=ds) (hr:Rp h t ds v S):Rp h t cs v S:=by subst e;exact hr
theorem Rp.set {h:H} {id:Nat} {b:qv} {T:Ty} {cs:List C} {v:Tv} {S:List Nat} (hr:Rp h T cs v S) (hn:id∉S):Rp (h.set id b) T cs v S:=hr.frame fun i hi=>bF (bu (fun e=>hn (e▸hi)))
theorem bW.set {h:H} {id ty:Nat} {cs:List C} {S:List Nat} (ho:bW h S) (hl:id < h.length):bW (h.set id (.own ty cs)) S:=⟨ho.1,fun i hi=>by
 by_cases e:i=id
 ·subst e;exact⟨ty,cs,cf hl⟩
 ·rw[bu e];exact ho.2 i hi⟩
theorem cI.set {h h':H} {id ty:Nat} {cs:List C} {S:List Nat} (hw:cI h h' S) (hi:id∈S) (hl:id < h'.length):cI h (h'.set id (.own ty cs)) S:=by
 refine⟨by rw[List.length_set];exact hw.1,fun i hn=> ?_,fun i hm=> ?_⟩
 ·rw[bu (fun e=>hn (by rw[e];exact hi))];exact hw.2.1 i hn
 ·by_cases e:i=id
  ·subst e;exact⟨ty,cs,cf hl⟩
  ·rw[bu e];exact hw.2.2 i hm
theorem bd (pre l:List C) (j n:Nat):((pre++l).drop (pre.length+j)).take n=(l.drop j).take n:=by
 rw[List.drop_append,List.drop_eq_nil_of_le (by omega)]
 simp
theorem aW (pre l:List C) (n:Nat):((pre++l).drop pre.length).take n=l.take n:=by simp
theorem et (pre l:List C) (j:Nat) (x:C):(pre++l).set (pre.length+j) x=pre++l.set j x:=by
 rw[List.set_append_right _ _ (by omega)]
 simp
theorem eD (pre l:List C) (x:C):(pre++l).set pre.length x=pre++l.set 0 x:=by
 rw[List.set_append_right _ _ (by omega)]
 simp
theorem zL {bs l:List C} {o e:Nat} (hx:(bs.drop o).take e=l) (hl:o+e≤bs.length):∃pre post,pre.length=o∧bs=pre++(l++post):=
 ⟨bs.take o,bs.drop (o+e),by simp;omega,by rw[←hx,←List.drop_drop,List.take_append_drop,List.take_append_drop]⟩
theorem Cd {pre l l' post:List C} {off a m:Nat} (hp:pre.length=off+a) (hl:l'.length=l.length) (ha:a+l.length≤m):((pre++(l'++post)).drop off).take m=aE (((pre++(l++post)).drop off).take m) a l':=by
 have hd:∀z:List C,(pre++z).drop off=pre.drop off++z:=fun z=>by rw[List.drop_append];simp[show off - pre.length=0 by omega]
 have hpl:(pre.drop off).length=a:=by simp;omega
 rw[hd,hd]
 by_cases hm:a+l.length≤(pre.drop off++(l++post)).length∧True
 ·rw[cm _ _ _ (by simp only[List.length_take,List.length_append,hpl,hl];omega)]
  rw[List.take_take,Nat.min_eq_left (by omega)]
  have e1:(pre.drop off++(l++post)).take a=pre.drop off:=by rw[←hpl,List.take_left]
  rw[e1,hl]
  have e2:((pre.drop off++(l++post)).take m).drop (a+l.length)=post.take (m - (a+l.length)):=by
   rw[List.drop_take]
   have:(pre.drop off++(l++post)).drop (a+l.length)=post:=by
    rw[←List.append_assoc]
    have:a+l.length=(pre.drop off++l).length:=by simp only[List.length_append,hpl]
    rw[this,List.drop_left]
   rw[this]
  rw[e2]
  have e3:a+l.length=(pre.drop off++l').length:=by simp only[List.length_append,hpl,hl]
  rw[←List.append_assoc,List.take_append]
  rw[List.take_of_length_le (by rw[←e3];exact ha),←e3]
 ·exact absurd ⟨by simp only[List.length_append,hpl];omega,trivial⟩ hm
theorem c8 (n:Nat):((n:Int)+1)=((n+1:Nat):Int):=rfl
theorem Rp.mkNat {h:H} {n:Nat} (hn:n < 9223372036854775808):Rp h (.int .i64) [.int .i64 (n:Int)] (.i (IntKind.i64.wrap (n:Int))) []:=by
 rw[aB (by omega) (by omega)]
 refine⟨_,rfl,rfl,rfl,?_,?_⟩
 ·have:IntKind.i64.min= -9223372036854775808:=by decide
  omega
 ·have:IntKind.i64.max=9223372036854775807:=by decide
  omega
theorem Rp.G7 {h:H} {ts:List Ty} {cs:List C} {vs:List Tv} {S:List Nat} (hr:Rs h ts cs vs S):Rp h (.st ts) cs (.r vs) S:=⟨vs,rfl,hr⟩
theorem aX (pre l:List C) (a b n:Nat):((pre++l).drop (pre.length+a+b)).take n=(l.drop (a+b)).take n:=by rw[Nat.add_assoc,bd]
theorem eE (pre l:List C) (a b:Nat) (x:C):(pre++l).set (pre.length+a+b) x=pre++l.set (a+b) x:=by rw[Nat.add_assoc,et]
theorem aY (pre l:List C) (a b c n:Nat):((pre++l).drop (pre.length+a+b+c)).take n=(l.drop (a+b+c)).take n:=by rw[Nat.add_assoc,Nat.add_assoc,bd,Nat.add_assoc]
theorem eA (pre l:List C) (a b c:Nat) (x:C):(pre++l).set (pre.length+a+b+c) x=pre++l.set (a+b+c) x:=by rw[Nat.add_assoc,Nat.add_assoc,et,Nat.add_assoc]
theorem Rp.aL {h h' t:H} {T:Ty} {cs:List C} {v:Tv} {S:List Nat} (e:h'=h++t) (hr:Rp h T cs v S):Rp h' T cs v S:=by subst e;exact hr.app
theorem bW.aL {h h' t:H} {S:List Nat} (e:h'=h++t) (ho:bW h S):bW h' S:=by subst e;exact ho.app
theorem de {h h' t:H} (e:h'=h++t):h.length≤h'.length:=by subst e;simp
theorem ew {cs vs:List C} (h:vs.length=cs.length):aE cs 0 vs=vs:=by rw[cm _ _ _ (by omega)];simp[h]
mutual
def lv:Ty→Nat
 | .st ts=>He ts
 | .sl t=>lv t
 |_=>1
def He:List Ty→Nat
 | []=>0
 |t::ts=>lv t+He ts
end
mutual
theorem tw:∀(T:Ty) (v:Tv),aD T v≤lv T * (1+wt v)
 | .int k,v=>by
   have:aD (.int k) v=1:=rfl
   rw[this]
   show 1≤1 * (1+wt v)
   omega
 | .bool,v=>Nat.zero_le _
 | .str,v=>Nat.zero_le _
 | .sl t, .l xs=>by
   show(xs.map (aD t)).sum≤lv t * (1+(xs.length+cW xs))
   have key:∀ys:List Tv,(ys.map (aD t)).sum≤lv t * (ys.length+cW ys):=by
    intro ys
    induction ys with
    |nil=>simp
    |cons y ys ih=>
     have h1:=tw t y
     simp only[List.map_cons,List.sum_cons,List.length_cons,cW]
     have e:lv t * (ys.length+1+(wt y+cW ys))=lv t * (1+wt y)+lv t * (ys.length+cW ys):=by rw[←Nat.mul_add];congr 1;omega
     omega
   exact Nat.le_trans (key xs) (Nat.mul_le_mul_left _ (by omega))
 | .st ts, .r vs=>by
   show HJ ts vs≤He ts * (1+cW vs)
   exact Ch ts vs
 | .sl t, .i _=>Nat.zero_le _
 | .sl t, .b _=>Nat.zero_le _
 | .sl t, .s _=>Nat.zero_le _
 | .sl t, .r _=>Nat.zero_le _
 | .st t, .i _=>Nat.zero_le _
 | .st t, .b _=>Nat.zero_le _
 | .st t, .s _=>Nat.zero_le _
 | .st t, .l _=>Nat.zero_le _
theorem Ch:∀(ts:List Ty) (vs:List Tv),HJ ts vs≤He ts * (1+cW vs)
 | [],vs=>by cases vs <;>exact Nat.zero_le _
 |t::ts,[]=>Nat.zero_le _
 |t::ts,v::vs=>by
  have h1:=tw t v
  have h2:=Ch ts vs
  show aD t v+HJ ts vs≤(lv t+He ts) * (1+(wt v+cW vs))
  rw[Nat.add_mul]
  have h3:lv t * (1+wt v)≤lv t * (1+(wt v+cW vs)):=Nat.mul_le_mul_left _ (by omega)
  have h4:He ts * (1+cW vs)≤He ts * (1+(wt v+cW vs)):=Nat.mul_le_mul_left _ (by omega)
  omega
end
mutual
theorem wC:∀(T:Ty) (v:Tv),ic T v≤aD T v
 | .int k,v=>Nat.zero_le _
 | .bool,v=>Nat.zero_le _
 | .str,v=>Nat.zero_le _
 | .sl t,v=>by rw[aO];exact Nat.le_refl _
 | .st ts, .r vs=>AH ts vs
 | .st t, .i _=>Nat.zero_le _
 | .st t, .b _=>Nat.zero_le _
 | .st t, .s _=>Nat.zero_le _
 | .st t, .l _=>Nat.zero_le _
theorem AH:∀(ts:List Ty) (vs:List Tv),zC ts vs≤HJ ts vs
 | [],vs=>by cases vs <;>exact Nat.zero_le _
 |t::ts,[]=>Nat.zero_le _
 |t::ts,v::vs=>Nat.add_le_add (wC t v) (AH ts vs)
end
end Go.Eng
