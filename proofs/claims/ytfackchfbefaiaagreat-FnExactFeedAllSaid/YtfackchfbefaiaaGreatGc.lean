import Derived.Test.YtfackchfbefaiaaGreatGb
set_option linter.unusedVariables false
set_option linter.unusedSimpArgs false
set_option maxRecDepth 100000
namespace Go.Eng
theorem OD {cd:Nat→Option AF} {g gE:Nat} {T:Ty} (hcd:cd g=some (ye T.size gE T.agg)) (hE:xT cd gE T):xT cd g (.sl T):=by
 intro h cs v S k hv hk
 obtain⟨c,xs,id,off,bs,S',rfl,rfl,hm,hl,hat,hce,hbs,hel,hS⟩:=hv.view
 have hw:wt (.l xs)=xs.length+dw xs:=by simp[wt]
 rw[hw]
 refine aZ hcd rfl ?_
 simp(disch:=omega) only[ye,hl,aN,SQ,SU,SL,reduceCtorEq,Nat.reduceAdd,Nat.reduceLeDiff,reduceIte]
 refine aV (fun hb=> ?_) (fun hb=> ?_)
 ·simp(disch:=omega) only[ye,aN,SQ,SU,SL,reduceCtorEq,Nat.reduceAdd,Nat.reduceLeDiff,reduceIte]
  rw[if_neg (by omega)]
 ·simp(disch:=omega) only[ye,aN,SQ,SU,SL,reduceCtorEq,Nat.reduceAdd,Nat.reduceLeDiff,reduceIte]
  refine fX (σ:=Nat) (f1:=_) (by simp only[SQ,SU,SL,reduceCtorEq,Nat.reduceAdd,Nat.reduceLeDiff,reduceIte];rfl) (fun i=> [(5, .val false [.int .i64 i]),(1, .val false [.int .i64 ((k - xs.length - dw (xs.take i):Nat):Int)])])
   (fun i g h'=>g=xs.length - i∧i≤xs.length∧h'=h∧xs.length+dw (xs.take i)≤k) 0 xs.length ?_ ⟨by omega,by omega,rfl,by simp[dw];omega⟩ ?_
  ·have:((k - xs.length - dw (xs.take 0):Nat):Int)=(k:Int) - xs.length:=by simp[dw];omega
   rw[this]
   simp only[SQ,SU,SL,reduceCtorEq,Nat.reduceAdd,Nat.reduceLeDiff,reduceIte];rfl
  rintro i g h' ⟨hg,hi,rfl,hle⟩
  simp(disch:=omega) only[ye,hl,aN,SQ,SU,SL,reduceCtorEq,Nat.reduceAdd,Nat.reduceLeDiff,reduceIte]
  refine aV (fun hlt=> ?_) (fun hlt=> ?_)
  ·have hix:i < xs.length:=by omega
   obtain⟨Si,hx⟩:=hel.at hix
   have hsz:=hx.size
   have hb2:off+i * T.size+T.size≤bs.length:=by
    have:=Nat.mul_le_mul_right T.size hix
    rw[Nat.succ_mul]at this
    omega
   simp(disch:=omega) only[ye,hl,hat i hix,(hce (by omega)).1,bh,aN,SQ,SU,SL,reduceCtorEq,Nat.reduceAdd,Nat.reduceLeDiff,reduceIte]
   refine bW (hE hx (k:=k - xs.length - dw (xs.take i)) (by omega)) ?_
   rintro r h'' ⟨rfl,rfl⟩
   have hwt:=DH (List.getElem?_eq_getElem hix)
   have hwl:=Bc xs (i+1)
   by_cases hf:wt xs[i]≤k - xs.length - dw (xs.take i)
   ·rw[if_pos hf]
    simp(disch:=omega) only[ae,aN,SQ,SU,SL,reduceCtorEq,Nat.reduceAdd,Nat.reduceLeDiff,reduceIte]
    refine aV (fun hn=> ?_) (fun hn=> ?_)
    ·omega
    ·simp(disch:=omega) only[aN,SQ,SU,SL,reduceCtorEq,Nat.reduceAdd,Nat.reduceLeDiff,reduceIte]
     refine⟨i+1,xs.length - (i+1),by omega,?_,rfl,by omega,by omega⟩
     have:((k - xs.length - dw (xs.take (i+1)):Nat):Int)=((k - xs.length - dw (xs.take i):Nat):Int) - (wt xs[i]:Int):=by omega
     rw[this]
     rfl
   ·rw[if_neg hf]
    simp(disch:=omega) only[ae,aN,SQ,SU,SL,reduceCtorEq,Nat.reduceAdd,Nat.reduceLeDiff,reduceIte]
    refine aV (fun hn=> ?_) (fun hn=> ?_)
    ·simp(disch:=omega) only[aN,SQ,SU,SL,reduceCtorEq,Nat.reduceAdd,Nat.reduceLeDiff,reduceIte]
     rw[if_neg (by omega)]
    ·omega
  ·simp(disch:=omega) only[ye,aN,SQ,SU,SL,reduceCtorEq,Nat.reduceAdd,Nat.reduceLeDiff,reduceIte]
   have:i=xs.length:=by omega
   subst this
   rw[List.take_length]at hle⊢
   rw[if_pos (by omega)]
   congr 3
   omega
theorem F3 {cd:Nat→Option AF} {g gE:Nat} {T:Ty} (hcd:cd g=some (xM T.size gE T.agg)) (hE:cG cd gE T):cG cd g (.sl T):=by
 intro h ca cb va vb Sa Sb ha hb
 obtain⟨c1,xs,id1,off1,bs1,S1,rfl,rfl,hm1,hl1,hat1,hce1,hbs1,hel1,hS1⟩:=ha.view
 obtain⟨c2,ys,id2,off2,bs2,S2,rfl,rfl,hm2,hl2,hat2,hce2,hbs2,hel2,hS2⟩:=hb.view
 refine aZ hcd rfl ?_
 simp(disch:=omega) only[xM,hl1,hl2,aN,SQ,SU,SL,reduceCtorEq,Nat.reduceAdd,Nat.reduceLeDiff,reduceIte]
 refine aV (fun hne=> ?_) (fun hne=> ?_)
 ·simp(disch:=omega) only[xM,SQ,SU,SL,reduceCtorEq,Nat.reduceAdd,Nat.reduceLeDiff,reduceIte]
  have:¬xs=ys:=fun e=>hne (by rw[e])
  simp[this]
 ·have hlen:xs.length=ys.length:=by omega
  simp(disch:=omega) only[xM,SQ,SU,SL,reduceCtorEq,Nat.reduceAdd,Nat.reduceLeDiff,reduceIte]
  refine fX (σ:=Nat) (f1:=_) (by simp only[SQ,SU,SL,reduceCtorEq,Nat.reduceAdd,Nat.reduceLeDiff,reduceIte];rfl) (fun i=> [(5, .val false [.int .i64 i])]) (fun i g h'=>g=xs.length - i∧i≤xs.length∧h'=h∧∀j,j < i→xs[j]? =ys[j]?) 0 xs.length (by simp only[SQ,SU,SL,reduceCtorEq,Nat.reduceAdd,Nat.reduceLeDiff,reduceIte];rfl) ⟨by omega,by omega,rfl,fun j hj=>by omega⟩ ?_
  rintro i g h' ⟨hg,hi,rfl,hall⟩
  simp(disch:=omega) only[xM,hl1,hl2,aN,SQ,SU,SL,reduceCtorEq,Nat.reduceAdd,Nat.reduceLeDiff,reduceIte]
  refine aV (fun hlt=> ?_) (fun hlt=> ?_)
  ·have hix:i < xs.length:=by omega
   have hiy:i < ys.length:=by omega
   obtain⟨_,k1⟩:=hel1.at hix
   obtain⟨_,q1⟩:=hel2.at hiy
   have hb1:off1+i * T.size+T.size≤bs1.length:=by
    have:=Nat.mul_le_mul_right T.size hix
    rw[Nat.succ_mul]at this
    omega
   have hb2:off2+i * T.size+T.size≤bs2.length:=by
    have:=Nat.mul_le_mul_right T.size hiy
    rw[Nat.succ_mul]at this
    omega
   simp(disch:=omega) only[xM,hl1,hl2,hat1 i hix,hat2 i hiy,(hce1 (by omega)).1,(hce2 (by omega)).1,bh,aN,SQ,SU,SL,reduceCtorEq,Nat.reduceAdd,Nat.reduceLeDiff,reduceIte]
   refine bW (hE k1 q1) ?_
   rintro r h'' ⟨rfl,rfl⟩
   simp(disch:=omega) only[ae,aN,SQ,SU,SL,reduceCtorEq,Nat.reduceAdd,Nat.reduceLeDiff,reduceIte]
   by_cases he:xs[i]=ys[i]
   ·simp(disch:=omega) only[he,aN,SQ,SU,SL,reduceCtorEq,Nat.reduceAdd,Nat.reduceLeDiff,reduceIte]
    refine⟨i+1,xs.length - (i+1),by omega,rfl,rfl,by omega,fun j hj=> ?_⟩
    by_cases e:j=i
    ·subst e
     rw[List.getElem?_eq_getElem hix,List.getElem?_eq_getElem hiy,he]
    ·exact hall j (by omega)
   ·simp(disch:=omega) only[he,aN,SQ,SU,SL,reduceCtorEq,Nat.reduceAdd,Nat.reduceLeDiff,reduceIte]
    have:¬xs=ys:=fun e=>by subst e;exact he rfl
    simp[this]
  ·simp(disch:=omega) only[xM,SQ,SU,SL,reduceCtorEq,Nat.reduceAdd,Nat.reduceLeDiff,reduceIte]
   have:xs=ys:=List.ext_getElem? fun j=>by
    by_cases hj:j < i
    ·exact hall j hj
    ·rw[List.getElem?_eq_none (by omega),List.getElem?_eq_none (by omega)]
   simp[this]
theorem Gj {h:H} {b b':tO} {t:H} {i:Nat} (hi:i≠h.length):(h++b'::t)[i]? =(h++b::t)[i]? :=by
 by_cases hl:i < h.length
 ·rw[List.getElem?_append_left hl,List.getElem?_append_left hl]
 ·rw[List.getElem?_append_right (by omega),List.getElem?_append_right (by omega)]
  obtain⟨j,e⟩:∃j,i - h.length=j+1:=⟨i - h.length - 1,by omega⟩
  rw[e,List.getElem?_cons_succ,List.getElem?_cons_succ]
theorem dr.app {h t:H} {S:List Nat} (ho:dr h S):dr (h++t) S:=⟨ho.1,fun i hi=>by
 obtain⟨ty,cs,e⟩:=ho.2 i hi
 exact⟨ty,cs,by rw[List.getElem?_append_left (List.getElem?_eq_some_iff.1 e).1];exact e⟩⟩
theorem dr.OB {h:H} {b b':tO} {t:H} {S:List Nat} (ho:dr (h++b::t) S) (hs:∀i∈S,i≠h.length):dr (h++b'::t) S:=⟨ho.1,fun i hi=>by
 obtain⟨ty,cs,e⟩:=ho.2 i hi
 exact⟨ty,cs,by rw[Gj (b:=b) (hs i hi)];exact e⟩⟩
theorem Rp.OB {h:H} {b b':tO} {t:H} {T:Ty} {cs:List C} {v:Tv} {S:List Nat} (hr:Rp (h++b::t) T cs v S) (hs:∀i∈S,i≠h.length):Rp (h++b'::t) T cs v S:=hr.frame fun i hi=>cg (Gj (hs i hi))
theorem bq.lt {h:H} {T:Ty} {xs:List Tv} {cs:List C} {S:List Nat} (hr:bq (Rp h T) xs cs S):∀i∈S,i < h.length:=bq.all (hr.imp fun c x S' _ hx=>hx.lt)
theorem GM {z:List C} {e:Nat} (hz:z.length=e) (n:Nat):(List.replicate n z).flatten.length=n * e:=by simp[hz]
theorem Ha {D cs z:List C} {e n i:Nat} (hD:D.length=i * e) (hz:z.length=e) (hc:cs.length=e) (hi:i < n):aR (D++(List.replicate (n - i) z).flatten) (i * e) cs=(D++cs)++(List.replicate (n - (i+1)) z).flatten:=by
 have e1:n - i=(n - (i+1))+1:=by omega
 rw[du _ _ _ (by simp only[List.length_append,GM hz,hD,hc,e1,Nat.add_mul,Nat.one_mul];omega),e1,List.replicate_succ,List.flatten_cons,←hD,List.take_left,hc,List.drop_append,List.drop_eq_nil_of_le (by omega)]
 have e2:D.length+e - D.length=e:=by omega
 rw[e2,List.drop_append,List.drop_eq_nil_of_le (by omega),hz]
 simp
theorem OI {cd:Nat→Option AF} {g gE ty by_:Nat} {z:List C} {T:Ty} (hcd:cd g=some (C8 ty T.size by_ gE z T.agg)) (hby:by_≤4096) (hz:z.length=T.size) (hE:Fu cd gE T):Fu cd g (.sl T):=by
 intro h cs v S hv hw
 obtain⟨c,xs,id,off,bs,S',rfl,rfl,hm,hl,hat,hce,hbs,hel,hS⟩:=hv.view
 have hwx:xs.length+dw xs≤1048576:=by simp only[wt]at hw;omega
 have hroom:eb (xs.length * by_+xs.length)=true:=Cb (by have:=Nat.mul_le_mul (show xs.length≤1048576 by omega) hby;omega)
 refine aZ hcd rfl ?_
 simp(disch:=omega) only[C8,hl,aN,Int.toNat_natCast,hroom,bh,Int.natCast_nonneg,SQ,SU,SL,reduceCtorEq,Nat.reduceAdd,Nat.reduceLeDiff,reduceIte]
 refine fX (σ:=Nat) (f1:=_) (by simp only[SQ,SU,SL,reduceCtorEq,Nat.reduceAdd,Nat.reduceLeDiff,reduceIte];rfl) (fun i=> [(4, .val false [.int .i64 i])])
  (fun i g h'=>g=xs.length - i∧i≤xs.length∧∃D Sd t,h'=h++ .own ty (D++(List.replicate (xs.length - i) z).flatten)::t∧bq (Rp h' T) (xs.take i) D Sd∧dr h' Sd∧∀j∈Sd,h.length < j) 0 xs.length (by simp only[SQ,SU,SL,reduceCtorEq,Nat.reduceAdd,Nat.reduceLeDiff,reduceIte];rfl)
  ⟨by omega,by omega,[],[],[],by simp,by simp[bq],⟨by simp,by simp⟩,by simp⟩ ?_
 rintro i g h' ⟨hg,hi,D,Sd,t,rfl,hD,hO,hlo⟩
 simp(disch:=omega) only[C8,hl,aN,SQ,SU,SL,reduceCtorEq,Nat.reduceAdd,Nat.reduceLeDiff,reduceIte]
 have hDl:D.length=i * T.size:=by
  have:=hD.len Rp.Gn
  rw[List.length_take,Nat.min_eq_left hi]at this
  exact this
 refine aV (fun hlt=> ?_) (fun hlt=> ?_)
 ·have hix:i < xs.length:=by omega
  obtain⟨Si,hx⟩:=hel.at hix
  have hcells:=xv (hce (by omega)).1
  have hb2:off+i * T.size+T.size≤bs.length:=by
   have:=Nat.mul_le_mul_right T.size hix
   rw[Nat.succ_mul]at this
   omega
  simp(disch:=omega) only[C8,hl,hat i hix,hcells,bh,aN,SQ,SU,SL,reduceCtorEq,Nat.reduceAdd,Nat.reduceLeDiff,reduceIte]
  have hwt:=DH (List.getElem?_eq_getElem hix)
  have hwl:=Bc xs (i+1)
  refine bW (hE (hx.app (t:= .own ty (D++(List.replicate (xs.length - i) z).flatten)::t)) (by omega)) ?_
  rintro r h'' ⟨t',cs',S2,rfl,rfl,hr,hO2,hlo2⟩
  have hcl:=hr.size
  have hfit:i * T.size+T.size≤(D++(List.replicate (xs.length - i) z).flatten).length:=by
   have e1:xs.length - i=(xs.length - (i+1))+1:=by omega
   rw[List.length_append,GM hz,hDl,e1,Nat.add_mul,Nat.one_mul]
   omega
  have hset:=Ha hDl hz hcl hix
  simp(disch:=omega) only[ae,Jz,Int.toNat_natCast,List.append_assoc,List.cons_append,iK,DM,hcl,hset,hfit,bh,aN,SQ,SU,SL,reduceCtorEq,Nat.reduceAdd,Nat.reduceLeDiff,reduceIte]
  have hd1:∀j∈Sd,j≠h.length:=fun j hj=>by have:=hlo j hj;omega
  have hd2:∀j∈S2,j≠h.length:=fun j hj=>by have:=hlo2 j hj;simp at this;omega
  have hdl:∀j∈Sd,j < (h++tO.own ty (D++(List.replicate (xs.length - i) z).flatten)::t).length:=hD.lt
  refine⟨i+1,xs.length - (i+1),by omega,rfl,rfl,by omega,D++cs',Sd++S2,t++t',by rw[List.append_assoc],?_,⟨?_,?_⟩,?_⟩
  ·have e1:xs.take (i+1)=xs.take i++ [xs[i]]:=by rw[List.take_add_one,List.getElem?_eq_getElem hix];rfl
   rw[e1]
   refine(hD.imp fun c x S' hs hx=> ?_).join (bq.one ?_)
   ·have:=hx.app (t:=t')
    rw[List.append_assoc,List.cons_append]at this
    exact this.OB fun j hj=>hd1 j (hs j hj)
   ·rw[List.append_assoc,List.cons_append]at hr
    exact hr.OB hd2
  ·rw[List.nodup_append]
   refine⟨hO.1,hO2.1,fun a ha b hb e=> ?_⟩
   have h1:=hdl a ha
   have h2:=hlo2 b hb
   omega
  ·intro j hj
   rcases List.mem_append.1 hj with hj|hj
   ·have:=(hO.app (t:=t'))
    rw[List.append_assoc,List.cons_append]at this
    exact(this.OB (b':= .own ty (D++(cs'++(List.replicate (xs.length - (i+1)) z).flatten))) hd1).2 j hj
   ·have:=hO2
    rw[List.append_assoc,List.cons_append]at this
    exact(this.OB (b':= .own ty (D++(cs'++(List.replicate (xs.length - (i+1)) z).flatten))) hd2).2 j hj
  ·intro j hj
   rcases List.mem_append.1 hj with hj|hj
   ·exact hlo j hj
   ·have:=hlo2 j hj
    simp at this
    omega
 ·simp(disch:=omega) only[C8,SQ,SU,SL,reduceCtorEq,Nat.reduceAdd,Nat.reduceLeDiff,reduceIte]
  have hi':i=xs.length:=by omega
  subst hi'
  refine⟨_,[.sl h.length 0 xs.length T.size],h.length::Sd,rfl,rfl,?_,⟨List.nodup_cons.2 ⟨fun hm=>absurd (hlo _ hm) (by omega),hO.1⟩,fun j hj=> ?_⟩,fun j hj=> ?_⟩
  ·refine⟨xs,rfl,by simp only[maxLen];omega, .inr ⟨h.length,0,_,Sd,_,rfl,cu (iK h _ t),?_,rfl,?_, .inl rfl⟩⟩
   ·simp[hDl]
   ·have e1:(List.drop 0 (D++(List.replicate (xs.length - xs.length) z).flatten)).take (xs.length * T.size)=D:=by
     simp[←hDl]
    rw[e1]
    rw[List.take_length]at hD
    exact hD
  ·rcases List.mem_cons.1 hj with rfl|hj
   ·exact⟨_,_,iK h _ t⟩
   ·exact hO.2 j hj
  ·rcases List.mem_cons.1 hj with rfl|hj
   ·exact Nat.le_refl _
   ·exact Nat.le_of_lt (hlo j hj)
theorem bq.turn {h:H} {T:Ty}:∀ {xs:List Tv} {cs:List C} {S:List Nat},bq (Rp h T) xs cs S→S.Nodup→∀ {i:Nat} {x:Tv},xs[i]? =some x→
 ∃Si,Rp h T ((cs.drop (i * T.size)).take T.size) x Si∧(∀j∈Si,j∈S)∧Si.Nodup∧
  ∀(h':H) (x':Tv) (c':List C),(∀j∈S,j∉Si→h'.cells j=h.cells j)→Rp h' T c' x' Si→bq (Rp h' T) (xs.set i x') (aR cs (i * T.size) c') S:=by
 intro xs cs S hr hn i x hx
 obtain⟨S1,Si,S2,k1,k2,k3,k4⟩:=hr.split Rp.Gn hx
 rw[k1,List.nodup_append]at hn
 obtain⟨n1,n2,n3⟩:=hn
 rw[List.nodup_append]at n2
 obtain⟨n4,n5,n6⟩:=n2
 have hlt:=(List.getElem?_eq_some_iff.1 hx).1
 have hlen:=hr.len Rp.Gn
 refine⟨Si,k3,fun j hj=>by rw[k1];simp[hj],n4,fun h' x' c' hf hx'=> ?_⟩
 have hcl:=hx'.size
 have hle:(i+1) * T.size≤xs.length * T.size:=Nat.mul_le_mul_right _ hlt
 have e1:(i+1) * T.size=i * T.size+T.size:=by rw[Nat.add_mul,Nat.one_mul]
 rw[du _ _ _ (by omega),List.set_eq_take_append_cons_drop,if_pos hlt,k1,hcl,←e1]
 have a1:bq (Rp h' T) (xs.take i) (cs.take (i * T.size)) S1:=k2.imp fun c y S' hs hy=>hy.frame fun j hj=>hf j (by rw[k1];simp[hs j hj]) (fun hm=>n3 j (hs j hj) j (by simp[hm]) rfl)
 have a2:bq (Rp h' T) (xs.drop (i+1)) (cs.drop ((i+1) * T.size)) S2:=k4.imp fun c y S' hs hy=>hy.frame fun j hj=>hf j (by rw[k1];simp[hs j hj]) (fun hm=>n6 j hm j (hs j hj) rfl)
 rw[List.append_assoc]
 refine a1.join ?_
 exact(bq.one hx').join a2
theorem Ho {α:Type} {cs:List α} {o n:Nat} (h:o+n≤cs.length):aR cs o ((cs.drop o).take n)=cs:=by
 have hl:((cs.drop o).take n).length=n:=by simp;omega
 rw[du _ _ _ (by omega),hl,List.append_assoc]
 have:(cs.drop o).take n++cs.drop (o+n)=cs.drop o:=by rw[←List.drop_drop,List.take_append_drop]
 rw[this,List.take_append_drop]
theorem wI (f:Tv→Nat→Tv) (g:Tv→Nat):∀(xs ys:List Tv) (n:Nat),rQ f g (xs++ys) n=rQ f g xs n++rQ f g ys (n+(xs.map g).sum)
 | [],ys,n=>by simp[rQ]
 |x::xs,ys,n=>by
  simp only[List.cons_append,rQ,wI f g xs,List.map_cons,List.sum_cons]
  congr 3
  omega
theorem dX (f:Tv→Nat→Tv) (g:Tv→Nat):∀(xs:List Tv) (n:Nat),(rQ f g xs n).length=xs.length
 | [],n=>rfl
 |x::xs,n=>by simp[rQ,dX f g xs]
theorem sC {g:Tv→Nat} {xs:List Tv} {i:Nat} {x:Tv} (h:xs[i]? =some x):((xs.take (i+1)).map g).sum=((xs.take i).map g).sum+g x:=by
 rw[List.take_add_one,h]
 simp
theorem Cp {g:Tv→Nat} (xs:List Tv) (i:Nat):((xs.take i).map g).sum≤(xs.map g).sum:=by
 have:=List.take_append_drop i xs
 have e:(xs.map g).sum=((xs.take i).map g).sum+((xs.drop i).map g).sum:=by
  rw[←List.sum_append,←List.map_append,this]
 omega
def Ib (T:Ty) (xs:List Tv) (n i:Nat):List Tv:=rQ (rv T) (dV T) (xs.take i) n++xs.drop i
theorem GI {T:Ty} {xs:List Tv} {n i:Nat} (hi:i < xs.length):(Ib T xs n i)[i]? =some xs[i]:=by
 unfold Ib
 have hl:(rQ (rv T) (dV T) (xs.take i) n).length=i:=by rw[dX,List.length_take];omega
 rw[List.getElem?_append_right (by omega),hl,Nat.sub_self,List.getElem?_drop,Nat.add_zero,List.getElem?_eq_getElem hi]
theorem DL {T:Ty} {xs:List Tv} {n i:Nat} (hi:i < xs.length):(Ib T xs n i).set i (rv T xs[i] (n+((xs.take i).map (dV T)).sum))=Ib T xs n (i+1):=by
 unfold Ib
 have hl:(rQ (rv T) (dV T) (xs.take i) n).length=i:=by rw[dX,List.length_take];omega
 have e1:xs.take (i+1)=xs.take i++ [xs[i]]:=by rw[List.take_add_one,List.getElem?_eq_getElem hi];rfl
 rw[List.set_append_right _ _ (by omega),hl,Nat.sub_self,List.drop_eq_getElem_cons hi,List.set_cons_zero,e1,wI]
 simp[rQ]
theorem Gm {T:Ty} {xs:List Tv} {n:Nat}:Ib T xs n xs.length=rQ (rv T) (dV T) xs n:=by simp[Ib]
theorem Ew {T:Ty} {xs:List Tv} {n:Nat}:Ib T xs n 0=xs:=by simp[Ib,rQ]
theorem ew.refl {h:H} {S:List Nat} (ho:∀i∈S,∃ty cs,h[i]? =some (.own ty cs)):ew h h S:=⟨rfl,fun _ _=>rfl,ho⟩
theorem ew.more {h h1 h2:H} {S S':List Nat} (h0:ew h h1 S) (h':ew h1 h2 S') (hs:∀i∈S',i∈S):ew h h2 S:=by
 refine⟨h'.1.trans h0.1,fun i hi=>(h'.2.1 i (fun hm=>hi (hs i hm))).trans (h0.2.1 i hi),fun i hi=> ?_⟩
 by_cases hm:i∈S'
 ·exact h'.2.2 i hm
 ·rw[h'.2.1 i hm];exact h0.2.2 i hi
theorem ew.BH {h h':H} {S S':List Nat} (hw:ew h h' S) (ho:dr h S'):dr h' S':=⟨ho.1,fun i hi=>by
 by_cases hm:i∈S
 ·exact hw.2.2 i hm
 ·rw[hw.2.1 i hm];exact ho.2 i hi⟩
theorem Rp.wrote {h h':H} {S S':List Nat} {T:Ty} {cs:List C} {v:Tv} (hr:Rp h T cs v S') (hw:ew h h' S) (hd:∀i∈S',i∉S):Rp h' T cs v S':=hr.frame fun i hi=>cg (hw.2.1 i (hd i hi))
theorem CB {t:Ty} {v:Tv} {n:Nat}:yC (.sl t) v n=rv (.sl t) v n:=by cases v <;>rfl
theorem rI {t:Ty} {v:Tv}:i1 (.sl t) v=dV (.sl t) v:=by cases v <;>rfl
theorem Px {cd:Nat→Option AF} {g0 gE:Nat} {t:Ty} (hcd:cd g0=some (DV gE)) (hE:kC cd gE (.sl t)):kC cd g0 (.sl (.sl t)):=by
 intro h cs v S k hv ho hk
 obtain⟨c,xs,id,off,bs,S',rfl,rfl,hm,hl,hat,hce,hbs,hel,hS⟩:=hv.view
 have hcn:i1 (.sl (.sl t)) (.l xs)=(xs.map (dV (.sl t))).sum:=rfl
 have hmk:yC (.sl (.sl t)) (.l xs) k= .l (rQ (rv (.sl t)) (dV (.sl t)) xs k):=rfl
 rw[hcn]at hk⊢
 rw[hmk]
 have hsub:∀j∈S',j∈S:=fun j hj=>by
  rcases hS with e|⟨_,_,e⟩
  ·rw[e];simp[hj]
  ·rw[e]at hj;cases hj
 have hnd:S'.Nodup:=by
  rcases hS with e|⟨_,_,e⟩
  ·have:=ho.1
   rw[e]at this
   exact(List.nodup_cons.1 this).2
  ·rw[e];simp
 have hid:0 < xs.length→id∉S'∧id∈S:=fun hp=>by
  rcases hS with e|⟨e,_,_⟩
  ·have:=ho.1
   rw[e]at this
   exact⟨(List.nodup_cons.1 this).1,by rw[e];simp⟩
  ·rw[e]at hp;simp at hp
 have hs1:(Ty.sl t).size=1:=rfl
 refine aZ hcd rfl ?_
 simp(disch:=omega) only[DV,SQ,SU,SL,reduceCtorEq,Nat.reduceAdd,Nat.reduceLeDiff,reduceIte]
 refine fX (σ:=Nat) (f1:=_) (by simp only[SQ,SU,SL,reduceCtorEq,Nat.reduceAdd,Nat.reduceLeDiff,reduceIte];rfl) (fun i=> [(5, .val false [.int .i64 i]),(1, .val false [.int .i64 ((k+((xs.take i).map (dV (.sl t))).sum:Nat):Int)])])
  (fun i g h'=>g=xs.length - i∧i≤xs.length∧ew h h' S∧(∀j,j∉S'→h'[j]? =h[j]?)∧bq (Rp h' (.sl t)) (Ib (.sl t) xs k i) ((bs.drop off).take (xs.length * (Ty.sl t).size)) S') 0 xs.length (by simp only[SQ,SU,SL,List.map_nil,List.sum_nil,reduceCtorEq,Nat.reduceAdd,Nat.reduceLeDiff,reduceIte];rfl)
  ⟨by omega,by omega,ew.refl ho.2,fun _ _=>rfl,by rw[Ew];exact hel⟩ ?_
 rintro i g h' ⟨hg,hi,hw,hsame,he⟩
 simp(disch:=omega) only[DV,hl,aN,SQ,SU,SL,reduceCtorEq,Nat.reduceAdd,Nat.reduceLeDiff,reduceIte]
 refine aV (fun hlt=> ?_) (fun hlt=> ?_)
 ·have hix:i < xs.length:=by omega
  have hsi:=sC (g:=dV (.sl t)) (List.getElem?_eq_getElem hix)
  have hsl:=Cp (g:=dV (.sl t)) xs (i+1)
  obtain⟨Si,k1,k2,k3,k4⟩:=he.turn hnd (GI hix)
  rw[kj hix]at k1
  have hcell:h'.cells id=some bs:=by
   rw[cg (hsame id (hid (by omega)).1)]
   exact(hce (by omega)).1
  rw[hs1,Nat.mul_one]at k1
  have hat':=hat i hix
  rw[hs1,Nat.mul_one]at hat'
  have hbs':off+xs.length≤bs.length:=by rw[hs1,Nat.mul_one]at hbs;exact hbs
  simp(disch:=omega) only[DV,hl,hat',hcell,bh,aN,SQ,SU,SL,reduceCtorEq,Nat.reduceAdd,Nat.reduceLeDiff,reduceIte]
  refine bW (hE k1 ⟨k3,fun j hj=>(hw.BH ho).2 j (hsub j (k2 j hj))⟩ (by rw[rI];omega)) ?_
  rintro r h'' ⟨rfl,hw2,hr2⟩
  simp(disch:=omega) only[ae,aN,rI,SQ,SU,SL,reduceCtorEq,Nat.reduceAdd,Nat.reduceLeDiff,reduceIte]
  refine⟨i+1,xs.length - (i+1),by omega,?_,rfl,by omega,hw.more hw2 (fun j hj=>hsub j (k2 j hj)),fun j hj=> ?_,?_⟩
  ·have e1:k+((xs.take (i+1)).map (dV (.sl t))).sum=k+((xs.take i).map (dV (.sl t))).sum+dV (.sl t) xs[i]:=by omega
   rw[e1]
   rfl
  ·rw[hw2.2.1 j (fun hm=>hj (k2 j hm))]
   exact hsame j hj
  ·rw[CB]at hr2
   have k5:=k4 h'' _ _ (fun j hj hn=>cg (hw2.2.1 j hn)) hr2
   rw[DL hix]at k5
   have e2:aR ((bs.drop off).take (xs.length * (Ty.sl t).size)) (i * (Ty.sl t).size) ((bs.drop (off+i)).take 1)=(bs.drop off).take (xs.length * (Ty.sl t).size):=by
    have e3:(bs.drop (off+i)).take 1=(((bs.drop off).take (xs.length * (Ty.sl t).size)).drop (i * (Ty.sl t).size)).take (Ty.sl t).size:=by
     rw[kj hix,hs1,Nat.mul_one]
    rw[e3]
    refine Ho ?_
    rw[hs1]
    simp
    omega
   rw[e2]at k5
   simpa only[hs1,Nat.mul_one]using k5
 ·simp(disch:=omega) only[DV,SQ,SU,SL,reduceCtorEq,Nat.reduceAdd,Nat.reduceLeDiff,reduceIte]
  have hi':i=xs.length:=by omega
  subst hi'
  rw[Gm]at he
  rw[List.take_length]
  refine⟨rfl,hw,?_⟩
  by_cases hp:0 < xs.length
  ·refine⟨_,rfl,?_, .inr ⟨id,off,bs,S',(Ty.sl t).size,?_,?_,?_,?_,?_, .inl rfl⟩⟩
   ·rw[dX];simp only[maxLen];omega
   ·rw[dX];rw[(hce hp).2]
   ·rw[cg (hsame id (hid hp).1)];exact(hce hp).1
   ·rw[dX];exact hbs
   ·rcases hS with e|⟨e,_⟩
    ·exact e
    ·rw[e]at hp;simp at hp
   ·rw[dX];exact he
  ·have hx:xs= []:=List.eq_nil_of_length_eq_zero (by omega)
   subst hx
   refine⟨[],rfl,by simp,?_⟩
   obtain⟨zs,e1,_,e2⟩:=hv.sl
   simp at e1
   subst e1
   rcases e2 with e2|⟨id2,off2,bs2,S2,e3,f1,f2,f3,f4,f5,f6⟩
   ·exact .inl e2
   ·have hS2:S2= []:=by simp[bq]at f5;exact f5
    refine .inr ⟨id2,off2,bs2,S2,e3,f1,?_,f3,f4,by simp[bq];exact hS2, .inr rfl⟩
    have hid2:id2∉S':=fun hm=>by
     rcases hS with e|⟨_,e,_⟩
     ·rw[f4,hS2]at e
      have:S'= []:=((List.cons.inj e).2).symm
      rw[this]at hm;cases hm
     ·rw[f4]at e;cases e
    rw[cg (hsame id2 hid2)]
    exact f2
theorem OP {cd:Nat→Option AF} {g0 gE:Nat} {t:Ty} (hcd:cd g0=some (C6 gE)) (hE:jR cd gE (.sl t)):jR cd g0 (.sl (.sl t)):=by
 intro h cs v S k hT hv hk
 by_cases hsl:∃xs,v= .l xs
 case neg=>
  obtain⟨xs,e,_⟩:=hv.sl
  cases v <;>simp[yC]at e
  exact absurd ⟨_,rfl⟩ hsl
 obtain⟨zs,rfl⟩:=hsl
 have hTe:∀i (hi:i < zs.length),NQ (.sl t) zs[i]:=fun i hi=>by
  obtain⟨h0,cs0,S0,hT⟩:=hT
  obtain⟨_,ys,_,_,_,_,_,e,_,_,_,_,_,hel0,_⟩:=hT.view
  simp at e
  subst e
  obtain⟨Si,hx⟩:=hel0.at hi
  exact⟨_,_,_,hx⟩
 obtain⟨c,xs,id,off,bs,S',rfl,hxs,hm,hl,hat,hce,hbs,hel,hS⟩:=hv.view
 have hcn:i1 (.sl (.sl t)) (.l zs)=(zs.map (dV (.sl t))).sum:=rfl
 rw[hcn]at hk⊢
 have hxs':xs=rQ (rv (.sl t)) (dV (.sl t)) zs k:=by
  have e:yC (.sl (.sl t)) (.l zs) k= .l (rQ (rv (.sl t)) (dV (.sl t)) zs k):=rfl
  rw[e]at hxs
  exact(by simpa using hxs.symm)
 have hlen:xs.length=zs.length:=by rw[hxs',dX]
 have hs1:(Ty.sl t).size=1:=rfl
 refine aZ hcd rfl ?_
 simp(disch:=omega) only[C6,SQ,SU,SL,reduceCtorEq,Nat.reduceAdd,Nat.reduceLeDiff,reduceIte]
 refine fX (σ:=Nat) (f1:=_) (by simp only[SQ,SU,SL,reduceCtorEq,Nat.reduceAdd,Nat.reduceLeDiff,reduceIte];rfl) (fun i=> [(5, .val false [.int .i64 i]),(1, .val false [.int .i64 ((k+((zs.take i).map (dV (.sl t))).sum:Nat):Int)])])
  (fun i g h'=>g=xs.length - i∧i≤xs.length∧h'=h) 0 xs.length (by simp only[SQ,SU,SL,List.map_nil,List.sum_nil,reduceCtorEq,Nat.reduceAdd,Nat.reduceLeDiff,reduceIte];rfl) ⟨by omega,by omega,rfl⟩ ?_
 rintro i g h' ⟨hg,hi,rfl⟩
 simp(disch:=omega) only[C6,hl,aN,SQ,SU,SL,reduceCtorEq,Nat.reduceAdd,Nat.reduceLeDiff,reduceIte]
 refine aV (fun hlt=> ?_) (fun hlt=> ?_)
 ·have hix:i < xs.length:=by omega
  have hiz:i < zs.length:=by omega
  have hsi:=sC (g:=dV (.sl t)) (List.getElem?_eq_getElem hiz)
  have hsl:=Cp (g:=dV (.sl t)) zs (i+1)
  obtain⟨Si,k1⟩:=hel.at hix
  have hxi:xs[i]=yC (.sl t) zs[i] (k+((zs.take i).map (dV (.sl t))).sum):=by
   rw[CB]
   have e1:xs[i]? =some (rv (.sl t) zs[i] (k+((zs.take i).map (dV (.sl t))).sum)):=by
    rw[hxs']
    have e2:zs=zs.take i++zs[i]::zs.drop (i+1):=by rw[←List.drop_eq_getElem_cons hiz,List.take_append_drop]
    conv=>lhs;rw[e2,wI,rQ]
    have hl2:(rQ (rv (.sl t)) (dV (.sl t)) (zs.take i) k).length=i:=by rw[dX,List.length_take];omega
    rw[List.getElem?_append_right (by omega),hl2,Nat.sub_self,List.getElem?_cons_zero]
   rw[List.getElem?_eq_getElem hix]at e1
   simpa using e1
  rw[hxi]at k1
  rw[hs1,Nat.mul_one]at k1
  have hat':=hat i hix
  rw[hs1,Nat.mul_one]at hat'
  have hbs':off+xs.length≤bs.length:=by rw[hs1,Nat.mul_one]at hbs;exact hbs
  simp(disch:=omega) only[C6,hl,hat',(hce (by omega)).1,bh,aN,SQ,SU,SL,reduceCtorEq,Nat.reduceAdd,Nat.reduceLeDiff,reduceIte]
  refine bW (hE (hTe i hiz) k1 (by rw[rI];omega)) ?_
  rintro r h'' ⟨rfl,rfl⟩
  simp(disch:=omega) only[ae,aN,rI,SQ,SU,SL,reduceCtorEq,Nat.reduceAdd,Nat.reduceLeDiff,reduceIte]
  refine aV (fun hn=> ?_) (fun hn=> ?_)
  ·omega
  ·simp(disch:=omega) only[aN,SQ,SU,SL,reduceCtorEq,Nat.reduceAdd,Nat.reduceLeDiff,reduceIte]
   refine⟨i+1,xs.length - (i+1),by omega,?_,rfl,by omega⟩
   have e1:k+((zs.take (i+1)).map (dV (.sl t))).sum=k+((zs.take i).map (dV (.sl t))).sum+dV (.sl t) zs[i]:=by omega
   rw[e1]
   rfl
 ·simp(disch:=omega) only[C6,SQ,SU,SL,reduceCtorEq,Nat.reduceAdd,Nat.reduceLeDiff,reduceIte]
  have:i=zs.length:=by omega
  rw[this,List.take_length]
theorem xT.go {cd:Nat→Option AF} {g:Nat} {T:Ty} (hE:xT cd g T) {h:H} {cs:List C} {v:Tv} {S:List Nat} (hv:Rp h T cs v S) {k:Nat} (hk:k≤1048576) {K:V→H→Prop}
 (h1:wt v≤k→K (.val false [.int .i64 ((k - wt v:Nat):Int)]) h) (h2:¬wt v≤k→K (.val false [.int .i64 (-1)]) h):WC cd g [(T.agg,cs),(false,[.int .i64 k])] h K:=by
 refine bW (hE hv hk) ?_
 rintro r h' ⟨rfl,rfl⟩
 by_cases hf:wt v≤k
 ·rw[if_pos hf]
  have:(k:Int) - wt v=((k - wt v:Nat):Int):=by omega
  rw[this]
  exact h1 hf
 ·rw[if_neg hf];exact h2 hf
theorem cG.go {cd:Nat→Option AF} {g:Nat} {T:Ty} (hE:cG cd g T) {h:H} {ca cb:List C} {va vb:Tv} {Sa Sb:List Nat} (ha:Rp h T ca va Sa) (hb:Rp h T cb vb Sb) {K:V→H→Prop}
 (h1:va=vb→K (.val false [.bool true]) h) (h2:¬va=vb→K (.val false [.bool false]) h):WC cd g [(T.agg,ca),(T.agg,cb)] h K:=by
 refine bW (hE ha hb) ?_
 rintro r h' ⟨rfl,rfl⟩
 by_cases hf:va=vb
 ·simp only[hf,decide_true];exact h1 hf
 ·simp only[hf,decide_false];exact h2 hf
theorem Rs.nil {h:H}:Rs h [] [] [] []:=⟨rfl,rfl,rfl⟩
theorem Rs.mk {h:H} {t:Ty} {ts:List Ty} {c1 c2:List C} {v:Tv} {vr:List Tv} {S1 S2:List Nat} (h1:Rp h t c1 v S1) (h2:Rs h ts c2 vr S2):Rs h (t::ts) (c1++c2) (v::vr) (S1++S2):=⟨c1,c2,v,vr,S1,S2,rfl,rfl,rfl,h1,h2⟩
theorem Rp.mkInt {h:H} {k:IntKind} {n:Int} (h1:k.min≤n) (h2:n≤k.max):Rp h (.int k) [.int k n] (.i n) []:=⟨n,rfl,rfl,rfl,h1,h2⟩
def L6 (h0 h1:H) (S:List Nat):Prop:=dr h1 S∧h0.length≤h1.length∧∀i∈S,h0.length≤i∧i < h1.length
theorem L6.nil (h:H):L6 h h []:=⟨⟨by simp,by simp⟩,Nat.le_refl _,by simp⟩
theorem L6.step {h0 h1 t:H} {S1 S2:List Nat} (h:L6 h0 h1 S1) (hl:∀i∈S2,i < (h1++t).length) (ho:dr (h1++t) S2) (hg:∀i∈S2,h1.length≤i):L6 h0 (h1++t) (S1++S2):=by
 refine⟨⟨List.nodup_append.2 ⟨h.1.1,ho.1,fun a ha b hb e=> ?_⟩,fun i hi=> ?_⟩,by have:=h.2.1;simp;omega,fun i hi=> ?_⟩
 ·have h1:=(h.2.2 a ha).2
  have h2:=hg b hb
  omega
 ·rcases List.mem_append.1 hi with hi|hi
  ·exact(h.1.app (t:=t)).2 i hi
  ·exact ho.2 i hi
 ·rcases List.mem_append.1 hi with hi|hi
  ·have:=h.2.2 i hi
   simp
   omega
  ·have:=h.2.1
   have:=hg i hi
   exact⟨by omega,hl i hi⟩
theorem L6.both {h0 h1:H} {S:List Nat} (h:L6 h0 h1 S):dr h1 S∧∀i∈S,h0.length≤i:=⟨h.1,fun i hi=>(h.2.2 i hi).1⟩
theorem kC.go {cd:Nat→Option AF} {g:Nat} {T:Ty} (hE:kC cd g T) {h:H} {cs:List C} {v:Tv} {S:List Nat} {k:Nat} (hv:Rp h T cs v S) (ho:dr h S) (hk:k+i1 T v≤1152921504606846976) {K:V→H→Prop}
 (h1:∀h',ew h h' S→Rp h' T cs (yC T v k) S→K (.val false [.int .i64 ((k+i1 T v:Nat):Int)]) h'):WC cd g [(T.agg,cs),(false,[.int .i64 k])] h K:=by
 refine bW (hE hv ho hk) ?_
 rintro r h' ⟨rfl,a,b⟩
 exact h1 h' a b
theorem jR.go {cd:Nat→Option AF} {g:Nat} {T:Ty} (hE:jR cd g T) {h:H} {cs:List C} {v:Tv} {S:List Nat} {k:Nat} (hT:NQ T v) (hv:Rp h T cs (yC T v k) S) (hk:k+i1 T v≤1152921504606846976) {K:V→H→Prop}
 (h1:K (.val false [.int .i64 ((k+i1 T v:Nat):Int)]) h):WC cd g [(T.agg,cs),(false,[.int .i64 k])] h K:=by
 refine bW (hE hT hv hk) ?_
 rintro r h' ⟨rfl,rfl⟩
 exact h1
theorem dr.split {h:H} {A B:List Nat} (ho:dr h (A++B)):dr h A∧dr h B∧(∀i∈A,i∉B)∧∀i∈B,i∉A:=by
 obtain⟨h1,h2⟩:=ho
 rw[List.nodup_append]at h1
 exact⟨⟨h1.1,fun i hi=>h2 i (by simp[hi])⟩,⟨h1.2.1,fun i hi=>h2 i (by simp[hi])⟩,fun i hi hn=>h1.2.2 i hi i hn rfl,fun i hi hn=>h1.2.2 i hn i hi rfl⟩
theorem Rs.Jm {h:H} {t:Ty} {ts:List Ty} {cs:List C} {o:Nat} {v:Tv} {vr:List Tv} {S1 S2:List Nat} (h1:Rp h t ((cs.drop o).take t.size) v S1) (h2:Rs h ts (cs.drop (o+t.size)) vr S2):Rs h (t::ts) (cs.drop o) (v::vr) (S1++S2):=by
 refine⟨_,_,v,vr,S1,S2,?_,rfl,rfl,h1,h2⟩
 rw[←List.drop_drop,List.take_append_drop]
theorem Rs.fin {h:H} {cs:List C} {o:Nat} (e:cs.length≤o):Rs h [] (cs.drop o) [] []:=⟨List.drop_eq_nil_of_le e,rfl,rfl⟩
theorem Rp.NV {h:H} {k:IntKind} {cs:List C} {n:Int} (e:cs= [.int k n]) (h1:k.min≤n) (h2:n≤k.max):Rp h (.int k) cs (.i n) []:=by subst e;exact Rp.mkInt h1 h2
theorem Rp.OW {h:H} {t:Ty} {cs ds:List C} {v:Tv} {S:List Nat} (e:cs=ds) (hr:Rp h t ds v S):Rp h t cs v S:=by subst e;exact hr
theorem Rp.set {h:H} {id:Nat} {b:tO} {T:Ty} {cs:List C} {v:Tv} {S:List Nat} (hr:Rp h T cs v S) (hn:id∉S):Rp (h.set id b) T cs v S:=hr.frame fun i hi=>cg (cj (fun e=>hn (e▸hi)))
theorem dr.set {h:H} {id ty:Nat} {cs:List C} {S:List Nat} (ho:dr h S) (hl:id < h.length):dr (h.set id (.own ty cs)) S:=⟨ho.1,fun i hi=>by
 by_cases e:i=id
 ·subst e;exact⟨ty,cs,gQ hl⟩
 ·rw[cj e];exact ho.2 i hi⟩
theorem ew.set {h h':H} {id ty:Nat} {cs:List C} {S:List Nat} (hw:ew h h' S) (hi:id∈S) (hl:id < h'.length):ew h (h'.set id (.own ty cs)) S:=by
 refine⟨by rw[List.length_set];exact hw.1,fun i hn=> ?_,fun i hm=> ?_⟩
 ·rw[cj (fun e=>hn (by rw[e];exact hi))];exact hw.2.1 i hn
 ·by_cases e:i=id
  ·subst e;exact⟨ty,cs,gQ hl⟩
  ·rw[cj e];exact hw.2.2 i hm
theorem Rp.aq {h h' t:H} {T:Ty} {cs:List C} {v:Tv} {S:List Nat} (e:h'=h++t) (hr:Rp h T cs v S):Rp h' T cs v S:=by subst e;exact hr.app
theorem dr.aq {h h' t:H} {S:List Nat} (e:h'=h++t) (ho:dr h S):dr h' S:=by subst e;exact ho.app
theorem dv {h h' t:H} (e:h'=h++t):h.length≤h'.length:=by subst e;simp
theorem iJ {cs vs:List C} (h:vs.length=cs.length):aR cs 0 vs=vs:=by rw[du _ _ _ (by omega)];simp[h]
mutual
def lv:Ty→Nat
 | .st ts=>NN ts
 | .sl t=>lv t
 |_=>1
def NN:List Ty→Nat
 | []=>0
 |t::ts=>lv t+NN ts
end
mutual
theorem u7:∀(T:Ty) (v:Tv),dV T v≤lv T * (1+wt v)
 | .int k,v=>by
   have:dV (.int k) v=1:=rfl
   rw[this]
   show 1≤1 * (1+wt v)
   omega
 | .bool,v=>Nat.zero_le _
 | .str,v=>Nat.zero_le _
 | .sl t, .l xs=>by
   show(xs.map (dV t)).sum≤lv t * (1+(xs.length+dw xs))
   have key:∀ys:List Tv,(ys.map (dV t)).sum≤lv t * (ys.length+dw ys):=by
    intro ys
    induction ys with
    |nil=>simp
    |cons y ys ih=>
     have h1:=u7 t y
     simp only[List.map_cons,List.sum_cons,List.length_cons,dw]
     have e:lv t * (ys.length+1+(wt y+dw ys))=lv t * (1+wt y)+lv t * (ys.length+dw ys):=by rw[←Nat.mul_add];congr 1;omega
     omega
   exact Nat.le_trans (key xs) (Nat.mul_le_mul_left _ (by omega))
 | .st ts, .r vs=>by
   show JO ts vs≤NN ts * (1+dw vs)
   exact Iv ts vs
 | .sl t, .i _=>Nat.zero_le _
 | .sl t, .b _=>Nat.zero_le _
 | .sl t, .s _=>Nat.zero_le _
 | .sl t, .r _=>Nat.zero_le _
 | .st t, .i _=>Nat.zero_le _
 | .st t, .b _=>Nat.zero_le _
 | .st t, .s _=>Nat.zero_le _
 | .st t, .l _=>Nat.zero_le _
theorem Iv:∀(ts:List Ty) (vs:List Tv),JO ts vs≤NN ts * (1+dw vs)
 | [],vs=>by cases vs <;>exact Nat.zero_le _
 |t::ts,[]=>Nat.zero_le _
 |t::ts,v::vs=>by
  have h1:=u7 t v
  have h2:=Iv ts vs
  show dV t v+JO ts vs≤(lv t+NN ts) * (1+(wt v+dw vs))
  rw[Nat.add_mul]
  have h3:lv t * (1+wt v)≤lv t * (1+(wt v+dw vs)):=Nat.mul_le_mul_left _ (by omega)
  have h4:NN ts * (1+dw vs)≤NN ts * (1+(wt v+dw vs)):=Nat.mul_le_mul_left _ (by omega)
  omega
end
mutual
theorem yP:∀(T:Ty) (v:Tv),i1 T v≤dV T v
 | .int k,v=>Nat.zero_le _
 | .bool,v=>Nat.zero_le _
 | .str,v=>Nat.zero_le _
 | .sl t,v=>by rw[rI];exact Nat.le_refl _
 | .st ts, .r vs=>Gg ts vs
 | .st t, .i _=>Nat.zero_le _
 | .st t, .b _=>Nat.zero_le _
 | .st t, .s _=>Nat.zero_le _
 | .st t, .l _=>Nat.zero_le _
theorem Gg:∀(ts:List Ty) (vs:List Tv),Og ts vs≤JO ts vs
 | [],vs=>by cases vs <;>exact Nat.zero_le _
 |t::ts,[]=>Nat.zero_le _
 |t::ts,v::vs=>Nat.add_le_add (yP t v) (Gg ts vs)
end
end Go.Eng
namespace Go.Eng
structure LD where
 path:List Nat
 fn:Option Nat
mutual
def MD (fn:Ty→Nat):Ty→List Nat→List LD
 | .st ts,p=>mh fn ts 0 p
 | .int _,p=> [⟨p,none⟩]
 | .bool,p=> [⟨p,some (fn .bool)⟩]
 | .str,p=> [⟨p,some (fn .str)⟩]
 | .sl t,p=> [⟨p,some (fn (.sl t))⟩]
def mh (fn:Ty→Nat):List Ty→Nat→List Nat→List LD
 | [],_,_=> []
 |t::ts,o,p=>MD fn t (p++ [o])++mh fn ts (o+t.size) p
end
def F0:Nat→List Nat→List IT
 |_,[]=> []
 |x,o::r=> .i (.fad (x+1) (.s x) o)::F0 (x+1) r
def MK:AC:= .seq (.ops [.i (.mov 4 (.c (.val false [.int .i64 (-1)])))]) .ret
def H2 (d s:Nat):AC:= .ops [.i (.mov d (.s s)), .i (.bin (d+1) .add (.s d) (.c (.val false [.int .i64 1]))), .i (.mov s (.s (d+1)))]
def H4 (sz d:Nat) (p:List Nat) (l:List IT):List IT:=
 .i (.mov d (.s 0)):: .i (.mov (d+1) (.s 5)):: .i (.iad (d+2) (.s d) (.s (d+1)) sz)::(F0 (d+2) p++ .i (.ldh (d+3+p.length) (.s (d+2+p.length)) 1 false):: .i (.mov (d+4+p.length) (.s 1))::l)
def Pt (sz d:Nat):LD→List AC
 |⟨p,none⟩=> [.seq (.ops (H4 sz d p [.i (.bin (d+5+p.length) .neq (.s (d+3+p.length)) (.s (d+4+p.length)))])) (.cond (.s (d+5+p.length)) MK .skip),H2 (d+6+p.length) 1]
 |⟨p,some g⟩=> [.ops (H4 sz d p [.i (.call (d+6+p.length) g false [.s (d+3+p.length), .s (d+4+p.length)]), .i (.mov 1 (.s (d+5+p.length)))]), .seq (.ops [.i (.mov (d+6+p.length) (.s 1)), .i (.bin (d+7+p.length) .lss (.s (d+6+p.length)) (.c (.val false [.int .i64 0])))]) (.cond (.s (d+7+p.length)) MK .skip)]
def N1 (sz:Nat):Nat→List LD→List AC
 |_,[]=> []
 |d,l::r=>Pt sz d l++N1 sz (d+8+l.path.length) r
def PA:Nat→List LD→Nat
 |d,[]=>d
 |d,l::r=>PA (d+8+l.path.length) r
def JY:List AC→AC
 | []=> .skip
 | [a]=>a
 |a::b::r=> .seq a (JY (b::r))
def Ow:Nat→Nat→List Nat
 |0,_=> []
 |n+1,lo=>(lo+n)::Ow n lo
def D6 (dep e:Nat) (body:List AC):AF:=⟨2,dep,[.tmp 4], .seq (.ops [.i (.mov 4 (.c (.val false [.int .i64 0])))]) (.seq (.seq (.ops [.i (.mov 5 (.c (.val false [.int .i64 0])))]) (.block 0 (.loop (Ow (e - 6) 6) (.seq (.seq (.ops [.i (.mov 6 (.s 5)), .i (.mov 7 (.s 0)), .i (.len 8 false (.s 7)), .i (.bin 9 .lss (.s 6) (.s 8))]) (.cond (.s 9) .skip (.exit 0))) (.seq (.block 1 (JY body)) (H2 10 5)))))) (.seq (.ops [.i (.mov e (.s 1)), .i (.mov 4 (.s e))]) .ret))⟩
def PB (dep sz:Nat) (ls:List LD):AF:=D6 dep (PA 12 ls) (N1 sz 12 ls)
section
variable {cd:Nat→Option AF} {f:Fr} {h:H} {R:List RV} {Q:V→H→Prop} {k:List KI} {l:List IT}
def Ag (d:Nat) (f f':Fr):Prop:=∀t,t < d→f'.get t=f.get t
theorem Ag.refl (d:Nat) (f:Fr):Ag d f f:=fun _ _=>rfl
theorem Ag.trans {d e:Nat} {f g i:Fr} (h1:Ag d f g) (h2:Ag e g i) (hde:d≤e):Ag d f i:=fun t ht=>(h2 t (by omega)).trans (h1 t ht)
theorem Ag.set (d:Nat) (f:Fr) (v:V):Ag d f (f.set d v):=fun t ht=>Fr.eH f v (by omega)
theorem lj {d s:Nat} {c:C} (hs:f.get s= .val false [c]) (hw:∀f',Ag d f f'→f'.get d= .val false [c]→WS cd (.c (.ops l)::k) f' h R Q):WS cd (.c (.ops (.i (.mov d (.s s))::l))::k) f h R Q:=by
 rw[eh _ rfl]
 simp only[ai,ev,hs]
 exact hw _ (Ag.set _ _ _) (Fr.bB _ _ _)
theorem IK {d:Nat} {c:C} (hw:∀f',Ag d f f'→f'.get d= .val false [c]→WS cd (.c (.ops l)::k) f' h R Q):WS cd (.c (.ops (.i (.mov d (.c (.val false [c])))::l))::k) f h R Q:=by
 rw[eh _ rfl]
 simp only[ai,ev]
 exact hw _ (Ag.set _ _ _) (Fr.bB _ _ _)
theorem xf {d s:Nat} {c:C} (hs:f.get s= .val false [c]) (hw:∀f',(∀t,t≠d→f'.get t=f.get t)→f'.get d= .val false [c]→WS cd (.c (.ops l)::k) f' h R Q):WS cd (.c (.ops (.i (.mov d (.s s))::l))::k) f h R Q:=by
 rw[eh _ rfl]
 simp only[ai,ev,hs]
 exact hw _ (fun t ht=>Fr.eH f _ ht) (Fr.bB _ _ _)
theorem MO {d x y:Nat} {op:B2} {a b c:C} (hx:f.get x= .val false [a]) (hy:f.get y= .val false [b]) (hb:bD op a b=some c) (hw:∀f',Ag d f f'→f'.get d= .val false [c]→WS cd (.c (.ops l)::k) f' h R Q):WS cd (.c (.ops (.i (.bin d op (.s x) (.s y))::l))::k) f h R Q:=by
 rw[eh _ rfl]
 simp only[ai,dt,ev,hx,hy,hb]
 exact hw _ (Ag.set _ _ _) (Fr.bB _ _ _)
theorem E4 {d x:Nat} {op:B2} {a b c:C} (hx:f.get x= .val false [a]) (hb:bD op a b=some c) (hw:∀f',Ag d f f'→f'.get d= .val false [c]→WS cd (.c (.ops l)::k) f' h R Q):WS cd (.c (.ops (.i (.bin d op (.s x) (.c (.val false [b])))::l))::k) f h R Q:=by
 rw[eh _ rfl]
 simp only[ai,dt,ev,hx,hb]
 exact hw _ (Ag.set _ _ _) (Fr.bB _ _ _)
theorem MU {d x y e id o:Nat} {c:C} {ki:IntKind} {j:Int} (hx:f.get x= .val false [c]) (hy:f.get y= .val false [.int ki j]) (ha:CT c e j=some (id,o)) (hw:∀f',Ag d f f'→f'.get d= .val false [.ptr id o]→WS cd (.c (.ops l)::k) f' h R Q):WS cd (.c (.ops (.i (.iad d (.s x) (.s y) e)::l))::k) f h R Q:=by
 rw[eh _ rfl]
 simp only[ai,dt,ev,hx,hy,ha]
 exact hw _ (Ag.set _ _ _) (Fr.bB _ _ _)
theorem OL {d x o id p:Nat} (hx:f.get x= .val false [.ptr id p]) (hw:∀f',Ag d f f'→f'.get d= .val false [.ptr id (p+o)]→WS cd (.c (.ops l)::k) f' h R Q):WS cd (.c (.ops (.i (.fad d (.s x) o)::l))::k) f h R Q:=by
 rw[eh _ rfl]
 simp only[ai,ev,hx]
 exact hw _ (Ag.set _ _ _) (Fr.bB _ _ _)
theorem EO:∀(q:List Nat) {x id p:Nat} {f:Fr},f.get x= .val false [.ptr id p]→(∀f',Ag (x+1) f f'→f'.get (x+q.length)= .val false [.ptr id (p+q.sum)]→WS cd (.c (.ops l)::k) f' h R Q)→WS cd (.c (.ops (F0 x q++l))::k) f h R Q
 | [],x,id,p,f,hx,hw=>hw f (Ag.refl _ _) hx
 |o::q,x,id,p,f,hx,hw=>by
  refine OL hx fun f1 a1 v1=> ?_
  refine EO q v1 fun f2 a2 v2=> ?_
  refine hw f2 (a1.trans a2 (by omega)) ?_
  have e1:x+(o::q).length=x+1+q.length:=by rw[List.length_cons];omega
  have e2:p+(o::q).sum=p+o+q.sum:=by rw[List.sum_cons];omega
  rw[e1,e2]
  exact v2
theorem OY {d x id o:Nat} {bs:List C} {c:C} (hx:f.get x= .val false [.ptr id o]) (hc:h.cells id=some bs) (hb:bs[o]? =some c) (hw:∀f',Ag d f f'→f'.get d= .val false [c]→WS cd (.c (.ops l)::k) f' h R Q):WS cd (.c (.ops (.i (.ldh d (.s x) 1 false)::l))::k) f h R Q:=by
 rw[eh _ rfl]
 obtain⟨hlt,he⟩:=List.getElem?_eq_some_iff.1 hb
 have e1:(bs.drop o).take 1= [c]:=by rw[List.drop_eq_getElem_cons hlt,he];rfl
 simp only[ai,dt,ev,hx,hc]
 rw[if_pos (by omega),e1]
 exact hw _ (Ag.set _ _ _) (Fr.bB _ _ _)
theorem OR {d x n:Nat} {c:C} (hx:f.get x= .val false [c]) (hl:yx c=some n) (hw:∀f',Ag d f f'→f'.get d= .val false [.int .i64 (n:Int)]→WS cd (.c (.ops l)::k) f' h R Q):WS cd (.c (.ops (.i (.len d false (.s x))::l))::k) f h R Q:=by
 rw[eh _ rfl]
 have:ai (.len d false (.s x)) f h=some (f.set d (.val false [.int .i64 (n:Int)]),h):=by
  simp only[ai,dt,ev,hx]
  first|(rw[hl])|(simp only[hl])|skip
 rw[this]
 exact hw _ (Ag.set _ _ _) (Fr.bB _ _ _)
def tl (as:List AC) (K:List KI):List KI:=
 match as with
 | []=>K
 |a::r=> .c (JY (a::r))::K
theorem ym (a:AC) (r:List AC):WS cd (tl (a::r) k) f h R Q=WS cd (.c a::tl r k) f h R Q:=by
 cases r with
 |nil=>rfl
 |cons b r=>exact hU _ _
structure Inv (f:Fr) (c:C) (i kk:Nat):Prop where
 g0:f.get 0= .val false [c]
 g5:f.get 5= .val false [.int .i64 (i:Int)]
 g1:f.get 1= .val false [.int .i64 (kk:Int)]
variable {f':Fr} {c:C} {i kk d sz:Nat}
theorem Inv.ag (I:Inv f c i kk) (a:Ag d f f') (hd:6≤d):Inv f' c i kk:=⟨(a 0 (by omega)).trans I.g0,(a 5 (by omega)).trans I.g5,(a 1 (by omega)).trans I.g1⟩
theorem MA (hd:6≤d) (I:Inv f c i kk) (hk:kk+1≤1152921504606846976) (hw:∀f',Inv f' c i (kk+1)→WS cd k f' h R Q):WS cd (.c (H2 d 1)::k) f h R Q:=by
 refine lj I.g1 fun f1 a1 v1=> ?_
 have I1:=I.ag a1 hd
 refine E4 (c:= .int .i64 ((kk+1:Nat):Int)) v1 (by rw[C5,aN (by omega) (by omega)];rfl) fun f2 a2 v2=> ?_
 have I2:=I1.ag a2 (by omega)
 refine xf v2 fun f3 a3 v3=> ?_
 rw[cv]
 exact hw f3 ⟨(a3 0 (by omega)).trans I2.g0,(a3 5 (by omega)).trans I2.g5,v3⟩
theorem Ix {id p:Nat} {q:List Nat} {bs:List C} {x:C} (hd:6≤d) (I:Inv f c i kk) (ha:CT c sz (i:Int)=some (id,p)) (hc:h.cells id=some bs) (hb:bs[p+q.sum]? =some x)
 (hw:∀f',Inv f' c i kk→f'.get (d+3+q.length)= .val false [x]→f'.get (d+4+q.length)= .val false [.int .i64 (kk:Int)]→WS cd (.c (.ops l)::k) f' h R Q):WS cd (.c (.ops (H4 sz d q l))::k) f h R Q:=by
 unfold H4
 refine lj I.g0 fun f1 a1 v1=> ?_
 have I1:=I.ag a1 hd
 refine lj I1.g5 fun f2 a2 v2=> ?_
 have I2:=I1.ag a2 (by omega)
 refine MU ((a2 d (by omega)).trans v1) v2 ha fun f3 a3 v3=> ?_
 have I3:=I2.ag a3 (by omega)
 refine EO q v3 fun f4 a4 v4=> ?_
 have I4:=I3.ag a4 (by omega)
 refine OY v4 hc hb fun f5 a5 v5=> ?_
 have I5:=I4.ag a5 (by omega)
 refine lj I5.g1 fun f6 a6 v6=> ?_
 exact hw f6 (I5.ag a6 (by omega)) ((a6 _ (by omega)).trans v5) v6
theorem Pm {id p:Nat} {q:List Nat} {bs:List C} (hd:6≤d) (I:Inv f c i kk) (ha:CT c sz (i:Int)=some (id,p)) (hc:h.cells id=some bs) (hb:bs[p+q.sum]? =some (.int .i64 (kk:Int))) (hk:kk+1≤1152921504606846976)
 {r:List AC} (hw:∀f',Inv f' c i (kk+1)→WS cd (tl r k) f' h R Q):WS cd (tl (Pt sz d ⟨q,none⟩++r) k) f h R Q:=by
 simp only[Pt,List.cons_append,List.nil_append]
 rw[ym,hU]
 refine Ix hd I ha hc hb fun f1 I1 v1 w1=> ?_
 refine MO v1 w1 (c:= .bool false) (by rw[GV];simp) fun f2 a2 v2=> ?_
 rw[cv,sk,show dt f2 (.s (d+5+q.length))=some (.bool false)by simp only[dt,ev,v2],sD,oV,ym]
 exact MA (by omega) (I1.ag a2 (by omega)) hk hw
theorem Po {id p g:Nat} {q:List Nat} {bs:List C} {x:C} {T:Ty} {v:Tv} {S:List Nat} (hd:6≤d) (I:Inv f c i kk) (ha:CT c sz (i:Int)=some (id,p)) (hc:h.cells id=some bs) (hb:bs[p+q.sum]? =some x)
 (hE:jR cd g (.sl T)) (hT:NQ (.sl T) v) (hv:Rp h (.sl T) [x] (yC (.sl T) v kk) S) (hk:kk+i1 (.sl T) v≤1152921504606846976)
 {r:List AC} (hw:∀f',Inv f' c i (kk+i1 (.sl T) v)→WS cd (tl r k) f' h R Q):WS cd (tl (Pt sz d ⟨q,some g⟩++r) k) f h R Q:=by
 simp only[Pt,List.cons_append,List.nil_append]
 rw[ym]
 refine Ix hd I ha hc hb fun f1 I1 v1 w1=> ?_
 rw[tD]
 have e1:args f1 [.s (d+3+q.length), .s (d+4+q.length)]=some [(false,[x]),(false,[.int .i64 (kk:Int)])]:=by simp only[args,pR,ev,v1,w1]
 rw[e1]
 refine(hE hT hv hk).mono ?_
 rintro v' h' ⟨rfl,rfl⟩
 unfold KC
 have e2:eB f1 (d+6+q.length) (.val false [.int .i64 ((kk+i1 (.sl T) v:Nat):Int)])=f1.set (d+5+q.length) (.val false [.int .i64 ((kk+i1 (.sl T) v:Nat):Int)]):=by
  rw[show d+6+q.length=(d+5+q.length)+1 by omega];rfl
 rw[e2]
 have I2:=I1.ag (Ag.set (d+5+q.length) f1 (.val false [.int .i64 ((kk+i1 (.sl T) v:Nat):Int)])) (by omega)
 refine xf (Fr.bB _ _ _) fun f3 a3 v3=> ?_
 have I3:Inv f3 c i (kk+i1 (.sl T) v):=⟨(a3 0 (by omega)).trans I2.g0,(a3 5 (by omega)).trans I2.g5,v3⟩
 rw[cv,ym,hU]
 refine lj I3.g1 fun f4 a4 v4=> ?_
 have I4:=I3.ag a4 (by omega)
 refine E4 v4 (c:= .bool false) (by rw[Dd];simp;omega) fun f5 a5 v5=> ?_
 have I5:=I4.ag a5 (by omega)
 rw[cv,sk,show dt f5 (.s (d+7+q.length))=some (.bool false)by simp only[dt,ev,v5],sD,oV]
 exact hw f5 I5
inductive CX (cd:Nat→Option AF) (h:H) (bs:List C) (p:Nat):List LD→Nat→Nat→Prop
 |nil {n:Nat}:CX cd h bs p [] n n
 |int {q:List Nat} {r:List LD} {n m:Nat}:bs[p+q.sum]? =some (.int .i64 (n:Int))→CX cd h bs p r (n+1) m→CX cd h bs p (⟨q,none⟩::r) n m
 |call {q:List Nat} {g:Nat} {r:List LD} {n m:Nat} {x:C} {T:Ty} {v:Tv} {S:List Nat}:bs[p+q.sum]? =some x→jR cd g (.sl T)→NQ (.sl T) v→Rp h (.sl T) [x] (yC (.sl T) v n) S→CX cd h bs p r (n+i1 (.sl T) v) m→CX cd h bs p (⟨q,some g⟩::r) n m
theorem CX.le {bs:List C} {p:Nat} {ls:List LD} {kk k':Nat} (hL:CX cd h bs p ls kk k'):kk≤k':=by
 induction hL with
 |nil=>omega
 |int _ _ ih=>omega
 |call _ _ _ _ _ ih=>omega
theorem PI {id p:Nat} {bs:List C} (ha:CT c sz (i:Int)=some (id,p)) (hc:h.cells id=some bs) {ls:List LD} {kk k':Nat} (hL:CX cd h bs p ls kk k') (hk:k'≤1152921504606846976):∀ {d:Nat} {f:Fr},6≤d→Inv f c i kk→
 (∀f',Inv f' c i k'→WS cd k f' h R Q)→WS cd (tl (N1 sz d ls) k) f h R Q:=by
 induction hL with
 |nil=>intro d f hd I hw;exact hw f I
 | @int q r kk k' hb hL ih=>
   intro d f hd I hw
   have:=hL.le
   exact Pm hd I ha hc hb (by omega) fun f1 I1=>ih hk (by omega) I1 hw
 | @call q g r kk k' x T v S hb hE hT hv hL ih=>
   intro d f hd I hw
   have:=hL.le
   exact Po hd I ha hc hb hE hT hv (by omega) fun f1 I1=>ih hk (by omega) I1 hw
end
mutual
def MR (cd:Nat→Option AF) (fn:Ty→Nat):Ty→Prop
 | .st ts=>Kk cd fn ts
 | .int k=>k= .i64
 | .sl t=>jR cd (fn (.sl t)) (.sl t)
 | .bool=>False
 | .str=>False
def Kk (cd:Nat→Option AF) (fn:Ty→Nat):List Ty→Prop
 | []=>True
 |t::ts=>MR cd fn t∧Kk cd fn ts
end
theorem cell_of {bs:List C} {o:Nat} {x:C} (h:(bs.drop o).take 1= [x]):bs[o]? =some x:=by
 have:((bs.drop o).take 1)[0]? =some x:=by rw[h];rfl
 rw[List.getElem?_take,if_pos (by omega),List.getElem?_drop,Nat.add_zero]at this
 exact this
mutual
theorem CX.of {cd:Nat→Option AF} {fn:Ty→Nat} {h:H} {bs:List C} {p:Nat}:∀(T:Ty) {v:Tv} {S:List Nat} {o:Nat} {q:List Nat} {n m:Nat} {r:List LD},MR cd fn T→NQ T v→Rp h T ((bs.drop (p+o)).take T.size) (rv T v n) S→q.sum=o→p+o+T.size≤bs.length→m≤1152921504606846976→CX cd h bs p r (n+dV T v) m→CX cd h bs p (MD fn T q++r) n m
 | .int k,v,S,o,q,n,m,r,hg,hT,hr,hq,hl,hm,hL=>by
   simp only[MR]at hg
   subst hg hq
   obtain⟨n',e1,e2,_⟩:=hr.int
   have hle:=hL.le
   simp only[dV]at hL hle
   simp only[rv,Tv.i.injEq]at e2
   rw[aN (by omega) (by omega)]at e2
   subst e2
   exact .int (cell_of e1) hL
 | .bool,_,_,_,_,_,_,_,hg,_,_,_,_,_,_=>by simp only[MR]at hg
 | .str,_,_,_,_,_,_,_,hg,_,_,_,_,_,_=>by simp only[MR]at hg
 | .sl t,v,S,o,q,n,m,r,hg,hT,hr,hq,hl,hm,hL=>by
   simp only[MR]at hg
   subst hq
   obtain⟨x,hx⟩:=hr.one rfl
   rw[hx,←CB]at hr
   rw[←rI]at hL
   exact .call (cell_of hx) hg hT hr hL
 | .st ts,v,S,o,q,n,m,r,hg,hT,hr,hq,hl,hm,hL=>by
   simp only[MR]at hg
   obtain⟨h0,cs0,S0,hT⟩:=hT
   obtain⟨vs,rfl,hT2⟩:=hT.st
   simp only[rv]at hr
   obtain⟨vs',e,hr2⟩:=hr.st
   simp only[Tv.r.injEq]at e
   subst e hq
   simp only[dV]at hL
   rw[List.drop_zero]at hr2
   rw[MD]
   exact CX.Qt ts (o0:=0) hg ⟨_,_,_,hT2⟩ hr2 (by simpa[Ty.size]using hl) hm hL
theorem CX.Qt {cd:Nat→Option AF} {fn:Ty→Nat} {h:H} {bs:List C} {p:Nat}:∀(ts:List Ty) {vs:List Tv} {S:List Nat} {o0:Nat} {q:List Nat} {n m:Nat} {r:List LD},Kk cd fn ts→(∃h0 cs0 S0,Rs h0 ts cs0 vs S0)→Rs h ts ((bs.drop (p+q.sum+o0)).take (Ty.aU ts)) (Ov ts vs n) S→p+q.sum+o0+Ty.aU ts≤bs.length→m≤1152921504606846976→CX cd h bs p r (n+JO ts vs) m→CX cd h bs p (mh fn ts o0 q++r) n m
 | [],vs,S,o0,q,n,m,r,hg,hT,hr,hl,hm,hL=>by
   obtain⟨h0,cs0,S0,hT⟩:=hT
   obtain⟨rfl,rfl,rfl⟩:=hT
   exact hL
 |t::ts,vs,S,o0,q,n,m,r,hg,hT,hr,hl,hm,hL=>by
  simp only[Kk]at hg
  obtain⟨h0,cs0,S0,hT⟩:=hT
  obtain⟨d1,d2,v,vr,S3,S4,rfl,rfl,rfl,hT1,hT2⟩:=hT
  simp only[Ov]at hr
  obtain⟨c1,c2,v',vr',S1,S2,e1,e2,rfl,hr1,hr2⟩:=hr
  simp only[List.cons.injEq]at e2
  obtain⟨rfl,rfl⟩:=e2
  simp only[Ty.aU]at e1 hl
  have hc1:=hr1.size
  have k1:c1=(bs.drop (p+(q.sum+o0))).take t.size:=by
   have:=congrArg (List.take t.size) e1
   rw[List.take_take,Nat.min_eq_left (by omega),←hc1,List.take_left]at this
   rw[←this,hc1,Nat.add_assoc]
  have k2:c2=(bs.drop (p+q.sum+(o0+t.size))).take (Ty.aU ts):=by
   have:=congrArg (List.drop t.size) e1
   rw[←hc1,List.drop_left,hc1,List.drop_take,List.drop_drop,show t.size+Ty.aU ts - t.size=Ty.aU ts by omega]at this
   rw[←this]
   congr 2
   omega
  simp only[JO]at hL
  rw[mh,List.append_assoc]
  rw[k1]at hr1
  rw[k2]at hr2
  exact CX.of t hg.1 ⟨_,_,_,hT1⟩ hr1 (by simp) (by omega) hm (CX.Qt ts hg.2 ⟨_,_,_,hT2⟩ hr2 (by omega) hm (by rw[Nat.add_assoc];exact hL))
end
theorem ky:∀(ds:List Nat) (f:Fr) {t:Nat},t∉ds→(forget f ds).get t=f.get t
 | [],f,t,_=>rfl
 |d::ds,f,t,h=>by
  rw[forget,ky ds _ (fun hm=>h (List.mem_cons_of_mem _ hm)),Fr.eH _ _ (fun e=>h (by rw[e];exact List.mem_cons_self))]
theorem J4:∀(n lo:Nat) {t:Nat},t∈Ow n lo→lo≤t
 |0,lo,t,h=>by cases h
 |n+1,lo,t,h=>by
  rw[Ow,List.mem_cons]at h
  rcases h with rfl|h
  ·omega
  ·exact J4 n lo h
section
variable {cd:Nat→Option AF} {f:Fr} {h:H} {R:List RV} {Q:V→H→Prop} {k:List KI} {c:C} {i kk d:Nat}
theorem Inv.forget (I:Inv f c i kk) (n:Nat):Inv (Go.Eng.forget f (Ow n 6)) c i kk:=by
 have:∀t,t < 6→t∉Ow n 6:=fun t ht hm=>by have:=J4 n 6 hm;omega
 exact⟨(ky _ _ (this 0 (by omega))).trans I.g0,(ky _ _ (this 5 (by omega))).trans I.g5,(ky _ _ (this 1 (by omega))).trans I.g1⟩
theorem Nz (I:Inv f c i kk) (hi:i+1≤9223372036854775807) (hw:∀f',Inv f' c (i+1) kk→WS cd k f' h R Q):WS cd (.c (H2 10 5)::k) f h R Q:=by
 refine lj I.g5 fun f1 a1 v1=> ?_
 have I1:=I.ag a1 (by omega)
 refine E4 (c:= .int .i64 ((i+1:Nat):Int)) v1 (by rw[C5,aN (by omega) (by omega)];rfl) fun f2 a2 v2=> ?_
 have I2:=I1.ag a2 (by omega)
 refine xf v2 fun f3 a3 v3=> ?_
 rw[cv]
 exact hw f3 ⟨(a3 0 (by omega)).trans I2.g0,v3,(a3 1 (by omega)).trans I2.g1⟩
theorem KU {as:List AC} (hw:WS cd (tl as k) f h R Q):WS cd (.c (JY as)::k) f h R Q:=by
 cases as with
 |nil=>rw[JY,oV];exact hw
 |cons a r=>exact hw
theorem Ge {g dep e n k0:Nat} {body:List AC} (hcd:cd g=some (D6 dep e body)) (he:6≤e) (hl:yx c=some n) (hn:n≤9223372036854775807) (cnt:Nat→Nat) (h0:cnt 0=k0) (J:Nat→H→Prop) (hJ:J 0 h)
 (round:∀(i:Nat) (f:Fr) (h':H) (K:List KI),i < n→J i h'→Inv f c i (cnt i)→(∀f' h'',J (i+1) h''→Inv f' c i (cnt (i+1))→WS cd K f' h'' [.tmp 4] Q)→WS cd (tl body K) f h' [.tmp 4] Q)
 (hQ:∀h',J n h'→Q (.val false [.int .i64 ((cnt n:Nat):Int)]) h'):WC cd g [(false,[c]),(false,[.int .i64 (k0:Int)])] h Q:=by
 refine aZ hcd rfl ?_
 have g0:(cZ (PT.full dep) 0 [(false,[c]),(false,[.int .i64 (k0:Int)])]).get 0= .val false [c]:=by
  simp only[cZ]
  rw[Fr.eH _ _ (by omega),Fr.bB]
 have g1:(cZ (PT.full dep) 0 [(false,[c]),(false,[.int .i64 (k0:Int)])]).get 1= .val false [.int .i64 (k0:Int)]:=by
  simp only[cZ]
  rw[Fr.bB]
 show WS cd [.c (D6 dep e body).body] (cZ (PT.full dep) 0 [(false,[c]),(false,[.int .i64 (k0:Int)])]) h [.tmp 4] Q
 generalize cZ (PT.full dep) 0 [(false,[c]),(false,[.int .i64 (k0:Int)])]=f0 at g0 g1
 simp only[D6]
 rw[hU]
 refine IK fun f1 a1 v1=> ?_
 rw[cv,hU,hU]
 refine IK fun f2 a2 v2=> ?_
 rw[cv,sJ]
 have I0:Inv f2 c 0 (cnt 0):=⟨(a2 0 (by omega)).trans ((a1 0 (by omega)).trans g0),v2,by rw[h0];exact(a2 1 (by omega)).trans ((a1 1 (by omega)).trans g1)⟩
 refine CL (fun g f h'=>∃i,g=n - i∧i≤n∧J i h'∧Inv f c i (cnt i)) n ⟨0,by omega,by omega,hJ,I0⟩ ?_
 rintro g f h' ⟨i,rfl,hi,hj,I⟩
 have I1:=I.forget (e - 6)
 rw[hU,hU]
 refine lj I1.g5 fun f3 a3 v3=> ?_
 have I3:=I1.ag a3 (by omega)
 refine lj I3.g0 fun f4 a4 v4=> ?_
 have I4:=I3.ag a4 (by omega)
 refine OR v4 hl fun f5 a5 v5=> ?_
 have I5:=I4.ag a5 (by omega)
 refine MO ((a5 6 (by omega)).trans ((a4 6 (by omega)).trans v3)) v5 (Dd _ _ _) fun f6 a6 v6=> ?_
 have I6:=I5.ag a6 (by omega)
 rw[cv,sk,show dt f6 (.s 9)=some (.bool (decide ((i:Int) < (n:Int))))by simp only[dt,ev,v6]]
 refine aV (fun hlt=> ?_) (fun hlt=> ?_)
 ·rw[oV,hU,sJ]
  refine KU (round i f6 h' _ (by omega) hj I6 fun f7 h7 hj7 I7=> ?_)
  rw[NL]
  refine Nz I7 (by omega) fun f8 I8=> ?_
  rw[BQ]
  exact⟨n - (i+1),by omega,i+1,rfl,by omega,hj7,I8⟩
 ·have hin:i=n:=by omega
  subst hin
  rw[Cr]
  rw[Nu,Ct,Nj,if_pos rfl,hU]
  refine lj I6.g1 fun f7 a7 v7=> ?_
  refine xf v7 fun f8 a8 v8=> ?_
  rw[cv,E5]
  have:kl f8 [.tmp 4]=some (.val false [.int .i64 ((cnt i:Nat):Int)]):=by simp only[kl,rX,zp,pR,ev,v8]
  rw[this]
  exact hQ h' hj
end
theorem Km:∀(ls:List LD) (d:Nat),d≤PA d ls
 | [],d=>Nat.le_refl _
 |l::r,d=>by have:=Km r (d+8+l.path.length);rw[PA];omega
theorem Jd {cd:Nat→Option AF} {g dep:Nat} {ts:List Ty} {fn:Ty→Nat} (hcd:cd g=some (PB dep (Ty.aU ts) (mh fn ts 0 []))) (hg:Kk cd fn ts):jR cd g (.sl (.st ts)):=by
 intro h cs v S k hT hv hk
 by_cases hsl:∃xs,v= .l xs
 case neg=>
  obtain⟨xs,e,_⟩:=hv.sl
  cases v <;>simp[yC]at e
  exact absurd ⟨_,rfl⟩ hsl
 obtain⟨zs,rfl⟩:=hsl
 have hTe:∀i (hi:i < zs.length),NQ (.st ts) zs[i]:=fun i hi=>by
  obtain⟨h0,cs0,S0,hT⟩:=hT
  obtain⟨_,ys,_,_,_,_,_,e,_,_,_,_,_,hel0,_⟩:=hT.view
  simp at e
  subst e
  obtain⟨Si,hx⟩:=hel0.at hi
  exact⟨_,_,_,hx⟩
 obtain⟨c,xs,id,off,bs,S',rfl,hxs,hm,hl,hat,hce,hbs,hel,hS⟩:=hv.view
 have hcn:i1 (.sl (.st ts)) (.l zs)=(zs.map (dV (.st ts))).sum:=rfl
 rw[hcn]at hk⊢
 have hxs':xs=rQ (rv (.st ts)) (dV (.st ts)) zs k:=by
  have e:yC (.sl (.st ts)) (.l zs) k= .l (rQ (rv (.st ts)) (dV (.st ts)) zs k):=rfl
  rw[e]at hxs
  exact(by simpa using hxs.symm)
 have hlen:xs.length=zs.length:=by rw[hxs',dX]
 rw[hlen]at hl hm
 have hs1:(Ty.st ts).size=Ty.aU ts:=rfl
 refine Ge hcd (by have:=Km (mh fn ts 0 []) 12;omega) hl hm (fun i=>k+((zs.take i).map (dV (.st ts))).sum) (by simp) (fun _ h'=>h'=h) rfl ?_ ?_
 ·rintro i f h' K hi rfl I hw
  have hix:i < xs.length:=by omega
  have hsi:=sC (g:=dV (.st ts)) (List.getElem?_eq_getElem hi)
  have hsl:=Cp (g:=dV (.st ts)) zs (i+1)
  obtain⟨Si,k1⟩:=hel.at hix
  have hxi:xs[i]=rv (.st ts) zs[i] (k+((zs.take i).map (dV (.st ts))).sum):=by
   have e1:xs[i]? =some (rv (.st ts) zs[i] (k+((zs.take i).map (dV (.st ts))).sum)):=by
    rw[hxs']
    have e2:zs=zs.take i++zs[i]::zs.drop (i+1):=by rw[←List.drop_eq_getElem_cons hi,List.take_append_drop]
    conv=>lhs;rw[e2,wI,rQ]
    have hl2:(rQ (rv (.st ts)) (dV (.st ts)) (zs.take i) k).length=i:=by rw[dX,List.length_take];omega
    rw[List.getElem?_append_right (by omega),hl2,Nat.sub_self,List.getElem?_cons_zero]
   rw[List.getElem?_eq_getElem hix]at e1
   simpa using e1
  rw[hxi]at k1
  have hfit:off+i * Ty.aU ts+Ty.aU ts≤bs.length:=by
   have:=Nat.mul_le_mul_right (Ty.aU ts) hix
   rw[Nat.succ_mul]at this
   rw[hs1]at hbs
   omega
  have hL:=CX.of (cd:=cd) (fn:=fn) (h:=h') (bs:=bs) (p:=off+i * Ty.aU ts) (.st ts) (q:= []) (o:=0) (r:= []) (n:=k+((zs.take i).map (dV (.st ts))).sum) (by simpa only[MR]using hg) (hTe i hi) (by simpa only[Nat.add_zero,hs1]using k1) rfl (by simpa only[Nat.add_zero,hs1]using hfit) (m:=k+((zs.take i).map (dV (.st ts))).sum+dV (.st ts) zs[i]) (by omega) .nil
  rw[List.append_nil]at hL
  refine PI (by simpa only[hs1]using hat i hix) (hce (by omega)).1 hL (by omega) (by omega) I fun f' I'=>hw f' h' rfl ?_
  have:k+((zs.take (i+1)).map (dV (.st ts))).sum=k+((zs.take i).map (dV (.st ts))).sum+dV (.st ts) zs[i]:=by omega
  rw[this]
  exact I'
 ·rintro h' rfl
  exact⟨rfl,by rw[List.take_length]⟩
end Go.Eng
namespace Go.Eng
def OJ (sz d:Nat):LD→List AC
 |⟨p,none⟩=> [.ops (.i (.mov d (.s 0)):: .i (.mov (d+1) (.s 5)):: .i (.mov (d+2) (.s 1)):: .i (.iad (d+3) (.s d) (.s (d+1)) sz)::(F0 (d+3) p++ [.i (.sth (.s (d+3+p.length)) (.s (d+2)) 1)])),H2 (d+4+p.length) 1]
 |⟨p,some g⟩=> [.ops (H4 sz d p [.i (.call (d+6+p.length) g false [.s (d+3+p.length), .s (d+4+p.length)]), .i (.mov 1 (.s (d+5+p.length)))])]
def Hg (sz:Nat):Nat→List LD→List AC
 |_,[]=> []
 |d,l::r=>OJ sz d l++Hg sz (d+6+l.path.length) r
def tE:Nat→List LD→Nat
 |d,[]=>d
 |d,l::r=>tE (d+6+l.path.length) r
theorem Ar:∀(a b:List LD) (d:Nat),tE d (a++b)=tE (tE d a) b
 | [],b,d=>rfl
 |l::a,b,d=>Ar a b _
theorem y4:∀(ls:List LD) (d:Nat),d≤tE d ls
 | [],d=>Nat.le_refl _
 |l::r,d=>by have:=y4 r (d+6+l.path.length);rw[tE];omega
def PF (dep sz:Nat) (ls:List LD):AF:=D6 dep (tE 12 ls) (Hg sz 12 ls)
theorem ph {bs bs':List C} {o n:Nat} (h:∀j,o≤j→j < o+n→bs'[j]? =bs[j]?):(bs'.drop o).take n=(bs.drop o).take n:=by
 apply List.ext_getElem?
 intro j
 rw[List.getElem?_take,List.getElem?_take,List.getElem?_drop,List.getElem?_drop]
 split
 ·exact h _ (by omega) (by omega)
 ·rfl
theorem patch {bs bs':List C} {off N o sz:Nat} (hl:bs'.length=bs.length) (hN:off+N≤bs.length) (ho:o+sz≤N) (hs:∀j,j < off+o∨off+o+sz≤j→bs'[j]? =bs[j]?):
 aR ((bs.drop off).take N) o ((bs'.drop (off+o)).take sz)=(bs'.drop off).take N:=by
 have l1:((bs.drop off).take N).length=N:=by rw[List.length_take,List.length_drop];omega
 have l2:((bs'.drop (off+o)).take sz).length=sz:=by rw[List.length_take,List.length_drop];omega
 rw[du _ _ _ (by rw[l1,l2];omega),l2]
 have e1:((bs.drop off).take N).take o=(bs'.drop off).take o:=by
  rw[List.take_take,Nat.min_eq_left (by omega)]
  exact(ph fun j h1 h2=>hs j (by omega)).symm
 have e2:((bs.drop off).take N).drop (o+sz)=(bs'.drop (off+(o+sz))).take (N - (o+sz)):=by
  rw[List.drop_take,List.drop_drop]
  exact(ph fun j h1 h2=>hs j (by omega)).symm
 rw[e1,e2]
 have e3:N=o+(sz+(N - (o+sz))):=by omega
 conv=>rhs;rw[e3,List.take_add,List.take_add,List.drop_drop,List.drop_drop]
 simp only[Nat.add_assoc,List.append_assoc]
section
variable {cd:Nat→Option AF} {f:Fr} {h:H} {R:List RV} {Q:V→H→Prop} {k:List KI} {l:List IT} {c:C} {i kk d sz:Nat}
theorem Pj {x y id o ty:Nat} {bs:List C} {u:C} (hx:f.get x= .val false [.ptr id o]) (hy:f.get y= .val false [u]) (hc:h[id]? =some (.own ty bs)) (hl:o < bs.length) (hw:WS cd (.c (.ops l)::k) f (h.set id (.own ty (bs.set o u))) R Q):WS cd (.c (.ops (.i (.sth (.s x) (.s y) 1)::l))::k) f h R Q:=by
 rw[eh _ rfl]
 simp only[ai,dt,pR,ev,hx,hy,hc]
 rw[if_pos ⟨rfl,by omega⟩]
 exact hw
theorem O4 {id p ty:Nat} {q:List Nat} {bs:List C} (hd:6≤d) (I:Inv f c i kk) (ha:CT c sz (i:Int)=some (id,p)) (hc:h[id]? =some (.own ty bs)) (hb:p+q.sum < bs.length) (hk:kk+1≤1152921504606846976)
 {r:List AC} (hw:∀f',Inv f' c i (kk+1)→WS cd (tl r k) f' (h.set id (.own ty (bs.set (p+q.sum) (.int .i64 (kk:Int))))) R Q):WS cd (tl (OJ sz d ⟨q,none⟩++r) k) f h R Q:=by
 simp only[OJ,List.cons_append,List.nil_append]
 rw[ym]
 refine lj I.g0 fun f1 a1 v1=> ?_
 have I1:=I.ag a1 hd
 refine lj I1.g5 fun f2 a2 v2=> ?_
 have I2:=I1.ag a2 (by omega)
 refine lj I2.g1 fun f3 a3 v3=> ?_
 have I3:=I2.ag a3 (by omega)
 refine MU ((a3 d (by omega)).trans ((a2 d (by omega)).trans v1)) ((a3 (d+1) (by omega)).trans v2) ha fun f4 a4 v4=> ?_
 have I4:=I3.ag a4 (by omega)
 refine EO q v4 fun f5 a5 v5=> ?_
 have I5:=I4.ag a5 (by omega)
 refine Pj v5 ((a5 (d+2) (by omega)).trans ((a4 (d+2) (by omega)).trans v3)) hc hb ?_
 rw[cv,ym]
 exact MA (by omega) I5 hk hw
theorem OX {id p g:Nat} {q:List Nat} {bs:List C} {x:C} {T:Ty} {v:Tv} {S:List Nat} (hd:6≤d) (I:Inv f c i kk) (ha:CT c sz (i:Int)=some (id,p)) (hc:h.cells id=some bs) (hb:bs[p+q.sum]? =some x)
 (hE:kC cd g (.sl T)) (hv:Rp h (.sl T) [x] v S) (ho:dr h S) (hk:kk+i1 (.sl T) v≤1152921504606846976)
 {r:List AC} (hw:∀f' h',Inv f' c i (kk+i1 (.sl T) v)→ew h h' S→Rp h' (.sl T) [x] (yC (.sl T) v kk) S→WS cd (tl r k) f' h' R Q):WS cd (tl (OJ sz d ⟨q,some g⟩++r) k) f h R Q:=by
 simp only[OJ,List.cons_append,List.nil_append]
 rw[ym]
 refine Ix hd I ha hc hb fun f1 I1 v1 w1=> ?_
 rw[tD]
 have e1:args f1 [.s (d+3+q.length), .s (d+4+q.length)]=some [(false,[x]),(false,[.int .i64 (kk:Int)])]:=by simp only[args,pR,ev,v1,w1]
 rw[e1]
 refine(hE hv ho hk).mono ?_
 rintro v' h' ⟨rfl,hw2,hr2⟩
 unfold KC
 have e2:eB f1 (d+6+q.length) (.val false [.int .i64 ((kk+i1 (.sl T) v:Nat):Int)])=f1.set (d+5+q.length) (.val false [.int .i64 ((kk+i1 (.sl T) v:Nat):Int)]):=by
  rw[show d+6+q.length=(d+5+q.length)+1 by omega];rfl
 rw[e2]
 have I2:=I1.ag (Ag.set (d+5+q.length) f1 (.val false [.int .i64 ((kk+i1 (.sl T) v:Nat):Int)])) (by omega)
 refine xf (Fr.bB _ _ _) fun f3 a3 v3=> ?_
 rw[cv]
 exact hw f3 h' ⟨(a3 0 (by omega)).trans I2.g0,(a3 5 (by omega)).trans I2.g5,v3⟩ hw2 hr2
end
mutual
def Mq (cd:Nat→Option AF) (fn:Ty→Nat):Ty→Prop
 | .st ts=>Ki cd fn ts
 | .int k=>k= .i64
 | .sl t=>kC cd (fn (.sl t)) (.sl t)
 | .bool=>False
 | .str=>False
def Ki (cd:Nat→Option AF) (fn:Ty→Nat):List Ty→Prop
 | []=>True
 |t::ts=>Mq cd fn t∧Ki cd fn ts
end
structure QC (h h':H) (id ty:Nat) (S:List Nat) (bs bs':List C) (o n:Nat):Prop where
 own:h'[id]? =some (.own ty bs')
 len:bs'.length=bs.length
 out:∀j,j < o∨o+n≤j→bs'[j]? =bs[j]?
 wr:ew h h' (id::S)
mutual
theorem Qy {cd:Nat→Option AF} {fn:Ty→Nat} {R:List RV} {Q:V→H→Prop} {K:List KI} {c:C} {i sz id p ty:Nat} (ha:CT c sz (i:Int)=some (id,p)):∀(T:Ty) {v:Tv} {S:List Nat} {o:Nat} {q:List Nat} {n d:Nat} {f:Fr} {h:H} {bs:List C} {r:List LD},
 Mq cd fn T→Rp h T ((bs.drop (p+o)).take T.size) v S→dr h S→id∉S→h[id]? =some (.own ty bs)→q.sum=o→p+o+T.size≤bs.length→n+dV T v≤1152921504606846976→6≤d→Inv f c i n→
 (∀f' h' bs',Inv f' c i (n+dV T v)→QC h h' id ty S bs bs' (p+o) T.size→Rp h' T ((bs'.drop (p+o)).take T.size) (rv T v n) S→WS cd (tl (Hg sz (tE d (MD fn T q)) r) K) f' h' R Q)→
 WS cd (tl (Hg sz d (MD fn T q++r)) K) f h R Q
 | .int kd,v,S,o,q,n,d,f,h,bs,r,hg,hr,ho,hid,hc,hq,hl,hk,hd,I,hw=>by
   simp only[Mq]at hg
   subst hg hq
   obtain⟨n',e1,rfl,rfl,_⟩:=hr.int
   simp only[Ty.size]at hl
   simp only[dV]at hk hw
   have hlt:id < h.length:=(List.getElem?_eq_some_iff.1 hc).1
   refine O4 hd I ha hc (by omega) (by omega) fun f1 I1=> ?_
   refine hw f1 _ (bs.set (p+q.sum) (.int .i64 (n:Int))) I1 ⟨by rw[List.getElem?_set_self hlt],List.length_set,fun j hj=> ?_,?_⟩ ?_
   ·simp only[Ty.size]at hj
    rw[List.getElem?_set_ne (by omega)]
   ·exact(ew.refl (h:=h) (S:= [id]) fun j hj=>by rw[List.mem_singleton]at hj;subst hj;exact⟨_,_,hc⟩).set (by simp) hlt
   ·have e2:((bs.set (p+q.sum) (C.int .i64 (n:Int))).drop (p+q.sum)).take (Ty.int .i64).size= [.int .i64 (n:Int)]:=by
     have hx:(bs.set (p+q.sum) (C.int .i64 (n:Int)))[p+q.sum]'(by rw[List.length_set];omega)= .int .i64 (n:Int):=List.getElem_set_self _
     rw[List.drop_eq_getElem_cons (by rw[List.length_set];omega),hx]
     rfl
    rw[e2]
    simp only[rv]
    rw[aN (by omega) (by omega)]
    have m1:IntKind.min .i64= -9223372036854775808:=by decide
    have m2:IntKind.max .i64=9223372036854775807:=by decide
    exact Rp.mkInt (by rw[m1];omega) (by rw[m2];omega)
 | .bool,_,_,_,_,_,_,_,_,_,_,hg,_,_,_,_,_,_,_,_,_,_=>by simp only[Mq]at hg
 | .str,_,_,_,_,_,_,_,_,_,_,hg,_,_,_,_,_,_,_,_,_,_=>by simp only[Mq]at hg
 | .sl t,v,S,o,q,n,d,f,h,bs,r,hg,hr,ho,hid,hc,hq,hl,hk,hd,I,hw=>by
   simp only[Mq]at hg
   subst hq
   obtain⟨x,hx⟩:=hr.one rfl
   rw[hx]at hr
   rw[←rI]at hk hw
   refine OX hd I ha (cu hc) (cell_of hx) hg hr ho hk fun f1 h1 I1 hw1 hr1=> ?_
   have hc1:h1[id]? =some (.own ty bs):=by rw[hw1.2.1 id hid];exact hc
   refine hw f1 h1 bs I1 ⟨hc1,rfl,fun _ _=>rfl,hw1.1,fun j hj=>hw1.2.1 j (fun hm=>hj (List.mem_cons_of_mem _ hm)),fun j hj=> ?_⟩ (by rw[hx,←CB];exact hr1)
   rcases List.mem_cons.1 hj with rfl|hj
   ·exact⟨_,_,hc1⟩
   ·exact hw1.2.2 j hj
 | .st ts,v,S,o,q,n,d,f,h,bs,r,hg,hr,ho,hid,hc,hq,hl,hk,hd,I,hw=>by
   simp only[Mq]at hg
   obtain⟨vs,rfl,hr2⟩:=hr.st
   subst hq
   rw[List.drop_zero]at hr2
   simp only[dV]at hk hw
   rw[MD]
   refine O3 ha ts (o0:=0) hg hr2 ho hid hc (by simpa[Ty.size]using hl) hk hd I fun f' h' bs' I' m' r'=> ?_
   exact hw f' h' bs' I' m' (by simp only[rv];exact⟨_,rfl,r'⟩)
theorem O3 {cd:Nat→Option AF} {fn:Ty→Nat} {R:List RV} {Q:V→H→Prop} {K:List KI} {c:C} {i sz id p ty:Nat} (ha:CT c sz (i:Int)=some (id,p)):∀(ts:List Ty) {vs:List Tv} {S:List Nat} {o0:Nat} {q:List Nat} {n d:Nat} {f:Fr} {h:H} {bs:List C} {r:List LD},
 Ki cd fn ts→Rs h ts ((bs.drop (p+q.sum+o0)).take (Ty.aU ts)) vs S→dr h S→id∉S→h[id]? =some (.own ty bs)→p+q.sum+o0+Ty.aU ts≤bs.length→n+JO ts vs≤1152921504606846976→6≤d→Inv f c i n→
 (∀f' h' bs',Inv f' c i (n+JO ts vs)→QC h h' id ty S bs bs' (p+q.sum+o0) (Ty.aU ts)→Rs h' ts ((bs'.drop (p+q.sum+o0)).take (Ty.aU ts)) (Ov ts vs n) S→WS cd (tl (Hg sz (tE d (mh fn ts o0 q)) r) K) f' h' R Q)→
 WS cd (tl (Hg sz d (mh fn ts o0 q++r)) K) f h R Q
 | [],vs,S,o0,q,n,d,f,h,bs,r,hg,hr,ho,hid,hc,hl,hk,hd,I,hw=>by
   obtain⟨e1,rfl,rfl⟩:=hr
   refine hw f h bs I ⟨hc,rfl,fun _ _=>rfl,ew.refl fun j hj=> ?_⟩ ⟨e1,rfl,rfl⟩
   rw[List.mem_singleton]at hj
   subst hj
   exact⟨_,_,hc⟩
 |t::ts,vs,S,o0,q,n,d,f,h,bs,r,hg,hr,ho,hid,hc,hl,hk,hd,I,hw=>by
  simp only[Ki]at hg
  obtain⟨c1,c2,v,vr,S1,S2,e1,rfl,rfl,hr1,hr2⟩:=hr
  simp only[Ty.aU]at e1 hl
  simp only[JO]at hk hw
  have hc1:=hr1.size
  have hc2:=hr2.size
  have k1:c1=(bs.drop (p+(q.sum+o0))).take t.size:=by
   have:=congrArg (List.take t.size) e1
   rw[List.take_take,Nat.min_eq_left (by omega),←hc1,List.take_left]at this
   rw[←this,hc1,Nat.add_assoc]
  have k2:c2=(bs.drop (p+q.sum+(o0+t.size))).take (Ty.aU ts):=by
   have:=congrArg (List.drop t.size) e1
   rw[←hc1,List.drop_left,hc1,List.drop_take,List.drop_drop,show t.size+Ty.aU ts - t.size=Ty.aU ts by omega]at this
   rw[←this]
   congr 2
   omega
  rw[k1]at hr1
  rw[k2]at hr2
  have hnd:=List.nodup_append.1 ho.1
  simp only[List.mem_append,not_or]at hid
  rw[mh,List.append_assoc]
  refine Qy ha t (q:=q++ [o0]) (o:=q.sum+o0) hg.1 hr1 ⟨hnd.1,fun j hj=>ho.2 j (List.mem_append_left _ hj)⟩ hid.1 hc (by simp) (by omega) (by omega) hd I fun f1 h1 bs1 I1 m1 r1=> ?_
  have hd1:=y4 (MD fn t (q++ [o0])) d
  have hs2:∀j∈S2,j∉id::S1:=fun j hj hm=>by
   rcases List.mem_cons.1 hm with rfl|hm
   ·exact hid.2 hj
   ·exact hnd.2.2 j hm j hj rfl
  have b1:(bs1.drop (p+q.sum+(o0+t.size))).take (Ty.aU ts)=(bs.drop (p+q.sum+(o0+t.size))).take (Ty.aU ts):=ph fun j h1 h2=>m1.out j (by omega)
  have hl1:=m1.len
  refine O3 ha ts (o0:=o0+t.size) (n:=n+dV t v) hg.2 (by rw[b1];exact hr2.frame fun j hj=>cg (m1.wr.2.1 j (hs2 j hj))) (m1.wr.BH ⟨hnd.2.1,fun j hj=>ho.2 j (List.mem_append_right _ hj)⟩) hid.2 m1.own (by omega) (by omega) (by omega) I1 fun f2 h2 bs2 I2 m2 r2=> ?_
  have hs1:∀j∈S1,j∉id::S2:=fun j hj hm=>by
   rcases List.mem_cons.1 hm with rfl|hm
   ·exact hid.1 hj
   ·exact hnd.2.2 j hj j hm rfl
  have b2:(bs2.drop (p+(q.sum+o0))).take t.size=(bs1.drop (p+(q.sum+o0))).take t.size:=ph fun j h1 h2=>m2.out j (by omega)
  have hr3:=r1.frame fun j hj=>cg (m2.wr.2.1 j (hs1 j hj))
  rw[←b2]at hr3
  have e4:(bs2.drop (p+q.sum+o0)).take (Ty.aU (t::ts))=(bs2.drop (p+(q.sum+o0))).take t.size++(bs2.drop (p+q.sum+(o0+t.size))).take (Ty.aU ts):=by
   rw[Ty.aU,List.take_add,List.drop_drop]
   simp only[Nat.add_assoc]
  have:=hw f2 h2 bs2 (by rw[←Nat.add_assoc];exact I2) ⟨m2.own,m2.len.trans m1.len,fun j hj=> ?_,?_⟩ (by rw[e4,Ov];exact⟨_,_,_,_,_,_,rfl,rfl,rfl,hr3,r2⟩)
  ·rw[mh,Ar]at this
   exact this
  ·simp only[Ty.aU]at hj
   rw[m2.out j (by omega),m1.out j (by omega)]
  ·refine⟨m2.wr.1.trans m1.wr.1,fun j hj=> ?_,fun j hj=> ?_⟩
   ·simp only[List.mem_cons,List.mem_append,not_or]at hj
    rw[m2.wr.2.1 j (by simp only[List.mem_cons,not_or];exact⟨hj.1,hj.2.2⟩),m1.wr.2.1 j (by simp only[List.mem_cons,not_or];exact⟨hj.1,hj.2.1⟩)]
   ·by_cases h2:j∈id::S2
    ·exact m2.wr.2.2 j h2
    ·rw[m2.wr.2.1 j h2]
     refine m1.wr.2.2 j ?_
     simp only[List.mem_cons,List.mem_append,not_or]at hj h2⊢
     rcases hj with rfl|hj|hj
     ·exact .inl rfl
     ·exact .inr hj
     ·exact absurd hj h2.2
end
theorem JQ {cd:Nat→Option AF} {g dep:Nat} {ts:List Ty} {fn:Ty→Nat} (hcd:cd g=some (PF dep (Ty.aU ts) (mh fn ts 0 []))) (hg:Ki cd fn ts):kC cd g (.sl (.st ts)):=by
 intro h cs v S k hv ho hk
 obtain⟨c,xs,id,off,bs,S',rfl,rfl,hm,hl,hat,hce,hbs,hel,hS⟩:=hv.view
 have hcn:i1 (.sl (.st ts)) (.l xs)=(xs.map (dV (.st ts))).sum:=rfl
 have hmk:yC (.sl (.st ts)) (.l xs) k= .l (rQ (rv (.st ts)) (dV (.st ts)) xs k):=rfl
 rw[hcn]at hk⊢
 rw[hmk]
 have hsub:∀j∈S',j∈S:=fun j hj=>by
  rcases hS with e|⟨_,_,e⟩
  ·rw[e];simp[hj]
  ·rw[e]at hj;cases hj
 have hnd:S'.Nodup:=by
  rcases hS with e|⟨_,_,e⟩
  ·have:=ho.1
   rw[e]at this
   exact(List.nodup_cons.1 this).2
  ·rw[e];simp
 have hid:0 < xs.length→id∉S'∧id∈S:=fun hp=>by
  rcases hS with e|⟨e,_,_⟩
  ·have:=ho.1
   rw[e]at this
   exact⟨(List.nodup_cons.1 this).1,by rw[e];simp⟩
  ·rw[e]at hp;simp at hp
 have hs1:(Ty.st ts).size=Ty.aU ts:=rfl
 have hty:∃ty,0 < xs.length→h[id]? =some (.own ty bs):=by
  by_cases hp:0 < xs.length
  ·obtain⟨ty,cs,e⟩:=ho.2 id (hid hp).2
   have e2:=(hce hp).1
   rw[cu e]at e2
   simp only[Option.some.injEq]at e2
   subst e2
   exact⟨ty,fun _=>e⟩
  ·exact⟨0,fun e=>absurd e hp⟩
 obtain⟨ty,hty⟩:=hty
 refine Ge hcd (by have:=y4 (mh fn ts 0 []) 12;omega) hl hm (fun i=>k+((xs.take i).map (dV (.st ts))).sum) (by simp)
  (fun i h'=>ew h h' S∧(xs.length=0→h'=h)∧∃bs',(0 < xs.length→h'[id]? =some (.own ty bs'))∧bs'.length=bs.length∧bq (Rp h' (.st ts)) (Ib (.st ts) xs k i) ((bs'.drop off).take (xs.length * (Ty.st ts).size)) S')
  ⟨ew.refl ho.2,fun _=>rfl,bs,hty,rfl,by rw[Ew];exact hel⟩ ?_ ?_
 ·rintro i f h' K hi ⟨hw,_,bs',hown,hlen,he⟩ I hK
  have hsi:=sC (g:=dV (.st ts)) (List.getElem?_eq_getElem hi)
  have hsl:=Cp (g:=dV (.st ts)) xs (i+1)
  obtain⟨Si,k1,k2,k3,k4⟩:=he.turn hnd (GI hi)
  rw[kj hi]at k1
  have hle:=Nat.mul_le_mul_right (Ty.aU ts) hi
  rw[Nat.succ_mul]at hle
  rw[hs1]at hbs
  have hidS:id∉Si:=fun hm=>(hid (by omega)).1 (k2 id hm)
  have hr:=Qy (cd:=cd) (fn:=fn) (R:= [.tmp 4]) (K:=K) (f:=f) (h:=h') (bs:=bs') (ty:=ty) (hat i hi) (.st ts) (q:= []) (o:=0) (r:= []) (n:=k+((xs.take i).map (dV (.st ts))).sum) (d:=12) (by simpa only[Mq]using hg) (by simpa only[Nat.add_zero]using k1)
   ⟨k3,fun j hj=>(hw.BH ho).2 j (hsub j (k2 j hj))⟩ hidS (hown (by omega)) rfl (by rw[hs1,hlen];omega) (by omega) (by omega) I (Q:=fun r h'=>r= .val false [.int .i64 ((k+(xs.map (dV (.st ts))).sum:Nat):Int)]∧ew h h' S∧Rp h' (.sl (.st ts)) [c] (.l (rQ (rv (.st ts)) (dV (.st ts)) xs k)) S)
   fun f2 h2 bs2 I2 m2 r2=> ?_
  ·rw[List.append_nil,MD]at hr
   exact hr
  ·simp only[Nat.add_zero]at m2 r2
   refine hK f2 h2 ⟨hw.more m2.wr (fun j hj=> ?_),fun e=>by omega,bs2,fun _=>m2.own,m2.len.trans hlen,?_⟩ ?_
   ·rcases List.mem_cons.1 hj with rfl|hj
    ·exact(hid (by omega)).2
    ·exact hsub j (k2 j hj)
   ·have k5:=k4 h2 _ _ (fun j hj hn=>cg (m2.wr.2.1 j (fun hm=>by
     rcases List.mem_cons.1 hm with rfl|hm
     ·exact(hid (by omega)).1 hj
     ·exact hn hm))) r2
    rw[DL hi]at k5
    have hp:=patch (bs:=bs') (bs':=bs2) (off:=off) (N:=xs.length * (Ty.st ts).size) (o:=i * (Ty.st ts).size) (sz:=(Ty.st ts).size) m2.len (by rw[hs1,hlen];omega) (by rw[hs1];omega) (fun j hj=>m2.out j hj)
    rw[hp]at k5
    exact k5
   ·have:k+((xs.take (i+1)).map (dV (.st ts))).sum=k+((xs.take i).map (dV (.st ts))).sum+dV (.st ts) xs[i]:=by omega
    rw[this]
    exact I2
 ·rintro h' ⟨hw,hz,bs',hown,hlen,he⟩
  rw[Gm]at he
  rw[List.take_length]
  refine⟨rfl,hw,?_⟩
  by_cases hp:0 < xs.length
  ·refine⟨_,rfl,?_, .inr ⟨id,off,bs',S',(Ty.st ts).size,?_,?_,?_,?_,?_, .inl rfl⟩⟩
   ·rw[dX];simp only[maxLen];omega
   ·rw[dX];rw[(hce hp).2]
   ·exact cu (hown hp)
   ·rw[dX,hlen];exact hbs
   ·rcases hS with e|⟨e,_⟩
    ·exact e
    ·rw[e]at hp;simp at hp
   ·rw[dX];exact he
  ·have hx:xs= []:=List.eq_nil_of_length_eq_zero (by omega)
   subst hx
   rw[hz rfl]
   exact hv
end Go.Eng
