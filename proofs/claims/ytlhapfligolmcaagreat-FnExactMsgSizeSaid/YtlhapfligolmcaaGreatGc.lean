import Derived.Test.YtlhapfligolmcaaGreatGb
set_option linter.unusedVariables false
set_option linter.unusedSimpArgs false
set_option maxRecDepth 100000
namespace Go.Eng
theorem F5 {cd:Nat→Option AF} {g gE:Nat} {T:Ty} (hcd:cd g=some (vL T.size gE T.agg)) (hE:cI cd gE T):cI cd g (.sl T):=by
 intro h cs v S k hv hk
 obtain⟨c,xs,id,off,bs,S',rfl,rfl,hm,hl,hat,hce,hbs,hel,hS⟩:=hv.view
 have hw:wt (.l xs)=xs.length+cQ xs:=by simp[wt]
 rw[hw]
 refine aC hcd rfl ?_
 simp(disch:=omega) only[vL,hl,av,SQ,SU,SL,reduceCtorEq,Nat.reduceAdd,Nat.reduceLeDiff,reduceIte]
 refine aq (fun hb=> ?_) (fun hb=> ?_)
 ·simp(disch:=omega) only[vL,av,SQ,SU,SL,reduceCtorEq,Nat.reduceAdd,Nat.reduceLeDiff,reduceIte]
  rw[if_neg (by omega)]
 ·simp(disch:=omega) only[vL,av,SQ,SU,SL,reduceCtorEq,Nat.reduceAdd,Nat.reduceLeDiff,reduceIte]
  refine lA (σ:=Nat) (f1:=_) (by simp only[SQ,SU,SL,reduceCtorEq,Nat.reduceAdd,Nat.reduceLeDiff,reduceIte];rfl) (fun i=> [(5, .val false [.int .i64 i]),(1, .val false [.int .i64 ((k - xs.length - cQ (xs.take i):Nat):Int)])])
   (fun i g h'=>g=xs.length - i∧i≤xs.length∧h'=h∧xs.length+cQ (xs.take i)≤k) 0 xs.length ?_ ⟨by omega,by omega,rfl,by simp[cQ];omega⟩ ?_
  ·have:((k - xs.length - cQ (xs.take 0):Nat):Int)=(k:Int) - xs.length:=by simp[cQ];omega
   rw[this]
   simp only[SQ,SU,SL,reduceCtorEq,Nat.reduceAdd,Nat.reduceLeDiff,reduceIte];rfl
  rintro i g h' ⟨hg,hi,rfl,hle⟩
  simp(disch:=omega) only[vL,hl,av,SQ,SU,SL,reduceCtorEq,Nat.reduceAdd,Nat.reduceLeDiff,reduceIte]
  refine aq (fun hlt=> ?_) (fun hlt=> ?_)
  ·have hix:i < xs.length:=by omega
   obtain⟨Si,hx⟩:=hel.at hix
   have hsz:=hx.size
   have hb2:off+i * T.size+T.size≤bs.length:=by
    have:=Nat.mul_le_mul_right T.size hix
    rw[Nat.succ_mul]at this
    omega
   simp(disch:=omega) only[vL,hl,hat i hix,(hce (by omega)).1,aA,av,SQ,SU,SL,reduceCtorEq,Nat.reduceAdd,Nat.reduceLeDiff,reduceIte]
   refine aM (hE hx (k:=k - xs.length - cQ (xs.take i)) (by omega)) ?_
   rintro r h'' ⟨rfl,rfl⟩
   have hwt:=Ca (List.getElem?_eq_getElem hix)
   have hwl:=zE xs (i+1)
   by_cases hf:wt xs[i]≤k - xs.length - cQ (xs.take i)
   ·rw[if_pos hf]
    simp(disch:=omega) only[ae,av,SQ,SU,SL,reduceCtorEq,Nat.reduceAdd,Nat.reduceLeDiff,reduceIte]
    refine aq (fun hn=> ?_) (fun hn=> ?_)
    ·omega
    ·simp(disch:=omega) only[av,SQ,SU,SL,reduceCtorEq,Nat.reduceAdd,Nat.reduceLeDiff,reduceIte]
     refine⟨i+1,xs.length - (i+1),by omega,?_,rfl,by omega,by omega⟩
     have:((k - xs.length - cQ (xs.take (i+1)):Nat):Int)=((k - xs.length - cQ (xs.take i):Nat):Int) - (wt xs[i]:Int):=by omega
     rw[this]
     rfl
   ·rw[if_neg hf]
    simp(disch:=omega) only[ae,av,SQ,SU,SL,reduceCtorEq,Nat.reduceAdd,Nat.reduceLeDiff,reduceIte]
    refine aq (fun hn=> ?_) (fun hn=> ?_)
    ·simp(disch:=omega) only[av,SQ,SU,SL,reduceCtorEq,Nat.reduceAdd,Nat.reduceLeDiff,reduceIte]
     rw[if_neg (by omega)]
    ·omega
  ·simp(disch:=omega) only[vL,av,SQ,SU,SL,reduceCtorEq,Nat.reduceAdd,Nat.reduceLeDiff,reduceIte]
   have:i=xs.length:=by omega
   subst this
   rw[List.take_length]at hle⊢
   rw[if_pos (by omega)]
   congr 3
   omega
theorem Ge {cd:Nat→Option AF} {g gE:Nat} {T:Ty} (hcd:cd g=some (wU T.size gE T.agg)) (hE:cG cd gE T):cG cd g (.sl T):=by
 intro h ca cb va vb Sa Sb ha hb
 obtain⟨c1,xs,id1,off1,bs1,S1,rfl,rfl,hm1,hl1,hat1,hce1,hbs1,hel1,hS1⟩:=ha.view
 obtain⟨c2,ys,id2,off2,bs2,S2,rfl,rfl,hm2,hl2,hat2,hce2,hbs2,hel2,hS2⟩:=hb.view
 refine aC hcd rfl ?_
 simp(disch:=omega) only[wU,hl1,hl2,av,SQ,SU,SL,reduceCtorEq,Nat.reduceAdd,Nat.reduceLeDiff,reduceIte]
 refine aq (fun hne=> ?_) (fun hne=> ?_)
 ·simp(disch:=omega) only[wU,SQ,SU,SL,reduceCtorEq,Nat.reduceAdd,Nat.reduceLeDiff,reduceIte]
  have:¬xs=ys:=fun e=>hne (by rw[e])
  simp[this]
 ·have hlen:xs.length=ys.length:=by omega
  simp(disch:=omega) only[wU,SQ,SU,SL,reduceCtorEq,Nat.reduceAdd,Nat.reduceLeDiff,reduceIte]
  refine lA (σ:=Nat) (f1:=_) (by simp only[SQ,SU,SL,reduceCtorEq,Nat.reduceAdd,Nat.reduceLeDiff,reduceIte];rfl) (fun i=> [(5, .val false [.int .i64 i])]) (fun i g h'=>g=xs.length - i∧i≤xs.length∧h'=h∧∀j,j < i→xs[j]? =ys[j]?) 0 xs.length (by simp only[SQ,SU,SL,reduceCtorEq,Nat.reduceAdd,Nat.reduceLeDiff,reduceIte];rfl) ⟨by omega,by omega,rfl,fun j hj=>by omega⟩ ?_
  rintro i g h' ⟨hg,hi,rfl,hall⟩
  simp(disch:=omega) only[wU,hl1,hl2,av,SQ,SU,SL,reduceCtorEq,Nat.reduceAdd,Nat.reduceLeDiff,reduceIte]
  refine aq (fun hlt=> ?_) (fun hlt=> ?_)
  ·have hix:i < xs.length:=by omega
   have hiy:i < ys.length:=by omega
   obtain⟨_,k1⟩:=hel1.at hix
   obtain⟨_,q1⟩:=hel2.at hiy
   have hb1:off1+i * T.size+T.size≤bs1.length:=by
    have:=Nat.mul_le_mul_right T.size hix
    rw[Nat.succ_mul]at this
    omega
   have hb2:off2+i * T.size+T.size≤bs2.length:=by
    have:=Nat.mul_le_mul_right T.size hiy
    rw[Nat.succ_mul]at this
    omega
   simp(disch:=omega) only[wU,hl1,hl2,hat1 i hix,hat2 i hiy,(hce1 (by omega)).1,(hce2 (by omega)).1,aA,av,SQ,SU,SL,reduceCtorEq,Nat.reduceAdd,Nat.reduceLeDiff,reduceIte]
   refine aM (hE k1 q1) ?_
   rintro r h'' ⟨rfl,rfl⟩
   simp(disch:=omega) only[ae,av,SQ,SU,SL,reduceCtorEq,Nat.reduceAdd,Nat.reduceLeDiff,reduceIte]
   by_cases he:xs[i]=ys[i]
   ·simp(disch:=omega) only[he,av,SQ,SU,SL,reduceCtorEq,Nat.reduceAdd,Nat.reduceLeDiff,reduceIte]
    refine⟨i+1,xs.length - (i+1),by omega,rfl,rfl,by omega,fun j hj=> ?_⟩
    by_cases e:j=i
    ·subst e
     rw[List.getElem?_eq_getElem hix,List.getElem?_eq_getElem hiy,he]
    ·exact hall j (by omega)
   ·simp(disch:=omega) only[he,av,SQ,SU,SL,reduceCtorEq,Nat.reduceAdd,Nat.reduceLeDiff,reduceIte]
    have:¬xs=ys:=fun e=>by subst e;exact he rfl
    simp[this]
  ·simp(disch:=omega) only[wU,SQ,SU,SL,reduceCtorEq,Nat.reduceAdd,Nat.reduceLeDiff,reduceIte]
   have:xs=ys:=List.ext_getElem? fun j=>by
    by_cases hj:j < i
    ·exact hall j hj
    ·rw[List.getElem?_eq_none (by omega),List.getElem?_eq_none (by omega)]
   simp[this]
theorem DL {h:H} {b b':tz} {t:H} {i:Nat} (hi:i≠h.length):(h++b'::t)[i]? =(h++b::t)[i]? :=by
 by_cases hl:i < h.length
 ·rw[List.getElem?_append_left hl,List.getElem?_append_left hl]
 ·rw[List.getElem?_append_right (by omega),List.getElem?_append_right (by omega)]
  obtain⟨j,e⟩:∃j,i - h.length=j+1:=⟨i - h.length - 1,by omega⟩
  rw[e,List.getElem?_cons_succ,List.getElem?_cons_succ]
theorem e6.app {h t:H} {S:List Nat} (ho:e6 h S):e6 (h++t) S:=⟨ho.1,fun i hi=>by
 obtain⟨ty,cs,e⟩:=ho.2 i hi
 exact⟨ty,cs,by rw[List.getElem?_append_left (List.getElem?_eq_some_iff.1 e).1];exact e⟩⟩
theorem e6.KE {h:H} {b b':tz} {t:H} {S:List Nat} (ho:e6 (h++b::t) S) (hs:∀i∈S,i≠h.length):e6 (h++b'::t) S:=⟨ho.1,fun i hi=>by
 obtain⟨ty,cs,e⟩:=ho.2 i hi
 exact⟨ty,cs,by rw[DL (b:=b) (hs i hi)];exact e⟩⟩
theorem Rp.KE {h:H} {b b':tz} {t:H} {T:Ty} {cs:List C} {v:Tv} {S:List Nat} (hr:Rp (h++b::t) T cs v S) (hs:∀i∈S,i≠h.length):Rp (h++b'::t) T cs v S:=hr.frame fun i hi=>eE (DL (hs i hi))
theorem ba.lt {h:H} {T:Ty} {xs:List Tv} {cs:List C} {S:List Nat} (hr:ba (Rp h T) xs cs S):∀i∈S,i < h.length:=ba.all (hr.imp fun c x S' _ hx=>hx.lt)
theorem Dr {z:List C} {e:Nat} (hz:z.length=e) (n:Nat):(List.replicate n z).flatten.length=n * e:=by simp[hz]
theorem Ed {D cs z:List C} {e n i:Nat} (hD:D.length=i * e) (hz:z.length=e) (hc:cs.length=e) (hi:i < n):aQ (D++(List.replicate (n - i) z).flatten) (i * e) cs=(D++cs)++(List.replicate (n - (i+1)) z).flatten:=by
 have e1:n - i=(n - (i+1))+1:=by omega
 rw[de _ _ _ (by simp only[List.length_append,Dr hz,hD,hc,e1,Nat.add_mul,Nat.one_mul];omega),e1,List.replicate_succ,List.flatten_cons,←hD,List.take_left,hc,List.drop_append,List.drop_eq_nil_of_le (by omega)]
 have e2:D.length+e - D.length=e:=by omega
 rw[e2,List.drop_append,List.drop_eq_nil_of_le (by omega),hz]
 simp
theorem GF {cd:Nat→Option AF} {g gE ty by_:Nat} {z:List C} {T:Ty} (hcd:cd g=some (A7 ty T.size by_ gE z T.agg)) (hby:by_≤4096) (hz:z.length=T.size) (hE:lB cd gE T):lB cd g (.sl T):=by
 intro h cs v S hv hw
 obtain⟨c,xs,id,off,bs,S',rfl,rfl,hm,hl,hat,hce,hbs,hel,hS⟩:=hv.view
 have hwx:xs.length+cQ xs≤1048576:=by simp only[wt]at hw;omega
 have hroom:cS (xs.length * by_+xs.length)=true:=zz (by have:=Nat.mul_le_mul (show xs.length≤1048576 by omega) hby;omega)
 refine aC hcd rfl ?_
 simp(disch:=omega) only[A7,hl,av,Int.toNat_natCast,hroom,aA,Int.natCast_nonneg,SQ,SU,SL,reduceCtorEq,Nat.reduceAdd,Nat.reduceLeDiff,reduceIte]
 refine lA (σ:=Nat) (f1:=_) (by simp only[SQ,SU,SL,reduceCtorEq,Nat.reduceAdd,Nat.reduceLeDiff,reduceIte];rfl) (fun i=> [(4, .val false [.int .i64 i])])
  (fun i g h'=>g=xs.length - i∧i≤xs.length∧∃D Sd t,h'=h++ .own ty (D++(List.replicate (xs.length - i) z).flatten)::t∧ba (Rp h' T) (xs.take i) D Sd∧e6 h' Sd∧∀j∈Sd,h.length < j) 0 xs.length (by simp only[SQ,SU,SL,reduceCtorEq,Nat.reduceAdd,Nat.reduceLeDiff,reduceIte];rfl)
  ⟨by omega,by omega,[],[],[],by simp,by simp[ba],⟨by simp,by simp⟩,by simp⟩ ?_
 rintro i g h' ⟨hg,hi,D,Sd,t,rfl,hD,hO,hlo⟩
 simp(disch:=omega) only[A7,hl,av,SQ,SU,SL,reduceCtorEq,Nat.reduceAdd,Nat.reduceLeDiff,reduceIte]
 have hDl:D.length=i * T.size:=by
  have:=hD.len Rp.DH
  rw[List.length_take,Nat.min_eq_left hi]at this
  exact this
 refine aq (fun hlt=> ?_) (fun hlt=> ?_)
 ·have hix:i < xs.length:=by omega
  obtain⟨Si,hx⟩:=hel.at hix
  have hcells:=vn (hce (by omega)).1
  have hb2:off+i * T.size+T.size≤bs.length:=by
   have:=Nat.mul_le_mul_right T.size hix
   rw[Nat.succ_mul]at this
   omega
  simp(disch:=omega) only[A7,hl,hat i hix,hcells,aA,av,SQ,SU,SL,reduceCtorEq,Nat.reduceAdd,Nat.reduceLeDiff,reduceIte]
  have hwt:=Ca (List.getElem?_eq_getElem hix)
  have hwl:=zE xs (i+1)
  refine aM (hE (hx.app (t:= .own ty (D++(List.replicate (xs.length - i) z).flatten)::t)) (by omega)) ?_
  rintro r h'' ⟨t',cs',S2,rfl,rfl,hr,hO2,hlo2⟩
  have hcl:=hr.size
  have hfit:i * T.size+T.size≤(D++(List.replicate (xs.length - i) z).flatten).length:=by
   have e1:xs.length - i=(xs.length - (i+1))+1:=by omega
   rw[List.length_append,Dr hz,hDl,e1,Nat.add_mul,Nat.one_mul]
   omega
  have hset:=Ed hDl hz hcl hix
  simp(disch:=omega) only[ae,FQ,Int.toNat_natCast,List.append_assoc,List.cons_append,gf,B5,hcl,hset,hfit,aA,av,SQ,SU,SL,reduceCtorEq,Nat.reduceAdd,Nat.reduceLeDiff,reduceIte]
  have hd1:∀j∈Sd,j≠h.length:=fun j hj=>by have:=hlo j hj;omega
  have hd2:∀j∈S2,j≠h.length:=fun j hj=>by have:=hlo2 j hj;simp at this;omega
  have hdl:∀j∈Sd,j < (h++tz.own ty (D++(List.replicate (xs.length - i) z).flatten)::t).length:=hD.lt
  refine⟨i+1,xs.length - (i+1),by omega,rfl,rfl,by omega,D++cs',Sd++S2,t++t',by rw[List.append_assoc],?_,⟨?_,?_⟩,?_⟩
  ·have e1:xs.take (i+1)=xs.take i++ [xs[i]]:=by rw[List.take_add_one,List.getElem?_eq_getElem hix];rfl
   rw[e1]
   refine(hD.imp fun c x S' hs hx=> ?_).join (ba.one ?_)
   ·have:=hx.app (t:=t')
    rw[List.append_assoc,List.cons_append]at this
    exact this.KE fun j hj=>hd1 j (hs j hj)
   ·rw[List.append_assoc,List.cons_append]at hr
    exact hr.KE hd2
  ·rw[List.nodup_append]
   refine⟨hO.1,hO2.1,fun a ha b hb e=> ?_⟩
   have h1:=hdl a ha
   have h2:=hlo2 b hb
   omega
  ·intro j hj
   rcases List.mem_append.1 hj with hj|hj
   ·have:=(hO.app (t:=t'))
    rw[List.append_assoc,List.cons_append]at this
    exact(this.KE (b':= .own ty (D++(cs'++(List.replicate (xs.length - (i+1)) z).flatten))) hd1).2 j hj
   ·have:=hO2
    rw[List.append_assoc,List.cons_append]at this
    exact(this.KE (b':= .own ty (D++(cs'++(List.replicate (xs.length - (i+1)) z).flatten))) hd2).2 j hj
  ·intro j hj
   rcases List.mem_append.1 hj with hj|hj
   ·exact hlo j hj
   ·have:=hlo2 j hj
    simp at this
    omega
 ·simp(disch:=omega) only[A7,SQ,SU,SL,reduceCtorEq,Nat.reduceAdd,Nat.reduceLeDiff,reduceIte]
  have hi':i=xs.length:=by omega
  subst hi'
  refine⟨_,[.sl h.length 0 xs.length T.size],h.length::Sd,rfl,rfl,?_,⟨List.nodup_cons.2 ⟨fun hm=>absurd (hlo _ hm) (by omega),hO.1⟩,fun j hj=> ?_⟩,fun j hj=> ?_⟩
  ·refine⟨xs,rfl,by simp only[maxLen];omega, .inr ⟨h.length,0,_,Sd,_,rfl,c8 (gf h _ t),?_,rfl,?_, .inl rfl⟩⟩
   ·simp[hDl]
   ·have e1:(List.drop 0 (D++(List.replicate (xs.length - xs.length) z).flatten)).take (xs.length * T.size)=D:=by
     simp[←hDl]
    rw[e1]
    rw[List.take_length]at hD
    exact hD
  ·rcases List.mem_cons.1 hj with rfl|hj
   ·exact⟨_,_,gf h _ t⟩
   ·exact hO.2 j hj
  ·rcases List.mem_cons.1 hj with rfl|hj
   ·exact Nat.le_refl _
   ·exact Nat.le_of_lt (hlo j hj)
theorem ba.turn {h:H} {T:Ty}:∀ {xs:List Tv} {cs:List C} {S:List Nat},ba (Rp h T) xs cs S→S.Nodup→∀ {i:Nat} {x:Tv},xs[i]? =some x→
 ∃Si,Rp h T ((cs.drop (i * T.size)).take T.size) x Si∧(∀j∈Si,j∈S)∧Si.Nodup∧
  ∀(h':H) (x':Tv) (c':List C),(∀j∈S,j∉Si→h'.cells j=h.cells j)→Rp h' T c' x' Si→ba (Rp h' T) (xs.set i x') (aQ cs (i * T.size) c') S:=by
 intro xs cs S hr hn i x hx
 obtain⟨S1,Si,S2,k1,k2,k3,k4⟩:=hr.split Rp.DH hx
 rw[k1,List.nodup_append]at hn
 obtain⟨n1,n2,n3⟩:=hn
 rw[List.nodup_append]at n2
 obtain⟨n4,n5,n6⟩:=n2
 have hlt:=(List.getElem?_eq_some_iff.1 hx).1
 have hlen:=hr.len Rp.DH
 refine⟨Si,k3,fun j hj=>by rw[k1];simp[hj],n4,fun h' x' c' hf hx'=> ?_⟩
 have hcl:=hx'.size
 have hle:(i+1) * T.size≤xs.length * T.size:=Nat.mul_le_mul_right _ hlt
 have e1:(i+1) * T.size=i * T.size+T.size:=by rw[Nat.add_mul,Nat.one_mul]
 rw[de _ _ _ (by omega),List.set_eq_take_append_cons_drop,if_pos hlt,k1,hcl,←e1]
 have a1:ba (Rp h' T) (xs.take i) (cs.take (i * T.size)) S1:=k2.imp fun c y S' hs hy=>hy.frame fun j hj=>hf j (by rw[k1];simp[hs j hj]) (fun hm=>n3 j (hs j hj) j (by simp[hm]) rfl)
 have a2:ba (Rp h' T) (xs.drop (i+1)) (cs.drop ((i+1) * T.size)) S2:=k4.imp fun c y S' hs hy=>hy.frame fun j hj=>hf j (by rw[k1];simp[hs j hj]) (fun hm=>n6 j hm j (hs j hj) rfl)
 rw[List.append_assoc]
 refine a1.join ?_
 exact(ba.one hx').join a2
theorem we.refl {h:H} {S:List Nat} (ho:∀i∈S,∃ty cs,h[i]? =some (.own ty cs)):we h h S:=⟨rfl,fun _ _=>rfl,ho⟩
theorem JK {t:Ty} {v:Tv}:Ek (.sl t) v=Ep (.sl t) v:=by cases v <;>rfl
theorem cI.go {cd:Nat→Option AF} {g:Nat} {T:Ty} (hE:cI cd g T) {h:H} {cs:List C} {v:Tv} {S:List Nat} (hv:Rp h T cs v S) {k:Nat} (hk:k≤1048576) {K:V→H→Prop}
 (h1:wt v≤k→K (.val false [.int .i64 ((k - wt v:Nat):Int)]) h) (h2:¬wt v≤k→K (.val false [.int .i64 (-1)]) h):WC cd g [(T.agg,cs),(false,[.int .i64 k])] h K:=by
 refine aM (hE hv hk) ?_
 rintro r h' ⟨rfl,rfl⟩
 by_cases hf:wt v≤k
 ·rw[if_pos hf]
  have:(k:Int) - wt v=((k - wt v:Nat):Int):=by omega
  rw[this]
  exact h1 hf
 ·rw[if_neg hf];exact h2 hf
theorem cG.go {cd:Nat→Option AF} {g:Nat} {T:Ty} (hE:cG cd g T) {h:H} {ca cb:List C} {va vb:Tv} {Sa Sb:List Nat} (ha:Rp h T ca va Sa) (hb:Rp h T cb vb Sb) {K:V→H→Prop}
 (h1:va=vb→K (.val false [.bool true]) h) (h2:¬va=vb→K (.val false [.bool false]) h):WC cd g [(T.agg,ca),(T.agg,cb)] h K:=by
 refine aM (hE ha hb) ?_
 rintro r h' ⟨rfl,rfl⟩
 by_cases hf:va=vb
 ·simp only[hf,decide_true];exact h1 hf
 ·simp only[hf,decide_false];exact h2 hf
theorem Rs.nil {h:H}:Rs h [] [] [] []:=⟨rfl,rfl,rfl⟩
theorem Rs.mk {h:H} {t:Ty} {ts:List Ty} {c1 c2:List C} {v:Tv} {vr:List Tv} {S1 S2:List Nat} (h1:Rp h t c1 v S1) (h2:Rs h ts c2 vr S2):Rs h (t::ts) (c1++c2) (v::vr) (S1++S2):=⟨c1,c2,v,vr,S1,S2,rfl,rfl,rfl,h1,h2⟩
theorem Rp.mkInt {h:H} {k:IntKind} {n:Int} (h1:k.min≤n) (h2:n≤k.max):Rp h (.int k) [.int k n] (.i n) []:=⟨n,rfl,rfl,rfl,h1,h2⟩
def i4 (h0 h1:H) (S:List Nat):Prop:=e6 h1 S∧h0.length≤h1.length∧∀i∈S,h0.length≤i∧i < h1.length
theorem i4.nil (h:H):i4 h h []:=⟨⟨by simp,by simp⟩,Nat.le_refl _,by simp⟩
theorem i4.step {h0 h1 t:H} {S1 S2:List Nat} (h:i4 h0 h1 S1) (hl:∀i∈S2,i < (h1++t).length) (ho:e6 (h1++t) S2) (hg:∀i∈S2,h1.length≤i):i4 h0 (h1++t) (S1++S2):=by
 refine⟨⟨List.nodup_append.2 ⟨h.1.1,ho.1,fun a ha b hb e=> ?_⟩,fun i hi=> ?_⟩,by have:=h.2.1;simp;omega,fun i hi=> ?_⟩
 ·have h1:=(h.2.2 a ha).2
  have h2:=hg b hb
  omega
 ·rcases List.mem_append.1 hi with hi|hi
  ·exact(h.1.app (t:=t)).2 i hi
  ·exact ho.2 i hi
 ·rcases List.mem_append.1 hi with hi|hi
  ·have:=h.2.2 i hi
   simp
   omega
  ·have:=h.2.1
   have:=hg i hi
   exact⟨by omega,hl i hi⟩
theorem i4.both {h0 h1:H} {S:List Nat} (h:i4 h0 h1 S):e6 h1 S∧∀i∈S,h0.length≤i:=⟨h.1,fun i hi=>(h.2.2 i hi).1⟩
theorem KT.go {cd:Nat→Option AF} {g:Nat} {T:Ty} (hE:KT cd g T) {h:H} {cs:List C} {v:Tv} {S:List Nat} {k:Nat} (hv:Rp h T cs v S) (ho:e6 h S) (hk:k+Ek T v≤1152921504606846976) {K:V→H→Prop}
 (h1:∀h',we h h' S→Rp h' T cs (Kd T v k) S→K (.val false [.int .i64 ((k+Ek T v:Nat):Int)]) h'):WC cd g [(T.agg,cs),(false,[.int .i64 k])] h K:=by
 refine aM (hE hv ho hk) ?_
 rintro r h' ⟨rfl,a,b⟩
 exact h1 h' a b
theorem KO.go {cd:Nat→Option AF} {g:Nat} {T:Ty} (hE:KO cd g T) {h:H} {cs:List C} {v:Tv} {S:List Nat} {k:Nat} (hT:L9 T v) (hv:Rp h T cs (Kd T v k) S) (hk:k+Ek T v≤1152921504606846976) {K:V→H→Prop}
 (h1:K (.val false [.int .i64 ((k+Ek T v:Nat):Int)]) h):WC cd g [(T.agg,cs),(false,[.int .i64 k])] h K:=by
 refine aM (hE hT hv hk) ?_
 rintro r h' ⟨rfl,rfl⟩
 exact h1
theorem e6.split {h:H} {A B:List Nat} (ho:e6 h (A++B)):e6 h A∧e6 h B∧(∀i∈A,i∉B)∧∀i∈B,i∉A:=by
 obtain⟨h1,h2⟩:=ho
 rw[List.nodup_append]at h1
 exact⟨⟨h1.1,fun i hi=>h2 i (by simp[hi])⟩,⟨h1.2.1,fun i hi=>h2 i (by simp[hi])⟩,fun i hi hn=>h1.2.2 i hi i hn rfl,fun i hi hn=>h1.2.2 i hn i hi rfl⟩
theorem Rs.fin {h:H} {cs:List C} {o:Nat} (e:cs.length≤o):Rs h [] (cs.drop o) [] []:=⟨List.drop_eq_nil_of_le e,rfl,rfl⟩
theorem Rp.set {h:H} {id:Nat} {b:tz} {T:Ty} {cs:List C} {v:Tv} {S:List Nat} (hr:Rp h T cs v S) (hn:id∉S):Rp (h.set id b) T cs v S:=hr.frame fun i hi=>eE (bF (fun e=>hn (e▸hi)))
theorem e6.set {h:H} {id ty:Nat} {cs:List C} {S:List Nat} (ho:e6 h S) (hl:id < h.length):e6 (h.set id (.own ty cs)) S:=⟨ho.1,fun i hi=>by
 by_cases e:i=id
 ·subst e;exact⟨ty,cs,i5 hl⟩
 ·rw[bF e];exact ho.2 i hi⟩
theorem we.set {h h':H} {id ty:Nat} {cs:List C} {S:List Nat} (hw:we h h' S) (hi:id∈S) (hl:id < h'.length):we h (h'.set id (.own ty cs)) S:=by
 refine⟨by rw[List.length_set];exact hw.1,fun i hn=> ?_,fun i hm=> ?_⟩
 ·rw[bF (fun e=>hn (by rw[e];exact hi))];exact hw.2.1 i hn
 ·by_cases e:i=id
  ·subst e;exact⟨ty,cs,i5 hl⟩
  ·rw[bF e];exact hw.2.2 i hm
theorem Rp.i0 {h h' t:H} {T:Ty} {cs:List C} {v:Tv} {S:List Nat} (e:h'=h++t) (hr:Rp h T cs v S):Rp h' T cs v S:=by subst e;exact hr.app
theorem e6.i0 {h h' t:H} {S:List Nat} (e:h'=h++t) (ho:e6 h S):e6 h' S:=by subst e;exact ho.app
theorem fT {h h' t:H} (e:h'=h++t):h.length≤h'.length:=by subst e;simp
theorem wL {cs vs:List C} (h:vs.length=cs.length):aQ cs 0 vs=vs:=by rw[de _ _ _ (by omega)];simp[h]
mutual
def lv:Ty→Nat
 | .st ts=>JI ts
 | .sl t=>lv t
 |_=>1
def JI:List Ty→Nat
 | []=>0
 |t::ts=>lv t+JI ts
end
mutual
theorem CI:∀(T:Ty) (v:Tv),Ep T v≤lv T * (1+wt v)
 | .int k,v=>by
   have:Ep (.int k) v=1:=rfl
   rw[this]
   show 1≤1 * (1+wt v)
   omega
 | .bool,v=>Nat.zero_le _
 | .str,v=>Nat.zero_le _
 | .sl t, .l xs=>by
   show(xs.map (Ep t)).sum≤lv t * (1+(xs.length+cQ xs))
   have key:∀ys:List Tv,(ys.map (Ep t)).sum≤lv t * (ys.length+cQ ys):=by
    intro ys
    induction ys with
    |nil=>simp
    |cons y ys ih=>
     have h1:=CI t y
     simp only[List.map_cons,List.sum_cons,List.length_cons,cQ]
     have e:lv t * (ys.length+1+(wt y+cQ ys))=lv t * (1+wt y)+lv t * (ys.length+cQ ys):=by rw[←Nat.mul_add];congr 1;omega
     omega
   exact Nat.le_trans (key xs) (Nat.mul_le_mul_left _ (by omega))
 | .st ts, .r vs=>by
   show Kb ts vs≤JI ts * (1+cQ vs)
   exact Gj ts vs
 | .sl t, .i _=>Nat.zero_le _
 | .sl t, .b _=>Nat.zero_le _
 | .sl t, .s _=>Nat.zero_le _
 | .sl t, .r _=>Nat.zero_le _
 | .st t, .i _=>Nat.zero_le _
 | .st t, .b _=>Nat.zero_le _
 | .st t, .s _=>Nat.zero_le _
 | .st t, .l _=>Nat.zero_le _
theorem Gj:∀(ts:List Ty) (vs:List Tv),Kb ts vs≤JI ts * (1+cQ vs)
 | [],vs=>by cases vs <;>exact Nat.zero_le _
 |t::ts,[]=>Nat.zero_le _
 |t::ts,v::vs=>by
  have h1:=CI t v
  have h2:=Gj ts vs
  show Ep t v+Kb ts vs≤(lv t+JI ts) * (1+(wt v+cQ vs))
  rw[Nat.add_mul]
  have h3:lv t * (1+wt v)≤lv t * (1+(wt v+cQ vs)):=Nat.mul_le_mul_left _ (by omega)
  have h4:JI ts * (1+cQ vs)≤JI ts * (1+(wt v+cQ vs)):=Nat.mul_le_mul_left _ (by omega)
  omega
end
mutual
theorem GC:∀(T:Ty) (v:Tv),Ek T v≤Ep T v
 | .int k,v=>Nat.zero_le _
 | .bool,v=>Nat.zero_le _
 | .str,v=>Nat.zero_le _
 | .sl t,v=>by rw[JK];exact Nat.le_refl _
 | .st ts, .r vs=>DA ts vs
 | .st t, .i _=>Nat.zero_le _
 | .st t, .b _=>Nat.zero_le _
 | .st t, .s _=>Nat.zero_le _
 | .st t, .l _=>Nat.zero_le _
theorem DA:∀(ts:List Ty) (vs:List Tv),JX ts vs≤Kb ts vs
 | [],vs=>by cases vs <;>exact Nat.zero_le _
 |t::ts,[]=>Nat.zero_le _
 |t::ts,v::vs=>Nat.add_le_add (GC t v) (DA ts vs)
end
end Go.Eng
