import Derived.Test.YtlhapfligolmcaaGreatGc
import Derived.Test.YtlhapfligolmcaaGreatGd
set_option linter.unusedVariables false
set_option linter.unusedSimpArgs false
namespace Go.Eng
def cK (k:Nat):Nat:=1099511627776+4096 * k
def gj:List Nat→List (Nat×En)→List (Nat×En)
 |_,[]=> []
 |us,(k,e)::r=>if us.elem k then gj us r else(k,e)::gj us r
def zF (st:St) (d:Nat) (rs:List (Bool×List E)) (k0 v0 ty:Nat) (xs:List E0) (us:List Nat):St:=
 ⟨st.nx+cF rs+(1+xs.length),(k0, .pt v0 ty (aR (cK k0) (st.nx+cF rs+1) xs).1)::((aR (cK k0) (st.nx+cF rs+1) xs).2++((aZ (cP d) st.nx rs).2++gj us st.es))⟩
theorem qH (us:List Nat) (k:Nat):∀l:List (Nat×En),lk k (gj us l)=if us.elem k then none else lk k l
 | []=>by simp[gj,lk]
 |(k',e)::r=>by
  simp only[gj]
  split
  ·rename_i hk
   rw[qH us k r,aD]
   split
   ·rfl
   ·rename_i hn
    rw[if_neg (fun e=>hn (by rw[e];exact hk))]
  ·rename_i hk
   rw[aD,aD,qH us k r]
   split
   ·rename_i e;subst e;rw[if_neg hk]
   ·rfl
def TK (ρ:Nat→Nat) (d d':D):Prop:=
 match d,d' with
 | .ow k v, .ow k' v'=>v'=v∧ρ k'=k
 | .pt k v o, .pt k' v' o'=>v'=v∧o'=o∧ρ k'=k
 |d,d'=>d'=d
theorem sQ {ρ:Nat→Nat} {K K':Nat}:∀ {xs:List E0} {j v:Nat},Cb xs=true→(∀i,i < j+xs.length→ρ (K'+i)=K+i)→aj (TK ρ) (aR (K+j) v xs).1 (aR (K'+j) v xs).1∧∀i,lk (K'+i) (aR (K'+j) v xs).2=lk (K+i) (aR (K+j) v xs).2
 | [],j,v,_,_=>by simp[aR,lk,aj]
 | .p d::r,j,v,hc,hρ=>by
   simp only[Cb,Bool.and_eq_true]at hc
   obtain⟨h1,h2⟩:=sQ (xs:=r) (j:=j+1) (v:=v+1) hc.2 (fun i hi=>hρ i (by simp only[List.length_cons];omega))
   simp only[aR,Nat.add_assoc]at h1 h2⊢
   refine⟨⟨?_,h1⟩,h2⟩
   cases d <;>first|rfl|(simp[Hi]at hc)
 | .o dp t xs::r,j,v,hc,hρ=>by
   obtain⟨h1,h2⟩:=sQ (xs:=r) (j:=j+1) (v:=v+1) hc (fun i hi=>hρ i (by simp only[List.length_cons];omega))
   simp only[aR,Nat.add_assoc]at h1 h2⊢
   refine⟨⟨⟨rfl,hρ j (by simp only[List.length_cons];omega)⟩,h1⟩,fun i=> ?_⟩
   rw[aD,aD]
   by_cases hi:i=j
   ·subst hi;rw[if_pos rfl,if_pos rfl]
   ·rw[if_neg (by omega),if_neg (by omega)];exact h2 i
theorem aj.refl {α:Type} {R:α→α→Prop} (h:∀x,R x x):∀l:List α,aj R l l
 | []=>trivial
 |x::l=>⟨h x,aj.refl h l⟩
theorem lY:∀ {xs:List E0} {k v k' w:Nat} {dp t ys},lk k' (aR k v xs).2≠some (.sl w false dp t ys)
 | [],k,v,k',w,dp,t,ys,hl=>by simp[aR,lk]at hl
 | .p d::r,k,v,k',w,dp,t,ys,hl=>by simp only[aR]at hl;exact lY hl
 | .o dp' t' xs'::r,k,v,k',w,dp,t,ys,hl=>by
   simp only[aR,aD]at hl
   split at hl
   ·simp at hl
   ·exact lY hl
theorem xl:∀ {es:List E} {k v k' w:Nat} {dp t ys},lk k' (bb k v es).2≠some (.sl w false dp t ys)
 | [],k,v,k',w,dp,t,ys,hl=>by simp[bb,lk]at hl
 | .e x::r,k,v,k',w,dp,t,ys,hl=>by
   rw[fV]at hl
   rcases el hl with hl|hl
   ·exact lY hl
   ·exact xl hl
 | .pt ty xs'::r,k,v,k',w,dp,t,ys,hl=>by
   simp only[bb,aD]at hl
   split at hl
   ·simp at hl
   ·rcases el hl with hl|hl
    ·exact lY hl
    ·exact xl hl
theorem AS:∀ {rs:List (Bool×List E)} {k v k' w:Nat} {dp t ys},lk k' (aZ k v rs).2≠some (.sl w false dp t ys)
 | [],k,v,k',w,dp,t,ys,hl=>by simp[aZ,lk]at hl
 |(g,es)::r,k,v,k',w,dp,t,ys,hl=>by
  simp only[aZ]at hl
  rcases el hl with hl|hl
  ·exact xl hl
  ·exact AS hl
def RG (a b:Nat):D→Prop
 | .ow k _=>a≤k∧k < b
 | .pt k _ _=>a≤k∧k < b
 |_=>True
theorem RG.mono {a b a' b':Nat} {d:D} (h:RG a b d) (h1:a'≤a) (h2:b≤b'):RG a' b' d:=by
 cases d <;>simp only[RG]at h⊢ <;>omega
theorem It.mono {P Q:D→Prop} {e:En} (h:It P e) (hpq:∀d,P d→Q d):It Q e:=by
 cases e with
 |sl=>trivial
 |pt v ty ds=>exact fun d hd=>hpq d (h d hd)
theorem JE {a b:Nat} {d:D} (h:Hi d=true):RG a b d:=by cases d <;>simp[Hi]at h <;>trivial
theorem lj:∀ {xs:List E0} {k v:Nat},Cb xs=true→(∀d∈(aR k v xs).1,RG k (k+xs.length) d)∧∀k' e,lk k' (aR k v xs).2=some e→∃w dp t ys,e= .sl w true dp t ys
 | [],k,v,_=>by simp[aR,lk]
 | .p d::r,k,v,h=>by
   simp only[Cb,Bool.and_eq_true]at h
   obtain⟨h1,h2⟩:=lj (xs:=r) (k:=k+1) (v:=v+1) h.2
   simp only[aR]
   refine⟨fun d' hd=> ?_,h2⟩
   rcases List.mem_cons.1 hd with rfl|hd
   ·exact JE h.1
   ·exact(h1 d' hd).mono (by omega) (by simp only[List.length_cons];omega)
 | .o dp t xs::r,k,v,h=>by
   obtain⟨h1,h2⟩:=lj (xs:=r) (k:=k+1) (v:=v+1) h
   simp only[aR]
   refine⟨fun d' hd=> ?_,fun k' e hl=> ?_⟩
   ·rcases List.mem_cons.1 hd with rfl|hd
    ·simp only[RG,List.length_cons];omega
    ·exact(h1 d' hd).mono (by omega) (by simp only[List.length_cons];omega)
   ·rw[aD]at hl
    split at hl
    ·simp at hl;exact⟨_,_,_,_,hl.symm⟩
    ·exact h2 k' e hl
theorem vM:∀ {es:List E} {k v:Nat},zm es=true→(∀d∈(bb k v es).1,RG k (k+dt es) d)∧∀k' e,lk k' (bb k v es).2=some e→It (RG k (k+dt es)) e
 | [],k,v,_=>by simp[bb,lk]
 | .e x::r,k,v,h=>by
   simp only[zm,Bool.and_eq_true]at h
   obtain⟨h1,h2⟩:=vM (es:=r) (k:=k+1) (v:=v+1) h.2
   obtain⟨q1,q2⟩:=lj (xs:= [x]) (k:=k) (v:=v) h.1
   rw[fV]
   simp only[dt]
   refine⟨fun d' hd=> ?_,fun k' e hl=> ?_⟩
   ·rcases List.mem_append.1 hd with hd|hd
    ·exact(q1 d' hd).mono (by omega) (by simp only[List.length_cons,List.length_nil];omega)
    ·exact(h1 d' hd).mono (by omega) (by omega)
   ·rcases el hl with hl|hl
    ·obtain⟨w,dp,t,ys,rfl⟩:=q2 k' e hl;trivial
    ·exact(h2 k' e hl).mono fun d hd=>hd.mono (by omega) (by omega)
 | .pt ty xs::r,k,v,h=>by
   simp only[zm,Bool.and_eq_true]at h
   obtain⟨h1,h2⟩:=vM (es:=r) (k:=k+(1+xs.length)) (v:=v+(1+xs.length)) h.2
   obtain⟨q1,q2⟩:=lj (xs:=xs) (k:=k+1) (v:=v+1) h.1
   simp only[bb,dt]
   refine⟨fun d' hd=> ?_,fun k' e hl=> ?_⟩
   ·rcases List.mem_cons.1 hd with rfl|hd
    ·simp only[RG];omega
    ·exact(h1 d' hd).mono (by omega) (by omega)
   ·rw[aD]at hl
    split at hl
    ·simp at hl;subst hl;exact fun d hd=>(q1 d hd).mono (by omega) (by omega)
    ·rcases el hl with hl|hl
     ·obtain⟨w,dp,t,ys,rfl⟩:=q2 k' e hl;trivial
     ·exact(h2 k' e hl).mono fun d hd=>hd.mono (by omega) (by omega)
theorem A8:∀ {rs:List (Bool×List E)} {k v:Nat},vc rs=true→(∀a∈(aZ k v rs).1,∀d∈a.2,RG k (k+cF rs) d)∧∀k' e,lk k' (aZ k v rs).2=some e→It (RG k (k+cF rs)) e
 | [],k,v,_=>by simp[aZ,lk]
 |(g,es)::r,k,v,h=>by
  simp only[vc,Bool.and_eq_true]at h
  obtain⟨h1,h2⟩:=A8 (rs:=r) (k:=k+dt es) (v:=v+dt es) h.2
  obtain⟨q1,q2⟩:=vM (es:=es) (k:=k) (v:=v) h.1
  simp only[aZ,cF]
  refine⟨fun a ha d hd=> ?_,fun k' e hl=> ?_⟩
  ·rcases List.mem_cons.1 ha with rfl|ha
   ·exact(q1 d hd).mono (by omega) (by omega)
   ·exact(h1 a ha d hd).mono (by omega) (by omega)
  ·rcases el hl with hl|hl
   ·exact(q2 k' e hl).mono fun d hd=>hd.mono (by omega) (by omega)
   ·exact(h2 k' e hl).mono fun d hd=>hd.mono (by omega) (by omega)
theorem Df {ρ:Nat→Nat} {a b:Nat} {d:D} (h:RG a b d) (hρ:∀k,a≤k→k < b→ρ k=k):TK ρ d d:=by
 cases d <;>simp only[RG]at h <;>simp only[TK] <;>first|trivial|exact⟨trivial,hρ _ h.1 h.2⟩|exact⟨trivial,trivial,hρ _ h.1 h.2⟩
theorem KF {ρ:Nat→Nat} {d d':D} (h:TK ρ d d') (h1:∀k v,d≠ .ow k v) (h2:∀k v o,d≠ .pt k v o):d'=d:=by
 cases d <;>first|exact absurd rfl (h1 _ _)|exact absurd rfl (h2 _ _ _)|(cases d' <;>exact h)
theorem vQ:∀ {rs:List (Bool×List E)} {g:Bool} {es:List E},vc (rs++ [(g,es)])=true→vc rs=true∧zm es=true
 | [],g,es,h=>by simp only[List.nil_append,vc,Bool.and_true]at h;exact⟨rfl,h⟩
 |(g',e')::r,g,es,h=>by
  simp only[List.cons_append,vc,Bool.and_eq_true]at h⊢
  exact⟨⟨h.1,(vQ h.2).1⟩,(vQ h.2).2⟩
section
variable {Γ:Cx} {γ:Gh} {f:UT} {st:St} {mf:Fr} {h h':H}
theorem ax.Lv (hr:ax Γ γ f st mf h) {ar:Nat→Prop} {bs us:List Nat} {rs:List (Bool×List E)} {css:List (Bool×List C)} {c0:C} {k0 v0 ty0 ty:Nat} {ds0:List D} {xs:List E0} (d:Nat)
 (hk:lk k0 st.es=some (.pt v0 ty0 ds0)) (hku:k0∈us) (hc0:∃id,γ.c k0= .ptr id 0∧c0= .ptr id 0)
 (hbs:∀i,i∈bs↔∃k∈us,∃e,lk k st.es=some e∧i∈γ.w k) (har:∀i,ar i→PR Γ γ st i)
 (hb:E7 ⟨h,ar,bs,[]⟩ h' (cP d) st.nx (rs++ [(true,[.pt ty xs])]) (css++ [(true,[c0])]))
 (hcl:vc (rs++ [(true,[.pt ty xs])])=true)
 (n1:k0 < cP d∨cP d+cF rs≤k0) (n2:k0 < 1099511627776) (n3:cP d+cF rs≤1099511627776):
 ∃γ',ax Γ γ' (qR f st d rs) (zF st d rs k0 v0 ty xs us) (dT mf d (gP css)) h':=by
 obtain⟨γb,hB,hc⟩:=hb
 rw[iy,vU]at hB hc
 obtain⟨hcr,hcp⟩:=aj.snoc hc
 obtain⟨hcl1,hcl2⟩:=vQ hcl
 have hcl0:Cb xs=true:=by simpa only[zm,Bool.and_true]using hcl2
 have hn0:(aR (cK k0) (st.nx+cF rs+1) xs).1.length=xs.length:=by
  have:∀(xs:List E0) (k v:Nat),(aR k v xs).1.length=xs.length:=by
   intro xs
   induction xs with
   |nil=>intro k v;rfl
   |cons x r ih=>intro k v;cases x <;>simp[aR,ih]
  exact this _ _ _
 simp only[bb,dt,List.append_nil,Nat.add_zero]at hB hc hcr hcp
 generalize hkp:cP d+cF rs=kp at *
 generalize hvp:st.nx+cF rs=vp at *
 have hvx:st.nx+(cF rs+(1+xs.length))=vp+(1+xs.length):=by omega
 rw[hvx]at hB hcr hcp
 have hst':zF st d rs k0 v0 ty xs us=⟨vp+(1+xs.length),(k0, .pt v0 ty (aR (cK k0) (vp+1) xs).1)::((aR (cK k0) (vp+1) xs).2++((aZ (cP d) st.nx rs).2++gj us st.es))⟩:=by
  simp only[zF,hvp]
 rw[hst']
 have hck:1099511627776≤cK k0:=Nat.le_add_right _ _
 have hrn:=A8 (k:=cP d) (v:=st.nx) hcl1
 rw[hkp]at hrn
 have hLR:∀ {k e},lk k (aZ (cP d) st.nx rs).2=some e→st.nx≤e.ni∧cP d≤k∧k < kp:=fun hl=>by rw[←hkp];exact ry hl
 have hL0:∀ {k e},lk k (aR (cK k0) (vp+1) xs).2=some e→vp+1≤e.ni∧cK k0≤k∧k < cK k0+xs.length:=fun hl=>iL hl
 have hL1:∀ {k e},lk k (aR (kp+1) (vp+1) xs).2=some e→vp+1≤e.ni∧kp+1≤k∧k < kp+1+xs.length:=fun hl=>iL hl
 let LR:=(aZ (cP d) st.nx rs).2
 let L0:=(aR (cK k0) (vp+1) xs).2
 let L1:=(aR (kp+1) (vp+1) xs).2
 let D0:=(aR (cK k0) (vp+1) xs).1
 let D1:=(aR (kp+1) (vp+1) xs).1
 let sb:St:=⟨vp+(1+xs.length),LR++(kp, .pt vp ty D1)::L1⟩
 let s':St:=⟨vp+(1+xs.length),(k0, .pt v0 ty D0)::(L0++(LR++gj us st.es))⟩
 let ρ:Nat→Nat:=fun k=>if k=k0 then kp else if cK k0≤k∧k < cK k0+xs.length then k - cK k0+(kp+1)else k
 let nw:Nat→Bool:=fun k=>decide (k=k0)||(lk k L0).isSome||(lk k LR).isSome
 let γ':Gh:=⟨fun k=>if nw k then γb.c (ρ k)else γ.c k,fun k=>if nw k then γb.w (ρ k)else γ.w k,fun k=>if nw k then γb.u (ρ k)else γ.u k⟩
 have hρ0:ρ k0=kp:=if_pos rfl
 have hρL:∀i,i < xs.length→ρ (cK k0+i)=kp+1+i:=fun i hi=>by
  show(if cK k0+i=k0 then kp else if cK k0≤cK k0+i∧cK k0+i < cK k0+xs.length then cK k0+i - cK k0+(kp+1)else cK k0+i)=_
  rw[if_neg (by omega),if_pos (by omega)]
  omega
 have hρR:∀k,k≠k0→k < kp→ρ k=k:=fun k h1 h2=>by
  show(if k=k0 then kp else if cK k0≤k∧k < cK k0+xs.length then k - cK k0+(kp+1)else k)=k
  rw[if_neg h1,if_neg (by omega)]
 obtain⟨hT0,hK0⟩:=sQ (ρ:=ρ) (K:=kp+1) (K':=cK k0) (xs:=xs) (j:=0) (v:=vp+1) hcl0 (fun i hi=>hρL i (by omega))
 simp only[Nat.add_zero]at hT0 hK0
 have sb0:lk kp sb.es=some (.pt vp ty D1):=by
  show lk kp (LR++(kp, .pt vp ty D1)::L1)=_
  rw[bG]
  cases hx:lk kp LR with
  |some e=>have:=hLR hx;omega
  |none=>rw[aD,if_pos rfl]
 have sbL:∀ {i e},lk (cK k0+i) L0=some e→lk (kp+1+i) sb.es=some e:=fun {i e} hl=>by
  have:=hL0 hl
  show lk (kp+1+i) (LR++(kp, .pt vp ty D1)::L1)=_
  rw[bG]
  cases hx:lk (kp+1+i) LR with
  |some e=>have:=hLR hx;omega
  |none=>
   simp only[aD]
   rw[if_neg (by omega)]
   exact(hK0 i).symm.trans hl
 have sbR:∀ {k e},lk k LR=some e→lk k sb.es=some e:=fun {k e} hl=>by
  show lk k (LR++(kp, .pt vp ty D1)::L1)=_
  rw[bG,hl]
 have nw0:nw k0=true:=by simp[nw]
 have nwL:∀ {k e},lk k L0=some e→nw k=true:=fun hl=>by simp[nw,hl]
 have nwR:∀ {k e},lk k LR=some e→nw k=true:=fun hl=>by simp[nw,hl]
 have hrange:∀k,nw k=true→(k=k0∧ρ k=kp)∨(k≠k0∧∃i e,i < xs.length∧k=cK k0+i∧ρ k=kp+1+i∧lk k L0=some e)∨(k≠k0∧lk k L0=none∧(∃e,lk k LR=some e)∧cP d≤k∧k < kp∧ρ k=k):=fun k hn=>by
  by_cases h0:k=k0
  ·exact .inl ⟨h0,by rw[h0];exact hρ0⟩
  ·cases hx:lk k L0 with
   |some e=>
    have:=hL0 hx
    refine .inr (.inl ⟨h0,k - cK k0,e,by omega,by omega,?_,rfl⟩)
    have:=hρL (k - cK k0) (by omega)
    rw[show cK k0+(k - cK k0)=k by omega]at this
    exact this
   |none=>
    cases hy:lk k LR with
    |some e=>
     have:=hLR hy
     exact .inr (.inr ⟨h0,rfl,⟨e,rfl⟩,by omega,by omega,hρR k h0 (by omega)⟩)
    |none=>simp[nw,hx,hy,h0]at hn
 have hcase:∀k e,lk k s'.es=some e→(nw k=true∧∃e',lk (ρ k) sb.es=some e'∧((k≠k0∧e'=e∧st.nx≤e.ni)∨(k=k0∧e= .pt v0 ty D0∧e'= .pt vp ty D1)))∨(nw k=false∧k∉us∧lk k st.es=some e):=fun k e hl=>by
  have hl:lk k ((k0, .pt v0 ty D0)::(L0++(LR++gj us st.es)))=some e:=hl
  rw[aD]at hl
  split at hl
  ·rename_i h0
   simp only[Option.some.injEq]at hl
   refine .inl ⟨by rw[h0];exact nw0, .pt vp ty D1,by rw[h0,hρ0];exact sb0, .inr ⟨h0,hl.symm,rfl⟩⟩
  ·rename_i h0
   rw[bG]at hl
   cases hx:lk k L0 with
   |some e1=>
    rw[hx]at hl
    simp only[Option.some.injEq]at hl
    subst hl
    have h2:=hL0 hx
    refine .inl ⟨nwL hx,e1,?_, .inl ⟨h0,rfl,by omega⟩⟩
    obtain⟨i,hi,rfl⟩:∃i,i < xs.length∧k=cK k0+i:=⟨k - cK k0,by omega,by omega⟩
    rw[hρL i hi]
    exact sbL hx
   |none=>
    rw[hx]at hl
    simp only at hl
    rw[bG]at hl
    cases hy:lk k LR with
    |some e1=>
     rw[hy]at hl
     simp only[Option.some.injEq]at hl
     subst hl
     have h2:=hLR hy
     exact .inl ⟨nwR hy,e1,by rw[hρR k h0 (by omega)];exact sbR hy, .inl ⟨h0,rfl,by omega⟩⟩
    |none=>
     rw[hy]at hl
     simp only at hl
     rw[qH]at hl
     split at hl
     ·simp at hl
     ·rename_i hu
      exact .inr ⟨by simp[nw,h0,hx,hy],by simpa using hu,hl⟩
 have hold:∀k,nw k=false→k∉us→lk k s'.es=lk k st.es:=fun k hn hu=>by
  simp only[nw,Bool.or_eq_false_iff,decide_eq_false_iff_not,Option.isSome_eq_false_iff,Option.isNone_iff_eq_none]at hn
  show lk k ((k0, .pt v0 ty D0)::(L0++(LR++gj us st.es)))=_
  rw[aD,if_neg hn.1.1,bG,hn.1.2]
  simp only
  rw[bG,hn.2]
  simp only
  rw[qH,if_neg (by simpa using hu)]
 have gN:∀k,nw k=true→γ'.c k=γb.c (ρ k)∧γ'.w k=γb.w (ρ k)∧γ'.u k=γb.u (ρ k):=fun k hn=>by simp[γ',hn]
 have gO:∀k,nw k=false→γ'.c k=γ.c k∧γ'.w k=γ.w k∧γ'.u k=γ.u k:=fun k hn=>by simp[γ',hn]
 have hinj:∀k1 k2,nw k1=true→nw k2=true→ρ k1=ρ k2→k1=k2:=fun k1 k2 h1 h2 he=>by
  rcases hrange k1 h1 with⟨a1,a2⟩|⟨_,i,_,a1,a2,a3,_⟩|⟨_,_,_,a1,a2,a3⟩ <;>rcases hrange k2 h2 with⟨b1,b2⟩|⟨_,j,_,b1,b2,b3,_⟩|⟨_,_,_,b1,b2,b3⟩ <;>omega
 have hge:∀k e,lk k sb.es=some e→∀i∈γb.w k++γb.u k,i∈bs∨h.length≤i:=fun k e hl i hi=>(hB.nd k e hl).2 i hi
 have hbm:∀i,i∈bs→nX Γ i∧i < h.length:=fun i hi=>by
  obtain⟨k,_,e,hl,hw⟩:=(hbs i).1 hi
  exact⟨(hr.nd k e hl).2 i (by simp[hw]),hr.blt hl i (by simp[hw])⟩
 have hbo:∀i,i∈bs→∀k e,k∉us→lk k st.es=some e→i∉γ.w k++γ.u k:=fun i hi k e hu hl=>by
  obtain⟨k1,hk1,e1,hl1,hw⟩:=(hbs i).1 hi
  exact hr.dj k1 k e1 e (fun e=>hu (e▸hk1)) hl1 hl i (by simp[hw])
 have hbp:∀i,i∈bs→¬PR Γ γ st i:=fun i hi hp=>by
  obtain⟨k1,hk1,e1,hl1,hw⟩:=(hbs i).1 hi
  exact hp.2 k1 e1 hl1 hw
 have hnx:∀k,nw k=true→∃e,lk (ρ k) sb.es=some e:=fun k hn=>by
  rcases hrange k hn with⟨a1,a2⟩|⟨_,i,e,a1,rfl,a3,a4⟩|⟨_,_,⟨e,a0⟩,a1,a2,a3⟩
  ·exact⟨_,by rw[a2];exact sb0⟩
  ·exact⟨e,by rw[a3];exact sbL a4⟩
  ·exact⟨e,by rw[a3];exact sbR a0⟩
 have hPR:∀i,PR ⟨h,ar,bs,[]⟩ γb sb i→PR Γ γ' s' i:=fun i hp=>by
  refine⟨?_,fun k e hl=> ?_⟩
  ·rcases hp.1 with h1|h1|h1
   ·exact(har i h1).1
   ·exact .inr (.inl (Nat.le_trans hr.len h1))
   ·rcases(hbm i h1).1 with h2|h2
    ·exact .inr (.inr h2)
    ·exact .inr (.inl h2)
  ·rcases hcase k e hl with⟨hn,e',he',_⟩|⟨hn,hu,hl'⟩
   ·rw[(gN k hn).2.1];exact hp.2 _ e' he'
   ·rw[(gO k hn).2.1]
    rcases hp.1 with h1|h1|h1
    ·exact(har i h1).2 k e hl'
    ·exact fun hw=>by have:=hr.blt hl' i (by simp[hw]);have:h.length≤i:=h1;omega
    ·exact fun hw=>hbo i h1 k e hu hl' (by simp[hw])
 have hDC:∀ {c:C} {d0 d1:D},DC ⟨h,ar,bs,[]⟩ γb sb h' c d0→TK ρ d0 d1→VD st.nx d0→DC Γ γ' s' h' c d1:=by
  intro c d0 d1 hd ht hvd
  cases d0
  case ow k v=>
   cases d1 <;>simp only[TK,reduceCtorEq]at ht
   case ow k' v'=>
    obtain⟨rfl,hk'⟩:=ht
    refine⟨hd.1,fun o dp t ys hl=> ?_⟩
    rcases hcase k' _ hl with⟨hn,e',he',h1⟩|⟨hn,hu,hl'⟩
    ·rcases h1 with⟨_,rfl,_⟩|⟨_,h2,_⟩
     ·rw[(gN k' hn).1,hk']
      rw[hk']at he'
      exact hd.2 o dp t ys he'
     ·cases h2
    ·have h1:=(hr.en k' _ hl').ni
     have h2:st.nx≤v':=hvd
     simp only[En.ni]at h1
     omega
  case pt k v o=>
   cases d1 <;>simp only[TK,reduceCtorEq]at ht
   case pt k' v' o'=>
    obtain⟨rfl,rfl,hk'⟩:=ht
    refine⟨hd.1,fun ty ds hl=> ?_⟩
    have h2:st.nx≤v':=hvd
    rcases hcase k' _ hl with⟨hn,e',he',h1⟩|⟨hn,hu,hl'⟩
    ·rcases h1 with⟨_,rfl,_⟩|⟨rfl,h3,_⟩
     ·rw[(gN k' hn).1,hk']
      rw[hk']at he'
      exact hd.2 ty ds he'
     ·simp only[En.pt.injEq]at h3
      have h1:=(hr.en k' _ hk).ni
      simp only[En.ni]at h1
      omega
    ·have h1:=(hr.en k' _ hl').ni
     simp only[En.ni]at h1
     omega
  case pe x o=>exact hvd.elim
  case px k v j o=>exact hvd.elim
  case sa k v o n e=>exact hvd.elim
  all_goals
   obtain rfl:=KF ht (fun _ _ e=>by cases e) (fun _ _ _ e=>by cases e)
   obtain⟨S,h1,h2⟩:=hd
   exact⟨S,h1,fun i hi=>hPR i (h2 i hi)⟩
 have hptr:γ'.c k0=γ.c k0:=by
  obtain⟨id,e1,e2⟩:=hc0
  rw[(gN k0 nw0).1,hρ0,e1]
  have hq:=hcp.2.1
  obtain⟨id',e3,e4⟩:=hq.2 ty D1 sb0
  rw[e3,←e4,e2]
 obtain⟨v1,v2⟩:=y7 hcl1 (cP d) st.nx
 have v3:∀d0∈D1,VD st.nx d0:=fun d0 hd0=>(ma (P:=VD st.nx) (v0:=st.nx) (fun _ _ h=>h) (xs:=xs) (k:=kp+1) (v:=vp+1) (by omega) (xc hcl0)).1 d0 hd0
 have hmain:ax Γ γ' f s' mf h'∧Mo Γ γ st h γ' s' h':=by
  refine hr.Jq (N:=fun k=>nw k=true∨k∈us) (γ':=γ') (st':=s') (h':=h') (by show st.nx≤vp+(1+xs.length);omega) (fun k hn=> ?_) (fun k e hn hl=> ?_) (fun i hi hp=> ?_) (fun k e hn hl i hi hlt=> ?_) (fun k e hn hl i hi=> ?_)
   (fun k e hn hl=> ?_) (fun k e k' e' hn hne hl hl' i hi=> ?_) hB.len (fun i hi hn=> ?_) (fun hm k e hn hl=> ?_) (fun i cs hi=> ?_)
  ·simp only[not_or,Bool.not_eq_true]at hn
   exact⟨hold k hn.1 hn.2,gO k hn.1⟩
  ·rcases hcase k e hl with⟨hn,e',he',h1⟩|⟨h1,hu,_⟩
   ·rcases h1 with⟨_,rfl,h2⟩|⟨rfl,rfl,_⟩
    ·exact .inl h2
    ·exact .inr ⟨hptr,ty0,ds0,hk⟩
   ·rcases hn with hn|hn
    ·rw[h1]at hn;cases hn
    ·exact absurd hn hu
  ·unfold H.cells
   rw[hB.base i hi (fun hb=>hbp i hb hp)]
  ·rcases hcase k e hl with⟨hn,e',he',h1⟩|⟨h1,hu,_⟩
   ·rw[(gN k hn).2.1]at hi
    rcases hge _ e' he' i (by simp[hi])with h2|h2
    ·exact hbp i h2
    ·omega
   ·rcases hn with hn|hn
    ·rw[h1]at hn;cases hn
    ·exact absurd hn hu
  ·simp only[not_or,Bool.not_eq_true]at hn
   exact hB.base i (hr.blt hl i (by simp[hi])) (fun hb=>hbo i hb k e hn.2 hl (by simp[hi]))
  ·rcases hcase k e hl with⟨hn,e',he',h1⟩|⟨h1,hu,_⟩
   ·rw[(gN k hn).2.1,(gN k hn).2.2]
    refine⟨(hB.nd _ e' he').1,fun i hi=> ?_⟩
    rcases hge _ e' he' i hi with h2|h2
    ·exact(hbm i h2).1
    ·exact .inr (Nat.le_trans hr.len h2)
   ·rcases hn with hn|hn
    ·rw[h1]at hn;cases hn
    ·exact absurd hn hu
  ·rcases hcase k e hl with⟨hn1,e1,he1,h1⟩|⟨h1,hu,_⟩
   ·rw[(gN k hn1).2.1,(gN k hn1).2.2]at hi
    rcases hcase k' e' hl' with⟨hn2,e2,he2,_⟩|⟨hn2,hu2,hl2⟩
    ·rw[(gN k' hn2).2.1,(gN k' hn2).2.2]
     exact hB.dj _ _ e1 e2 (fun e=>hne (hinj _ _ hn1 hn2 e).symm) he1 he2 i hi
    ·rw[(gO k' hn2).2.1,(gO k' hn2).2.2]
     rcases hge _ e1 he1 i hi with h2|h2
     ·exact hbo i h2 k' e' hu2 hl2
     ·exact fun h3=>by have:=hr.blt hl2 i h3;omega
   ·rcases hn with hn|hn
    ·rw[h1]at hn;cases hn
    ·exact absurd hn hu
  ·exact hB.base i (Nat.lt_of_lt_of_le hi hr.len) (fun hb=>by
    rcases(hbm i hb).1 with h1|h1
    ·exact hn h1
    ·omega)
  ·rcases hcase k e hl with⟨hn1,e1,he1,h1⟩|⟨h1,hu,_⟩
   ·obtain⟨g1,g2,g3⟩:=gN k hn1
    have he:=hB.en _ _ he1
    rcases h1 with⟨hk1,rfl,_⟩|⟨rfl,rfl,rfl⟩
    ·match e1,he,he1 with
     | .sl v true dp t ys,he,he1=>
       obtain⟨hv,he⟩:=he
       refine⟨hv,?_⟩
       rw[g1,g2,g3]
       rcases he with he|⟨id,ty',ez,bs',S,k1,k2,k3,k4,k5,k6,k7,k8⟩
       ·exact .inl he
       ·exact .inr ⟨id,ty',ez,bs',S,k1,k2,k3,k4,k5,k6,fun i hi=>hPR i (k7 i hi),k8⟩
     | .sl v false dp t ys,he,he1=>
       exfalso
       have he1:lk (ρ k) (LR++(kp, .pt vp ty D1)::L1)=some (.sl v false dp t ys):=he1
       rcases el he1 with h2|h2
       ·exact AS h2
       ·rw[aD]at h2
        split at h2
        ·simp at h2
        ·exact lY h2
     | .pt v ty' ds,he,he1=>
       obtain⟨hv,k1,id,bs',k2,k3,k4,k5⟩:=he
       refine⟨hv,by rw[g3,k1],id,bs',by rw[g1,k2],by rw[g2,k3],k4,?_⟩
       rcases hrange k hn1 with⟨a1,_⟩|⟨_,i,e2,_,rfl,_,a4⟩|⟨_,_,⟨e2,a0⟩,a1,a2,a3⟩
       ·exact absurd a1 hk1
       ·exfalso
        have:=(lj (xs:=xs) (k:=cK k0) (v:=vp+1) hcl0).2 _ e2 a4
        have h3:=sbL a4
        rw[hρL i ‹_›]at he1
        rw[h3]at he1
        obtain⟨w,dp,t,ys,rfl⟩:=this
        simp at he1
       ·rw[a3,sbR a0]at he1
        simp only[Option.some.injEq]at he1
        subst he1
        have h3:=hrn.2 k _ a0
        have h4:=v2 k _ a0
        exact aj.mem (fun c d0 hd0 hd=>hDC hd (Df (h3 d0 hd0) (fun k2 q1 q2=>hρR k2 (fun e=>by omega) q2)) (h4 d0 hd0)) k5
    ·obtain⟨hv,k1,id,bs',k2,k3,k4,k5⟩:=he
     refine⟨?_,by rw[g3];exact k1,id,bs',by rw[g1];exact k2,by rw[g2];exact k3,k4,?_⟩
     ·have h1:=(hr.en k _ hk).ni
      simp only[En.ni]at h1
      show v0 < vp+(1+xs.length)
      omega
     ·have k5':=aj.mem (T:=fun c d0=>DC ⟨h,ar,bs,[]⟩ γb sb h' c d0∧VD st.nx d0) (fun c d0 hd0 hd=>⟨hd,v3 d0 hd0⟩) k5
      exact aj.comp (T:=DC Γ γ' s' h') (fun c d0 d1 hd ht=>hDC hd.1 ht hd.2) k5' hT0
   ·rcases hn with hn|hn
    ·rw[h1]at hn;cases hn
    ·exact absurd hn hu
  ·by_cases hb:i∈bs
   ·exact hB.own i cs (.inl hb)
   ·rcases Nat.lt_or_ge i h.length with hlt|hlt
    ·rw[hB.base i hlt hb];exact hr.own i cs hi
    ·exact hB.own i cs (.inr hlt)
 obtain⟨r1,r2⟩:=hmain
 refine⟨γ',?_⟩
 refine UR.dT r1 (Dj ?_)
 refine aj.mem (fun a b hb ⟨k1,k2⟩=>⟨k1,?_⟩) hcr
 exact aj.mem (fun c d0 hd0 hd=>hDC hd (Df (hrn.1 b hb d0 hd0) (fun k2 q1 q2=>hρR k2 (fun e=>by omega) q2)) (v1 b hb d0 hd0)) k2
end
end Go.Eng
namespace Go.Eng
def gY (f:UT):List X→Option (List (Bool×List D))
 | []=>some []
 |x::xs=>match rE f x,gY f xs with
  |some v,some vs=>some (v::vs)
  |_,_=>none
def nY (st:St):D→Option D
 | .nils=>some (.sl [])
 | .ow k v=>match st.ey k v with
   |some (_,_,_,xs)=>some (.sl xs)
   |none=>none
 | .pt _ _ _=>none
 | .pe _ _=>none
 | .px _ _ _ _=>none
 | .sa k v o n e=>match st.xG (.sa k v o n e)with
   |some xs=>some (.sl xs)
   |none=>none
 |d=>some d
def kA (st:St):List D→Option (List D)
 | []=>some []
 |d::ds=>match nY st d,kA st ds with
  |some a,some r=>some (a::r)
  |_,_=>none
def fZ (st:St):List (Bool×List D)→Option (List (Bool×List D))
 | []=>some []
 |(g,ds)::r=>match kA st ds,fZ st r with
  |some a,some b=>some ((g,a)::b)
  |_,_=>none
def ib (st:St):D→St
 | .ow k v=>match st.ey k v with
   |some (_,_,t,xs)=>st.put k (.sl v false false t xs)
   |none=>st
 |_=>st
def tq (st:St):List D→St
 | []=>st
 |d::ds=>tq (ib st d) ds
def cg (st:St):List (Bool×List D)→St
 | []=>st
 |(_,ds)::r=>cg (tq st ds) r
def EH (st:St):D→Bool
 | .ow k v=>match st.ey k v with
   |some (false,_)=>true
   |_=>false
 | .sa _ _ _ _ _=>false
 |_=>true
def Al (st:St):List D→Bool
 | []=>true
 |d::ds=>EH st d && Al st ds
def GL (st:St):List (Bool×List D)→Bool
 | []=>true
 |(_,ds)::r=>Al st ds && GL st r
def aJ (as:List (Bool×List D)):List (Bool×List E):=as.map fun a=>(a.1,a.2.map E.p)
theorem BH:∀(ds:List D) (k v:Nat),bb k v (ds.map E.p)=(ds,[])
 | [],_,_=>rfl
 |d::ds,k,v=>by simp only[List.map_cons,bb,BH ds]
theorem fe:∀(as:List (Bool×List D)) (k v:Nat),aZ k v (aJ as)=(as,[])
 | [],_,_=>rfl
 |(g,ds)::r,k,v=>by
  have:=fe r (k+dt (ds.map E.p)) (v+dt (ds.map E.p))
  unfold aJ at this⊢
  simp only[List.map_cons,aZ,BH,this,List.append_nil]
theorem xk:∀(cs:List C) (ds:List D),rL cs (ds.map E.p)= []
 | [],[]=>rfl
 | [],_::_=>rfl
 |_::_,[]=>rfl
 |_::cs,_::ds=>by simp only[List.map_cons,rL,xk cs ds]
theorem mD:∀(ms:List (Bool×List C)) (as:List (Bool×List D)),qw ms (aJ as)= []
 | [],[]=>rfl
 | [],_::_=>rfl
 |_::_,[]=>rfl
 |(_,cs)::ms,(_,ds)::as=>by
  have:=mD ms as
  unfold aJ at this⊢
  simp only[List.map_cons,qw,xk,this,List.append_nil]
theorem lg:∀(es:List E) (k v:Nat),(bb k v es).1.length=es.length
 | [],_,_=>rfl
 | .e (.p _)::r,k,v=>by simp[bb,lg r]
 | .e (.o _ _ _)::r,k,v=>by simp[bb,lg r]
 | .pt _ xs::r,k,v=>by simp[bb,lg r]
section
variable {Γ Γ':Cx} {γ γ':Gh} {f f':UT} {st st':St} {mf mf':Fr} {h h':H}
theorem xq (hr:ax Γ γ f st mf h):∀ {xs:List X} {vs:List (Bool×List D)},gY f xs=some vs→∃ms,args mf xs=some ms∧aj (DG Γ γ st h) ms vs
 | [],vs,he=>by simp[gY]at he;subst he;exact⟨[],rfl,trivial⟩
 |x::xs,vs,he=>by
  simp only[gY]at he
  split at he
  ·rename_i v r h1 h2
   simp at he
   subst he
   obtain⟨g,ds⟩:=v
   obtain⟨cs,q1,q2⟩:=eg hr h1
   obtain⟨ms,k1,k2⟩:=xq hr h2
   exact⟨(g,cs)::ms,by simp only[args,q1,k1],⟨rfl,q2⟩,k2⟩
  ·simp at he
theorem Ho (hr:ax Γ γ f st mf h) {c:C} {d d':D} (hd:DC Γ γ st h c d) (ha:nY st d=some d'):∃S,RD h d' c S∧(EH st d=true→∀i∈S,PR Γ γ st i):=by
 cases d <;>simp only[nY]at ha
 case nils=>
  simp at ha
  subst ha
  obtain⟨S,h1,_⟩:=hd
  simp only[RD]at h1
  exact⟨[],iH.2 (.inl ⟨rfl,rfl, .inl h1.1⟩),fun _ i hi=>by cases hi⟩
 case ow k v=>
  split at ha
  ·rename_i o dp t xs hs
   simp at ha
   subst ha
   have hl:=St.bY hs
   cases o with
   |true=>
    obtain⟨S,h1,h2⟩:=pP hr hd (xs:=xs) (by simp only[St.xG,hs])
    exact⟨S,h1,fun h3=>by simp[EH,hs]at h3⟩
   |false=>
    obtain⟨_,_,_,S,h1,h2⟩:=hr.en _ _ hl
    rw[←hd.2 _ _ _ _ hl]at h1
    exact⟨S,h1,fun _=>h2⟩
  ·simp at ha
 case sa k v o n e=>
  split at ha
  ·rename_i xs hs
   simp at ha
   subst ha
   obtain⟨S,h1,h2⟩:=pP hr hd hs
   exact⟨S,h1,fun h3=>by simp[EH]at h3⟩
  ·simp at ha
 all_goals first
  |(simp at ha;done)
  |(simp at ha
    subst ha
    obtain⟨S,h1,h2⟩:=hd
    exact⟨S,h1,fun _=>h2⟩)
theorem AY (hr:ax Γ γ f st mf h):∀ {cs:List C} {ds ds':List D},aj (DC Γ γ st h) cs ds→kA st ds=some ds'→aj (fun c d'=>∃S,RD h d' c S∧(Al st ds=true→∀i∈S,PR Γ γ st i)) cs ds'
 | [],[],ds',_,ha=>by simp[kA]at ha;subst ha;trivial
 |c::cs,d::ds,ds',hd,ha=>by
  simp only[kA]at ha
  split at ha
  ·rename_i a r h1 h2
   simp at ha
   subst ha
   obtain⟨S,k1,k2⟩:=Ho hr hd.1 h1
   refine⟨⟨S,k1,fun hs=>k2 (by simp[Al]at hs;exact hs.1)⟩,(AY hr hd.2 h2).imp fun c d ⟨S,q1,q2⟩=>⟨S,q1,fun hs=>q2 (by simp[Al]at hs;exact hs.2)⟩⟩
  ·simp at ha
theorem wu (hr:ax Γ γ f st mf h):∀ {ms:List (Bool×List C)} {vs as:List (Bool×List D)},aj (DG Γ γ st h) ms vs→fZ st vs=some as→aj (fun(m:Bool×List C) (a:Bool×List D)=>m.1=a.1∧aj (fun c d'=>∃S,RD h d' c S∧(GL st vs=true→∀i∈S,PR Γ γ st i)) m.2 a.2) ms as
 | [],[],as,_,ha=>by simp[fZ]at ha;subst ha;trivial
 |(g,cs)::ms,(g',ds)::vs,as,hd,ha=>by
  simp only[fZ]at ha
  split at ha
  ·rename_i a r h1 h2
   simp at ha
   subst ha
   refine⟨⟨hd.1.1,(AY hr hd.1.2 h1).imp fun c d ⟨S,q1,q2⟩=>⟨S,q1,fun hs=>q2 (by simp[GL]at hs;exact hs.1)⟩⟩,(wu hr hd.2 h2).imp fun m a ⟨q0,q⟩=>⟨q0,q.imp fun c d ⟨S,q1,q2⟩=>⟨S,q1,fun hs=>q2 (by simp[GL]at hs;exact hs.2)⟩⟩⟩
  ·simp at ha
theorem Dd (hr:ax Γ γ f st mf h) (d:D):∃γ',ax Γ γ' f (ib st d) mf h∧Mo Γ γ st h γ' (ib st d) h:=by
 cases d <;>simp only[ib] <;>try exact⟨γ,hr,Mo.refl⟩
 rename_i k v
 split
 ·rename_i o dp t xs hs
  obtain⟨γ',h1,h2,_⟩:=hr.freeze (dp':=false) (St.bY hs)
  exact⟨γ',h1,h2⟩
 ·exact⟨γ,hr,Mo.refl⟩
theorem Bz:∀(ds:List D) {γ:Gh} {st:St},ax Γ γ f st mf h→∃γ',ax Γ γ' f (tq st ds) mf h∧Mo Γ γ st h γ' (tq st ds) h
 | [],γ,st,hr=>⟨γ,hr,Mo.refl⟩
 |d::ds,γ,st,hr=>by
  obtain⟨γ1,h1,h2⟩:=Dd hr d
  obtain⟨γ2,h3,h4⟩:=Bz ds h1
  exact⟨γ2,h3,h2.trans h4⟩
theorem zQ:∀(vs:List (Bool×List D)) {γ:Gh} {st:St},ax Γ γ f st mf h→∃γ',ax Γ γ' f (cg st vs) mf h∧Mo Γ γ st h γ' (cg st vs) h
 | [],γ,st,hr=>⟨γ,hr,Mo.refl⟩
 |(_,ds)::vs,γ,st,hr=>by
  obtain⟨γ1,h1,h2⟩:=Bz ds hr
  obtain⟨γ2,h3,h4⟩:=zQ vs h1
  exact⟨γ2,h3,h2.trans h4⟩
theorem AZ {ar:Nat→Prop} (har:∀i,ar i→i < h.length) {ms:List (Bool×List C)} {as:List (Bool×List D)} (hc:vc (aJ as)=true) (ha:aj (fun(m:Bool×List C) (a:Bool×List D)=>m.1=a.1∧aj (fun c d'=>∃S,RD h d' c S∧∀i∈S,ar i) m.2 a.2) ms as):E7 ⟨h,ar,[],[]⟩ h K0 0 (aJ as) ms:=by
 let γ0:Gh:=⟨fun _=> .nils,fun _=> [],fun _=> []⟩
 refine⟨γ0,⟨fun k=>(by rw[PT.br,UT.br];intro cs e;cases e),fun k e hl=> ?_,fun k e hl=> ?_,fun k1 k2 e1 e2 hne hl1 hl2=> ?_,Nat.le_refl _,fun _ _ _=>rfl,har,fun p hp=>(by cases hp),fun i cs hi=>(by rcases hi with hi|hi;cases hi;rw[List.getElem?_eq_none hi];simp)⟩,?_⟩
 ·rw[fe]at hl;simp[lk]at hl
 ·rw[fe]at hl;simp[lk]at hl
 ·rw[fe]at hl1;simp[lk]at hl1
 ·obtain⟨v1,_⟩:=y7 hc K0 0
  rw[fe]at v1⊢
  refine aj.mem (fun m a hma ⟨q0,q⟩=>⟨q0,aj.mem (fun c d hd ⟨S,q1,q2⟩=> ?_) q⟩) ha
  have hv:=v1 a hma d hd
  have:∃S,RD h d c S∧∀i∈S,PR ⟨h,ar,[],[]⟩ γ0 ⟨0+cF (aJ as),[]⟩ i:=⟨S,q1,fun i hi=>⟨.inl (q2 i hi),fun k e hl=>by simp[lk]at hl⟩⟩
  cases d <;>first|exact this|(simp only[RD]at q1)
theorem Is {d d':D} (ha:nY st d=some d'):Hi d'=true:=by
 cases d <;>simp only[nY]at ha
 case ow k v=>split at ha <;>simp at ha;subst ha;rfl
 case sa k v o n e=>split at ha <;>simp at ha;subst ha;rfl
 all_goals first
  |(simp at ha;done)
  |(simp at ha;subst ha;rfl)
theorem Br:∀ {vs as:List (Bool×List D)},fZ st vs=some as→vc (aJ as)=true
 | [],as,ha=>by simp[fZ]at ha;subst ha;rfl
 |(g,ds)::vs,as,ha=>by
  simp only[fZ]at ha
  split at ha
  ·rename_i a r h1 h2
   simp at ha
   subst ha
   have key:∀ {ds a:List D},kA st ds=some a→zm (a.map E.p)=true:=by
    intro ds
    induction ds with
    |nil=>intro a h;simp[kA]at h;subst h;rfl
    |cons d ds ih=>
     intro a h
     simp only[kA]at h
     split at h
     ·rename_i a' r' k1 k2
      simp at h
      subst h
      simp only[List.map_cons,zm,Cb,Is k1,ih k2,Bool.and_self]
     ·simp at h
   have:=Br h2
   unfold aJ at this⊢
   simp only[List.map_cons,vc,key h1,this,Bool.and_self]
  ·simp at ha
theorem G1 {cd:Nat→Option AF} {g d:Nat} {xs:List X} {vs as:List (Bool×List D)} {Q:List (Bool×List E)→List E→Prop} (hr:Rel Γ f st mf h) (hx:gY f xs=some vs) (sh:Bool)
 (ha:fZ (if sh then cg st vs else st) vs=some as) (hsf:sh=true→GL (cg st vs) vs=true) (hc:VC cd g (aJ as) Q) (hns:sh=false→∀rs ps,Q rs ps→A6 rs=true):
 ∃ms,args mf xs=some ms∧WC cd g ms h (fun r h'=>∃rs,Q rs []∧(∃t,h'=h++t)∧Rel Γ (qR f (if sh then cg st vs else st) d rs) (ld (if sh then cg st vs else st) d rs) (dT mf d r) h'):=by
 obtain⟨γ,hr⟩:=hr
 obtain⟨ms,m1,m2⟩:=xq hr hx
 refine⟨ms,m1,?_⟩
 have hcl:=Br ha
 have fin:∀(γ1:Gh) (st1:St) (ar:Nat→Prop),ax Γ γ1 f st1 mf h→(∀i,ar i→i < h.length)→aj (fun(m:Bool×List C) (a:Bool×List D)=>m.1=a.1∧aj (fun c d'=>∃S,RD h d' c S∧∀i∈S,ar i) m.2 a.2) ms as→(∀rs,Q rs []→A6 rs=true∨∀i,ar i→PR Γ γ1 st1 i)→
  WC cd g ms h (fun r h'=>∃rs,Q rs []∧(∃t,h'=h++t)∧Rel Γ (qR f st1 d rs) (ld st1 d rs) (dT mf d r) h'):=by
  intro γ1 st1 ar h1 har hall hsh
  have hw:=hc ⟨h,ar,[],[]⟩ ms rfl (AZ har hcl hall)
  refine hw.mono fun r h' ⟨rs,ps,css,hq,hcl2,hv,hb⟩=> ?_
  have hb':=hb (cP d) st1.nx
  rw[mD]at hb'
  have hps:ps= []:=by
   obtain⟨γb,_,hcc⟩:=hb'
   rw[iy]at hcc
   have:=(aj.snoc hcc).2.2.length
   rw[lg]at this
   exact List.eq_nil_of_length_eq_zero this.symm
  subst hps
  have hcl3:vc rs=true:=by
   have:∀(rs:List (Bool×List E)),vc (rs++ [(true,[])])=true→vc rs=true:=by
    intro rs
    induction rs with
    |nil=>intro _;rfl
    |cons a r ih=>intro h;obtain⟨g,es⟩:=a;simp only[List.cons_append,vc,Bool.and_eq_true]at h⊢;exact⟨h.1,ih h.2⟩
   exact this rs hcl2
  obtain⟨γ2,k1,k2⟩:=h1.Ln d hb' hcl3 (hsh rs hq)
  rw[hv]
  refine⟨rs,hq,?_,γ2,k1⟩
  obtain⟨γb,hB,_⟩:=hb'
  refine⟨h'.drop h.length,?_⟩
  have:h'.take h.length=h:=by
   apply List.ext_getElem?
   intro i
   rw[List.getElem?_take]
   split
   ·rename_i hi;exact hB.base i hi (by simp)
   ·rw[List.getElem?_eq_none (by omega)]
  rw[←this]
  have hl:(h'.take h.length).length=h.length:=by rw[this]
  rw[hl]
  exact(List.take_append_drop _ _).symm
 cases sh with
 |false=>
  simp only[Bool.false_eq_true,if_false]at ha⊢
  exact fin γ st (fun i=>i < h.length) hr (fun i hi=>hi) ((wu hr m2 ha).imp fun m a ⟨q0,q⟩=>⟨q0,q.imp fun c d ⟨S,q1,_⟩=>⟨S,q1,fun i hi=>RD.lt d q1 i hi⟩⟩) (fun rs hq=> .inl (hns rfl rs [] hq))
 |true=>
  simp only[if_true]at ha⊢
  obtain⟨γ1,k1,k2⟩:=zQ vs hr
  have m3:aj (DG Γ γ1 (cg st vs) h) ms vs:=m2.imp fun m a ⟨q0,q⟩=>⟨q0,q.imp fun c d hd=>hd.mo k2⟩
  exact fin γ1 (cg st vs) (fun i=>i < h.length∧PR Γ γ1 (cg st vs) i) k1 (fun i hi=>hi.1) ((wu k1 m3 ha).imp fun m a ⟨q0,q⟩=>⟨q0,q.imp fun c d ⟨S,q1,q2⟩=>⟨S,q1,fun i hi=>⟨RD.lt d q1 i hi,q2 (hsf rfl) i hi⟩⟩⟩) (fun rs _=> .inr fun i hi=>hi.2)
end
def HQ:D→D
 | .nils=> .sl []
 |d=>d
def yo:E→E
 | .e (.p .nils)=> .e (.p (.sl []))
 |x=>x
def CM (as:List (Bool×List E)):List (Bool×List E):=as.map fun a=>(a.1,a.2.map yo)
def yt:List D→List (Nat×Nat)
 | []=> []
 | .pt k v _::r=>(k,v)::yt r
 |_::r=>yt r
def B8:List (Bool×List D)→List (Nat×Nat)
 | []=> []
 |(_,ds)::r=>yt ds++B8 r
def Es (st:St) (us:List Nat):Bool:=us.all fun k=>match lk k st.es with
 |some (.sl _ _ dp _ xs)=> !dp||flat xs
 |_=>true
theorem zn:∀es:List E,dt (es.map yo)=dt es
 | []=>rfl
 |x::r=>by
  have ih:=zn r
  rcases x with(d|_)|_ <;>try (simp only[List.map_cons,yo,dt,ih];done)
  cases d <;>simp only[List.map_cons,yo,dt,ih]
theorem BI:∀(es:List E) (k v:Nat),bb k v (es.map yo)=((bb k v es).1.map HQ,(bb k v es).2)
 | [],_,_=>rfl
 |x::r,k,v=>by
  have ih:=BI r
  rcases x with(d|_)|_ <;>try (simp only[List.map_cons,yo,bb,ih,HQ];done)
  cases d <;>simp only[List.map_cons,yo,bb,ih,HQ]
theorem Dp:∀as:List (Bool×List E),cF (CM as)=cF as
 | []=>rfl
 |(g,es)::r=>by
  have ih:=Dp r
  unfold CM at ih⊢
  simp only[List.map_cons,cF,zn,ih]
theorem AV:∀(as:List (Bool×List E)) (k v:Nat),aZ k v (CM as)=((aZ k v as).1.map (fun a=>(a.1,a.2.map HQ)),(aZ k v as).2)
 | [],_,_=>rfl
 |(g,es)::r,k,v=>by
  have ih:=AV r
  unfold CM at ih⊢
  simp only[List.map_cons,aZ,BI,zn,ih]
theorem aj.J5 {α β δ:Type} {R:α→β→Prop} {T:α→δ→Prop} {g:β→δ} (h:∀a b,R a b→T a (g b)):∀ {xs:List α} {ys:List β},aj R xs ys→aj T xs (ys.map g)
 | [],[],_=>trivial
 |_::_,_::_,hr=>⟨h _ _ hr.1,aj.J5 h hr.2⟩
theorem E7.CM {Γ:Cx} {h:H} {K v:Nat} {gs:List (Bool×List E)} {css:List (Bool×List C)} (hb:E7 Γ h K v gs css):E7 Γ h K v (CM gs) css:=by
 obtain⟨γ,h1,h2⟩:=hb
 unfold E7
 rw[Dp,AV]
 refine⟨γ,h1,aj.J5 (fun a b hab=>⟨hab.1,aj.J5 (fun c d hd=> ?_) hab.2⟩) h2⟩
 cases d <;>try exact hd
 obtain⟨S,h3,_⟩:=hd
 simp only[RD]at h3
 exact⟨[],iH.2 (.inl ⟨rfl,rfl, .inl h3.1⟩),fun i hi=>by cases hi⟩
theorem Bk:∀(cs:List C) (es:List E),rL cs (es.map yo)=rL cs es
 | [],es=>by cases es <;>simp[rL]
 |_::cs,[]=>rfl
 |c::cs,x::r=>by
  have ih:=Bk cs r
  rcases x with(d|_)|_ <;>try (simp only[List.map_cons,yo,rL,ih];done)
  cases d <;>simp only[List.map_cons,yo,rL,ih]
theorem A0:∀(ms:List (Bool×List C)) (as:List (Bool×List E)),qw ms (CM as)=qw ms as
 | [],as=>by cases as <;>simp[Go.Eng.CM,qw]
 |_::_,[]=>rfl
 |(g,cs)::ms,(g',es)::r=>by
  have ih:=A0 ms r
  unfold Go.Eng.CM at ih⊢
  simp only[List.map_cons,qw,Bk,ih]
section
variable {Γ:Cx} {γ:Gh} {f:UT} {st:St} {mf:Fr} {h h':H}
theorem za:∀ {cs:List C} {ds:List D} {us us':List Nat} {es:List E},aj (DC Γ γ st h) cs ds→cA st ds us=some (es,us')→aj (fun c (p:Nat×Nat)=>DC Γ γ st h c (.pt p.1 p.2 0)) (rL cs es) (yt ds)
 | [],[],us,us',es,_,he=>by simp[cA]at he;obtain⟨rfl,rfl⟩:=he;trivial
 |c::cs,d::ds,us,us',es,hd,he=>by
  cases d
  case pt k v o=>
   simp only[cA]at he
   split at he
   ·split at he
    ·simp at he
    ·rename_i ho
     simp only[Bool.or_eq_true,not_or,Bool.not_eq_true,bne_eq_false_iff_eq]at ho
     split at he
     ·split at he
      ·rename_i q
       simp at he
       obtain⟨rfl,rfl⟩:=he
       simp only[rL,yt]
       obtain rfl:=ho.2
       exact⟨hd.1,za hd.2 q⟩
      ·simp at he
     ·simp at he
   ·simp at he
  all_goals
   simp only[cA]at he
   split at he
   ·split at he
    ·rename_i q
     simp at he
     obtain⟨rfl,rfl⟩:=he
     simp only[rL,yt]
     exact za hd.2 q
    ·simp at he
   ·simp at he
theorem C5:∀ {ms:List (Bool×List C)} {vs:List (Bool×List D)} {us us':List Nat} {as:List (Bool×List E)},aj (DG Γ γ st h) ms vs→eD st vs us=some (as,us')→aj (fun c (p:Nat×Nat)=>DC Γ γ st h c (.pt p.1 p.2 0)) (qw ms as) (B8 vs)
 | [],[],us,us',as,_,he=>by simp[eD]at he;obtain⟨rfl,rfl⟩:=he;trivial
 |(g,cs)::ms,(g',ds)::vs,us,us',as,hd,he=>by
  simp only[eD]at he
  split at he
  ·rename_i q1
   split at he
   ·rename_i q2
    simp at he
    obtain⟨rfl,rfl⟩:=he
    simp only[qw,B8]
    exact(za hd.1.2 q1).append (C5 hd.2 q2)
   ·simp at he
  ·simp at he
theorem Gf {cd:Nat→Option AF} {g d:Nat} {xs:List X} {vs:List (Bool×List D)} {as as':List (Bool×List E)} {us:List Nat} {k0 v0 ty0 ty:Nat} {ds0:List D} {α:Type} {W:α→Prop} {rs:α→List (Bool×List E)} {ys:α→List E0} (hr:Rel Γ f st mf h) (hx:gY f xs=some vs)
 (hc:VC cd g as' (fun r p=>∃x,W x∧r=rs x∧p= [.pt ty (ys x)])) (ha:eD (cg st vs) vs []=some (as,us)) (hn:CM as=as') (hp:B8 vs= [(k0,v0)]) (hl:(cg st vs).ptr k0 v0=some (ty0,ds0)) (hu:us.elem k0=true) (ho:Es (cg st vs) us=true)
 (n1:∀x,W x→k0 < cP d∨cP d+cF (rs x)≤k0) (n2:k0 < 1099511627776) (n3:∀x,W x→cP d+cF (rs x)≤1099511627776):
 ∃ms,args mf xs=some ms∧WC cd g ms h (fun r h'=>∃x,W x∧Rel Γ (qR f (cg st vs) d (rs x)) (zF (cg st vs) d (rs x) k0 v0 ty (ys x) us) (dT mf d r) h'):=by
 obtain⟨γ0,hr⟩:=hr
 obtain⟨ms,m1,m2⟩:=xq hr hx
 refine⟨ms,m1,?_⟩
 obtain⟨γ,k1,k2⟩:=zQ vs hr
 have m3:aj (DG Γ γ (cg st vs) h) ms vs:=m2.imp fun m a ⟨q0,q⟩=>⟨q0,q.imp fun c d hd=>hd.mo k2⟩
 generalize cg st vs=st1 at *
 have hku:k0∈us:=by simpa using hu
 have hu0:∀k∈us,∀e,lk k st1.es=some e→γ.u k= []:=fun k hk e he=>by
  have h1:(match lk k st1.es with|some (.sl _ _ dp _ xs)=> !dp||flat xs|_=>true)=true:=List.all_eq_true.1 ho k hk
  rw[he]at h1
  have h2:=k1.en k e he
  match e,h1,h2 with
  | .pt _ _ _,_,h2=>exact h2.2.1
  | .sl v false dp t ys,_,h2=>exact h2.2.2.1
  | .sl v true dp t ys,h1,h2=>
    rcases h2.2 with h2|⟨id,ty',ez,bs,S,a1,a2,a3,a4,a5,a6,a7,a8⟩
    ·exact h2.2.2.1
    ·rw[a8]
     split
     ·rename_i hd
      simp only[hd,Bool.not_true,Bool.false_or]at h1
      exact a6.wm h1
     ·rfl
 let bs:List Nat:=us.flatMap fun k=>if(lk k st1.es).isSome then γ.w k else []
 have hbs:∀i,i∈bs↔∃k∈us,∃e,lk k st1.es=some e∧i∈γ.w k:=fun i=>by
  simp only[bs,List.mem_flatMap]
  constructor
  ·rintro⟨k,hk,hi⟩
   split at hi
   ·rename_i hs
    obtain⟨e,he⟩:=Option.isSome_iff_exists.1 hs
    exact⟨k,hk,e,he,hi⟩
   ·cases hi
  ·rintro⟨k,hk,e,he,hi⟩
   exact⟨k,hk,by rw[he];simpa using hi⟩
 have hown:∀i cs,nX ⟨h,fun i=>i < h.length∧PR Γ γ st1 i,bs,[]⟩ i→h[i]? ≠some (.ro cs):=fun i cs hi=>by
  rcases hi with hi|hi
  ·obtain⟨k,_,e,he,hw⟩:=(hbs i).1 hi
   exact k1.own i cs ((k1.nd k e he).2 i (by simp[hw]))
  ·rw[List.getElem?_eq_none hi];simp
 have hb:E7 ⟨h,fun i=>i < h.length∧PR Γ γ st1 i,bs,[]⟩ h K0 0 as ms:=
  k1.out (Γ':=⟨h,fun i=>i < h.length∧PR Γ γ st1 i,bs,[]⟩) ha m3 (fun i hi hp=> .inl ⟨hi,hp⟩) (fun k hk e he i hi=> .inl ((hbs i).2 ⟨k,hk,e,he,by rw[hu0 k hk e he]at hi;simpa using hi⟩)) (Nat.le_refl _) (fun _ _ _=>rfl) (fun i hi=>hi.1) rfl hown K0 0
 have hb':=hb.CM
 rw[hn]at hb'
 have hpt:=C5 m3 ha
 rw[hp,←A0,hn]at hpt
 match hpc:qw ms as',hpt with
 | [c0],hpt=>
 have hcp:=hpt.1
 have hlk:=St.dI hl
 refine(hc ⟨h,fun i=>i < h.length∧PR Γ γ st1 i,bs,[]⟩ ms rfl hb').mono fun r h' ⟨rs',ps,css,⟨x,hx,e1,e2⟩,hcl,hv,hB⟩=>⟨x,hx,?_⟩
 subst e1 e2
 have hB:=hB (cP d) st1.nx
 rw[hpc]at hB
 rw[hv]
 exact k1.Lv d hlk hku (hcp.2 _ _ hlk) hbs (fun i hi=>hi.2) hB hcl (n1 x hx) n2 (n3 x hx)
end
def gu (f:UT) (s:Nat) (w:Bool):Option D:=
 match UF f s with
 | .tup []=>some (.bool (!w))
 |_=>dy f (.s s)
theorem Ix {Γ:Cx} {γ:Gh} {f:UT} {st:St} {mf:Fr} {h:H} (hr:ax Γ γ f st mf h) {s:Nat} {w b:Bool} (hg:gu f s w=some (.bool b)):gv mf s w=some (.bool b):=by
 have hs:=hr.slot s
 unfold gu at hg
 split at hg
 ·rename_i hu
  rw[hu]at hs
  obtain⟨ws,h1,h2⟩:=hs
  cases ws with
  |nil=>simp only[gv,h1];simpa using hg
  |cons=>exact h2.elim
 ·have h1:=cn hr hg rfl
  unfold gv
  split
  ·rename_i hu
   simp only[c7,rM,ev,hu]at h1
   cases h1
  ·exact h1
inductive VX (cd:Nat→Option AF) (pd:List (Nat×Nat)) (R:List RV) (Q:List (Bool×List E)→List E→Prop):List VK→UT→St→Prop
 |nil {f st rs ps}:wS f st R pd=some (rs,ps)→Q rs ps→VX cd pd R Q [] f st
 |b {i k f st}:VX cd pd R Q k f st→VX cd pd R Q (.b i::k) f st
 |stop {P k f st}:P f st→VX cd pd R Q (.stop P::k) f st
 |skip {k f st}:VX cd pd R Q k f st→VX cd pd R Q (.c .skip::k) f st
 |ret {k f st rs ps}:wS f st R pd=some (rs,ps)→Q rs ps→VX cd pd R Q (.c .ret::k) f st
 |exit {id k k' f st}:vX id k=some k'→VX cd pd R Q k' f st→VX cd pd R Q (.c (.exit id)::k) f st
 |seq {a b k f st}:VX cd pd R Q (.c a:: .c b::k) f st→VX cd pd R Q (.c (.seq a b)::k) f st
 |block {id b k f st}:VX cd pd R Q (.c b:: .b id::k) f st→VX cd pd R Q (.c (.block id b)::k) f st
 |cond {x a c k f st} (v:Bool):dy f x=some (.bool v)→VX cd pd R Q (.c (if v then a else c)::k) f st→VX cd pd R Q (.c (.cond x a c)::k) f st
 |ops {k f st}:VX cd pd R Q k f st→VX cd pd R Q (.c (.ops [])::k) f st
 |i {a l k f st f' st'}:aV a f st=some (f',st')→VX cd pd R Q (.c (.ops l)::k) f' st'→VX cd pd R Q (.c (.ops (.i a::l))::k) f st
 |gy {s w d a l k f st}:gu f s w=some (.bool w)→VX cd pd R Q (.c (.ops (.i a::l))::k) f st→VX cd pd R Q (.c (.ops (.g s w d a::l))::k) f st
 |gn {s w d a l k f st}:gu f s w=some (.bool (!w))→VX cd pd R Q (.c (.ops l)::k) (qZ f d (.tup [])) st→VX cd pd R Q (.c (.ops (.g s w d a::l))::k) f st
 |call {d g q xs l k f st vs as} (Q':List (Bool×List E)→List E→Prop) (sh:Bool):gY f xs=some vs→fZ (if sh then cg st vs else st) vs=some as→(sh=true→GL (cg st vs) vs=true)→VC cd g (aJ as) Q'→(sh=false→∀rs ps,Q' rs ps→A6 rs=true)→
   (∀rs,Q' rs []→VX cd pd R Q (.c (.ops l)::k) (qR f (if sh then cg st vs else st) d rs) (ld (if sh then cg st vs else st) d rs))→VX cd pd R Q (.c (.ops (.i (.call d g q xs)::l))::k) f st
 |callp {d g xs l k f st vs as as' us k0 v0 ty0 ty ds0} {α:Type} (W:α→Prop) (rs:α→List (Bool×List E)) (ys:α→List E0):gY f xs=some vs→VC cd g as' (fun r p=>∃x,W x∧r=rs x∧p= [.pt ty (ys x)])→eD (cg st vs) vs []=some (as,us)→CM as=as'→B8 vs= [(k0,v0)]→(cg st vs).ptr k0 v0=some (ty0,ds0)→us.elem k0=true→Es (cg st vs) us=true→
   (∀x,W x→k0 < cP d∨cP d+cF (rs x)≤k0)→k0 < 1099511627776→(∀x,W x→cP d+cF (rs x)≤1099511627776)→(∀x,W x→VX cd pd R Q (.c (.ops l)::k) (qR f (cg st vs) d (rs x)) (zF (cg st vs) d (rs x) k0 v0 ty (ys x) us))→VX cd pd R Q (.c (.ops (.i (.call d g false xs)::l))::k) f st
 |clv {d g q x xs l k f st}:dy f x=some (.fn g)→VX cd pd R Q (.c (.ops (.i (.call d g q xs)::l))::k) f st→VX cd pd R Q (.c (.ops (.i (.clv d q x xs)::l))::k) f st
 |loop {ds b k f st} {σ:Type} (F:σ→UT) (S:σ→St) (J:σ→Nat→Prop) (s0:σ) (g0:Nat):J s0 g0→dB (b7 f ds) st (F s0) (S s0)→
   (∀s g,J s g→VX cd pd R Q (.c b:: .stop (fun f' st'=>∃s' g',g' < g∧J s' g'∧dB (b7 f' ds) st' (F s') (S s'))::k) (F s) (S s))→VX cd pd R Q (.c (.loop ds b)::k) f st
theorem Dt {cd:Nat→Option AF} {R:List RV} {Q:V→H→Prop} {Γ:Cx} {id:Nat} {f:Fr} {h:H}:∀ {k k':List VK},vX id k=some k'→EX cd id (k.map (tr Γ)) f h R Q=WS cd (k'.map (tr Γ)) f h R Q
 | [],_,he=>by simp[vX]at he
 | .b i::k,k',he=>by
   simp only[vX]at he
   simp only[List.map_cons,tr,KK]
   split at he
   ·rename_i hi;simp at he;subst he;rw[if_pos hi]
   ·rename_i hi;rw[if_neg hi];exact Dt he
 | .c a::k,k',he=>by simp only[vX]at he;simp only[List.map_cons,tr,KB];exact Dt he
 | .stop P::k,k',he=>by simp only[vX]at he;simp only[List.map_cons,tr,Di];exact Dt he
theorem ze {cd:Nat→Option AF} {R:List RV} {Q:V→H→Prop} {b:AC} {P P':Fr→H→Prop} {k:List KI} {f:Fr} {h:H} (hp:∀f h,P f h→P' f h) (hw:WS cd (.c b:: .stop P::k) f h R Q):WS cd (.c b:: .stop P'::k) f h R Q:=by
 simp only[WS,cont]at hw⊢
 refine W.mono hw (fun e f' h' he=> ?_)
 cases e with
 |norm=>exact hp _ _ he
 |exit i=>exact he
 |ret=>exact he
theorem IM {cd:Nat→Option AF} {pd:List (Nat×Nat)} {R:List RV} {Q:List (Bool×List E)→List E→Prop} {k:List VK} {f:UT} {st:St} (hv:VX cd pd R Q k f st):
 ∀ {Γ:Cx} {mf:Fr} {h:H},Fw Γ=pd→Rel Γ f st mf h→WS cd (k.map (tr Γ)) mf h R (J0 Γ.un (D6 Γ) Q):=by
 induction hv with
 |nil h1 h2=>intro Γ mf h hp hr;simp only[List.map_nil,EY];subst hp;exact Gd hr h1 h2
 |b _ ih=>intro Γ mf h hp hr;simp only[List.map_cons,tr,Kc];exact ih hp hr
 |stop h1=>intro Γ mf h hp hr;simp only[List.map_cons,tr,DJ];exact⟨_,_,hr,h1⟩
 |skip _ ih=>intro Γ mf h hp hr;simp only[List.map_cons,tr,DX];exact ih hp hr
 |ret h1 h2=>intro Γ mf h hp hr;simp only[List.map_cons,tr,F6];subst hp;exact Gd hr h1 h2
 |exit h1 _ ih=>intro Γ mf h hp hr;simp only[List.map_cons,tr,DO];rw[Dt h1];exact ih hp hr
 |seq _ ih=>intro Γ mf h hp hr;have:=ih hp hr;simp only[List.map_cons,tr,Fo]at this⊢;exact this
 |block _ ih=>intro Γ mf h hp hr;have:=ih hp hr;simp only[List.map_cons,tr,Bj]at this⊢;exact this
 |cond v h1 _ ih=>
  intro Γ mf h hp hr
  have:=ih hp hr
  obtain⟨γ,hg⟩:=hr
  simp only[List.map_cons,tr,DS,cn hg h1 rfl]at this⊢
  cases v
  ·simpa only[Bv,Bool.false_eq_true,if_false]using this
  ·simpa only[Dm,if_true]using this
 |ops _ ih=>intro Γ mf h hp hr;simp only[List.map_cons,tr,xg];exact ih hp hr
 | @i a l k f st f' st' h1 _ ih=>
   intro Γ mf h hp hr
   obtain⟨mf',h',k1,k2⟩:=Jk hr h1
   have hpl:a.plain=true:=by cases a <;>first|rfl|(simp[aV]at h1)
   simp only[List.map_cons,tr]
   rw[BO a hpl,k1,C8]
   exact ih hp k2
 | @gy s w d a l k f st h1 h2 ih=>
   intro Γ mf h hp hr
   have:=ih hp hr
   obtain⟨γ,hg⟩:=hr
   simp only[List.map_cons,tr,Jj,Ix hg h1,GB,if_true]at this⊢
   exact this
 | @gn s w d a l k f st h1 h2 ih=>
   intro Γ mf h hp hr
   obtain⟨γ,hg⟩:=hr
   have:=ih hp ⟨γ,UR.dT hg (v:= .tup []) (u:= .tup []) ⟨[],rfl,trivial⟩⟩
   simp only[List.map_cons,tr,Jj,Ix hg h1,GB]at this⊢
   rw[if_neg (by cases w <;>simp)]
   exact this
 | @call d g q xs l k f st vs as Q' sh h1 h2 h3 h4 h5 _ ih=>
   intro Γ mf h hp hr
   obtain⟨ms,m1,m2⟩:=G1 (d:=d) hr h1 sh h2 h3 h4 h5
   simp only[List.map_cons,tr]
   cases q with
   |false=>
    rw[zw,m1,nN]
    exact m2.mono fun r h' ⟨rs,q1,_,q2⟩=>ih rs q1 hp q2
   |true=>
    rw[BS,m1,nN]
    exact m2.mono fun r h' ⟨rs,q1,q3,q2⟩=>⟨q3,ih rs q1 hp q2⟩
 |callp W rs ys h1 h2 h3 h4 h5 h6 h7 h8 h9 h10 h11 _ ih=>
  intro Γ mf h hp hr
  obtain⟨ms,m1,m2⟩:=Gf hr h1 h2 h3 h4 h5 h6 h7 h8 h9 h10 h11
  simp only[List.map_cons,tr]
  rw[zw,m1,nN]
  exact m2.mono fun r h' ⟨x,q1,q2⟩=>ih x q1 hp q2
 |clv h1 _ ih=>
  intro Γ mf h hp hr
  have:=ih hp hr
  obtain⟨γ,hg⟩:=hr
  simp only[List.map_cons,tr,EM,cn hg h1 rfl,IW]at this⊢
  exact this
 | @loop ds b k f st σ F S J s0 g0 h1 h2 _ ih=>
   intro Γ mf h hp hr
   simp only[List.map_cons,tr]
   refine Dk (fun g mf h=>∃s,J s g∧Rel Γ (F s) (S s) (forget mf ds) h) g0 ⟨s0,h1,h2 Γ _ _ (Rel.forget ds hr)⟩ (fun g mf h ⟨s,q1,q2⟩=> ?_)
   have:=ih s g q1 hp q2
   simp only[List.map_cons,tr]at this
   exact ze (fun mf' h' ⟨f',st',r1,s',g',r2,r3,r4⟩=>⟨g',r2,s',r3,r4 Γ _ _ (Rel.forget ds r1)⟩) this
end Go.Eng
namespace Go.Eng
def mJ (f:UT) (n:Nat):List (Bool×List D)→UT
 | []=>f
 |(g,ds)::r=>mJ (UW f n (.val g ds)) (n+1) r
section
variable {Γ:Cx} {γ:Gh} {f:UT} {st:St} {mf:Fr} {h:H}
theorem ax.enter:∀ {ds:List (Bool×List D)} {ms:List (Bool×List C)} {f:UT} {mf:Fr} {n:Nat},ax Γ γ f st mf h→aj (DG Γ γ st h) ms ds→ax Γ γ (mJ f n ds) st (da mf n ms) h
 | [],[],_,_,_,hr,_=>hr
 |(g,d)::ds,(g',c)::ms,f,mf,n,hr,ha=>by
  obtain⟨⟨h1,h2⟩,h3⟩:=ha
  simp only at h1
  subst h1
  simp only[mJ,da]
  exact ax.enter (hr.set (mv:= .val g' c) (uv:= .val g' d) ⟨c,rfl,h2⟩) h3
theorem ax.full (hr:ax Γ γ UT.leaf st PT.leaf h) (n:Nat):ax Γ γ (UT.full n) st (PT.full n) h:=
 {hr with fr:=fun k=>(by rw[PT.dL,UT.dL];intro cs e;cases e)}
end
theorem aa {cd:Nat→Option AF} {g:Nat} {a:AF} (hg:cd g=some a) {ds:List (Bool×List D)} (hl:ds.length=a.np) {Q:List (Bool×List E)→List E→Prop}
 (hv:VX cd [] a.res Q [.c a.body] (mJ (UT.full a.dep) 0 ds) ⟨cF (aJ ds),[]⟩):VC cd g (aJ ds) Q:=by
 intro Γ ms hp hb
 obtain⟨γ,hr,hc⟩:=hb
 rw[fe]at hr hc
 rw[mD]
 have hm:ms.length=a.np:=by rw[←hl];exact hc.length
 refine aC hg hm ?_
 have h1:=(hr.full a.dep).enter (n:=0) hc
 have h2:=IM hv (Γ:=Γ) (by unfold Fw;rw[hp];rfl) ⟨γ,by simpa using h1⟩
 have e1:Γ.un=Γ:=by cases Γ;simp only at hp;subst hp;rfl
 have e2:D6 Γ= []:=by unfold D6;rw[hp];rfl
 rw[e1,e2]at h2
 exact h2
def EG (as1:List (Bool×List D)) (ty:Nat) (xs:List E0) (as2:List (Bool×List D)):List (Bool×List E):=aJ as1++(false,[.pt ty xs])::aJ as2
def nC (as:List (Bool×List D)):Nat:=cF (aJ as)
theorem BX:∀(as bs:List (Bool×List E)) (k v:Nat),aZ k v (as++bs)=((aZ k v as).1++(aZ (k+cF as) (v+cF as) bs).1,(aZ k v as).2++(aZ (k+cF as) (v+cF as) bs).2)
 | [],bs,k,v=>by simp[aZ,cF]
 |(g,es)::as,bs,k,v=>by
  simp only[List.cons_append,aZ,BX as,cF,List.append_assoc,Prod.mk.injEq,List.cons.injEq,true_and]
  rw[show k+dt es+cF as=k+(dt es+cF as)by omega,show v+dt es+cF as=v+(dt es+cF as)by omega]
  exact⟨rfl,rfl⟩
theorem F3 (as1:List (Bool×List D)) (ty:Nat) (xs:List E0) (as2:List (Bool×List D)) (k v:Nat):
 aZ k v (EG as1 ty xs as2)=(as1++(false,[.pt (k+nC as1) (v+nC as1) 0])::as2,(k+nC as1, .pt (v+nC as1) ty (aR (k+nC as1+1) (v+nC as1+1) xs).1)::(aR (k+nC as1+1) (v+nC as1+1) xs).2):=by
 unfold EG
 rw[BX,fe]
 simp only[aZ,bb,fe,List.append_nil,List.nil_append]
 rfl
theorem AM:∀ {as1:List (Bool×List D)} {ty:Nat} {xs:List E0} {as2:List (Bool×List D)} {ms1:List (Bool×List C)} {g:Bool} {c:C} {ms2:List (Bool×List C)},ms1.length=as1.length→qw (ms1++(g,[c])::ms2) (EG as1 ty xs as2)= [c]
 | [],ty,xs,as2,[],g,c,ms2,_=>by
   have:=mD ms2 as2
   simp only[EG,aJ,List.map_nil,List.nil_append,qw,rL]at this⊢
   rw[this];rfl
 |(g',ds)::as1,ty,xs,as2,(g1,cs)::ms1,g,c,ms2,hl=>by
  have:=AM (as1:=as1) (ty:=ty) (xs:=xs) (as2:=as2) (ms1:=ms1) (g:=g) (c:=c) (ms2:=ms2) (by simpa using hl)
  simp only[EG,aJ,List.map_cons,List.cons_append,qw,xk,List.nil_append]at this⊢
  exact this
 | [],_,_,_,_::_,_,_,_,hl=>by simp at hl
 |_::_,_,_,_,[],_,_,_,hl=>by simp at hl
theorem aj.split {α β:Type} {R:α→β→Prop}:∀ {xs:List α} {ys zs:List β},aj R xs (ys++zs)→∃x1 x2,xs=x1++x2∧aj R x1 ys∧aj R x2 zs
 |xs,[],zs,h=>⟨[],xs,rfl,trivial,h⟩
 | [],_::_,_,h=>h.elim
 |x::xs,y::ys,zs,h=>by
  obtain⟨x1,x2,rfl,h1,h2⟩:=aj.split h.2
  exact⟨x::x1,x2,rfl,⟨h.1,h1⟩,h2⟩
theorem nH {cd:Nat→Option AF} {g:Nat} {a:AF} (hg:cd g=some a) {as1 as2:List (Bool×List D)} {ty:Nat} {xs:List E0} (hl:as1.length+1+as2.length=a.np) {Q:List (Bool×List E)→List E→Prop}
 (hv:VX cd [(K0+nC as1,nC as1)] a.res Q [.c a.body] (mJ (UT.full a.dep) 0 (as1++(false,[.pt (K0+nC as1) (nC as1) 0])::as2))
   ⟨nC as1+(1+xs.length+nC as2),(K0+nC as1, .pt (nC as1) ty (aR (K0+nC as1+1) (nC as1+1) xs).1)::(aR (K0+nC as1+1) (nC as1+1) xs).2⟩):VC cd g (EG as1 ty xs as2) Q:=by
 intro Γ ms hp hb
 obtain⟨γ,hr,hc⟩:=hb
 have hsz:cF (EG as1 ty xs as2)=nC as1+(1+xs.length+nC as2):=by
  have:∀as bs:List (Bool×List E),cF (as++bs)=cF as+cF bs:=by
   intro as bs
   induction as with
   |nil=>simp[cF]
   |cons a r ih=>obtain⟨g,es⟩:=a;simp only[List.cons_append,cF,ih];omega
  unfold EG nC
  rw[this]
  simp only[cF,dt]
  omega
 rw[F3]at hr hc
 rw[hsz]at hr hc
 simp only[Nat.zero_add]at hr hc
 obtain⟨ms1,ms2',rfl,c1,c2⟩:=aj.split hc
 match ms2',c2 with
 |(g0,cs0)::ms2,c2=>
 obtain⟨⟨h0,h1⟩,c3⟩:=c2
 simp only at h0 h1
 subst h0
 match cs0,h1 with
 | [c0],h1=>
 obtain⟨id,e1,e2⟩:=h1.1.2 ty _ (by rw[aD,if_pos rfl])
 subst e2
 rw[AM c1.length]
 refine aC hg (by rw[←hl];simp only[List.length_append,List.length_cons,c1.length,c3.length];omega) ?_
 have hr2:ax ⟨Γ.hb,Γ.ar,Γ.bs,[(K0+nC as1,nC as1,id)]⟩ γ UT.leaf _ PT.leaf Γ.hb:= {hr with
  pin:=fun p hp=>by
   simp only[List.mem_singleton]at hp
   subst hp
   exact⟨h1.1.1,fun _ _ _=>e1⟩}
 have h2:=(hr2.full a.dep).enter (n:=0) hc
 have h3:=IM hv (Γ:=⟨Γ.hb,Γ.ar,Γ.bs,[(K0+nC as1,nC as1,id)]⟩) rfl ⟨γ,by simpa using h2⟩
 have e3:Cx.un ⟨Γ.hb,Γ.ar,Γ.bs,[(K0+nC as1,nC as1,id)]⟩=Γ:=by cases Γ;simp only at hp;subst hp;rfl
 rw[e3]at h3
 exact h3
def Ki (o:Option (List (Bool×List E)×List E)) (Q:List (Bool×List E)→List E→Prop):Prop:=
 match o with
 |some (rs,ps)=>Q rs ps
 |none=>False
def i1 (cd:Nat→Option AF) (pd:List (Nat×Nat)) (R:List RV) (Q:List (Bool×List E)→List E→Prop) (o:Option (UT×St)) (l:List IT) (k:List VK):Prop:=
 match o with
 |some (f,st)=>VX cd pd R Q (.c (.ops l)::k) f st
 |none=>False
def GM (o:Option D) (A B:Prop):Prop:=
 match o with
 |some (.bool true)=>A
 |some (.bool false)=>B
 |_=>False
def LB (cd:Nat→Option AF) (pd:List (Nat×Nat)) (R:List RV) (Q:List (Bool×List E)→List E→Prop) (o:Option (List VK)) (f:UT) (st:St):Prop:=
 match o with
 |some k=>VX cd pd R Q k f st
 |none=>False
section
variable {cd:Nat→Option AF} {pd:List (Nat×Nat)} {R:List RV} {Q:List (Bool×List E)→List E→Prop} {k:List VK} {f:UT} {st:St}
theorem JJ:VX cd pd R Q [] f st=Ki (wS f st R pd) Q:=by
 apply propext
 constructor
 ·intro h;cases h with|nil h1 h2=>rw[h1];exact h2
 ·intro h
  cases hx:wS f st R pd with
  |none=>rw[hx]at h;exact h.elim
  |some p=>obtain⟨rs,ps⟩:=p;rw[hx]at h;exact .nil hx h
theorem LC {i:Nat}:VX cd pd R Q (.b i::k) f st=VX cd pd R Q k f st:=propext ⟨fun h=>by cases h;assumption, .b⟩
theorem GV {P:UT→St→Prop}:VX cd pd R Q (.stop P::k) f st=P f st:=propext ⟨fun h=>by cases h;assumption, .stop⟩
theorem H8:VX cd pd R Q (.c .skip::k) f st=VX cd pd R Q k f st:=propext ⟨fun h=>by cases h;assumption, .skip⟩
theorem Jv:VX cd pd R Q (.c .ret::k) f st=Ki (wS f st R pd) Q:=by
 apply propext
 constructor
 ·intro h;cases h with|ret h1 h2=>rw[h1];exact h2
 ·intro h
  cases hx:wS f st R pd with
  |none=>rw[hx]at h;exact h.elim
  |some p=>obtain⟨rs,ps⟩:=p;rw[hx]at h;exact .ret hx h
theorem Hn {id:Nat}:VX cd pd R Q (.c (.exit id)::k) f st=LB cd pd R Q (vX id k) f st:=by
 apply propext
 constructor
 ·intro h;cases h with|exit h1 h2=>rw[h1];exact h2
 ·intro h
  cases hx:vX id k with
  |none=>rw[hx]at h;exact h.elim
  |some k'=>rw[hx]at h;exact .exit hx h
theorem Ju {a b:AC}:VX cd pd R Q (.c (.seq a b)::k) f st=VX cd pd R Q (.c a:: .c b::k) f st:=propext ⟨fun h=>by cases h;assumption, .seq⟩
theorem FU {id:Nat} {b:AC}:VX cd pd R Q (.c (.block id b)::k) f st=VX cd pd R Q (.c b:: .b id::k) f st:=propext ⟨fun h=>by cases h;assumption, .block⟩
theorem H4 {x:X} {a c:AC}:VX cd pd R Q (.c (.cond x a c)::k) f st=GM (dy f x) (VX cd pd R Q (.c a::k) f st) (VX cd pd R Q (.c c::k) f st):=by
 apply propext
 constructor
 ·intro h
  cases h with
  |cond v h1 h2=>rw[h1];cases v <;>simpa[GM]using h2
 ·intro h
  unfold GM at h
  split at h
  ·rename_i hx;exact .cond true hx (by simpa using h)
  ·rename_i hx;exact .cond false hx (by simpa using h)
  ·exact h.elim
theorem JH:VX cd pd R Q (.c (.ops [])::k) f st=VX cd pd R Q k f st:=propext ⟨fun h=>by cases h;assumption, .ops⟩
theorem LS {a:AI} {l:List IT} (ha:a.plain=true):VX cd pd R Q (.c (.ops (.i a::l))::k) f st=i1 cd pd R Q (aV a f st) l k:=by
 apply propext
 constructor
 ·intro h
  cases h with
  |i h1 h2=>rw[h1];exact h2
  |call=>simp[AI.plain]at ha
  |callp=>simp[AI.plain]at ha
  |clv=>simp[AI.plain]at ha
 ·intro h
  cases hx:aV a f st with
  |none=>rw[hx]at h;exact h.elim
  |some p=>obtain⟨f',st'⟩:=p;rw[hx]at h;exact .i hx h
theorem Kt {s d:Nat} {a:AI} {l:List IT}:VX cd pd R Q (.c (.ops (.g s true d a::l))::k) f st=GM (gu f s true) (VX cd pd R Q (.c (.ops (.i a::l))::k) f st) (VX cd pd R Q (.c (.ops l)::k) (qZ f d (.tup [])) st):=by
 apply propext
 constructor
 ·intro h
  cases h with
  |gy h1 h2=>rw[h1];exact h2
  |gn h1 h2=>rw[h1];exact h2
 ·intro h
  unfold GM at h
  split at h
  ·rename_i hx;exact .gy hx h
  ·rename_i hx;exact .gn hx h
  ·exact h.elim
theorem KG {s d:Nat} {a:AI} {l:List IT}:VX cd pd R Q (.c (.ops (.g s false d a::l))::k) f st=GM (gu f s false) (VX cd pd R Q (.c (.ops l)::k) (qZ f d (.tup [])) st) (VX cd pd R Q (.c (.ops (.i a::l))::k) f st):=by
 apply propext
 constructor
 ·intro h
  cases h with
  |gy h1 h2=>rw[h1];exact h2
  |gn h1 h2=>rw[h1];exact h2
 ·intro h
  unfold GM at h
  split at h
  ·rename_i hx;exact .gn hx h
  ·rename_i hx;exact .gy hx h
  ·exact h.elim
def DZ (cd:Nat→Option AF) (pd:List (Nat×Nat)) (R:List RV) (Q:List (Bool×List E)→List E→Prop) (o:Option D) (kt:List VK) (ft:UT) (kf:List VK) (ff:UT) (st:St):Prop:=GM o (VX cd pd R Q kt ft st) (VX cd pd R Q kf ff st)
theorem K5 {kt kf:List VK} {ft ff:UT}:DZ cd pd R Q (some (.bool true)) kt ft kf ff st=VX cd pd R Q kt ft st:=rfl
theorem KX {kt kf:List VK} {ft ff:UT}:DZ cd pd R Q (some (.bool false)) kt ft kf ff st=VX cd pd R Q kf ff st:=rfl
theorem HI {b:Bool} {kt kf:List VK} {ft ff:UT}:DZ cd pd R Q (some (.bool (!b))) kt ft kf ff st=DZ cd pd R Q (some (.bool b)) kf ff kt ft st:=by cases b <;>rfl
theorem ak {b:Bool} {kt kf:List VK} {ft ff:UT} (ht:b=true→VX cd pd R Q kt ft st) (hf:b=false→VX cd pd R Q kf ff st):DZ cd pd R Q (some (.bool b)) kt ft kf ff st:=by
 cases b
 ·exact hf rfl
 ·exact ht rfl
theorem ab {p:Prop} {_:Decidable p} {kt kf:List VK} {ft ff:UT} (ht:p→VX cd pd R Q kt ft st) (hf:¬p→VX cd pd R Q kf ff st):DZ cd pd R Q (some (.bool (decide p))) kt ft kf ff st:=by
 by_cases hp:p
 ·simp only[hp,decide_true,K5];exact ht hp
 ·simp only[hp,decide_false,KX];exact hf hp
end
theorem VP {cd:Nat→Option AF} {pd:List (Nat×Nat)} {R:List RV} {Q:List (Bool×List E)→List E→Prop}:(∀(k:List VK) (f:UT) (st:St) (l:List IT) d_ x_,VX cd pd R Q (.c (.ops (.i (.mov d_ x_)::l))::k) f st=i1 cd pd R Q (aV (.mov d_ x_) f st) l k)∧
 (∀(k:List VK) (f:UT) (st:St) (l:List IT) d_ c_ a_ b_,VX cd pd R Q (.c (.ops (.i (.pick d_ c_ a_ b_)::l))::k) f st=i1 cd pd R Q (aV (.pick d_ c_ a_ b_) f st) l k)∧
 (∀(k:List VK) (f:UT) (st:St) (l:List IT) d_ x_,VX cd pd R Q (.c (.ops (.i (.lbox d_ x_)::l))::k) f st=i1 cd pd R Q (aV (.lbox d_ x_) f st) l k)∧
 (∀(k:List VK) (f:UT) (st:St) (l:List IT) d_ cs_,VX cd pd R Q (.c (.ops (.i (.lal d_ cs_)::l))::k) f st=i1 cd pd R Q (aV (.lal d_ cs_) f st) l k)∧
 (∀(k:List VK) (f:UT) (st:St) (l:List IT) d_ ty_ x_,VX cd pd R Q (.c (.ops (.i (.hbox d_ ty_ x_)::l))::k) f st=i1 cd pd R Q (aV (.hbox d_ ty_ x_) f st) l k)∧
 (∀(k:List VK) (f:UT) (st:St) (l:List IT) d_ ty_ cs_,VX cd pd R Q (.c (.ops (.i (.hal d_ ty_ cs_)::l))::k) f st=i1 cd pd R Q (aV (.hal d_ ty_ cs_) f st) l k)∧
 (∀(k:List VK) (f:UT) (st:St) (l:List IT) d_ z_ ps_,VX cd pd R Q (.c (.ops (.i (.bld d_ z_ ps_)::l))::k) f st=i1 cd pd R Q (aV (.bld d_ z_ ps_) f st) l k)∧
 (∀(k:List VK) (f:UT) (st:St) (l:List IT) d_ ty_ e_ n_ z_ ps_,VX cd pd R Q (.c (.ops (.i (.bsl d_ ty_ e_ n_ z_ ps_)::l))::k) f st=i1 cd pd R Q (aV (.bsl d_ ty_ e_ n_ z_ ps_) f st) l k)∧
 (∀(k:List VK) (f:UT) (st:St) (l:List IT) d_,VX cd pd R Q (.c (.ops (.i (.bse d_)::l))::k) f st=i1 cd pd R Q (aV (.bse d_) f st) l k)∧
 (∀(k:List VK) (f:UT) (st:St) (l:List IT) d_ e_ n_ z_ ps_,VX cd pd R Q (.c (.ops (.i (.lsl d_ e_ n_ z_ ps_)::l))::k) f st=i1 cd pd R Q (aV (.lsl d_ e_ n_ z_ ps_) f st) l k)∧
 (∀(k:List VK) (f:UT) (st:St) (l:List IT) d_ x_ o_,VX cd pd R Q (.c (.ops (.i (.fad d_ x_ o_)::l))::k) f st=i1 cd pd R Q (aV (.fad d_ x_ o_) f st) l k)∧
 (∀(k:List VK) (f:UT) (st:St) (l:List IT) d_ x_ i_ e_,VX cd pd R Q (.c (.ops (.i (.iad d_ x_ i_ e_)::l))::k) f st=i1 cd pd R Q (aV (.iad d_ x_ i_ e_) f st) l k)∧
 (∀(k:List VK) (f:UT) (st:St) (l:List IT) d_ x_ i_ e_ n_,VX cd pd R Q (.c (.ops (.i (.iaa d_ x_ i_ e_ n_)::l))::k) f st=i1 cd pd R Q (aV (.iaa d_ x_ i_ e_ n_) f st) l k)∧
 (∀(k:List VK) (f:UT) (st:St) (l:List IT) d_ r_ x_ n_ g_,VX cd pd R Q (.c (.ops (.i (.ldl d_ r_ x_ n_ g_)::l))::k) f st=i1 cd pd R Q (aV (.ldl d_ r_ x_ n_ g_) f st) l k)∧
 (∀(k:List VK) (f:UT) (st:St) (l:List IT) d_ x_ n_ g_,VX cd pd R Q (.c (.ops (.i (.ldh d_ x_ n_ g_)::l))::k) f st=i1 cd pd R Q (aV (.ldh d_ x_ n_ g_) f st) l k)∧
 (∀(k:List VK) (f:UT) (st:St) (l:List IT) r_ x_ v_ n_,VX cd pd R Q (.c (.ops (.i (.stl r_ x_ v_ n_)::l))::k) f st=i1 cd pd R Q (aV (.stl r_ x_ v_ n_) f st) l k)∧
 (∀(k:List VK) (f:UT) (st:St) (l:List IT) x_ v_ n_,VX cd pd R Q (.c (.ops (.i (.sth x_ v_ n_)::l))::k) f st=i1 cd pd R Q (aV (.sth x_ v_ n_) f st) l k)∧
 (∀(k:List VK) (f:UT) (st:St) (l:List IT) d_ op_ x_ y_,VX cd pd R Q (.c (.ops (.i (.bin d_ op_ x_ y_)::l))::k) f st=i1 cd pd R Q (aV (.bin d_ op_ x_ y_) f st) l k)∧
 (∀(k:List VK) (f:UT) (st:St) (l:List IT) d_ n_ x_ y_,VX cd pd R Q (.c (.ops (.i (.beq d_ n_ x_ y_)::l))::k) f st=i1 cd pd R Q (aV (.beq d_ n_ x_ y_) f st) l k)∧
 (∀(k:List VK) (f:UT) (st:St) (l:List IT) d_ n_ x_,VX cd pd R Q (.c (.ops (.i (.snil d_ n_ x_)::l))::k) f st=i1 cd pd R Q (aV (.snil d_ n_ x_) f st) l k)∧
 (∀(k:List VK) (f:UT) (st:St) (l:List IT) d_ m_ n_ x_ y_,VX cd pd R Q (.c (.ops (.i (.geq d_ m_ n_ x_ y_)::l))::k) f st=i1 cd pd R Q (aV (.geq d_ m_ n_ x_ y_) f st) l k)∧
 (∀(k:List VK) (f:UT) (st:St) (l:List IT) d_ x_,VX cd pd R Q (.c (.ops (.i (.neg d_ x_)::l))::k) f st=i1 cd pd R Q (aV (.neg d_ x_) f st) l k)∧
 (∀(k:List VK) (f:UT) (st:St) (l:List IT) d_ x_,VX cd pd R Q (.c (.ops (.i (.not d_ x_)::l))::k) f st=i1 cd pd R Q (aV (.not d_ x_) f st) l k)∧
 (∀(k:List VK) (f:UT) (st:St) (l:List IT) d_ k_ x_,VX cd pd R Q (.c (.ops (.i (.cvi d_ k_ x_)::l))::k) f st=i1 cd pd R Q (aV (.cvi d_ k_ x_) f st) l k)∧
 (∀(k:List VK) (f:UT) (st:St) (l:List IT) d_ x_,VX cd pd R Q (.c (.ops (.i (.cbs d_ x_)::l))::k) f st=i1 cd pd R Q (aV (.cbs d_ x_) f st) l k)∧
 (∀(k:List VK) (f:UT) (st:St) (l:List IT) d_ ty_ e_ b_ z_ x_,VX cd pd R Q (.c (.ops (.i (.mks d_ ty_ e_ b_ z_ x_)::l))::k) f st=i1 cd pd R Q (aV (.mks d_ ty_ e_ b_ z_ x_) f st) l k)∧
 (∀(k:List VK) (f:UT) (st:St) (l:List IT) d_ e_ x_ lo_ hi_,VX cd pd R Q (.c (.ops (.i (.ey d_ e_ x_ lo_ hi_)::l))::k) f st=i1 cd pd R Q (aV (.ey d_ e_ x_ lo_ hi_) f st) l k)∧
 (∀(k:List VK) (f:UT) (st:St) (l:List IT) d_ x_ lo_ hi_,VX cd pd R Q (.c (.ops (.i (.sls d_ x_ lo_ hi_)::l))::k) f st=i1 cd pd R Q (aV (.sls d_ x_ lo_ hi_) f st) l k)∧
 (∀(k:List VK) (f:UT) (st:St) (l:List IT) d_ x_ n_ e_,VX cd pd R Q (.c (.ops (.i (.sla d_ x_ n_ e_)::l))::k) f st=i1 cd pd R Q (aV (.sla d_ x_ n_ e_) f st) l k)∧
 (∀(k:List VK) (f:UT) (st:St) (l:List IT) d_ x_ o_ n_ g_,VX cd pd R Q (.c (.ops (.i (.fld d_ x_ o_ n_ g_)::l))::k) f st=i1 cd pd R Q (aV (.fld d_ x_ o_ n_ g_) f st) l k)∧
 (∀(k:List VK) (f:UT) (st:St) (l:List IT) d_ x_ i_ e_ n_ g_,VX cd pd R Q (.c (.ops (.i (.idx d_ x_ i_ e_ n_ g_)::l))::k) f st=i1 cd pd R Q (aV (.idx d_ x_ i_ e_ n_ g_) f st) l k)∧
 (∀(k:List VK) (f:UT) (st:St) (l:List IT) d_ x_ i_,VX cd pd R Q (.c (.ops (.i (.ids d_ x_ i_)::l))::k) f st=i1 cd pd R Q (aV (.ids d_ x_ i_) f st) l k)∧
 (∀(k:List VK) (f:UT) (st:St) (l:List IT) d_ x_ i_,VX cd pd R Q (.c (.ops (.i (.ext d_ x_ i_)::l))::k) f st=i1 cd pd R Q (aV (.ext d_ x_ i_) f st) l k)∧
 (∀(k:List VK) (f:UT) (st:St) (l:List IT) d_ x_,VX cd pd R Q (.c (.ops (.i (.nch d_ x_)::l))::k) f st=i1 cd pd R Q (aV (.nch d_ x_) f st) l k)∧
 (∀(k:List VK) (f:UT) (st:St) (l:List IT) d_ s_ x_,VX cd pd R Q (.c (.ops (.i (.len d_ s_ x_)::l))::k) f st=i1 cd pd R Q (aV (.len d_ s_ x_) f st) l k)∧
 (∀(k:List VK) (f:UT) (st:St) (l:List IT) d_ ty_ e_ b_ x_ y_,VX cd pd R Q (.c (.ops (.i (.app d_ ty_ e_ b_ x_ y_)::l))::k) f st=i1 cd pd R Q (aV (.app d_ ty_ e_ b_ x_ y_) f st) l k)∧
 (∀(k:List VK) (f:UT) (st:St) (l:List IT) d_ e_ x_ y_,VX cd pd R Q (.c (.ops (.i (.cpy d_ e_ x_ y_)::l))::k) f st=i1 cd pd R Q (aV (.cpy d_ e_ x_ y_) f st) l k)∧
 (∀(k:List VK) (f:UT) (st:St) (l:List IT) d_ m_ x_ y_,VX cd pd R Q (.c (.ops (.i (.mm d_ m_ x_ y_)::l))::k) f st=i1 cd pd R Q (aV (.mm d_ m_ x_ y_) f st) l k):=
 by(repeat' apply And.intro) <;>intros <;>exact LS rfl
def J9 (cd:Nat→Option AF) (pd:List (Nat×Nat)) (R:List RV) (Q:List (Bool×List E)→List E→Prop) (d g:Nat) (q:Bool) (l:List IT) (k:List VK) (f:UT) (st:St) (o:Option (List (Bool×List D))):Prop:=
 (∃(α:Type) (W:α→Prop) (rs:α→List (Bool×List E)) (ys:α→List E0),∃vs as us as' k0 v0 ty0 ty ds0,q=false∧o=some vs∧VC cd g as' (fun r p=>∃x,W x∧r=rs x∧p= [.pt ty (ys x)])∧eD (cg st vs) vs []=some (as,us)∧CM as=as'∧B8 vs= [(k0,v0)]∧(cg st vs).ptr k0 v0=some (ty0,ds0)∧us.elem k0=true∧Es (cg st vs) us=true∧
    (∀x,W x→k0 < cP d∨cP d+cF (rs x)≤k0)∧k0 < 1099511627776∧(∀x,W x→cP d+cF (rs x)≤1099511627776)∧(∀x,W x→VX cd pd R Q (.c (.ops l)::k) (qR f (cg st vs) d (rs x)) (zF (cg st vs) d (rs x) k0 v0 ty (ys x) us)))∨
 ∃vs as Q' sh,o=some vs∧fZ (if sh then cg st vs else st) vs=some as∧(sh=true→GL (cg st vs) vs=true)∧VC cd g (aJ as) Q'∧(sh=false→∀rs ps,Q' rs ps→A6 rs=true)∧
  (∀rs,Q' rs []→VX cd pd R Q (.c (.ops l)::k) (qR f (if sh then cg st vs else st) d rs) (ld (if sh then cg st vs else st) d rs))
def K7 (cd:Nat→Option AF) (pd:List (Nat×Nat)) (R:List RV) (Q:List (Bool×List E)→List E→Prop) (d:Nat) (q:Bool) (xs:List X) (l:List IT) (k:List VK) (f:UT) (st:St) (o:Option D):Prop:=
 match o with
 |some (.fn g)=>VX cd pd R Q (.c (.ops (.i (.call d g q xs)::l))::k) f st
 |_=>False
section
variable {cd:Nat→Option AF} {pd:List (Nat×Nat)} {R:List RV} {Q:List (Bool×List E)→List E→Prop} {k:List VK} {f:UT} {st:St}
theorem G4 {d g:Nat} {q:Bool} {xs:List X} {l:List IT}:VX cd pd R Q (.c (.ops (.i (.call d g q xs)::l))::k) f st=J9 cd pd R Q d g q l k f st (gY f xs):=by
 apply propext
 constructor
 ·intro h
  cases h with
  |i h1 h2=>simp[aV]at h1
  |call Q' sh h1 h2 h3 h4 h5 h6=>exact .inr ⟨_,_,Q',sh,h1,h2,h3,h4,h5,h6⟩
  |callp W rs ys h1 h2 h3 h4 h5 h6 h7 h8 h9 h10 h11 h12=>exact .inl ⟨_,W,rs,ys,_,_,_,_,_,_,_,_,_,rfl,h1,h2,h3,h4,h5,h6,h7,h8,h9,h10,h11,h12⟩
 ·rintro(⟨α,W,rs,ys,vs,as,us,as',k0,v0,ty0,ty,ds0,rfl,h1,h2,h3,h4,h5,h6,h7,h8,h9,h10,h11,h12⟩|⟨vs,as,Q',sh,h1,h2,h3,h4,h5,h6⟩)
  ·exact .callp W rs ys h1 h2 h3 h4 h5 h6 h7 h8 h9 h10 h11 h12
  ·exact .call Q' sh h1 h2 h3 h4 h5 h6
theorem JY {d:Nat} {q:Bool} {x:X} {xs:List X} {l:List IT}:VX cd pd R Q (.c (.ops (.i (.clv d q x xs)::l))::k) f st=K7 cd pd R Q d q xs l k f st (dy f x):=by
 apply propext
 constructor
 ·intro h
  cases h with
  |i h1 h2=>simp[aV]at h1
  |clv h1 h2=>rw[h1];exact h2
 ·intro h
  unfold K7 at h
  split at h
  ·rename_i hx;exact .clv hx h
  ·exact h.elim
theorem ah {d g:Nat} {q:Bool} {l:List IT} {vs as:List (Bool×List D)} {rs:List (Bool×List E)} (hc:VC cd g (aJ as) (fun r _=>r=rs)) (ha:fZ st vs=some as) (hn:A6 rs=true)
 (hk:VX cd pd R Q (.c (.ops l)::k) (qR f st d rs) (ld st d rs)):J9 cd pd R Q d g q l k f st (some vs):=
 .inr ⟨vs,as,fun r _=>r=rs,false,rfl,(by simpa using ha),(fun h=>by cases h),hc,(fun _ r _ h=>by subst h;exact hn),(fun r h=>by subst h;simpa using hk)⟩
theorem KJ {d g:Nat} {l:List IT} {vs:List (Bool×List D)} {as as':List (Bool×List E)} {us:List Nat} {k0 v0 ty0 ty:Nat} {ds0:List D} {rs:List (Bool×List E)} {ys:List E0} (hc:VC cd g as' (fun r p=>r=rs∧p= [.pt ty ys])) (he:eD (cg st vs) vs []=some (as,us)) (hn:CM as=as') (hp:B8 vs= [(k0,v0)]) (hl:(cg st vs).ptr k0 v0=some (ty0,ds0)) (hu:us.elem k0=true) (ho:Es (cg st vs) us=true)
 (n1:k0 < cP d∨cP d+cF rs≤k0) (n2:k0 < 1099511627776) (n3:cP d+cF rs≤1099511627776) (hk:VX cd pd R Q (.c (.ops l)::k) (qR f (cg st vs) d rs) (zF (cg st vs) d rs k0 v0 ty ys us)):J9 cd pd R Q d g false l k f st (some vs):=
 .inl ⟨Unit,fun _=>True,fun _=>rs,fun _=>ys,vs,as,us,as',k0,v0,ty0,ty,ds0,rfl,rfl,hc.mono (fun r p h=>⟨(),trivial,h.1,h.2⟩),he,hn,hp,hl,hu,ho,fun _ _=>n1,n2,fun _ _=>n3,fun _ _=>hk⟩
theorem Dw {ds:List Nat} {b:AC} {σ:Type} (F:σ→UT) (S:σ→St) (J:σ→Nat→Prop) (s0:σ) (g0:Nat) (h0:J s0 g0) (hw:dB (b7 f ds) st (F s0) (S s0))
 (hr:∀s g,J s g→VX cd pd R Q (.c b:: .stop (fun f' st'=>∃s' g',g' < g∧J s' g'∧dB (b7 f' ds) st' (F s') (S s'))::k) (F s) (S s)):VX cd pd R Q (.c (.loop ds b)::k) f st:=
 .loop F S J s0 g0 h0 hw hr
end
inductive AJ:List VK→List VK→Prop
 |nil:AJ [] []
 |c {a k k'}:AJ k k'→AJ (.c a::k) (.c a::k')
 |b {i k k'}:AJ k k'→AJ (.b i::k) (.b i::k')
 |stop {P P' k k'}:(∀f st,P f st→P' f st)→AJ k k'→AJ (.stop P::k) (.stop P'::k')
theorem AJ.refl:∀k,AJ k k
 | []=> .nil
 | .c _::k=> .c (AJ.refl k)
 | .b _::k=> .b (AJ.refl k)
 | .stop _::k=> .stop (fun _ _ h=>h) (AJ.refl k)
theorem AJ.ex {id:Nat} {k k1:List VK}:∀ {k':List VK},AJ k k'→vX id k=some k1→∃k1',vX id k'=some k1'∧AJ k1 k1':=by
 intro k' hk
 induction hk with
 |nil=>intro h;simp[vX]at h
 |c _ ih=>intro h;simp only[vX]at h⊢;exact ih h
 | @b i k k' hk ih=>
   intro h
   simp only[vX]at h⊢
   split at h
   ·rename_i hi;simp at h;subst h;rw[if_pos hi];exact⟨_,rfl,hk⟩
   ·rename_i hi;rw[if_neg hi];exact ih h
 |stop _ _ ih=>intro h;simp only[vX]at h⊢;exact ih h
theorem VX.le {cd:Nat→Option AF} {pd:List (Nat×Nat)} {R:List RV} {Q:List (Bool×List E)→List E→Prop} {k:List VK} {f:UT} {st:St} (hv:VX cd pd R Q k f st):∀ {k'},AJ k k'→VX cd pd R Q k' f st:=by
 induction hv with
 |nil h1 h2=>intro k' hk;cases hk;exact .nil h1 h2
 |b _ ih=>intro k' hk;cases hk with|b hk=>exact .b (ih hk)
 |stop h1=>intro k' hk;cases hk with|stop hp hk=>exact .stop (hp _ _ h1)
 |skip _ ih=>intro k' hk;cases hk with|c hk=>exact .skip (ih hk)
 |ret h1 h2=>intro k' hk;cases hk with|c hk=>exact .ret h1 h2
 |exit h1 _ ih=>intro k' hk;cases hk with|c hk=>obtain⟨k1,q1,q2⟩:=hk.ex h1;exact .exit q1 (ih q2)
 |seq _ ih=>intro k' hk;cases hk with|c hk=>exact .seq (ih (.c (.c hk)))
 |block _ ih=>intro k' hk;cases hk with|c hk=>exact .block (ih (.c (.b hk)))
 |cond v h1 _ ih=>intro k' hk;cases hk with|c hk=>exact .cond v h1 (ih (.c hk))
 |ops _ ih=>intro k' hk;cases hk with|c hk=>exact .ops (ih hk)
 |i h1 _ ih=>intro k' hk;cases hk with|c hk=>exact .i h1 (ih (.c hk))
 |gy h1 _ ih=>intro k' hk;cases hk with|c hk=>exact .gy h1 (ih (.c hk))
 |gn h1 _ ih=>intro k' hk;cases hk with|c hk=>exact .gn h1 (ih (.c hk))
 |call Q' sh h1 h2 h3 h4 h5 _ ih=>intro k' hk;cases hk with|c hk=>exact .call Q' sh h1 h2 h3 h4 h5 (fun rs hq=>ih rs hq (.c hk))
 |callp W rs ys h1 h2 h3 h4 h5 h6 h7 h8 h9 h10 h11 _ ih=>intro k' hk;cases hk with|c hk=>exact .callp W rs ys h1 h2 h3 h4 h5 h6 h7 h8 h9 h10 h11 (fun x hx=>ih x hx (.c hk))
 |clv h1 _ ih=>intro k' hk;cases hk with|c hk=>exact .clv h1 (ih (.c hk))
 |loop F S J s0 g0 h1 h2 _ ih=>intro k' hk;cases hk with|c hk=>exact .loop F S J s0 g0 h1 h2 (fun s g hJ=>ih s g hJ (.c (.stop (fun _ _ h=>h) hk)))
def bN (f:UT):List (Nat×U)→UT
 | []=>f
 |(s,v)::r=>bN (UW f s v) r
theorem dB.of_eq {f f':UT} {st st':St} (hf:f=f') (hn:st.nx≤st'.nx) (hs:nh st st'.es):dB f st f' st':=by subst hf;exact dB.sub hn hs
theorem iK {cd:Nat→Option AF} {pd:List (Nat×Nat)} {R:List RV} {Q:List (Bool×List E)→List E→Prop} {k:List VK} {f:UT} {st:St} {ds:List Nat} {b:AC} {σ:Type} (f1:UT) (hf:b7 f ds=f1)
 (jc:σ→List (Nat×U)) (es:σ→List (Nat×En)) (J:σ→Nat→Prop) (s0:σ) (g0:Nat) (hu:f1=bN f1 (jc s0)) (hs:nh st (es s0)) (h0:J s0 g0)
 (round:∀s n g,J s g→VX cd pd R Q (.c b:: .stop (fun f' st'=>∃s' g',g' < g∧J s' g'∧b7 f' ds=bN f1 (jc s')∧nh st' (es s'))::k) (bN f1 (jc s)) ⟨n,es s⟩):
 VX cd pd R Q (.c (.loop ds b)::k) f st:=by
 refine Dw (σ:=σ×Nat) (fun p=>bN f1 (jc p.1)) (fun p=>⟨p.2,es p.1⟩) (fun p g=>J p.1 g) (s0,st.nx) g0 h0 (dB.of_eq (by rw[hf];exact hu) (Nat.le_refl _) hs) (fun p g hJ=> ?_)
 exact(round p.1 p.2 g hJ).le (.c (.stop (fun f' st' ⟨s',g',h1,h2,h3,h4⟩=>⟨(s',st'.nx),g',h1,h2,dB.of_eq h3 (Nat.le_refl _) h4⟩) (AJ.refl k)))
def GS (k:Nat):List (Nat×En)→List (Nat×En)
 | []=> []
 |(k',e)::r=>if k=k' then GS k r else(k',e)::GS k r
def I8:List (Nat×En)→List (Nat×En)
 | []=> []
 |(k,e)::r=>(k,e)::GS k (I8 r)
def Cl:List (Nat×En)→List (Nat×En)→List (Nat×En)
 |es,[]=>es
 |es,(k,e)::r=>(k,e)::GS k (Cl es r)
theorem aK {cd:Nat→Option AF} {pd:List (Nat×Nat)} {R:List RV} {Q:List (Bool×List E)→List E→Prop} {k:List VK} {f:UT} {st:St} {ds:List Nat} {b:AC} {σ:Type} (f1:UT) (es0:List (Nat×En)) (hf:b7 f ds=f1) (he:I8 st.es=es0)
 (jc:σ→List (Nat×U)) (ue:σ→List (Nat×En)) (J:σ→Nat→Prop) (s0:σ) (g0:Nat) (hu:f1=bN f1 (jc s0)) (hs:nh st (Cl es0 (ue s0))) (h0:J s0 g0)
 (round:∀s n g,J s g→VX cd pd R Q (.c b:: .stop (fun f' st'=>∃s' g',g' < g∧J s' g'∧b7 f' ds=bN f1 (jc s')∧nh st' (Cl es0 (ue s')))::k) (bN f1 (jc s)) ⟨n,Cl es0 (ue s)⟩):
 VX cd pd R Q (.c (.loop ds b)::k) f st:=iK f1 hf jc (fun s=>Cl es0 (ue s)) J s0 g0 hu hs h0 round
def bl (b:Bool):List (Bool×List E):= [(false,[.p (.bool b)])]
def it (n:Int):List (Bool×List E):= [(false,[.p (.int .i64 n)])]
abbrev Bytes:=List UInt8
def bytes (x:Bytes):List (List D):=x.map fun b=> [.int .u8 (b.toNat:Int)]
theorem an (x:Bytes):(bytes x).length=x.length:=by simp[bytes]
theorem cN (x y:Bytes):bytes x++bytes y=bytes (x++y):=by simp[bytes]
theorem CL (x:Bytes):flat (bytes x)=true:=by
 induction x with
 |nil=>rfl
 |cons b x ih=>simp only[bytes,List.map_cons,flat,bJ,D.leaf]at ih⊢;simpa using ih
theorem sM (x:Bytes):wid 1 (bytes x)=true:=by
 induction x with
 |nil=>rfl
 |cons b x ih=>simp only[bytes,List.map_cons,wid]at ih⊢;simpa using ih
theorem Jh {k:Nat} {e:En} {r:List (Nat×En)}:lk k ((k,e)::r)=some e:=by simp[lk]
end Go.Eng
set_option maxRecDepth 100000
namespace Go.Eng
theorem Ej (st:St) (e:Nat):si st e .nils=some ([],st,true):=by simp[si,St.xG,wid,flat]
theorem VE:(∀(f:UT) (st:St) d x,aV (.mov d x) f st=(match uf f x with
 | .box _=>none
 | .lsl _ _ _=>none
 | .any=>none
 |v=>some (UW f d v,st)))∧
 (∀(f:UT) (st:St) d c a b,aV (.pick d c a b) f st=(match dy f c with
     |some (.bool true)=>match rE f a with|some (g,cs)=>some (UW f d (.val g cs),st)|none=>none
     |some (.bool false)=>match rE f b with|some (g,cs)=>some (UW f d (.val g cs),st)|none=>none
     |_=>none))∧
 (∀(f:UT) (st:St) d x,aV (.lbox d x) f st=(match UF f d with
     | .box _=>none
     |_=>match rE f x with
      |some (_,cs)=>some (UW f d (.box cs),st)
      |none=>none))∧
 (∀(f:UT) (st:St) d cs,aV (.lal d cs) f st=(match UF f d with
     | .box _=>none
     |_=>match z7 cs with
      |some ds=>some (UW f d (.box ds),st)
      |none=>none))∧
 (∀(f:UT) (st:St) d ty x,aV (.hbox d ty x) f st=(match rE f x with
     |some (_,ds)=>some (UW f d (.val false [.pt d st.nx 0]),st.Em d ty ds)
     |none=>none))∧
 (∀(f:UT) (st:St) d ty cs,aV (.hal d ty cs) f st=(match z7 cs with
     |some ds=>some (UW f d (.val false [.pt d st.nx 0]),st.Em d ty ds)
     |none=>none))∧
 (∀(f:UT) (st:St) d z ps,aV (.bld d z ps) f st=(match z7 z with
     |some z=>match ig f z ps with
      |some ds=>some (UW f d (.val true ds),st)
      |none=>none
     |none=>none))∧
 (∀(f:UT) (st:St) d ty esz len z ps,aV (.bsl d ty esz len z ps) f st=(match z7 z with
     |some z=>match ig f ((List.replicate len z).flatten) ps with
      |some ds=>match st.Ck ds with
       |some (ds',st',b)=>if ds'.length=len * esz then some (UW f d (.val false [.ow d st'.nx]),st'.news d true b (some (ty,esz)) (chunks esz len ds'))else none
       |none=>none
      |none=>none
     |none=>none))∧
 (∀(f:UT) (st:St) d,aV (.bse d) f st=(some (UW f d (.val false [.ow d st.nx]),st.news d true true none [])))∧
 (∀(f:UT) (st:St) d esz len z ps,aV (.lsl d esz len z ps) f st=(match z7 z with
     |some z=>match ig f ((List.replicate len z).flatten) ps with
      |some ds=>some (UW f d (.lsl ds len esz),st)
      |none=>none
     |none=>none))∧
 (∀(f:UT) (st:St) d x off,aV (.fad d x off) f st=(match uf f x with
     | .lref r o=>some (UW f d (.lref r (o+off)),st)
     | .val false [.pt k v o]=>match st.ptr k v with
       |some _=>some (UW f d (.val false [.pt k v (o+off)]),st)
       |none=>none
     | .val false [.pe x o]=>some (UW f d (.val false [.pe x (o+off)]),st)
     | .val false [.px k v j o]=>match st.ey k v with
       |some (true,_)=>some (UW f d (.val false [.px k v j (o+off)]),st)
       |_=>none
     |_=>none))∧
 (∀(f:UT) (st:St) d x i esz,aV (.iad d x i esz) f st=(match dy f x,dy f i with
     |some c,some (.int _ j)=>if 0≤j then(match c with
      | .sl xs=>match xs[j.toNat]? with
        |some x=>if x.length=esz then some (UW f d (.val false [.pe x 0]),st)else none
        |none=>none
      | .ow k v=>match st.ey k v with
        |some (o,_,_,xs)=>match xs[j.toNat]? with
         |some x=>if x.length=esz then some (UW f d (.val false [if o then .px k v j.toNat 0 else .pe x 0]),st)else none
         |none=>none
        |none=>none
      | .sa k v o n e=>match st.ptr k v with
        |some _=>if e=esz∧j < (n:Int)then some (UW f d (.val false [.pt k v (o+j.toNat * esz)]),st)else none
        |none=>none
      |_=>none)else none
     |_,_=>none))∧
 (∀(f:UT) (st:St) d x i esz len,aV (.iaa d x i esz len) f st=(match dy f i with
     |some (.int _ j)=>
      if 0≤j∧j < (len:Int)then match uf f x with
       | .lref r o=>some (UW f d (.lref r (o+j.toNat * esz)),st)
       | .val false [.pt k v o]=>match st.ptr k v with
         |some _=>some (UW f d (.val false [.pt k v (o+j.toNat * esz)]),st)
         |none=>none
       |_=>none
      else none
     |_=>none))∧
 (∀(f:UT) (st:St) d r x n g,aV (.ldl d r x n g) f st=(match uf f x with
     | .lref r' o=>match UF f r with
       | .box ds=>if r'=r∧o+n≤ds.length then some (UW f d (.val g ((ds.drop o).take n)),st)else none
       |_=>none
     |_=>none))∧
 (∀(f:UT) (st:St) d x n g,aV (.ldh d x n g) f st=(match dy f x with
     |some (.pt k v o)=>match st.ptr k v with
      |some (_,ds)=>if o+n≤ds.length then some (UW f d (.val g ((ds.drop o).take n)),st)else none
      |none=>none
     |some (.pe x o)=>if o+n≤x.length then some (UW f d (.val g ((x.drop o).take n)),st)else none
     |some (.px k v j o)=>match st.ey k v with
      |some (true,_,_,xs)=>match xs[j]? with
       |some x=>if o+n≤x.length then some (UW f d (.val g ((x.drop o).take n)),st)else none
       |none=>none
      |_=>none
     |_=>none))∧
 (∀(f:UT) (st:St) r x v n,aV (.stl r x v n) f st=(match uf f x,rE f v with
     | .lref r' o,some (_,vs)=>match UF f r with
       | .box ds=>if r'=r∧vs.length=n∧o+n≤ds.length then some (UW f r (.box (aQ ds o vs)),st)else none
       |_=>none
     |_,_=>none))∧
 (∀(f:UT) (st:St) x v n,aV (.sth x v n) f st=(match dy f x,rE f v with
     |some (.pt k w o),some (_,vs)=>match st.ptr k w with
      |some (ty,ds)=>if vs.length=n∧o+n≤ds.length then some (f,st.put k (.pt w ty (aQ ds o vs)))else none
      |none=>none
     |some (.px k w j o),some (_,vs)=>match st.Ck vs with
      |some (vs',st',b)=>match st'.ey k w with
       |some (true,dp,t,xs)=>match xs[j]? with
        |some x=>if vs.length=n∧o+n≤x.length then some (f,st'.put k (.sl w true (dp && bJ vs && bJ x) t (xs.set j (aQ x o vs'))))else none
        |none=>none
       |_=>none
      |none=>none
     |_,_=>none))∧
 (∀(f:UT) (st:St) d op x y,aV (.bin d op x y) f st=(match dy f x,dy f y with
     |some a,some b=>match H9 op a b with
      |some c=>some (UW f d (.val false [c]),st)
      |none=>none
     |_,_=>none))∧
 (∀(f:UT) (st:St) d neg x y,aV (.beq d neg x y) f st=(match dy f x,dy f y with
     |some (.bool a),some (.bool b)=>some (UW f d (.val false [.bool (if neg then !(a==b)else(a==b))]),st)
     |_,_=>none))∧
 (∀(f:UT) (st:St) d neg x,aV (.snil d neg x) f st=(match dy f x with
     |some .nils=>some (UW f d (.val false [.bool (!neg)]),st)
     |some c=>match st.xG c with
      |some xs=>if xs.isEmpty then none else some (UW f d (.val false [.bool neg]),st)
      |none=>none
     |_=>none))∧
 (∀(f:UT) (st:St) d n neg x y,aV (.geq d n neg x y) f st=(match rE f x,rE f y with
     |some (true,a),some (true,b)=>if a.length=n then(match FL a,FL b with
      |some a,some b=>match sg a b with
       |some r=>some (UW f d (.val false [.bool (if neg then !r else r)]),st)
       |none=>none
      |_,_=>none)else none
     |_,_=>none))∧
 (∀(f:UT) (st:St) d x,aV (.neg d x) f st=(match dy f x with
     |some (.int k n)=>some (UW f d (.val false [.int k (k.wrap (0 - n))]),st)
     |_=>none))∧
 (∀(f:UT) (st:St) d x,aV (.not d x) f st=(match dy f x with
     |some (.bool b)=>some (UW f d (.val false [.bool (!b)]),st)
     |_=>none))∧
 (∀(f:UT) (st:St) d k x,aV (.cvi d k x) f st=(match dy f x with
     |some (.int _ n)=>some (UW f d (.val false [.int k (k.wrap n)]),st)
     |_=>none))∧
 (∀(f:UT) (st:St) d x,aV (.cbs d x) f st=(match dy f x with
     |some c=>match st.xG c with
      |some xs=>match ud xs with
       |some b=>some (UW f d (.val false [.str b]),st)
       |none=>none
      |none=>none
     |none=>none))∧
 (∀(f:UT) (st:St) d ty esz bytes z x,aV (.mks d ty esz bytes z x) f st=(match dy f x with
     |some (.int .i64 n)=>match Hb z with
      |some z'=>if 0≤n∧cS (n.toNat * bytes+n.toNat)=true∧z'.length=esz then
        some (UW f d (.val false [.ow d st.nx]),st.news d true true (some (ty,esz)) (List.replicate n.toNat z'))else none
      |none=>none
     |_=>none))∧
 (∀(f:UT) (st:St) d esz x lo hi,aV (.ey d esz x lo hi) f st=(match dy f x with
     |some .nils=>match bQ f lo 0,bQ f hi 0 with
      |some l,some u=>if l=0∧u=0 then some (UW f d (.val false [.nils]),st)else none
      |_,_=>none
     |some (.sl xs)=>match bQ f lo 0,bQ f hi xs.length with
      |some l,some u=>if wid esz xs=true∧0≤l∧l≤u∧u≤(xs.length:Int)then some (UW f d (.val false [.sl ((xs.drop l.toNat).take (u - l).toNat)]),st)else none
      |_,_=>none
     |some (.ow k v)=>match st.ey k v with
      |some (_,_,t,xs)=>match bQ f lo 0,bQ f hi xs.length with
       |some l,some u=>if wid esz xs=true∧0≤l∧l≤u∧u≤(xs.length:Int)then
         some (UW f d (.val false [.sl ((xs.drop l.toNat).take (u - l).toNat)]),st.put k (.sl v false false t xs))else none
       |_,_=>none
      |none=>none
     |some (.sa k v o n e)=>match st.ptr k v with
      |some _=>match bQ f lo 0,bQ f hi n with
       |some l,some u=>if e=esz∧0≤l∧l≤u∧u≤(n:Int)then some (UW f d (.val false [.sa k v (o+l.toNat * e) (u - l).toNat e]),st)else none
       |_,_=>none
      |none=>none
     |_=>none))∧
 (∀(f:UT) (st:St) d x lo hi,aV (.sls d x lo hi) f st=(match dy f x with
     |some (.str s)=>match bQ f lo 0,bQ f hi s.size with
      |some l,some u=>if 0≤l∧l≤u∧u≤(s.size:Int)then some (UW f d (.val false [.str (s.extract l.toNat u.toNat)]),st)else none
      |_,_=>none
     |_=>none))∧
 (∀(f:UT) (st:St) d x len esz,aV (.sla d x len esz) f st=(match dy f x with
     |some (.pt k v o)=>match st.ptr k v with
      |some (_,ds)=>if o+len * esz≤ds.length then some (UW f d (.val false [.sa k v o len esz]),st)else none
      |none=>none
     |_=>none))∧
 (∀(f:UT) (st:St) d x off n g,aV (.fld d x off n g) f st=(match rE f x with
     |some (true,ds)=>if off+n≤ds.length then some (UW f d (.val g ((ds.drop off).take n)),st)else none
     |_=>none))∧
 (∀(f:UT) (st:St) d x i esz len g,aV (.idx d x i esz len g) f st=(match rE f x,dy f i with
     |some (true,ds),some (.int _ j)=>
      if 0≤j∧j < (len:Int)∧j.toNat * esz+esz≤ds.length then some (UW f d (.val g ((ds.drop (j.toNat * esz)).take esz)),st)else none
     |_,_=>none))∧
 (∀(f:UT) (st:St) d x i,aV (.ids d x i) f st=(match dy f x,dy f i with
     |some (.str s),some (.int _ j)=>
      if 0≤j then match s.data.toList[j.toNat]? with
       |some b=>some (UW f d (.val false [.int .u8 (b.toNat:Int)]),st)
       |none=>none
      else none
     |_,_=>none))∧
 (∀(f:UT) (st:St) d x i,aV (.ext d x i) f st=(match uf f x with
     | .tup vs=>match vs[i]? with
       |some (g,ds)=>some (UW f d (.val g ds),st)
       |none=>none
     |_=>none))∧
 (∀(f:UT) (st:St) d x,aV (.nch d x) f st=(match uf f x with
     | .lref r o=>some (UW f d (.lref r o),st)
     | .val false [.pt k v o]=>match st.ptr k v with
       |some _=>some (UW f d (.val false [.pt k v o]),st)
       |none=>none
     | .val false [.pe x o]=>some (UW f d (.val false [.pe x o]),st)
     | .val false [.px k v j o]=>match st.ey k v with
       |some (true,_)=>some (UW f d (.val false [.px k v j o]),st)
       |_=>none
     | .val false [.fn g]=>some (UW f d (.val false [.fn g]),st)
     |_=>none))∧
 (∀(f:UT) (st:St) d s x,aV (.len d s x) f st=(match s,dy f x with
     |false,some c=>match st.xG c with
      |some xs=>some (UW f d (.val false [.int .i64 (xs.length:Int)]),st)
      |none=>none
     |true,some (.str s)=>some (UW f d (.val false [.int .i64 (s.size:Int)]),st)
     |_,_=>none))∧
 (∀(f:UT) (st:St) d ty esz bytes x y,aV (.app d ty esz bytes x y) f st=(match dy f x,sR f st esz y with
     |some a,some (ys,st',b)=>match a with
      | .nils=>if cS (ys.length * bytes+ys.length)=true then some (UW f d (.val false [.ow d st'.nx]),st'.news d true b (some (ty,esz)) ys)else none
      | .ow k v=>match st'.ey k v with
        |some (true,dp,t,xs)=>if Fz t ty esz=true∧cS ((xs.length+ys.length) * bytes+(xs.length+ys.length))=true then
          some (UW f d (.val false [.ow k st'.nx]),st'.news k true (dp && b) (some (ty,esz)) (xs++ys))else none
        |_=>none
      |_=>none
     |_,_=>none))∧
 (∀(f:UT) (st:St) d esz x y,aV (.cpy d esz x y) f st=(match dy f x,sR f st esz y with
     |some (.ow k v),some (ys,_,_)=>match st.ey k v with
      |some (true,dp,t,xs)=>if flat ys=true∧flat xs=true∧xs.isEmpty=false∧wid esz xs=true∧wid esz ys=true then
        some (UW f d (.val false [.int .i64 ((min ys.length xs.length:Nat):Int)]),st.put k (.sl v true dp t (ys.take (min ys.length xs.length)++xs.drop (min ys.length xs.length))))else none
      |_=>none
     |some (.sa k v o n e),some (ys,_,_)=>match st.ptr k v with
      |some (ty,ds)=>if flat ys=true∧e=esz∧wid esz ys=true∧o+n * e≤ds.length then
        some (UW f d (.val false [.int .i64 ((min ys.length n:Nat):Int)]),st.put k (.pt v ty (aQ ds o (ys.take (min ys.length n)).flatten)))else none
      |none=>none
     |_,_=>none))∧
 (∀(f:UT) (st:St) d mx x y,aV (.mm d mx x y) f st=(match dy f x,dy f y with
     |some (.int .i64 a),some (.int .i64 b)=>some (UW f d (.val false [.int .i64 (if mx then(if a < b then b else a)else(if b < a then b else a))]),st)
     |_,_=>none))∧
 (∀f s,UF f s=UT.get f (K.of s))∧
 (∀f s v,UW f s v=UT.set f (K.of s) v)∧
 (∀k,UT.get .leaf k= .any)∧
 (∀l v r,UT.get (.node l v r) .z=v)∧
 (∀l v r k,UT.get (.node l v r) (.o k)=l.get k)∧
 (∀l v r k,UT.get (.node l v r) (.i k)=r.get k)∧
 (∀v,UT.set .leaf .z v= .node .leaf v .leaf)∧
 (∀k v,UT.set .leaf (.o k) v= .node (UT.set .leaf k v) .any .leaf)∧
 (∀k v,UT.set .leaf (.i k) v= .node .leaf .any (UT.set .leaf k v))∧
 (∀l u r v,UT.set (.node l u r) .z v= .node l v r)∧
 (∀l u r k v,UT.set (.node l u r) (.o k) v= .node (l.set k v) u r)∧
 (∀l u r k v,UT.set (.node l u r) (.i k) v= .node l u (r.set k v))∧
 (UT.full 0= .leaf)∧
 (UT.full 1= .node .leaf .any .leaf)∧
 (∀d,UT.full (d+1)= .node (UT.full d) .any (UT.full d))∧
 (∀f n,mJ f n []=f)∧
 (∀f n g ds r,mJ f n ((g,ds)::r)=mJ (UW f n (.val g ds)) (n+1) r)∧
 (∀f d u,qZ f d u=(match d with|0=>f|d+1=>UW f d u))∧
 (∀f,b7 f []=f)∧
 (∀f d ds,b7 f (d::ds)=b7 (UW f d .any) ds)∧
 (∀f v,uf f (.c v)=cU v)∧
 (∀f t,uf f (.s t)=(match UF f t with| .box _=> .lref t 0|v=>v))∧
 (∀g cs,cU (.val g cs)=(match z7 cs with|some ds=> .val g ds|none=> .any))∧
 (∀f x,rE f x=(match uf f x with| .val g ds=>some (g,ds)|_=>none))∧
 (∀f x,dy f x=(match uf f x with| .val false [d]=>some d|_=>none))∧
 (∀f ds,ig f ds []=some ds)∧
 (∀f ds off sz x r,ig f ds ((off,sz,x)::r)=(match rE f x with|some (_,vs)=>if vs.length=sz∧off+sz≤ds.length then ig f (aQ ds off vs) r else none|none=>none))∧
 (∀k n,cD (.int k n)=some (.int k n))∧
 (∀b,cD (.bool b)=some (.bool b))∧
 (∀s,cD (.str s)=some (.str s))∧
 (∀g,cD (.fn g)=some (.fn g))∧
 (∀k n,dC (.int k n)=some (.int k n))∧
 (∀b,dC (.bool b)=some (.bool b))∧
 (∀s,dC (.str s)=some (.str s))∧
 (∀g,dC (.fn g)=some (.fn g))∧
 (cD .nilf=some .nilf)∧
 (cD .nili=some .nili)∧
 (cD .nilp=some .nilp)∧
 (cD .nils=some .nils)∧
 (cD .emp=some (.sl []))∧
 (z7 []=some [])∧
 (∀c cs,z7 (c::cs)=(match cD c,z7 cs with|some d,some ds=>some (d::ds)|_,_=>none))∧
 (∀k n,zD (.int k n)=some (.int k n))∧
 (∀b,zD (.bool b)=some (.bool b))∧
 (∀s,zD (.str s)=some (.str s))∧
 (zD .nils=some (.sl []))∧
 (zD .nilf=some .nilf)∧
 (Hb []=some [])∧
 (∀c cs,Hb (c::cs)=(match zD c,Hb cs with|some d,some ds=>some (d::ds)|_,_=>none))∧
 (∀f s w,gu f s w=(match UF f s with| .tup []=>some (.bool (!w))|_=>dy f (.s s)))∧
 (sg [] []=some true)∧
 (∀x xs y ys,sg (x::xs) (y::ys)=(match K2 x y,sg xs ys with|some a,some b=>some (a && b)|_,_=>none))∧
 (∀k a k' b,K2 (.int k a) (.int k' b)=(if k=k' then some (a==b)else none))∧
 (FL []=some [])∧
 (∀c cs,FL (c::cs)=(match dC c,FL cs with|some d,some ds=>some (d::ds)|_,_=>none))∧
 (∀k n,D.leaf (.int k n)=true)∧
 (∀b,D.leaf (.bool b)=true)∧
 (∀s,D.leaf (.str s)=true)∧
 (∀g,D.leaf (.fn g)=true)∧
 (D.leaf .nilf=true)∧
 (D.leaf .nili=true)∧
 (∀xs,D.leaf (.sl xs)=false)∧
 (D.leaf .nils=false)∧
 (∀k v,D.leaf (.ow k v)=false)∧
 (bJ []=true)∧
 (∀d ds,bJ (d::ds)=(d.leaf && bJ ds))∧
 (flat []=true)∧
 (∀x xs,flat (x::xs)=(bJ x && flat xs))∧
 (∀e,wid e []=true)∧
 (∀e x xs,wid e (x::xs)=((x.length==e) && wid e xs))∧
 (∀e ds,chunks e 0 ds= [])∧
 (∀e n ds,chunks e (n+1) ds=ds.take e::chunks e n (ds.drop e))∧
 (∀st k v,St.ey st k v=(match lk k st.es with|some (.sl v' o d t xs)=>if v'=v then some (o,d,t,xs)else none|_=>none))∧
 (∀st k v,St.ptr st k v=(match lk k st.es with|some (.pt v' ty ds)=>if v'=v then some (ty,ds)else none|_=>none))∧
 (∀st k e,St.put st k e=⟨st.nx,(k,e)::st.es⟩)∧
 (∀st k own deep ty xs,St.news st k own deep ty xs=⟨st.nx+1,(k, .sl st.nx own deep ty xs)::st.es⟩)∧
 (∀st k ty ds,St.Em st k ty ds=⟨st.nx+1,(k, .pt st.nx ty ds)::st.es⟩)∧
 (∀k,lk k []=none)∧
 (∀k k1 e r,lk k ((k1,e)::r)=if k=k1 then some e else lk k r)∧
 (∀st,St.dp st .nils=some (.sl [],st,true))∧
 (∀st xs,St.dp st (.sl xs)=some (.sl xs,st,false))∧
 (∀st k v,St.dp st (.ow k v)=(match st.ey k v with|some (o,d,t,xs)=>some (.sl xs,st.put k (.sl v false false t xs),o && d)|none=>none))∧
 (∀st k n,St.dp st (.int k n)=some (.int k n,st,true))∧
 (∀st b,St.dp st (.bool b)=some (.bool b,st,true))∧
 (∀st s,St.dp st (.str s)=some (.str s,st,true))∧
 (∀st g,St.dp st (.fn g)=some (.fn g,st,true))∧
 (∀st,St.Ck st []=some ([],st,true))∧
 (∀st d ds,St.Ck st (d::ds)=(match st.dp d with|some (d',st',b)=>(match st'.Ck ds with|some (ds',st'',b')=>some (d'::ds',st'',b && b')|none=>none)|none=>none))∧
 (∀st,St.xG st .nils=some [])∧
 (∀st xs,St.xG st (.sl xs)=some xs)∧
 (∀st k v,St.xG st (.ow k v)=(match st.ey k v with|some (_,_,_,xs)=>some xs|none=>none))∧
 (∀st k v o n e,St.xG st (.sa k v o n e)=(match st.ptr k v with|some (_,ds)=>if o+n * e≤ds.length∧bJ ((ds.drop o).take (n * e))=true then some (chunks e n ((ds.drop o).take (n * e)))else none|none=>none))∧
 (∀f n,bQ f none n=some (n:Int))∧
 (∀f x n,bQ f (some x) n=(match dy f x with|some (.int _ i)=>some i|_=>none))∧
 (∀st e s,si st e (.str s)=if e=1 then some (Fs s,st,true)else none)∧
 (∀st e,si st e .nils=some ([],st,true))∧
 (∀st e xs,si st e (.sl xs)=if wid e xs=true then(if flat xs=true then some (xs,st,true)else some (xs,st,false))else none)∧
 (∀st e k v,si st e (.ow k v)=(match St.xG st (.ow k v)with|some ys=>if wid e ys=true then(if flat ys=true then some (ys,st,true)else(match st.ey k v with|some (o,dp,t,xs)=>some (ys,st.put k (.sl v o false t xs),o && dp)|none=>none))else none|none=>none))∧
 (∀f st e t,sR f st e (.s t)=(match UF f t with| .lsl ds n e'=>if e'=e∧ds.length=n * e then(match st.Ck ds with|some (ds',st',b)=>some (chunks e n ds',st',b)|none=>none)else none| .val false [d]=>si st e d|_=>none))∧
 (∀f st e c,sR f st e (.c (.val false [c]))=(match cD c with|some d=>si st e d|none=>none))∧
 (∀op x y,H9 op x y=(match dC x,dC y with|some a,some b=>(match bf op a b with|some c=>cD c|none=>none)|_,_=>none))∧
 (∀ty e,Fz none ty e=true)∧
 (∀p ty e,Fz (some p) ty e=decide (p=(ty,e)))∧
 (∀f st R pd,wS f st R pd=(match rh f R with|some ds=>(match eD st ds []with|some (rs,us)=>(match cA st (Bw pd) us with|some (ps,_)=>some (rs,ps)|none=>none)|none=>none)|none=>none))∧
 (∀f t,Bc f (.tmp t)=rE f (.s t))∧
 (∀f s n g,Bc f (.cell s n g)=(match UF f s with| .box ds=>if n=ds.length then some (g,ds)else none|_=>none))∧
 (∀f,rh f []=some [])∧
 (∀f r rs,rh f (r::rs)=(match Bc f r,rh f rs with|some v,some vs=>some (v::vs)|_,_=>none))∧
 (Bw []= [])∧
 (∀p r,Bw (p::r)= .pt p.1 p.2 0::Bw r)∧
 (∀st us,eD st [] us=some ([],us))∧
 (∀st g ds r us,eD st ((g,ds)::r) us=(match cA st ds us with|some (es,us')=>(match eD st r us' with|some (rs,us'')=>some ((g,es)::rs,us'')|none=>none)|none=>none))∧
 (∀st us,cA st [] us=some ([],us))∧
 (∀st k v o r us,cA st (.pt k v o::r) us=(match st.ptr k v with|some (ty,ds)=>if us.elem k||o !=0 then none else(match cc st ds (k::us)with|some (xs,us')=>(match cA st r us' with|some (es,us'')=>some (.pt ty xs::es,us'')|none=>none)|none=>none)|none=>none))∧
 (∀st k n r us,cA st (.int k n::r) us=(match cA st r us with|some (es,us'')=>some (.e (.p (.int k n))::es,us'')|none=>none))∧
 (∀st k n r us,cc st (.int k n::r) us=(match cc st r us with|some (es,us'')=>some (.p (.int k n)::es,us'')|none=>none))∧
 (∀st b r us,cA st (.bool b::r) us=(match cA st r us with|some (es,us'')=>some (.e (.p (.bool b))::es,us'')|none=>none))∧
 (∀st b r us,cc st (.bool b::r) us=(match cc st r us with|some (es,us'')=>some (.p (.bool b)::es,us'')|none=>none))∧
 (∀st s r us,cA st (.str s::r) us=(match cA st r us with|some (es,us'')=>some (.e (.p (.str s))::es,us'')|none=>none))∧
 (∀st s r us,cc st (.str s::r) us=(match cc st r us with|some (es,us'')=>some (.p (.str s)::es,us'')|none=>none))∧
 (∀st g r us,cA st (.fn g::r) us=(match cA st r us with|some (es,us'')=>some (.e (.p (.fn g))::es,us'')|none=>none))∧
 (∀st g r us,cc st (.fn g::r) us=(match cc st r us with|some (es,us'')=>some (.p (.fn g)::es,us'')|none=>none))∧
 (∀st xs r us,cA st (.sl xs::r) us=(match cA st r us with|some (es,us'')=>some (.e (.p (.sl xs))::es,us'')|none=>none))∧
 (∀st xs r us,cc st (.sl xs::r) us=(match cc st r us with|some (es,us'')=>some (.p (.sl xs)::es,us'')|none=>none))∧
 (∀st r us,cA st (.nilf::r) us=(match cA st r us with|some (es,us'')=>some (.e (.p (.nilf))::es,us'')|none=>none))∧
 (∀st r us,cc st (.nilf::r) us=(match cc st r us with|some (es,us'')=>some (.p (.nilf)::es,us'')|none=>none))∧
 (∀st r us,cA st (.nili::r) us=(match cA st r us with|some (es,us'')=>some (.e (.p (.nili))::es,us'')|none=>none))∧
 (∀st r us,cc st (.nili::r) us=(match cc st r us with|some (es,us'')=>some (.p (.nili)::es,us'')|none=>none))∧
 (∀st r us,cA st (.nilp::r) us=(match cA st r us with|some (es,us'')=>some (.e (.p (.nilp))::es,us'')|none=>none))∧
 (∀st r us,cc st (.nilp::r) us=(match cc st r us with|some (es,us'')=>some (.p (.nilp)::es,us'')|none=>none))∧
 (∀st r us,cA st (.nils::r) us=(match cA st r us with|some (es,us'')=>some (.e (.p (.nils))::es,us'')|none=>none))∧
 (∀st r us,cc st (.nils::r) us=(match cc st r us with|some (es,us'')=>some (.p (.nils)::es,us'')|none=>none))∧
 (∀st k v r us,cA st (.ow k v::r) us=(match cc st [.ow k v] us with|some ([x],us')=>(match cA st r us' with|some (es,us'')=>some (.e x::es,us'')|none=>none)|_=>none))∧
 (∀st us,cc st [] us=some ([],us))∧
 (∀st k v r us,cc st (.ow k v::r) us=(match st.ey k v with|some (true,dp,t,xs)=>if us.elem k then none else(match cc st r (k::us)with|some (es,us')=>some (.o dp t xs::es,us')|none=>none)|some (false,_,_,xs)=>(match cc st r us with|some (es,us')=>some (.p (.sl xs)::es,us')|none=>none)|none=>none))∧
 (∀id i k,vX id (.b i::k)=if id=i then some k else vX id k)∧
 (∀id a k,vX id (.c a::k)=vX id k)∧
 (∀id P k,vX id (.stop P::k)=vX id k)∧
 (dt []=0)∧
 (∀x r,dt (.e x::r)=1+dt r)∧
 (∀t xs r,dt (.pt t xs::r)=1+xs.length+dt r)∧
 (cF []=0)∧
 (∀g es r,cF ((g,es)::r)=dt es+cF r)∧
 (aJ []= [])∧
 (∀g ds r,aJ ((g,ds)::r)=(g,ds.map E.p)::aJ r)∧
 (∀f,gY f []=some [])∧
 (∀f x xs,gY f (x::xs)=(match rE f x,gY f xs with|some v,some vs=>some (v::vs)|_,_=>none))∧
 (∀st,nY st .nils=some (.sl []))∧
 (∀st k v,nY st (.ow k v)=(match st.ey k v with|some (_,_,_,xs)=>some (.sl xs)|none=>none))∧
 (∀st k n,nY st (.int k n)=some (.int k n))∧
 (∀st b,nY st (.bool b)=some (.bool b))∧
 (∀st s,nY st (.str s)=some (.str s))∧
 (∀st g,nY st (.fn g)=some (.fn g))∧
 (∀st xs,nY st (.sl xs)=some (.sl xs))∧
 (∀st,nY st (.nilf)=some (.nilf))∧
 (∀st,nY st (.nili)=some (.nili))∧
 (∀st k v o n e,nY st (.sa k v o n e)=(match st.xG (.sa k v o n e)with|some xs=>some (.sl xs)|none=>none))∧
 (∀st,kA st []=some [])∧
 (∀st d ds,kA st (d::ds)=(match nY st d,kA st ds with|some a,some r=>some (a::r)|_,_=>none))∧
 (∀st,fZ st []=some [])∧
 (∀st g ds r,fZ st ((g,ds)::r)=(match kA st ds,fZ st r with|some a,some b=>some ((g,a)::b)|_,_=>none))∧
 (∀st k v,ib st (.ow k v)=(match st.ey k v with|some (_,_,t,xs)=>st.put k (.sl v false false t xs)|none=>st))∧
 (∀st k n,ib st (.int k n)=st)∧
 (∀st k n,EH st (.int k n)=true)∧
 (∀st b,ib st (.bool b)=st)∧
 (∀st b,EH st (.bool b)=true)∧
 (∀st s,ib st (.str s)=st)∧
 (∀st s,EH st (.str s)=true)∧
 (∀st g,ib st (.fn g)=st)∧
 (∀st g,EH st (.fn g)=true)∧
 (∀st xs,ib st (.sl xs)=st)∧
 (∀st xs,EH st (.sl xs)=true)∧
 (∀st,ib st (.nils)=st)∧
 (∀st,EH st (.nils)=true)∧
 (∀st k v,EH st (.ow k v)=(match st.ey k v with|some (false,_)=>true|_=>false))∧
 (∀st,tq st []=st)∧
 (∀st d ds,tq st (d::ds)=tq (ib st d) ds)∧
 (∀st,cg st []=st)∧
 (∀st g ds r,cg st ((g,ds)::r)=cg (tq st ds) r)∧
 (∀st,Al st []=true)∧
 (∀st d ds,Al st (d::ds)=(EH st d && Al st ds))∧
 (∀st,GL st []=true)∧
 (∀st g ds r,GL st ((g,ds)::r)=(Al st ds && GL st r))∧
 (∀f st d rs,qR f st d rs=qZ f d (DY (aZ (cP d) st.nx rs).1))∧
 (∀st d rs,ld st d rs=⟨st.nx+cF rs,(aZ (cP d) st.nx rs).2++st.es⟩)∧
 (∀g d,DY [(g,d)]= .val g d)∧
 (DY []= .tup [])∧
 (∀a b l,DY (a::b::l)= .tup (a::b::l))∧
 (∀d,cP d=8192 * (d+1))∧
 (∀k v,aZ k v []=([],[]))∧
 (∀k v g es r,aZ k v ((g,es)::r)=((g,(bb k v es).1)::(aZ (k+dt es) (v+dt es) r).1,(bb k v es).2++(aZ (k+dt es) (v+dt es) r).2))∧
 (∀k v,bb k v []=([],[]))∧
 (∀k v d r,bb k v (.e (.p d)::r)=(d::(bb (k+1) (v+1) r).1,(bb (k+1) (v+1) r).2))∧
 (∀k v dp t xs r,bb k v (.e (.o dp t xs)::r)=(.ow k v::(bb (k+1) (v+1) r).1,(k, .sl v true dp t xs)::(bb (k+1) (v+1) r).2))∧
 (∀x,E.p x= .e (.p x))∧
 (∀a b c,E.o a b c= .e (.o a b c))∧
 (∀A B,GM (some (.bool true)) A B=A)∧
 (∀A B,GM (some (.bool false)) A B=B)∧
 (∀(Q:List (Bool×List E)→List E→Prop) rs ps,Ki (some (rs,ps)) Q=Q rs ps)∧
 (∀f,bN f []=f)∧
 (∀f s v r,bN f ((s,v)::r)=bN (UW f s v) r)∧
 (∀st,nh st []=True)∧
 (∀st k e r,nh st ((k,e)::r)=((match lk k st.es with|some e0=>BC e0 e|none=>False)∧nh st r))∧
 (∀v o dp t xs v' o' dp' t' xs',BC (.sl v o dp t xs) (.sl v' o' dp' t' xs')=(v'=v∧xs'=xs∧((o'=o∧dp'=dp∧t'=t)∨(o=true∧o'=true∧xs= []∧t=none))))∧
 (∀v ty ds v' ty' ds',BC (.pt v ty ds) (.pt v' ty' ds')=(v'=v∧ty'=ty∧ds'=ds))∧
 (∀(cs:List D) o,aQ cs o []=cs)∧
 (∀(cs:List D) o v vs,aQ cs o (v::vs)=aQ (cs.set o v) (o+1) vs)∧
 (∀k,GS k []= [])∧
 (∀k k1 e r,GS k ((k1,e)::r)=if k=k1 then GS k r else(k1,e)::GS k r)∧
 (I8 []= [])∧
 (∀k e r,I8 ((k,e)::r)=(k,e)::GS k (I8 r))∧
 (∀es,Cl es []=es)∧
 (∀es k e r,Cl es ((k,e)::r)=(k,e)::GS k (Cl es r)):=by
 (repeat' apply And.intro) <;>intros <;>first|rfl|exact Ej _ _|(simp only[Bw,List.map_cons];done)|(rename_i t xs r;simp[dt])
theorem Ls {cd:Nat→Option AF} {pd:List (Nat×Nat)} {R:List RV} {Q:List (Bool×List E)→List E→Prop}:
 (∀f st,VX cd pd R Q [] f st=Ki (wS f st R pd) Q)∧(∀i k f st,VX cd pd R Q (.b i::k) f st=VX cd pd R Q k f st)∧(∀P k f st,VX cd pd R Q (.stop P::k) f st=P f st)∧(∀k f st,VX cd pd R Q (.c .skip::k) f st=VX cd pd R Q k f st)∧
 (∀k f st,VX cd pd R Q (.c .ret::k) f st=Ki (wS f st R pd) Q)∧(∀id k f st,VX cd pd R Q (.c (.exit id)::k) f st=LB cd pd R Q (vX id k) f st)∧(∀a b k f st,VX cd pd R Q (.c (.seq a b)::k) f st=VX cd pd R Q (.c a:: .c b::k) f st)∧
 (∀id b k f st,VX cd pd R Q (.c (.block id b)::k) f st=VX cd pd R Q (.c b:: .b id::k) f st)∧(∀x a c k f st,VX cd pd R Q (.c (.cond x a c)::k) f st=DZ cd pd R Q (dy f x) (.c a::k) f (.c c::k) f st)∧
 (∀k f st,VX cd pd R Q (.c (.ops [])::k) f st=VX cd pd R Q k f st)∧(∀s d a l k f st,VX cd pd R Q (.c (.ops (.g s true d a::l))::k) f st=DZ cd pd R Q (gu f s true) (.c (.ops (.i a::l))::k) f (.c (.ops l)::k) (qZ f d (.tup [])) st)∧
 (∀s d a l k f st,VX cd pd R Q (.c (.ops (.g s false d a::l))::k) f st=DZ cd pd R Q (gu f s false) (.c (.ops l)::k) (qZ f d (.tup [])) (.c (.ops (.i a::l))::k) f st)∧
 (∀f st l k,i1 cd pd R Q (some (f,st)) l k=VX cd pd R Q (.c (.ops l)::k) f st)∧(∀kt ft kf ff st,DZ cd pd R Q (some (.bool true)) kt ft kf ff st=VX cd pd R Q kt ft st)∧(∀kt ft kf ff st,DZ cd pd R Q (some (.bool false)) kt ft kf ff st=VX cd pd R Q kf ff st)∧(∀b kt ft kf ff st,DZ cd pd R Q (some (.bool (!b))) kt ft kf ff st=DZ cd pd R Q (some (.bool b)) kf ff kt ft st)∧(∀d g q xs l k f st,VX cd pd R Q (.c (.ops (.i (.call d g q xs)::l))::k) f st=J9 cd pd R Q d g q l k f st (gY f xs))∧(∀d q x xs l k f st,VX cd pd R Q (.c (.ops (.i (.clv d q x xs)::l))::k) f st=K7 cd pd R Q d q xs l k f st (dy f x))∧(∀d q xs l k f st g,K7 cd pd R Q d q xs l k f st (some (.fn g))=VX cd pd R Q (.c (.ops (.i (.call d g q xs)::l))::k) f st)∧(∀k f st,LB cd pd R Q (some k) f st=VX cd pd R Q k f st):=
 ⟨fun _ _=>JJ,fun _ _ _ _=>LC,fun _ _ _ _=>GV,fun _ _ _=>H8,fun _ _ _=>Jv,fun _ _ _ _=>Hn,fun _ _ _ _ _=>Ju,fun _ _ _ _ _=>FU,fun _ _ _ _ _ _=>H4,fun _ _ _=>JH,fun _ _ _ _ _ _ _=>Kt,fun _ _ _ _ _ _ _=>KG,fun _ _ _ _=>rfl,fun _ _ _ _ _=>rfl,fun _ _ _ _ _=>rfl,fun _ _ _ _ _ _=>HI,fun _ _ _ _ _ _ _ _=>G4,fun _ _ _ _ _ _ _ _=>JY,fun _ _ _ _ _ _ _ _=>rfl,fun _ _ _=>rfl⟩
theorem VB:(∀x,flat (bytes x)=true)∧(∀x,wid 1 (bytes x)=true)∧(∀x,(bytes x).length=x.length)∧(∀n,n≤70368744177664→cS n=true)∧(∀n:Int, -9223372036854775808≤n→n < 9223372036854775808→IntKind.i64.wrap n=n)∧
 (∀(k:IntKind) (a b:Int),bf .add (.int k a) (.int k b)=some (.int k (k.wrap (a+b))))∧(∀(k:IntKind) (a b:Int),bf .sub (.int k a) (.int k b)=some (.int k (k.wrap (a - b))))∧(∀(k:IntKind) (a b:Int),bf .mul (.int k a) (.int k b)=some (.int k (k.wrap (a * b))))∧
 (∀(k:IntKind) (a b:Int),bf .quo (.int k a) (.int k b)=if b=0 then none else some (.int k (k.wrap (a.tdiv b))))∧(∀(k:IntKind) (a b:Int),bf .rem (.int k a) (.int k b)=if b=0 then none else some (.int k (a.tmod b)))∧
 (∀(k:IntKind) (a b:Int),bf .eql (.int k a) (.int k b)=some (.bool (decide (a=b))))∧(∀(k:IntKind) (a b:Int),bf .neq (.int k a) (.int k b)=some (.bool (decide (a≠b))))∧(∀(k:IntKind) (a b:Int),bf .lss (.int k a) (.int k b)=some (.bool (decide (a < b))))∧
 (∀(k:IntKind) (a b:Int),bf .leq (.int k a) (.int k b)=some (.bool (decide (a≤b))))∧(∀(k:IntKind) (a b:Int),bf .gtr (.int k a) (.int k b)=some (.bool (decide (a > b))))∧(∀(k:IntKind) (a b:Int),bf .geq (.int k a) (.int k b)=some (.bool (decide (a≥b))))∧
 (∀(k:IntKind) (a b:Int),bf .and (.int k a) (.int k b)=some (.int k (aI .and k a b)))∧(∀(k:IntKind) (a b:Int),bf .or (.int k a) (.int k b)=some (.int k (aI .or k a b)))∧(∀(k:IntKind) (a b:Int),bf .xor (.int k a) (.int k b)=some (.int k (aI .xor k a b)))∧(∀(k:IntKind) (a b:Int),bf .andNot (.int k a) (.int k b)=some (.int k (aI .andNot k a b)))∧
 (∀(k k':IntKind) (a b:Int),bf .shl (.int k a) (.int k' b)=if b < 0 then none else some (.int k (k.wrap (a * 2 ^ (min b.toNat k.bits)))))∧(∀(k k':IntKind) (a b:Int),bf .shr (.int k a) (.int k' b)=if b < 0 then none else some (.int k (a.fdiv (2 ^ (min b.toNat k.bits)))))∧
 (∀a b,bf .eql (.str a) (.str b)=some (.bool (decide (a=b))))∧(∀a b,bf .neq (.str a) (.str b)=some (.bool (decide (a≠b)))):=
 ⟨CL,sM,an,fun _ h=>zz h,fun _ h1 h2=>av h1 h2,F4,Gg,Gx,Fj,FA,FW,Gc,Fp,EK,Fu,F2,KW,Li,Ku,FC,Kx,Kw,C0,CG⟩
end Go.Eng
namespace Go.Eng
mutual
def enc:Ty→Tv→List D
 | .int k, .i n=> [.int k n]
 | .bool, .b b=> [.bool b]
 | .str, .s s=> [.str s]
 | .sl t, .l xs=> [.sl (xs.map (enc t))]
 | .st ts, .r vs=>qK ts vs
 |_,_=> []
def qK:List Ty→List Tv→List D
 |t::ts,v::vs=>enc t v++qK ts vs
 |_,_=> []
end
mutual
def aF:Ty→Tv→Prop
 | .int k, .i n=>k.min≤n∧n≤k.max
 | .bool, .b _=>True
 | .str, .s s=>s.size≤maxLen
 | .sl t, .l xs=>xs.length≤maxLen∧∀x∈xs,aF t x
 | .st ts, .r vs=>df ts vs
 |_,_=>False
def df:List Ty→List Tv→Prop
 | [],[]=>True
 |t::ts,v::vs=>aF t v∧df ts vs
 |_,_=>False
end
section
variable {h h':H}
mutual
theorem Rp.rd:∀(T:Ty) {cs:List C} {v:Tv} {S:List Nat},Rp h T cs v S→bo h (enc T v) cs S
 | .int k,cs,v,S,hr=>by
   obtain⟨n,rfl,rfl,rfl,_⟩:=hr.int
   simp only[enc,bo,RD]
   exact⟨_,_,[],[],rfl,rfl,⟨rfl,rfl⟩,rfl,rfl⟩
 | .bool,cs,v,S,hr=>by
   unfold Rp at hr
   obtain⟨b,rfl,rfl,rfl⟩:=hr
   simp only[enc,bo,RD]
   exact⟨_,_,[],[],rfl,rfl,⟨rfl,rfl⟩,rfl,rfl⟩
 | .str,cs,v,S,hr=>by
   unfold Rp at hr
   obtain⟨s,rfl,rfl,rfl,_⟩:=hr
   simp only[enc,bo,RD]
   exact⟨_,_,[],[],rfl,rfl,⟨rfl,rfl⟩,rfl,rfl⟩
 | .sl t,cs,v,S,hr=>by
   obtain⟨xs,rfl,_,hc⟩:=hr.sl
   simp only[enc,bo]
   rcases hc with⟨rfl,rfl,rfl|rfl⟩|⟨id,off,bs,S',e0,rfl,h2,h3,rfl,h5,he0⟩
   ·exact⟨_,_,[],[],rfl,rfl,iH.2 (.inl ⟨rfl,rfl, .inl rfl⟩),rfl,rfl⟩
   ·exact⟨_,_,[],[],rfl,rfl,iH.2 (.inl ⟨rfl,rfl, .inr rfl⟩),rfl,rfl⟩
   ·have key:∀ {xs:List Tv} {bs:List C} {S:List Nat},ba (Rp h t) xs bs S→az h (xs.map (enc t)) t.size bs S:=by
     intro xs
     induction xs with
     |nil=>intro bs S he;simp only[List.map_nil,az];exact he
     |cons x xs ih=>
      intro bs S he
      obtain⟨c1,c2,S1,S2,e1,e2,e3,e4⟩:=he
      simp only[List.map_cons,az]
      exact⟨c1,c2,S1,S2,e1,e2,e3.size,Rp.rd t e3,ih e4⟩
    have hle:xs.length * e0=xs.length * t.size:=by rcases he0 with rfl|rfl <;>simp
    have h6:=key h5
    refine⟨_,[],id::S',[],rfl,by simp,iH.2 (.inr ⟨id,off,e0,bs,S',by simp,h2,by simp only[List.length_map,hle];exact h3,rfl,?_⟩),rfl,rfl⟩
    simp only[List.length_map,hle]
    rcases he0 with rfl|rfl
    ·exact h6
    ·simp only[List.map_nil,az]at h6⊢;exact h6
 | .st ts,cs,v,S,hr=>by
   obtain⟨vs,rfl,h2⟩:=hr.st
   simp only[enc]
   exact Rs.rd ts (by simpa using h2)
theorem Rs.rd:∀(ts:List Ty) {cs:List C} {vs:List Tv} {S:List Nat},Rs h ts cs vs S→bo h (qK ts vs) cs S
 | [],cs,vs,S,hr=>by
   obtain⟨rfl,rfl,rfl⟩:=hr
   simp[qK,bo]
 |t::ts,cs,vs,S,hr=>by
  obtain⟨c1,c2,v,vr,S1,S2,rfl,rfl,rfl,h4,h5⟩:=hr
  simp only[qK]
  exact(Rp.rd t h4).join (Rs.rd ts h5)
end
mutual
theorem Rp.ok:∀(T:Ty) {cs:List C} {v:Tv} {S:List Nat},Rp h T cs v S→aF T v
 | .int k,cs,v,S,hr=>by obtain⟨n,rfl,rfl,rfl,h1⟩:=hr.int;simpa only[aF]using h1
 | .bool,cs,v,S,hr=>by unfold Rp at hr;obtain⟨b,rfl,rfl,rfl⟩:=hr;simp only[aF]
 | .str,cs,v,S,hr=>by unfold Rp at hr;obtain⟨s,rfl,rfl,rfl,h1⟩:=hr;simpa only[aF]using h1
 | .sl t,cs,v,S,hr=>by
   obtain⟨xs,rfl,hm,hc⟩:=hr.sl
   simp only[aF]
   refine⟨hm,?_⟩
   rcases hc with⟨rfl,_⟩|⟨id,off,bs,S',e0,rfl,h2,h3,rfl,h5,_⟩
   ·intro x hx;cases hx
   ·have key:∀ {xs:List Tv} {bs:List C} {S:List Nat},ba (Rp h t) xs bs S→∀x∈xs,aF t x:=by
     intro xs
     induction xs with
     |nil=>intro bs S _ x hx;cases hx
     |cons y xs ih=>
      intro bs S he x hx
      obtain⟨c1,c2,S1,S2,e1,e2,e3,e4⟩:=he
      rcases List.mem_cons.1 hx with rfl|hx
      ·exact Rp.ok t e3
      ·exact ih e4 x hx
    exact key h5
 | .st ts,cs,v,S,hr=>by obtain⟨vs,rfl,h2⟩:=hr.st;simp only[aF];exact Rs.ok ts (by simpa using h2)
theorem Rs.ok:∀(ts:List Ty) {cs:List C} {vs:List Tv} {S:List Nat},Rs h ts cs vs S→df ts vs
 | [],cs,vs,S,hr=>by obtain⟨rfl,rfl,rfl⟩:=hr;simp only[df]
 |t::ts,cs,vs,S,hr=>by obtain⟨c1,c2,v,vr,S1,S2,rfl,rfl,rfl,h4,h5⟩:=hr;simp only[df];exact⟨Rp.ok t h4,Rs.ok ts h5⟩
end
mutual
theorem zH:∀(T:Ty) {v:Tv},aF T v→(enc T v).length=T.size
 | .int k,v,hv=>by cases v <;>simp only[aF]at hv <;>rfl
 | .bool,v,hv=>by cases v <;>simp only[aF]at hv <;>rfl
 | .str,v,hv=>by cases v <;>simp only[aF]at hv <;>rfl
 | .sl t,v,hv=>by cases v <;>simp only[aF]at hv <;>simp only[enc] <;>rfl
 | .st ts,v,hv=>by cases v <;>simp only[aF]at hv;simp only[enc];exact A9 ts hv
theorem A9:∀(ts:List Ty) {vs:List Tv},df ts vs→(qK ts vs).length=Ty.bj ts
 | [],vs,hv=>by cases vs <;>simp only[df]at hv <;>rfl
 |t::ts,vs,hv=>by
  cases vs <;>simp only[df]at hv
  simp only[qK,List.length_append,zH t hv.1,A9 ts hv.2]
  rfl
end
mutual
theorem bo.rp:∀(T:Ty) {cs:List C} {v:Tv} {S:List Nat},aF T v→bo h (enc T v) cs S→Rp h T cs v S
 | .int k,cs,v,S,hv,hr=>by
   cases v <;>simp only[aF]at hv
   simp only[enc,bo,RD]at hr
   obtain⟨_,_,_,_,rfl,rfl,⟨rfl,rfl⟩,rfl,rfl⟩:=hr
   exact⟨_,rfl,rfl,rfl,hv⟩
 | .bool,cs,v,S,hv,hr=>by
   cases v <;>simp only[aF]at hv
   simp only[enc,bo,RD]at hr
   obtain⟨_,_,_,_,rfl,rfl,⟨rfl,rfl⟩,rfl,rfl⟩:=hr
   exact⟨_,rfl,rfl,rfl⟩
 | .str,cs,v,S,hv,hr=>by
   cases v <;>simp only[aF]at hv
   simp only[enc,bo,RD]at hr
   obtain⟨_,_,_,_,rfl,rfl,⟨rfl,rfl⟩,rfl,rfl⟩:=hr
   exact⟨_,rfl,rfl,rfl,hv⟩
 | .sl t,cs,v,S,hv,hr=>by
   cases v <;>simp only[aF]at hv
   rename_i xs
   simp only[enc,bo]at hr
   obtain⟨c,cr,S1,S2,rfl,rfl,h1,rfl,rfl⟩:=hr
   refine⟨xs,rfl,hv.1,?_⟩
   rcases iH.1 h1 with⟨hx,rfl,hc⟩|⟨id,off,e,bs,S',rfl,h2,h3,rfl,h5⟩
   ·have hx':xs= []:=by simpa using hx
    subst hx'
    exact .inl ⟨rfl,rfl,hc.imp (fun e=>by rw[e]) (fun e=>by rw[e])⟩
   ·have key:∀ {xs:List Tv} {e:Nat} {bs:List C} {S:List Nat},(∀x∈xs,aF t x)→az h (xs.map (enc t)) e bs S→ba (Rp h t) xs bs S:=by
     intro xs
     induction xs with
     |nil=>intro e bs S _ he;simp only[List.map_nil,az]at he;exact he
     |cons x xs ih=>
      intro e bs S hv he
      simp only[List.map_cons,az]at he
      obtain⟨c1,c2,S1,S2,e1,e2,e3,e4,e5⟩:=he
      exact⟨c1,c2,S1,S2,e1,e2,bo.rp t (hv x (by simp)) e4,ih (fun y hy=>hv y (by simp[hy])) e5⟩
    have he0:e=t.size∨xs= []:=by
     cases xs with
     |nil=>exact .inr rfl
     |cons x xs=>
      left
      have:=h5.wid (enc t x) (by simp)
      rw[←this]
      exact zH t (hv.2 x (by simp))
    have hle:xs.length * e=xs.length * t.size:=by rcases he0 with rfl|rfl <;>simp
    simp only[List.length_map,hle]at h3 h5
    exact .inr ⟨id,off,bs,S',e,by simp,h2,h3,by simp,key hv.2 h5,he0⟩
 | .st ts,cs,v,S,hv,hr=>by
   cases v <;>simp only[aF]at hv
   simp only[enc]at hr
   exact⟨_,rfl,bo.rs ts hv hr⟩
theorem bo.rs:∀(ts:List Ty) {cs:List C} {vs:List Tv} {S:List Nat},df ts vs→bo h (qK ts vs) cs S→Rs h ts cs vs S
 | [],cs,vs,S,hv,hr=>by
   cases vs <;>simp only[df]at hv
   simp only[qK,bo]at hr
   exact⟨hr.1,rfl,hr.2⟩
 |t::ts,cs,vs,S,hv,hr=>by
  cases vs <;>simp only[df]at hv
  rename_i v vs
  simp only[qK]at hr
  obtain⟨S1,S2,rfl,h2,h3⟩:=hr.cut (enc t v).length
  have hl:=zH t hv.1
  rw[List.take_left]at h2
  rw[List.drop_left]at h3
  exact⟨_,_,v,vs,S1,S2,(List.take_append_drop _ _).symm,rfl,rfl,bo.rp t hv.1 h2,bo.rs ts hv.2 h3⟩
end
def Av:List E→List D→Prop
 | [],[]=>True
 | .e (.o dp t xs)::es, .sl ys::ds=>dp=true∧xs=ys∧Av es ds
 | .e (.p .nils)::es, .sl ys::ds=>ys= []∧Av es ds
 | .e (.p d)::es,d'::ds=>d=d'∧d.leaf=true∧Av es ds
 |_,_=>False
mutual
theorem RD.alive:∀(d:D) {c:C} {S:List Nat},RD h d c S→∀i∈S,∃bs,h.cells i=some bs
 | .int _ _,_,_,hr,i,hi=>by simp only[RD]at hr;rw[hr.2]at hi;cases hi
 | .bool _,_,_,hr,i,hi=>by simp only[RD]at hr;rw[hr.2]at hi;cases hi
 | .str _,_,_,hr,i,hi=>by simp only[RD]at hr;rw[hr.2]at hi;cases hi
 | .fn _,_,_,hr,i,hi=>by simp only[RD]at hr;rw[hr.2]at hi;cases hi
 | .nilf,_,_,hr,i,hi=>by simp only[RD]at hr;rw[hr.2]at hi;cases hi
 | .nili,_,_,hr,i,hi=>by simp only[RD]at hr;rw[hr.2]at hi;cases hi
 | .nilp,_,_,hr,i,hi=>by simp only[RD]at hr;rw[hr.2]at hi;cases hi
 | .nils,_,_,hr,i,hi=>by simp only[RD]at hr;rw[hr.2]at hi;cases hi
 | .sl xs,c,S,hr,i,hi=>by
   rcases iH.1 hr with⟨_,e,_⟩|⟨id,off,e,bs,S',h1,h2,h3,h4,h5⟩
   ·rw[e]at hi;cases hi
   ·rw[h4]at hi
    rcases List.mem_cons.1 hi with rfl|hi
    ·exact⟨bs,h2⟩
    ·exact az.alive xs h5 i hi
 | .ow _ _,_,_,hr,_,_=>by simp only[RD]at hr
 | .pt _ _ _,_,_,hr,_,_=>by simp only[RD]at hr
 | .pe _ _,_,_,hr,_,_=>by simp only[RD]at hr
 | .px _ _ _ _,_,_,hr,_,_=>by simp only[RD]at hr
 | .sa _ _ _ _ _,_,_,hr,_,_=>by simp only[RD]at hr
theorem bo.alive:∀(ds:List D) {cs:List C} {S:List Nat},bo h ds cs S→∀i∈S,∃bs,h.cells i=some bs
 | [],_,_,hr,i,hi=>by simp only[bo]at hr;rw[hr.2]at hi;cases hi
 |d::ds,cs,S,hr,i,hi=>by
  simp only[bo]at hr
  obtain⟨c,cr,S1,S2,h1,h2,h3,h4⟩:=hr
  rw[h2]at hi
  rcases List.mem_append.1 hi with hi|hi
  ·exact RD.alive d h3 i hi
  ·exact bo.alive ds h4 i hi
theorem az.alive:∀(xs:List (List D)) {e:Nat} {cs:List C} {S:List Nat},az h xs e cs S→∀i∈S,∃bs,h.cells i=some bs
 | [],_,_,_,hr,i,hi=>by simp only[az]at hr;rw[hr.2]at hi;cases hi
 |x::xs,e,cs,S,hr,i,hi=>by
  simp only[az]at hr
  obtain⟨c1,c2,S1,S2,h1,h2,h3,h4,h5⟩:=hr
  rw[h2]at hi
  rcases List.mem_append.1 hi with hi|hi
  ·exact bo.alive x h4 i hi
  ·exact az.alive xs h5 i hi
end
end
section
variable {Γ:Cx} {γ:Gh} {f:UT} {st:St} {mf:Fr} {h h':H}
theorem Av.Le (hr:ax Γ γ f st mf h):∀ {es:List E} {ds:List D} {k v:Nat} {cs:List C},Av es ds→(∀k' e,lk k' (bb k v es).2=some e→lk k' st.es=some e)→aj (DC Γ γ st h) cs (bb k v es).1→
 ∃S,bo h ds cs S∧S.Nodup∧∀i∈S,∃k' e,k≤k'∧k' < k+dt es∧lk k' st.es=some e∧i∈γ.w k'++γ.u k'
 | [],[],k,v,cs,_,_,hc=>by
   cases cs with
   |nil=>exact⟨[],by simp[bo],by simp,fun i hi=>by cases hi⟩
   |cons c cs=>simp only[bb]at hc;exact hc.elim
 | .e (.o dp t xs)::es,ds,k,v,cs,he,hL,hc=>by
   cases ds with
   |nil=>exact he.elim
   |cons d ds=>
   cases d <;>simp only[Av]at he
   obtain⟨rfl,rfl,he⟩:=he
   simp only[bb]at hc hL
   match cs,hc with
   |c::cs,hc=>
    have hl:=hL k _ Jh
    obtain⟨S,q1,q2,q3⟩:=Av.Le hr (k:=k+1) (v:=v+1) he (fun k' e hk=>hL k' e (by have:=(mM hk).2.1;rw[aD,if_neg (by omega)];exact hk)) hc.2
    have hcc:=hc.1.2 _ _ _ _ hl
    obtain⟨_,hen⟩:=hr.en _ _ hl
    have hnd:=(hr.nd _ _ hl).1
    have h1:RD h (.sl xs) c (γ.w k++γ.u k):=by
     rw[hcc]
     rcases hen with⟨rfl,w1,w2,w3⟩|⟨id,ty,ez,bs,S0,k1,k2,k3,k4,k5,k6,k7,k8⟩
     ·rw[w1,w2];exact iH.2 (.inl ⟨rfl,rfl,w3⟩)
     ·rw[k3,k8,if_pos rfl,k2]
      refine iH.2 (.inr ⟨id,0,ez,bs,S0,rfl,c8 k4,by omega,rfl,?_⟩)
      rw[List.drop_zero,←k5,List.take_length]
      exact k6
    refine⟨(γ.w k++γ.u k)++S,?_,?_,fun i hi=> ?_⟩
    ·simp only[bo];exact⟨c,cs,_,S,rfl,rfl,h1,q1⟩
    ·refine List.nodup_append.2 ⟨hnd,q2,fun a ha b hb e=> ?_⟩
     subst e
     obtain⟨k',e',r1,r2,r3,r4⟩:=q3 a hb
     exact hr.dj k k' _ e' (by omega) hl r3 a ha r4
    ·rcases List.mem_append.1 hi with hi|hi
     ·exact⟨k,_,Nat.le_refl _,by simp only[dt];omega,hl,hi⟩
     ·obtain⟨k',e',r1,r2,r3,r4⟩:=q3 i hi
      exact⟨k',e',by omega,by simp only[dt];omega,r3,r4⟩
 | .e (.p d)::es,ds,k,v,cs,he,hL,hc=>by
   cases ds with
   |nil=>cases d <;>exact he.elim
   |cons d' ds=>
   simp only[bb]at hc hL
   match cs,hc with
   |c::cs,hc=>
    have fin:∀(d0:D),RD h d0 c []→Av es ds→∃S,bo h (d0::ds) (c::cs) S∧S.Nodup∧∀i∈S,∃k' e,k≤k'∧k' < k+dt (.e (.p d)::es)∧lk k' st.es=some e∧i∈γ.w k'++γ.u k':=by
     intro d0 h1 he
     obtain⟨S,q1,q2,q3⟩:=Av.Le hr (k:=k+1) (v:=v+1) he hL hc.2
     refine⟨S,?_,q2,fun i hi=> ?_⟩
     ·simp only[bo];exact⟨c,cs,[],S,rfl,rfl,h1,q1⟩
     ·obtain⟨k',e',r1,r2,r3,r4⟩:=q3 i hi
      exact⟨k',e',by omega,by simp only[dt];omega,r3,r4⟩
    by_cases hn:d= .nils
    ·subst hn
     have h1:c= .nils:=by
      obtain⟨S0,h2,_⟩:=hc.1
      simp only[RD]at h2
      exact h2.1
     cases d' <;>simp only[Av]at he <;>first|(exact absurd he.2.1 (by simp[D.leaf]))|skip
     obtain⟨rfl,he⟩:=he
     exact fin _ (iH.2 (.inl ⟨rfl,rfl, .inl h1⟩)) he
    ·have he':d=d'∧d.leaf=true∧Av es ds:=by
      cases d <;>first|exact absurd rfl hn|(cases d' <;>simpa only[Av]using he)
     obtain⟨rfl,hlf,he'⟩:=he'
     have:∃S,RD h d c S:=by
      cases d <;>simp[D.leaf]at hlf <;>exact⟨_,hc.1.choose_spec.1⟩
     obtain⟨S0,h2⟩:=this
     exact fin d (h2.KS hlf) he'
 | .pt ty xs::es,ds,k,v,cs,he,_,_=>by cases ds <;>exact he.elim
def I1:List (Bool×List E)→List (Ty×Tv)→Prop
 | [],[]=>True
 |(g,es)::rs,(T,w)::ts=>g=T.agg∧Av es (enc T w)∧aF T w∧I1 rs ts
 |_,_=>False
def DE (h:H):List (Ty×Tv)→List (Bool×List C)→List Nat→Prop
 | [],css,S=>css= []∧S= []
 |(T,w)::ts,css,S=>∃cs cr S1 S2,css=(T.agg,cs)::cr∧S=S1++S2∧Rp h T cs w S1∧DE h ts cr S2
theorem I1.rp (hr:ax Γ γ f st mf h):∀ {rs:List (Bool×List E)} {ts:List (Ty×Tv)} {k v:Nat} {css:List (Bool×List C)},I1 rs ts→(∀k' e,lk k' (aZ k v rs).2=some e→lk k' st.es=some e)→aj (DG Γ γ st h) css (aZ k v rs).1→
 ∃S,DE h ts css S∧S.Nodup∧∀i∈S,(∃bs,h.cells i=some bs)∧∃k' e,k≤k'∧k' < k+cF rs∧lk k' st.es=some e∧i∈γ.w k'++γ.u k'
 | [],[],k,v,css,_,_,hc=>by
   cases css with
   |nil=>exact⟨[],⟨rfl,rfl⟩,by simp,fun i hi=>by cases hi⟩
   |cons c cs=>simp only[aZ]at hc;exact hc.elim
 | [],_::_,_,_,_,he,_,_=>he.elim
 |_::_,[],_,_,_,he,_,_=>he.elim
 |(g,es)::rs,(T,w)::ts,k,v,css,he,hL,hc=>by
  obtain⟨rfl,h1,h2,h3⟩:=he
  simp only[aZ]at hc hL
  match css,hc with
  |(g',cs)::css,hc=>
   obtain⟨⟨hg,hc1⟩,hc2⟩:=hc
   simp only at hg hc1
   subst hg
   obtain⟨S1,a1,a2,a3⟩:=Av.Le hr h1 (fun k' e hk=>hL k' e (by rw[bG,hk])) hc1
   obtain⟨S2,b1,b2,b3⟩:=I1.rp hr h3 (fun k' e hk=>hL k' e (by
    have:=(ry hk).2.1
    rw[bG]
    cases hx:lk k' (bb k v es).2 with
    |none=>exact hk
    |some e'=>have:=(mM hx).2.2;omega)) hc2
   refine⟨S1++S2,⟨cs,css,S1,S2,rfl,rfl,bo.rp T h2 a1,b1⟩,List.nodup_append.2 ⟨a2,b2,fun a ha b hb e=> ?_⟩,fun i hi=> ?_⟩
   ·subst e
    obtain⟨k1,e1,r1,r2,r3,r4⟩:=a3 a ha
    obtain⟨_,k2,e2,q1,q2,q3,q4⟩:=b3 a hb
    exact hr.dj k1 k2 e1 e2 (by omega) r3 q3 a r4 q4
   ·rcases List.mem_append.1 hi with hi|hi
    ·obtain⟨k1,e1,r1,r2,r3,r4⟩:=a3 i hi
     exact⟨bo.alive _ a1 i hi,k1,e1,r1,by simp only[cF];omega,r3,r4⟩
    ·obtain⟨b0,k1,e1,r1,r2,r3,r4⟩:=b3 i hi
     exact⟨b0,k1,e1,by omega,by simp only[cF];omega,r3,r4⟩
def Ch (as:List (Ty×Tv)):List (Bool×List D):=as.map fun a=>(a.1.agg,enc a.1 a.2)
def dm (h:H):List (Ty×Tv)→List (Bool×List C)→Prop
 | [],ms=>ms= []
 |(T,v)::as,ms=>∃cs mr,ms=(T.agg,cs)::mr∧(∃S,Rp h T cs v S)∧dm h as mr
theorem dm.all:∀ {as:List (Ty×Tv)} {ms:List (Bool×List C)},dm h as ms→aj (fun(m:Bool×List C) (a:Bool×List D)=>m.1=a.1∧aj (fun c d'=>∃S,RD h d' c S∧∀i∈S,i < h.length) m.2 a.2) ms (Ch as)
 | [],ms,ha=>by rw[show ms= []from ha];trivial
 |(T,v)::as,ms,ha=>by
  obtain⟨cs,mr,rfl,⟨S,h1⟩,h2⟩:=ha
  refine⟨⟨rfl,?_⟩,dm.all h2⟩
  have key:∀ {ds:List D} {cs:List C} {S:List Nat},bo h ds cs S→aj (fun c d'=>∃S,RD h d' c S∧∀i∈S,i < h.length) cs ds:=by
   intro ds
   induction ds with
   |nil=>intro cs S hr;simp only[bo]at hr;rw[hr.1];trivial
   |cons d ds ih=>
    intro cs S hr
    simp only[bo]at hr
    obtain⟨c,cr,S1,S2,rfl,rfl,h3,h4⟩:=hr
    exact⟨⟨S1,h3,RD.lt d h3⟩,ih h4⟩
  exact key (Rp.rd T h1)
theorem E8:∀(ds:List D),(∀d∈ds,Hi d=true)→zm (ds.map E.p)=true
 | [],_=>rfl
 |d::ds,h=>by simp only[List.map_cons,zm,Cb,h d (by simp),E8 ds fun d' hd=>h d' (by simp[hd]),Bool.and_self]
theorem bo.pu {h:H}:∀ {ds:List D} {cs:List C} {S:List Nat},bo h ds cs S→∀d∈ds,Hi d=true
 | [],_,_,_,d,hd=>by cases hd
 |d0::ds,cs,S,hr,d,hd=>by
  simp only[bo]at hr
  obtain⟨c,cr,S1,S2,rfl,rfl,h3,h4⟩:=hr
  rcases List.mem_cons.1 hd with rfl|hd
  ·cases d <;>first|rfl|(simp only[RD]at h3)
  ·exact h4.pu d hd
theorem dm.cl:∀ {as:List (Ty×Tv)} {ms:List (Bool×List C)},dm h as ms→vc (aJ (Ch as))=true
 | [],_,_=>rfl
 |(T,v)::as,ms,ha=>by
  obtain⟨cs,mr,rfl,⟨S,h1⟩,h2⟩:=ha
  have:=dm.cl h2
  unfold Ch aJ at this⊢
  simp only[List.map_cons,vc,E8 _ (Rp.rd T h1).pu,this,Bool.and_self]
theorem VC.wc {cd:Nat→Option AF} {g:Nat} {as:List (Ty×Tv)} {Q:List (Bool×List E)→List E→Prop} (hc:VC cd g (aJ (Ch as)) Q) {ms:List (Bool×List C)} (ha:dm h as ms) {ts:List (Ty×Tv)} (hq:∀rs,Q rs []→I1 rs ts):
 WC cd g ms h (fun r h'=>∃t css S,h'=h++t∧r=gP css∧DE h' ts css S∧e6 h' S∧∀i∈S,h.length≤i):=by
 have hb:=AZ (h:=h) (ar:=fun i=>i < h.length) (fun i hi=>hi) ha.cl ha.all
 refine(hc ⟨h,fun i=>i < h.length,[],[]⟩ ms rfl hb).mono fun r h' ⟨rs,ps,css,q,hcl,hv,hb'⟩=> ?_
 have hb':=hb' 0 0
 rw[mD]at hb'
 have hps:ps= []:=by
  obtain⟨γb,_,hcc⟩:=hb'
  rw[iy]at hcc
  have:=(aj.snoc hcc).2.2.length
  rw[lg]at this
  exact List.eq_nil_of_length_eq_zero this.symm
 subst hps
 obtain⟨γb,hB,hcc⟩:=hb'
 rw[iy,vU]at hB hcc
 simp only[bb,List.append_nil,dt,Nat.add_zero]at hB hcc
 obtain⟨S,k1,k2,k3⟩:=I1.rp hB (hq rs q) (fun _ _ h=>h) (aj.snoc hcc).1
 have hlo:∀i∈S,h.length≤i:=fun i hi=>by
  obtain⟨_,k',e,_,_,hl,hm⟩:=k3 i hi
  rcases(hB.nd k' e hl).2 i hm with h1|h1
  ·cases h1
  ·exact h1
 refine⟨h'.drop h.length,css,S,?_,hv,k1,⟨k2,fun i hi=> ?_⟩,hlo⟩
 ·have:h'.take h.length=h:=by
   apply List.ext_getElem?
   intro i
   rw[List.getElem?_take]
   split
   ·rename_i hi;exact hB.base i hi (by simp)
   ·rw[List.getElem?_eq_none (by omega)]
  conv=>rhs;lhs;rw[←this]
  exact(List.take_append_drop _ _).symm
 ·obtain⟨⟨bs,h1⟩,_⟩:=k3 i hi
  have h2:=hB.own i
  unfold H.cells at h1
  split at h1
  ·rename_i ty cs hx;exact⟨ty,cs,hx⟩
  ·rename_i cs hx;exact absurd hx (h2 cs (.inr (hlo i hi)))
  ·simp at h1
end
theorem LO {α:Type} {a:α} {l:List α}:(a::l)[0]? =some a:=rfl
theorem LJ {α:Type} {a b:α} {l:List α}:(a::b::l)[1]? =some b:=rfl
theorem Lt {α:Type} {a b c:α} {l:List α}:(a::b::c::l)[2]? =some c:=rfl
theorem LV {α:Type} {a b c d:α} {l:List α}:(a::b::c::d::l)[3]? =some d:=rfl
theorem Kf:(∀ {a:Bool×List D} {l},(a::l)[0]? =some a)∧(∀ {a b:Bool×List D} {l},(a::b::l)[1]? =some b)∧(∀ {a b c:Bool×List D} {l},(a::b::c::l)[2]? =some c)∧(∀ {a b c d:Bool×List D} {l},(a::b::c::d::l)[3]? =some d)∧K0=4096:=⟨LO,LJ,Lt,LV,rfl⟩
theorem VW:type_of% (And.intro (And.intro (And.intro (@VE) (@Ls)) (And.intro (@VP) (@VB))) (And.intro (And.intro (@Kf) (@KU)) (And.intro (@bl.eq_1) (@it.eq_1)))):=And.intro (And.intro (And.intro (@VE) (@Ls)) (And.intro (@VP) (@VB))) (And.intro (And.intro (@Kf) (@KU)) (And.intro (@bl.eq_1) (@it.eq_1)))
end Go.Eng
namespace Go.Eng
theorem Rp.bool {h:H} {cs:List C} {v:Tv} {S:List Nat} (hr:Rp h .bool cs v S):∃b,cs= [.bool b]∧v= .b b∧S= []:=by unfold Rp at hr;exact hr
theorem Rp.str {h:H} {cs:List C} {v:Tv} {S:List Nat} (hr:Rp h .str cs v S):∃s,cs= [.str s]∧v= .s s∧S= []∧s.size≤maxLen:=by unfold Rp at hr;exact hr
theorem aF.int {k:IntKind} {v:Tv} (h:aF (.int k) v):∃n,v= .i n∧k.min≤n∧n≤k.max:=by cases v <;>simp only[aF]at h;exact⟨_,rfl,h⟩
theorem aF.bool {v:Tv} (h:aF .bool v):∃b,v= .b b:=by cases v <;>simp only[aF]at h;exact⟨_,rfl⟩
theorem aF.str {v:Tv} (h:aF .str v):∃s,v= .s s∧s.size≤maxLen:=by cases v <;>simp only[aF]at h;exact⟨_,rfl,h⟩
theorem aF.sl {t:Ty} {v:Tv} (h:aF (.sl t) v):∃xs,v= .l xs∧xs.length≤maxLen∧∀x∈xs,aF t x:=by cases v <;>simp only[aF]at h;exact⟨_,rfl,h⟩
theorem aF.st {ts:List Ty} {v:Tv} (h:aF (.st ts) v):∃vs,v= .r vs∧df ts vs:=by cases v <;>simp only[aF]at h;exact⟨_,rfl,h⟩
theorem df.step {t:Ty} {ts:List Ty} {vs:List Tv} (h:df (t::ts) vs):∃v vr,vs=v::vr∧aF t v∧df ts vr:=by cases vs <;>simp only[df]at h;exact⟨_,_,rfl,h⟩
theorem df.fin {vs:List Tv} (h:df [] vs):vs= []:=by cases vs <;>simp only[df]at h;rfl
theorem nE {α:Type} {f:α→Tv} {P:Tv→Prop} (hf:∀v,P v→∃x,v=f x):∀ {xs:List Tv},(∀x∈xs,P x)→∃ys:List α,xs=ys.map f
 | [],_=>⟨[],rfl⟩
 |x::xs,h=>by
  obtain⟨y,rfl⟩:=hf x (h _ (by simp))
  obtain⟨ys,rfl⟩:=nE hf (xs:=xs) fun x hx=>h x (by simp[hx])
  exact⟨y::ys,rfl⟩
def J7 (b:UInt8):Tv:= .i (b.toNat:Int)
def yW (x:Bytes):Tv:= .l (x.map J7)
def rT (l:List Bytes):Tv:= .l (l.map yW)
def Mk (n:Int):Tv:= .i n
def IF (l:List Int):Tv:= .l (l.map Mk)
theorem I0 {v:Tv} (h:aF (.int .u8) v):∃b,v=J7 b:=by
 obtain⟨n,rfl,h1,h2⟩:=h.int
 have h1:0≤n:=h1
 have h2:n≤255:=h2
 refine⟨UInt8.ofNat n.toNat,?_⟩
 simp only[J7,UInt8.toNat_ofNat',Nat.reducePow]
 congr 1
 omega
theorem f9 {v:Tv} (h:aF (.sl (.int .u8)) v):∃x,v=yW x:=by
 obtain⟨xs,rfl,_,h2⟩:=h.sl
 obtain⟨ys,rfl⟩:=nE (f:=J7) (P:=aF (.int .u8)) (fun v hv=>I0 hv) h2
 exact⟨ys,rfl⟩
theorem zG {v:Tv} (h:aF (.sl (.sl (.int .u8))) v):∃x,v=rT x:=by
 obtain⟨xs,rfl,_,h2⟩:=h.sl
 obtain⟨ys,rfl⟩:=nE (f:=yW) (P:=aF (.sl (.int .u8))) (fun v hv=>f9 hv) h2
 exact⟨ys,rfl⟩
theorem eL (x:Bytes):enc (.sl (.int .u8)) (yW x)= [.sl (bytes x)]:=by
 simp only[yW,enc,List.map_map,bytes]
 congr 2
theorem Hj (l:List Bytes):enc (.sl (.sl (.int .u8))) (rT l)= [.sl (l.map fun x=> [.sl (bytes x)])]:=by
 simp only[rT,enc,List.map_map]
 congr 2
 apply List.map_congr_left
 intro x _
 exact eL x
theorem FG (x:Bytes):wt (yW x)=x.length:=by
 have:∀x:Bytes,cQ (x.map J7)=0:=by
  intro x
  induction x with
  |nil=>rfl
  |cons b x ih=>simp[cQ,wt,J7,ih]
 simp[yW,wt,this]
theorem qL {α:Type} {f:α→Tv} {x:α}:∀ {l:List α},x∈l→wt (f x)≤cQ (l.map f)
 | [],h=>by cases h
 |y::l,h=>by
  simp only[List.map_cons,cQ]
  rcases List.mem_cons.1 h with rfl|h
  ·omega
  ·have:=qL (f:=f) h;omega
theorem Fa (xs:List Tv):wt (.l xs)=xs.length+cQ xs:=by simp[wt]
theorem GG (l:List Bytes):l.length≤wt (rT l)∧∀x∈l,x.length≤wt (rT l):=by
 unfold rT
 rw[Fa]
 refine⟨by simp,fun x hx=> ?_⟩
 have:=qL (f:=yW) hx
 rw[FG]at this
 omega
mutual
def Ty.fl:Ty→Bool
 | .sl _=>false
 | .st ts=>Ty.L8 ts
 |_=>true
def Ty.L8:List Ty→Bool
 | []=>true
 |t::ts=>t.fl && Ty.L8 ts
end
theorem m9 {cd:Nat→Option AF} {pd:List (Nat×Nat)} {R:List RV} {Q:List (Bool×List E)→List E→Prop} {k:List VK} {f:UT} {st:St} {ds:List Nat} {b:AC} {σ:Type} (f0:UT) (hf:b7 f ds=f0) {f2:UT} {st2:St} (hw:dB f0 st f2 st2) (f1:UT) (es0:List (Nat×En)) (h2:f2=f1) (he:I8 st2.es=es0)
 (jc:σ→List (Nat×U)) (ue:σ→List (Nat×En)) (J:σ→Nat→Prop) (s0:σ) (g0:Nat) (hu:f1=bN f1 (jc s0)) (hs:nh st2 (Cl es0 (ue s0))) (h0:J s0 g0)
 (round:∀s n g,J s g→VX cd pd R Q (.c b:: .stop (fun f' st'=>∃s' g',g' < g∧J s' g'∧b7 f' ds=bN f1 (jc s')∧nh st' (Cl es0 (ue s')))::k) (bN f1 (jc s)) ⟨n,Cl es0 (ue s)⟩):
 VX cd pd R Q (.c (.loop ds b)::k) f st:=by
 refine Dw (σ:=σ×Nat) (fun p=>bN f1 (jc p.1)) (fun p=>⟨p.2,Cl es0 (ue p.1)⟩) (fun p g=>J p.1 g) (s0,st2.nx) g0 h0 (by rw[hf];exact hw.trans (dB.of_eq (by rw[h2];exact hu) (Nat.le_refl _) hs)) (fun p g hJ=> ?_)
 exact(round p.1 p.2 g hJ).le (.c (.stop (fun f' st' ⟨s',g',h1,h2,h3,h4⟩=>⟨(s',st'.nx),g',h1,h2,dB.of_eq h3 (Nat.le_refl _) h4⟩) (AJ.refl k)))
end Go.Eng
namespace Go.Eng
section
variable {f:UT} {st:St}
def q9 (st:St) (k k':Nat) (o dp:Bool) (t:Option (Nat×Nat)) (xs:List (List D)):St:=⟨st.nx+1,(k', .sl st.nx o dp t xs)::gj [k] st.es⟩
theorem dB.Lu {s k k' v:Nat} {o dp:Bool} {t:Option (Nat×Nat)} {xs:List (List D)} (hs:UF f s= .val false [.ow k v]) (hl:lk k st.es=some (.sl v o dp t xs)) (hne:k'≠k):
 dB f st (UW f s (.val false [.ow k' st.nx])) (q9 st k k' o dp t xs):=by
 rintro Γ mf h ⟨γ,hr⟩
 have hlk:∀j,lk j (q9 st k k' o dp t xs).es=if j=k' then some (.sl st.nx o dp t xs)else if j=k then none else lk j st.es:=fun j=>by
  simp only[q9,aD,qH]
  split
  ·rfl
  ·by_cases h2:j=k
   ·subst h2;simp
   ·rw[if_neg h2,if_neg (by simpa using h2)]
 have hmain:ax Γ (γ.up k' (γ.c k) (γ.w k) (γ.u k)) f (q9 st k k' o dp t xs) mf h∧Mo Γ γ st h (γ.up k' (γ.c k) (γ.w k) (γ.u k)) (q9 st k k' o dp t xs) h:=by
  refine hr.Jq (N:=fun j=>j=k∨j=k') (Nat.le_succ _) (fun j hn=> ?_) (fun j e hn hj=> ?_) (fun _ _ _=>rfl) (fun j e hn hj i hi _ hp=> ?_) (fun _ _ _ _ _ _=>rfl)
   (fun j e hn hj=> ?_) (fun j e j' e' hn hjj hj hj' i hi=> ?_) (Nat.le_refl _) (fun _ _ _=>rfl) (fun hm j e hn hj=> ?_) hr.own
  ·simp only[not_or]at hn
   rw[hlk,if_neg hn.2,if_neg hn.1]
   exact⟨rfl,by rw[Gh.DM _ _ _ _ hn.2],by rw[Gh.ic _ _ _ _ hn.2],by rw[Gh.mY _ _ _ _ hn.2]⟩
  ·rw[hlk]at hj
   split at hj
   ·simp only[Option.some.injEq]at hj;subst hj;exact .inl (Nat.le_refl _)
   ·rename_i h1
    rw[if_pos (hn.resolve_right h1)]at hj
    cases hj
  ·rw[hlk]at hj
   split at hj
   ·rename_i h1
    subst h1
    rw[Gh.vt]at hi
    exact hp.2 k _ hl hi
   ·rename_i h1
    rw[if_pos (hn.resolve_right h1)]at hj
    cases hj
  ·rw[hlk]at hj
   split at hj
   ·rename_i h1
    subst h1
    rw[Gh.vt,Gh.xM]
    exact hr.nd k _ hl
   ·rename_i h1
    rw[if_pos (hn.resolve_right h1)]at hj
    cases hj
  ·rw[hlk]at hj
   split at hj
   ·rename_i h1
    subst h1
    rw[Gh.vt,Gh.xM]at hi
    rw[hlk,if_neg hjj]at hj'
    rw[Gh.ic _ _ _ _ hjj,Gh.mY _ _ _ _ hjj]
    split at hj'
    ·cases hj'
    ·rename_i h2
     exact hr.dj k j' _ e' (fun e=>h2 e.symm) hl hj' i hi
   ·rename_i h1
    rw[if_pos (hn.resolve_right h1)]at hj
    cases hj
  ·rw[hlk]at hj
   split at hj
   ·rename_i h1
    subst h1
    simp only[Option.some.injEq]at hj
    subst hj
    have he:=hr.en k _ hl
    have hpr:∀i,i < h.length→PR Γ γ st i→PR Γ (γ.up j (γ.c k) (γ.w k) (γ.u k)) (q9 st k j o dp t xs) i:=fun i hi hp=>(hm.cell i hi hp).2
    cases o with
    |true=>
     obtain⟨_,he⟩:=he
     refine⟨Nat.lt_succ_self _,?_⟩
     rw[Gh.EB,Gh.vt,Gh.xM]
     rcases he with he|⟨id,ty,ez,bs,S,k1,k2,k3,k4,k5,k6,k7,k8⟩
     ·exact .inl he
     ·exact .inr ⟨id,ty,ez,bs,S,k1,k2,k3,k4,k5,k6,fun i hi=>hpr i (az.lt xs k6 i hi) (k7 i hi),k8⟩
    |false=>
     obtain⟨_,h1,h2,S,h3,h4⟩:=he
     refine⟨Nat.lt_succ_self _,?_⟩
     rw[Gh.EB,Gh.vt,Gh.xM]
     exact⟨h1,h2,S,h3,fun i hi=>hpr i (RD.lt _ h3 i hi) (h4 i hi)⟩
   ·rename_i h1
    rw[if_pos (hn.resolve_right h1)]at hj
    cases hj
 have hsl:=hr.slot s
 rw[hs]at hsl
 obtain⟨c,h1,h2⟩:=UR.one hsl
 refine⟨_,{hmain.1 with fr:=fun j=> ?_}⟩
 unfold UW
 rw[UT.aW]
 split
 ·rename_i hk
  subst hk
  have:PT.get mf (K.of s)= .val false [c]:=h1
  rw[this]
  refine UR.v1 ⟨Nat.lt_succ_self _,fun _ _ _ _ _=> ?_⟩
  rw[Gh.EB]
  exact h2.2 _ _ _ _ hl
 ·exact hmain.1.fr j
theorem dB.Mg (d:D):dB f st f (ib st d):=fun Γ mf h ⟨γ,hr⟩=>by
 obtain⟨γ',h1,_⟩:=Dd hr d
 exact⟨γ',h1⟩
end
theorem ed {cd:Nat→Option AF} {pd:List (Nat×Nat)} {R:List RV} {Q:List (Bool×List E)→List E→Prop} {k:List VK} {f:UT} {st:St} {ds:List Nat} {b:AC} {σ:Type} (f1:UT) (hf:b7 f ds=f1)
 (jc:σ→List (Nat×U)) (es:σ→List (Nat×En)) (J:σ→Nat→Prop) (s0:σ) (g0:Nat) (hu:f1=bN f1 (jc s0)) (hs:nh st (es s0)) (h0:J s0 g0)
 (round:∀s n g,J s g→∀P:UT→St→Prop,(∀(s':σ) (g':Nat) (f':UT) (st':St),g' < g→J s' g'→b7 f' ds=bN f1 (jc s')→nh st' (es s')→P f' st')→VX cd pd R Q (.c b:: .stop P::k) (bN f1 (jc s)) ⟨n,es s⟩):
 VX cd pd R Q (.c (.loop ds b)::k) f st:=
 iK f1 hf jc es J s0 g0 hu hs h0 fun s n g h=>round s n g h _ fun s' g' f' st' a b c d=>⟨s',g',a,b,c,d⟩
theorem ef {cd:Nat→Option AF} {pd:List (Nat×Nat)} {R:List RV} {Q:List (Bool×List E)→List E→Prop} {k:List VK} {f:UT} {st:St} {ds:List Nat} {b:AC} {σ:Type} (f1:UT) (es0:List (Nat×En)) (hf:b7 f ds=f1) (he:I8 st.es=es0)
 (jc:σ→List (Nat×U)) (ue:σ→List (Nat×En)) (J:σ→Nat→Prop) (s0:σ) (g0:Nat) (hu:f1=bN f1 (jc s0)) (hs:nh st (Cl es0 (ue s0))) (h0:J s0 g0)
 (round:∀s n g,J s g→∀P:UT→St→Prop,(∀(s':σ) (g':Nat) (f':UT) (st':St),g' < g→J s' g'→b7 f' ds=bN f1 (jc s')→nh st' (Cl es0 (ue s'))→P f' st')→VX cd pd R Q (.c b:: .stop P::k) (bN f1 (jc s)) ⟨n,Cl es0 (ue s)⟩):
 VX cd pd R Q (.c (.loop ds b)::k) f st:=ed f1 hf jc (fun s=>Cl es0 (ue s)) J s0 g0 hu hs h0 round
theorem VQ:(∀al,nC al=cF (aJ al))∧(∀k v,aR k v []=([],[]))∧(∀k v d r,aR k v (.p d::r)=(d::(aR (k+1) (v+1) r).1,(aR (k+1) (v+1) r).2))∧
 (∀k v dp t xs r,aR k v (.o dp t xs::r)=(.ow k v::(aR (k+1) (v+1) r).1,(k, .sl v true dp t xs)::(aR (k+1) (v+1) r).2))∧(∀k,cK k=1099511627776+4096 * k)∧
 (∀st d rs k0 v0 ty xs us,zF st d rs k0 v0 ty xs us=⟨st.nx+cF rs+(1+xs.length),(k0, .pt v0 ty (aR (cK k0) (st.nx+cF rs+1) xs).1)::((aR (cK k0) (st.nx+cF rs+1) xs).2++((aZ (cP d) st.nx rs).2++gj us st.es))⟩)∧
 (∀us,gj us []= [])∧(∀us k e r,gj us ((k,e)::r)=if us.elem k then gj us r else(k,e)::gj us r)∧
 (∀st d,ib st d=(match d with| .ow k v=>(match st.ey k v with|some (_,_,t,xs)=>st.put k (.sl v false false t xs)|none=>st)|_=>st))∧
 (∀st us,Es st us=us.all fun k=>match lk k st.es with|some (.sl _ _ dp _ xs)=> !dp||flat xs|_=>true):=
 ⟨fun _=>rfl,fun _ _=>rfl,fun _ _ _ _=>rfl,fun _ _ _ _ _ _=>rfl,fun _=>rfl,fun _ _ _ _ _ _ _ _=>rfl,fun _=>rfl,fun _ _ _ _=>rfl,fun _ d=>by cases d <;>rfl,fun _ _=>rfl⟩
theorem VV:type_of% (And.intro @VW @VQ):=And.intro @VW @VQ
section
variable {cd:Nat→Option AF} {pd:List (Nat×Nat)} {R:List RV} {Q:List (Bool×List E)→List E→Prop} {k:List VK} {f:UT} {st:St} {d g:Nat} {l:List IT}
theorem ay {q:Bool} {vs as:List (Bool×List D)} {rs:List (Bool×List E)} (hc:VC cd g (aJ as) (fun r _=>r=rs))
 (hk:VX cd pd R Q (.c (.ops l)::k) (qR f st d rs) (ld st d rs)) (ha:fZ st vs=some as:=by first|rfl|(simp[VW] <;>repeat' constructor)) (hn:A6 rs=true:=by rfl):J9 cd pd R Q d g q l k f st (some vs):=ah hc ha hn hk
theorem oJ {vs:List (Bool×List D)} {as as':List (Bool×List E)} {us:List Nat} {k0 v0 ty0 ty:Nat} {ds0:List D} {rs:List (Bool×List E)} {ys:List E0} (hc:VC cd g as' (fun r p=>r=rs∧p= [.pt ty ys]))
 (hk:VX cd pd R Q (.c (.ops l)::k) (qR f (cg st vs) d rs) (zF (cg st vs) d rs k0 v0 ty ys us)) (he:eD (cg st vs) vs []=some (as,us):=by simp(disch:=omega) [VV];exact⟨rfl,rfl⟩) (hn:CM as=as':=by rfl) (hp:B8 vs= [(k0,v0)]:=by rfl) (hl:(cg st vs).ptr k0 v0=some (ty0,ds0):=by simp(disch:=omega) [VV];exact⟨rfl,rfl⟩) (hu:us.elem k0=true:=by simp(disch:=omega) [VV]) (ho:Es (cg st vs) us=true:=by simp(disch:=omega) [VV])
 (n1:k0 < cP d∨cP d+cF rs≤k0:=by simp(disch:=omega) [VV]) (n2:k0 < 1099511627776:=by omega) (n3:cP d+cF rs≤1099511627776:=by simp(disch:=omega) [VV]):J9 cd pd R Q d g false l k f st (some vs):=KJ hc he hn hp hl hu ho n1 n2 n3 hk
end
end Go.Eng
