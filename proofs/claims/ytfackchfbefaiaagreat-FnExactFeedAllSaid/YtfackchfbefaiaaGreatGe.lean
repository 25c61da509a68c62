import Derived.Test.YtfackchfbefaiaaGreatGc
import Derived.Test.YtfackchfbefaiaaGreatGd
set_option linter.unusedVariables false
set_option linter.unusedSimpArgs false
namespace Go.Eng
def cK (k:Nat):Nat:=1099511627776+4096 * k
def i3:List Nat→List (Nat×En)→List (Nat×En)
 |_,[]=> []
 |us,(k,e)::r=>if us.elem k then i3 us r else(k,e)::i3 us r
def ze (st:St) (d:Nat) (rs:List (Bool×List E)) (k0 v0 ty:Nat) (xs:List E0) (us:List Nat):St:=
 ⟨st.nx+cT rs+(1+xs.length),(k0, .pt v0 ty (aW (cK k0) (st.nx+cT rs+1) xs).1)::((aW (cK k0) (st.nx+cT rs+1) xs).2++((bd (dk d) st.nx rs).2++i3 us st.es))⟩
theorem rZ (us:List Nat) (k:Nat):∀l:List (Nat×En),lk k (i3 us l)=if us.elem k then none else lk k l
 | []=>by simp[i3,lk]
 |(k',e)::r=>by
  simp only[i3]
  split
  ·rename_i hk
   rw[rZ us k r,ay]
   split
   ·rfl
   ·rename_i hn
    rw[if_neg (fun e=>hn (by rw[e];exact hk))]
  ·rename_i hk
   rw[ay,ay,rZ us k r]
   split
   ·rename_i e;subst e;rw[if_neg hk]
   ·rfl
def TK (ρ:Nat→Nat) (d d':D):Prop:=
 match d,d' with
 | .ow k v, .ow k' v'=>v'=v∧ρ k'=k
 | .pt k v o, .pt k' v' o'=>v'=v∧o'=o∧ρ k'=k
 |d,d'=>d'=d
theorem uf {ρ:Nat→Nat} {K K':Nat}:∀ {xs:List E0} {j v:Nat},zd xs=true→(∀i,i < j+xs.length→ρ (K'+i)=K+i)→ah (TK ρ) (aW (K+j) v xs).1 (aW (K'+j) v xs).1∧∀i,lk (K'+i) (aW (K'+j) v xs).2=lk (K+i) (aW (K+j) v xs).2
 | [],j,v,_,_=>by simp[aW,lk,ah]
 | .p d::r,j,v,hc,hρ=>by
   simp only[zd,Bool.and_eq_true]at hc
   obtain⟨h1,h2⟩:=uf (xs:=r) (j:=j+1) (v:=v+1) hc.2 (fun i hi=>hρ i (by simp only[List.length_cons];omega))
   simp only[aW,Nat.add_assoc]at h1 h2⊢
   refine⟨⟨?_,h1⟩,h2⟩
   cases d <;>first|rfl|(simp[HQ]at hc)
 | .o dp t xs::r,j,v,hc,hρ=>by
   obtain⟨h1,h2⟩:=uf (xs:=r) (j:=j+1) (v:=v+1) hc (fun i hi=>hρ i (by simp only[List.length_cons];omega))
   simp only[aW,Nat.add_assoc]at h1 h2⊢
   refine⟨⟨⟨rfl,hρ j (by simp only[List.length_cons];omega)⟩,h1⟩,fun i=> ?_⟩
   rw[ay,ay]
   by_cases hi:i=j
   ·subst hi;rw[if_pos rfl,if_pos rfl]
   ·rw[if_neg (by omega),if_neg (by omega)];exact h2 i
theorem ah.refl {α:Type} {R:α→α→Prop} (h:∀x,R x x):∀l:List α,ah R l l
 | []=>trivial
 |x::l=>⟨h x,ah.refl h l⟩
theorem ny:∀ {xs:List E0} {k v k' w:Nat} {dp t ys},lk k' (aW k v xs).2≠some (.sl w false dp t ys)
 | [],k,v,k',w,dp,t,ys,hl=>by simp[aW,lk]at hl
 | .p d::r,k,v,k',w,dp,t,ys,hl=>by simp only[aW]at hl;exact ny hl
 | .o dp' t' xs'::r,k,v,k',w,dp,t,ys,hl=>by
   simp only[aW,ay]at hl
   split at hl
   ·simp at hl
   ·exact ny hl
theorem xg:∀ {es:List E} {k v k' w:Nat} {dp t ys},lk k' (aQ k v es).2≠some (.sl w false dp t ys)
 | [],k,v,k',w,dp,t,ys,hl=>by simp[aQ,lk]at hl
 | .e x::r,k,v,k',w,dp,t,ys,hl=>by
   rw[iS]at hl
   rcases eE hl with hl|hl
   ·exact ny hl
   ·exact xg hl
 | .pt ty xs'::r,k,v,k',w,dp,t,ys,hl=>by
   simp only[aQ,ay]at hl
   split at hl
   ·simp at hl
   ·rcases eE hl with hl|hl
    ·exact ny hl
    ·exact xg hl
theorem DY:∀ {rs:List (Bool×List E)} {k v k' w:Nat} {dp t ys},lk k' (bd k v rs).2≠some (.sl w false dp t ys)
 | [],k,v,k',w,dp,t,ys,hl=>by simp[bd,lk]at hl
 |(g,es)::r,k,v,k',w,dp,t,ys,hl=>by
  simp only[bd]at hl
  rcases eE hl with hl|hl
  ·exact xg hl
  ·exact DY hl
def RG (a b:Nat):D→Prop
 | .ow k _=>a≤k∧k < b
 | .pt k _ _=>a≤k∧k < b
 |_=>True
theorem RG.mono {a b a' b':Nat} {d:D} (h:RG a b d) (h1:a'≤a) (h2:b≤b'):RG a' b' d:=by
 cases d <;>simp only[RG]at h⊢ <;>omega
theorem K4.mono {P Q:D→Prop} {e:En} (h:K4 P e) (hpq:∀d,P d→Q d):K4 Q e:=by
 cases e with
 |sl=>trivial
 |pt v ty ds=>exact fun d hd=>hpq d (h d hd)
theorem MX {a b:Nat} {d:D} (h:HQ d=true):RG a b d:=by cases d <;>simp[HQ]at h <;>trivial
theorem my:∀ {xs:List E0} {k v:Nat},zd xs=true→(∀d∈(aW k v xs).1,RG k (k+xs.length) d)∧∀k' e,lk k' (aW k v xs).2=some e→∃w dp t ys,e= .sl w true dp t ys
 | [],k,v,_=>by simp[aW,lk]
 | .p d::r,k,v,h=>by
   simp only[zd,Bool.and_eq_true]at h
   obtain⟨h1,h2⟩:=my (xs:=r) (k:=k+1) (v:=v+1) h.2
   simp only[aW]
   refine⟨fun d' hd=> ?_,h2⟩
   rcases List.mem_cons.1 hd with rfl|hd
   ·exact MX h.1
   ·exact(h1 d' hd).mono (by omega) (by simp only[List.length_cons];omega)
 | .o dp t xs::r,k,v,h=>by
   obtain⟨h1,h2⟩:=my (xs:=r) (k:=k+1) (v:=v+1) h
   simp only[aW]
   refine⟨fun d' hd=> ?_,fun k' e hl=> ?_⟩
   ·rcases List.mem_cons.1 hd with rfl|hd
    ·simp only[RG,List.length_cons];omega
    ·exact(h1 d' hd).mono (by omega) (by simp only[List.length_cons];omega)
   ·rw[ay]at hl
    split at hl
    ·simp at hl;exact⟨_,_,_,_,hl.symm⟩
    ·exact h2 k' e hl
theorem yL:∀ {es:List E} {k v:Nat},lI es=true→(∀d∈(aQ k v es).1,RG k (k+cA es) d)∧∀k' e,lk k' (aQ k v es).2=some e→K4 (RG k (k+cA es)) e
 | [],k,v,_=>by simp[aQ,lk]
 | .e x::r,k,v,h=>by
   simp only[lI,Bool.and_eq_true]at h
   obtain⟨h1,h2⟩:=yL (es:=r) (k:=k+1) (v:=v+1) h.2
   obtain⟨q1,q2⟩:=my (xs:= [x]) (k:=k) (v:=v) h.1
   rw[iS]
   simp only[cA]
   refine⟨fun d' hd=> ?_,fun k' e hl=> ?_⟩
   ·rcases List.mem_append.1 hd with hd|hd
    ·exact(q1 d' hd).mono (by omega) (by simp only[List.length_cons,List.length_nil];omega)
    ·exact(h1 d' hd).mono (by omega) (by omega)
   ·rcases eE hl with hl|hl
    ·obtain⟨w,dp,t,ys,rfl⟩:=q2 k' e hl;trivial
    ·exact(h2 k' e hl).mono fun d hd=>hd.mono (by omega) (by omega)
 | .pt ty xs::r,k,v,h=>by
   simp only[lI,Bool.and_eq_true]at h
   obtain⟨h1,h2⟩:=yL (es:=r) (k:=k+(1+xs.length)) (v:=v+(1+xs.length)) h.2
   obtain⟨q1,q2⟩:=my (xs:=xs) (k:=k+1) (v:=v+1) h.1
   simp only[aQ,cA]
   refine⟨fun d' hd=> ?_,fun k' e hl=> ?_⟩
   ·rcases List.mem_cons.1 hd with rfl|hd
    ·simp only[RG];omega
    ·exact(h1 d' hd).mono (by omega) (by omega)
   ·rw[ay]at hl
    split at hl
    ·simp at hl;subst hl;exact fun d hd=>(q1 d hd).mono (by omega) (by omega)
    ·rcases eE hl with hl|hl
     ·obtain⟨w,dp,t,ys,rfl⟩:=q2 k' e hl;trivial
     ·exact(h2 k' e hl).mono fun d hd=>hd.mono (by omega) (by omega)
theorem Ei:∀ {rs:List (Bool×List E)} {k v:Nat},qF rs=true→(∀a∈(bd k v rs).1,∀d∈a.2,RG k (k+cT rs) d)∧∀k' e,lk k' (bd k v rs).2=some e→K4 (RG k (k+cT rs)) e
 | [],k,v,_=>by simp[bd,lk]
 |(g,es)::r,k,v,h=>by
  simp only[qF,Bool.and_eq_true]at h
  obtain⟨h1,h2⟩:=Ei (rs:=r) (k:=k+cA es) (v:=v+cA es) h.2
  obtain⟨q1,q2⟩:=yL (es:=es) (k:=k) (v:=v) h.1
  simp only[bd,cT]
  refine⟨fun a ha d hd=> ?_,fun k' e hl=> ?_⟩
  ·rcases List.mem_cons.1 ha with rfl|ha
   ·exact(q1 d hd).mono (by omega) (by omega)
   ·exact(h1 a ha d hd).mono (by omega) (by omega)
  ·rcases eE hl with hl|hl
   ·exact(q2 k' e hl).mono fun d hd=>hd.mono (by omega) (by omega)
   ·exact(h2 k' e hl).mono fun d hd=>hd.mono (by omega) (by omega)
theorem GP {ρ:Nat→Nat} {a b:Nat} {d:D} (h:RG a b d) (hρ:∀k,a≤k→k < b→ρ k=k):TK ρ d d:=by
 cases d <;>simp only[RG]at h <;>simp only[TK] <;>first|trivial|exact⟨trivial,hρ _ h.1 h.2⟩|exact⟨trivial,trivial,hρ _ h.1 h.2⟩
theorem OK {ρ:Nat→Nat} {d d':D} (h:TK ρ d d') (h1:∀k v,d≠ .ow k v) (h2:∀k v o,d≠ .pt k v o):d'=d:=by
 cases d <;>first|exact absurd rfl (h1 _ _)|exact absurd rfl (h2 _ _ _)|(cases d' <;>exact h)
theorem yz:∀ {rs:List (Bool×List E)} {g:Bool} {es:List E},qF (rs++ [(g,es)])=true→qF rs=true∧lI es=true
 | [],g,es,h=>by simp only[List.nil_append,qF,Bool.and_true]at h;exact⟨rfl,h⟩
 |(g',e')::r,g,es,h=>by
  simp only[List.cons_append,qF,Bool.and_eq_true]at h⊢
  exact⟨⟨h.1,(yz h.2).1⟩,(yz h.2).2⟩
section
variable {Γ:Cx} {γ:Gh} {f:UT} {st:St} {mf:Fr} {h h':H}
theorem aB.P6 (hr:aB Γ γ f st mf h) {ar:Nat→Prop} {bs us:List Nat} {rs:List (Bool×List E)} {css:List (Bool×List C)} {c0:C} {k0 v0 ty0 ty:Nat} {ds0:List D} {xs:List E0} (d:Nat)
 (hk:lk k0 st.es=some (.pt v0 ty0 ds0)) (hku:k0∈us) (hc0:∃id,γ.c k0= .ptr id 0∧c0= .ptr id 0)
 (hbs:∀i,i∈bs↔∃k∈us,∃e,lk k st.es=some e∧i∈γ.w k) (har:∀i,ar i→PR Γ γ st i)
 (hb:EZ ⟨h,ar,bs,[]⟩ h' (dk d) st.nx (rs++ [(true,[.pt ty xs])]) (css++ [(true,[c0])]))
 (hcl:qF (rs++ [(true,[.pt ty xs])])=true)
 (n1:k0 < dk d∨dk d+cT rs≤k0) (n2:k0 < 1099511627776) (n3:dk d+cT rs≤1099511627776):
 ∃γ',aB Γ γ' (m7 f st d rs) (ze st d rs k0 v0 ty xs us) (eB mf d (cW css)) h':=by
 obtain⟨γb,hB,hc⟩:=hb
 rw[jQ,yQ]at hB hc
 obtain⟨hcr,hcp⟩:=ah.snoc hc
 obtain⟨hcl1,hcl2⟩:=yz hcl
 have hcl0:zd xs=true:=by simpa only[lI,Bool.and_true]using hcl2
 have hn0:(aW (cK k0) (st.nx+cT rs+1) xs).1.length=xs.length:=by
  have:∀(xs:List E0) (k v:Nat),(aW k v xs).1.length=xs.length:=by
   intro xs
   induction xs with
   |nil=>intro k v;rfl
   |cons x r ih=>intro k v;cases x <;>simp[aW,ih]
  exact this _ _ _
 simp only[aQ,cA,List.append_nil,Nat.add_zero]at hB hc hcr hcp
 generalize hkp:dk d+cT rs=kp at *
 generalize hvp:st.nx+cT rs=vp at *
 have hvx:st.nx+(cT rs+(1+xs.length))=vp+(1+xs.length):=by omega
 rw[hvx]at hB hcr hcp
 have hst':ze st d rs k0 v0 ty xs us=⟨vp+(1+xs.length),(k0, .pt v0 ty (aW (cK k0) (vp+1) xs).1)::((aW (cK k0) (vp+1) xs).2++((bd (dk d) st.nx rs).2++i3 us st.es))⟩:=by
  simp only[ze,hvp]
 rw[hst']
 have hck:1099511627776≤cK k0:=Nat.le_add_right _ _
 have hrn:=Ei (k:=dk d) (v:=st.nx) hcl1
 rw[hkp]at hrn
 have hLR:∀ {k e},lk k (bd (dk d) st.nx rs).2=some e→st.nx≤e.nZ∧dk d≤k∧k < kp:=fun hl=>by rw[←hkp];exact oH hl
 have hL0:∀ {k e},lk k (aW (cK k0) (vp+1) xs).2=some e→vp+1≤e.nZ∧cK k0≤k∧k < cK k0+xs.length:=fun hl=>iM hl
 have hL1:∀ {k e},lk k (aW (kp+1) (vp+1) xs).2=some e→vp+1≤e.nZ∧kp+1≤k∧k < kp+1+xs.length:=fun hl=>iM hl
 let LR:=(bd (dk d) st.nx rs).2
 let L0:=(aW (cK k0) (vp+1) xs).2
 let L1:=(aW (kp+1) (vp+1) xs).2
 let D0:=(aW (cK k0) (vp+1) xs).1
 let D1:=(aW (kp+1) (vp+1) xs).1
 let sb:St:=⟨vp+(1+xs.length),LR++(kp, .pt vp ty D1)::L1⟩
 let s':St:=⟨vp+(1+xs.length),(k0, .pt v0 ty D0)::(L0++(LR++i3 us st.es))⟩
 let ρ:Nat→Nat:=fun k=>if k=k0 then kp else if cK k0≤k∧k < cK k0+xs.length then k - cK k0+(kp+1)else k
 let nw:Nat→Bool:=fun k=>decide (k=k0)||(lk k L0).isSome||(lk k LR).isSome
 let γ':Gh:=⟨fun k=>if nw k then γb.c (ρ k)else γ.c k,fun k=>if nw k then γb.w (ρ k)else γ.w k,fun k=>if nw k then γb.u (ρ k)else γ.u k⟩
 have hρ0:ρ k0=kp:=if_pos rfl
 have hρL:∀i,i < xs.length→ρ (cK k0+i)=kp+1+i:=fun i hi=>by
  show(if cK k0+i=k0 then kp else if cK k0≤cK k0+i∧cK k0+i < cK k0+xs.length then cK k0+i - cK k0+(kp+1)else cK k0+i)=_
  rw[if_neg (by omega),if_pos (by omega)]
  omega
 have hρR:∀k,k≠k0→k < kp→ρ k=k:=fun k h1 h2=>by
  show(if k=k0 then kp else if cK k0≤k∧k < cK k0+xs.length then k - cK k0+(kp+1)else k)=k
  rw[if_neg h1,if_neg (by omega)]
 obtain⟨hT0,hK0⟩:=uf (ρ:=ρ) (K:=kp+1) (K':=cK k0) (xs:=xs) (j:=0) (v:=vp+1) hcl0 (fun i hi=>hρL i (by omega))
 simp only[Nat.add_zero]at hT0 hK0
 have sb0:lk kp sb.es=some (.pt vp ty D1):=by
  show lk kp (LR++(kp, .pt vp ty D1)::L1)=_
  rw[bO]
  cases hx:lk kp LR with
  |some e=>have:=hLR hx;omega
  |none=>rw[ay,if_pos rfl]
 have sbL:∀ {i e},lk (cK k0+i) L0=some e→lk (kp+1+i) sb.es=some e:=fun {i e} hl=>by
  have:=hL0 hl
  show lk (kp+1+i) (LR++(kp, .pt vp ty D1)::L1)=_
  rw[bO]
  cases hx:lk (kp+1+i) LR with
  |some e=>have:=hLR hx;omega
  |none=>
   simp only[ay]
   rw[if_neg (by omega)]
   exact(hK0 i).symm.trans hl
 have sbR:∀ {k e},lk k LR=some e→lk k sb.es=some e:=fun {k e} hl=>by
  show lk k (LR++(kp, .pt vp ty D1)::L1)=_
  rw[bO,hl]
 have nw0:nw k0=true:=by simp[nw]
 have nwL:∀ {k e},lk k L0=some e→nw k=true:=fun hl=>by simp[nw,hl]
 have nwR:∀ {k e},lk k LR=some e→nw k=true:=fun hl=>by simp[nw,hl]
 have hrange:∀k,nw k=true→(k=k0∧ρ k=kp)∨(k≠k0∧∃i e,i < xs.length∧k=cK k0+i∧ρ k=kp+1+i∧lk k L0=some e)∨(k≠k0∧lk k L0=none∧(∃e,lk k LR=some e)∧dk d≤k∧k < kp∧ρ k=k):=fun k hn=>by
  by_cases h0:k=k0
  ·exact .inl ⟨h0,by rw[h0];exact hρ0⟩
  ·cases hx:lk k L0 with
   |some e=>
    have:=hL0 hx
    refine .inr (.inl ⟨h0,k - cK k0,e,by omega,by omega,?_,rfl⟩)
    have:=hρL (k - cK k0) (by omega)
    rw[show cK k0+(k - cK k0)=k by omega]at this
    exact this
   |none=>
    cases hy:lk k LR with
    |some e=>
     have:=hLR hy
     exact .inr (.inr ⟨h0,rfl,⟨e,rfl⟩,by omega,by omega,hρR k h0 (by omega)⟩)
    |none=>simp[nw,hx,hy,h0]at hn
 have hcase:∀k e,lk k s'.es=some e→(nw k=true∧∃e',lk (ρ k) sb.es=some e'∧((k≠k0∧e'=e∧st.nx≤e.nZ)∨(k=k0∧e= .pt v0 ty D0∧e'= .pt vp ty D1)))∨(nw k=false∧k∉us∧lk k st.es=some e):=fun k e hl=>by
  have hl:lk k ((k0, .pt v0 ty D0)::(L0++(LR++i3 us st.es)))=some e:=hl
  rw[ay]at hl
  split at hl
  ·rename_i h0
   simp only[Option.some.injEq]at hl
   refine .inl ⟨by rw[h0];exact nw0, .pt vp ty D1,by rw[h0,hρ0];exact sb0, .inr ⟨h0,hl.symm,rfl⟩⟩
  ·rename_i h0
   rw[bO]at hl
   cases hx:lk k L0 with
   |some e1=>
    rw[hx]at hl
    simp only[Option.some.injEq]at hl
    subst hl
    have h2:=hL0 hx
    refine .inl ⟨nwL hx,e1,?_, .inl ⟨h0,rfl,by omega⟩⟩
    obtain⟨i,hi,rfl⟩:∃i,i < xs.length∧k=cK k0+i:=⟨k - cK k0,by omega,by omega⟩
    rw[hρL i hi]
    exact sbL hx
   |none=>
    rw[hx]at hl
    simp only at hl
    rw[bO]at hl
    cases hy:lk k LR with
    |some e1=>
     rw[hy]at hl
     simp only[Option.some.injEq]at hl
     subst hl
     have h2:=hLR hy
     exact .inl ⟨nwR hy,e1,by rw[hρR k h0 (by omega)];exact sbR hy, .inl ⟨h0,rfl,by omega⟩⟩
    |none=>
     rw[hy]at hl
     simp only at hl
     rw[rZ]at hl
     split at hl
     ·simp at hl
     ·rename_i hu
      exact .inr ⟨by simp[nw,h0,hx,hy],by simpa using hu,hl⟩
 have hold:∀k,nw k=false→k∉us→lk k s'.es=lk k st.es:=fun k hn hu=>by
  simp only[nw,Bool.or_eq_false_iff,decide_eq_false_iff_not,Option.isSome_eq_false_iff,Option.isNone_iff_eq_none]at hn
  show lk k ((k0, .pt v0 ty D0)::(L0++(LR++i3 us st.es)))=_
  rw[ay,if_neg hn.1.1,bO,hn.1.2]
  simp only
  rw[bO,hn.2]
  simp only
  rw[rZ,if_neg (by simpa using hu)]
 have gN:∀k,nw k=true→γ'.c k=γb.c (ρ k)∧γ'.w k=γb.w (ρ k)∧γ'.u k=γb.u (ρ k):=fun k hn=>by simp[γ',hn]
 have gO:∀k,nw k=false→γ'.c k=γ.c k∧γ'.w k=γ.w k∧γ'.u k=γ.u k:=fun k hn=>by simp[γ',hn]
 have hinj:∀k1 k2,nw k1=true→nw k2=true→ρ k1=ρ k2→k1=k2:=fun k1 k2 h1 h2 he=>by
  rcases hrange k1 h1 with⟨a1,a2⟩|⟨_,i,_,a1,a2,a3,_⟩|⟨_,_,_,a1,a2,a3⟩ <;>rcases hrange k2 h2 with⟨b1,b2⟩|⟨_,j,_,b1,b2,b3,_⟩|⟨_,_,_,b1,b2,b3⟩ <;>omega
 have hge:∀k e,lk k sb.es=some e→∀i∈γb.w k++γb.u k,i∈bs∨h.length≤i:=fun k e hl i hi=>(hB.nd k e hl).2 i hi
 have hbm:∀i,i∈bs→pH Γ i∧i < h.length:=fun i hi=>by
  obtain⟨k,_,e,hl,hw⟩:=(hbs i).1 hi
  exact⟨(hr.nd k e hl).2 i (by simp[hw]),hr.blt hl i (by simp[hw])⟩
 have hbo:∀i,i∈bs→∀k e,k∉us→lk k st.es=some e→i∉γ.w k++γ.u k:=fun i hi k e hu hl=>by
  obtain⟨k1,hk1,e1,hl1,hw⟩:=(hbs i).1 hi
  exact hr.dj k1 k e1 e (fun e=>hu (e▸hk1)) hl1 hl i (by simp[hw])
 have hbp:∀i,i∈bs→¬PR Γ γ st i:=fun i hi hp=>by
  obtain⟨k1,hk1,e1,hl1,hw⟩:=(hbs i).1 hi
  exact hp.2 k1 e1 hl1 hw
 have hnx:∀k,nw k=true→∃e,lk (ρ k) sb.es=some e:=fun k hn=>by
  rcases hrange k hn with⟨a1,a2⟩|⟨_,i,e,a1,rfl,a3,a4⟩|⟨_,_,⟨e,a0⟩,a1,a2,a3⟩
  ·exact⟨_,by rw[a2];exact sb0⟩
  ·exact⟨e,by rw[a3];exact sbL a4⟩
  ·exact⟨e,by rw[a3];exact sbR a0⟩
 have hPR:∀i,PR ⟨h,ar,bs,[]⟩ γb sb i→PR Γ γ' s' i:=fun i hp=>by
  refine⟨?_,fun k e hl=> ?_⟩
  ·rcases hp.1 with h1|h1|h1
   ·exact(har i h1).1
   ·exact .inr (.inl (Nat.le_trans hr.len h1))
   ·rcases(hbm i h1).1 with h2|h2
    ·exact .inr (.inr h2)
    ·exact .inr (.inl h2)
  ·rcases hcase k e hl with⟨hn,e',he',_⟩|⟨hn,hu,hl'⟩
   ·rw[(gN k hn).2.1];exact hp.2 _ e' he'
   ·rw[(gO k hn).2.1]
    rcases hp.1 with h1|h1|h1
    ·exact(har i h1).2 k e hl'
    ·exact fun hw=>by have:=hr.blt hl' i (by simp[hw]);have:h.length≤i:=h1;omega
    ·exact fun hw=>hbo i h1 k e hu hl' (by simp[hw])
 have hDC:∀ {c:C} {d0 d1:D},DC ⟨h,ar,bs,[]⟩ γb sb h' c d0→TK ρ d0 d1→VD st.nx d0→DC Γ γ' s' h' c d1:=by
  intro c d0 d1 hd ht hvd
  cases d0
  case ow k v=>
   cases d1 <;>simp only[TK,reduceCtorEq]at ht
   case ow k' v'=>
    obtain⟨rfl,hk'⟩:=ht
    refine⟨hd.1,fun o dp t ys hl=> ?_⟩
    rcases hcase k' _ hl with⟨hn,e',he',h1⟩|⟨hn,hu,hl'⟩
    ·rcases h1 with⟨_,rfl,_⟩|⟨_,h2,_⟩
     ·rw[(gN k' hn).1,hk']
      rw[hk']at he'
      exact hd.2 o dp t ys he'
     ·cases h2
    ·have h1:=(hr.en k' _ hl').nZ
     have h2:st.nx≤v':=hvd
     simp only[En.nZ]at h1
     omega
  case pt k v o=>
   cases d1 <;>simp only[TK,reduceCtorEq]at ht
   case pt k' v' o'=>
    obtain⟨rfl,rfl,hk'⟩:=ht
    refine⟨hd.1,fun ty ds hl=> ?_⟩
    have h2:st.nx≤v':=hvd
    rcases hcase k' _ hl with⟨hn,e',he',h1⟩|⟨hn,hu,hl'⟩
    ·rcases h1 with⟨_,rfl,_⟩|⟨rfl,h3,_⟩
     ·rw[(gN k' hn).1,hk']
      rw[hk']at he'
      exact hd.2 ty ds he'
     ·simp only[En.pt.injEq]at h3
      have h1:=(hr.en k' _ hk).nZ
      simp only[En.nZ]at h1
      omega
    ·have h1:=(hr.en k' _ hl').nZ
     simp only[En.nZ]at h1
     omega
  case pe x o=>exact hvd.elim
  case px k v j o=>exact hvd.elim
  case sa k v o n e=>exact hvd.elim
  all_goals
   obtain rfl:=OK ht (fun _ _ e=>by cases e) (fun _ _ _ e=>by cases e)
   obtain⟨S,h1,h2⟩:=hd
   exact⟨S,h1,fun i hi=>hPR i (h2 i hi)⟩
 have hptr:γ'.c k0=γ.c k0:=by
  obtain⟨id,e1,e2⟩:=hc0
  rw[(gN k0 nw0).1,hρ0,e1]
  have hq:=hcp.2.1
  obtain⟨id',e3,e4⟩:=hq.2 ty D1 sb0
  rw[e3,←e4,e2]
 obtain⟨v1,v2⟩:=Br hcl1 (dk d) st.nx
 have v3:∀d0∈D1,VD st.nx d0:=fun d0 hd0=>(mM (P:=VD st.nx) (v0:=st.nx) (fun _ _ h=>h) (xs:=xs) (k:=kp+1) (v:=vp+1) (by omega) (yr hcl0)).1 d0 hd0
 have hmain:aB Γ γ' f s' mf h'∧Mo Γ γ st h γ' s' h':=by
  refine hr.ND (N:=fun k=>nw k=true∨k∈us) (γ':=γ') (st':=s') (h':=h') (by show st.nx≤vp+(1+xs.length);omega) (fun k hn=> ?_) (fun k e hn hl=> ?_) (fun i hi hp=> ?_) (fun k e hn hl i hi hlt=> ?_) (fun k e hn hl i hi=> ?_)
   (fun k e hn hl=> ?_) (fun k e k' e' hn hne hl hl' i hi=> ?_) hB.len (fun i hi hn=> ?_) (fun hm k e hn hl=> ?_) (fun i cs hi=> ?_)
  ·simp only[not_or,Bool.not_eq_true]at hn
   exact⟨hold k hn.1 hn.2,gO k hn.1⟩
  ·rcases hcase k e hl with⟨hn,e',he',h1⟩|⟨h1,hu,_⟩
   ·rcases h1 with⟨_,rfl,h2⟩|⟨rfl,rfl,_⟩
    ·exact .inl h2
    ·exact .inr ⟨hptr,ty0,ds0,hk⟩
   ·rcases hn with hn|hn
    ·rw[h1]at hn;cases hn
    ·exact absurd hn hu
  ·unfold H.cells
   rw[hB.base i hi (fun hb=>hbp i hb hp)]
  ·rcases hcase k e hl with⟨hn,e',he',h1⟩|⟨h1,hu,_⟩
   ·rw[(gN k hn).2.1]at hi
    rcases hge _ e' he' i (by simp[hi])with h2|h2
    ·exact hbp i h2
    ·omega
   ·rcases hn with hn|hn
    ·rw[h1]at hn;cases hn
    ·exact absurd hn hu
  ·simp only[not_or,Bool.not_eq_true]at hn
   exact hB.base i (hr.blt hl i (by simp[hi])) (fun hb=>hbo i hb k e hn.2 hl (by simp[hi]))
  ·rcases hcase k e hl with⟨hn,e',he',h1⟩|⟨h1,hu,_⟩
   ·rw[(gN k hn).2.1,(gN k hn).2.2]
    refine⟨(hB.nd _ e' he').1,fun i hi=> ?_⟩
    rcases hge _ e' he' i hi with h2|h2
    ·exact(hbm i h2).1
    ·exact .inr (Nat.le_trans hr.len h2)
   ·rcases hn with hn|hn
    ·rw[h1]at hn;cases hn
    ·exact absurd hn hu
  ·rcases hcase k e hl with⟨hn1,e1,he1,h1⟩|⟨h1,hu,_⟩
   ·rw[(gN k hn1).2.1,(gN k hn1).2.2]at hi
    rcases hcase k' e' hl' with⟨hn2,e2,he2,_⟩|⟨hn2,hu2,hl2⟩
    ·rw[(gN k' hn2).2.1,(gN k' hn2).2.2]
     exact hB.dj _ _ e1 e2 (fun e=>hne (hinj _ _ hn1 hn2 e).symm) he1 he2 i hi
    ·rw[(gO k' hn2).2.1,(gO k' hn2).2.2]
     rcases hge _ e1 he1 i hi with h2|h2
     ·exact hbo i h2 k' e' hu2 hl2
     ·exact fun h3=>by have:=hr.blt hl2 i h3;omega
   ·rcases hn with hn|hn
    ·rw[h1]at hn;cases hn
    ·exact absurd hn hu
  ·exact hB.base i (Nat.lt_of_lt_of_le hi hr.len) (fun hb=>by
    rcases(hbm i hb).1 with h1|h1
    ·exact hn h1
    ·omega)
  ·rcases hcase k e hl with⟨hn1,e1,he1,h1⟩|⟨h1,hu,_⟩
   ·obtain⟨g1,g2,g3⟩:=gN k hn1
    have he:=hB.en _ _ he1
    rcases h1 with⟨hk1,rfl,_⟩|⟨rfl,rfl,rfl⟩
    ·match e1,he,he1 with
     | .sl v true dp t ys,he,he1=>
       obtain⟨hv,he⟩:=he
       refine⟨hv,?_⟩
       rw[g1,g2,g3]
       rcases he with he|⟨id,ty',ez,bs',S,k1,k2,k3,k4,k5,k6,k7,k8⟩
       ·exact .inl he
       ·exact .inr ⟨id,ty',ez,bs',S,k1,k2,k3,k4,k5,k6,fun i hi=>hPR i (k7 i hi),k8⟩
     | .sl v false dp t ys,he,he1=>
       exfalso
       have he1:lk (ρ k) (LR++(kp, .pt vp ty D1)::L1)=some (.sl v false dp t ys):=he1
       rcases eE he1 with h2|h2
       ·exact DY h2
       ·rw[ay]at h2
        split at h2
        ·simp at h2
        ·exact ny h2
     | .pt v ty' ds,he,he1=>
       obtain⟨hv,k1,id,bs',k2,k3,k4,k5⟩:=he
       refine⟨hv,by rw[g3,k1],id,bs',by rw[g1,k2],by rw[g2,k3],k4,?_⟩
       rcases hrange k hn1 with⟨a1,_⟩|⟨_,i,e2,_,rfl,_,a4⟩|⟨_,_,⟨e2,a0⟩,a1,a2,a3⟩
       ·exact absurd a1 hk1
       ·exfalso
        have:=(my (xs:=xs) (k:=cK k0) (v:=vp+1) hcl0).2 _ e2 a4
        have h3:=sbL a4
        rw[hρL i ‹_›]at he1
        rw[h3]at he1
        obtain⟨w,dp,t,ys,rfl⟩:=this
        simp at he1
       ·rw[a3,sbR a0]at he1
        simp only[Option.some.injEq]at he1
        subst he1
        have h3:=hrn.2 k _ a0
        have h4:=v2 k _ a0
        exact ah.mem (fun c d0 hd0 hd=>hDC hd (GP (h3 d0 hd0) (fun k2 q1 q2=>hρR k2 (fun e=>by omega) q2)) (h4 d0 hd0)) k5
    ·obtain⟨hv,k1,id,bs',k2,k3,k4,k5⟩:=he
     refine⟨?_,by rw[g3];exact k1,id,bs',by rw[g1];exact k2,by rw[g2];exact k3,k4,?_⟩
     ·have h1:=(hr.en k _ hk).nZ
      simp only[En.nZ]at h1
      show v0 < vp+(1+xs.length)
      omega
     ·have k5':=ah.mem (T:=fun c d0=>DC ⟨h,ar,bs,[]⟩ γb sb h' c d0∧VD st.nx d0) (fun c d0 hd0 hd=>⟨hd,v3 d0 hd0⟩) k5
      exact ah.comp (T:=DC Γ γ' s' h') (fun c d0 d1 hd ht=>hDC hd.1 ht hd.2) k5' hT0
   ·rcases hn with hn|hn
    ·rw[h1]at hn;cases hn
    ·exact absurd hn hu
  ·by_cases hb:i∈bs
   ·exact hB.own i cs (.inl hb)
   ·rcases Nat.lt_or_ge i h.length with hlt|hlt
    ·rw[hB.base i hlt hb];exact hr.own i cs hi
    ·exact hB.own i cs (.inr hlt)
 obtain⟨r1,r2⟩:=hmain
 refine⟨γ',?_⟩
 refine UR.eB r1 (Gd ?_)
 refine ah.mem (fun a b hb ⟨k1,k2⟩=>⟨k1,?_⟩) hcr
 exact ah.mem (fun c d0 hd0 hd=>hDC hd (GP (hrn.1 b hb d0 hd0) (fun k2 q1 q2=>hρR k2 (fun e=>by omega) q2)) (v1 b hb d0 hd0)) k2
end
end Go.Eng
namespace Go.Eng
def jh (f:UT):List X→Option (List (Bool×List D))
 | []=>some []
 |x::xs=>match sd f x,jh f xs with
  |some v,some vs=>some (v::vs)
  |_,_=>none
def pB (st:St):D→Option D
 | .nils=>some (.sl [])
 | .ow k v=>match st.fb k v with
   |some (_,_,_,xs)=>some (.sl xs)
   |none=>none
 | .pt _ _ _=>none
 | .pe _ _=>none
 | .px _ _ _ _=>none
 | .sa k v o n e=>match st.zq (.sa k v o n e)with
   |some xs=>some (.sl xs)
   |none=>none
 |d=>some d
def ln (st:St):List D→Option (List D)
 | []=>some []
 |d::ds=>match pB st d,ln st ds with
  |some a,some r=>some (a::r)
  |_,_=>none
def gW (st:St):List (Bool×List D)→Option (List (Bool×List D))
 | []=>some []
 |(g,ds)::r=>match ln st ds,gW st r with
  |some a,some b=>some ((g,a)::b)
  |_,_=>none
def kn (st:St):D→St
 | .ow k v=>match st.fb k v with
   |some (_,_,t,xs)=>st.put k (.sl v false false t xs)
   |none=>st
 |_=>st
def vn (st:St):List D→St
 | []=>st
 |d::ds=>vn (kn st d) ds
def bX (st:St):List (Bool×List D)→St
 | []=>st
 |(_,ds)::r=>bX (vn st ds) r
def HW (st:St):D→Bool
 | .ow k v=>match st.fb k v with
   |some (false,_)=>true
   |_=>false
 | .sa _ _ _ _ _=>false
 |_=>true
def Cv (st:St):List D→Bool
 | []=>true
 |d::ds=>HW st d && Cv st ds
def HU (st:St):List (Bool×List D)→Bool
 | []=>true
 |(_,ds)::r=>Cv st ds && HU st r
def bJ (as:List (Bool×List D)):List (Bool×List E):=as.map fun a=>(a.1,a.2.map E.p)
theorem DA:∀(ds:List D) (k v:Nat),aQ k v (ds.map E.p)=(ds,[])
 | [],_,_=>rfl
 |d::ds,k,v=>by simp only[List.map_cons,aQ,DA ds]
theorem hC:∀(as:List (Bool×List D)) (k v:Nat),bd k v (bJ as)=(as,[])
 | [],_,_=>rfl
 |(g,ds)::r,k,v=>by
  have:=hC r (k+cA (ds.map E.p)) (v+cA (ds.map E.p))
  unfold bJ at this⊢
  simp only[List.map_cons,bd,DA,this,List.append_nil]
theorem yq:∀(cs:List C) (ds:List D),sr cs (ds.map E.p)= []
 | [],[]=>rfl
 | [],_::_=>rfl
 |_::_,[]=>rfl
 |_::cs,_::ds=>by simp only[List.map_cons,sr,yq cs ds]
theorem nr:∀(ms:List (Bool×List C)) (as:List (Bool×List D)),sm ms (bJ as)= []
 | [],[]=>rfl
 | [],_::_=>rfl
 |_::_,[]=>rfl
 |(_,cs)::ms,(_,ds)::as=>by
  have:=nr ms as
  unfold bJ at this⊢
  simp only[List.map_cons,sm,yq,this,List.append_nil]
theorem oj:∀(es:List E) (k v:Nat),(aQ k v es).1.length=es.length
 | [],_,_=>rfl
 | .e (.p _)::r,k,v=>by simp[aQ,oj r]
 | .e (.o _ _ _)::r,k,v=>by simp[aQ,oj r]
 | .pt _ xs::r,k,v=>by simp[aQ,oj r]
section
variable {Γ Γ':Cx} {γ γ':Gh} {f f':UT} {st st':St} {mf mf':Fr} {h h':H}
theorem xF (hr:aB Γ γ f st mf h):∀ {xs:List X} {vs:List (Bool×List D)},jh f xs=some vs→∃ms,args mf xs=some ms∧ah (DG Γ γ st h) ms vs
 | [],vs,he=>by simp[jh]at he;subst he;exact⟨[],rfl,trivial⟩
 |x::xs,vs,he=>by
  simp only[jh]at he
  split at he
  ·rename_i v r h1 h2
   simp at he
   subst he
   obtain⟨g,ds⟩:=v
   obtain⟨cs,q1,q2⟩:=fV hr h1
   obtain⟨ms,k1,k2⟩:=xF hr h2
   exact⟨(g,cs)::ms,by simp only[args,q1,k1],⟨rfl,q2⟩,k2⟩
  ·simp at he
theorem K2 (hr:aB Γ γ f st mf h) {c:C} {d d':D} (hd:DC Γ γ st h c d) (ha:pB st d=some d'):∃S,RD h d' c S∧(HW st d=true→∀i∈S,PR Γ γ st i):=by
 cases d <;>simp only[pB]at ha
 case nils=>
  simp at ha
  subst ha
  obtain⟨S,h1,_⟩:=hd
  simp only[RD]at h1
  exact⟨[],jO.2 (.inl ⟨rfl,rfl, .inl h1.1⟩),fun _ i hi=>by cases hi⟩
 case ow k v=>
  split at ha
  ·rename_i o dp t xs hs
   simp at ha
   subst ha
   have hl:=St.cL hs
   cases o with
   |true=>
    obtain⟨S,h1,h2⟩:=ru hr hd (xs:=xs) (by simp only[St.zq,hs])
    exact⟨S,h1,fun h3=>by simp[HW,hs]at h3⟩
   |false=>
    obtain⟨_,_,_,S,h1,h2⟩:=hr.en _ _ hl
    rw[←hd.2 _ _ _ _ hl]at h1
    exact⟨S,h1,fun _=>h2⟩
  ·simp at ha
 case sa k v o n e=>
  split at ha
  ·rename_i xs hs
   simp at ha
   subst ha
   obtain⟨S,h1,h2⟩:=ru hr hd hs
   exact⟨S,h1,fun h3=>by simp[HW]at h3⟩
  ·simp at ha
 all_goals first
  |(simp at ha;done)
  |(simp at ha
    subst ha
    obtain⟨S,h1,h2⟩:=hd
    exact⟨S,h1,fun _=>h2⟩)
theorem EE (hr:aB Γ γ f st mf h):∀ {cs:List C} {ds ds':List D},ah (DC Γ γ st h) cs ds→ln st ds=some ds'→ah (fun c d'=>∃S,RD h d' c S∧(Cv st ds=true→∀i∈S,PR Γ γ st i)) cs ds'
 | [],[],ds',_,ha=>by simp[ln]at ha;subst ha;trivial
 |c::cs,d::ds,ds',hd,ha=>by
  simp only[ln]at ha
  split at ha
  ·rename_i a r h1 h2
   simp at ha
   subst ha
   obtain⟨S,k1,k2⟩:=K2 hr hd.1 h1
   refine⟨⟨S,k1,fun hs=>k2 (by simp[Cv]at hs;exact hs.1)⟩,(EE hr hd.2 h2).imp fun c d ⟨S,q1,q2⟩=>⟨S,q1,fun hs=>q2 (by simp[Cv]at hs;exact hs.2)⟩⟩
  ·simp at ha
theorem yU (hr:aB Γ γ f st mf h):∀ {ms:List (Bool×List C)} {vs as:List (Bool×List D)},ah (DG Γ γ st h) ms vs→gW st vs=some as→ah (fun(m:Bool×List C) (a:Bool×List D)=>m.1=a.1∧ah (fun c d'=>∃S,RD h d' c S∧(HU st vs=true→∀i∈S,PR Γ γ st i)) m.2 a.2) ms as
 | [],[],as,_,ha=>by simp[gW]at ha;subst ha;trivial
 |(g,cs)::ms,(g',ds)::vs,as,hd,ha=>by
  simp only[gW]at ha
  split at ha
  ·rename_i a r h1 h2
   simp at ha
   subst ha
   refine⟨⟨hd.1.1,(EE hr hd.1.2 h1).imp fun c d ⟨S,q1,q2⟩=>⟨S,q1,fun hs=>q2 (by simp[HU]at hs;exact hs.1)⟩⟩,(yU hr hd.2 h2).imp fun m a ⟨q0,q⟩=>⟨q0,q.imp fun c d ⟨S,q1,q2⟩=>⟨S,q1,fun hs=>q2 (by simp[HU]at hs;exact hs.2)⟩⟩⟩
  ·simp at ha
theorem GO (hr:aB Γ γ f st mf h) (d:D):∃γ',aB Γ γ' f (kn st d) mf h∧Mo Γ γ st h γ' (kn st d) h:=by
 cases d <;>simp only[kn] <;>try exact⟨γ,hr,Mo.refl⟩
 rename_i k v
 split
 ·rename_i o dp t xs hs
  obtain⟨γ',h1,h2,_⟩:=hr.freeze (dp':=false) (St.cL hs)
  exact⟨γ',h1,h2⟩
 ·exact⟨γ,hr,Mo.refl⟩
theorem C0:∀(ds:List D) {γ:Gh} {st:St},aB Γ γ f st mf h→∃γ',aB Γ γ' f (vn st ds) mf h∧Mo Γ γ st h γ' (vn st ds) h
 | [],γ,st,hr=>⟨γ,hr,Mo.refl⟩
 |d::ds,γ,st,hr=>by
  obtain⟨γ1,h1,h2⟩:=GO hr d
  obtain⟨γ2,h3,h4⟩:=C0 ds h1
  exact⟨γ2,h3,h2.trans h4⟩
theorem Bu:∀(vs:List (Bool×List D)) {γ:Gh} {st:St},aB Γ γ f st mf h→∃γ',aB Γ γ' f (bX st vs) mf h∧Mo Γ γ st h γ' (bX st vs) h
 | [],γ,st,hr=>⟨γ,hr,Mo.refl⟩
 |(_,ds)::vs,γ,st,hr=>by
  obtain⟨γ1,h1,h2⟩:=C0 ds hr
  obtain⟨γ2,h3,h4⟩:=Bu vs h1
  exact⟨γ2,h3,h2.trans h4⟩
theorem Eo {ar:Nat→Prop} (har:∀i,ar i→i < h.length) {ms:List (Bool×List C)} {as:List (Bool×List D)} (hc:qF (bJ as)=true) (ha:ah (fun(m:Bool×List C) (a:Bool×List D)=>m.1=a.1∧ah (fun c d'=>∃S,RD h d' c S∧∀i∈S,ar i) m.2 a.2) ms as):EZ ⟨h,ar,[],[]⟩ h K0 0 (bJ as) ms:=by
 let γ0:Gh:=⟨fun _=> .nils,fun _=> [],fun _=> []⟩
 refine⟨γ0,⟨fun k=>(by rw[PT.bL,UT.bL];intro cs e;cases e),fun k e hl=> ?_,fun k e hl=> ?_,fun k1 k2 e1 e2 hne hl1 hl2=> ?_,Nat.le_refl _,fun _ _ _=>rfl,har,fun p hp=>(by cases hp),fun i cs hi=>(by rcases hi with hi|hi;cases hi;rw[List.getElem?_eq_none hi];simp)⟩,?_⟩
 ·rw[hC]at hl;simp[lk]at hl
 ·rw[hC]at hl;simp[lk]at hl
 ·rw[hC]at hl1;simp[lk]at hl1
 ·obtain⟨v1,_⟩:=Br hc K0 0
  rw[hC]at v1⊢
  refine ah.mem (fun m a hma ⟨q0,q⟩=>⟨q0,ah.mem (fun c d hd ⟨S,q1,q2⟩=> ?_) q⟩) ha
  have hv:=v1 a hma d hd
  have:∃S,RD h d c S∧∀i∈S,PR ⟨h,ar,[],[]⟩ γ0 ⟨0+cT (bJ as),[]⟩ i:=⟨S,q1,fun i hi=>⟨.inl (q2 i hi),fun k e hl=>by simp[lk]at hl⟩⟩
  cases d <;>first|exact this|(simp only[RD]at q1)
theorem LU {d d':D} (ha:pB st d=some d'):HQ d'=true:=by
 cases d <;>simp only[pB]at ha
 case ow k v=>split at ha <;>simp at ha;subst ha;rfl
 case sa k v o n e=>split at ha <;>simp at ha;subst ha;rfl
 all_goals first
  |(simp at ha;done)
  |(simp at ha;subst ha;rfl)
theorem C3:∀ {vs as:List (Bool×List D)},gW st vs=some as→qF (bJ as)=true
 | [],as,ha=>by simp[gW]at ha;subst ha;rfl
 |(g,ds)::vs,as,ha=>by
  simp only[gW]at ha
  split at ha
  ·rename_i a r h1 h2
   simp at ha
   subst ha
   have key:∀ {ds a:List D},ln st ds=some a→lI (a.map E.p)=true:=by
    intro ds
    induction ds with
    |nil=>intro a h;simp[ln]at h;subst h;rfl
    |cons d ds ih=>
     intro a h
     simp only[ln]at h
     split at h
     ·rename_i a' r' k1 k2
      simp at h
      subst h
      simp only[List.map_cons,lI,zd,LU k1,ih k2,Bool.and_self]
     ·simp at h
   have:=C3 h2
   unfold bJ at this⊢
   simp only[List.map_cons,qF,key h1,this,Bool.and_self]
  ·simp at ha
theorem LF {cd:Nat→Option AF} {g d:Nat} {xs:List X} {vs as:List (Bool×List D)} {Q:List (Bool×List E)→List E→Prop} (hr:Rel Γ f st mf h) (hx:jh f xs=some vs) (sh:Bool)
 (ha:gW (if sh then bX st vs else st) vs=some as) (hsf:sh=true→HU (bX st vs) vs=true) (hc:VC cd g (bJ as) Q) (hns:sh=false→∀rs ps,Q rs ps→C1 rs=true):
 ∃ms,args mf xs=some ms∧WC cd g ms h (fun r h'=>∃rs,Q rs []∧(∃t,h'=h++t)∧Rel Γ (m7 f (if sh then bX st vs else st) d rs) (kR (if sh then bX st vs else st) d rs) (eB mf d r) h'):=by
 obtain⟨γ,hr⟩:=hr
 obtain⟨ms,m1,m2⟩:=xF hr hx
 refine⟨ms,m1,?_⟩
 have hcl:=C3 ha
 have fin:∀(γ1:Gh) (st1:St) (ar:Nat→Prop),aB Γ γ1 f st1 mf h→(∀i,ar i→i < h.length)→ah (fun(m:Bool×List C) (a:Bool×List D)=>m.1=a.1∧ah (fun c d'=>∃S,RD h d' c S∧∀i∈S,ar i) m.2 a.2) ms as→(∀rs,Q rs []→C1 rs=true∨∀i,ar i→PR Γ γ1 st1 i)→
  WC cd g ms h (fun r h'=>∃rs,Q rs []∧(∃t,h'=h++t)∧Rel Γ (m7 f st1 d rs) (kR st1 d rs) (eB mf d r) h'):=by
  intro γ1 st1 ar h1 har hall hsh
  have hw:=hc ⟨h,ar,[],[]⟩ ms rfl (Eo har hcl hall)
  refine hw.mono fun r h' ⟨rs,ps,css,hq,hcl2,hv,hb⟩=> ?_
  have hb':=hb (dk d) st1.nx
  rw[nr]at hb'
  have hps:ps= []:=by
   obtain⟨γb,_,hcc⟩:=hb'
   rw[jQ]at hcc
   have:=(ah.snoc hcc).2.2.length
   rw[oj]at this
   exact List.eq_nil_of_length_eq_zero this.symm
  subst hps
  have hcl3:qF rs=true:=by
   have:∀(rs:List (Bool×List E)),qF (rs++ [(true,[])])=true→qF rs=true:=by
    intro rs
    induction rs with
    |nil=>intro _;rfl
    |cons a r ih=>intro h;obtain⟨g,es⟩:=a;simp only[List.cons_append,qF,Bool.and_eq_true]at h⊢;exact⟨h.1,ih h.2⟩
   exact this rs hcl2
  obtain⟨γ2,k1,k2⟩:=h1.Qe d hb' hcl3 (hsh rs hq)
  rw[hv]
  refine⟨rs,hq,?_,γ2,k1⟩
  obtain⟨γb,hB,_⟩:=hb'
  refine⟨h'.drop h.length,?_⟩
  have:h'.take h.length=h:=by
   apply List.ext_getElem?
   intro i
   rw[List.getElem?_take]
   split
   ·rename_i hi;exact hB.base i hi (by simp)
   ·rw[List.getElem?_eq_none (by omega)]
  rw[←this]
  have hl:(h'.take h.length).length=h.length:=by rw[this]
  rw[hl]
  exact(List.take_append_drop _ _).symm
 cases sh with
 |false=>
  simp only[Bool.false_eq_true,if_false]at ha⊢
  exact fin γ st (fun i=>i < h.length) hr (fun i hi=>hi) ((yU hr m2 ha).imp fun m a ⟨q0,q⟩=>⟨q0,q.imp fun c d ⟨S,q1,_⟩=>⟨S,q1,fun i hi=>RD.lt d q1 i hi⟩⟩) (fun rs hq=> .inl (hns rfl rs [] hq))
 |true=>
  simp only[if_true]at ha⊢
  obtain⟨γ1,k1,k2⟩:=Bu vs hr
  have m3:ah (DG Γ γ1 (bX st vs) h) ms vs:=m2.imp fun m a ⟨q0,q⟩=>⟨q0,q.imp fun c d hd=>hd.mo k2⟩
  exact fin γ1 (bX st vs) (fun i=>i < h.length∧PR Γ γ1 (bX st vs) i) k1 (fun i hi=>hi.1) ((yU k1 m3 ha).imp fun m a ⟨q0,q⟩=>⟨q0,q.imp fun c d ⟨S,q1,q2⟩=>⟨S,q1,fun i hi=>⟨RD.lt d q1 i hi,q2 (hsf rfl) i hi⟩⟩⟩) (fun rs _=> .inr fun i hi=>hi.2)
end
def Lh:D→D
 | .nils=> .sl []
 |d=>d
def zy:E→E
 | .e (.p .nils)=> .e (.p (.sl []))
 |x=>x
def EL (as:List (Bool×List E)):List (Bool×List E):=as.map fun a=>(a.1,a.2.map zy)
def A4:List D→List (Nat×Nat)
 | []=> []
 | .pt k v _::r=>(k,v)::A4 r
 |_::r=>A4 r
def Bp:List (Bool×List D)→List (Nat×Nat)
 | []=> []
 |(_,ds)::r=>A4 ds++Bp r
def Fq (st:St) (us:List Nat):Bool:=us.all fun k=>match lk k st.es with
 |some (.sl _ _ dp _ xs)=> !dp||flat xs
 |_=>true
theorem Cy:∀es:List E,cA (es.map zy)=cA es
 | []=>rfl
 |x::r=>by
  have ih:=Cy r
  rcases x with(d|_)|_ <;>try (simp only[List.map_cons,zy,cA,ih];done)
  cases d <;>simp only[List.map_cons,zy,cA,ih]
theorem Dt:∀(es:List E) (k v:Nat),aQ k v (es.map zy)=((aQ k v es).1.map Lh,(aQ k v es).2)
 | [],_,_=>rfl
 |x::r,k,v=>by
  have ih:=Dt r
  rcases x with(d|_)|_ <;>try (simp only[List.map_cons,zy,aQ,ih,Lh];done)
  cases d <;>simp only[List.map_cons,zy,aQ,ih,Lh]
theorem Gs:∀as:List (Bool×List E),cT (EL as)=cT as
 | []=>rfl
 |(g,es)::r=>by
  have ih:=Gs r
  unfold EL at ih⊢
  simp only[List.map_cons,cT,Cy,ih]
theorem DU:∀(as:List (Bool×List E)) (k v:Nat),bd k v (EL as)=((bd k v as).1.map (fun a=>(a.1,a.2.map Lh)),(bd k v as).2)
 | [],_,_=>rfl
 |(g,es)::r,k,v=>by
  have ih:=DU r
  unfold EL at ih⊢
  simp only[List.map_cons,bd,Dt,Cy,ih]
theorem ah.Ng {α β δ:Type} {R:α→β→Prop} {T:α→δ→Prop} {g:β→δ} (h:∀a b,R a b→T a (g b)):∀ {xs:List α} {ys:List β},ah R xs ys→ah T xs (ys.map g)
 | [],[],_=>trivial
 |_::_,_::_,hr=>⟨h _ _ hr.1,ah.Ng h hr.2⟩
theorem EZ.EL {Γ:Cx} {h:H} {K v:Nat} {gs:List (Bool×List E)} {css:List (Bool×List C)} (hb:EZ Γ h K v gs css):EZ Γ h K v (EL gs) css:=by
 obtain⟨γ,h1,h2⟩:=hb
 unfold EZ
 rw[Gs,DU]
 refine⟨γ,h1,ah.Ng (fun a b hab=>⟨hab.1,ah.Ng (fun c d hd=> ?_) hab.2⟩) h2⟩
 cases d <;>try exact hd
 obtain⟨S,h3,_⟩:=hd
 simp only[RD]at h3
 exact⟨[],jO.2 (.inl ⟨rfl,rfl, .inl h3.1⟩),fun i hi=>by cases hi⟩
theorem D4:∀(cs:List C) (es:List E),sr cs (es.map zy)=sr cs es
 | [],es=>by cases es <;>simp[sr]
 |_::cs,[]=>rfl
 |c::cs,x::r=>by
  have ih:=D4 cs r
  rcases x with(d|_)|_ <;>try (simp only[List.map_cons,zy,sr,ih];done)
  cases d <;>simp only[List.map_cons,zy,sr,ih]
theorem Dh:∀(ms:List (Bool×List C)) (as:List (Bool×List E)),sm ms (EL as)=sm ms as
 | [],as=>by cases as <;>simp[Go.Eng.EL,sm]
 |_::_,[]=>rfl
 |(g,cs)::ms,(g',es)::r=>by
  have ih:=Dh ms r
  unfold Go.Eng.EL at ih⊢
  simp only[List.map_cons,sm,D4,ih]
section
variable {Γ:Cx} {γ:Gh} {f:UT} {st:St} {mf:Fr} {h h':H}
theorem BT:∀ {cs:List C} {ds:List D} {us us':List Nat} {es:List E},ah (DC Γ γ st h) cs ds→dq st ds us=some (es,us')→ah (fun c (p:Nat×Nat)=>DC Γ γ st h c (.pt p.1 p.2 0)) (sr cs es) (A4 ds)
 | [],[],us,us',es,_,he=>by simp[dq]at he;obtain⟨rfl,rfl⟩:=he;trivial
 |c::cs,d::ds,us,us',es,hd,he=>by
  cases d
  case pt k v o=>
   simp only[dq]at he
   split at he
   ·split at he
    ·simp at he
    ·rename_i ho
     simp only[Bool.or_eq_true,not_or,Bool.not_eq_true,bne_eq_false_iff_eq]at ho
     split at he
     ·split at he
      ·rename_i q
       simp at he
       obtain⟨rfl,rfl⟩:=he
       simp only[sr,A4]
       obtain rfl:=ho.2
       exact⟨hd.1,BT hd.2 q⟩
      ·simp at he
     ·simp at he
   ·simp at he
  all_goals
   simp only[dq]at he
   split at he
   ·split at he
    ·rename_i q
     simp at he
     obtain⟨rfl,rfl⟩:=he
     simp only[sr,A4]
     exact BT hd.2 q
    ·simp at he
   ·simp at he
theorem F7:∀ {ms:List (Bool×List C)} {vs:List (Bool×List D)} {us us':List Nat} {as:List (Bool×List E)},ah (DG Γ γ st h) ms vs→gf st vs us=some (as,us')→ah (fun c (p:Nat×Nat)=>DC Γ γ st h c (.pt p.1 p.2 0)) (sm ms as) (Bp vs)
 | [],[],us,us',as,_,he=>by simp[gf]at he;obtain⟨rfl,rfl⟩:=he;trivial
 |(g,cs)::ms,(g',ds)::vs,us,us',as,hd,he=>by
  simp only[gf]at he
  split at he
  ·rename_i q1
   split at he
   ·rename_i q2
    simp at he
    obtain⟨rfl,rfl⟩:=he
    simp only[sm,Bp]
    exact(BT hd.1.2 q1).append (F7 hd.2 q2)
   ·simp at he
  ·simp at he
theorem Dz {cd:Nat→Option AF} {g d:Nat} {xs:List X} {vs:List (Bool×List D)} {as as':List (Bool×List E)} {us:List Nat} {k0 v0 ty0 ty:Nat} {ds0:List D} {α:Type} {W:α→Prop} {rs:α→List (Bool×List E)} {ys:α→List E0} (hr:Rel Γ f st mf h) (hx:jh f xs=some vs)
 (hc:VC cd g as' (fun r p=>∃x,W x∧r=rs x∧p= [.pt ty (ys x)])) (ha:gf (bX st vs) vs []=some (as,us)) (hn:EL as=as') (hp:Bp vs= [(k0,v0)]) (hl:(bX st vs).ptr k0 v0=some (ty0,ds0)) (hu:us.elem k0=true) (ho:Fq (bX st vs) us=true)
 (n1:∀x,W x→k0 < dk d∨dk d+cT (rs x)≤k0) (n2:k0 < 1099511627776) (n3:∀x,W x→dk d+cT (rs x)≤1099511627776):
 ∃ms,args mf xs=some ms∧WC cd g ms h (fun r h'=>∃x,W x∧(∀e,us= [k0]→ty0≠e→yh e h h')∧Rel Γ (m7 f (bX st vs) d (rs x)) (ze (bX st vs) d (rs x) k0 v0 ty (ys x) us) (eB mf d r) h'):=by
 obtain⟨γ0,hr⟩:=hr
 obtain⟨ms,m1,m2⟩:=xF hr hx
 refine⟨ms,m1,?_⟩
 obtain⟨γ,k1,k2⟩:=Bu vs hr
 have m3:ah (DG Γ γ (bX st vs) h) ms vs:=m2.imp fun m a ⟨q0,q⟩=>⟨q0,q.imp fun c d hd=>hd.mo k2⟩
 generalize bX st vs=st1 at *
 have hku:k0∈us:=by simpa using hu
 have hu0:∀k∈us,∀e,lk k st1.es=some e→γ.u k= []:=fun k hk e he=>by
  have h1:(match lk k st1.es with|some (.sl _ _ dp _ xs)=> !dp||flat xs|_=>true)=true:=List.all_eq_true.1 ho k hk
  rw[he]at h1
  have h2:=k1.en k e he
  match e,h1,h2 with
  | .pt _ _ _,_,h2=>exact h2.2.1
  | .sl v false dp t ys,_,h2=>exact h2.2.2.1
  | .sl v true dp t ys,h1,h2=>
    rcases h2.2 with h2|⟨id,ty',ez,bs,S,a1,a2,a3,a4,a5,a6,a7,a8⟩
    ·exact h2.2.2.1
    ·rw[a8]
     split
     ·rename_i hd
      simp only[hd,Bool.not_true,Bool.false_or]at h1
      exact a6.y0 h1
     ·rfl
 let bs:List Nat:=us.flatMap fun k=>if(lk k st1.es).isSome then γ.w k else []
 have hbs:∀i,i∈bs↔∃k∈us,∃e,lk k st1.es=some e∧i∈γ.w k:=fun i=>by
  simp only[bs,List.mem_flatMap]
  constructor
  ·rintro⟨k,hk,hi⟩
   split at hi
   ·rename_i hs
    obtain⟨e,he⟩:=Option.isSome_iff_exists.1 hs
    exact⟨k,hk,e,he,hi⟩
   ·cases hi
  ·rintro⟨k,hk,e,he,hi⟩
   exact⟨k,hk,by rw[he];simpa using hi⟩
 have hown:∀i cs,pH ⟨h,fun i=>i < h.length∧PR Γ γ st1 i,bs,[]⟩ i→h[i]? ≠some (.ro cs):=fun i cs hi=>by
  rcases hi with hi|hi
  ·obtain⟨k,_,e,he,hw⟩:=(hbs i).1 hi
   exact k1.own i cs ((k1.nd k e he).2 i (by simp[hw]))
  ·rw[List.getElem?_eq_none hi];simp
 have hb:EZ ⟨h,fun i=>i < h.length∧PR Γ γ st1 i,bs,[]⟩ h K0 0 as ms:=
  k1.out (Γ':=⟨h,fun i=>i < h.length∧PR Γ γ st1 i,bs,[]⟩) ha m3 (fun i hi hp=> .inl ⟨hi,hp⟩) (fun k hk e he i hi=> .inl ((hbs i).2 ⟨k,hk,e,he,by rw[hu0 k hk e he]at hi;simpa using hi⟩)) (Nat.le_refl _) (fun _ _ _=>rfl) (fun i hi=>hi.1) rfl hown K0 0
 have hb':=hb.EL
 rw[hn]at hb'
 have hpt:=F7 m3 ha
 rw[hp,←Dh,hn]at hpt
 match hpc:sm ms as',hpt with
 | [c0],hpt=>
 have hcp:=hpt.1
 have hlk:=St.fh hl
 refine(hc ⟨h,fun i=>i < h.length∧PR Γ γ st1 i,bs,[]⟩ ms rfl hb').mono fun r h' ⟨rs',ps,css,⟨x,hx,e1,e2⟩,hcl,hv,hB⟩=>⟨x,hx,?_⟩
 subst e1 e2
 have hB:=hB (dk d) st1.nx
 rw[hpc]at hB
 rw[hv]
 refine⟨fun e hus hne i cs hi=> ?_,?_⟩
 ·have hin:i∉bs:=fun hib=>by
   obtain⟨k,hk,en,he,hw⟩:=(hbs i).1 hib
   subst hus
   obtain rfl:=List.mem_singleton.1 hk
   rw[hlk]at he
   cases he
   obtain⟨_,_,id',bs',e2,e3,e4,e5⟩:=k1.en _ _ hlk
   rw[e3]at hw
   obtain rfl:=List.mem_singleton.1 hw
   rw[hi]at e4
   cases e4
   exact hne rfl
  obtain⟨γb,hB1,_⟩:=hB
  rw[hB1.base i (List.getElem?_eq_some_iff.1 hi).1 hin]
  exact hi
 exact k1.P6 d hlk hku (hcp.2 _ _ hlk) hbs (fun i hi=>hi.2) hB hcl (n1 x hx) n2 (n3 x hx)
end
def gu (f:UT) (s:Nat) (w:Bool):Option D:=
 match UF f s with
 | .tup []=>some (.bool (!w))
 |_=>eO f (.s s)
theorem MH {Γ:Cx} {γ:Gh} {f:UT} {st:St} {mf:Fr} {h:H} (hr:aB Γ γ f st mf h) {s:Nat} {w b:Bool} (hg:gu f s w=some (.bool b)):gv mf s w=some (.bool b):=by
 have hs:=hr.slot s
 unfold gu at hg
 split at hg
 ·rename_i hu
  rw[hu]at hs
  obtain⟨ws,h1,h2⟩:=hs
  cases ws with
  |nil=>simp only[gv,h1];simpa using hg
  |cons=>exact h2.elim
 ·have h1:=de hr hg rfl
  unfold gv
  split
  ·rename_i hu
   simp only[dt,pR,ev,hu]at h1
   cases h1
  ·exact h1
inductive VX (cd:Nat→Option AF) (pd:List (Nat×Nat)) (R:List RV) (Q:List (Bool×List E)→List E→Prop):List VK→UT→St→Prop
 |nil {f st rs ps}:yW f st R pd=some (rs,ps)→Q rs ps→VX cd pd R Q [] f st
 |b {i k f st}:VX cd pd R Q k f st→VX cd pd R Q (.b i::k) f st
 |stop {P k f st}:P f st→VX cd pd R Q (.stop P::k) f st
 |skip {k f st}:VX cd pd R Q k f st→VX cd pd R Q (.c .skip::k) f st
 |ret {k f st rs ps}:yW f st R pd=some (rs,ps)→Q rs ps→VX cd pd R Q (.c .ret::k) f st
 |exit {id k k' f st}:xB id k=some k'→VX cd pd R Q k' f st→VX cd pd R Q (.c (.exit id)::k) f st
 |seq {a b k f st}:VX cd pd R Q (.c a:: .c b::k) f st→VX cd pd R Q (.c (.seq a b)::k) f st
 |block {id b k f st}:VX cd pd R Q (.c b:: .b id::k) f st→VX cd pd R Q (.c (.block id b)::k) f st
 |cond {x a c k f st} (v:Bool):eO f x=some (.bool v)→VX cd pd R Q (.c (if v then a else c)::k) f st→VX cd pd R Q (.c (.cond x a c)::k) f st
 |ops {k f st}:VX cd pd R Q k f st→VX cd pd R Q (.c (.ops [])::k) f st
 |i {a l k f st f' st'}:bk a f st=some (f',st')→VX cd pd R Q (.c (.ops l)::k) f' st'→VX cd pd R Q (.c (.ops (.i a::l))::k) f st
 |gy {s w d a l k f st}:gu f s w=some (.bool w)→VX cd pd R Q (.c (.ops (.i a::l))::k) f st→VX cd pd R Q (.c (.ops (.g s w d a::l))::k) f st
 |gn {s w d a l k f st}:gu f s w=some (.bool (!w))→VX cd pd R Q (.c (.ops l)::k) (sn f d (.tup [])) st→VX cd pd R Q (.c (.ops (.g s w d a::l))::k) f st
 |call {d g q xs l k f st vs as} (Q':List (Bool×List E)→List E→Prop) (sh:Bool):jh f xs=some vs→gW (if sh then bX st vs else st) vs=some as→(sh=true→HU (bX st vs) vs=true)→VC cd g (bJ as) Q'→(sh=false→∀rs ps,Q' rs ps→C1 rs=true)→
   (∀rs,Q' rs []→VX cd pd R Q (.c (.ops l)::k) (m7 f (if sh then bX st vs else st) d rs) (kR (if sh then bX st vs else st) d rs))→VX cd pd R Q (.c (.ops (.i (.call d g q xs)::l))::k) f st
 |callp {d g xs l k f st vs as as' us k0 v0 ty0 ty ds0} {α:Type} (W:α→Prop) (rs:α→List (Bool×List E)) (ys:α→List E0):jh f xs=some vs→VC cd g as' (fun r p=>∃x,W x∧r=rs x∧p= [.pt ty (ys x)])→gf (bX st vs) vs []=some (as,us)→EL as=as'→Bp vs= [(k0,v0)]→(bX st vs).ptr k0 v0=some (ty0,ds0)→us.elem k0=true→Fq (bX st vs) us=true→
   (∀x,W x→k0 < dk d∨dk d+cT (rs x)≤k0)→k0 < 1099511627776→(∀x,W x→dk d+cT (rs x)≤1099511627776)→(∀x,W x→VX cd pd R Q (.c (.ops l)::k) (m7 f (bX st vs) d (rs x)) (ze (bX st vs) d (rs x) k0 v0 ty (ys x) us))→VX cd pd R Q (.c (.ops (.i (.call d g false xs)::l))::k) f st
 |callpe {d g e xs l k f st vs as as' us k0 v0 ty0 ty ds0} {α:Type} (W:α→Prop) (rs:α→List (Bool×List E)) (ys:α→List E0):jh f xs=some vs→VC cd g as' (fun r p=>∃x,W x∧r=rs x∧p= [.pt ty (ys x)])→gf (bX st vs) vs []=some (as,us)→EL as=as'→Bp vs= [(k0,v0)]→(bX st vs).ptr k0 v0=some (ty0,ds0)→us.elem k0=true→Fq (bX st vs) us=true→us= [k0]→ty0≠e→
   (∀x,W x→k0 < dk d∨dk d+cT (rs x)≤k0)→k0 < 1099511627776→(∀x,W x→dk d+cT (rs x)≤1099511627776)→(∀x,W x→VX cd pd R Q (.c (.ops l)::k) (m7 f (bX st vs) d (rs x)) (ze (bX st vs) d (rs x) k0 v0 ty (ys x) us))→VX cd pd R Q (.c (.ops (.i (.cle d g e xs)::l))::k) f st
 |clv {d g q x xs l k f st}:eO f x=some (.fn g)→VX cd pd R Q (.c (.ops (.i (.call d g q xs)::l))::k) f st→VX cd pd R Q (.c (.ops (.i (.clv d q x xs)::l))::k) f st
 |loop {ds b k f st} {σ:Type} (F:σ→UT) (S:σ→St) (J:σ→Nat→Prop) (s0:σ) (g0:Nat):J s0 g0→dD (cI f ds) st (F s0) (S s0)→
   (∀s g,J s g→VX cd pd R Q (.c b:: .stop (fun f' st'=>∃s' g',g' < g∧J s' g'∧dD (cI f' ds) st' (F s') (S s'))::k) (F s) (S s))→VX cd pd R Q (.c (.loop ds b)::k) f st
theorem F6 {cd:Nat→Option AF} {R:List RV} {Q:V→H→Prop} {Γ:Cx} {id:Nat} {f:Fr} {h:H}:∀ {k k':List VK},xB id k=some k'→EX cd id (k.map (tr Γ)) f h R Q=WS cd (k'.map (tr Γ)) f h R Q
 | [],_,he=>by simp[xB]at he
 | .b i::k,k',he=>by
   simp only[xB]at he
   simp only[List.map_cons,tr,Nj]
   split at he
   ·rename_i hi;simp at he;subst he;rw[if_pos hi]
   ·rename_i hi;rw[if_neg hi];exact F6 he
 | .c a::k,k',he=>by simp only[xB]at he;simp only[List.map_cons,tr,Nu];exact F6 he
 | .stop P::k,k',he=>by simp only[xB]at he;simp only[List.map_cons,tr,Ct];exact F6 he
theorem BN {cd:Nat→Option AF} {R:List RV} {Q:V→H→Prop} {b:AC} {P P':Fr→H→Prop} {k:List KI} {f:Fr} {h:H} (hp:∀f h,P f h→P' f h) (hw:WS cd (.c b:: .stop P::k) f h R Q):WS cd (.c b:: .stop P'::k) f h R Q:=by
 simp only[WS,cont]at hw⊢
 refine W.mono hw (fun e f' h' he=> ?_)
 cases e with
 |norm=>exact hp _ _ he
 |exit i=>exact he
 |ret=>exact he
theorem Mp {cd:Nat→Option AF} {pd:List (Nat×Nat)} {R:List RV} {Q:List (Bool×List E)→List E→Prop} {k:List VK} {f:UT} {st:St} (hv:VX cd pd R Q k f st):
 ∀ {Γ:Cx} {mf:Fr} {h:H},IF Γ=pd→Rel Γ f st mf h→WS cd (k.map (tr Γ)) mf h R (M8 Γ.un (Hp Γ) Q):=by
 induction hv with
 |nil h1 h2=>intro Γ mf h hp hr;simp only[List.map_nil,JZ];subst hp;exact IL hr h1 h2
 |b _ ih=>intro Γ mf h hp hr;simp only[List.map_cons,tr,NL];exact ih hp hr
 |stop h1=>intro Γ mf h hp hr;simp only[List.map_cons,tr,BQ];exact⟨_,_,hr,h1⟩
 |skip _ ih=>intro Γ mf h hp hr;simp only[List.map_cons,tr,oV];exact ih hp hr
 |ret h1 h2=>intro Γ mf h hp hr;simp only[List.map_cons,tr,E5];subst hp;exact IL hr h1 h2
 |exit h1 _ ih=>intro Γ mf h hp hr;simp only[List.map_cons,tr,Cr];rw[F6 h1];exact ih hp hr
 |seq _ ih=>intro Γ mf h hp hr;have:=ih hp hr;simp only[List.map_cons,tr,hU]at this⊢;exact this
 |block _ ih=>intro Γ mf h hp hr;have:=ih hp hr;simp only[List.map_cons,tr,sJ]at this⊢;exact this
 |cond v h1 _ ih=>
  intro Γ mf h hp hr
  have:=ih hp hr
  obtain⟨γ,hg⟩:=hr
  simp only[List.map_cons,tr,sk,de hg h1 rfl]at this⊢
  cases v
  ·simpa only[sD,Bool.false_eq_true,if_false]using this
  ·simpa only[Gw,if_true]using this
 |ops _ ih=>intro Γ mf h hp hr;simp only[List.map_cons,tr,cv];exact ih hp hr
 | @i a l k f st f' st' h1 _ ih=>
   intro Γ mf h hp hr
   obtain⟨mf',h',k1,k2⟩:=MZ hr h1
   have hpl:a.plain=true:=by cases a <;>first|rfl|(simp[bk]at h1)
   simp only[List.map_cons,tr]
   rw[eh a hpl,k1,Gx]
   exact ih hp k2
 | @gy s w d a l k f st h1 h2 ih=>
   intro Γ mf h hp hr
   have:=ih hp hr
   obtain⟨γ,hg⟩:=hr
   simp only[List.map_cons,tr,M7,MH hg h1,GB,if_true]at this⊢
   exact this
 | @gn s w d a l k f st h1 h2 ih=>
   intro Γ mf h hp hr
   obtain⟨γ,hg⟩:=hr
   have:=ih hp ⟨γ,UR.eB hg (v:= .tup []) (u:= .tup []) ⟨[],rfl,trivial⟩⟩
   simp only[List.map_cons,tr,M7,MH hg h1,GB]at this⊢
   rw[if_neg (by cases w <;>simp)]
   exact this
 | @call d g q xs l k f st vs as Q' sh h1 h2 h3 h4 h5 _ ih=>
   intro Γ mf h hp hr
   obtain⟨ms,m1,m2⟩:=LF (d:=d) hr h1 sh h2 h3 h4 h5
   simp only[List.map_cons,tr]
   cases q with
   |false=>
    rw[tD,m1,kG]
    exact m2.mono fun r h' ⟨rs,q1,_,q2⟩=>ih rs q1 hp q2
   |true=>
    rw[Em,m1,kG]
    exact m2.mono fun r h' ⟨rs,q1,q3,q2⟩=>⟨q3,ih rs q1 hp q2⟩
 |callp W rs ys h1 h2 h3 h4 h5 h6 h7 h8 h9 h10 h11 _ ih=>
  intro Γ mf h hp hr
  obtain⟨ms,m1,m2⟩:=Dz hr h1 h2 h3 h4 h5 h6 h7 h8 h9 h10 h11
  simp only[List.map_cons,tr]
  rw[tD,m1,kG]
  exact m2.mono fun r h' ⟨x,q1,_,q2⟩=>ih x q1 hp q2
 |callpe W rs ys h1 h2 h3 h4 h5 h6 h7 h8 e1 e2 h9 h10 h11 _ ih=>
  intro Γ mf h hp hr
  obtain⟨ms,m1,m2⟩:=Dz hr h1 h2 h3 h4 h5 h6 h7 h8 h9 h10 h11
  simp only[List.map_cons,tr]
  rw[Ob,m1,kG]
  exact m2.mono fun r h' ⟨x,q1,q3,q2⟩=>⟨q3 _ e1 e2,ih x q1 hp q2⟩
 |clv h1 _ ih=>
  intro Γ mf h hp hr
  have:=ih hp hr
  obtain⟨γ,hg⟩:=hr
  simp only[List.map_cons,tr,IU,de hg h1 rfl,Ms]at this⊢
  exact this
 | @loop ds b k f st σ F S J s0 g0 h1 h2 _ ih=>
   intro Γ mf h hp hr
   simp only[List.map_cons,tr]
   refine CL (fun g mf h=>∃s,J s g∧Rel Γ (F s) (S s) (forget mf ds) h) g0 ⟨s0,h1,h2 Γ _ _ (Rel.forget ds hr)⟩ (fun g mf h ⟨s,q1,q2⟩=> ?_)
   have:=ih s g q1 hp q2
   simp only[List.map_cons,tr]at this
   exact BN (fun mf' h' ⟨f',st',r1,s',g',r2,r3,r4⟩=>⟨g',r2,s',r3,r4 Γ _ _ (Rel.forget ds r1)⟩) this
end Go.Eng
namespace Go.Eng
def mA (f:UT) (n:Nat):List (Bool×List D)→UT
 | []=>f
 |(g,ds)::r=>mA (UW f n (.val g ds)) (n+1) r
section
variable {Γ:Cx} {γ:Gh} {f:UT} {st:St} {mf:Fr} {h:H}
theorem aB.enter:∀ {ds:List (Bool×List D)} {ms:List (Bool×List C)} {f:UT} {mf:Fr} {n:Nat},aB Γ γ f st mf h→ah (DG Γ γ st h) ms ds→aB Γ γ (mA f n ds) st (cZ mf n ms) h
 | [],[],_,_,_,hr,_=>hr
 |(g,d)::ds,(g',c)::ms,f,mf,n,hr,ha=>by
  obtain⟨⟨h1,h2⟩,h3⟩:=ha
  simp only at h1
  subst h1
  simp only[mA,cZ]
  exact aB.enter (hr.set (mv:= .val g' c) (uv:= .val g' d) ⟨c,rfl,h2⟩) h3
theorem aB.full (hr:aB Γ γ UT.leaf st PT.leaf h) (n:Nat):aB Γ γ (UT.full n) st (PT.full n) h:=
 {hr with fr:=fun k=>(by rw[PT.fg,UT.fg];intro cs e;cases e)}
end
theorem aa {cd:Nat→Option AF} {g:Nat} {a:AF} (hg:cd g=some a) {ds:List (Bool×List D)} (hl:ds.length=a.np) {Q:List (Bool×List E)→List E→Prop}
 (hv:VX cd [] a.res Q [.c a.body] (mA (UT.full a.dep) 0 ds) ⟨cT (bJ ds),[]⟩):VC cd g (bJ ds) Q:=by
 intro Γ ms hp hb
 obtain⟨γ,hr,hc⟩:=hb
 rw[hC]at hr hc
 rw[nr]
 have hm:ms.length=a.np:=by rw[←hl];exact hc.length
 refine aZ hg hm ?_
 have h1:=(hr.full a.dep).enter (n:=0) hc
 have h2:=Mp hv (Γ:=Γ) (by unfold IF;rw[hp];rfl) ⟨γ,by simpa using h1⟩
 have e1:Γ.un=Γ:=by cases Γ;simp only at hp;subst hp;rfl
 have e2:Hp Γ= []:=by unfold Hp;rw[hp];rfl
 rw[e1,e2]at h2
 exact h2
def pK (as1:List (Bool×List D)) (ty:Nat) (xs:List E0) (as2:List (Bool×List D)):List (Bool×List E):=bJ as1++(false,[.pt ty xs])::bJ as2
def nC (as:List (Bool×List D)):Nat:=cT (bJ as)
theorem DO:∀(as bs:List (Bool×List E)) (k v:Nat),bd k v (as++bs)=((bd k v as).1++(bd (k+cT as) (v+cT as) bs).1,(bd k v as).2++(bd (k+cT as) (v+cT as) bs).2)
 | [],bs,k,v=>by simp[bd,cT]
 |(g,es)::as,bs,k,v=>by
  simp only[List.cons_append,bd,DO as,cT,List.append_assoc,Prod.mk.injEq,List.cons.injEq,true_and]
  rw[show k+cA es+cT as=k+(cA es+cT as)by omega,show v+cA es+cT as=v+(cA es+cT as)by omega]
  exact⟨rfl,rfl⟩
theorem J3 (as1:List (Bool×List D)) (ty:Nat) (xs:List E0) (as2:List (Bool×List D)) (k v:Nat):
 bd k v (pK as1 ty xs as2)=(as1++(false,[.pt (k+nC as1) (v+nC as1) 0])::as2,(k+nC as1, .pt (v+nC as1) ty (aW (k+nC as1+1) (v+nC as1+1) xs).1)::(aW (k+nC as1+1) (v+nC as1+1) xs).2):=by
 unfold pK
 rw[DO,hC]
 simp only[bd,aQ,hC,List.append_nil,List.nil_append]
 rfl
theorem Dv:∀ {as1:List (Bool×List D)} {ty:Nat} {xs:List E0} {as2:List (Bool×List D)} {ms1:List (Bool×List C)} {g:Bool} {c:C} {ms2:List (Bool×List C)},ms1.length=as1.length→sm (ms1++(g,[c])::ms2) (pK as1 ty xs as2)= [c]
 | [],ty,xs,as2,[],g,c,ms2,_=>by
   have:=nr ms2 as2
   simp only[pK,bJ,List.map_nil,List.nil_append,sm,sr]at this⊢
   rw[this];rfl
 |(g',ds)::as1,ty,xs,as2,(g1,cs)::ms1,g,c,ms2,hl=>by
  have:=Dv (as1:=as1) (ty:=ty) (xs:=xs) (as2:=as2) (ms1:=ms1) (g:=g) (c:=c) (ms2:=ms2) (by simpa using hl)
  simp only[pK,bJ,List.map_cons,List.cons_append,sm,yq,List.nil_append]at this⊢
  exact this
 | [],_,_,_,_::_,_,_,_,hl=>by simp at hl
 |_::_,_,_,_,[],_,_,_,hl=>by simp at hl
theorem ah.split {α β:Type} {R:α→β→Prop}:∀ {xs:List α} {ys zs:List β},ah R xs (ys++zs)→∃x1 x2,xs=x1++x2∧ah R x1 ys∧ah R x2 zs
 |xs,[],zs,h=>⟨[],xs,rfl,trivial,h⟩
 | [],_::_,_,h=>h.elim
 |x::xs,y::ys,zs,h=>by
  obtain⟨x1,x2,rfl,h1,h2⟩:=ah.split h.2
  exact⟨x::x1,x2,rfl,⟨h.1,h1⟩,h2⟩
theorem bg {cd:Nat→Option AF} {g:Nat} {a:AF} (hg:cd g=some a) {as1 as2:List (Bool×List D)} {ty:Nat} {xs:List E0} (hl:as1.length+1+as2.length=a.np) {Q:List (Bool×List E)→List E→Prop}
 (hv:VX cd [(K0+nC as1,nC as1)] a.res Q [.c a.body] (mA (UT.full a.dep) 0 (as1++(false,[.pt (K0+nC as1) (nC as1) 0])::as2))
   ⟨nC as1+(1+xs.length+nC as2),(K0+nC as1, .pt (nC as1) ty (aW (K0+nC as1+1) (nC as1+1) xs).1)::(aW (K0+nC as1+1) (nC as1+1) xs).2⟩):VC cd g (pK as1 ty xs as2) Q:=by
 intro Γ ms hp hb
 obtain⟨γ,hr,hc⟩:=hb
 have hsz:cT (pK as1 ty xs as2)=nC as1+(1+xs.length+nC as2):=by
  have:∀as bs:List (Bool×List E),cT (as++bs)=cT as+cT bs:=by
   intro as bs
   induction as with
   |nil=>simp[cT]
   |cons a r ih=>obtain⟨g,es⟩:=a;simp only[List.cons_append,cT,ih];omega
  unfold pK nC
  rw[this]
  simp only[cT,cA]
  omega
 rw[J3]at hr hc
 rw[hsz]at hr hc
 simp only[Nat.zero_add]at hr hc
 obtain⟨ms1,ms2',rfl,c1,c2⟩:=ah.split hc
 match ms2',c2 with
 |(g0,cs0)::ms2,c2=>
 obtain⟨⟨h0,h1⟩,c3⟩:=c2
 simp only at h0 h1
 subst h0
 match cs0,h1 with
 | [c0],h1=>
 obtain⟨id,e1,e2⟩:=h1.1.2 ty _ (by rw[ay,if_pos rfl])
 subst e2
 rw[Dv c1.length]
 refine aZ hg (by rw[←hl];simp only[List.length_append,List.length_cons,c1.length,c3.length];omega) ?_
 have hr2:aB ⟨Γ.hb,Γ.ar,Γ.bs,[(K0+nC as1,nC as1,id)]⟩ γ UT.leaf _ PT.leaf Γ.hb:= {hr with
  pin:=fun p hp=>by
   simp only[List.mem_singleton]at hp
   subst hp
   exact⟨h1.1.1,fun _ _ _=>e1⟩}
 have h2:=(hr2.full a.dep).enter (n:=0) hc
 have h3:=Mp hv (Γ:=⟨Γ.hb,Γ.ar,Γ.bs,[(K0+nC as1,nC as1,id)]⟩) rfl ⟨γ,by simpa using h2⟩
 have e3:Cx.un ⟨Γ.hb,Γ.ar,Γ.bs,[(K0+nC as1,nC as1,id)]⟩=Γ:=by cases Γ;simp only at hp;subst hp;rfl
 rw[e3]at h3
 exact h3
def Pr (o:Option (List (Bool×List E)×List E)) (Q:List (Bool×List E)→List E→Prop):Prop:=
 match o with
 |some (rs,ps)=>Q rs ps
 |none=>False
def ku (cd:Nat→Option AF) (pd:List (Nat×Nat)) (R:List RV) (Q:List (Bool×List E)→List E→Prop) (o:Option (UT×St)) (l:List IT) (k:List VK):Prop:=
 match o with
 |some (f,st)=>VX cd pd R Q (.c (.ops l)::k) f st
 |none=>False
def Kp (o:Option D) (A B:Prop):Prop:=
 match o with
 |some (.bool true)=>A
 |some (.bool false)=>B
 |_=>False
def PL (cd:Nat→Option AF) (pd:List (Nat×Nat)) (R:List RV) (Q:List (Bool×List E)→List E→Prop) (o:Option (List VK)) (f:UT) (st:St):Prop:=
 match o with
 |some k=>VX cd pd R Q k f st
 |none=>False
section
variable {cd:Nat→Option AF} {pd:List (Nat×Nat)} {R:List RV} {Q:List (Bool×List E)→List E→Prop} {k:List VK} {f:UT} {st:St}
theorem Oo:VX cd pd R Q [] f st=Pr (yW f st R pd) Q:=by
 apply propext
 constructor
 ·intro h;cases h with|nil h1 h2=>rw[h1];exact h2
 ·intro h
  cases hx:yW f st R pd with
  |none=>rw[hx]at h;exact h.elim
  |some p=>obtain⟨rs,ps⟩:=p;rw[hx]at h;exact .nil hx h
theorem PG {i:Nat}:VX cd pd R Q (.b i::k) f st=VX cd pd R Q k f st:=propext ⟨fun h=>by cases h;assumption, .b⟩
theorem Mb {P:UT→St→Prop}:VX cd pd R Q (.stop P::k) f st=P f st:=propext ⟨fun h=>by cases h;assumption, .stop⟩
theorem KB:VX cd pd R Q (.c .skip::k) f st=VX cd pd R Q k f st:=propext ⟨fun h=>by cases h;assumption, .skip⟩
theorem Ni:VX cd pd R Q (.c .ret::k) f st=Pr (yW f st R pd) Q:=by
 apply propext
 constructor
 ·intro h;cases h with|ret h1 h2=>rw[h1];exact h2
 ·intro h
  cases hx:yW f st R pd with
  |none=>rw[hx]at h;exact h.elim
  |some p=>obtain⟨rs,ps⟩:=p;rw[hx]at h;exact .ret hx h
theorem L7 {id:Nat}:VX cd pd R Q (.c (.exit id)::k) f st=PL cd pd R Q (xB id k) f st:=by
 apply propext
 constructor
 ·intro h;cases h with|exit h1 h2=>rw[h1];exact h2
 ·intro h
  cases hx:xB id k with
  |none=>rw[hx]at h;exact h.elim
  |some k'=>rw[hx]at h;exact .exit hx h
theorem Ol {a b:AC}:VX cd pd R Q (.c (.seq a b)::k) f st=VX cd pd R Q (.c a:: .c b::k) f st:=propext ⟨fun h=>by cases h;assumption, .seq⟩
theorem Iz {id:Nat} {b:AC}:VX cd pd R Q (.c (.block id b)::k) f st=VX cd pd R Q (.c b:: .b id::k) f st:=propext ⟨fun h=>by cases h;assumption, .block⟩
theorem LJ {x:X} {a c:AC}:VX cd pd R Q (.c (.cond x a c)::k) f st=Kp (eO f x) (VX cd pd R Q (.c a::k) f st) (VX cd pd R Q (.c c::k) f st):=by
 apply propext
 constructor
 ·intro h
  cases h with
  |cond v h1 h2=>rw[h1];cases v <;>simpa[Kp]using h2
 ·intro h
  unfold Kp at h
  split at h
  ·rename_i hx;exact .cond true hx (by simpa using h)
  ·rename_i hx;exact .cond false hx (by simpa using h)
  ·exact h.elim
theorem Oa:VX cd pd R Q (.c (.ops [])::k) f st=VX cd pd R Q k f st:=propext ⟨fun h=>by cases h;assumption, .ops⟩
theorem PN {a:AI} {l:List IT} (ha:a.plain=true):VX cd pd R Q (.c (.ops (.i a::l))::k) f st=ku cd pd R Q (bk a f st) l k:=by
 apply propext
 constructor
 ·intro h
  cases h with
  |i h1 h2=>rw[h1];exact h2
  |call=>simp[AI.plain]at ha
  |callp=>simp[AI.plain]at ha
  |clv=>simp[AI.plain]at ha
  |callpe=>simp[AI.plain]at ha
 ·intro h
  cases hx:bk a f st with
  |none=>rw[hx]at h;exact h.elim
  |some p=>obtain⟨f',st'⟩:=p;rw[hx]at h;exact .i hx h
theorem O8 {s d:Nat} {a:AI} {l:List IT}:VX cd pd R Q (.c (.ops (.g s true d a::l))::k) f st=Kp (gu f s true) (VX cd pd R Q (.c (.ops (.i a::l))::k) f st) (VX cd pd R Q (.c (.ops l)::k) (sn f d (.tup [])) st):=by
 apply propext
 constructor
 ·intro h
  cases h with
  |gy h1 h2=>rw[h1];exact h2
  |gn h1 h2=>rw[h1];exact h2
 ·intro h
  unfold Kp at h
  split at h
  ·rename_i hx;exact .gy hx h
  ·rename_i hx;exact .gn hx h
  ·exact h.elim
theorem OA {s d:Nat} {a:AI} {l:List IT}:VX cd pd R Q (.c (.ops (.g s false d a::l))::k) f st=Kp (gu f s false) (VX cd pd R Q (.c (.ops l)::k) (sn f d (.tup [])) st) (VX cd pd R Q (.c (.ops (.i a::l))::k) f st):=by
 apply propext
 constructor
 ·intro h
  cases h with
  |gy h1 h2=>rw[h1];exact h2
  |gn h1 h2=>rw[h1];exact h2
 ·intro h
  unfold Kp at h
  split at h
  ·rename_i hx;exact .gn hx h
  ·rename_i hx;exact .gy hx h
  ·exact h.elim
def Hj (cd:Nat→Option AF) (pd:List (Nat×Nat)) (R:List RV) (Q:List (Bool×List E)→List E→Prop) (o:Option D) (kt:List VK) (ft:UT) (kf:List VK) (ff:UT) (st:St):Prop:=Kp o (VX cd pd R Q kt ft st) (VX cd pd R Q kf ff st)
theorem Pu {kt kf:List VK} {ft ff:UT}:Hj cd pd R Q (some (.bool true)) kt ft kf ff st=VX cd pd R Q kt ft st:=rfl
theorem OU {kt kf:List VK} {ft ff:UT}:Hj cd pd R Q (some (.bool false)) kt ft kf ff st=VX cd pd R Q kf ff st:=rfl
theorem La {b:Bool} {kt kf:List VK} {ft ff:UT}:Hj cd pd R Q (some (.bool (!b))) kt ft kf ff st=Hj cd pd R Q (some (.bool b)) kf ff kt ft st:=by cases b <;>rfl
theorem dT {b:Bool} {kt kf:List VK} {ft ff:UT} (ht:b=true→VX cd pd R Q kt ft st) (hf:b=false→VX cd pd R Q kf ff st):Hj cd pd R Q (some (.bool b)) kt ft kf ff st:=by
 cases b
 ·exact hf rfl
 ·exact ht rfl
theorem aj {p:Prop} {_:Decidable p} {kt kf:List VK} {ft ff:UT} (ht:p→VX cd pd R Q kt ft st) (hf:¬p→VX cd pd R Q kf ff st):Hj cd pd R Q (some (.bool (decide p))) kt ft kf ff st:=by
 by_cases hp:p
 ·simp only[hp,decide_true,Pu];exact ht hp
 ·simp only[hp,decide_false,OU];exact hf hp
end
theorem VP {cd:Nat→Option AF} {pd:List (Nat×Nat)} {R:List RV} {Q:List (Bool×List E)→List E→Prop}:(∀(k:List VK) (f:UT) (st:St) (l:List IT) d_ x_,VX cd pd R Q (.c (.ops (.i (.mov d_ x_)::l))::k) f st=ku cd pd R Q (bk (.mov d_ x_) f st) l k)∧
 (∀(k:List VK) (f:UT) (st:St) (l:List IT) d_ c_ a_ b_,VX cd pd R Q (.c (.ops (.i (.pick d_ c_ a_ b_)::l))::k) f st=ku cd pd R Q (bk (.pick d_ c_ a_ b_) f st) l k)∧
 (∀(k:List VK) (f:UT) (st:St) (l:List IT) d_ x_,VX cd pd R Q (.c (.ops (.i (.lbox d_ x_)::l))::k) f st=ku cd pd R Q (bk (.lbox d_ x_) f st) l k)∧
 (∀(k:List VK) (f:UT) (st:St) (l:List IT) d_ cs_,VX cd pd R Q (.c (.ops (.i (.lal d_ cs_)::l))::k) f st=ku cd pd R Q (bk (.lal d_ cs_) f st) l k)∧
 (∀(k:List VK) (f:UT) (st:St) (l:List IT) d_ ty_ x_,VX cd pd R Q (.c (.ops (.i (.hbox d_ ty_ x_)::l))::k) f st=ku cd pd R Q (bk (.hbox d_ ty_ x_) f st) l k)∧
 (∀(k:List VK) (f:UT) (st:St) (l:List IT) d_ ty_ cs_,VX cd pd R Q (.c (.ops (.i (.hal d_ ty_ cs_)::l))::k) f st=ku cd pd R Q (bk (.hal d_ ty_ cs_) f st) l k)∧
 (∀(k:List VK) (f:UT) (st:St) (l:List IT) d_ z_ ps_,VX cd pd R Q (.c (.ops (.i (.bld d_ z_ ps_)::l))::k) f st=ku cd pd R Q (bk (.bld d_ z_ ps_) f st) l k)∧
 (∀(k:List VK) (f:UT) (st:St) (l:List IT) d_ ty_ e_ n_ z_ ps_,VX cd pd R Q (.c (.ops (.i (.bsl d_ ty_ e_ n_ z_ ps_)::l))::k) f st=ku cd pd R Q (bk (.bsl d_ ty_ e_ n_ z_ ps_) f st) l k)∧
 (∀(k:List VK) (f:UT) (st:St) (l:List IT) d_,VX cd pd R Q (.c (.ops (.i (.bse d_)::l))::k) f st=ku cd pd R Q (bk (.bse d_) f st) l k)∧
 (∀(k:List VK) (f:UT) (st:St) (l:List IT) d_ e_ n_ z_ ps_,VX cd pd R Q (.c (.ops (.i (.lsl d_ e_ n_ z_ ps_)::l))::k) f st=ku cd pd R Q (bk (.lsl d_ e_ n_ z_ ps_) f st) l k)∧
 (∀(k:List VK) (f:UT) (st:St) (l:List IT) d_ x_ o_,VX cd pd R Q (.c (.ops (.i (.fad d_ x_ o_)::l))::k) f st=ku cd pd R Q (bk (.fad d_ x_ o_) f st) l k)∧
 (∀(k:List VK) (f:UT) (st:St) (l:List IT) d_ x_ i_ e_,VX cd pd R Q (.c (.ops (.i (.iad d_ x_ i_ e_)::l))::k) f st=ku cd pd R Q (bk (.iad d_ x_ i_ e_) f st) l k)∧
 (∀(k:List VK) (f:UT) (st:St) (l:List IT) d_ x_ i_ e_ n_,VX cd pd R Q (.c (.ops (.i (.iaa d_ x_ i_ e_ n_)::l))::k) f st=ku cd pd R Q (bk (.iaa d_ x_ i_ e_ n_) f st) l k)∧
 (∀(k:List VK) (f:UT) (st:St) (l:List IT) d_ r_ x_ n_ g_,VX cd pd R Q (.c (.ops (.i (.ldl d_ r_ x_ n_ g_)::l))::k) f st=ku cd pd R Q (bk (.ldl d_ r_ x_ n_ g_) f st) l k)∧
 (∀(k:List VK) (f:UT) (st:St) (l:List IT) d_ x_ n_ g_,VX cd pd R Q (.c (.ops (.i (.ldh d_ x_ n_ g_)::l))::k) f st=ku cd pd R Q (bk (.ldh d_ x_ n_ g_) f st) l k)∧
 (∀(k:List VK) (f:UT) (st:St) (l:List IT) r_ x_ v_ n_,VX cd pd R Q (.c (.ops (.i (.stl r_ x_ v_ n_)::l))::k) f st=ku cd pd R Q (bk (.stl r_ x_ v_ n_) f st) l k)∧
 (∀(k:List VK) (f:UT) (st:St) (l:List IT) x_ v_ n_,VX cd pd R Q (.c (.ops (.i (.sth x_ v_ n_)::l))::k) f st=ku cd pd R Q (bk (.sth x_ v_ n_) f st) l k)∧
 (∀(k:List VK) (f:UT) (st:St) (l:List IT) d_ op_ x_ y_,VX cd pd R Q (.c (.ops (.i (.bin d_ op_ x_ y_)::l))::k) f st=ku cd pd R Q (bk (.bin d_ op_ x_ y_) f st) l k)∧
 (∀(k:List VK) (f:UT) (st:St) (l:List IT) d_ n_ x_ y_,VX cd pd R Q (.c (.ops (.i (.beq d_ n_ x_ y_)::l))::k) f st=ku cd pd R Q (bk (.beq d_ n_ x_ y_) f st) l k)∧
 (∀(k:List VK) (f:UT) (st:St) (l:List IT) d_ n_ x_,VX cd pd R Q (.c (.ops (.i (.snil d_ n_ x_)::l))::k) f st=ku cd pd R Q (bk (.snil d_ n_ x_) f st) l k)∧
 (∀(k:List VK) (f:UT) (st:St) (l:List IT) d_ m_ n_ x_ y_,VX cd pd R Q (.c (.ops (.i (.geq d_ m_ n_ x_ y_)::l))::k) f st=ku cd pd R Q (bk (.geq d_ m_ n_ x_ y_) f st) l k)∧
 (∀(k:List VK) (f:UT) (st:St) (l:List IT) d_ x_,VX cd pd R Q (.c (.ops (.i (.neg d_ x_)::l))::k) f st=ku cd pd R Q (bk (.neg d_ x_) f st) l k)∧
 (∀(k:List VK) (f:UT) (st:St) (l:List IT) d_ x_,VX cd pd R Q (.c (.ops (.i (.not d_ x_)::l))::k) f st=ku cd pd R Q (bk (.not d_ x_) f st) l k)∧
 (∀(k:List VK) (f:UT) (st:St) (l:List IT) d_ k_ x_,VX cd pd R Q (.c (.ops (.i (.cvi d_ k_ x_)::l))::k) f st=ku cd pd R Q (bk (.cvi d_ k_ x_) f st) l k)∧
 (∀(k:List VK) (f:UT) (st:St) (l:List IT) d_ x_,VX cd pd R Q (.c (.ops (.i (.cbs d_ x_)::l))::k) f st=ku cd pd R Q (bk (.cbs d_ x_) f st) l k)∧
 (∀(k:List VK) (f:UT) (st:St) (l:List IT) d_ ty_ e_ b_ z_ x_,VX cd pd R Q (.c (.ops (.i (.mks d_ ty_ e_ b_ z_ x_)::l))::k) f st=ku cd pd R Q (bk (.mks d_ ty_ e_ b_ z_ x_) f st) l k)∧
 (∀(k:List VK) (f:UT) (st:St) (l:List IT) d_ e_ x_ lo_ hi_,VX cd pd R Q (.c (.ops (.i (.fb d_ e_ x_ lo_ hi_)::l))::k) f st=ku cd pd R Q (bk (.fb d_ e_ x_ lo_ hi_) f st) l k)∧
 (∀(k:List VK) (f:UT) (st:St) (l:List IT) d_ x_ lo_ hi_,VX cd pd R Q (.c (.ops (.i (.sls d_ x_ lo_ hi_)::l))::k) f st=ku cd pd R Q (bk (.sls d_ x_ lo_ hi_) f st) l k)∧
 (∀(k:List VK) (f:UT) (st:St) (l:List IT) d_ x_ n_ e_,VX cd pd R Q (.c (.ops (.i (.sla d_ x_ n_ e_)::l))::k) f st=ku cd pd R Q (bk (.sla d_ x_ n_ e_) f st) l k)∧
 (∀(k:List VK) (f:UT) (st:St) (l:List IT) d_ x_ o_ n_ g_,VX cd pd R Q (.c (.ops (.i (.fld d_ x_ o_ n_ g_)::l))::k) f st=ku cd pd R Q (bk (.fld d_ x_ o_ n_ g_) f st) l k)∧
 (∀(k:List VK) (f:UT) (st:St) (l:List IT) d_ x_ i_ e_ n_ g_,VX cd pd R Q (.c (.ops (.i (.idx d_ x_ i_ e_ n_ g_)::l))::k) f st=ku cd pd R Q (bk (.idx d_ x_ i_ e_ n_ g_) f st) l k)∧
 (∀(k:List VK) (f:UT) (st:St) (l:List IT) d_ x_ i_,VX cd pd R Q (.c (.ops (.i (.ids d_ x_ i_)::l))::k) f st=ku cd pd R Q (bk (.ids d_ x_ i_) f st) l k)∧
 (∀(k:List VK) (f:UT) (st:St) (l:List IT) d_ x_ i_,VX cd pd R Q (.c (.ops (.i (.ext d_ x_ i_)::l))::k) f st=ku cd pd R Q (bk (.ext d_ x_ i_) f st) l k)∧
 (∀(k:List VK) (f:UT) (st:St) (l:List IT) d_ x_,VX cd pd R Q (.c (.ops (.i (.nch d_ x_)::l))::k) f st=ku cd pd R Q (bk (.nch d_ x_) f st) l k)∧
 (∀(k:List VK) (f:UT) (st:St) (l:List IT) d_ s_ x_,VX cd pd R Q (.c (.ops (.i (.len d_ s_ x_)::l))::k) f st=ku cd pd R Q (bk (.len d_ s_ x_) f st) l k)∧
 (∀(k:List VK) (f:UT) (st:St) (l:List IT) d_ ty_ e_ b_ x_ y_,VX cd pd R Q (.c (.ops (.i (.app d_ ty_ e_ b_ x_ y_)::l))::k) f st=ku cd pd R Q (bk (.app d_ ty_ e_ b_ x_ y_) f st) l k)∧
 (∀(k:List VK) (f:UT) (st:St) (l:List IT) d_ e_ x_ y_,VX cd pd R Q (.c (.ops (.i (.cpy d_ e_ x_ y_)::l))::k) f st=ku cd pd R Q (bk (.cpy d_ e_ x_ y_) f st) l k)∧
 (∀(k:List VK) (f:UT) (st:St) (l:List IT) d_ m_ x_ y_,VX cd pd R Q (.c (.ops (.i (.mm d_ m_ x_ y_)::l))::k) f st=ku cd pd R Q (bk (.mm d_ m_ x_ y_) f st) l k):=
 by(repeat' apply And.intro) <;>intros <;>exact PN rfl
def Mz (cd:Nat→Option AF) (pd:List (Nat×Nat)) (R:List RV) (Q:List (Bool×List E)→List E→Prop) (d g:Nat) (q:Bool) (l:List IT) (k:List VK) (f:UT) (st:St) (o:Option (List (Bool×List D))):Prop:=
 (∃(α:Type) (W:α→Prop) (rs:α→List (Bool×List E)) (ys:α→List E0),∃vs as us as' k0 v0 ty0 ty ds0,q=false∧o=some vs∧VC cd g as' (fun r p=>∃x,W x∧r=rs x∧p= [.pt ty (ys x)])∧gf (bX st vs) vs []=some (as,us)∧EL as=as'∧Bp vs= [(k0,v0)]∧(bX st vs).ptr k0 v0=some (ty0,ds0)∧us.elem k0=true∧Fq (bX st vs) us=true∧
    (∀x,W x→k0 < dk d∨dk d+cT (rs x)≤k0)∧k0 < 1099511627776∧(∀x,W x→dk d+cT (rs x)≤1099511627776)∧(∀x,W x→VX cd pd R Q (.c (.ops l)::k) (m7 f (bX st vs) d (rs x)) (ze (bX st vs) d (rs x) k0 v0 ty (ys x) us)))∨
 ∃vs as Q' sh,o=some vs∧gW (if sh then bX st vs else st) vs=some as∧(sh=true→HU (bX st vs) vs=true)∧VC cd g (bJ as) Q'∧(sh=false→∀rs ps,Q' rs ps→C1 rs=true)∧
  (∀rs,Q' rs []→VX cd pd R Q (.c (.ops l)::k) (m7 f (if sh then bX st vs else st) d rs) (kR (if sh then bX st vs else st) d rs))
def Pz (cd:Nat→Option AF) (pd:List (Nat×Nat)) (R:List RV) (Q:List (Bool×List E)→List E→Prop) (d:Nat) (q:Bool) (xs:List X) (l:List IT) (k:List VK) (f:UT) (st:St) (o:Option D):Prop:=
 match o with
 |some (.fn g)=>VX cd pd R Q (.c (.ops (.i (.call d g q xs)::l))::k) f st
 |_=>False
section
variable {cd:Nat→Option AF} {pd:List (Nat×Nat)} {R:List RV} {Q:List (Bool×List E)→List E→Prop} {k:List VK} {f:UT} {st:St}
theorem LC {d g:Nat} {q:Bool} {xs:List X} {l:List IT}:VX cd pd R Q (.c (.ops (.i (.call d g q xs)::l))::k) f st=Mz cd pd R Q d g q l k f st (jh f xs):=by
 apply propext
 constructor
 ·intro h
  cases h with
  |i h1 h2=>simp[bk]at h1
  |call Q' sh h1 h2 h3 h4 h5 h6=>exact .inr ⟨_,_,Q',sh,h1,h2,h3,h4,h5,h6⟩
  |callp W rs ys h1 h2 h3 h4 h5 h6 h7 h8 h9 h10 h11 h12=>exact .inl ⟨_,W,rs,ys,_,_,_,_,_,_,_,_,_,rfl,h1,h2,h3,h4,h5,h6,h7,h8,h9,h10,h11,h12⟩
 ·rintro(⟨α,W,rs,ys,vs,as,us,as',k0,v0,ty0,ty,ds0,rfl,h1,h2,h3,h4,h5,h6,h7,h8,h9,h10,h11,h12⟩|⟨vs,as,Q',sh,h1,h2,h3,h4,h5,h6⟩)
  ·exact .callp W rs ys h1 h2 h3 h4 h5 h6 h7 h8 h9 h10 h11 h12
  ·exact .call Q' sh h1 h2 h3 h4 h5 h6
theorem Nv {d:Nat} {q:Bool} {x:X} {xs:List X} {l:List IT}:VX cd pd R Q (.c (.ops (.i (.clv d q x xs)::l))::k) f st=Pz cd pd R Q d q xs l k f st (eO f x):=by
 apply propext
 constructor
 ·intro h
  cases h with
  |i h1 h2=>simp[bk]at h1
  |clv h1 h2=>rw[h1];exact h2
 ·intro h
  unfold Pz at h
  split at h
  ·rename_i hx;exact .clv hx h
  ·exact h.elim
theorem an {d g:Nat} {q:Bool} {l:List IT} {vs as:List (Bool×List D)} {rs:List (Bool×List E)} (hc:VC cd g (bJ as) (fun r _=>r=rs)) (ha:gW st vs=some as) (hn:C1 rs=true)
 (hk:VX cd pd R Q (.c (.ops l)::k) (m7 f st d rs) (kR st d rs)):Mz cd pd R Q d g q l k f st (some vs):=
 .inr ⟨vs,as,fun r _=>r=rs,false,rfl,(by simpa using ha),(fun h=>by cases h),hc,(fun _ r _ h=>by subst h;exact hn),(fun r h=>by subst h;simpa using hk)⟩
theorem Pc {d g:Nat} {q:Bool} {l:List IT} {vs as:List (Bool×List D)} {rs:List (Bool×List E)} (hc:VC cd g (bJ as) (fun r _=>r=rs)) (ha:gW (bX st vs) vs=some as) (hn:HU (bX st vs) vs=true)
 (hk:VX cd pd R Q (.c (.ops l)::k) (m7 f (bX st vs) d rs) (kR (bX st vs) d rs)):Mz cd pd R Q d g q l k f st (some vs):=
 .inr ⟨vs,as,fun r _=>r=rs,true,rfl,(by simpa using ha),(fun _=>hn),hc,(fun h=>by cases h),(fun r h=>by subst h;simpa using hk)⟩
theorem O6 {d g:Nat} {l:List IT} {vs:List (Bool×List D)} {as as':List (Bool×List E)} {us:List Nat} {k0 v0 ty0 ty:Nat} {ds0:List D} {rs:List (Bool×List E)} {ys:List E0} (hc:VC cd g as' (fun r p=>r=rs∧p= [.pt ty ys])) (he:gf (bX st vs) vs []=some (as,us)) (hn:EL as=as') (hp:Bp vs= [(k0,v0)]) (hl:(bX st vs).ptr k0 v0=some (ty0,ds0)) (hu:us.elem k0=true) (ho:Fq (bX st vs) us=true)
 (n1:k0 < dk d∨dk d+cT rs≤k0) (n2:k0 < 1099511627776) (n3:dk d+cT rs≤1099511627776) (hk:VX cd pd R Q (.c (.ops l)::k) (m7 f (bX st vs) d rs) (ze (bX st vs) d rs k0 v0 ty ys us)):Mz cd pd R Q d g false l k f st (some vs):=
 .inl ⟨Unit,fun _=>True,fun _=>rs,fun _=>ys,vs,as,us,as',k0,v0,ty0,ty,ds0,rfl,rfl,hc.mono (fun r p h=>⟨(),trivial,h.1,h.2⟩),he,hn,hp,hl,hu,ho,fun _ _=>n1,n2,fun _ _=>n3,fun _ _=>hk⟩
theorem GN {ds:List Nat} {b:AC} {σ:Type} (F:σ→UT) (S:σ→St) (J:σ→Nat→Prop) (s0:σ) (g0:Nat) (h0:J s0 g0) (hw:dD (cI f ds) st (F s0) (S s0))
 (hr:∀s g,J s g→VX cd pd R Q (.c b:: .stop (fun f' st'=>∃s' g',g' < g∧J s' g'∧dD (cI f' ds) st' (F s') (S s'))::k) (F s) (S s)):VX cd pd R Q (.c (.loop ds b)::k) f st:=
 .loop F S J s0 g0 h0 hw hr
end
inductive CY:List VK→List VK→Prop
 |nil:CY [] []
 |c {a k k'}:CY k k'→CY (.c a::k) (.c a::k')
 |b {i k k'}:CY k k'→CY (.b i::k) (.b i::k')
 |stop {P P' k k'}:(∀f st,P f st→P' f st)→CY k k'→CY (.stop P::k) (.stop P'::k')
theorem CY.refl:∀k,CY k k
 | []=> .nil
 | .c _::k=> .c (CY.refl k)
 | .b _::k=> .b (CY.refl k)
 | .stop _::k=> .stop (fun _ _ h=>h) (CY.refl k)
theorem CY.ex {id:Nat} {k k1:List VK}:∀ {k':List VK},CY k k'→xB id k=some k1→∃k1',xB id k'=some k1'∧CY k1 k1':=by
 intro k' hk
 induction hk with
 |nil=>intro h;simp[xB]at h
 |c _ ih=>intro h;simp only[xB]at h⊢;exact ih h
 | @b i k k' hk ih=>
   intro h
   simp only[xB]at h⊢
   split at h
   ·rename_i hi;simp at h;subst h;rw[if_pos hi];exact⟨_,rfl,hk⟩
   ·rename_i hi;rw[if_neg hi];exact ih h
 |stop _ _ ih=>intro h;simp only[xB]at h⊢;exact ih h
theorem VX.le {cd:Nat→Option AF} {pd:List (Nat×Nat)} {R:List RV} {Q:List (Bool×List E)→List E→Prop} {k:List VK} {f:UT} {st:St} (hv:VX cd pd R Q k f st):∀ {k'},CY k k'→VX cd pd R Q k' f st:=by
 induction hv with
 |nil h1 h2=>intro k' hk;cases hk;exact .nil h1 h2
 |b _ ih=>intro k' hk;cases hk with|b hk=>exact .b (ih hk)
 |stop h1=>intro k' hk;cases hk with|stop hp hk=>exact .stop (hp _ _ h1)
 |skip _ ih=>intro k' hk;cases hk with|c hk=>exact .skip (ih hk)
 |ret h1 h2=>intro k' hk;cases hk with|c hk=>exact .ret h1 h2
 |exit h1 _ ih=>intro k' hk;cases hk with|c hk=>obtain⟨k1,q1,q2⟩:=hk.ex h1;exact .exit q1 (ih q2)
 |seq _ ih=>intro k' hk;cases hk with|c hk=>exact .seq (ih (.c (.c hk)))
 |block _ ih=>intro k' hk;cases hk with|c hk=>exact .block (ih (.c (.b hk)))
 |cond v h1 _ ih=>intro k' hk;cases hk with|c hk=>exact .cond v h1 (ih (.c hk))
 |ops _ ih=>intro k' hk;cases hk with|c hk=>exact .ops (ih hk)
 |i h1 _ ih=>intro k' hk;cases hk with|c hk=>exact .i h1 (ih (.c hk))
 |gy h1 _ ih=>intro k' hk;cases hk with|c hk=>exact .gy h1 (ih (.c hk))
 |gn h1 _ ih=>intro k' hk;cases hk with|c hk=>exact .gn h1 (ih (.c hk))
 |call Q' sh h1 h2 h3 h4 h5 _ ih=>intro k' hk;cases hk with|c hk=>exact .call Q' sh h1 h2 h3 h4 h5 (fun rs hq=>ih rs hq (.c hk))
 |callp W rs ys h1 h2 h3 h4 h5 h6 h7 h8 h9 h10 h11 _ ih=>intro k' hk;cases hk with|c hk=>exact .callp W rs ys h1 h2 h3 h4 h5 h6 h7 h8 h9 h10 h11 (fun x hx=>ih x hx (.c hk))
 |clv h1 _ ih=>intro k' hk;cases hk with|c hk=>exact .clv h1 (ih (.c hk))
 |callpe W rs ys h1 h2 h3 h4 h5 h6 h7 h8 e1 e2 h9 h10 h11 _ ih=>intro k' hk;cases hk with|c hk=>exact .callpe W rs ys h1 h2 h3 h4 h5 h6 h7 h8 e1 e2 h9 h10 h11 (fun x hx=>ih x hx (.c hk))
 |loop F S J s0 g0 h1 h2 _ ih=>intro k' hk;cases hk with|c hk=>exact .loop F S J s0 g0 h1 h2 (fun s g hJ=>ih s g hJ (.c (.stop (fun _ _ h=>h) hk)))
def bV (f:UT):List (Nat×U)→UT
 | []=>f
 |(s,v)::r=>bV (UW f s v) r
theorem dD.of_eq {f f':UT} {st st':St} (hf:f=f') (hn:st.nx≤st'.nx) (hs:kD st st'.es):dD f st f' st':=by subst hf;exact dD.sub hn hs
theorem rW {cd:Nat→Option AF} {pd:List (Nat×Nat)} {R:List RV} {Q:List (Bool×List E)→List E→Prop} {k:List VK} {f:UT} {st:St} {ds:List Nat} {b:AC} {σ:Type} (f1:UT) (hf:cI f ds=f1)
 (jc:σ→List (Nat×U)) (es:σ→List (Nat×En)) (J:σ→Nat→Prop) (s0:σ) (g0:Nat) (hu:f1=bV f1 (jc s0)) (hs:kD st (es s0)) (h0:J s0 g0)
 (round:∀s n g,J s g→VX cd pd R Q (.c b:: .stop (fun f' st'=>∃s' g',g' < g∧J s' g'∧cI f' ds=bV f1 (jc s')∧kD st' (es s'))::k) (bV f1 (jc s)) ⟨n,es s⟩):
 VX cd pd R Q (.c (.loop ds b)::k) f st:=by
 refine GN (σ:=σ×Nat) (fun p=>bV f1 (jc p.1)) (fun p=>⟨p.2,es p.1⟩) (fun p g=>J p.1 g) (s0,st.nx) g0 h0 (dD.of_eq (by rw[hf];exact hu) (Nat.le_refl _) hs) (fun p g hJ=> ?_)
 exact(round p.1 p.2 g hJ).le (.c (.stop (fun f' st' ⟨s',g',h1,h2,h3,h4⟩=>⟨(s',st'.nx),g',h1,h2,dD.of_eq h3 (Nat.le_refl _) h4⟩) (CY.refl k)))
def Ko (k:Nat):List (Nat×En)→List (Nat×En)
 | []=> []
 |(k',e)::r=>if k=k' then Ko k r else(k',e)::Ko k r
def Mr:List (Nat×En)→List (Nat×En)
 | []=> []
 |(k,e)::r=>(k,e)::Ko k (Mr r)
def BC:List (Nat×En)→List (Nat×En)→List (Nat×En)
 |es,[]=>es
 |es,(k,e)::r=>(k,e)::Ko k (BC es r)
theorem bS {cd:Nat→Option AF} {pd:List (Nat×Nat)} {R:List RV} {Q:List (Bool×List E)→List E→Prop} {k:List VK} {f:UT} {st:St} {ds:List Nat} {b:AC} {σ:Type} (f1:UT) (es0:List (Nat×En)) (hf:cI f ds=f1) (he:Mr st.es=es0)
 (jc:σ→List (Nat×U)) (ue:σ→List (Nat×En)) (J:σ→Nat→Prop) (s0:σ) (g0:Nat) (hu:f1=bV f1 (jc s0)) (hs:kD st (BC es0 (ue s0))) (h0:J s0 g0)
 (round:∀s n g,J s g→VX cd pd R Q (.c b:: .stop (fun f' st'=>∃s' g',g' < g∧J s' g'∧cI f' ds=bV f1 (jc s')∧kD st' (BC es0 (ue s')))::k) (bV f1 (jc s)) ⟨n,BC es0 (ue s)⟩):
 VX cd pd R Q (.c (.loop ds b)::k) f st:=rW f1 hf jc (fun s=>BC es0 (ue s)) J s0 g0 hu hs h0 round
def bl (b:Bool):List (Bool×List E):= [(false,[.p (.bool b)])]
def it (n:Int):List (Bool×List E):= [(false,[.p (.int .i64 n)])]
abbrev Bytes:=List UInt8
def bytes (x:Bytes):List (List D):=x.map fun b=> [.int .u8 (b.toNat:Int)]
theorem aS (x:Bytes):(bytes x).length=x.length:=by simp[bytes]
theorem Af (x y:Bytes):bytes x++bytes y=bytes (x++y):=by simp[bytes]
theorem Fh (x:Bytes):flat (bytes x)=true:=by
 induction x with
 |nil=>rfl
 |cons b x ih=>simp only[bytes,List.map_cons,flat,cB,D.leaf]at ih⊢;simpa using ih
theorem jZ (x:Bytes):wid 1 (bytes x)=true:=by
 induction x with
 |nil=>rfl
 |cons b x ih=>simp only[bytes,List.map_cons,wid]at ih⊢;simpa using ih
theorem Oi {k:Nat} {e:En} {r:List (Nat×En)}:lk k ((k,e)::r)=some e:=by simp[lk]
end Go.Eng
set_option maxRecDepth 100000
namespace Go.Eng
theorem Hf (st:St) (e:Nat):u9 st e .nils=some ([],st,true):=by simp[u9,St.zq,wid,flat]
theorem VE:(∀(f:UT) (st:St) d x,bk (.mov d x) f st=(match wy f x with
 | .box _=>none
 | .lsl _ _ _=>none
 | .any=>none
 |v=>some (UW f d v,st)))∧
 (∀(f:UT) (st:St) d c a b,bk (.pick d c a b) f st=(match eO f c with
     |some (.bool true)=>match sd f a with|some (g,cs)=>some (UW f d (.val g cs),st)|none=>none
     |some (.bool false)=>match sd f b with|some (g,cs)=>some (UW f d (.val g cs),st)|none=>none
     |_=>none))∧
 (∀(f:UT) (st:St) d x,bk (.lbox d x) f st=(match UF f d with
     | .box _=>none
     |_=>match sd f x with
      |some (_,cs)=>some (UW f d (.box cs),st)
      |none=>none))∧
 (∀(f:UT) (st:St) d cs,bk (.lal d cs) f st=(match UF f d with
     | .box _=>none
     |_=>match Cm cs with
      |some ds=>some (UW f d (.box ds),st)
      |none=>none))∧
 (∀(f:UT) (st:St) d ty x,bk (.hbox d ty x) f st=(match sd f x with
     |some (_,ds)=>some (UW f d (.val false [.pt d st.nx 0]),st.G9 d ty ds)
     |none=>none))∧
 (∀(f:UT) (st:St) d ty cs,bk (.hal d ty cs) f st=(match Cm cs with
     |some ds=>some (UW f d (.val false [.pt d st.nx 0]),st.G9 d ty ds)
     |none=>none))∧
 (∀(f:UT) (st:St) d z ps,bk (.bld d z ps) f st=(match Cm z with
     |some z=>match jF f z ps with
      |some ds=>some (UW f d (.val true ds),st)
      |none=>none
     |none=>none))∧
 (∀(f:UT) (st:St) d ty esz len z ps,bk (.bsl d ty esz len z ps) f st=(match Cm z with
     |some z=>match jF f ((List.replicate len z).flatten) ps with
      |some ds=>match st.EM ds with
       |some (ds',st',b)=>if ds'.length=len * esz then some (UW f d (.val false [.ow d st'.nx]),st'.news d true b (some (ty,esz)) (chunks esz len ds'))else none
       |none=>none
      |none=>none
     |none=>none))∧
 (∀(f:UT) (st:St) d,bk (.bse d) f st=(some (UW f d (.val false [.ow d st.nx]),st.news d true true none [])))∧
 (∀(f:UT) (st:St) d esz len z ps,bk (.lsl d esz len z ps) f st=(match Cm z with
     |some z=>match jF f ((List.replicate len z).flatten) ps with
      |some ds=>some (UW f d (.lsl ds len esz),st)
      |none=>none
     |none=>none))∧
 (∀(f:UT) (st:St) d x off,bk (.fad d x off) f st=(match wy f x with
     | .lref r o=>some (UW f d (.lref r (o+off)),st)
     | .val false [.pt k v o]=>match st.ptr k v with
       |some _=>some (UW f d (.val false [.pt k v (o+off)]),st)
       |none=>none
     | .val false [.pe x o]=>some (UW f d (.val false [.pe x (o+off)]),st)
     | .val false [.px k v j o]=>match st.fb k v with
       |some (true,_)=>some (UW f d (.val false [.px k v j (o+off)]),st)
       |_=>none
     |_=>none))∧
 (∀(f:UT) (st:St) d x i esz,bk (.iad d x i esz) f st=(match eO f x,eO f i with
     |some c,some (.int _ j)=>if 0≤j then(match c with
      | .sl xs=>match xs[j.toNat]? with
        |some x=>if x.length=esz then some (UW f d (.val false [.pe x 0]),st)else none
        |none=>none
      | .ow k v=>match st.fb k v with
        |some (o,_,_,xs)=>match xs[j.toNat]? with
         |some x=>if x.length=esz then some (UW f d (.val false [if o then .px k v j.toNat 0 else .pe x 0]),st)else none
         |none=>none
        |none=>none
      | .sa k v o n e=>match st.ptr k v with
        |some _=>if e=esz∧j < (n:Int)then some (UW f d (.val false [.pt k v (o+j.toNat * esz)]),st)else none
        |none=>none
      |_=>none)else none
     |_,_=>none))∧
 (∀(f:UT) (st:St) d x i esz len,bk (.iaa d x i esz len) f st=(match eO f i with
     |some (.int _ j)=>
      if 0≤j∧j < (len:Int)then match wy f x with
       | .lref r o=>some (UW f d (.lref r (o+j.toNat * esz)),st)
       | .val false [.pt k v o]=>match st.ptr k v with
         |some _=>some (UW f d (.val false [.pt k v (o+j.toNat * esz)]),st)
         |none=>none
       |_=>none
      else none
     |_=>none))∧
 (∀(f:UT) (st:St) d r x n g,bk (.ldl d r x n g) f st=(match wy f x with
     | .lref r' o=>match UF f r with
       | .box ds=>if r'=r∧o+n≤ds.length then some (UW f d (.val g ((ds.drop o).take n)),st)else none
       |_=>none
     |_=>none))∧
 (∀(f:UT) (st:St) d x n g,bk (.ldh d x n g) f st=(match eO f x with
     |some (.pt k v o)=>match st.ptr k v with
      |some (_,ds)=>if o+n≤ds.length then some (UW f d (.val g ((ds.drop o).take n)),st)else none
      |none=>none
     |some (.pe x o)=>if o+n≤x.length then some (UW f d (.val g ((x.drop o).take n)),st)else none
     |some (.px k v j o)=>match st.fb k v with
      |some (true,_,_,xs)=>match xs[j]? with
       |some x=>if o+n≤x.length then some (UW f d (.val g ((x.drop o).take n)),st)else none
       |none=>none
      |_=>none
     |_=>none))∧
 (∀(f:UT) (st:St) r x v n,bk (.stl r x v n) f st=(match wy f x,sd f v with
     | .lref r' o,some (_,vs)=>match UF f r with
       | .box ds=>if r'=r∧vs.length=n∧o+n≤ds.length then some (UW f r (.box (aR ds o vs)),st)else none
       |_=>none
     |_,_=>none))∧
 (∀(f:UT) (st:St) x v n,bk (.sth x v n) f st=(match eO f x,sd f v with
     |some (.pt k w o),some (_,vs)=>match st.ptr k w with
      |some (ty,ds)=>if vs.length=n∧o+n≤ds.length then some (f,st.put k (.pt w ty (aR ds o vs)))else none
      |none=>none
     |some (.px k w j o),some (_,vs)=>match st.EM vs with
      |some (vs',st',b)=>match st'.fb k w with
       |some (true,dp,t,xs)=>match xs[j]? with
        |some x=>if vs.length=n∧o+n≤x.length then some (f,st'.put k (.sl w true (dp && cB vs && cB x) t (xs.set j (aR x o vs'))))else none
        |none=>none
       |_=>none
      |none=>none
     |_,_=>none))∧
 (∀(f:UT) (st:St) d op x y,bk (.bin d op x y) f st=(match eO f x,eO f y with
     |some a,some b=>match LP op a b with
      |some c=>some (UW f d (.val false [c]),st)
      |none=>none
     |_,_=>none))∧
 (∀(f:UT) (st:St) d neg x y,bk (.beq d neg x y) f st=(match eO f x,eO f y with
     |some (.bool a),some (.bool b)=>some (UW f d (.val false [.bool (if neg then !(a==b)else(a==b))]),st)
     |_,_=>none))∧
 (∀(f:UT) (st:St) d neg x,bk (.snil d neg x) f st=(match eO f x with
     |some .nils=>some (UW f d (.val false [.bool (!neg)]),st)
     |some c=>match st.zq c with
      |some xs=>if xs.isEmpty then none else some (UW f d (.val false [.bool neg]),st)
      |none=>none
     |_=>none))∧
 (∀(f:UT) (st:St) d n neg x y,bk (.geq d n neg x y) f st=(match sd f x,sd f y with
     |some (true,a),some (true,b)=>if a.length=n then(match JN a,JN b with
      |some a,some b=>match uR a b with
       |some r=>some (UW f d (.val false [.bool (if neg then !r else r)]),st)
       |none=>none
      |_,_=>none)else none
     |_,_=>none))∧
 (∀(f:UT) (st:St) d x,bk (.neg d x) f st=(match eO f x with
     |some (.int k n)=>some (UW f d (.val false [.int k (k.wrap (0 - n))]),st)
     |_=>none))∧
 (∀(f:UT) (st:St) d x,bk (.not d x) f st=(match eO f x with
     |some (.bool b)=>some (UW f d (.val false [.bool (!b)]),st)
     |_=>none))∧
 (∀(f:UT) (st:St) d k x,bk (.cvi d k x) f st=(match eO f x with
     |some (.int _ n)=>some (UW f d (.val false [.int k (k.wrap n)]),st)
     |_=>none))∧
 (∀(f:UT) (st:St) d x,bk (.cbs d x) f st=(match eO f x with
     |some c=>match st.zq c with
      |some xs=>match vV xs with
       |some b=>some (UW f d (.val false [.str b]),st)
       |none=>none
      |none=>none
     |none=>none))∧
 (∀(f:UT) (st:St) d ty esz bytes z x,bk (.mks d ty esz bytes z x) f st=(match eO f x with
     |some (.int .i64 n)=>match L8 z with
      |some z'=>if 0≤n∧eb (n.toNat * bytes+n.toNat)=true∧z'.length=esz then
        some (UW f d (.val false [.ow d st.nx]),st.news d true true (some (ty,esz)) (List.replicate n.toNat z'))else none
      |none=>none
     |_=>none))∧
 (∀(f:UT) (st:St) d esz x lo hi,bk (.fb d esz x lo hi) f st=(match eO f x with
     |some .nils=>match cN f lo 0,cN f hi 0 with
      |some l,some u=>if l=0∧u=0 then some (UW f d (.val false [.nils]),st)else none
      |_,_=>none
     |some (.sl xs)=>match cN f lo 0,cN f hi xs.length with
      |some l,some u=>if wid esz xs=true∧0≤l∧l≤u∧u≤(xs.length:Int)then some (UW f d (.val false [.sl ((xs.drop l.toNat).take (u - l).toNat)]),st)else none
      |_,_=>none
     |some (.ow k v)=>match st.fb k v with
      |some (_,_,t,xs)=>match cN f lo 0,cN f hi xs.length with
       |some l,some u=>if wid esz xs=true∧0≤l∧l≤u∧u≤(xs.length:Int)then
         some (UW f d (.val false [.sl ((xs.drop l.toNat).take (u - l).toNat)]),st.put k (.sl v false false t xs))else none
       |_,_=>none
      |none=>none
     |some (.sa k v o n e)=>match st.ptr k v with
      |some _=>match cN f lo 0,cN f hi n with
       |some l,some u=>if e=esz∧0≤l∧l≤u∧u≤(n:Int)then some (UW f d (.val false [.sa k v (o+l.toNat * e) (u - l).toNat e]),st)else none
       |_,_=>none
      |none=>none
     |_=>none))∧
 (∀(f:UT) (st:St) d x lo hi,bk (.sls d x lo hi) f st=(match eO f x with
     |some (.str s)=>match cN f lo 0,cN f hi s.size with
      |some l,some u=>if 0≤l∧l≤u∧u≤(s.size:Int)then some (UW f d (.val false [.str (s.extract l.toNat u.toNat)]),st)else none
      |_,_=>none
     |_=>none))∧
 (∀(f:UT) (st:St) d x len esz,bk (.sla d x len esz) f st=(match eO f x with
     |some (.pt k v o)=>match st.ptr k v with
      |some (_,ds)=>if o+len * esz≤ds.length then some (UW f d (.val false [.sa k v o len esz]),st)else none
      |none=>none
     |_=>none))∧
 (∀(f:UT) (st:St) d x off n g,bk (.fld d x off n g) f st=(match sd f x with
     |some (true,ds)=>if off+n≤ds.length then some (UW f d (.val g ((ds.drop off).take n)),st)else none
     |_=>none))∧
 (∀(f:UT) (st:St) d x i esz len g,bk (.idx d x i esz len g) f st=(match sd f x,eO f i with
     |some (true,ds),some (.int _ j)=>
      if 0≤j∧j < (len:Int)∧j.toNat * esz+esz≤ds.length then some (UW f d (.val g ((ds.drop (j.toNat * esz)).take esz)),st)else none
     |_,_=>none))∧
 (∀(f:UT) (st:St) d x i,bk (.ids d x i) f st=(match eO f x,eO f i with
     |some (.str s),some (.int _ j)=>
      if 0≤j then match s.data.toList[j.toNat]? with
       |some b=>some (UW f d (.val false [.int .u8 (b.toNat:Int)]),st)
       |none=>none
      else none
     |_,_=>none))∧
 (∀(f:UT) (st:St) d x i,bk (.ext d x i) f st=(match wy f x with
     | .tup vs=>match vs[i]? with
       |some (g,ds)=>some (UW f d (.val g ds),st)
       |none=>none
     |_=>none))∧
 (∀(f:UT) (st:St) d x,bk (.nch d x) f st=(match wy f x with
     | .lref r o=>some (UW f d (.lref r o),st)
     | .val false [.pt k v o]=>match st.ptr k v with
       |some _=>some (UW f d (.val false [.pt k v o]),st)
       |none=>none
     | .val false [.pe x o]=>some (UW f d (.val false [.pe x o]),st)
     | .val false [.px k v j o]=>match st.fb k v with
       |some (true,_)=>some (UW f d (.val false [.px k v j o]),st)
       |_=>none
     | .val false [.fn g]=>some (UW f d (.val false [.fn g]),st)
     |_=>none))∧
 (∀(f:UT) (st:St) d s x,bk (.len d s x) f st=(match s,eO f x with
     |false,some c=>match st.zq c with
      |some xs=>some (UW f d (.val false [.int .i64 (xs.length:Int)]),st)
      |none=>none
     |true,some (.str s)=>some (UW f d (.val false [.int .i64 (s.size:Int)]),st)
     |_,_=>none))∧
 (∀(f:UT) (st:St) d ty esz bytes x y,bk (.app d ty esz bytes x y) f st=(match eO f x,uQ f st esz y with
     |some a,some (ys,st',b)=>match a with
      | .nils=>if eb (ys.length * bytes+ys.length)=true then some (UW f d (.val false [.ow d st'.nx]),st'.news d true b (some (ty,esz)) ys)else none
      | .ow k v=>match st'.fb k v with
        |some (true,dp,t,xs)=>if IB t ty esz=true∧eb ((xs.length+ys.length) * bytes+(xs.length+ys.length))=true then
          some (UW f d (.val false [.ow k st'.nx]),st'.news k true (dp && b) (some (ty,esz)) (xs++ys))else none
        |_=>none
      |_=>none
     |_,_=>none))∧
 (∀(f:UT) (st:St) d esz x y,bk (.cpy d esz x y) f st=(match eO f x,uQ f st esz y with
     |some (.ow k v),some (ys,_,_)=>match st.fb k v with
      |some (true,dp,t,xs)=>if flat ys=true∧flat xs=true∧xs.isEmpty=false∧wid esz xs=true∧wid esz ys=true then
        some (UW f d (.val false [.int .i64 ((min ys.length xs.length:Nat):Int)]),st.put k (.sl v true dp t (ys.take (min ys.length xs.length)++xs.drop (min ys.length xs.length))))else none
      |_=>none
     |some (.sa k v o n e),some (ys,_,_)=>match st.ptr k v with
      |some (ty,ds)=>if flat ys=true∧e=esz∧wid esz ys=true∧o+n * e≤ds.length then
        some (UW f d (.val false [.int .i64 ((min ys.length n:Nat):Int)]),st.put k (.pt v ty (aR ds o (ys.take (min ys.length n)).flatten)))else none
      |none=>none
     |_,_=>none))∧
 (∀(f:UT) (st:St) d mx x y,bk (.mm d mx x y) f st=(match eO f x,eO f y with
     |some (.int .i64 a),some (.int .i64 b)=>some (UW f d (.val false [.int .i64 (if mx then(if a < b then b else a)else(if b < a then b else a))]),st)
     |_,_=>none))∧
 (∀f s,UF f s=UT.get f (K.of s))∧
 (∀f s v,UW f s v=UT.set f (K.of s) v)∧
 (∀k,UT.get .leaf k= .any)∧
 (∀l v r,UT.get (.node l v r) .z=v)∧
 (∀l v r k,UT.get (.node l v r) (.o k)=l.get k)∧
 (∀l v r k,UT.get (.node l v r) (.i k)=r.get k)∧
 (∀v,UT.set .leaf .z v= .node .leaf v .leaf)∧
 (∀k v,UT.set .leaf (.o k) v= .node (UT.set .leaf k v) .any .leaf)∧
 (∀k v,UT.set .leaf (.i k) v= .node .leaf .any (UT.set .leaf k v))∧
 (∀l u r v,UT.set (.node l u r) .z v= .node l v r)∧
 (∀l u r k v,UT.set (.node l u r) (.o k) v= .node (l.set k v) u r)∧
 (∀l u r k v,UT.set (.node l u r) (.i k) v= .node l u (r.set k v))∧
 (UT.full 0= .leaf)∧
 (UT.full 1= .node .leaf .any .leaf)∧
 (∀d,UT.full (d+1)= .node (UT.full d) .any (UT.full d))∧
 (∀f n,mA f n []=f)∧
 (∀f n g ds r,mA f n ((g,ds)::r)=mA (UW f n (.val g ds)) (n+1) r)∧
 (∀f d u,sn f d u=(match d with|0=>f|d+1=>UW f d u))∧
 (∀f,cI f []=f)∧
 (∀f d ds,cI f (d::ds)=cI (UW f d .any) ds)∧
 (∀f v,wy f (.c v)=cU v)∧
 (∀f t,wy f (.s t)=(match UF f t with| .box _=> .lref t 0|v=>v))∧
 (∀g cs,cU (.val g cs)=(match Cm cs with|some ds=> .val g ds|none=> .any))∧
 (∀f x,sd f x=(match wy f x with| .val g ds=>some (g,ds)|_=>none))∧
 (∀f x,eO f x=(match wy f x with| .val false [d]=>some d|_=>none))∧
 (∀f ds,jF f ds []=some ds)∧
 (∀f ds off sz x r,jF f ds ((off,sz,x)::r)=(match sd f x with|some (_,vs)=>if vs.length=sz∧off+sz≤ds.length then jF f (aR ds off vs) r else none|none=>none))∧
 (∀k n,cD (.int k n)=some (.int k n))∧
 (∀b,cD (.bool b)=some (.bool b))∧
 (∀s,cD (.str s)=some (.str s))∧
 (∀g,cD (.fn g)=some (.fn g))∧
 (∀k n,dC (.int k n)=some (.int k n))∧
 (∀b,dC (.bool b)=some (.bool b))∧
 (∀s,dC (.str s)=some (.str s))∧
 (∀g,dC (.fn g)=some (.fn g))∧
 (cD .nilf=some .nilf)∧
 (cD .nili=some .nili)∧
 (cD .nilp=some .nilp)∧
 (cD .nils=some .nils)∧
 (cD .emp=some (.sl []))∧
 (Cm []=some [])∧
 (∀c cs,Cm (c::cs)=(match cD c,Cm cs with|some d,some ds=>some (d::ds)|_,_=>none))∧
 (∀k n,zD (.int k n)=some (.int k n))∧
 (∀b,zD (.bool b)=some (.bool b))∧
 (∀s,zD (.str s)=some (.str s))∧
 (zD .nils=some (.sl []))∧
 (zD .nilf=some .nilf)∧
 (L8 []=some [])∧
 (∀c cs,L8 (c::cs)=(match zD c,L8 cs with|some d,some ds=>some (d::ds)|_,_=>none))∧
 (∀f s w,gu f s w=(match UF f s with| .tup []=>some (.bool (!w))|_=>eO f (.s s)))∧
 (uR [] []=some true)∧
 (∀x xs y ys,uR (x::xs) (y::ys)=(match OM x y,uR xs ys with|some a,some b=>some (a && b)|_,_=>none))∧
 (∀k a k' b,OM (.int k a) (.int k' b)=(if k=k' then some (a==b)else none))∧
 (JN []=some [])∧
 (∀c cs,JN (c::cs)=(match dC c,JN cs with|some d,some ds=>some (d::ds)|_,_=>none))∧
 (∀k n,D.leaf (.int k n)=true)∧
 (∀b,D.leaf (.bool b)=true)∧
 (∀s,D.leaf (.str s)=true)∧
 (∀g,D.leaf (.fn g)=true)∧
 (D.leaf .nilf=true)∧
 (D.leaf .nili=true)∧
 (∀xs,D.leaf (.sl xs)=false)∧
 (D.leaf .nils=false)∧
 (∀k v,D.leaf (.ow k v)=false)∧
 (cB []=true)∧
 (∀d ds,cB (d::ds)=(d.leaf && cB ds))∧
 (flat []=true)∧
 (∀x xs,flat (x::xs)=(cB x && flat xs))∧
 (∀e,wid e []=true)∧
 (∀e x xs,wid e (x::xs)=((x.length==e) && wid e xs))∧
 (∀e ds,chunks e 0 ds= [])∧
 (∀e n ds,chunks e (n+1) ds=ds.take e::chunks e n (ds.drop e))∧
 (∀st k v,St.fb st k v=(match lk k st.es with|some (.sl v' o d t xs)=>if v'=v then some (o,d,t,xs)else none|_=>none))∧
 (∀st k v,St.ptr st k v=(match lk k st.es with|some (.pt v' ty ds)=>if v'=v then some (ty,ds)else none|_=>none))∧
 (∀st k e,St.put st k e=⟨st.nx,(k,e)::st.es⟩)∧
 (∀st k own deep ty xs,St.news st k own deep ty xs=⟨st.nx+1,(k, .sl st.nx own deep ty xs)::st.es⟩)∧
 (∀st k ty ds,St.G9 st k ty ds=⟨st.nx+1,(k, .pt st.nx ty ds)::st.es⟩)∧
 (∀k,lk k []=none)∧
 (∀k k1 e r,lk k ((k1,e)::r)=if k=k1 then some e else lk k r)∧
 (∀st,St.dp st .nils=some (.sl [],st,true))∧
 (∀st xs,St.dp st (.sl xs)=some (.sl xs,st,false))∧
 (∀st k v,St.dp st (.ow k v)=(match st.fb k v with|some (o,d,t,xs)=>some (.sl xs,st.put k (.sl v false false t xs),o && d)|none=>none))∧
 (∀st k n,St.dp st (.int k n)=some (.int k n,st,true))∧
 (∀st b,St.dp st (.bool b)=some (.bool b,st,true))∧
 (∀st s,St.dp st (.str s)=some (.str s,st,true))∧
 (∀st g,St.dp st (.fn g)=some (.fn g,st,true))∧
 (∀st,St.EM st []=some ([],st,true))∧
 (∀st d ds,St.EM st (d::ds)=(match st.dp d with|some (d',st',b)=>(match st'.EM ds with|some (ds',st'',b')=>some (d'::ds',st'',b && b')|none=>none)|none=>none))∧
 (∀st,St.zq st .nils=some [])∧
 (∀st xs,St.zq st (.sl xs)=some xs)∧
 (∀st k v,St.zq st (.ow k v)=(match st.fb k v with|some (_,_,_,xs)=>some xs|none=>none))∧
 (∀st k v o n e,St.zq st (.sa k v o n e)=(match st.ptr k v with|some (_,ds)=>if o+n * e≤ds.length∧cB ((ds.drop o).take (n * e))=true then some (chunks e n ((ds.drop o).take (n * e)))else none|none=>none))∧
 (∀f n,cN f none n=some (n:Int))∧
 (∀f x n,cN f (some x) n=(match eO f x with|some (.int _ i)=>some i|_=>none))∧
 (∀st e s,u9 st e (.str s)=if e=1 then some (JR s,st,true)else none)∧
 (∀st e,u9 st e .nils=some ([],st,true))∧
 (∀st e xs,u9 st e (.sl xs)=if wid e xs=true then(if flat xs=true then some (xs,st,true)else some (xs,st,false))else none)∧
 (∀st e k v,u9 st e (.ow k v)=(match St.zq st (.ow k v)with|some ys=>if wid e ys=true then(if flat ys=true then some (ys,st,true)else(match st.fb k v with|some (o,dp,t,xs)=>some (ys,st.put k (.sl v o false t xs),o && dp)|none=>none))else none|none=>none))∧
 (∀f st e t,uQ f st e (.s t)=(match UF f t with| .lsl ds n e'=>if e'=e∧ds.length=n * e then(match st.EM ds with|some (ds',st',b)=>some (chunks e n ds',st',b)|none=>none)else none| .val false [d]=>u9 st e d|_=>none))∧
 (∀f st e c,uQ f st e (.c (.val false [c]))=(match cD c with|some d=>u9 st e d|none=>none))∧
 (∀op x y,LP op x y=(match dC x,dC y with|some a,some b=>(match bD op a b with|some c=>cD c|none=>none)|_,_=>none))∧
 (∀ty e,IB none ty e=true)∧
 (∀p ty e,IB (some p) ty e=decide (p=(ty,e)))∧
 (∀f st R pd,yW f st R pd=(match th f R with|some ds=>(match gf st ds []with|some (rs,us)=>(match dq st (Da pd) us with|some (ps,_)=>some (rs,ps)|none=>none)|none=>none)|none=>none))∧
 (∀f t,CZ f (.tmp t)=sd f (.s t))∧
 (∀f s n g,CZ f (.cell s n g)=(match UF f s with| .box ds=>if n=ds.length then some (g,ds)else none|_=>none))∧
 (∀f,th f []=some [])∧
 (∀f r rs,th f (r::rs)=(match CZ f r,th f rs with|some v,some vs=>some (v::vs)|_,_=>none))∧
 (Da []= [])∧
 (∀p r,Da (p::r)= .pt p.1 p.2 0::Da r)∧
 (∀st us,gf st [] us=some ([],us))∧
 (∀st g ds r us,gf st ((g,ds)::r) us=(match dq st ds us with|some (es,us')=>(match gf st r us' with|some (rs,us'')=>some ((g,es)::rs,us'')|none=>none)|none=>none))∧
 (∀st us,dq st [] us=some ([],us))∧
 (∀st k v o r us,dq st (.pt k v o::r) us=(match st.ptr k v with|some (ty,ds)=>if us.elem k||o !=0 then none else(match c6 st ds (k::us)with|some (xs,us')=>(match dq st r us' with|some (es,us'')=>some (.pt ty xs::es,us'')|none=>none)|none=>none)|none=>none))∧
 (∀st k n r us,dq st (.int k n::r) us=(match dq st r us with|some (es,us'')=>some (.e (.p (.int k n))::es,us'')|none=>none))∧
 (∀st k n r us,c6 st (.int k n::r) us=(match c6 st r us with|some (es,us'')=>some (.p (.int k n)::es,us'')|none=>none))∧
 (∀st b r us,dq st (.bool b::r) us=(match dq st r us with|some (es,us'')=>some (.e (.p (.bool b))::es,us'')|none=>none))∧
 (∀st b r us,c6 st (.bool b::r) us=(match c6 st r us with|some (es,us'')=>some (.p (.bool b)::es,us'')|none=>none))∧
 (∀st s r us,dq st (.str s::r) us=(match dq st r us with|some (es,us'')=>some (.e (.p (.str s))::es,us'')|none=>none))∧
 (∀st s r us,c6 st (.str s::r) us=(match c6 st r us with|some (es,us'')=>some (.p (.str s)::es,us'')|none=>none))∧
 (∀st g r us,dq st (.fn g::r) us=(match dq st r us with|some (es,us'')=>some (.e (.p (.fn g))::es,us'')|none=>none))∧
 (∀st g r us,c6 st (.fn g::r) us=(match c6 st r us with|some (es,us'')=>some (.p (.fn g)::es,us'')|none=>none))∧
 (∀st xs r us,dq st (.sl xs::r) us=(match dq st r us with|some (es,us'')=>some (.e (.p (.sl xs))::es,us'')|none=>none))∧
 (∀st xs r us,c6 st (.sl xs::r) us=(match c6 st r us with|some (es,us'')=>some (.p (.sl xs)::es,us'')|none=>none))∧
 (∀st r us,dq st (.nilf::r) us=(match dq st r us with|some (es,us'')=>some (.e (.p (.nilf))::es,us'')|none=>none))∧
 (∀st r us,c6 st (.nilf::r) us=(match c6 st r us with|some (es,us'')=>some (.p (.nilf)::es,us'')|none=>none))∧
 (∀st r us,dq st (.nili::r) us=(match dq st r us with|some (es,us'')=>some (.e (.p (.nili))::es,us'')|none=>none))∧
 (∀st r us,c6 st (.nili::r) us=(match c6 st r us with|some (es,us'')=>some (.p (.nili)::es,us'')|none=>none))∧
 (∀st r us,dq st (.nilp::r) us=(match dq st r us with|some (es,us'')=>some (.e (.p (.nilp))::es,us'')|none=>none))∧
 (∀st r us,c6 st (.nilp::r) us=(match c6 st r us with|some (es,us'')=>some (.p (.nilp)::es,us'')|none=>none))∧
 (∀st r us,dq st (.nils::r) us=(match dq st r us with|some (es,us'')=>some (.e (.p (.nils))::es,us'')|none=>none))∧
 (∀st r us,c6 st (.nils::r) us=(match c6 st r us with|some (es,us'')=>some (.p (.nils)::es,us'')|none=>none))∧
 (∀st k v r us,dq st (.ow k v::r) us=(match c6 st [.ow k v] us with|some ([x],us')=>(match dq st r us' with|some (es,us'')=>some (.e x::es,us'')|none=>none)|_=>none))∧
 (∀st us,c6 st [] us=some ([],us))∧
 (∀st k v r us,c6 st (.ow k v::r) us=(match st.fb k v with|some (true,dp,t,xs)=>if us.elem k then none else(match c6 st r (k::us)with|some (es,us')=>some (.o dp t xs::es,us')|none=>none)|some (false,_,_,xs)=>(match c6 st r us with|some (es,us')=>some (.p (.sl xs)::es,us')|none=>none)|none=>none))∧
 (∀id i k,xB id (.b i::k)=if id=i then some k else xB id k)∧
 (∀id a k,xB id (.c a::k)=xB id k)∧
 (∀id P k,xB id (.stop P::k)=xB id k)∧
 (cA []=0)∧
 (∀x r,cA (.e x::r)=1+cA r)∧
 (∀t xs r,cA (.pt t xs::r)=1+xs.length+cA r)∧
 (cT []=0)∧
 (∀g es r,cT ((g,es)::r)=cA es+cT r)∧
 (bJ []= [])∧
 (∀g ds r,bJ ((g,ds)::r)=(g,ds.map E.p)::bJ r)∧
 (∀f,jh f []=some [])∧
 (∀f x xs,jh f (x::xs)=(match sd f x,jh f xs with|some v,some vs=>some (v::vs)|_,_=>none))∧
 (∀st,pB st .nils=some (.sl []))∧
 (∀st k v,pB st (.ow k v)=(match st.fb k v with|some (_,_,_,xs)=>some (.sl xs)|none=>none))∧
 (∀st k n,pB st (.int k n)=some (.int k n))∧
 (∀st b,pB st (.bool b)=some (.bool b))∧
 (∀st s,pB st (.str s)=some (.str s))∧
 (∀st g,pB st (.fn g)=some (.fn g))∧
 (∀st xs,pB st (.sl xs)=some (.sl xs))∧
 (∀st,pB st (.nilf)=some (.nilf))∧
 (∀st,pB st (.nili)=some (.nili))∧
 (∀st k v o n e,pB st (.sa k v o n e)=(match st.zq (.sa k v o n e)with|some xs=>some (.sl xs)|none=>none))∧
 (∀st,ln st []=some [])∧
 (∀st d ds,ln st (d::ds)=(match pB st d,ln st ds with|some a,some r=>some (a::r)|_,_=>none))∧
 (∀st,gW st []=some [])∧
 (∀st g ds r,gW st ((g,ds)::r)=(match ln st ds,gW st r with|some a,some b=>some ((g,a)::b)|_,_=>none))∧
 (∀st k v,kn st (.ow k v)=(match st.fb k v with|some (_,_,t,xs)=>st.put k (.sl v false false t xs)|none=>st))∧
 (∀st k n,kn st (.int k n)=st)∧
 (∀st k n,HW st (.int k n)=true)∧
 (∀st b,kn st (.bool b)=st)∧
 (∀st b,HW st (.bool b)=true)∧
 (∀st s,kn st (.str s)=st)∧
 (∀st s,HW st (.str s)=true)∧
 (∀st g,kn st (.fn g)=st)∧
 (∀st g,HW st (.fn g)=true)∧
 (∀st xs,kn st (.sl xs)=st)∧
 (∀st xs,HW st (.sl xs)=true)∧
 (∀st,kn st (.nils)=st)∧
 (∀st,HW st (.nils)=true)∧
 (∀st k v,HW st (.ow k v)=(match st.fb k v with|some (false,_)=>true|_=>false))∧
 (∀st,vn st []=st)∧
 (∀st d ds,vn st (d::ds)=vn (kn st d) ds)∧
 (∀st,bX st []=st)∧
 (∀st g ds r,bX st ((g,ds)::r)=bX (vn st ds) r)∧
 (∀st,Cv st []=true)∧
 (∀st d ds,Cv st (d::ds)=(HW st d && Cv st ds))∧
 (∀st,HU st []=true)∧
 (∀st g ds r,HU st ((g,ds)::r)=(Cv st ds && HU st r))∧
 (∀f st d rs,m7 f st d rs=sn f d (Hb (bd (dk d) st.nx rs).1))∧
 (∀st d rs,kR st d rs=⟨st.nx+cT rs,(bd (dk d) st.nx rs).2++st.es⟩)∧
 (∀g d,Hb [(g,d)]= .val g d)∧
 (Hb []= .tup [])∧
 (∀a b l,Hb (a::b::l)= .tup (a::b::l))∧
 (∀d,dk d=8192 * (d+1))∧
 (∀k v,bd k v []=([],[]))∧
 (∀k v g es r,bd k v ((g,es)::r)=((g,(aQ k v es).1)::(bd (k+cA es) (v+cA es) r).1,(aQ k v es).2++(bd (k+cA es) (v+cA es) r).2))∧
 (∀k v,aQ k v []=([],[]))∧
 (∀k v d r,aQ k v (.e (.p d)::r)=(d::(aQ (k+1) (v+1) r).1,(aQ (k+1) (v+1) r).2))∧
 (∀k v dp t xs r,aQ k v (.e (.o dp t xs)::r)=(.ow k v::(aQ (k+1) (v+1) r).1,(k, .sl v true dp t xs)::(aQ (k+1) (v+1) r).2))∧
 (∀x,E.p x= .e (.p x))∧
 (∀a b c,E.o a b c= .e (.o a b c))∧
 (∀A B,Kp (some (.bool true)) A B=A)∧
 (∀A B,Kp (some (.bool false)) A B=B)∧
 (∀(Q:List (Bool×List E)→List E→Prop) rs ps,Pr (some (rs,ps)) Q=Q rs ps)∧
 (∀f,bV f []=f)∧
 (∀f s v r,bV f ((s,v)::r)=bV (UW f s v) r)∧
 (∀st,kD st []=True)∧
 (∀st k e r,kD st ((k,e)::r)=((match lk k st.es with|some e0=>Eg e0 e|none=>False)∧kD st r))∧
 (∀v o dp t xs v' o' dp' t' xs',Eg (.sl v o dp t xs) (.sl v' o' dp' t' xs')=(v'=v∧xs'=xs∧((o'=o∧dp'=dp∧t'=t)∨(o=true∧o'=true∧xs= []∧t=none))))∧
 (∀v ty ds v' ty' ds',Eg (.pt v ty ds) (.pt v' ty' ds')=(v'=v∧ty'=ty∧ds'=ds))∧
 (∀(cs:List D) o,aR cs o []=cs)∧
 (∀(cs:List D) o v vs,aR cs o (v::vs)=aR (cs.set o v) (o+1) vs)∧
 (∀k,Ko k []= [])∧
 (∀k k1 e r,Ko k ((k1,e)::r)=if k=k1 then Ko k r else(k1,e)::Ko k r)∧
 (Mr []= [])∧
 (∀k e r,Mr ((k,e)::r)=(k,e)::Ko k (Mr r))∧
 (∀es,BC es []=es)∧
 (∀es k e r,BC es ((k,e)::r)=(k,e)::Ko k (BC es r)):=by
 (repeat' apply And.intro) <;>intros <;>first|rfl|exact Hf _ _|(simp only[Da,List.map_cons];done)|(rename_i t xs r;simp[cA])
theorem P5 {cd:Nat→Option AF} {pd:List (Nat×Nat)} {R:List RV} {Q:List (Bool×List E)→List E→Prop}:
 (∀f st,VX cd pd R Q [] f st=Pr (yW f st R pd) Q)∧(∀i k f st,VX cd pd R Q (.b i::k) f st=VX cd pd R Q k f st)∧(∀P k f st,VX cd pd R Q (.stop P::k) f st=P f st)∧(∀k f st,VX cd pd R Q (.c .skip::k) f st=VX cd pd R Q k f st)∧
 (∀k f st,VX cd pd R Q (.c .ret::k) f st=Pr (yW f st R pd) Q)∧(∀id k f st,VX cd pd R Q (.c (.exit id)::k) f st=PL cd pd R Q (xB id k) f st)∧(∀a b k f st,VX cd pd R Q (.c (.seq a b)::k) f st=VX cd pd R Q (.c a:: .c b::k) f st)∧
 (∀id b k f st,VX cd pd R Q (.c (.block id b)::k) f st=VX cd pd R Q (.c b:: .b id::k) f st)∧(∀x a c k f st,VX cd pd R Q (.c (.cond x a c)::k) f st=Hj cd pd R Q (eO f x) (.c a::k) f (.c c::k) f st)∧
 (∀k f st,VX cd pd R Q (.c (.ops [])::k) f st=VX cd pd R Q k f st)∧(∀s d a l k f st,VX cd pd R Q (.c (.ops (.g s true d a::l))::k) f st=Hj cd pd R Q (gu f s true) (.c (.ops (.i a::l))::k) f (.c (.ops l)::k) (sn f d (.tup [])) st)∧
 (∀s d a l k f st,VX cd pd R Q (.c (.ops (.g s false d a::l))::k) f st=Hj cd pd R Q (gu f s false) (.c (.ops l)::k) (sn f d (.tup [])) (.c (.ops (.i a::l))::k) f st)∧
 (∀f st l k,ku cd pd R Q (some (f,st)) l k=VX cd pd R Q (.c (.ops l)::k) f st)∧(∀kt ft kf ff st,Hj cd pd R Q (some (.bool true)) kt ft kf ff st=VX cd pd R Q kt ft st)∧(∀kt ft kf ff st,Hj cd pd R Q (some (.bool false)) kt ft kf ff st=VX cd pd R Q kf ff st)∧(∀b kt ft kf ff st,Hj cd pd R Q (some (.bool (!b))) kt ft kf ff st=Hj cd pd R Q (some (.bool b)) kf ff kt ft st)∧(∀d g q xs l k f st,VX cd pd R Q (.c (.ops (.i (.call d g q xs)::l))::k) f st=Mz cd pd R Q d g q l k f st (jh f xs))∧(∀d q x xs l k f st,VX cd pd R Q (.c (.ops (.i (.clv d q x xs)::l))::k) f st=Pz cd pd R Q d q xs l k f st (eO f x))∧(∀d q xs l k f st g,Pz cd pd R Q d q xs l k f st (some (.fn g))=VX cd pd R Q (.c (.ops (.i (.call d g q xs)::l))::k) f st)∧(∀k f st,PL cd pd R Q (some k) f st=VX cd pd R Q k f st):=
 ⟨fun _ _=>Oo,fun _ _ _ _=>PG,fun _ _ _ _=>Mb,fun _ _ _=>KB,fun _ _ _=>Ni,fun _ _ _ _=>L7,fun _ _ _ _ _=>Ol,fun _ _ _ _ _=>Iz,fun _ _ _ _ _ _=>LJ,fun _ _ _=>Oa,fun _ _ _ _ _ _ _=>O8,fun _ _ _ _ _ _ _=>OA,fun _ _ _ _=>rfl,fun _ _ _ _ _=>rfl,fun _ _ _ _ _=>rfl,fun _ _ _ _ _ _=>La,fun _ _ _ _ _ _ _ _=>LC,fun _ _ _ _ _ _ _ _=>Nv,fun _ _ _ _ _ _ _ _=>rfl,fun _ _ _=>rfl⟩
theorem VB:(∀x,flat (bytes x)=true)∧(∀x,wid 1 (bytes x)=true)∧(∀x,(bytes x).length=x.length)∧(∀n,n≤70368744177664→eb n=true)∧(∀n:Int, -9223372036854775808≤n→n < 9223372036854775808→IntKind.i64.wrap n=n)∧
 (∀(k:IntKind) (a b:Int),bD .add (.int k a) (.int k b)=some (.int k (k.wrap (a+b))))∧(∀(k:IntKind) (a b:Int),bD .sub (.int k a) (.int k b)=some (.int k (k.wrap (a - b))))∧(∀(k:IntKind) (a b:Int),bD .mul (.int k a) (.int k b)=some (.int k (k.wrap (a * b))))∧
 (∀(k:IntKind) (a b:Int),bD .quo (.int k a) (.int k b)=if b=0 then none else some (.int k (k.wrap (a.tdiv b))))∧(∀(k:IntKind) (a b:Int),bD .rem (.int k a) (.int k b)=if b=0 then none else some (.int k (a.tmod b)))∧
 (∀(k:IntKind) (a b:Int),bD .eql (.int k a) (.int k b)=some (.bool (decide (a=b))))∧(∀(k:IntKind) (a b:Int),bD .neq (.int k a) (.int k b)=some (.bool (decide (a≠b))))∧(∀(k:IntKind) (a b:Int),bD .lss (.int k a) (.int k b)=some (.bool (decide (a < b))))∧
 (∀(k:IntKind) (a b:Int),bD .leq (.int k a) (.int k b)=some (.bool (decide (a≤b))))∧(∀(k:IntKind) (a b:Int),bD .gtr (.int k a) (.int k b)=some (.bool (decide (a > b))))∧(∀(k:IntKind) (a b:Int),bD .geq (.int k a) (.int k b)=some (.bool (decide (a≥b))))∧
 (∀(k:IntKind) (a b:Int),bD .and (.int k a) (.int k b)=some (.int k (aH .and k a b)))∧(∀(k:IntKind) (a b:Int),bD .or (.int k a) (.int k b)=some (.int k (aH .or k a b)))∧(∀(k:IntKind) (a b:Int),bD .xor (.int k a) (.int k b)=some (.int k (aH .xor k a b)))∧(∀(k:IntKind) (a b:Int),bD .andNot (.int k a) (.int k b)=some (.int k (aH .andNot k a b)))∧
 (∀(k k':IntKind) (a b:Int),bD .shl (.int k a) (.int k' b)=if b < 0 then none else some (.int k (k.wrap (a * 2 ^ (min b.toNat k.bits)))))∧(∀(k k':IntKind) (a b:Int),bD .shr (.int k a) (.int k' b)=if b < 0 then none else some (.int k (a.fdiv (2 ^ (min b.toNat k.bits)))))∧
 (∀a b,bD .eql (.str a) (.str b)=some (.bool (decide (a=b))))∧(∀a b,bD .neq (.str a) (.str b)=some (.bool (decide (a≠b)))):=
 ⟨Fh,jZ,aS,fun _ h=>Cb h,fun _ h1 h2=>aN h1 h2,C5,JC,JH,Kl,HZ,Jg,GV,Dd,JW,J0,J9,OT,Qi,Pf,Iy,OQ,Py,EW,Fx⟩
end Go.Eng
namespace Go.Eng
mutual
def enc:Ty→Tv→List D
 | .int k, .i n=> [.int k n]
 | .bool, .b b=> [.bool b]
 | .str, .s s=> [.str s]
 | .sl t, .l xs=> [.sl (xs.map (enc t))]
 | .st ts, .r vs=>tk ts vs
 |_,_=> []
def tk:List Ty→List Tv→List D
 |t::ts,v::vs=>enc t v++tk ts vs
 |_,_=> []
end
mutual
def aC:Ty→Tv→Prop
 | .int k, .i n=>k.min≤n∧n≤k.max
 | .bool, .b _=>True
 | .str, .s s=>s.size≤maxLen
 | .sl t, .l xs=>xs.length≤maxLen∧∀x∈xs,aC t x
 | .st ts, .r vs=>eg ts vs
 |_,_=>False
def eg:List Ty→List Tv→Prop
 | [],[]=>True
 |t::ts,v::vs=>aC t v∧eg ts vs
 |_,_=>False
end
section
variable {h h':H}
mutual
theorem Rp.rd:∀(T:Ty) {cs:List C} {v:Tv} {S:List Nat},Rp h T cs v S→bT h (enc T v) cs S
 | .int k,cs,v,S,hr=>by
   obtain⟨n,rfl,rfl,rfl,_⟩:=hr.int
   simp only[enc,bT,RD]
   exact⟨_,_,[],[],rfl,rfl,⟨rfl,rfl⟩,rfl,rfl⟩
 | .bool,cs,v,S,hr=>by
   unfold Rp at hr
   obtain⟨b,rfl,rfl,rfl⟩:=hr
   simp only[enc,bT,RD]
   exact⟨_,_,[],[],rfl,rfl,⟨rfl,rfl⟩,rfl,rfl⟩
 | .str,cs,v,S,hr=>by
   unfold Rp at hr
   obtain⟨s,rfl,rfl,rfl,_⟩:=hr
   simp only[enc,bT,RD]
   exact⟨_,_,[],[],rfl,rfl,⟨rfl,rfl⟩,rfl,rfl⟩
 | .sl t,cs,v,S,hr=>by
   obtain⟨xs,rfl,_,hc⟩:=hr.sl
   simp only[enc,bT]
   rcases hc with⟨rfl,rfl,rfl|rfl⟩|⟨id,off,bs,S',e0,rfl,h2,h3,rfl,h5,he0⟩
   ·exact⟨_,_,[],[],rfl,rfl,jO.2 (.inl ⟨rfl,rfl, .inl rfl⟩),rfl,rfl⟩
   ·exact⟨_,_,[],[],rfl,rfl,jO.2 (.inl ⟨rfl,rfl, .inr rfl⟩),rfl,rfl⟩
   ·have key:∀ {xs:List Tv} {bs:List C} {S:List Nat},bq (Rp h t) xs bs S→aG h (xs.map (enc t)) t.size bs S:=by
     intro xs
     induction xs with
     |nil=>intro bs S he;simp only[List.map_nil,aG];exact he
     |cons x xs ih=>
      intro bs S he
      obtain⟨c1,c2,S1,S2,e1,e2,e3,e4⟩:=he
      simp only[List.map_cons,aG]
      exact⟨c1,c2,S1,S2,e1,e2,e3.size,Rp.rd t e3,ih e4⟩
    have hle:xs.length * e0=xs.length * t.size:=by rcases he0 with rfl|rfl <;>simp
    have h6:=key h5
    refine⟨_,[],id::S',[],rfl,by simp,jO.2 (.inr ⟨id,off,e0,bs,S',by simp,h2,by simp only[List.length_map,hle];exact h3,rfl,?_⟩),rfl,rfl⟩
    simp only[List.length_map,hle]
    rcases he0 with rfl|rfl
    ·exact h6
    ·simp only[List.map_nil,aG]at h6⊢;exact h6
 | .st ts,cs,v,S,hr=>by
   obtain⟨vs,rfl,h2⟩:=hr.st
   simp only[enc]
   exact Rs.rd ts (by simpa using h2)
theorem Rs.rd:∀(ts:List Ty) {cs:List C} {vs:List Tv} {S:List Nat},Rs h ts cs vs S→bT h (tk ts vs) cs S
 | [],cs,vs,S,hr=>by
   obtain⟨rfl,rfl,rfl⟩:=hr
   simp[tk,bT]
 |t::ts,cs,vs,S,hr=>by
  obtain⟨c1,c2,v,vr,S1,S2,rfl,rfl,rfl,h4,h5⟩:=hr
  simp only[tk]
  exact(Rp.rd t h4).join (Rs.rd ts h5)
end
mutual
theorem Rp.ok:∀(T:Ty) {cs:List C} {v:Tv} {S:List Nat},Rp h T cs v S→aC T v
 | .int k,cs,v,S,hr=>by obtain⟨n,rfl,rfl,rfl,h1⟩:=hr.int;simpa only[aC]using h1
 | .bool,cs,v,S,hr=>by unfold Rp at hr;obtain⟨b,rfl,rfl,rfl⟩:=hr;simp only[aC]
 | .str,cs,v,S,hr=>by unfold Rp at hr;obtain⟨s,rfl,rfl,rfl,h1⟩:=hr;simpa only[aC]using h1
 | .sl t,cs,v,S,hr=>by
   obtain⟨xs,rfl,hm,hc⟩:=hr.sl
   simp only[aC]
   refine⟨hm,?_⟩
   rcases hc with⟨rfl,_⟩|⟨id,off,bs,S',e0,rfl,h2,h3,rfl,h5,_⟩
   ·intro x hx;cases hx
   ·have key:∀ {xs:List Tv} {bs:List C} {S:List Nat},bq (Rp h t) xs bs S→∀x∈xs,aC t x:=by
     intro xs
     induction xs with
     |nil=>intro bs S _ x hx;cases hx
     |cons y xs ih=>
      intro bs S he x hx
      obtain⟨c1,c2,S1,S2,e1,e2,e3,e4⟩:=he
      rcases List.mem_cons.1 hx with rfl|hx
      ·exact Rp.ok t e3
      ·exact ih e4 x hx
    exact key h5
 | .st ts,cs,v,S,hr=>by obtain⟨vs,rfl,h2⟩:=hr.st;simp only[aC];exact Rs.ok ts (by simpa using h2)
theorem Rs.ok:∀(ts:List Ty) {cs:List C} {vs:List Tv} {S:List Nat},Rs h ts cs vs S→eg ts vs
 | [],cs,vs,S,hr=>by obtain⟨rfl,rfl,rfl⟩:=hr;simp only[eg]
 |t::ts,cs,vs,S,hr=>by obtain⟨c1,c2,v,vr,S1,S2,rfl,rfl,rfl,h4,h5⟩:=hr;simp only[eg];exact⟨Rp.ok t h4,Rs.ok ts h5⟩
end
mutual
theorem Ce:∀(T:Ty) {v:Tv},aC T v→(enc T v).length=T.size
 | .int k,v,hv=>by cases v <;>simp only[aC]at hv <;>rfl
 | .bool,v,hv=>by cases v <;>simp only[aC]at hv <;>rfl
 | .str,v,hv=>by cases v <;>simp only[aC]at hv <;>rfl
 | .sl t,v,hv=>by cases v <;>simp only[aC]at hv <;>simp only[enc] <;>rfl
 | .st ts,v,hv=>by cases v <;>simp only[aC]at hv;simp only[enc];exact Df ts hv
theorem Df:∀(ts:List Ty) {vs:List Tv},eg ts vs→(tk ts vs).length=Ty.aU ts
 | [],vs,hv=>by cases vs <;>simp only[eg]at hv <;>rfl
 |t::ts,vs,hv=>by
  cases vs <;>simp only[eg]at hv
  simp only[tk,List.length_append,Ce t hv.1,Df ts hv.2]
  rfl
end
mutual
theorem bT.rp:∀(T:Ty) {cs:List C} {v:Tv} {S:List Nat},aC T v→bT h (enc T v) cs S→Rp h T cs v S
 | .int k,cs,v,S,hv,hr=>by
   cases v <;>simp only[aC]at hv
   simp only[enc,bT,RD]at hr
   obtain⟨_,_,_,_,rfl,rfl,⟨rfl,rfl⟩,rfl,rfl⟩:=hr
   exact⟨_,rfl,rfl,rfl,hv⟩
 | .bool,cs,v,S,hv,hr=>by
   cases v <;>simp only[aC]at hv
   simp only[enc,bT,RD]at hr
   obtain⟨_,_,_,_,rfl,rfl,⟨rfl,rfl⟩,rfl,rfl⟩:=hr
   exact⟨_,rfl,rfl,rfl⟩
 | .str,cs,v,S,hv,hr=>by
   cases v <;>simp only[aC]at hv
   simp only[enc,bT,RD]at hr
   obtain⟨_,_,_,_,rfl,rfl,⟨rfl,rfl⟩,rfl,rfl⟩:=hr
   exact⟨_,rfl,rfl,rfl,hv⟩
 | .sl t,cs,v,S,hv,hr=>by
   cases v <;>simp only[aC]at hv
   rename_i xs
   simp only[enc,bT]at hr
   obtain⟨c,cr,S1,S2,rfl,rfl,h1,rfl,rfl⟩:=hr
   refine⟨xs,rfl,hv.1,?_⟩
   rcases jO.1 h1 with⟨hx,rfl,hc⟩|⟨id,off,e,bs,S',rfl,h2,h3,rfl,h5⟩
   ·have hx':xs= []:=by simpa using hx
    subst hx'
    exact .inl ⟨rfl,rfl,hc.imp (fun e=>by rw[e]) (fun e=>by rw[e])⟩
   ·have key:∀ {xs:List Tv} {e:Nat} {bs:List C} {S:List Nat},(∀x∈xs,aC t x)→aG h (xs.map (enc t)) e bs S→bq (Rp h t) xs bs S:=by
     intro xs
     induction xs with
     |nil=>intro e bs S _ he;simp only[List.map_nil,aG]at he;exact he
     |cons x xs ih=>
      intro e bs S hv he
      simp only[List.map_cons,aG]at he
      obtain⟨c1,c2,S1,S2,e1,e2,e3,e4,e5⟩:=he
      exact⟨c1,c2,S1,S2,e1,e2,bT.rp t (hv x (by simp)) e4,ih (fun y hy=>hv y (by simp[hy])) e5⟩
    have he0:e=t.size∨xs= []:=by
     cases xs with
     |nil=>exact .inr rfl
     |cons x xs=>
      left
      have:=h5.wid (enc t x) (by simp)
      rw[←this]
      exact Ce t (hv.2 x (by simp))
    have hle:xs.length * e=xs.length * t.size:=by rcases he0 with rfl|rfl <;>simp
    simp only[List.length_map,hle]at h3 h5
    exact .inr ⟨id,off,bs,S',e,by simp,h2,h3,by simp,key hv.2 h5,he0⟩
 | .st ts,cs,v,S,hv,hr=>by
   cases v <;>simp only[aC]at hv
   simp only[enc]at hr
   exact⟨_,rfl,bT.rs ts hv hr⟩
theorem bT.rs:∀(ts:List Ty) {cs:List C} {vs:List Tv} {S:List Nat},eg ts vs→bT h (tk ts vs) cs S→Rs h ts cs vs S
 | [],cs,vs,S,hv,hr=>by
   cases vs <;>simp only[eg]at hv
   simp only[tk,bT]at hr
   exact⟨hr.1,rfl,hr.2⟩
 |t::ts,cs,vs,S,hv,hr=>by
  cases vs <;>simp only[eg]at hv
  rename_i v vs
  simp only[tk]at hr
  obtain⟨S1,S2,rfl,h2,h3⟩:=hr.cut (enc t v).length
  have hl:=Ce t hv.1
  rw[List.take_left]at h2
  rw[List.drop_left]at h3
  exact⟨_,_,v,vs,S1,S2,(List.take_append_drop _ _).symm,rfl,rfl,bT.rp t hv.1 h2,bT.rs ts hv.2 h3⟩
end
def Aw:List E→List D→Prop
 | [],[]=>True
 | .e (.o dp t xs)::es, .sl ys::ds=>dp=true∧xs=ys∧Aw es ds
 | .e (.p .nils)::es, .sl ys::ds=>ys= []∧Aw es ds
 | .e (.p d)::es,d'::ds=>d=d'∧d.leaf=true∧Aw es ds
 |_,_=>False
mutual
theorem RD.alive:∀(d:D) {c:C} {S:List Nat},RD h d c S→∀i∈S,∃bs,h.cells i=some bs
 | .int _ _,_,_,hr,i,hi=>by simp only[RD]at hr;rw[hr.2]at hi;cases hi
 | .bool _,_,_,hr,i,hi=>by simp only[RD]at hr;rw[hr.2]at hi;cases hi
 | .str _,_,_,hr,i,hi=>by simp only[RD]at hr;rw[hr.2]at hi;cases hi
 | .fn _,_,_,hr,i,hi=>by simp only[RD]at hr;rw[hr.2]at hi;cases hi
 | .nilf,_,_,hr,i,hi=>by simp only[RD]at hr;rw[hr.2]at hi;cases hi
 | .nili,_,_,hr,i,hi=>by simp only[RD]at hr;rw[hr.2]at hi;cases hi
 | .nilp,_,_,hr,i,hi=>by simp only[RD]at hr;rw[hr.2]at hi;cases hi
 | .nils,_,_,hr,i,hi=>by simp only[RD]at hr;rw[hr.2]at hi;cases hi
 | .sl xs,c,S,hr,i,hi=>by
   rcases jO.1 hr with⟨_,e,_⟩|⟨id,off,e,bs,S',h1,h2,h3,h4,h5⟩
   ·rw[e]at hi;cases hi
   ·rw[h4]at hi
    rcases List.mem_cons.1 hi with rfl|hi
    ·exact⟨bs,h2⟩
    ·exact aG.alive xs h5 i hi
 | .ow _ _,_,_,hr,_,_=>by simp only[RD]at hr
 | .pt _ _ _,_,_,hr,_,_=>by simp only[RD]at hr
 | .pe _ _,_,_,hr,_,_=>by simp only[RD]at hr
 | .px _ _ _ _,_,_,hr,_,_=>by simp only[RD]at hr
 | .sa _ _ _ _ _,_,_,hr,_,_=>by simp only[RD]at hr
theorem bT.alive:∀(ds:List D) {cs:List C} {S:List Nat},bT h ds cs S→∀i∈S,∃bs,h.cells i=some bs
 | [],_,_,hr,i,hi=>by simp only[bT]at hr;rw[hr.2]at hi;cases hi
 |d::ds,cs,S,hr,i,hi=>by
  simp only[bT]at hr
  obtain⟨c,cr,S1,S2,h1,h2,h3,h4⟩:=hr
  rw[h2]at hi
  rcases List.mem_append.1 hi with hi|hi
  ·exact RD.alive d h3 i hi
  ·exact bT.alive ds h4 i hi
theorem aG.alive:∀(xs:List (List D)) {e:Nat} {cs:List C} {S:List Nat},aG h xs e cs S→∀i∈S,∃bs,h.cells i=some bs
 | [],_,_,_,hr,i,hi=>by simp only[aG]at hr;rw[hr.2]at hi;cases hi
 |x::xs,e,cs,S,hr,i,hi=>by
  simp only[aG]at hr
  obtain⟨c1,c2,S1,S2,h1,h2,h3,h4,h5⟩:=hr
  rw[h2]at hi
  rcases List.mem_append.1 hi with hi|hi
  ·exact bT.alive x h4 i hi
  ·exact aG.alive xs h5 i hi
end
end
section
variable {Γ:Cx} {γ:Gh} {f:UT} {st:St} {mf:Fr} {h h':H}
theorem Aw.PZ (hr:aB Γ γ f st mf h):∀ {es:List E} {ds:List D} {k v:Nat} {cs:List C},Aw es ds→(∀k' e,lk k' (aQ k v es).2=some e→lk k' st.es=some e)→ah (DC Γ γ st h) cs (aQ k v es).1→
 ∃S,bT h ds cs S∧S.Nodup∧∀i∈S,∃k' e,k≤k'∧k' < k+cA es∧lk k' st.es=some e∧i∈γ.w k'++γ.u k'
 | [],[],k,v,cs,_,_,hc=>by
   cases cs with
   |nil=>exact⟨[],by simp[bT],by simp,fun i hi=>by cases hi⟩
   |cons c cs=>simp only[aQ]at hc;exact hc.elim
 | .e (.o dp t xs)::es,ds,k,v,cs,he,hL,hc=>by
   cases ds with
   |nil=>exact he.elim
   |cons d ds=>
   cases d <;>simp only[Aw]at he
   obtain⟨rfl,rfl,he⟩:=he
   simp only[aQ]at hc hL
   match cs,hc with
   |c::cs,hc=>
    have hl:=hL k _ Oi
    obtain⟨S,q1,q2,q3⟩:=Aw.PZ hr (k:=k+1) (v:=v+1) he (fun k' e hk=>hL k' e (by have:=(ka hk).2.1;rw[ay,if_neg (by omega)];exact hk)) hc.2
    have hcc:=hc.1.2 _ _ _ _ hl
    obtain⟨_,hen⟩:=hr.en _ _ hl
    have hnd:=(hr.nd _ _ hl).1
    have h1:RD h (.sl xs) c (γ.w k++γ.u k):=by
     rw[hcc]
     rcases hen with⟨rfl,w1,w2,w3⟩|⟨id,ty,ez,bs,S0,k1,k2,k3,k4,k5,k6,k7,k8⟩
     ·rw[w1,w2];exact jO.2 (.inl ⟨rfl,rfl,w3⟩)
     ·rw[k3,k8,if_pos rfl,k2]
      refine jO.2 (.inr ⟨id,0,ez,bs,S0,rfl,cu k4,by omega,rfl,?_⟩)
      rw[List.drop_zero,←k5,List.take_length]
      exact k6
    refine⟨(γ.w k++γ.u k)++S,?_,?_,fun i hi=> ?_⟩
    ·simp only[bT];exact⟨c,cs,_,S,rfl,rfl,h1,q1⟩
    ·refine List.nodup_append.2 ⟨hnd,q2,fun a ha b hb e=> ?_⟩
     subst e
     obtain⟨k',e',r1,r2,r3,r4⟩:=q3 a hb
     exact hr.dj k k' _ e' (by omega) hl r3 a ha r4
    ·rcases List.mem_append.1 hi with hi|hi
     ·exact⟨k,_,Nat.le_refl _,by simp only[cA];omega,hl,hi⟩
     ·obtain⟨k',e',r1,r2,r3,r4⟩:=q3 i hi
      exact⟨k',e',by omega,by simp only[cA];omega,r3,r4⟩
 | .e (.p d)::es,ds,k,v,cs,he,hL,hc=>by
   cases ds with
   |nil=>cases d <;>exact he.elim
   |cons d' ds=>
   simp only[aQ]at hc hL
   match cs,hc with
   |c::cs,hc=>
    have fin:∀(d0:D),RD h d0 c []→Aw es ds→∃S,bT h (d0::ds) (c::cs) S∧S.Nodup∧∀i∈S,∃k' e,k≤k'∧k' < k+cA (.e (.p d)::es)∧lk k' st.es=some e∧i∈γ.w k'++γ.u k':=by
     intro d0 h1 he
     obtain⟨S,q1,q2,q3⟩:=Aw.PZ hr (k:=k+1) (v:=v+1) he hL hc.2
     refine⟨S,?_,q2,fun i hi=> ?_⟩
     ·simp only[bT];exact⟨c,cs,[],S,rfl,rfl,h1,q1⟩
     ·obtain⟨k',e',r1,r2,r3,r4⟩:=q3 i hi
      exact⟨k',e',by omega,by simp only[cA];omega,r3,r4⟩
    by_cases hn:d= .nils
    ·subst hn
     have h1:c= .nils:=by
      obtain⟨S0,h2,_⟩:=hc.1
      simp only[RD]at h2
      exact h2.1
     cases d' <;>simp only[Aw]at he <;>first|(exact absurd he.2.1 (by simp[D.leaf]))|skip
     obtain⟨rfl,he⟩:=he
     exact fin _ (jO.2 (.inl ⟨rfl,rfl, .inl h1⟩)) he
    ·have he':d=d'∧d.leaf=true∧Aw es ds:=by
      cases d <;>first|exact absurd rfl hn|(cases d' <;>simpa only[Aw]using he)
     obtain⟨rfl,hlf,he'⟩:=he'
     have:∃S,RD h d c S:=by
      cases d <;>simp[D.leaf]at hlf <;>exact⟨_,hc.1.choose_spec.1⟩
     obtain⟨S0,h2⟩:=this
     exact fin d (h2.Oy hlf) he'
 | .pt ty xs::es,ds,k,v,cs,he,_,_=>by cases ds <;>exact he.elim
def Nl:List (Bool×List E)→List (Ty×Tv)→Prop
 | [],[]=>True
 |(g,es)::rs,(T,w)::ts=>g=T.agg∧Aw es (enc T w)∧aC T w∧Nl rs ts
 |_,_=>False
def GY (h:H):List (Ty×Tv)→List (Bool×List C)→List Nat→Prop
 | [],css,S=>css= []∧S= []
 |(T,w)::ts,css,S=>∃cs cr S1 S2,css=(T.agg,cs)::cr∧S=S1++S2∧Rp h T cs w S1∧GY h ts cr S2
theorem Nl.rp (hr:aB Γ γ f st mf h):∀ {rs:List (Bool×List E)} {ts:List (Ty×Tv)} {k v:Nat} {css:List (Bool×List C)},Nl rs ts→(∀k' e,lk k' (bd k v rs).2=some e→lk k' st.es=some e)→ah (DG Γ γ st h) css (bd k v rs).1→
 ∃S,GY h ts css S∧S.Nodup∧∀i∈S,(∃bs,h.cells i=some bs)∧∃k' e,k≤k'∧k' < k+cT rs∧lk k' st.es=some e∧i∈γ.w k'++γ.u k'
 | [],[],k,v,css,_,_,hc=>by
   cases css with
   |nil=>exact⟨[],⟨rfl,rfl⟩,by simp,fun i hi=>by cases hi⟩
   |cons c cs=>simp only[bd]at hc;exact hc.elim
 | [],_::_,_,_,_,he,_,_=>he.elim
 |_::_,[],_,_,_,he,_,_=>he.elim
 |(g,es)::rs,(T,w)::ts,k,v,css,he,hL,hc=>by
  obtain⟨rfl,h1,h2,h3⟩:=he
  simp only[bd]at hc hL
  match css,hc with
  |(g',cs)::css,hc=>
   obtain⟨⟨hg,hc1⟩,hc2⟩:=hc
   simp only at hg hc1
   subst hg
   obtain⟨S1,a1,a2,a3⟩:=Aw.PZ hr h1 (fun k' e hk=>hL k' e (by rw[bO,hk])) hc1
   obtain⟨S2,b1,b2,b3⟩:=Nl.rp hr h3 (fun k' e hk=>hL k' e (by
    have:=(oH hk).2.1
    rw[bO]
    cases hx:lk k' (aQ k v es).2 with
    |none=>exact hk
    |some e'=>have:=(ka hx).2.2;omega)) hc2
   refine⟨S1++S2,⟨cs,css,S1,S2,rfl,rfl,bT.rp T h2 a1,b1⟩,List.nodup_append.2 ⟨a2,b2,fun a ha b hb e=> ?_⟩,fun i hi=> ?_⟩
   ·subst e
    obtain⟨k1,e1,r1,r2,r3,r4⟩:=a3 a ha
    obtain⟨_,k2,e2,q1,q2,q3,q4⟩:=b3 a hb
    exact hr.dj k1 k2 e1 e2 (by omega) r3 q3 a r4 q4
   ·rcases List.mem_append.1 hi with hi|hi
    ·obtain⟨k1,e1,r1,r2,r3,r4⟩:=a3 i hi
     exact⟨bT.alive _ a1 i hi,k1,e1,r1,by simp only[cT];omega,r3,r4⟩
    ·obtain⟨b0,k1,e1,r1,r2,r3,r4⟩:=b3 i hi
     exact⟨b0,k1,e1,by omega,by simp only[cT];omega,r3,r4⟩
def Ed (as:List (Ty×Tv)):List (Bool×List D):=as.map fun a=>(a.1.agg,enc a.1 a.2)
def dW (h:H):List (Ty×Tv)→List (Bool×List C)→Prop
 | [],ms=>ms= []
 |(T,v)::as,ms=>∃cs mr,ms=(T.agg,cs)::mr∧(∃S,Rp h T cs v S)∧dW h as mr
theorem dW.all:∀ {as:List (Ty×Tv)} {ms:List (Bool×List C)},dW h as ms→ah (fun(m:Bool×List C) (a:Bool×List D)=>m.1=a.1∧ah (fun c d'=>∃S,RD h d' c S∧∀i∈S,i < h.length) m.2 a.2) ms (Ed as)
 | [],ms,ha=>by rw[show ms= []from ha];trivial
 |(T,v)::as,ms,ha=>by
  obtain⟨cs,mr,rfl,⟨S,h1⟩,h2⟩:=ha
  refine⟨⟨rfl,?_⟩,dW.all h2⟩
  have key:∀ {ds:List D} {cs:List C} {S:List Nat},bT h ds cs S→ah (fun c d'=>∃S,RD h d' c S∧∀i∈S,i < h.length) cs ds:=by
   intro ds
   induction ds with
   |nil=>intro cs S hr;simp only[bT]at hr;rw[hr.1];trivial
   |cons d ds ih=>
    intro cs S hr
    simp only[bT]at hr
    obtain⟨c,cr,S1,S2,rfl,rfl,h3,h4⟩:=hr
    exact⟨⟨S1,h3,RD.lt d h3⟩,ih h4⟩
  exact key (Rp.rd T h1)
theorem J8:∀(ds:List D),(∀d∈ds,HQ d=true)→lI (ds.map E.p)=true
 | [],_=>rfl
 |d::ds,h=>by simp only[List.map_cons,lI,zd,h d (by simp),J8 ds fun d' hd=>h d' (by simp[hd]),Bool.and_self]
theorem bT.pu {h:H}:∀ {ds:List D} {cs:List C} {S:List Nat},bT h ds cs S→∀d∈ds,HQ d=true
 | [],_,_,_,d,hd=>by cases hd
 |d0::ds,cs,S,hr,d,hd=>by
  simp only[bT]at hr
  obtain⟨c,cr,S1,S2,rfl,rfl,h3,h4⟩:=hr
  rcases List.mem_cons.1 hd with rfl|hd
  ·cases d <;>first|rfl|(simp only[RD]at h3)
  ·exact h4.pu d hd
theorem dW.cl:∀ {as:List (Ty×Tv)} {ms:List (Bool×List C)},dW h as ms→qF (bJ (Ed as))=true
 | [],_,_=>rfl
 |(T,v)::as,ms,ha=>by
  obtain⟨cs,mr,rfl,⟨S,h1⟩,h2⟩:=ha
  have:=dW.cl h2
  unfold Ed bJ at this⊢
  simp only[List.map_cons,qF,J8 _ (Rp.rd T h1).pu,this,Bool.and_self]
theorem VC.wc {cd:Nat→Option AF} {g:Nat} {as:List (Ty×Tv)} {Q:List (Bool×List E)→List E→Prop} (hc:VC cd g (bJ (Ed as)) Q) {ms:List (Bool×List C)} (ha:dW h as ms) {ts:List (Ty×Tv)} (hq:∀rs,Q rs []→Nl rs ts):
 WC cd g ms h (fun r h'=>∃t css S,h'=h++t∧r=cW css∧GY h' ts css S∧dr h' S∧∀i∈S,h.length≤i):=by
 have hb:=Eo (h:=h) (ar:=fun i=>i < h.length) (fun i hi=>hi) ha.cl ha.all
 refine(hc ⟨h,fun i=>i < h.length,[],[]⟩ ms rfl hb).mono fun r h' ⟨rs,ps,css,q,hcl,hv,hb'⟩=> ?_
 have hb':=hb' 0 0
 rw[nr]at hb'
 have hps:ps= []:=by
  obtain⟨γb,_,hcc⟩:=hb'
  rw[jQ]at hcc
  have:=(ah.snoc hcc).2.2.length
  rw[oj]at this
  exact List.eq_nil_of_length_eq_zero this.symm
 subst hps
 obtain⟨γb,hB,hcc⟩:=hb'
 rw[jQ,yQ]at hB hcc
 simp only[aQ,List.append_nil,cA,Nat.add_zero]at hB hcc
 obtain⟨S,k1,k2,k3⟩:=Nl.rp hB (hq rs q) (fun _ _ h=>h) (ah.snoc hcc).1
 have hlo:∀i∈S,h.length≤i:=fun i hi=>by
  obtain⟨_,k',e,_,_,hl,hm⟩:=k3 i hi
  rcases(hB.nd k' e hl).2 i hm with h1|h1
  ·cases h1
  ·exact h1
 refine⟨h'.drop h.length,css,S,?_,hv,k1,⟨k2,fun i hi=> ?_⟩,hlo⟩
 ·have:h'.take h.length=h:=by
   apply List.ext_getElem?
   intro i
   rw[List.getElem?_take]
   split
   ·rename_i hi;exact hB.base i hi (by simp)
   ·rw[List.getElem?_eq_none (by omega)]
  conv=>rhs;lhs;rw[←this]
  exact(List.take_append_drop _ _).symm
 ·obtain⟨⟨bs,h1⟩,_⟩:=k3 i hi
  have h2:=hB.own i
  unfold H.cells at h1
  split at h1
  ·rename_i ty cs hx;exact⟨ty,cs,hx⟩
  ·rename_i cs hx;exact absurd hx (h2 cs (.inr (hlo i hi)))
  ·simp at h1
end
theorem P0 {α:Type} {a:α} {l:List α}:(a::l)[0]? =some a:=rfl
theorem PQ {α:Type} {a b:α} {l:List α}:(a::b::l)[1]? =some b:=rfl
theorem Qg {α:Type} {a b c:α} {l:List α}:(a::b::c::l)[2]? =some c:=rfl
theorem P7 {α:Type} {a b c d:α} {l:List α}:(a::b::c::d::l)[3]? =some d:=rfl
theorem Pg:(∀ {a:Bool×List D} {l},(a::l)[0]? =some a)∧(∀ {a b:Bool×List D} {l},(a::b::l)[1]? =some b)∧(∀ {a b c:Bool×List D} {l},(a::b::c::l)[2]? =some c)∧(∀ {a b c d:Bool×List D} {l},(a::b::c::d::l)[3]? =some d)∧K0=4096:=⟨P0,PQ,Qg,P7,rfl⟩
theorem VW:type_of% (And.intro (And.intro (And.intro (@VE) (@P5)) (And.intro (@VP) (@VB))) (And.intro (And.intro (@Pg) (@O9)) (And.intro (@bl.eq_1) (@it.eq_1)))):=And.intro (And.intro (And.intro (@VE) (@P5)) (And.intro (@VP) (@VB))) (And.intro (And.intro (@Pg) (@O9)) (And.intro (@bl.eq_1) (@it.eq_1)))
end Go.Eng
namespace Go.Eng
theorem Rp.bool {h:H} {cs:List C} {v:Tv} {S:List Nat} (hr:Rp h .bool cs v S):∃b,cs= [.bool b]∧v= .b b∧S= []:=by unfold Rp at hr;exact hr
theorem Rp.str {h:H} {cs:List C} {v:Tv} {S:List Nat} (hr:Rp h .str cs v S):∃s,cs= [.str s]∧v= .s s∧S= []∧s.size≤maxLen:=by unfold Rp at hr;exact hr
theorem aC.int {k:IntKind} {v:Tv} (h:aC (.int k) v):∃n,v= .i n∧k.min≤n∧n≤k.max:=by cases v <;>simp only[aC]at h;exact⟨_,rfl,h⟩
theorem aC.bool {v:Tv} (h:aC .bool v):∃b,v= .b b:=by cases v <;>simp only[aC]at h;exact⟨_,rfl⟩
theorem aC.str {v:Tv} (h:aC .str v):∃s,v= .s s∧s.size≤maxLen:=by cases v <;>simp only[aC]at h;exact⟨_,rfl,h⟩
theorem aC.sl {t:Ty} {v:Tv} (h:aC (.sl t) v):∃xs,v= .l xs∧xs.length≤maxLen∧∀x∈xs,aC t x:=by cases v <;>simp only[aC]at h;exact⟨_,rfl,h⟩
theorem aC.st {ts:List Ty} {v:Tv} (h:aC (.st ts) v):∃vs,v= .r vs∧eg ts vs:=by cases v <;>simp only[aC]at h;exact⟨_,rfl,h⟩
theorem eg.step {t:Ty} {ts:List Ty} {vs:List Tv} (h:eg (t::ts) vs):∃v vr,vs=v::vr∧aC t v∧eg ts vr:=by cases vs <;>simp only[eg]at h;exact⟨_,_,rfl,h⟩
theorem eg.fin {vs:List Tv} (h:eg [] vs):vs= []:=by cases vs <;>simp only[eg]at h;rfl
theorem oR {α:Type} {f:α→Tv} {P:Tv→Prop} (hf:∀v,P v→∃x,v=f x):∀ {xs:List Tv},(∀x∈xs,P x)→∃ys:List α,xs=ys.map f
 | [],_=>⟨[],rfl⟩
 |x::xs,h=>by
  obtain⟨y,rfl⟩:=hf x (h _ (by simp))
  obtain⟨ys,rfl⟩:=oR hf (xs:=xs) fun x hx=>h x (by simp[hx])
  exact⟨y::ys,rfl⟩
def Oc (b:UInt8):Tv:= .i (b.toNat:Int)
def vA (x:Bytes):Tv:= .l (x.map Oc)
def eX (l:List Bytes):Tv:= .l (l.map vA)
def Q8 (n:Int):Tv:= .i n
def MC (l:List Int):Tv:= .l (l.map Q8)
theorem NZ {v:Tv} (h:aC (.int .u8) v):∃b,v=Oc b:=by
 obtain⟨n,rfl,h1,h2⟩:=h.int
 have h1:0≤n:=h1
 have h2:n≤255:=h2
 refine⟨UInt8.ofNat n.toNat,?_⟩
 simp only[Oc,UInt8.toNat_ofNat',Nat.reducePow]
 congr 1
 omega
theorem i0 {v:Tv} (h:aC (.sl (.int .u8)) v):∃x,v=vA x:=by
 obtain⟨xs,rfl,_,h2⟩:=h.sl
 obtain⟨ys,rfl⟩:=oR (f:=Oc) (P:=aC (.int .u8)) (fun v hv=>NZ hv) h2
 exact⟨ys,rfl⟩
theorem wF {v:Tv} (h:aC (.sl (.sl (.int .u8))) v):∃x,v=eX x:=by
 obtain⟨xs,rfl,_,h2⟩:=h.sl
 obtain⟨ys,rfl⟩:=oR (f:=vA) (P:=aC (.sl (.int .u8))) (fun v hv=>i0 hv) h2
 exact⟨ys,rfl⟩
theorem gK (x:Bytes):enc (.sl (.int .u8)) (vA x)= [.sl (bytes x)]:=by
 simp only[vA,enc,List.map_map,bytes]
 congr 2
theorem Lu (l:List Bytes):enc (.sl (.sl (.int .u8))) (eX l)= [.sl (l.map fun x=> [.sl (bytes x)])]:=by
 simp only[eX,enc,List.map_map]
 congr 2
 apply List.map_congr_left
 intro x _
 exact gK x
theorem nm (x:Bytes):wt (vA x)=x.length:=by
 have:∀x:Bytes,dw (x.map Oc)=0:=by
  intro x
  induction x with
  |nil=>rfl
  |cons b x ih=>simp[dw,wt,Oc,ih]
 simp[vA,wt,this]
theorem td {α:Type} {f:α→Tv} {x:α}:∀ {l:List α},x∈l→wt (f x)≤dw (l.map f)
 | [],h=>by cases h
 |y::l,h=>by
  simp only[List.map_cons,dw]
  rcases List.mem_cons.1 h with rfl|h
  ·omega
  ·have:=td (f:=f) h;omega
theorem zk (xs:List Tv):wt (.l xs)=xs.length+dw xs:=by simp[wt]
theorem Kd (l:List Bytes):l.length≤wt (eX l)∧∀x∈l,x.length≤wt (eX l):=by
 unfold eX
 rw[zk]
 refine⟨by simp,fun x hx=> ?_⟩
 have:=td (f:=vA) hx
 rw[nm]at this
 omega
theorem MT {x:Bytes} (h:x.length≤maxLen):aC (.sl (.int .u8)) (vA x):=by
 simp only[vA,aC]
 refine⟨by simpa using h,fun v hv=> ?_⟩
 obtain⟨b,_,rfl⟩:=List.mem_map.1 hv
 have hb:=b.toNat_lt
 have h0:IntKind.u8.min=0:=rfl
 have h1:IntKind.u8.max=255:=rfl
 simp only[Oc,aC]
 exact⟨by omega,by omega⟩
theorem Nk {l:List Bytes} (h:l.length≤maxLen) (h2:∀x∈l,x.length≤maxLen):aC (.sl (.sl (.int .u8))) (eX l):=by
 simp only[eX,aC]
 refine⟨by simpa using h,fun v hv=> ?_⟩
 obtain⟨b,hb,rfl⟩:=List.mem_map.1 hv
 exact MT (h2 b hb)
mutual
def Ty.fl:Ty→Bool
 | .sl _=>false
 | .st ts=>Ty.Qv ts
 |_=>true
def Ty.Qv:List Ty→Bool
 | []=>true
 |t::ts=>t.fl && Ty.Qv ts
end
theorem ti {cd:Nat→Option AF} {pd:List (Nat×Nat)} {R:List RV} {Q:List (Bool×List E)→List E→Prop} {k:List VK} {f:UT} {st:St} {ds:List Nat} {b:AC} {σ:Type} (f0:UT) (hf:cI f ds=f0) {f2:UT} {st2:St} (hw:dD f0 st f2 st2) (f1:UT) (es0:List (Nat×En)) (h2:f2=f1) (he:Mr st2.es=es0)
 (jc:σ→List (Nat×U)) (ue:σ→List (Nat×En)) (J:σ→Nat→Prop) (s0:σ) (g0:Nat) (hu:f1=bV f1 (jc s0)) (hs:kD st2 (BC es0 (ue s0))) (h0:J s0 g0)
 (round:∀s n g,J s g→VX cd pd R Q (.c b:: .stop (fun f' st'=>∃s' g',g' < g∧J s' g'∧cI f' ds=bV f1 (jc s')∧kD st' (BC es0 (ue s')))::k) (bV f1 (jc s)) ⟨n,BC es0 (ue s)⟩):
 VX cd pd R Q (.c (.loop ds b)::k) f st:=by
 refine GN (σ:=σ×Nat) (fun p=>bV f1 (jc p.1)) (fun p=>⟨p.2,BC es0 (ue p.1)⟩) (fun p g=>J p.1 g) (s0,st2.nx) g0 h0 (by rw[hf];exact hw.trans (dD.of_eq (by rw[h2];exact hu) (Nat.le_refl _) hs)) (fun p g hJ=> ?_)
 exact(round p.1 p.2 g hJ).le (.c (.stop (fun f' st' ⟨s',g',h1,h2,h3,h4⟩=>⟨(s',st'.nx),g',h1,h2,dD.of_eq h3 (Nat.le_refl _) h4⟩) (CY.refl k)))
end Go.Eng
namespace Go.Eng
section
variable {f:UT} {st:St}
def sP (st:St) (k k':Nat) (o dp:Bool) (t:Option (Nat×Nat)) (xs:List (List D)):St:=⟨st.nx+1,(k', .sl st.nx o dp t xs)::i3 [k] st.es⟩
theorem dD.Qh {s k k' v:Nat} {o dp:Bool} {t:Option (Nat×Nat)} {xs:List (List D)} (hs:UF f s= .val false [.ow k v]) (hl:lk k st.es=some (.sl v o dp t xs)) (hne:k'≠k):
 dD f st (UW f s (.val false [.ow k' st.nx])) (sP st k k' o dp t xs):=by
 rintro Γ mf h ⟨γ,hr⟩
 have hlk:∀j,lk j (sP st k k' o dp t xs).es=if j=k' then some (.sl st.nx o dp t xs)else if j=k then none else lk j st.es:=fun j=>by
  simp only[sP,ay,rZ]
  split
  ·rfl
  ·by_cases h2:j=k
   ·subst h2;simp
   ·rw[if_neg h2,if_neg (by simpa using h2)]
 have hmain:aB Γ (γ.up k' (γ.c k) (γ.w k) (γ.u k)) f (sP st k k' o dp t xs) mf h∧Mo Γ γ st h (γ.up k' (γ.c k) (γ.w k) (γ.u k)) (sP st k k' o dp t xs) h:=by
  refine hr.ND (N:=fun j=>j=k∨j=k') (Nat.le_succ _) (fun j hn=> ?_) (fun j e hn hj=> ?_) (fun _ _ _=>rfl) (fun j e hn hj i hi _ hp=> ?_) (fun _ _ _ _ _ _=>rfl)
   (fun j e hn hj=> ?_) (fun j e j' e' hn hjj hj hj' i hi=> ?_) (Nat.le_refl _) (fun _ _ _=>rfl) (fun hm j e hn hj=> ?_) hr.own
  ·simp only[not_or]at hn
   rw[hlk,if_neg hn.2,if_neg hn.1]
   exact⟨rfl,by rw[Gh.FZ _ _ _ _ hn.2],by rw[Gh.jW _ _ _ _ hn.2],by rw[Gh.mQ _ _ _ _ hn.2]⟩
  ·rw[hlk]at hj
   split at hj
   ·simp only[Option.some.injEq]at hj;subst hj;exact .inl (Nat.le_refl _)
   ·rename_i h1
    rw[if_pos (hn.resolve_right h1)]at hj
    cases hj
  ·rw[hlk]at hj
   split at hj
   ·rename_i h1
    subst h1
    rw[Gh.xD]at hi
    exact hp.2 k _ hl hi
   ·rename_i h1
    rw[if_pos (hn.resolve_right h1)]at hj
    cases hj
  ·rw[hlk]at hj
   split at hj
   ·rename_i h1
    subst h1
    rw[Gh.xD,Gh.zI]
    exact hr.nd k _ hl
   ·rename_i h1
    rw[if_pos (hn.resolve_right h1)]at hj
    cases hj
  ·rw[hlk]at hj
   split at hj
   ·rename_i h1
    subst h1
    rw[Gh.xD,Gh.zI]at hi
    rw[hlk,if_neg hjj]at hj'
    rw[Gh.jW _ _ _ _ hjj,Gh.mQ _ _ _ _ hjj]
    split at hj'
    ·cases hj'
    ·rename_i h2
     exact hr.dj k j' _ e' (fun e=>h2 e.symm) hl hj' i hi
   ·rename_i h1
    rw[if_pos (hn.resolve_right h1)]at hj
    cases hj
  ·rw[hlk]at hj
   split at hj
   ·rename_i h1
    subst h1
    simp only[Option.some.injEq]at hj
    subst hj
    have he:=hr.en k _ hl
    have hpr:∀i,i < h.length→PR Γ γ st i→PR Γ (γ.up j (γ.c k) (γ.w k) (γ.u k)) (sP st k j o dp t xs) i:=fun i hi hp=>(hm.cell i hi hp).2
    cases o with
    |true=>
     obtain⟨_,he⟩:=he
     refine⟨Nat.lt_succ_self _,?_⟩
     rw[Gh.Hq,Gh.xD,Gh.zI]
     rcases he with he|⟨id,ty,ez,bs,S,k1,k2,k3,k4,k5,k6,k7,k8⟩
     ·exact .inl he
     ·exact .inr ⟨id,ty,ez,bs,S,k1,k2,k3,k4,k5,k6,fun i hi=>hpr i (aG.lt xs k6 i hi) (k7 i hi),k8⟩
    |false=>
     obtain⟨_,h1,h2,S,h3,h4⟩:=he
     refine⟨Nat.lt_succ_self _,?_⟩
     rw[Gh.Hq,Gh.xD,Gh.zI]
     exact⟨h1,h2,S,h3,fun i hi=>hpr i (RD.lt _ h3 i hi) (h4 i hi)⟩
   ·rename_i h1
    rw[if_pos (hn.resolve_right h1)]at hj
    cases hj
 have hsl:=hr.slot s
 rw[hs]at hsl
 obtain⟨c,h1,h2⟩:=UR.one hsl
 refine⟨_,{hmain.1 with fr:=fun j=> ?_}⟩
 unfold UW
 rw[UT.bp]
 split
 ·rename_i hk
  subst hk
  have:PT.get mf (K.of s)= .val false [c]:=h1
  rw[this]
  refine UR.v1 ⟨Nat.lt_succ_self _,fun _ _ _ _ _=> ?_⟩
  rw[Gh.Hq]
  exact h2.2 _ _ _ _ hl
 ·exact hmain.1.fr j
theorem dD.Qo (d:D):dD f st f (kn st d):=fun Γ mf h ⟨γ,hr⟩=>by
 obtain⟨γ',h1,_⟩:=GO hr d
 exact⟨γ',h1⟩
end
theorem Jb {cd:Nat→Option AF} {pd:List (Nat×Nat)} {R:List RV} {Q:List (Bool×List E)→List E→Prop} {k:List VK} {f:UT} {st:St} {ds:List Nat} {b:AC} {σ:Type} (f1:UT) (hf:cI f ds=f1)
 (jc:σ→List (Nat×U)) (es:σ→List (Nat×En)) (J:σ→Nat→Prop) (s0:σ) (g0:Nat) (hu:f1=bV f1 (jc s0)) (hs:kD st (es s0)) (h0:J s0 g0)
 (round:∀s n g,J s g→∀P:UT→St→Prop,(∀(s':σ) (g':Nat) (f':UT) (st':St),g' < g→J s' g'→cI f' ds=bV f1 (jc s')→kD st' (es s')→P f' st')→VX cd pd R Q (.c b:: .stop P::k) (bV f1 (jc s)) ⟨n,es s⟩):
 VX cd pd R Q (.c (.loop ds b)::k) f st:=
 rW f1 hf jc es J s0 g0 hu hs h0 fun s n g h=>round s n g h _ fun s' g' f' st' a b c d=>⟨s',g',a,b,c,d⟩
theorem ed {cd:Nat→Option AF} {pd:List (Nat×Nat)} {R:List RV} {Q:List (Bool×List E)→List E→Prop} {k:List VK} {f:UT} {st:St} {ds:List Nat} {b:AC} {σ:Type} (f1:UT) (es0:List (Nat×En)) (hf:cI f ds=f1) (he:Mr st.es=es0)
 (jc:σ→List (Nat×U)) (ue:σ→List (Nat×En)) (J:σ→Nat→Prop) (s0:σ) (g0:Nat) (hu:f1=bV f1 (jc s0)) (hs:kD st (BC es0 (ue s0))) (h0:J s0 g0)
 (round:∀s n g,J s g→∀P:UT→St→Prop,(∀(s':σ) (g':Nat) (f':UT) (st':St),g' < g→J s' g'→cI f' ds=bV f1 (jc s')→kD st' (BC es0 (ue s'))→P f' st')→VX cd pd R Q (.c b:: .stop P::k) (bV f1 (jc s)) ⟨n,BC es0 (ue s)⟩):
 VX cd pd R Q (.c (.loop ds b)::k) f st:=Jb f1 hf jc (fun s=>BC es0 (ue s)) J s0 g0 hu hs h0 round
theorem VQ:(∀al,nC al=cT (bJ al))∧(∀k v,aW k v []=([],[]))∧(∀k v d r,aW k v (.p d::r)=(d::(aW (k+1) (v+1) r).1,(aW (k+1) (v+1) r).2))∧
 (∀k v dp t xs r,aW k v (.o dp t xs::r)=(.ow k v::(aW (k+1) (v+1) r).1,(k, .sl v true dp t xs)::(aW (k+1) (v+1) r).2))∧(∀k,cK k=1099511627776+4096 * k)∧
 (∀st d rs k0 v0 ty xs us,ze st d rs k0 v0 ty xs us=⟨st.nx+cT rs+(1+xs.length),(k0, .pt v0 ty (aW (cK k0) (st.nx+cT rs+1) xs).1)::((aW (cK k0) (st.nx+cT rs+1) xs).2++((bd (dk d) st.nx rs).2++i3 us st.es))⟩)∧
 (∀us,i3 us []= [])∧(∀us k e r,i3 us ((k,e)::r)=if us.elem k then i3 us r else(k,e)::i3 us r)∧
 (∀st d,kn st d=(match d with| .ow k v=>(match st.fb k v with|some (_,_,t,xs)=>st.put k (.sl v false false t xs)|none=>st)|_=>st))∧
 (∀st us,Fq st us=us.all fun k=>match lk k st.es with|some (.sl _ _ dp _ xs)=> !dp||flat xs|_=>true):=
 ⟨fun _=>rfl,fun _ _=>rfl,fun _ _ _ _=>rfl,fun _ _ _ _ _ _=>rfl,fun _=>rfl,fun _ _ _ _ _ _ _ _=>rfl,fun _=>rfl,fun _ _ _ _=>rfl,fun _ d=>by cases d <;>rfl,fun _ _=>rfl⟩
theorem VV:type_of% (And.intro @VW @VQ):=And.intro @VW @VQ
section
variable {cd:Nat→Option AF} {pd:List (Nat×Nat)} {R:List RV} {Q:List (Bool×List E)→List E→Prop} {k:List VK} {f:UT} {st:St} {d g:Nat} {l:List IT}
theorem cp {q:Bool} {vs as:List (Bool×List D)} {rs:List (Bool×List E)} (hc:VC cd g (bJ as) (fun r _=>r=rs))
 (hk:VX cd pd R Q (.c (.ops l)::k) (m7 f st d rs) (kR st d rs)) (ha:gW st vs=some as:=by first|rfl|(simp[VW] <;>repeat' constructor)) (hn:C1 rs=true:=by rfl):Mz cd pd R Q d g q l k f st (some vs):=an hc ha hn hk
theorem P1 {q:Bool} {vs as:List (Bool×List D)} {rs:List (Bool×List E)} (hc:VC cd g (bJ as) (fun r _=>r=rs))
 (hk:VX cd pd R Q (.c (.ops l)::k) (m7 f (bX st vs) d rs) (kR (bX st vs) d rs)) (ha:gW (bX st vs) vs=some as:=by first|rfl|(simp[VW] <;>repeat' constructor)) (hn:HU (bX st vs) vs=true:=by first|rfl|simp[VW]):Mz cd pd R Q d g q l k f st (some vs):=Pc hc ha hn hk
theorem bI {vs:List (Bool×List D)} {as as':List (Bool×List E)} {us:List Nat} {k0 v0 ty0 ty:Nat} {ds0:List D} {rs:List (Bool×List E)} {ys:List E0} (hc:VC cd g as' (fun r p=>r=rs∧p= [.pt ty ys]))
 (hk:VX cd pd R Q (.c (.ops l)::k) (m7 f (bX st vs) d rs) (ze (bX st vs) d rs k0 v0 ty ys us)) (he:gf (bX st vs) vs []=some (as,us):=by simp(disch:=omega) [VV];exact⟨rfl,rfl⟩) (hn:EL as=as':=by rfl) (hp:Bp vs= [(k0,v0)]:=by rfl) (hl:(bX st vs).ptr k0 v0=some (ty0,ds0):=by simp(disch:=omega) [VV];exact⟨rfl,rfl⟩) (hu:us.elem k0=true:=by simp(disch:=omega) [VV]) (ho:Fq (bX st vs) us=true:=by first|rfl|simp(disch:=omega) [VV])
 (n1:k0 < dk d∨dk d+cT rs≤k0:=by simp(disch:=omega) [VV]) (n2:k0 < 1099511627776:=by omega) (n3:dk d+cT rs≤1099511627776:=by simp(disch:=omega) [VV]):Mz cd pd R Q d g false l k f st (some vs):=O6 hc he hn hp hl hu ho n1 n2 n3 hk
end
end Go.Eng
namespace Go.Eng
def aP (x y:E):Prop:=y=x∨(x= .e (.p .nils)∧∃dp t,y= .e (.o dp t []))
def aJ:List E→List E→Prop
 | [],[]=>True
 |x::xs,y::ys=>aP x y∧aJ xs ys
 |_,_=>False
def aI:List (Bool×List E)→List (Bool×List E)→Prop
 | [],[]=>True
 |(g,xs)::r,(g',ys)::r'=>g'=g∧aJ xs ys∧aI r r'
 |_,_=>False
theorem aP.refl (x:E):aP x x:= .inl rfl
theorem aJ.refl:∀xs:List E,aJ xs xs
 | []=>trivial
 |x::xs=>⟨.refl x,aJ.refl xs⟩
theorem aI.refl:∀rs:List (Bool×List E),aI rs rs
 | []=>trivial
 |(_,xs)::r=>⟨rfl, .refl xs,aI.refl r⟩
theorem aI.snoc {a:Bool×List E}:∀ {rs rs':List (Bool×List E)},aI rs rs'→aI (rs++ [a]) (rs'++ [a])
 | [],[],_=> .refl [a]
 |(_,_)::_,(_,_)::_,h=>⟨h.1,h.2.1,aI.snoc h.2.2⟩
theorem Bz:∀ {xs ys:List E},lI xs=true→aJ xs ys→lI ys=true
 | [],[],_,_=>rfl
 | .e x::xs,y::ys,hc,ho=>by
   simp only[lI,Bool.and_eq_true]at hc
   have h2:=Bz hc.2 ho.2
   rcases ho.1 with rfl|⟨h,dp,t,rfl⟩
   ·simp only[lI,hc.1,h2,Bool.and_self]
   ·simp only[lI,zd,h2,Bool.and_self]
 | .pt ty x::xs,y::ys,hc,ho=>by
   simp only[lI,Bool.and_eq_true]at hc
   have h2:=Bz hc.2 ho.2
   rcases ho.1 with rfl|⟨h,dp,t,rfl⟩
   ·simp only[lI,hc.1,h2,Bool.and_self]
   ·simp only[lI,zd,h2,Bool.and_self]
theorem GJ:∀ {rs rs':List (Bool×List E)},qF rs=true→aI rs rs'→qF rs'=true
 | [],[],_,_=>rfl
 |(_,xs)::r,(_,ys)::r',hc,ho=>by
  simp only[qF,Bool.and_eq_true]at hc⊢
  exact⟨Bz hc.1 ho.2.1,GJ hc.2 ho.2.2⟩
theorem sB:∀ {xs ys:List E},aJ xs ys→cA ys=cA xs
 | [],[],_=>rfl
 |x::xs,y::ys,ho=>by
  have h2:=sB ho.2
  rcases ho.1 with rfl|⟨rfl,dp,t,rfl⟩
  ·cases y <;>simp only[cA,h2]
  ·simp only[cA,h2]
theorem Cf:∀ {rs rs':List (Bool×List E)},aI rs rs'→cT rs'=cT rs
 | [],[],_=>rfl
 |(_,xs)::r,(_,ys)::r',ho=>by simp only[cT,sB ho.2.1,Cf ho.2.2]
def NW (L L':List (Nat×En)) (V:Nat):Prop:=
 (∀k e,lk k L=some e→lk k L'=some e)∧∀k e,lk k L'=some e→lk k L=some e∨(lk k L=none∧∃v dp t,v < V∧e= .sl v true dp t [])
def CW (lo hi:Nat) (L L':List (Nat×En)) (V:Nat) (d d':D):Prop:=
 (d'=d∧HQ d=true)∨(d'=d∧∃k v,d= .ow k v∧lo≤k∧k < hi∧∃e,lk k L=some e)∨(d'=d∧∃k v o,d= .pt k v o)∨
   (d= .nils∧∃k v dp t,lo≤k∧k < hi∧d'= .ow k v∧v < V∧lk k L=none∧lk k L'=some (.sl v true dp t []))
theorem CW.ext {lo hi lo' hi' V:Nat} {L L' Lc Lc':List (Nat×En)} {d d':D} (h:CW lo hi L L' V d d') (h1:∀j,lo≤j→j < hi→lk j Lc=lk j L) (h2:∀j,lo≤j→j < hi→lk j Lc'=lk j L') (h3:lo'≤lo) (h4:hi≤hi'):CW lo' hi' Lc Lc' V d d':=by
 rcases h with h|⟨e,k,v,e1,a1,a2,a3⟩|h|⟨e,k,v,dp,t,a1,a2,a3,a4,a5,a6⟩
 ·exact .inl h
 ·exact .inr (.inl ⟨e,k,v,e1,by omega,by omega,by rw[h1 k a1 a2];exact a3⟩)
 ·exact .inr (.inr (.inl h))
 ·exact .inr (.inr (.inr ⟨e,k,v,dp,t,by omega,by omega,a3,a4,by rw[h1 k a1 a2];exact a5,by rw[h2 k a1 a2];exact a6⟩))
def MJ (lo hi:Nat) (L:List (Nat×En)):Prop:=∀k e,lk k L=some e→lo≤k∧k < hi
theorem MJ.none {lo hi:Nat} {L:List (Nat×En)} (h:MJ lo hi L) {k:Nat} (hk:k < lo∨hi≤k):lk k L=none:=by
 cases he:lk k L with
 |none=>rfl
 |some e=>have:=h k e he;omega
theorem Dw {k:Nat} {A B:List (Nat×En)} (h:lk k B=none):lk k (A++B)=lk k A:=by
 rw[bO]
 cases lk k A with
 |none=>exact h
 |some e=>rfl
theorem DF {k:Nat} {A B:List (Nat×En)} (h:lk k A=none):lk k (A++B)=lk k B:=by rw[bO,h]
theorem NW.app {A A' B B':List (Nat×En)} {V a b c:Nat} (ha:NW A A' V) (hb:NW B B' V) (k1:MJ a b A) (k2:MJ a b A') (k3:MJ b c B) (k4:MJ b c B'):NW (A++B) (A'++B') V:=by
 refine⟨fun k e h=> ?_,fun k e h=> ?_⟩
 ·rcases eE h with h|h
  ·have:=k1 k e h
   rw[Dw (k4.none (by omega))]
   exact ha.1 k e h
  ·have:=k3 k e h
   rw[DF (k2.none (by omega))]
   exact hb.1 k e h
 ·rcases eE h with h|h
  ·have:=k2 k e h
   rw[Dw (k3.none (by omega))]
   exact ha.2 k e h
  ·have:=k4 k e h
   rw[DF (k1.none (by omega))]
   exact hb.2 k e h
theorem NW.refl (L:List (Nat×En)) (V:Nat):NW L L V:=⟨fun _ _ h=>h,fun _ _ h=> .inl h⟩
def Cl (L:List (Nat×En)) (ds:List D):Prop:=∀d∈ds,HQ d=true∨∃k v e,d= .ow k v∧lk k L=some e
theorem Bj:∀ {xs:List E0} {k v:Nat},zd xs=true→Cl (aW k v xs).2 (aW k v xs).1
 | [],_,_,_,d,hd=>by simp[aW]at hd
 | .p d0::r,k,v,hc,d,hd=>by
   simp only[zd,Bool.and_eq_true]at hc
   simp only[aW]at hd⊢
   rcases List.mem_cons.1 hd with rfl|hd
   ·exact .inl hc.1
   ·exact Bj hc.2 d hd
 | .o dp t ys::r,k,v,hc,d,hd=>by
   simp only[aW]at hd⊢
   rcases List.mem_cons.1 hd with rfl|hd
   ·exact .inr ⟨k,v,_,rfl,by rw[ay,if_pos rfl]⟩
   ·rcases Bj (xs:=r) (k:=k+1) (v:=v+1) hc d hd with h|⟨k',v',e,rfl,h⟩
    ·exact .inl h
    ·refine .inr ⟨k',v',?_⟩
     rw[ay]
     split
     ·exact⟨_,rfl,rfl⟩
     ·exact⟨e,rfl,h⟩
theorem f9 (es:List E) (k v:Nat):MJ k (k+cA es) (aQ k v es).2:=fun k' e h=>by have:=ka h;omega
theorem xI (rs:List (Bool×List E)) (k v:Nat):MJ k (k+cT rs) (bd k v rs).2:=fun k' e h=>by have:=oH h;omega
theorem ah.app {α β:Type} {R:α→β→Prop}:∀ {xs xs':List α} {ys ys':List β},ah R xs ys→ah R xs' ys'→ah R (xs++xs') (ys++ys')
 | [],_,[],_,_,h=>h
 |_::_,_,_::_,_,h1,h2=>⟨h1.1,ah.app h1.2 h2⟩
theorem yR (x:E) (es:List E) (k v:Nat):aQ k v (x::es)=((aQ k v [x]).1++(aQ (k+cA [x]) (v+cA [x]) es).1,(aQ k v [x]).2++(aQ (k+cA [x]) (v+cA [x]) es).2):=by
 rcases x with(d|_)|_ <;>simp[aQ,cA]
theorem K1 {x y:E} {k v V:Nat} (hc:lI [x]=true) (ho:aP x y) (hv:v+cA [x]≤V):NW (aQ k v [x]).2 (aQ k v [y]).2 V∧ah (CW k (k+cA [x]) (aQ k v [x]).2 (aQ k v [y]).2 V) (aQ k v [x]).1 (aQ k v [y]).1:=by
 rcases ho with rfl|⟨rfl,dp,t,rfl⟩
 ·refine⟨NW.refl _ _,?_⟩
  rcases y with(d|⟨dp,t,ys⟩)|⟨ty,xs⟩
  ·simp only[lI,zd,Bool.and_eq_true]at hc
   simp only[aQ]
   exact⟨.inl ⟨rfl,hc.1.1⟩,trivial⟩
  ·simp only[aQ]
   exact⟨.inr (.inl ⟨rfl,k,v,rfl,Nat.le_refl _,by simp[cA],_,by rw[ay,if_pos rfl]⟩),trivial⟩
  ·simp only[aQ]
   exact⟨.inr (.inr (.inl ⟨rfl,_,_,_,rfl⟩)),trivial⟩
 ·simp only[cA]at hv
  simp only[aQ]
  refine⟨⟨fun k' e h=>by simp[lk]at h,fun k' e h=> ?_⟩,⟨.inr (.inr (.inr ⟨rfl,k,v,dp,t,Nat.le_refl _,by simp[cA],rfl,by omega,rfl,by rw[ay,if_pos rfl]⟩)),trivial⟩⟩
  rw[ay]at h
  split at h
  ·simp at h;subst h;exact .inr ⟨rfl,v,dp,t,by omega,rfl⟩
  ·simp[lk]at h
theorem IX:∀ {xs ys:List E} {k v V:Nat},lI xs=true→aJ xs ys→v+cA xs≤V→NW (aQ k v xs).2 (aQ k v ys).2 V∧ah (CW k (k+cA xs) (aQ k v xs).2 (aQ k v ys).2 V) (aQ k v xs).1 (aQ k v ys).1
 | [],[],k,v,V,_,_,_=>⟨NW.refl _ _,trivial⟩
 |x::xs,y::ys,k,v,V,hc,ho,hv=>by
  have hsx:cA (x::xs)=cA [x]+cA xs:=by cases x <;>simp[cA]
  have hsy:cA [y]=cA [x]:=sB ⟨ho.1,trivial⟩
  have hs2:=sB ho.2
  have hc1:lI [x]=true∧lI xs=true:=by cases x <;>simp[lI]at hc⊢ <;>exact⟨hc.1,hc.2⟩
  obtain⟨a1,a2⟩:=K1 (k:=k) (v:=v) (V:=V) hc1.1 ho.1 (by omega)
  obtain⟨b1,b2⟩:=IX (k:=k+cA [x]) (v:=v+cA [x]) (V:=V) hc1.2 ho.2 (by omega)
  rw[yR x,yR y,hsy,hsx]
  have q1:=f9 [x] k v
  have q2:=f9 [y] k v
  have q3:=f9 xs (k+cA [x]) (v+cA [x])
  have q4:=f9 ys (k+cA [x]) (v+cA [x])
  rw[hsy]at q2
  rw[hs2]at q4
  refine⟨a1.app b1 q1 q2 q3 q4,ah.app (a2.imp fun d d' h=>h.ext (fun j h1 h2=>Dw (q3.none (by omega))) (fun j h1 h2=>Dw (q4.none (by omega))) (Nat.le_refl _) (by omega)) (b2.imp fun d d' h=>h.ext (fun j h1 h2=>DF (q1.none (by omega))) (fun j h1 h2=>DF (q2.none (by omega))) (by omega) (by omega))⟩
theorem Kh:∀ {rs rs':List (Bool×List E)} {k v V:Nat},qF rs=true→aI rs rs'→v+cT rs≤V→NW (bd k v rs).2 (bd k v rs').2 V∧ah (fun a a'=>a'.1=a.1∧ah (CW k (k+cT rs) (bd k v rs).2 (bd k v rs').2 V) a.2 a'.2) (bd k v rs).1 (bd k v rs').1
 | [],[],k,v,V,_,_,_=>⟨NW.refl _ _,trivial⟩
 |(g,xs)::r,(g',ys)::r',k,v,V,hc,ho,hv=>by
  simp only[cT]at hv
  simp only[qF,Bool.and_eq_true]at hc
  have hs1:=sB ho.2.1
  have hs2:=Cf ho.2.2
  obtain⟨a1,a2⟩:=IX (k:=k) (v:=v) (V:=V) hc.1 ho.2.1 (by omega)
  obtain⟨b1,b2⟩:=Kh (k:=k+cA xs) (v:=v+cA xs) (V:=V) hc.2 ho.2.2 (by omega)
  simp only[bd,cT,hs1]
  have q1:=f9 xs k v
  have q2:=f9 ys k v
  have q3:=xI r (k+cA xs) (v+cA xs)
  have q4:=xI r' (k+cA xs) (v+cA xs)
  rw[hs1]at q2
  rw[hs2]at q4
  refine⟨a1.app b1 q1 q2 q3 q4,⟨ho.1,a2.imp fun d d' h=>h.ext (fun j h1 h2=>Dw (q3.none (by omega))) (fun j h1 h2=>Dw (q4.none (by omega))) (Nat.le_refl _) (by omega)⟩,b2.imp fun a a' ⟨e,h⟩=>⟨e,h.imp fun d d' h=>h.ext (fun j h1 h2=>DF (q1.none (by omega))) (fun j h1 h2=>DF (q2.none (by omega))) (by omega) (by omega)⟩⟩
theorem Ji {xs:List E0} {k v k' w ty:Nat} {ds:List D}:lk k' (aW k v xs).2≠some (.pt w ty ds):=by
 induction xs generalizing k v with
 |nil=>simp[aW,lk]
 |cons a r ih=>
  cases a with
  |p d=>simp only[aW];exact ih
  |o dp t ys=>
   simp only[aW,ay]
   split
   ·simp
   ·exact ih
theorem AG:∀ {es:List E} {k v k' w ty:Nat} {ds:List D},lI es=true→lk k' (aQ k v es).2=some (.pt w ty ds)→Cl (aQ k v es).2 ds
 | [],_,_,_,_,_,_,_,h=>by simp[aQ,lk]at h
 |x::es,k,v,k',w,ty,ds,hc,h=>by
  have hc1:lI [x]=true∧lI es=true:=by cases x <;>simp[lI]at hc⊢ <;>exact⟨hc.1,hc.2⟩
  rw[yR]at h⊢
  have q1:=f9 [x] k v
  have q3:=f9 es (k+cA [x]) (v+cA [x])
  rcases eE h with h|h
  ·rcases x with(d|⟨dp,t,ys⟩)|⟨ty0,xs⟩
   ·simp[aQ,lk]at h
   ·simp only[aQ,ay]at h;split at h <;>simp[lk]at h
   ·simp only[lI,Bool.and_eq_true]at hc1
    simp only[aQ,List.append_nil,ay]at h
    split at h
    ·simp at h
     obtain⟨_,_,rfl⟩:=h
     intro d hd
     rcases Bj hc1.1.1 d hd with h2|⟨k2,v2,e,rfl,h2⟩
     ·exact .inl h2
     ·refine .inr ⟨k2,v2,e,rfl,?_⟩
      have h3:=iM h2
      rw[Dw (q3.none (by simp only[cA];omega))]
      simp only[aQ,List.append_nil,ay,if_neg (show k2≠k by omega)]
      exact h2
    ·exact absurd h Ji
  ·intro d hd
   rcases AG hc1.2 h d hd with h2|⟨k2,v2,e,rfl,h2⟩
   ·exact .inl h2
   ·have:=q3 k2 e h2
    exact .inr ⟨k2,v2,e,rfl,by rw[DF (q1.none (by omega))];exact h2⟩
theorem Ai:∀ {rs:List (Bool×List E)} {k v k' w ty:Nat} {ds:List D},qF rs=true→lk k' (bd k v rs).2=some (.pt w ty ds)→Cl (bd k v rs).2 ds
 | [],_,_,_,_,_,_,_,h=>by simp[bd,lk]at h
 |(g,es)::r,k,v,k',w,ty,ds,hc,h=>by
  simp only[qF,Bool.and_eq_true]at hc
  simp only[bd]at h⊢
  have q1:=f9 es k v
  have q3:=xI r (k+cA es) (v+cA es)
  rcases eE h with h|h
  ·intro d hd
   rcases AG hc.1 h d hd with h2|⟨k2,v2,e,rfl,h2⟩
   ·exact .inl h2
   ·have:=q1 k2 e h2
    exact .inr ⟨k2,v2,e,rfl,by rw[Dw (q3.none (by omega))];exact h2⟩
  ·intro d hd
   rcases Ai hc.2 h d hd with h2|⟨k2,v2,e,rfl,h2⟩
   ·exact .inl h2
   ·have:=q3 k2 e h2
    exact .inr ⟨k2,v2,e,rfl,by rw[DF (q1.none (by omega))];exact h2⟩
theorem EZ.own {Γ:Cx} {h:H} {K v:Nat} {gs gs':List (Bool×List E)} {css:List (Bool×List C)} (hb:EZ Γ h K v gs css) (hc:qF gs=true) (ho:aI gs gs'):EZ Γ h K v gs' css:=by
 obtain⟨γ,hr,hall⟩:=hb
 unfold EZ
 rw[Cf ho]
 obtain⟨hw,hcells⟩:=Kh (k:=K) (v:=v) (V:=v+cT gs) hc ho (Nat.le_refl _)
 have hpt:=fun k' w ty ds=>Ai (k:=K) (v:=v) (k':=k') (w:=w) (ty:=ty) (ds:=ds) hc
 generalize (bd K v gs).2=L at *
 generalize (bd K v gs').2=L' at *
 let γ':Gh:=⟨fun k=>if(lk k L).isSome then γ.c k else .nils,fun k=>if(lk k L).isSome then γ.w k else [],fun k=>if(lk k L).isSome then γ.u k else []⟩
 have gO:∀k e,lk k L=some e→γ'.c k=γ.c k∧γ'.w k=γ.w k∧γ'.u k=γ.u k:=fun k e he=>by simp[γ',he]
 have gN:∀k,lk k L=none→γ'.c k= .nils∧γ'.w k= []∧γ'.u k= []:=fun k he=>by simp[γ',he]
 have hPR:∀i,PR Γ γ ⟨v+cT gs,L⟩ i→PR Γ γ' ⟨v+cT gs,L'⟩ i:=fun i hp=>⟨hp.1,fun k e hl=>by
  rcases hw.2 k e hl with h1|⟨h1,_⟩
  ·rw[(gO k e h1).2.1];exact hp.2 k e h1
  ·rw[(gN k h1).2.1];simp⟩
 have hDC:∀c d,(HQ d=true∨(∃k v,d= .ow k v∧∃e,lk k L=some e)∨∃k v o,d= .pt k v o)→DC Γ γ ⟨v+cT gs,L⟩ h c d→DC Γ γ' ⟨v+cT gs,L'⟩ h c d:=fun c d hd hdc=>by
  rcases hd with hd|⟨k,v2,rfl,e,he⟩|⟨k,v2,o,rfl⟩
  ·cases d <;>simp[HQ]at hd <;>(obtain⟨S,h1,h2⟩:=hdc;exact⟨S,h1,fun i hi=>hPR i (h2 i hi)⟩)
  ·refine⟨hdc.1,fun o dp t xs hl=> ?_⟩
   rcases hw.2 k _ hl with h1|⟨h1,_⟩
   ·rw[(gO k _ h1).1];exact hdc.2 o dp t xs h1
   ·rw[he]at h1;cases h1
  ·refine⟨hdc.1,fun ty ds hl=> ?_⟩
   rcases hw.2 k _ hl with h1|⟨_,_,_,_,_,h1⟩
   ·rw[(gO k _ h1).1];exact hdc.2 ty ds h1
   ·cases h1
 refine⟨γ',⟨fun k=>(by rw[PT.bL,UT.bL];intro cs e;cases e),fun k e hl=> ?_,fun k e hl=> ?_,fun k k' e e' hne hl hl' i hi=> ?_,hr.len,hr.base,hr.arb,fun p hp=>⟨(hr.pin p hp).1,fun ty ds hl=> ?_⟩,hr.own⟩,?_⟩
 ·rcases hw.2 k e hl with h1|⟨h1,v2,dp,t,h2,rfl⟩
  ·obtain⟨g1,g2,g3⟩:=gO k e h1
   have her:=hr.en k e h1
   match e,her with
   | .sl v2 true dp t xs,her=>
     refine⟨her.1,?_⟩
     rw[g1,g2,g3]
     rcases her.2 with her|⟨id,ty,ez,bs,S,q1,q2,q3,q4,q5,q6,q7,q8⟩
     ·exact .inl her
     ·exact .inr ⟨id,ty,ez,bs,S,q1,q2,q3,q4,q5,q6,fun i hi=>hPR i (q7 i hi),q8⟩
   | .sl v2 false dp t xs,her=>
     obtain⟨q0,q1,q2,S,q3,q4⟩:=her
     exact⟨q0,by rw[g2,q1],by rw[g3,q2],S,by rw[g1];exact q3,fun i hi=>hPR i (q4 i hi)⟩
   | .pt v2 ty ds,her=>
     obtain⟨q0,q1,id,bs,q2,q3,q4,q5⟩:=her
     refine⟨q0,by rw[g3,q1],id,bs,by rw[g1,q2],by rw[g2,q3],q4,?_⟩
     exact ah.mem (fun c d hd hdc=>hDC c d (by
      rcases hpt k v2 ty ds h1 d hd with h2|⟨k2,v3,e2,h2,h3⟩
      ·exact .inl h2
      ·exact .inr (.inl ⟨k2,v3,h2,e2,h3⟩)) hdc) q5
  ·obtain⟨g1,g2,g3⟩:=gN k h1
   exact⟨h2, .inl ⟨rfl,g2,g3, .inl g1⟩⟩
 ·rcases hw.2 k e hl with h1|⟨h1,_⟩
  ·rw[(gO k e h1).2.1,(gO k e h1).2.2];exact hr.nd k e h1
  ·rw[(gN k h1).2.1,(gN k h1).2.2];simp
 ·rcases hw.2 k e hl with h1|⟨h1,_⟩
  ·rw[(gO k e h1).2.1,(gO k e h1).2.2]at hi
   rcases hw.2 k' e' hl' with h2|⟨h2,_⟩
   ·rw[(gO k' e' h2).2.1,(gO k' e' h2).2.2];exact hr.dj k k' e e' hne h1 h2 i hi
   ·rw[(gN k' h2).2.1,(gN k' h2).2.2];simp
  ·rw[(gN k h1).2.1,(gN k h1).2.2]at hi;simp at hi
 ·rcases hw.2 p.1 _ hl with h1|⟨_,_,_,_,_,h1⟩
  ·rw[(gO _ _ h1).1];exact(hr.pin p hp).2 ty ds h1
  ·cases h1
 ·refine ah.comp (T:=DG Γ γ' ⟨v+cT gs,L'⟩ h) (fun a b b' hab ⟨e1,hbb⟩=>⟨by rw[hab.1,e1],?_⟩) hall hcells
  refine ah.comp (T:=DC Γ γ' ⟨v+cT gs,L'⟩ h) (fun c d d' hcd hdd=> ?_) hab.2 hbb
  rcases hdd with⟨rfl,h1⟩|⟨rfl,k,v2,h1,_,_,e,h2⟩|⟨rfl,h1⟩|⟨rfl,k,v2,dp,t,_,_,rfl,h1,h2,h3⟩
  ·exact hDC c d' (.inl h1) hcd
  ·exact hDC c d' (.inr (.inl ⟨k,v2,h1,e,h2⟩)) hcd
  ·exact hDC c d' (.inr (.inr h1)) hcd
  ·obtain⟨S,q1,_⟩:=hcd
   simp only[RD]at q1
   exact⟨h1,fun _ _ _ _ _=>by rw[(gN k h2).1];exact q1.1⟩
theorem VC.own {cd:Nat→Option AF} {g:Nat} {as:List (Bool×List E)} {Q Q':List (Bool×List E)→List E→Prop} (hc:VC cd g as Q) (hq:∀rs ps,Q rs ps→∃rs',aI rs rs'∧Q' rs' ps):VC cd g as Q':=
 fun Γ ms h1 h2=>(hc Γ ms h1 h2).mono fun r h' ⟨rs,ps,css,q,hcl,hv,hb⟩=>by
  obtain⟨rs',ho,q'⟩:=hq rs ps q
  exact⟨rs',ps,css,q',GJ hcl ho.snoc,hv,fun K v=>(hb K v).own hcl ho.snoc⟩
theorem VC.ic {cd:Nat→Option AF} {g:Nat} {as:List (Bool×List E)} {Q:List (Bool×List E)→List E→Prop} (hc:VC cd g as (fun rs ps=>∃rs',aI rs rs'∧Q rs' ps)):VC cd g as Q:=hc.own fun _ _ h=>h
end Go.Eng
