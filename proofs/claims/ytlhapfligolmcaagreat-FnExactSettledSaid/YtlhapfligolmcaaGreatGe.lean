import Derived.Test.YtlhapfligolmcaaGreatGc
import Derived.Test.YtlhapfligolmcaaGreatGd
set_option linter.unusedVariables false
set_option linter.unusedSimpArgs false
namespace Go.Eng
def cK (k:Nat):Nat:=1099511627776+4096 * k
def fx:List Nat→List (Nat×En)→List (Nat×En)
 |_,[]=> []
 |us,(k,e)::r=>if us.elem k then fx us r else(k,e)::fx us r
def vP (st:St) (d:Nat) (rs:List (Bool×List E)) (k0 v0 ty:Nat) (xs:List E0) (us:List Nat):St:=
 ⟨st.nx+cz rs+(1+xs.length),(k0, .pt v0 ty (aN (cK k0) (st.nx+cz rs+1) xs).1)::((aN (cK k0) (st.nx+cz rs+1) xs).2++((aZ (cF d) st.nx rs).2++fx us st.es))⟩
theorem oS (us:List Nat) (k:Nat):∀l:List (Nat×En),lk k (fx us l)=if us.elem k then none else lk k l
 | []=>by simp[fx,lk]
 |(k',e)::r=>by
  simp only[fx]
  split
  ·rename_i hk
   rw[oS us k r,aA]
   split
   ·rfl
   ·rename_i hn
    rw[if_neg (fun e=>hn (by rw[e];exact hk))]
  ·rename_i hk
   rw[aA,aA,oS us k r]
   split
   ·rename_i e;subst e;rw[if_neg hk]
   ·rfl
def TK (ρ:Nat→Nat) (d d':D):Prop:=
 match d,d' with
 | .ow k v, .ow k' v'=>v'=v∧ρ k'=k
 | .pt k v o, .pt k' v' o'=>v'=v∧o'=o∧ρ k'=k
 |d,d'=>d'=d
theorem py {ρ:Nat→Nat} {K K':Nat}:∀ {xs:List E0} {j v:Nat},yZ xs=true→(∀i,i < j+xs.length→ρ (K'+i)=K+i)→ah (TK ρ) (aN (K+j) v xs).1 (aN (K'+j) v xs).1∧∀i,lk (K'+i) (aN (K'+j) v xs).2=lk (K+i) (aN (K+j) v xs).2
 | [],j,v,_,_=>by simp[aN,lk,ah]
 | .p d::r,j,v,hc,hρ=>by
   simp only[yZ,Bool.and_eq_true]at hc
   obtain⟨h1,h2⟩:=py (xs:=r) (j:=j+1) (v:=v+1) hc.2 (fun i hi=>hρ i (by simp only[List.length_cons];omega))
   simp only[aN,Nat.add_assoc]at h1 h2⊢
   refine⟨⟨?_,h1⟩,h2⟩
   cases d <;>first|rfl|(simp[FQ]at hc)
 | .o dp t xs::r,j,v,hc,hρ=>by
   obtain⟨h1,h2⟩:=py (xs:=r) (j:=j+1) (v:=v+1) hc (fun i hi=>hρ i (by simp only[List.length_cons];omega))
   simp only[aN,Nat.add_assoc]at h1 h2⊢
   refine⟨⟨⟨rfl,hρ j (by simp only[List.length_cons];omega)⟩,h1⟩,fun i=> ?_⟩
   rw[aA,aA]
   by_cases hi:i=j
   ·subst hi;rw[if_pos rfl,if_pos rfl]
   ·rw[if_neg (by omega),if_neg (by omega)];exact h2 i
theorem ah.refl {α:Type} {R:α→α→Prop} (h:∀x,R x x):∀l:List α,ah R l l
 | []=>trivial
 |x::l=>⟨h x,ah.refl h l⟩
theorem kh:∀ {xs:List E0} {k v k' w:Nat} {dp t ys},lk k' (aN k v xs).2≠some (.sl w false dp t ys)
 | [],k,v,k',w,dp,t,ys,hl=>by simp[aN,lk]at hl
 | .p d::r,k,v,k',w,dp,t,ys,hl=>by simp only[aN]at hl;exact kh hl
 | .o dp' t' xs'::r,k,v,k',w,dp,t,ys,hl=>by
   simp only[aN,aA]at hl
   split at hl
   ·simp at hl
   ·exact kh hl
theorem sn:∀ {es:List E} {k v k' w:Nat} {dp t ys},lk k' (ba k v es).2≠some (.sl w false dp t ys)
 | [],k,v,k',w,dp,t,ys,hl=>by simp[ba,lk]at hl
 | .e x::r,k,v,k',w,dp,t,ys,hl=>by
   rw[fc]at hl
   rcases dV hl with hl|hl
   ·exact kh hl
   ·exact sn hl
 | .pt ty xs'::r,k,v,k',w,dp,t,ys,hl=>by
   simp only[ba,aA]at hl
   split at hl
   ·simp at hl
   ·rcases dV hl with hl|hl
    ·exact kh hl
    ·exact sn hl
theorem xG:∀ {rs:List (Bool×List E)} {k v k' w:Nat} {dp t ys},lk k' (aZ k v rs).2≠some (.sl w false dp t ys)
 | [],k,v,k',w,dp,t,ys,hl=>by simp[aZ,lk]at hl
 |(g,es)::r,k,v,k',w,dp,t,ys,hl=>by
  simp only[aZ]at hl
  rcases dV hl with hl|hl
  ·exact sn hl
  ·exact xG hl
def RG (a b:Nat):D→Prop
 | .ow k _=>a≤k∧k < b
 | .pt k _ _=>a≤k∧k < b
 |_=>True
theorem RG.mono {a b a' b':Nat} {d:D} (h:RG a b d) (h1:a'≤a) (h2:b≤b'):RG a' b' d:=by
 cases d <;>simp only[RG]at h⊢ <;>omega
theorem ED.mono {P Q:D→Prop} {e:En} (h:ED P e) (hpq:∀d,P d→Q d):ED Q e:=by
 cases e with
 |sl=>trivial
 |pt v ty ds=>exact fun d hd=>hpq d (h d hd)
theorem Gv {a b:Nat} {d:D} (h:FQ d=true):RG a b d:=by cases d <;>simp[FQ]at h <;>trivial
theorem lu:∀ {xs:List E0} {k v:Nat},yZ xs=true→(∀d∈(aN k v xs).1,RG k (k+xs.length) d)∧∀k' e,lk k' (aN k v xs).2=some e→∃w dp t ys,e= .sl w true dp t ys
 | [],k,v,_=>by simp[aN,lk]
 | .p d::r,k,v,h=>by
   simp only[yZ,Bool.and_eq_true]at h
   obtain⟨h1,h2⟩:=lu (xs:=r) (k:=k+1) (v:=v+1) h.2
   simp only[aN]
   refine⟨fun d' hd=> ?_,h2⟩
   rcases List.mem_cons.1 hd with rfl|hd
   ·exact Gv h.1
   ·exact(h1 d' hd).mono (by omega) (by simp only[List.length_cons];omega)
 | .o dp t xs::r,k,v,h=>by
   obtain⟨h1,h2⟩:=lu (xs:=r) (k:=k+1) (v:=v+1) h
   simp only[aN]
   refine⟨fun d' hd=> ?_,fun k' e hl=> ?_⟩
   ·rcases List.mem_cons.1 hd with rfl|hd
    ·simp only[RG,List.length_cons];omega
    ·exact(h1 d' hd).mono (by omega) (by simp only[List.length_cons];omega)
   ·rw[aA]at hl
    split at hl
    ·simp at hl;exact⟨_,_,_,_,hl.symm⟩
    ·exact h2 k' e hl
theorem sJ:∀ {es:List E} {k v:Nat},wW es=true→(∀d∈(ba k v es).1,RG k (k+dc es) d)∧∀k' e,lk k' (ba k v es).2=some e→ED (RG k (k+dc es)) e
 | [],k,v,_=>by simp[ba,lk]
 | .e x::r,k,v,h=>by
   simp only[wW,Bool.and_eq_true]at h
   obtain⟨h1,h2⟩:=sJ (es:=r) (k:=k+1) (v:=v+1) h.2
   obtain⟨q1,q2⟩:=lu (xs:= [x]) (k:=k) (v:=v) h.1
   rw[fc]
   simp only[dc]
   refine⟨fun d' hd=> ?_,fun k' e hl=> ?_⟩
   ·rcases List.mem_append.1 hd with hd|hd
    ·exact(q1 d' hd).mono (by omega) (by simp only[List.length_cons,List.length_nil];omega)
    ·exact(h1 d' hd).mono (by omega) (by omega)
   ·rcases dV hl with hl|hl
    ·obtain⟨w,dp,t,ys,rfl⟩:=q2 k' e hl;trivial
    ·exact(h2 k' e hl).mono fun d hd=>hd.mono (by omega) (by omega)
 | .pt ty xs::r,k,v,h=>by
   simp only[wW,Bool.and_eq_true]at h
   obtain⟨h1,h2⟩:=sJ (es:=r) (k:=k+(1+xs.length)) (v:=v+(1+xs.length)) h.2
   obtain⟨q1,q2⟩:=lu (xs:=xs) (k:=k+1) (v:=v+1) h.1
   simp only[ba,dc]
   refine⟨fun d' hd=> ?_,fun k' e hl=> ?_⟩
   ·rcases List.mem_cons.1 hd with rfl|hd
    ·simp only[RG];omega
    ·exact(h1 d' hd).mono (by omega) (by omega)
   ·rw[aA]at hl
    split at hl
    ·simp at hl;subst hl;exact fun d hd=>(q1 d hd).mono (by omega) (by omega)
    ·rcases dV hl with hl|hl
     ·obtain⟨w,dp,t,ys,rfl⟩:=q2 k' e hl;trivial
     ·exact(h2 k' e hl).mono fun d hd=>hd.mono (by omega) (by omega)
theorem yz:∀ {rs:List (Bool×List E)} {k v:Nat},rK rs=true→(∀a∈(aZ k v rs).1,∀d∈a.2,RG k (k+cz rs) d)∧∀k' e,lk k' (aZ k v rs).2=some e→ED (RG k (k+cz rs)) e
 | [],k,v,_=>by simp[aZ,lk]
 |(g,es)::r,k,v,h=>by
  simp only[rK,Bool.and_eq_true]at h
  obtain⟨h1,h2⟩:=yz (rs:=r) (k:=k+dc es) (v:=v+dc es) h.2
  obtain⟨q1,q2⟩:=sJ (es:=es) (k:=k) (v:=v) h.1
  simp only[aZ,cz]
  refine⟨fun a ha d hd=> ?_,fun k' e hl=> ?_⟩
  ·rcases List.mem_cons.1 ha with rfl|ha
   ·exact(q1 d hd).mono (by omega) (by omega)
   ·exact(h1 a ha d hd).mono (by omega) (by omega)
  ·rcases dV hl with hl|hl
   ·exact(q2 k' e hl).mono fun d hd=>hd.mono (by omega) (by omega)
   ·exact(h2 k' e hl).mono fun d hd=>hd.mono (by omega) (by omega)
theorem AY {ρ:Nat→Nat} {a b:Nat} {d:D} (h:RG a b d) (hρ:∀k,a≤k→k < b→ρ k=k):TK ρ d d:=by
 cases d <;>simp only[RG]at h <;>simp only[TK] <;>first|trivial|exact⟨trivial,hρ _ h.1 h.2⟩|exact⟨trivial,trivial,hρ _ h.1 h.2⟩
theorem IE {ρ:Nat→Nat} {d d':D} (h:TK ρ d d') (h1:∀k v,d≠ .ow k v) (h2:∀k v o,d≠ .pt k v o):d'=d:=by
 cases d <;>first|exact absurd rfl (h1 _ _)|exact absurd rfl (h2 _ _ _)|(cases d' <;>exact h)
theorem tC:∀ {rs:List (Bool×List E)} {g:Bool} {es:List E},rK (rs++ [(g,es)])=true→rK rs=true∧wW es=true
 | [],g,es,h=>by simp only[List.nil_append,rK,Bool.and_true]at h;exact⟨rfl,h⟩
 |(g',e')::r,g,es,h=>by
  simp only[List.cons_append,rK,Bool.and_eq_true]at h⊢
  exact⟨⟨h.1,(tC h.2).1⟩,(tC h.2).2⟩
section
variable {Γ:Cx} {γ:Gh} {f:UT} {st:St} {mf:Fr} {h h':H}
theorem ax.Jq (hr:ax Γ γ f st mf h) {ar:Nat→Prop} {bs us:List Nat} {rs:List (Bool×List E)} {css:List (Bool×List C)} {c0:C} {k0 v0 ty0 ty:Nat} {ds0:List D} {xs:List E0} (d:Nat)
 (hk:lk k0 st.es=some (.pt v0 ty0 ds0)) (hku:k0∈us) (hc0:∃id,γ.c k0= .ptr id 0∧c0= .ptr id 0)
 (hbs:∀i,i∈bs↔∃k∈us,∃e,lk k st.es=some e∧i∈γ.w k) (har:∀i,ar i→PR Γ γ st i)
 (hb:Cl ⟨h,ar,bs,[]⟩ h' (cF d) st.nx (rs++ [(true,[.pt ty xs])]) (css++ [(true,[c0])]))
 (hcl:rK (rs++ [(true,[.pt ty xs])])=true)
 (n1:k0 < cF d∨cF d+cz rs≤k0) (n2:k0 < 1099511627776) (n3:cF d+cz rs≤1099511627776):
 ∃γ',ax Γ γ' (mi f st d rs) (vP st d rs k0 v0 ty xs us) (dI mf d (cH css)) h':=by
 obtain⟨γb,hB,hc⟩:=hb
 rw[gA,tH]at hB hc
 obtain⟨hcr,hcp⟩:=ah.snoc hc
 obtain⟨hcl1,hcl2⟩:=tC hcl
 have hcl0:yZ xs=true:=by simpa only[wW,Bool.and_true]using hcl2
 have hn0:(aN (cK k0) (st.nx+cz rs+1) xs).1.length=xs.length:=by
  have:∀(xs:List E0) (k v:Nat),(aN k v xs).1.length=xs.length:=by
   intro xs
   induction xs with
   |nil=>intro k v;rfl
   |cons x r ih=>intro k v;cases x <;>simp[aN,ih]
  exact this _ _ _
 simp only[ba,dc,List.append_nil,Nat.add_zero]at hB hc hcr hcp
 generalize hkp:cF d+cz rs=kp at *
 generalize hvp:st.nx+cz rs=vp at *
 have hvx:st.nx+(cz rs+(1+xs.length))=vp+(1+xs.length):=by omega
 rw[hvx]at hB hcr hcp
 have hst':vP st d rs k0 v0 ty xs us=⟨vp+(1+xs.length),(k0, .pt v0 ty (aN (cK k0) (vp+1) xs).1)::((aN (cK k0) (vp+1) xs).2++((aZ (cF d) st.nx rs).2++fx us st.es))⟩:=by
  simp only[vP,hvp]
 rw[hst']
 have hck:1099511627776≤cK k0:=Nat.le_add_right _ _
 have hrn:=yz (k:=cF d) (v:=st.nx) hcl1
 rw[hkp]at hrn
 have hLR:∀ {k e},lk k (aZ (cF d) st.nx rs).2=some e→st.nx≤e.kY∧cF d≤k∧k < kp:=fun hl=>by rw[←hkp];exact nR hl
 have hL0:∀ {k e},lk k (aN (cK k0) (vp+1) xs).2=some e→vp+1≤e.kY∧cK k0≤k∧k < cK k0+xs.length:=fun hl=>gY hl
 have hL1:∀ {k e},lk k (aN (kp+1) (vp+1) xs).2=some e→vp+1≤e.kY∧kp+1≤k∧k < kp+1+xs.length:=fun hl=>gY hl
 let LR:=(aZ (cF d) st.nx rs).2
 let L0:=(aN (cK k0) (vp+1) xs).2
 let L1:=(aN (kp+1) (vp+1) xs).2
 let D0:=(aN (cK k0) (vp+1) xs).1
 let D1:=(aN (kp+1) (vp+1) xs).1
 let sb:St:=⟨vp+(1+xs.length),LR++(kp, .pt vp ty D1)::L1⟩
 let s':St:=⟨vp+(1+xs.length),(k0, .pt v0 ty D0)::(L0++(LR++fx us st.es))⟩
 let ρ:Nat→Nat:=fun k=>if k=k0 then kp else if cK k0≤k∧k < cK k0+xs.length then k - cK k0+(kp+1)else k
 let nw:Nat→Bool:=fun k=>decide (k=k0)||(lk k L0).isSome||(lk k LR).isSome
 let γ':Gh:=⟨fun k=>if nw k then γb.c (ρ k)else γ.c k,fun k=>if nw k then γb.w (ρ k)else γ.w k,fun k=>if nw k then γb.u (ρ k)else γ.u k⟩
 have hρ0:ρ k0=kp:=if_pos rfl
 have hρL:∀i,i < xs.length→ρ (cK k0+i)=kp+1+i:=fun i hi=>by
  show(if cK k0+i=k0 then kp else if cK k0≤cK k0+i∧cK k0+i < cK k0+xs.length then cK k0+i - cK k0+(kp+1)else cK k0+i)=_
  rw[if_neg (by omega),if_pos (by omega)]
  omega
 have hρR:∀k,k≠k0→k < kp→ρ k=k:=fun k h1 h2=>by
  show(if k=k0 then kp else if cK k0≤k∧k < cK k0+xs.length then k - cK k0+(kp+1)else k)=k
  rw[if_neg h1,if_neg (by omega)]
 obtain⟨hT0,hK0⟩:=py (ρ:=ρ) (K:=kp+1) (K':=cK k0) (xs:=xs) (j:=0) (v:=vp+1) hcl0 (fun i hi=>hρL i (by omega))
 simp only[Nat.add_zero]at hT0 hK0
 have sb0:lk kp sb.es=some (.pt vp ty D1):=by
  show lk kp (LR++(kp, .pt vp ty D1)::L1)=_
  rw[bG]
  cases hx:lk kp LR with
  |some e=>have:=hLR hx;omega
  |none=>rw[aA,if_pos rfl]
 have sbL:∀ {i e},lk (cK k0+i) L0=some e→lk (kp+1+i) sb.es=some e:=fun {i e} hl=>by
  have:=hL0 hl
  show lk (kp+1+i) (LR++(kp, .pt vp ty D1)::L1)=_
  rw[bG]
  cases hx:lk (kp+1+i) LR with
  |some e=>have:=hLR hx;omega
  |none=>
   simp only[aA]
   rw[if_neg (by omega)]
   exact(hK0 i).symm.trans hl
 have sbR:∀ {k e},lk k LR=some e→lk k sb.es=some e:=fun {k e} hl=>by
  show lk k (LR++(kp, .pt vp ty D1)::L1)=_
  rw[bG,hl]
 have nw0:nw k0=true:=by simp[nw]
 have nwL:∀ {k e},lk k L0=some e→nw k=true:=fun hl=>by simp[nw,hl]
 have nwR:∀ {k e},lk k LR=some e→nw k=true:=fun hl=>by simp[nw,hl]
 have hrange:∀k,nw k=true→(k=k0∧ρ k=kp)∨(k≠k0∧∃i e,i < xs.length∧k=cK k0+i∧ρ k=kp+1+i∧lk k L0=some e)∨(k≠k0∧lk k L0=none∧(∃e,lk k LR=some e)∧cF d≤k∧k < kp∧ρ k=k):=fun k hn=>by
  by_cases h0:k=k0
  ·exact .inl ⟨h0,by rw[h0];exact hρ0⟩
  ·cases hx:lk k L0 with
   |some e=>
    have:=hL0 hx
    refine .inr (.inl ⟨h0,k - cK k0,e,by omega,by omega,?_,rfl⟩)
    have:=hρL (k - cK k0) (by omega)
    rw[show cK k0+(k - cK k0)=k by omega]at this
    exact this
   |none=>
    cases hy:lk k LR with
    |some e=>
     have:=hLR hy
     exact .inr (.inr ⟨h0,rfl,⟨e,rfl⟩,by omega,by omega,hρR k h0 (by omega)⟩)
    |none=>simp[nw,hx,hy,h0]at hn
 have hcase:∀k e,lk k s'.es=some e→(nw k=true∧∃e',lk (ρ k) sb.es=some e'∧((k≠k0∧e'=e∧st.nx≤e.kY)∨(k=k0∧e= .pt v0 ty D0∧e'= .pt vp ty D1)))∨(nw k=false∧k∉us∧lk k st.es=some e):=fun k e hl=>by
  have hl:lk k ((k0, .pt v0 ty D0)::(L0++(LR++fx us st.es)))=some e:=hl
  rw[aA]at hl
  split at hl
  ·rename_i h0
   simp only[Option.some.injEq]at hl
   refine .inl ⟨by rw[h0];exact nw0, .pt vp ty D1,by rw[h0,hρ0];exact sb0, .inr ⟨h0,hl.symm,rfl⟩⟩
  ·rename_i h0
   rw[bG]at hl
   cases hx:lk k L0 with
   |some e1=>
    rw[hx]at hl
    simp only[Option.some.injEq]at hl
    subst hl
    have h2:=hL0 hx
    refine .inl ⟨nwL hx,e1,?_, .inl ⟨h0,rfl,by omega⟩⟩
    obtain⟨i,hi,rfl⟩:∃i,i < xs.length∧k=cK k0+i:=⟨k - cK k0,by omega,by omega⟩
    rw[hρL i hi]
    exact sbL hx
   |none=>
    rw[hx]at hl
    simp only at hl
    rw[bG]at hl
    cases hy:lk k LR with
    |some e1=>
     rw[hy]at hl
     simp only[Option.some.injEq]at hl
     subst hl
     have h2:=hLR hy
     exact .inl ⟨nwR hy,e1,by rw[hρR k h0 (by omega)];exact sbR hy, .inl ⟨h0,rfl,by omega⟩⟩
    |none=>
     rw[hy]at hl
     simp only at hl
     rw[oS]at hl
     split at hl
     ·simp at hl
     ·rename_i hu
      exact .inr ⟨by simp[nw,h0,hx,hy],by simpa using hu,hl⟩
 have hold:∀k,nw k=false→k∉us→lk k s'.es=lk k st.es:=fun k hn hu=>by
  simp only[nw,Bool.or_eq_false_iff,decide_eq_false_iff_not,Option.isSome_eq_false_iff,Option.isNone_iff_eq_none]at hn
  show lk k ((k0, .pt v0 ty D0)::(L0++(LR++fx us st.es)))=_
  rw[aA,if_neg hn.1.1,bG,hn.1.2]
  simp only
  rw[bG,hn.2]
  simp only
  rw[oS,if_neg (by simpa using hu)]
 have gN:∀k,nw k=true→γ'.c k=γb.c (ρ k)∧γ'.w k=γb.w (ρ k)∧γ'.u k=γb.u (ρ k):=fun k hn=>by simp[γ',hn]
 have gO:∀k,nw k=false→γ'.c k=γ.c k∧γ'.w k=γ.w k∧γ'.u k=γ.u k:=fun k hn=>by simp[γ',hn]
 have hinj:∀k1 k2,nw k1=true→nw k2=true→ρ k1=ρ k2→k1=k2:=fun k1 k2 h1 h2 he=>by
  rcases hrange k1 h1 with⟨a1,a2⟩|⟨_,i,_,a1,a2,a3,_⟩|⟨_,_,_,a1,a2,a3⟩ <;>rcases hrange k2 h2 with⟨b1,b2⟩|⟨_,j,_,b1,b2,b3,_⟩|⟨_,_,_,b1,b2,b3⟩ <;>omega
 have hge:∀k e,lk k sb.es=some e→∀i∈γb.w k++γb.u k,i∈bs∨h.length≤i:=fun k e hl i hi=>(hB.nd k e hl).2 i hi
 have hbm:∀i,i∈bs→mg Γ i∧i < h.length:=fun i hi=>by
  obtain⟨k,_,e,hl,hw⟩:=(hbs i).1 hi
  exact⟨(hr.nd k e hl).2 i (by simp[hw]),hr.blt hl i (by simp[hw])⟩
 have hbo:∀i,i∈bs→∀k e,k∉us→lk k st.es=some e→i∉γ.w k++γ.u k:=fun i hi k e hu hl=>by
  obtain⟨k1,hk1,e1,hl1,hw⟩:=(hbs i).1 hi
  exact hr.dj k1 k e1 e (fun e=>hu (e▸hk1)) hl1 hl i (by simp[hw])
 have hbp:∀i,i∈bs→¬PR Γ γ st i:=fun i hi hp=>by
  obtain⟨k1,hk1,e1,hl1,hw⟩:=(hbs i).1 hi
  exact hp.2 k1 e1 hl1 hw
 have hnx:∀k,nw k=true→∃e,lk (ρ k) sb.es=some e:=fun k hn=>by
  rcases hrange k hn with⟨a1,a2⟩|⟨_,i,e,a1,rfl,a3,a4⟩|⟨_,_,⟨e,a0⟩,a1,a2,a3⟩
  ·exact⟨_,by rw[a2];exact sb0⟩
  ·exact⟨e,by rw[a3];exact sbL a4⟩
  ·exact⟨e,by rw[a3];exact sbR a0⟩
 have hPR:∀i,PR ⟨h,ar,bs,[]⟩ γb sb i→PR Γ γ' s' i:=fun i hp=>by
  refine⟨?_,fun k e hl=> ?_⟩
  ·rcases hp.1 with h1|h1|h1
   ·exact(har i h1).1
   ·exact .inr (.inl (Nat.le_trans hr.len h1))
   ·rcases(hbm i h1).1 with h2|h2
    ·exact .inr (.inr h2)
    ·exact .inr (.inl h2)
  ·rcases hcase k e hl with⟨hn,e',he',_⟩|⟨hn,hu,hl'⟩
   ·rw[(gN k hn).2.1];exact hp.2 _ e' he'
   ·rw[(gO k hn).2.1]
    rcases hp.1 with h1|h1|h1
    ·exact(har i h1).2 k e hl'
    ·exact fun hw=>by have:=hr.blt hl' i (by simp[hw]);have:h.length≤i:=h1;omega
    ·exact fun hw=>hbo i h1 k e hu hl' (by simp[hw])
 have hDC:∀ {c:C} {d0 d1:D},DC ⟨h,ar,bs,[]⟩ γb sb h' c d0→TK ρ d0 d1→VD st.nx d0→DC Γ γ' s' h' c d1:=by
  intro c d0 d1 hd ht hvd
  cases d0
  case ow k v=>
   cases d1 <;>simp only[TK,reduceCtorEq]at ht
   case ow k' v'=>
    obtain⟨rfl,hk'⟩:=ht
    refine⟨hd.1,fun o dp t ys hl=> ?_⟩
    rcases hcase k' _ hl with⟨hn,e',he',h1⟩|⟨hn,hu,hl'⟩
    ·rcases h1 with⟨_,rfl,_⟩|⟨_,h2,_⟩
     ·rw[(gN k' hn).1,hk']
      rw[hk']at he'
      exact hd.2 o dp t ys he'
     ·cases h2
    ·have h1:=(hr.en k' _ hl').kY
     have h2:st.nx≤v':=hvd
     simp only[En.kY]at h1
     omega
  case pt k v o=>
   cases d1 <;>simp only[TK,reduceCtorEq]at ht
   case pt k' v' o'=>
    obtain⟨rfl,rfl,hk'⟩:=ht
    refine⟨hd.1,fun ty ds hl=> ?_⟩
    have h2:st.nx≤v':=hvd
    rcases hcase k' _ hl with⟨hn,e',he',h1⟩|⟨hn,hu,hl'⟩
    ·rcases h1 with⟨_,rfl,_⟩|⟨rfl,h3,_⟩
     ·rw[(gN k' hn).1,hk']
      rw[hk']at he'
      exact hd.2 ty ds he'
     ·simp only[En.pt.injEq]at h3
      have h1:=(hr.en k' _ hk).kY
      simp only[En.kY]at h1
      omega
    ·have h1:=(hr.en k' _ hl').kY
     simp only[En.kY]at h1
     omega
  case pe x o=>exact hvd.elim
  case px k v j o=>exact hvd.elim
  case sa k v o n e=>exact hvd.elim
  all_goals
   obtain rfl:=IE ht (fun _ _ e=>by cases e) (fun _ _ _ e=>by cases e)
   obtain⟨S,h1,h2⟩:=hd
   exact⟨S,h1,fun i hi=>hPR i (h2 i hi)⟩
 have hptr:γ'.c k0=γ.c k0:=by
  obtain⟨id,e1,e2⟩:=hc0
  rw[(gN k0 nw0).1,hρ0,e1]
  have hq:=hcp.2.1
  obtain⟨id',e3,e4⟩:=hq.2 ty D1 sb0
  rw[e3,←e4,e2]
 obtain⟨v1,v2⟩:=vY hcl1 (cF d) st.nx
 have v3:∀d0∈D1,VD st.nx d0:=fun d0 hd0=>(lp (P:=VD st.nx) (v0:=st.nx) (fun _ _ h=>h) (xs:=xs) (k:=kp+1) (v:=vp+1) (by omega) (tk hcl0)).1 d0 hd0
 have hmain:ax Γ γ' f s' mf h'∧Mo Γ γ st h γ' s' h':=by
  refine hr.Hj (N:=fun k=>nw k=true∨k∈us) (γ':=γ') (st':=s') (h':=h') (by show st.nx≤vp+(1+xs.length);omega) (fun k hn=> ?_) (fun k e hn hl=> ?_) (fun i hi hp=> ?_) (fun k e hn hl i hi hlt=> ?_) (fun k e hn hl i hi=> ?_)
   (fun k e hn hl=> ?_) (fun k e k' e' hn hne hl hl' i hi=> ?_) hB.len (fun i hi hn=> ?_) (fun hm k e hn hl=> ?_) (fun i cs hi=> ?_)
  ·simp only[not_or,Bool.not_eq_true]at hn
   exact⟨hold k hn.1 hn.2,gO k hn.1⟩
  ·rcases hcase k e hl with⟨hn,e',he',h1⟩|⟨h1,hu,_⟩
   ·rcases h1 with⟨_,rfl,h2⟩|⟨rfl,rfl,_⟩
    ·exact .inl h2
    ·exact .inr ⟨hptr,ty0,ds0,hk⟩
   ·rcases hn with hn|hn
    ·rw[h1]at hn;cases hn
    ·exact absurd hn hu
  ·unfold H.cells
   rw[hB.base i hi (fun hb=>hbp i hb hp)]
  ·rcases hcase k e hl with⟨hn,e',he',h1⟩|⟨h1,hu,_⟩
   ·rw[(gN k hn).2.1]at hi
    rcases hge _ e' he' i (by simp[hi])with h2|h2
    ·exact hbp i h2
    ·omega
   ·rcases hn with hn|hn
    ·rw[h1]at hn;cases hn
    ·exact absurd hn hu
  ·simp only[not_or,Bool.not_eq_true]at hn
   exact hB.base i (hr.blt hl i (by simp[hi])) (fun hb=>hbo i hb k e hn.2 hl (by simp[hi]))
  ·rcases hcase k e hl with⟨hn,e',he',h1⟩|⟨h1,hu,_⟩
   ·rw[(gN k hn).2.1,(gN k hn).2.2]
    refine⟨(hB.nd _ e' he').1,fun i hi=> ?_⟩
    rcases hge _ e' he' i hi with h2|h2
    ·exact(hbm i h2).1
    ·exact .inr (Nat.le_trans hr.len h2)
   ·rcases hn with hn|hn
    ·rw[h1]at hn;cases hn
    ·exact absurd hn hu
  ·rcases hcase k e hl with⟨hn1,e1,he1,h1⟩|⟨h1,hu,_⟩
   ·rw[(gN k hn1).2.1,(gN k hn1).2.2]at hi
    rcases hcase k' e' hl' with⟨hn2,e2,he2,_⟩|⟨hn2,hu2,hl2⟩
    ·rw[(gN k' hn2).2.1,(gN k' hn2).2.2]
     exact hB.dj _ _ e1 e2 (fun e=>hne (hinj _ _ hn1 hn2 e).symm) he1 he2 i hi
    ·rw[(gO k' hn2).2.1,(gO k' hn2).2.2]
     rcases hge _ e1 he1 i hi with h2|h2
     ·exact hbo i h2 k' e' hu2 hl2
     ·exact fun h3=>by have:=hr.blt hl2 i h3;omega
   ·rcases hn with hn|hn
    ·rw[h1]at hn;cases hn
    ·exact absurd hn hu
  ·exact hB.base i (Nat.lt_of_lt_of_le hi hr.len) (fun hb=>by
    rcases(hbm i hb).1 with h1|h1
    ·exact hn h1
    ·omega)
  ·rcases hcase k e hl with⟨hn1,e1,he1,h1⟩|⟨h1,hu,_⟩
   ·obtain⟨g1,g2,g3⟩:=gN k hn1
    have he:=hB.en _ _ he1
    rcases h1 with⟨hk1,rfl,_⟩|⟨rfl,rfl,rfl⟩
    ·match e1,he,he1 with
     | .sl v true dp t ys,he,he1=>
       obtain⟨hv,he⟩:=he
       refine⟨hv,?_⟩
       rw[g1,g2,g3]
       rcases he with he|⟨id,ty',ez,bs',S,k1,k2,k3,k4,k5,k6,k7,k8⟩
       ·exact .inl he
       ·exact .inr ⟨id,ty',ez,bs',S,k1,k2,k3,k4,k5,k6,fun i hi=>hPR i (k7 i hi),k8⟩
     | .sl v false dp t ys,he,he1=>
       exfalso
       have he1:lk (ρ k) (LR++(kp, .pt vp ty D1)::L1)=some (.sl v false dp t ys):=he1
       rcases dV he1 with h2|h2
       ·exact xG h2
       ·rw[aA]at h2
        split at h2
        ·simp at h2
        ·exact kh h2
     | .pt v ty' ds,he,he1=>
       obtain⟨hv,k1,id,bs',k2,k3,k4,k5⟩:=he
       refine⟨hv,by rw[g3,k1],id,bs',by rw[g1,k2],by rw[g2,k3],k4,?_⟩
       rcases hrange k hn1 with⟨a1,_⟩|⟨_,i,e2,_,rfl,_,a4⟩|⟨_,_,⟨e2,a0⟩,a1,a2,a3⟩
       ·exact absurd a1 hk1
       ·exfalso
        have:=(lu (xs:=xs) (k:=cK k0) (v:=vp+1) hcl0).2 _ e2 a4
        have h3:=sbL a4
        rw[hρL i ‹_›]at he1
        rw[h3]at he1
        obtain⟨w,dp,t,ys,rfl⟩:=this
        simp at he1
       ·rw[a3,sbR a0]at he1
        simp only[Option.some.injEq]at he1
        subst he1
        have h3:=hrn.2 k _ a0
        have h4:=v2 k _ a0
        exact ah.mem (fun c d0 hd0 hd=>hDC hd (AY (h3 d0 hd0) (fun k2 q1 q2=>hρR k2 (fun e=>by omega) q2)) (h4 d0 hd0)) k5
    ·obtain⟨hv,k1,id,bs',k2,k3,k4,k5⟩:=he
     refine⟨?_,by rw[g3];exact k1,id,bs',by rw[g1];exact k2,by rw[g2];exact k3,k4,?_⟩
     ·have h1:=(hr.en k _ hk).kY
      simp only[En.kY]at h1
      show v0 < vp+(1+xs.length)
      omega
     ·have k5':=ah.mem (T:=fun c d0=>DC ⟨h,ar,bs,[]⟩ γb sb h' c d0∧VD st.nx d0) (fun c d0 hd0 hd=>⟨hd,v3 d0 hd0⟩) k5
      exact ah.comp (T:=DC Γ γ' s' h') (fun c d0 d1 hd ht=>hDC hd.1 ht hd.2) k5' hT0
   ·rcases hn with hn|hn
    ·rw[h1]at hn;cases hn
    ·exact absurd hn hu
  ·by_cases hb:i∈bs
   ·exact hB.own i cs (.inl hb)
   ·rcases Nat.lt_or_ge i h.length with hlt|hlt
    ·rw[hB.base i hlt hb];exact hr.own i cs hi
    ·exact hB.own i cs (.inr hlt)
 obtain⟨r1,r2⟩:=hmain
 refine⟨γ',?_⟩
 refine UR.dI r1 (AA ?_)
 refine ah.mem (fun a b hb ⟨k1,k2⟩=>⟨k1,?_⟩) hcr
 exact ah.mem (fun c d0 hd0 hd=>hDC hd (AY (hrn.1 b hb d0 hd0) (fun k2 q1 q2=>hρR k2 (fun e=>by omega) q2)) (v1 b hb d0 hd0)) k2
end
end Go.Eng
namespace Go.Eng
def im (f:UT):List X→Option (List (Bool×List D))
 | []=>some []
 |x::xs=>match oT f x,im f xs with
  |some v,some vs=>some (v::vs)
  |_,_=>none
def mj (st:St):D→Option D
 | .nils=>some (.sl [])
 | .ow k v=>match st.ee k v with
   |some (_,_,_,xs)=>some (.sl xs)
   |none=>none
 | .pt _ _ _=>none
 | .pe _ _=>none
 | .px _ _ _ _=>none
 | .sa k v o n e=>match st.uo (.sa k v o n e)with
   |some xs=>some (.sl xs)
   |none=>none
 |d=>some d
def i4 (st:St):List D→Option (List D)
 | []=>some []
 |d::ds=>match mj st d,i4 st ds with
  |some a,some r=>some (a::r)
  |_,_=>none
def ey (st:St):List (Bool×List D)→Option (List (Bool×List D))
 | []=>some []
 |(g,ds)::r=>match i4 st ds,ey st r with
  |some a,some b=>some ((g,a)::b)
  |_,_=>none
def gX (st:St):D→St
 | .ow k v=>match st.ee k v with
   |some (_,_,t,xs)=>st.put k (.sl v false false t xs)
   |none=>st
 |_=>st
def qx (st:St):List D→St
 | []=>st
 |d::ds=>qx (gX st d) ds
def bC (st:St):List (Bool×List D)→St
 | []=>st
 |(_,ds)::r=>bC (qx st ds) r
def B9 (st:St):D→Bool
 | .ow k v=>match st.ee k v with
   |some (false,_)=>true
   |_=>false
 | .sa _ _ _ _ _=>false
 |_=>true
def wI (st:St):List D→Bool
 | []=>true
 |d::ds=>B9 st d && wI st ds
def Ca (st:St):List (Bool×List D)→Bool
 | []=>true
 |(_,ds)::r=>wI st ds && Ca st r
def bf (as:List (Bool×List D)):List (Bool×List E):=as.map fun a=>(a.1,a.2.map E.p)
theorem yW:∀(ds:List D) (k v:Nat),ba k v (ds.map E.p)=(ds,[])
 | [],_,_=>rfl
 |d::ds,k,v=>by simp only[List.map_cons,ba,yW ds]
theorem eF:∀(as:List (Bool×List D)) (k v:Nat),aZ k v (bf as)=(as,[])
 | [],_,_=>rfl
 |(g,ds)::r,k,v=>by
  have:=eF r (k+dc (ds.map E.p)) (v+dc (ds.map E.p))
  unfold bf at this⊢
  simp only[List.map_cons,aZ,yW,this,List.append_nil]
theorem ud:∀(cs:List C) (ds:List D),oK cs (ds.map E.p)= []
 | [],[]=>rfl
 | [],_::_=>rfl
 |_::_,[]=>rfl
 |_::cs,_::ds=>by simp only[List.map_cons,oK,ud cs ds]
theorem ks:∀(ms:List (Bool×List C)) (as:List (Bool×List D)),nZ ms (bf as)= []
 | [],[]=>rfl
 | [],_::_=>rfl
 |_::_,[]=>rfl
 |(_,cs)::ms,(_,ds)::as=>by
  have:=ks ms as
  unfold bf at this⊢
  simp only[List.map_cons,nZ,ud,this,List.append_nil]
theorem jZ:∀(es:List E) (k v:Nat),(ba k v es).1.length=es.length
 | [],_,_=>rfl
 | .e (.p _)::r,k,v=>by simp[ba,jZ r]
 | .e (.o _ _ _)::r,k,v=>by simp[ba,jZ r]
 | .pt _ xs::r,k,v=>by simp[ba,jZ r]
section
variable {Γ Γ':Cx} {γ γ':Gh} {f f':UT} {st st':St} {mf mf':Fr} {h h':H}
theorem sM (hr:ax Γ γ f st mf h):∀ {xs:List X} {vs:List (Bool×List D)},im f xs=some vs→∃ms,args mf xs=some ms∧ah (DG Γ γ st h) ms vs
 | [],vs,he=>by simp[im]at he;subst he;exact⟨[],rfl,trivial⟩
 |x::xs,vs,he=>by
  simp only[im]at he
  split at he
  ·rename_i v r h1 h2
   simp at he
   subst he
   obtain⟨g,ds⟩:=v
   obtain⟨cs,q1,q2⟩:=ec hr h1
   obtain⟨ms,k1,k2⟩:=sM hr h2
   exact⟨(g,cs)::ms,by simp only[args,q1,k1],⟨rfl,q2⟩,k2⟩
  ·simp at he
theorem Ec (hr:ax Γ γ f st mf h) {c:C} {d d':D} (hd:DC Γ γ st h c d) (ha:mj st d=some d'):∃S,RD h d' c S∧(B9 st d=true→∀i∈S,PR Γ γ st i):=by
 cases d <;>simp only[mj]at ha
 case nils=>
  simp at ha
  subst ha
  obtain⟨S,h1,_⟩:=hd
  simp only[RD]at h1
  exact⟨[],hK.2 (.inl ⟨rfl,rfl, .inl h1.1⟩),fun _ i hi=>by cases hi⟩
 case ow k v=>
  split at ha
  ·rename_i o dp t xs hs
   simp at ha
   subst ha
   have hl:=St.bR hs
   cases o with
   |true=>
    obtain⟨S,h1,h2⟩:=nH hr hd (xs:=xs) (by simp only[St.uo,hs])
    exact⟨S,h1,fun h3=>by simp[B9,hs]at h3⟩
   |false=>
    obtain⟨_,_,_,S,h1,h2⟩:=hr.en _ _ hl
    rw[←hd.2 _ _ _ _ hl]at h1
    exact⟨S,h1,fun _=>h2⟩
  ·simp at ha
 case sa k v o n e=>
  split at ha
  ·rename_i xs hs
   simp at ha
   subst ha
   obtain⟨S,h1,h2⟩:=nH hr hd hs
   exact⟨S,h1,fun h3=>by simp[B9]at h3⟩
  ·simp at ha
 all_goals first
  |(simp at ha;done)
  |(simp at ha
    subst ha
    obtain⟨S,h1,h2⟩:=hd
    exact⟨S,h1,fun _=>h2⟩)
theorem yi (hr:ax Γ γ f st mf h):∀ {cs:List C} {ds ds':List D},ah (DC Γ γ st h) cs ds→i4 st ds=some ds'→ah (fun c d'=>∃S,RD h d' c S∧(wI st ds=true→∀i∈S,PR Γ γ st i)) cs ds'
 | [],[],ds',_,ha=>by simp[i4]at ha;subst ha;trivial
 |c::cs,d::ds,ds',hd,ha=>by
  simp only[i4]at ha
  split at ha
  ·rename_i a r h1 h2
   simp at ha
   subst ha
   obtain⟨S,k1,k2⟩:=Ec hr hd.1 h1
   refine⟨⟨S,k1,fun hs=>k2 (by simp[wI]at hs;exact hs.1)⟩,(yi hr hd.2 h2).imp fun c d ⟨S,q1,q2⟩=>⟨S,q1,fun hs=>q2 (by simp[wI]at hs;exact hs.2)⟩⟩
  ·simp at ha
theorem sC (hr:ax Γ γ f st mf h):∀ {ms:List (Bool×List C)} {vs as:List (Bool×List D)},ah (DG Γ γ st h) ms vs→ey st vs=some as→ah (fun(m:Bool×List C) (a:Bool×List D)=>m.1=a.1∧ah (fun c d'=>∃S,RD h d' c S∧(Ca st vs=true→∀i∈S,PR Γ γ st i)) m.2 a.2) ms as
 | [],[],as,_,ha=>by simp[ey]at ha;subst ha;trivial
 |(g,cs)::ms,(g',ds)::vs,as,hd,ha=>by
  simp only[ey]at ha
  split at ha
  ·rename_i a r h1 h2
   simp at ha
   subst ha
   refine⟨⟨hd.1.1,(yi hr hd.1.2 h1).imp fun c d ⟨S,q1,q2⟩=>⟨S,q1,fun hs=>q2 (by simp[Ca]at hs;exact hs.1)⟩⟩,(sC hr hd.2 h2).imp fun m a ⟨q0,q⟩=>⟨q0,q.imp fun c d ⟨S,q1,q2⟩=>⟨S,q1,fun hs=>q2 (by simp[Ca]at hs;exact hs.2)⟩⟩⟩
  ·simp at ha
theorem AJ (hr:ax Γ γ f st mf h) (d:D):∃γ',ax Γ γ' f (gX st d) mf h∧Mo Γ γ st h γ' (gX st d) h:=by
 cases d <;>simp only[gX] <;>try exact⟨γ,hr,Mo.refl⟩
 rename_i k v
 split
 ·rename_i o dp t xs hs
  obtain⟨γ',h1,h2,_⟩:=hr.freeze (dp':=false) (St.bR hs)
  exact⟨γ',h1,h2⟩
 ·exact⟨γ,hr,Mo.refl⟩
theorem xK:∀(ds:List D) {γ:Gh} {st:St},ax Γ γ f st mf h→∃γ',ax Γ γ' f (qx st ds) mf h∧Mo Γ γ st h γ' (qx st ds) h
 | [],γ,st,hr=>⟨γ,hr,Mo.refl⟩
 |d::ds,γ,st,hr=>by
  obtain⟨γ1,h1,h2⟩:=AJ hr d
  obtain⟨γ2,h3,h4⟩:=xK ds h1
  exact⟨γ2,h3,h2.trans h4⟩
theorem vS:∀(vs:List (Bool×List D)) {γ:Gh} {st:St},ax Γ γ f st mf h→∃γ',ax Γ γ' f (bC st vs) mf h∧Mo Γ γ st h γ' (bC st vs) h
 | [],γ,st,hr=>⟨γ,hr,Mo.refl⟩
 |(_,ds)::vs,γ,st,hr=>by
  obtain⟨γ1,h1,h2⟩:=xK ds hr
  obtain⟨γ2,h3,h4⟩:=vS vs h1
  exact⟨γ2,h3,h2.trans h4⟩
theorem ym {ar:Nat→Prop} (har:∀i,ar i→i < h.length) {ms:List (Bool×List C)} {as:List (Bool×List D)} (hc:rK (bf as)=true) (ha:ah (fun(m:Bool×List C) (a:Bool×List D)=>m.1=a.1∧ah (fun c d'=>∃S,RD h d' c S∧∀i∈S,ar i) m.2 a.2) ms as):Cl ⟨h,ar,[],[]⟩ h K0 0 (bf as) ms:=by
 let γ0:Gh:=⟨fun _=> .nils,fun _=> [],fun _=> []⟩
 refine⟨γ0,⟨fun k=>(by rw[PT.bn,UT.bn];intro cs e;cases e),fun k e hl=> ?_,fun k e hl=> ?_,fun k1 k2 e1 e2 hne hl1 hl2=> ?_,Nat.le_refl _,fun _ _ _=>rfl,har,fun p hp=>(by cases hp),fun i cs hi=>(by rcases hi with hi|hi;cases hi;rw[List.getElem?_eq_none hi];simp)⟩,?_⟩
 ·rw[eF]at hl;simp[lk]at hl
 ·rw[eF]at hl;simp[lk]at hl
 ·rw[eF]at hl1;simp[lk]at hl1
 ·obtain⟨v1,_⟩:=vY hc K0 0
  rw[eF]at v1⊢
  refine ah.mem (fun m a hma ⟨q0,q⟩=>⟨q0,ah.mem (fun c d hd ⟨S,q1,q2⟩=> ?_) q⟩) ha
  have hv:=v1 a hma d hd
  have:∃S,RD h d c S∧∀i∈S,PR ⟨h,ar,[],[]⟩ γ0 ⟨0+cz (bf as),[]⟩ i:=⟨S,q1,fun i hi=>⟨.inl (q2 i hi),fun k e hl=>by simp[lk]at hl⟩⟩
  cases d <;>first|exact this|(simp only[RD]at q1)
theorem Eo {d d':D} (ha:mj st d=some d'):FQ d'=true:=by
 cases d <;>simp only[mj]at ha
 case ow k v=>split at ha <;>simp at ha;subst ha;rfl
 case sa k v o n e=>split at ha <;>simp at ha;subst ha;rfl
 all_goals first
  |(simp at ha;done)
  |(simp at ha;subst ha;rfl)
theorem xD:∀ {vs as:List (Bool×List D)},ey st vs=some as→rK (bf as)=true
 | [],as,ha=>by simp[ey]at ha;subst ha;rfl
 |(g,ds)::vs,as,ha=>by
  simp only[ey]at ha
  split at ha
  ·rename_i a r h1 h2
   simp at ha
   subst ha
   have key:∀ {ds a:List D},i4 st ds=some a→wW (a.map E.p)=true:=by
    intro ds
    induction ds with
    |nil=>intro a h;simp[i4]at h;subst h;rfl
    |cons d ds ih=>
     intro a h
     simp only[i4]at h
     split at h
     ·rename_i a' r' k1 k2
      simp at h
      subst h
      simp only[List.map_cons,wW,yZ,Eo k1,ih k2,Bool.and_self]
     ·simp at h
   have:=xD h2
   unfold bf at this⊢
   simp only[List.map_cons,rK,key h1,this,Bool.and_self]
  ·simp at ha
theorem Eu {cd:Nat→Option AF} {g d:Nat} {xs:List X} {vs as:List (Bool×List D)} {Q:List (Bool×List E)→List E→Prop} (hr:Rel Γ f st mf h) (hx:im f xs=some vs) (sh:Bool)
 (ha:ey (if sh then bC st vs else st) vs=some as) (hsf:sh=true→Ca (bC st vs) vs=true) (hc:VC cd g (bf as) Q) (hns:sh=false→∀rs ps,Q rs ps→yM rs=true):
 ∃ms,args mf xs=some ms∧WC cd g ms h (fun r h'=>∃rs,Q rs []∧(∃t,h'=h++t)∧Rel Γ (mi f (if sh then bC st vs else st) d rs) (iQ (if sh then bC st vs else st) d rs) (dI mf d r) h'):=by
 obtain⟨γ,hr⟩:=hr
 obtain⟨ms,m1,m2⟩:=sM hr hx
 refine⟨ms,m1,?_⟩
 have hcl:=xD ha
 have fin:∀(γ1:Gh) (st1:St) (ar:Nat→Prop),ax Γ γ1 f st1 mf h→(∀i,ar i→i < h.length)→ah (fun(m:Bool×List C) (a:Bool×List D)=>m.1=a.1∧ah (fun c d'=>∃S,RD h d' c S∧∀i∈S,ar i) m.2 a.2) ms as→(∀rs,Q rs []→yM rs=true∨∀i,ar i→PR Γ γ1 st1 i)→
  WC cd g ms h (fun r h'=>∃rs,Q rs []∧(∃t,h'=h++t)∧Rel Γ (mi f st1 d rs) (iQ st1 d rs) (dI mf d r) h'):=by
  intro γ1 st1 ar h1 har hall hsh
  have hw:=hc ⟨h,ar,[],[]⟩ ms rfl (ym har hcl hall)
  refine hw.mono fun r h' ⟨rs,ps,css,hq,hcl2,hv,hb⟩=> ?_
  have hb':=hb (cF d) st1.nx
  rw[ks]at hb'
  have hps:ps= []:=by
   obtain⟨γb,_,hcc⟩:=hb'
   rw[gA]at hcc
   have:=(ah.snoc hcc).2.2.length
   rw[jZ]at this
   exact List.eq_nil_of_length_eq_zero this.symm
  subst hps
  have hcl3:rK rs=true:=by
   have:∀(rs:List (Bool×List E)),rK (rs++ [(true,[])])=true→rK rs=true:=by
    intro rs
    induction rs with
    |nil=>intro _;rfl
    |cons a r ih=>intro h;obtain⟨g,es⟩:=a;simp only[List.cons_append,rK,Bool.and_eq_true]at h⊢;exact⟨h.1,ih h.2⟩
   exact this rs hcl2
  obtain⟨γ2,k1,k2⟩:=h1.Ja d hb' hcl3 (hsh rs hq)
  rw[hv]
  refine⟨rs,hq,?_,γ2,k1⟩
  obtain⟨γb,hB,_⟩:=hb'
  refine⟨h'.drop h.length,?_⟩
  have:h'.take h.length=h:=by
   apply List.ext_getElem?
   intro i
   rw[List.getElem?_take]
   split
   ·rename_i hi;exact hB.base i hi (by simp)
   ·rw[List.getElem?_eq_none (by omega)]
  rw[←this]
  have hl:(h'.take h.length).length=h.length:=by rw[this]
  rw[hl]
  exact(List.take_append_drop _ _).symm
 cases sh with
 |false=>
  simp only[Bool.false_eq_true,if_false]at ha⊢
  exact fin γ st (fun i=>i < h.length) hr (fun i hi=>hi) ((sC hr m2 ha).imp fun m a ⟨q0,q⟩=>⟨q0,q.imp fun c d ⟨S,q1,_⟩=>⟨S,q1,fun i hi=>RD.lt d q1 i hi⟩⟩) (fun rs hq=> .inl (hns rfl rs [] hq))
 |true=>
  simp only[if_true]at ha⊢
  obtain⟨γ1,k1,k2⟩:=vS vs hr
  have m3:ah (DG Γ γ1 (bC st vs) h) ms vs:=m2.imp fun m a ⟨q0,q⟩=>⟨q0,q.imp fun c d hd=>hd.mo k2⟩
  exact fin γ1 (bC st vs) (fun i=>i < h.length∧PR Γ γ1 (bC st vs) i) k1 (fun i hi=>hi.1) ((sC k1 m3 ha).imp fun m a ⟨q0,q⟩=>⟨q0,q.imp fun c d ⟨S,q1,q2⟩=>⟨S,q1,fun i hi=>⟨RD.lt d q1 i hi,q2 (hsf rfl) i hi⟩⟩⟩) (fun rs _=> .inr fun i hi=>hi.2)
end
def Em:D→D
 | .nils=> .sl []
 |d=>d
def uM:E→E
 | .e (.p .nils)=> .e (.p (.sl []))
 |x=>x
def zF (as:List (Bool×List E)):List (Bool×List E):=as.map fun a=>(a.1,a.2.map uM)
def vx:List D→List (Nat×Nat)
 | []=> []
 | .pt k v _::r=>(k,v)::vx r
 |_::r=>vx r
def y0:List (Bool×List D)→List (Nat×Nat)
 | []=> []
 |(_,ds)::r=>vx ds++y0 r
def Bm (st:St) (us:List Nat):Bool:=us.all fun k=>match lk k st.es with
 |some (.sl _ _ dp _ xs)=> !dp||flat xs
 |_=>true
theorem wK:∀es:List E,dc (es.map uM)=dc es
 | []=>rfl
 |x::r=>by
  have ih:=wK r
  rcases x with(d|_)|_ <;>try (simp only[List.map_cons,uM,dc,ih];done)
  cases d <;>simp only[List.map_cons,uM,dc,ih]
theorem yE:∀(es:List E) (k v:Nat),ba k v (es.map uM)=((ba k v es).1.map Em,(ba k v es).2)
 | [],_,_=>rfl
 |x::r,k,v=>by
  have ih:=yE r
  rcases x with(d|_)|_ <;>try (simp only[List.map_cons,uM,ba,ih,Em];done)
  cases d <;>simp only[List.map_cons,uM,ba,ih,Em]
theorem Ad:∀as:List (Bool×List E),cz (zF as)=cz as
 | []=>rfl
 |(g,es)::r=>by
  have ih:=Ad r
  unfold zF at ih⊢
  simp only[List.map_cons,cz,wK,ih]
theorem yI:∀(as:List (Bool×List E)) (k v:Nat),aZ k v (zF as)=((aZ k v as).1.map (fun a=>(a.1,a.2.map Em)),(aZ k v as).2)
 | [],_,_=>rfl
 |(g,es)::r,k,v=>by
  have ih:=yI r
  unfold zF at ih⊢
  simp only[List.map_cons,aZ,yE,wK,ih]
theorem ah.Hb {α β δ:Type} {R:α→β→Prop} {T:α→δ→Prop} {g:β→δ} (h:∀a b,R a b→T a (g b)):∀ {xs:List α} {ys:List β},ah R xs ys→ah T xs (ys.map g)
 | [],[],_=>trivial
 |_::_,_::_,hr=>⟨h _ _ hr.1,ah.Hb h hr.2⟩
theorem Cl.zF {Γ:Cx} {h:H} {K v:Nat} {gs:List (Bool×List E)} {css:List (Bool×List C)} (hb:Cl Γ h K v gs css):Cl Γ h K v (zF gs) css:=by
 obtain⟨γ,h1,h2⟩:=hb
 unfold Cl
 rw[Ad,yI]
 refine⟨γ,h1,ah.Hb (fun a b hab=>⟨hab.1,ah.Hb (fun c d hd=> ?_) hab.2⟩) h2⟩
 cases d <;>try exact hd
 obtain⟨S,h3,_⟩:=hd
 simp only[RD]at h3
 exact⟨[],hK.2 (.inl ⟨rfl,rfl, .inl h3.1⟩),fun i hi=>by cases hi⟩
theorem xw:∀(cs:List C) (es:List E),oK cs (es.map uM)=oK cs es
 | [],es=>by cases es <;>simp[oK]
 |_::cs,[]=>rfl
 |c::cs,x::r=>by
  have ih:=xw cs r
  rcases x with(d|_)|_ <;>try (simp only[List.map_cons,uM,oK,ih];done)
  cases d <;>simp only[List.map_cons,uM,oK,ih]
theorem xv:∀(ms:List (Bool×List C)) (as:List (Bool×List E)),nZ ms (zF as)=nZ ms as
 | [],as=>by cases as <;>simp[Go.Eng.zF,nZ]
 |_::_,[]=>rfl
 |(g,cs)::ms,(g',es)::r=>by
  have ih:=xv ms r
  unfold Go.Eng.zF at ih⊢
  simp only[List.map_cons,nZ,xw,ih]
section
variable {Γ:Cx} {γ:Gh} {f:UT} {st:St} {mf:Fr} {h h':H}
theorem wV:∀ {cs:List C} {ds:List D} {us us':List Nat} {es:List E},ah (DC Γ γ st h) cs ds→ct st ds us=some (es,us')→ah (fun c (p:Nat×Nat)=>DC Γ γ st h c (.pt p.1 p.2 0)) (oK cs es) (vx ds)
 | [],[],us,us',es,_,he=>by simp[ct]at he;obtain⟨rfl,rfl⟩:=he;trivial
 |c::cs,d::ds,us,us',es,hd,he=>by
  cases d
  case pt k v o=>
   simp only[ct]at he
   split at he
   ·split at he
    ·simp at he
    ·rename_i ho
     simp only[Bool.or_eq_true,not_or,Bool.not_eq_true,bne_eq_false_iff_eq]at ho
     split at he
     ·split at he
      ·rename_i q
       simp at he
       obtain⟨rfl,rfl⟩:=he
       simp only[oK,vx]
       obtain rfl:=ho.2
       exact⟨hd.1,wV hd.2 q⟩
      ·simp at he
     ·simp at he
   ·simp at he
  all_goals
   simp only[ct]at he
   split at he
   ·split at he
    ·rename_i q
     simp at he
     obtain⟨rfl,rfl⟩:=he
     simp only[oK,vx]
     exact wV hd.2 q
    ·simp at he
   ·simp at he
theorem A9:∀ {ms:List (Bool×List C)} {vs:List (Bool×List D)} {us us':List Nat} {as:List (Bool×List E)},ah (DG Γ γ st h) ms vs→eg st vs us=some (as,us')→ah (fun c (p:Nat×Nat)=>DC Γ γ st h c (.pt p.1 p.2 0)) (nZ ms as) (y0 vs)
 | [],[],us,us',as,_,he=>by simp[eg]at he;obtain⟨rfl,rfl⟩:=he;trivial
 |(g,cs)::ms,(g',ds)::vs,us,us',as,hd,he=>by
  simp only[eg]at he
  split at he
  ·rename_i q1
   split at he
   ·rename_i q2
    simp at he
    obtain⟨rfl,rfl⟩:=he
    simp only[nZ,y0]
    exact(wV hd.1.2 q1).append (A9 hd.2 q2)
   ·simp at he
  ·simp at he
theorem C5 {cd:Nat→Option AF} {g d:Nat} {xs:List X} {vs:List (Bool×List D)} {as as':List (Bool×List E)} {us:List Nat} {k0 v0 ty0 ty:Nat} {ds0:List D} {α:Type} {W:α→Prop} {rs:α→List (Bool×List E)} {ys:α→List E0} (hr:Rel Γ f st mf h) (hx:im f xs=some vs)
 (hc:VC cd g as' (fun r p=>∃x,W x∧r=rs x∧p= [.pt ty (ys x)])) (ha:eg (bC st vs) vs []=some (as,us)) (hn:zF as=as') (hp:y0 vs= [(k0,v0)]) (hl:(bC st vs).ptr k0 v0=some (ty0,ds0)) (hu:us.elem k0=true) (ho:Bm (bC st vs) us=true)
 (n1:∀x,W x→k0 < cF d∨cF d+cz (rs x)≤k0) (n2:k0 < 1099511627776) (n3:∀x,W x→cF d+cz (rs x)≤1099511627776):
 ∃ms,args mf xs=some ms∧WC cd g ms h (fun r h'=>∃x,W x∧Rel Γ (mi f (bC st vs) d (rs x)) (vP (bC st vs) d (rs x) k0 v0 ty (ys x) us) (dI mf d r) h'):=by
 obtain⟨γ0,hr⟩:=hr
 obtain⟨ms,m1,m2⟩:=sM hr hx
 refine⟨ms,m1,?_⟩
 obtain⟨γ,k1,k2⟩:=vS vs hr
 have m3:ah (DG Γ γ (bC st vs) h) ms vs:=m2.imp fun m a ⟨q0,q⟩=>⟨q0,q.imp fun c d hd=>hd.mo k2⟩
 generalize bC st vs=st1 at *
 have hku:k0∈us:=by simpa using hu
 have hu0:∀k∈us,∀e,lk k st1.es=some e→γ.u k= []:=fun k hk e he=>by
  have h1:(match lk k st1.es with|some (.sl _ _ dp _ xs)=> !dp||flat xs|_=>true)=true:=List.all_eq_true.1 ho k hk
  rw[he]at h1
  have h2:=k1.en k e he
  match e,h1,h2 with
  | .pt _ _ _,_,h2=>exact h2.2.1
  | .sl v false dp t ys,_,h2=>exact h2.2.2.1
  | .sl v true dp t ys,h1,h2=>
    rcases h2.2 with h2|⟨id,ty',ez,bs,S,a1,a2,a3,a4,a5,a6,a7,a8⟩
    ·exact h2.2.2.1
    ·rw[a8]
     split
     ·rename_i hd
      simp only[hd,Bool.not_true,Bool.false_or]at h1
      exact a6.ss h1
     ·rfl
 let bs:List Nat:=us.flatMap fun k=>if(lk k st1.es).isSome then γ.w k else []
 have hbs:∀i,i∈bs↔∃k∈us,∃e,lk k st1.es=some e∧i∈γ.w k:=fun i=>by
  simp only[bs,List.mem_flatMap]
  constructor
  ·rintro⟨k,hk,hi⟩
   split at hi
   ·rename_i hs
    obtain⟨e,he⟩:=Option.isSome_iff_exists.1 hs
    exact⟨k,hk,e,he,hi⟩
   ·cases hi
  ·rintro⟨k,hk,e,he,hi⟩
   exact⟨k,hk,by rw[he];simpa using hi⟩
 have hown:∀i cs,mg ⟨h,fun i=>i < h.length∧PR Γ γ st1 i,bs,[]⟩ i→h[i]? ≠some (.ro cs):=fun i cs hi=>by
  rcases hi with hi|hi
  ·obtain⟨k,_,e,he,hw⟩:=(hbs i).1 hi
   exact k1.own i cs ((k1.nd k e he).2 i (by simp[hw]))
  ·rw[List.getElem?_eq_none hi];simp
 have hb:Cl ⟨h,fun i=>i < h.length∧PR Γ γ st1 i,bs,[]⟩ h K0 0 as ms:=
  k1.out (Γ':=⟨h,fun i=>i < h.length∧PR Γ γ st1 i,bs,[]⟩) ha m3 (fun i hi hp=> .inl ⟨hi,hp⟩) (fun k hk e he i hi=> .inl ((hbs i).2 ⟨k,hk,e,he,by rw[hu0 k hk e he]at hi;simpa using hi⟩)) (Nat.le_refl _) (fun _ _ _=>rfl) (fun i hi=>hi.1) rfl hown K0 0
 have hb':=hb.zF
 rw[hn]at hb'
 have hpt:=A9 m3 ha
 rw[hp,←xv,hn]at hpt
 match hpc:nZ ms as',hpt with
 | [c0],hpt=>
 have hcp:=hpt.1
 have hlk:=St.dv hl
 refine(hc ⟨h,fun i=>i < h.length∧PR Γ γ st1 i,bs,[]⟩ ms rfl hb').mono fun r h' ⟨rs',ps,css,⟨x,hx,e1,e2⟩,hcl,hv,hB⟩=>⟨x,hx,?_⟩
 subst e1 e2
 have hB:=hB (cF d) st1.nx
 rw[hpc]at hB
 rw[hv]
 exact k1.Jq d hlk hku (hcp.2 _ _ hlk) hbs (fun i hi=>hi.2) hB hcl (n1 x hx) n2 (n3 x hx)
end
def gu (f:UT) (s:Nat) (w:Bool):Option D:=
 match UF f s with
 | .tup []=>some (.bool (!w))
 |_=>dq f (.s s)
theorem Gf {Γ:Cx} {γ:Gh} {f:UT} {st:St} {mf:Fr} {h:H} (hr:ax Γ γ f st mf h) {s:Nat} {w b:Bool} (hg:gu f s w=some (.bool b)):gv mf s w=some (.bool b):=by
 have hs:=hr.slot s
 unfold gu at hg
 split at hg
 ·rename_i hu
  rw[hu]at hs
  obtain⟨ws,h1,h2⟩:=hs
  cases ws with
  |nil=>simp only[gv,h1];simpa using hg
  |cons=>exact h2.elim
 ·have h1:=bZ hr hg rfl
  unfold gv
  split
  ·rename_i hu
   simp only[cY,oV,ev,hu]at h1
   cases h1
  ·exact h1
inductive VX (cd:Nat→Option AF) (pd:List (Nat×Nat)) (R:List RV) (Q:List (Bool×List E)→List E→Prop):List VK→UT→St→Prop
 |nil {f st rs ps}:uf f st R pd=some (rs,ps)→Q rs ps→VX cd pd R Q [] f st
 |b {i k f st}:VX cd pd R Q k f st→VX cd pd R Q (.b i::k) f st
 |stop {P k f st}:P f st→VX cd pd R Q (.stop P::k) f st
 |skip {k f st}:VX cd pd R Q k f st→VX cd pd R Q (.c .skip::k) f st
 |ret {k f st rs ps}:uf f st R pd=some (rs,ps)→Q rs ps→VX cd pd R Q (.c .ret::k) f st
 |exit {id k k' f st}:sN id k=some k'→VX cd pd R Q k' f st→VX cd pd R Q (.c (.exit id)::k) f st
 |seq {a b k f st}:VX cd pd R Q (.c a:: .c b::k) f st→VX cd pd R Q (.c (.seq a b)::k) f st
 |block {id b k f st}:VX cd pd R Q (.c b:: .b id::k) f st→VX cd pd R Q (.c (.block id b)::k) f st
 |cond {x a c k f st} (v:Bool):dq f x=some (.bool v)→VX cd pd R Q (.c (if v then a else c)::k) f st→VX cd pd R Q (.c (.cond x a c)::k) f st
 |ops {k f st}:VX cd pd R Q k f st→VX cd pd R Q (.c (.ops [])::k) f st
 |i {a l k f st f' st'}:aQ a f st=some (f',st')→VX cd pd R Q (.c (.ops l)::k) f' st'→VX cd pd R Q (.c (.ops (.i a::l))::k) f st
 |gy {s w d a l k f st}:gu f s w=some (.bool w)→VX cd pd R Q (.c (.ops (.i a::l))::k) f st→VX cd pd R Q (.c (.ops (.g s w d a::l))::k) f st
 |gn {s w d a l k f st}:gu f s w=some (.bool (!w))→VX cd pd R Q (.c (.ops l)::k) (nY f d (.tup [])) st→VX cd pd R Q (.c (.ops (.g s w d a::l))::k) f st
 |call {d g q xs l k f st vs as} (Q':List (Bool×List E)→List E→Prop) (sh:Bool):im f xs=some vs→ey (if sh then bC st vs else st) vs=some as→(sh=true→Ca (bC st vs) vs=true)→VC cd g (bf as) Q'→(sh=false→∀rs ps,Q' rs ps→yM rs=true)→
   (∀rs,Q' rs []→VX cd pd R Q (.c (.ops l)::k) (mi f (if sh then bC st vs else st) d rs) (iQ (if sh then bC st vs else st) d rs))→VX cd pd R Q (.c (.ops (.i (.call d g q xs)::l))::k) f st
 |callp {d g xs l k f st vs as as' us k0 v0 ty0 ty ds0} {α:Type} (W:α→Prop) (rs:α→List (Bool×List E)) (ys:α→List E0):im f xs=some vs→VC cd g as' (fun r p=>∃x,W x∧r=rs x∧p= [.pt ty (ys x)])→eg (bC st vs) vs []=some (as,us)→zF as=as'→y0 vs= [(k0,v0)]→(bC st vs).ptr k0 v0=some (ty0,ds0)→us.elem k0=true→Bm (bC st vs) us=true→
   (∀x,W x→k0 < cF d∨cF d+cz (rs x)≤k0)→k0 < 1099511627776→(∀x,W x→cF d+cz (rs x)≤1099511627776)→(∀x,W x→VX cd pd R Q (.c (.ops l)::k) (mi f (bC st vs) d (rs x)) (vP (bC st vs) d (rs x) k0 v0 ty (ys x) us))→VX cd pd R Q (.c (.ops (.i (.call d g false xs)::l))::k) f st
 |clv {d g q x xs l k f st}:dq f x=some (.fn g)→VX cd pd R Q (.c (.ops (.i (.call d g q xs)::l))::k) f st→VX cd pd R Q (.c (.ops (.i (.clv d q x xs)::l))::k) f st
 |loop {ds b k f st} {σ:Type} (F:σ→UT) (S:σ→St) (J:σ→Nat→Prop) (s0:σ) (g0:Nat):J s0 g0→dS (bS f ds) st (F s0) (S s0)→
   (∀s g,J s g→VX cd pd R Q (.c b:: .stop (fun f' st'=>∃s' g',g' < g∧J s' g'∧dS (bS f' ds) st' (F s') (S s'))::k) (F s) (S s))→VX cd pd R Q (.c (.loop ds b)::k) f st
theorem AG {cd:Nat→Option AF} {R:List RV} {Q:V→H→Prop} {Γ:Cx} {id:Nat} {f:Fr} {h:H}:∀ {k k':List VK},sN id k=some k'→EX cd id (k.map (tr Γ)) f h R Q=WS cd (k'.map (tr Γ)) f h R Q
 | [],_,he=>by simp[sN]at he
 | .b i::k,k',he=>by
   simp only[sN]at he
   simp only[List.map_cons,tr,Ip]
   split at he
   ·rename_i hi;simp at he;subst he;rw[if_pos hi]
   ·rename_i hi;rw[if_neg hi];exact AG he
 | .c a::k,k',he=>by simp only[sN]at he;simp only[List.map_cons,tr,HZ];exact AG he
 | .stop P::k,k',he=>by simp only[sN]at he;simp only[List.map_cons,tr,Ap];exact AG he
theorem wm {cd:Nat→Option AF} {R:List RV} {Q:V→H→Prop} {b:AC} {P P':Fr→H→Prop} {k:List KI} {f:Fr} {h:H} (hp:∀f h,P f h→P' f h) (hw:WS cd (.c b:: .stop P::k) f h R Q):WS cd (.c b:: .stop P'::k) f h R Q:=by
 simp only[WS,cont]at hw⊢
 refine W.mono hw (fun e f' h' he=> ?_)
 cases e with
 |norm=>exact hp _ _ he
 |exit i=>exact he
 |ret=>exact he
theorem Gn {cd:Nat→Option AF} {pd:List (Nat×Nat)} {R:List RV} {Q:List (Bool×List E)→List E→Prop} {k:List VK} {f:UT} {st:St} (hv:VX cd pd R Q k f st):
 ∀ {Γ:Cx} {mf:Fr} {h:H},DB Γ=pd→Rel Γ f st mf h→WS cd (k.map (tr Γ)) mf h R (G2 Γ.un (Bf Γ) Q):=by
 induction hv with
 |nil h1 h2=>intro Γ mf h hp hr;simp only[List.map_nil,Df];subst hp;exact Da hr h1 h2
 |b _ ih=>intro Γ mf h hp hr;simp only[List.map_cons,tr,Iv];exact ih hp hr
 |stop h1=>intro Γ mf h hp hr;simp only[List.map_cons,tr,zY];exact⟨_,_,hr,h1⟩
 |skip _ ih=>intro Γ mf h hp hr;simp only[List.map_cons,tr,Ar];exact ih hp hr
 |ret h1 h2=>intro Γ mf h hp hr;simp only[List.map_cons,tr,D4];subst hp;exact Da hr h1 h2
 |exit h1 _ ih=>intro Γ mf h hp hr;simp only[List.map_cons,tr,At];rw[AG h1];exact ih hp hr
 |seq _ ih=>intro Γ mf h hp hr;have:=ih hp hr;simp only[List.map_cons,tr,Dl]at this⊢;exact this
 |block _ ih=>intro Γ mf h hp hr;have:=ih hp hr;simp only[List.map_cons,tr,yx]at this⊢;exact this
 |cond v h1 _ ih=>
  intro Γ mf h hp hr
  have:=ih hp hr
  obtain⟨γ,hg⟩:=hr
  simp only[List.map_cons,tr,AZ,bZ hg h1 rfl]at this⊢
  cases v
  ·simpa only[ye,Bool.false_eq_true,if_false]using this
  ·simpa only[Al,if_true]using this
 |ops _ ih=>intro Γ mf h hp hr;simp only[List.map_cons,tr,so];exact ih hp hr
 | @i a l k f st f' st' h1 _ ih=>
   intro Γ mf h hp hr
   obtain⟨mf',h',k1,k2⟩:=G0 hr h1
   have hpl:a.plain=true:=by cases a <;>first|rfl|(simp[aQ]at h1)
   simp only[List.map_cons,tr]
   rw[yG a hpl,k1,A6]
   exact ih hp k2
 | @gy s w d a l k f st h1 h2 ih=>
   intro Γ mf h hp hr
   have:=ih hp hr
   obtain⟨γ,hg⟩:=hr
   simp only[List.map_cons,tr,GY,Gf hg h1,GB,if_true]at this⊢
   exact this
 | @gn s w d a l k f st h1 h2 ih=>
   intro Γ mf h hp hr
   obtain⟨γ,hg⟩:=hr
   have:=ih hp ⟨γ,UR.dI hg (v:= .tup []) (u:= .tup []) ⟨[],rfl,trivial⟩⟩
   simp only[List.map_cons,tr,GY,Gf hg h1,GB]at this⊢
   rw[if_neg (by cases w <;>simp)]
   exact this
 | @call d g q xs l k f st vs as Q' sh h1 h2 h3 h4 h5 _ ih=>
   intro Γ mf h hp hr
   obtain⟨ms,m1,m2⟩:=Eu (d:=d) hr h1 sh h2 h3 h4 h5
   simp only[List.map_cons,tr]
   cases q with
   |false=>
    rw[wj,m1,lG]
    exact m2.mono fun r h' ⟨rs,q1,_,q2⟩=>ih rs q1 hp q2
   |true=>
    rw[yv,m1,lG]
    exact m2.mono fun r h' ⟨rs,q1,q3,q2⟩=>⟨q3,ih rs q1 hp q2⟩
 |callp W rs ys h1 h2 h3 h4 h5 h6 h7 h8 h9 h10 h11 _ ih=>
  intro Γ mf h hp hr
  obtain⟨ms,m1,m2⟩:=C5 hr h1 h2 h3 h4 h5 h6 h7 h8 h9 h10 h11
  simp only[List.map_cons,tr]
  rw[wj,m1,lG]
  exact m2.mono fun r h' ⟨x,q1,q2⟩=>ih x q1 hp q2
 |clv h1 _ ih=>
  intro Γ mf h hp hr
  have:=ih hp hr
  obtain⟨γ,hg⟩:=hr
  simp only[List.map_cons,tr,C4,bZ hg h1 rfl,F4]at this⊢
  exact this
 | @loop ds b k f st σ F S J s0 g0 h1 h2 _ ih=>
   intro Γ mf h hp hr
   simp only[List.map_cons,tr]
   refine Au (fun g mf h=>∃s,J s g∧Rel Γ (F s) (S s) (forget mf ds) h) g0 ⟨s0,h1,h2 Γ _ _ (Rel.forget ds hr)⟩ (fun g mf h ⟨s,q1,q2⟩=> ?_)
   have:=ih s g q1 hp q2
   simp only[List.map_cons,tr]at this
   exact wm (fun mf' h' ⟨f',st',r1,s',g',r2,r3,r4⟩=>⟨g',r2,s',r3,r4 Γ _ _ (Rel.forget ds r1)⟩) this
end Go.Eng
namespace Go.Eng
def kL (f:UT) (n:Nat):List (Bool×List D)→UT
 | []=>f
 |(g,ds)::r=>kL (UW f n (.val g ds)) (n+1) r
section
variable {Γ:Cx} {γ:Gh} {f:UT} {st:St} {mf:Fr} {h:H}
theorem ax.enter:∀ {ds:List (Bool×List D)} {ms:List (Bool×List C)} {f:UT} {mf:Fr} {n:Nat},ax Γ γ f st mf h→ah (DG Γ γ st h) ms ds→ax Γ γ (kL f n ds) st (c6 mf n ms) h
 | [],[],_,_,_,hr,_=>hr
 |(g,d)::ds,(g',c)::ms,f,mf,n,hr,ha=>by
  obtain⟨⟨h1,h2⟩,h3⟩:=ha
  simp only at h1
  subst h1
  simp only[kL,c6]
  exact ax.enter (hr.set (mv:= .val g' c) (uv:= .val g' d) ⟨c,rfl,h2⟩) h3
theorem ax.full (hr:ax Γ γ UT.leaf st PT.leaf h) (n:Nat):ax Γ γ (UT.full n) st (PT.full n) h:=
 {hr with fr:=fun k=>(by rw[PT.dB,UT.dB];intro cs e;cases e)}
end
theorem aa {cd:Nat→Option AF} {g:Nat} {a:AF} (hg:cd g=some a) {ds:List (Bool×List D)} (hl:ds.length=a.np) {Q:List (Bool×List E)→List E→Prop}
 (hv:VX cd [] a.res Q [.c a.body] (kL (UT.full a.dep) 0 ds) ⟨cz (bf ds),[]⟩):VC cd g (bf ds) Q:=by
 intro Γ ms hp hb
 obtain⟨γ,hr,hc⟩:=hb
 rw[eF]at hr hc
 rw[ks]
 have hm:ms.length=a.np:=by rw[←hl];exact hc.length
 refine aC hg hm ?_
 have h1:=(hr.full a.dep).enter (n:=0) hc
 have h2:=Gn hv (Γ:=Γ) (by unfold DB;rw[hp];rfl) ⟨γ,by simpa using h1⟩
 have e1:Γ.un=Γ:=by cases Γ;simp only at hp;subst hp;rfl
 have e2:Bf Γ= []:=by unfold Bf;rw[hp];rfl
 rw[e1,e2]at h2
 exact h2
def B5 (as1:List (Bool×List D)) (ty:Nat) (xs:List E0) (as2:List (Bool×List D)):List (Bool×List E):=bf as1++(false,[.pt ty xs])::bf as2
def nC (as:List (Bool×List D)):Nat:=cz (bf as)
theorem ya:∀(as bs:List (Bool×List E)) (k v:Nat),aZ k v (as++bs)=((aZ k v as).1++(aZ (k+cz as) (v+cz as) bs).1,(aZ k v as).2++(aZ (k+cz as) (v+cz as) bs).2)
 | [],bs,k,v=>by simp[aZ,cz]
 |(g,es)::as,bs,k,v=>by
  simp only[List.cons_append,aZ,ya as,cz,List.append_assoc,Prod.mk.injEq,List.cons.injEq,true_and]
  rw[show k+dc es+cz as=k+(dc es+cz as)by omega,show v+dc es+cz as=v+(dc es+cz as)by omega]
  exact⟨rfl,rfl⟩
theorem DN (as1:List (Bool×List D)) (ty:Nat) (xs:List E0) (as2:List (Bool×List D)) (k v:Nat):
 aZ k v (B5 as1 ty xs as2)=(as1++(false,[.pt (k+nC as1) (v+nC as1) 0])::as2,(k+nC as1, .pt (v+nC as1) ty (aN (k+nC as1+1) (v+nC as1+1) xs).1)::(aN (k+nC as1+1) (v+nC as1+1) xs).2):=by
 unfold B5
 rw[ya,eF]
 simp only[aZ,ba,eF,List.append_nil,List.nil_append]
 rfl
theorem yf:∀ {as1:List (Bool×List D)} {ty:Nat} {xs:List E0} {as2:List (Bool×List D)} {ms1:List (Bool×List C)} {g:Bool} {c:C} {ms2:List (Bool×List C)},ms1.length=as1.length→nZ (ms1++(g,[c])::ms2) (B5 as1 ty xs as2)= [c]
 | [],ty,xs,as2,[],g,c,ms2,_=>by
   have:=ks ms2 as2
   simp only[B5,bf,List.map_nil,List.nil_append,nZ,oK]at this⊢
   rw[this];rfl
 |(g',ds)::as1,ty,xs,as2,(g1,cs)::ms1,g,c,ms2,hl=>by
  have:=yf (as1:=as1) (ty:=ty) (xs:=xs) (as2:=as2) (ms1:=ms1) (g:=g) (c:=c) (ms2:=ms2) (by simpa using hl)
  simp only[B5,bf,List.map_cons,List.cons_append,nZ,ud,List.nil_append]at this⊢
  exact this
 | [],_,_,_,_::_,_,_,_,hl=>by simp at hl
 |_::_,_,_,_,[],_,_,_,hl=>by simp at hl
theorem ah.split {α β:Type} {R:α→β→Prop}:∀ {xs:List α} {ys zs:List β},ah R xs (ys++zs)→∃x1 x2,xs=x1++x2∧ah R x1 ys∧ah R x2 zs
 |xs,[],zs,h=>⟨[],xs,rfl,trivial,h⟩
 | [],_::_,_,h=>h.elim
 |x::xs,y::ys,zs,h=>by
  obtain⟨x1,x2,rfl,h1,h2⟩:=ah.split h.2
  exact⟨x::x1,x2,rfl,⟨h.1,h1⟩,h2⟩
theorem lI {cd:Nat→Option AF} {g:Nat} {a:AF} (hg:cd g=some a) {as1 as2:List (Bool×List D)} {ty:Nat} {xs:List E0} (hl:as1.length+1+as2.length=a.np) {Q:List (Bool×List E)→List E→Prop}
 (hv:VX cd [(K0+nC as1,nC as1)] a.res Q [.c a.body] (kL (UT.full a.dep) 0 (as1++(false,[.pt (K0+nC as1) (nC as1) 0])::as2))
   ⟨nC as1+(1+xs.length+nC as2),(K0+nC as1, .pt (nC as1) ty (aN (K0+nC as1+1) (nC as1+1) xs).1)::(aN (K0+nC as1+1) (nC as1+1) xs).2⟩):VC cd g (B5 as1 ty xs as2) Q:=by
 intro Γ ms hp hb
 obtain⟨γ,hr,hc⟩:=hb
 have hsz:cz (B5 as1 ty xs as2)=nC as1+(1+xs.length+nC as2):=by
  have:∀as bs:List (Bool×List E),cz (as++bs)=cz as+cz bs:=by
   intro as bs
   induction as with
   |nil=>simp[cz]
   |cons a r ih=>obtain⟨g,es⟩:=a;simp only[List.cons_append,cz,ih];omega
  unfold B5 nC
  rw[this]
  simp only[cz,dc]
  omega
 rw[DN]at hr hc
 rw[hsz]at hr hc
 simp only[Nat.zero_add]at hr hc
 obtain⟨ms1,ms2',rfl,c1,c2⟩:=ah.split hc
 match ms2',c2 with
 |(g0,cs0)::ms2,c2=>
 obtain⟨⟨h0,h1⟩,c3⟩:=c2
 simp only at h0 h1
 subst h0
 match cs0,h1 with
 | [c0],h1=>
 obtain⟨id,e1,e2⟩:=h1.1.2 ty _ (by rw[aA,if_pos rfl])
 subst e2
 rw[yf c1.length]
 refine aC hg (by rw[←hl];simp only[List.length_append,List.length_cons,c1.length,c3.length];omega) ?_
 have hr2:ax ⟨Γ.hb,Γ.ar,Γ.bs,[(K0+nC as1,nC as1,id)]⟩ γ UT.leaf _ PT.leaf Γ.hb:= {hr with
  pin:=fun p hp=>by
   simp only[List.mem_singleton]at hp
   subst hp
   exact⟨h1.1.1,fun _ _ _=>e1⟩}
 have h2:=(hr2.full a.dep).enter (n:=0) hc
 have h3:=Gn hv (Γ:=⟨Γ.hb,Γ.ar,Γ.bs,[(K0+nC as1,nC as1,id)]⟩) rfl ⟨γ,by simpa using h2⟩
 have e3:Cx.un ⟨Γ.hb,Γ.ar,Γ.bs,[(K0+nC as1,nC as1,id)]⟩=Γ:=by cases Γ;simp only at hp;subst hp;rfl
 rw[e3]at h3
 exact h3
def It (o:Option (List (Bool×List E)×List E)) (Q:List (Bool×List E)→List E→Prop):Prop:=
 match o with
 |some (rs,ps)=>Q rs ps
 |none=>False
def iB (cd:Nat→Option AF) (pd:List (Nat×Nat)) (R:List RV) (Q:List (Bool×List E)→List E→Prop) (o:Option (UT×St)) (l:List IT) (k:List VK):Prop:=
 match o with
 |some (f,st)=>VX cd pd R Q (.c (.ops l)::k) f st
 |none=>False
def Ea (o:Option D) (A B:Prop):Prop:=
 match o with
 |some (.bool true)=>A
 |some (.bool false)=>B
 |_=>False
def I2 (cd:Nat→Option AF) (pd:List (Nat×Nat)) (R:List RV) (Q:List (Bool×List E)→List E→Prop) (o:Option (List VK)) (f:UT) (st:St):Prop:=
 match o with
 |some k=>VX cd pd R Q k f st
 |none=>False
section
variable {cd:Nat→Option AF} {pd:List (Nat×Nat)} {R:List RV} {Q:List (Bool×List E)→List E→Prop} {k:List VK} {f:UT} {st:St}
theorem Hh:VX cd pd R Q [] f st=It (uf f st R pd) Q:=by
 apply propext
 constructor
 ·intro h;cases h with|nil h1 h2=>rw[h1];exact h2
 ·intro h
  cases hx:uf f st R pd with
  |none=>rw[hx]at h;exact h.elim
  |some p=>obtain⟨rs,ps⟩:=p;rw[hx]at h;exact .nil hx h
theorem IU {i:Nat}:VX cd pd R Q (.b i::k) f st=VX cd pd R Q k f st:=propext ⟨fun h=>by cases h;assumption, .b⟩
theorem EK {P:UT→St→Prop}:VX cd pd R Q (.stop P::k) f st=P f st:=propext ⟨fun h=>by cases h;assumption, .stop⟩
theorem EN:VX cd pd R Q (.c .skip::k) f st=VX cd pd R Q k f st:=propext ⟨fun h=>by cases h;assumption, .skip⟩
theorem GN:VX cd pd R Q (.c .ret::k) f st=It (uf f st R pd) Q:=by
 apply propext
 constructor
 ·intro h;cases h with|ret h1 h2=>rw[h1];exact h2
 ·intro h
  cases hx:uf f st R pd with
  |none=>rw[hx]at h;exact h.elim
  |some p=>obtain⟨rs,ps⟩:=p;rw[hx]at h;exact .ret hx h
theorem Fm {id:Nat}:VX cd pd R Q (.c (.exit id)::k) f st=I2 cd pd R Q (sN id k) f st:=by
 apply propext
 constructor
 ·intro h;cases h with|exit h1 h2=>rw[h1];exact h2
 ·intro h
  cases hx:sN id k with
  |none=>rw[hx]at h;exact h.elim
  |some k'=>rw[hx]at h;exact .exit hx h
theorem GF {a b:AC}:VX cd pd R Q (.c (.seq a b)::k) f st=VX cd pd R Q (.c a:: .c b::k) f st:=propext ⟨fun h=>by cases h;assumption, .seq⟩
theorem CH {id:Nat} {b:AC}:VX cd pd R Q (.c (.block id b)::k) f st=VX cd pd R Q (.c b:: .b id::k) f st:=propext ⟨fun h=>by cases h;assumption, .block⟩
theorem E2 {x:X} {a c:AC}:VX cd pd R Q (.c (.cond x a c)::k) f st=Ea (dq f x) (VX cd pd R Q (.c a::k) f st) (VX cd pd R Q (.c c::k) f st):=by
 apply propext
 constructor
 ·intro h
  cases h with
  |cond v h1 h2=>rw[h1];cases v <;>simpa[Ea]using h2
 ·intro h
  unfold Ea at h
  split at h
  ·rename_i hx;exact .cond true hx (by simpa using h)
  ·rename_i hx;exact .cond false hx (by simpa using h)
  ·exact h.elim
theorem Gz:VX cd pd R Q (.c (.ops [])::k) f st=VX cd pd R Q k f st:=propext ⟨fun h=>by cases h;assumption, .ops⟩
theorem Jm {a:AI} {l:List IT} (ha:a.plain=true):VX cd pd R Q (.c (.ops (.i a::l))::k) f st=iB cd pd R Q (aQ a f st) l k:=by
 apply propext
 constructor
 ·intro h
  cases h with
  |i h1 h2=>rw[h1];exact h2
  |call=>simp[AI.plain]at ha
  |callp=>simp[AI.plain]at ha
  |clv=>simp[AI.plain]at ha
 ·intro h
  cases hx:aQ a f st with
  |none=>rw[hx]at h;exact h.elim
  |some p=>obtain⟨f',st'⟩:=p;rw[hx]at h;exact .i hx h
theorem HM {s d:Nat} {a:AI} {l:List IT}:VX cd pd R Q (.c (.ops (.g s true d a::l))::k) f st=Ea (gu f s true) (VX cd pd R Q (.c (.ops (.i a::l))::k) f st) (VX cd pd R Q (.c (.ops l)::k) (nY f d (.tup [])) st):=by
 apply propext
 constructor
 ·intro h
  cases h with
  |gy h1 h2=>rw[h1];exact h2
  |gn h1 h2=>rw[h1];exact h2
 ·intro h
  unfold Ea at h
  split at h
  ·rename_i hx;exact .gy hx h
  ·rename_i hx;exact .gn hx h
  ·exact h.elim
theorem Ij {s d:Nat} {a:AI} {l:List IT}:VX cd pd R Q (.c (.ops (.g s false d a::l))::k) f st=Ea (gu f s false) (VX cd pd R Q (.c (.ops l)::k) (nY f d (.tup [])) st) (VX cd pd R Q (.c (.ops (.i a::l))::k) f st):=by
 apply propext
 constructor
 ·intro h
  cases h with
  |gy h1 h2=>rw[h1];exact h2
  |gn h1 h2=>rw[h1];exact h2
 ·intro h
  unfold Ea at h
  split at h
  ·rename_i hx;exact .gn hx h
  ·rename_i hx;exact .gy hx h
  ·exact h.elim
def Bu (cd:Nat→Option AF) (pd:List (Nat×Nat)) (R:List RV) (Q:List (Bool×List E)→List E→Prop) (o:Option D) (kt:List VK) (ft:UT) (kf:List VK) (ff:UT) (st:St):Prop:=Ea o (VX cd pd R Q kt ft st) (VX cd pd R Q kf ff st)
theorem H2 {kt kf:List VK} {ft ff:UT}:Bu cd pd R Q (some (.bool true)) kt ft kf ff st=VX cd pd R Q kt ft st:=rfl
theorem HX {kt kf:List VK} {ft ff:UT}:Bu cd pd R Q (some (.bool false)) kt ft kf ff st=VX cd pd R Q kf ff st:=rfl
theorem Fx {b:Bool} {kt kf:List VK} {ft ff:UT}:Bu cd pd R Q (some (.bool (!b))) kt ft kf ff st=Bu cd pd R Q (some (.bool b)) kf ff kt ft st:=by cases b <;>rfl
theorem av {b:Bool} {kt kf:List VK} {ft ff:UT} (ht:b=true→VX cd pd R Q kt ft st) (hf:b=false→VX cd pd R Q kf ff st):Bu cd pd R Q (some (.bool b)) kt ft kf ff st:=by
 cases b
 ·exact hf rfl
 ·exact ht rfl
theorem ab {p:Prop} {_:Decidable p} {kt kf:List VK} {ft ff:UT} (ht:p→VX cd pd R Q kt ft st) (hf:¬p→VX cd pd R Q kf ff st):Bu cd pd R Q (some (.bool (decide p))) kt ft kf ff st:=by
 by_cases hp:p
 ·simp only[hp,decide_true,H2];exact ht hp
 ·simp only[hp,decide_false,HX];exact hf hp
end
theorem VP {cd:Nat→Option AF} {pd:List (Nat×Nat)} {R:List RV} {Q:List (Bool×List E)→List E→Prop}:(∀(k:List VK) (f:UT) (st:St) (l:List IT) d_ x_,VX cd pd R Q (.c (.ops (.i (.mov d_ x_)::l))::k) f st=iB cd pd R Q (aQ (.mov d_ x_) f st) l k)∧
 (∀(k:List VK) (f:UT) (st:St) (l:List IT) d_ c_ a_ b_,VX cd pd R Q (.c (.ops (.i (.pick d_ c_ a_ b_)::l))::k) f st=iB cd pd R Q (aQ (.pick d_ c_ a_ b_) f st) l k)∧
 (∀(k:List VK) (f:UT) (st:St) (l:List IT) d_ x_,VX cd pd R Q (.c (.ops (.i (.lbox d_ x_)::l))::k) f st=iB cd pd R Q (aQ (.lbox d_ x_) f st) l k)∧
 (∀(k:List VK) (f:UT) (st:St) (l:List IT) d_ cs_,VX cd pd R Q (.c (.ops (.i (.lal d_ cs_)::l))::k) f st=iB cd pd R Q (aQ (.lal d_ cs_) f st) l k)∧
 (∀(k:List VK) (f:UT) (st:St) (l:List IT) d_ ty_ x_,VX cd pd R Q (.c (.ops (.i (.hbox d_ ty_ x_)::l))::k) f st=iB cd pd R Q (aQ (.hbox d_ ty_ x_) f st) l k)∧
 (∀(k:List VK) (f:UT) (st:St) (l:List IT) d_ ty_ cs_,VX cd pd R Q (.c (.ops (.i (.hal d_ ty_ cs_)::l))::k) f st=iB cd pd R Q (aQ (.hal d_ ty_ cs_) f st) l k)∧
 (∀(k:List VK) (f:UT) (st:St) (l:List IT) d_ z_ ps_,VX cd pd R Q (.c (.ops (.i (.bld d_ z_ ps_)::l))::k) f st=iB cd pd R Q (aQ (.bld d_ z_ ps_) f st) l k)∧
 (∀(k:List VK) (f:UT) (st:St) (l:List IT) d_ ty_ e_ n_ z_ ps_,VX cd pd R Q (.c (.ops (.i (.bsl d_ ty_ e_ n_ z_ ps_)::l))::k) f st=iB cd pd R Q (aQ (.bsl d_ ty_ e_ n_ z_ ps_) f st) l k)∧
 (∀(k:List VK) (f:UT) (st:St) (l:List IT) d_,VX cd pd R Q (.c (.ops (.i (.bse d_)::l))::k) f st=iB cd pd R Q (aQ (.bse d_) f st) l k)∧
 (∀(k:List VK) (f:UT) (st:St) (l:List IT) d_ e_ n_ z_ ps_,VX cd pd R Q (.c (.ops (.i (.lsl d_ e_ n_ z_ ps_)::l))::k) f st=iB cd pd R Q (aQ (.lsl d_ e_ n_ z_ ps_) f st) l k)∧
 (∀(k:List VK) (f:UT) (st:St) (l:List IT) d_ x_ o_,VX cd pd R Q (.c (.ops (.i (.fad d_ x_ o_)::l))::k) f st=iB cd pd R Q (aQ (.fad d_ x_ o_) f st) l k)∧
 (∀(k:List VK) (f:UT) (st:St) (l:List IT) d_ x_ i_ e_,VX cd pd R Q (.c (.ops (.i (.iad d_ x_ i_ e_)::l))::k) f st=iB cd pd R Q (aQ (.iad d_ x_ i_ e_) f st) l k)∧
 (∀(k:List VK) (f:UT) (st:St) (l:List IT) d_ x_ i_ e_ n_,VX cd pd R Q (.c (.ops (.i (.iaa d_ x_ i_ e_ n_)::l))::k) f st=iB cd pd R Q (aQ (.iaa d_ x_ i_ e_ n_) f st) l k)∧
 (∀(k:List VK) (f:UT) (st:St) (l:List IT) d_ r_ x_ n_ g_,VX cd pd R Q (.c (.ops (.i (.ldl d_ r_ x_ n_ g_)::l))::k) f st=iB cd pd R Q (aQ (.ldl d_ r_ x_ n_ g_) f st) l k)∧
 (∀(k:List VK) (f:UT) (st:St) (l:List IT) d_ x_ n_ g_,VX cd pd R Q (.c (.ops (.i (.ldh d_ x_ n_ g_)::l))::k) f st=iB cd pd R Q (aQ (.ldh d_ x_ n_ g_) f st) l k)∧
 (∀(k:List VK) (f:UT) (st:St) (l:List IT) r_ x_ v_ n_,VX cd pd R Q (.c (.ops (.i (.stl r_ x_ v_ n_)::l))::k) f st=iB cd pd R Q (aQ (.stl r_ x_ v_ n_) f st) l k)∧
 (∀(k:List VK) (f:UT) (st:St) (l:List IT) x_ v_ n_,VX cd pd R Q (.c (.ops (.i (.sth x_ v_ n_)::l))::k) f st=iB cd pd R Q (aQ (.sth x_ v_ n_) f st) l k)∧
 (∀(k:List VK) (f:UT) (st:St) (l:List IT) d_ op_ x_ y_,VX cd pd R Q (.c (.ops (.i (.bin d_ op_ x_ y_)::l))::k) f st=iB cd pd R Q (aQ (.bin d_ op_ x_ y_) f st) l k)∧
 (∀(k:List VK) (f:UT) (st:St) (l:List IT) d_ n_ x_ y_,VX cd pd R Q (.c (.ops (.i (.beq d_ n_ x_ y_)::l))::k) f st=iB cd pd R Q (aQ (.beq d_ n_ x_ y_) f st) l k)∧
 (∀(k:List VK) (f:UT) (st:St) (l:List IT) d_ n_ x_,VX cd pd R Q (.c (.ops (.i (.snil d_ n_ x_)::l))::k) f st=iB cd pd R Q (aQ (.snil d_ n_ x_) f st) l k)∧
 (∀(k:List VK) (f:UT) (st:St) (l:List IT) d_ m_ n_ x_ y_,VX cd pd R Q (.c (.ops (.i (.geq d_ m_ n_ x_ y_)::l))::k) f st=iB cd pd R Q (aQ (.geq d_ m_ n_ x_ y_) f st) l k)∧
 (∀(k:List VK) (f:UT) (st:St) (l:List IT) d_ x_,VX cd pd R Q (.c (.ops (.i (.neg d_ x_)::l))::k) f st=iB cd pd R Q (aQ (.neg d_ x_) f st) l k)∧
 (∀(k:List VK) (f:UT) (st:St) (l:List IT) d_ x_,VX cd pd R Q (.c (.ops (.i (.not d_ x_)::l))::k) f st=iB cd pd R Q (aQ (.not d_ x_) f st) l k)∧
 (∀(k:List VK) (f:UT) (st:St) (l:List IT) d_ k_ x_,VX cd pd R Q (.c (.ops (.i (.cvi d_ k_ x_)::l))::k) f st=iB cd pd R Q (aQ (.cvi d_ k_ x_) f st) l k)∧
 (∀(k:List VK) (f:UT) (st:St) (l:List IT) d_ x_,VX cd pd R Q (.c (.ops (.i (.cbs d_ x_)::l))::k) f st=iB cd pd R Q (aQ (.cbs d_ x_) f st) l k)∧
 (∀(k:List VK) (f:UT) (st:St) (l:List IT) d_ ty_ e_ b_ z_ x_,VX cd pd R Q (.c (.ops (.i (.mks d_ ty_ e_ b_ z_ x_)::l))::k) f st=iB cd pd R Q (aQ (.mks d_ ty_ e_ b_ z_ x_) f st) l k)∧
 (∀(k:List VK) (f:UT) (st:St) (l:List IT) d_ e_ x_ lo_ hi_,VX cd pd R Q (.c (.ops (.i (.ee d_ e_ x_ lo_ hi_)::l))::k) f st=iB cd pd R Q (aQ (.ee d_ e_ x_ lo_ hi_) f st) l k)∧
 (∀(k:List VK) (f:UT) (st:St) (l:List IT) d_ x_ lo_ hi_,VX cd pd R Q (.c (.ops (.i (.sls d_ x_ lo_ hi_)::l))::k) f st=iB cd pd R Q (aQ (.sls d_ x_ lo_ hi_) f st) l k)∧
 (∀(k:List VK) (f:UT) (st:St) (l:List IT) d_ x_ n_ e_,VX cd pd R Q (.c (.ops (.i (.sla d_ x_ n_ e_)::l))::k) f st=iB cd pd R Q (aQ (.sla d_ x_ n_ e_) f st) l k)∧
 (∀(k:List VK) (f:UT) (st:St) (l:List IT) d_ x_ o_ n_ g_,VX cd pd R Q (.c (.ops (.i (.fld d_ x_ o_ n_ g_)::l))::k) f st=iB cd pd R Q (aQ (.fld d_ x_ o_ n_ g_) f st) l k)∧
 (∀(k:List VK) (f:UT) (st:St) (l:List IT) d_ x_ i_ e_ n_ g_,VX cd pd R Q (.c (.ops (.i (.idx d_ x_ i_ e_ n_ g_)::l))::k) f st=iB cd pd R Q (aQ (.idx d_ x_ i_ e_ n_ g_) f st) l k)∧
 (∀(k:List VK) (f:UT) (st:St) (l:List IT) d_ x_ i_,VX cd pd R Q (.c (.ops (.i (.ids d_ x_ i_)::l))::k) f st=iB cd pd R Q (aQ (.ids d_ x_ i_) f st) l k)∧
 (∀(k:List VK) (f:UT) (st:St) (l:List IT) d_ x_ i_,VX cd pd R Q (.c (.ops (.i (.ext d_ x_ i_)::l))::k) f st=iB cd pd R Q (aQ (.ext d_ x_ i_) f st) l k)∧
 (∀(k:List VK) (f:UT) (st:St) (l:List IT) d_ x_,VX cd pd R Q (.c (.ops (.i (.nch d_ x_)::l))::k) f st=iB cd pd R Q (aQ (.nch d_ x_) f st) l k)∧
 (∀(k:List VK) (f:UT) (st:St) (l:List IT) d_ s_ x_,VX cd pd R Q (.c (.ops (.i (.len d_ s_ x_)::l))::k) f st=iB cd pd R Q (aQ (.len d_ s_ x_) f st) l k)∧
 (∀(k:List VK) (f:UT) (st:St) (l:List IT) d_ ty_ e_ b_ x_ y_,VX cd pd R Q (.c (.ops (.i (.app d_ ty_ e_ b_ x_ y_)::l))::k) f st=iB cd pd R Q (aQ (.app d_ ty_ e_ b_ x_ y_) f st) l k)∧
 (∀(k:List VK) (f:UT) (st:St) (l:List IT) d_ e_ x_ y_,VX cd pd R Q (.c (.ops (.i (.cpy d_ e_ x_ y_)::l))::k) f st=iB cd pd R Q (aQ (.cpy d_ e_ x_ y_) f st) l k)∧
 (∀(k:List VK) (f:UT) (st:St) (l:List IT) d_ m_ x_ y_,VX cd pd R Q (.c (.ops (.i (.mm d_ m_ x_ y_)::l))::k) f st=iB cd pd R Q (aQ (.mm d_ m_ x_ y_) f st) l k):=
 by(repeat' apply And.intro) <;>intros <;>exact Jm rfl
def FZ (cd:Nat→Option AF) (pd:List (Nat×Nat)) (R:List RV) (Q:List (Bool×List E)→List E→Prop) (d g:Nat) (q:Bool) (l:List IT) (k:List VK) (f:UT) (st:St) (o:Option (List (Bool×List D))):Prop:=
 (∃(α:Type) (W:α→Prop) (rs:α→List (Bool×List E)) (ys:α→List E0),∃vs as us as' k0 v0 ty0 ty ds0,q=false∧o=some vs∧VC cd g as' (fun r p=>∃x,W x∧r=rs x∧p= [.pt ty (ys x)])∧eg (bC st vs) vs []=some (as,us)∧zF as=as'∧y0 vs= [(k0,v0)]∧(bC st vs).ptr k0 v0=some (ty0,ds0)∧us.elem k0=true∧Bm (bC st vs) us=true∧
    (∀x,W x→k0 < cF d∨cF d+cz (rs x)≤k0)∧k0 < 1099511627776∧(∀x,W x→cF d+cz (rs x)≤1099511627776)∧(∀x,W x→VX cd pd R Q (.c (.ops l)::k) (mi f (bC st vs) d (rs x)) (vP (bC st vs) d (rs x) k0 v0 ty (ys x) us)))∨
 ∃vs as Q' sh,o=some vs∧ey (if sh then bC st vs else st) vs=some as∧(sh=true→Ca (bC st vs) vs=true)∧VC cd g (bf as) Q'∧(sh=false→∀rs ps,Q' rs ps→yM rs=true)∧
  (∀rs,Q' rs []→VX cd pd R Q (.c (.ops l)::k) (mi f (if sh then bC st vs else st) d rs) (iQ (if sh then bC st vs else st) d rs))
def IG (cd:Nat→Option AF) (pd:List (Nat×Nat)) (R:List RV) (Q:List (Bool×List E)→List E→Prop) (d:Nat) (q:Bool) (xs:List X) (l:List IT) (k:List VK) (f:UT) (st:St) (o:Option D):Prop:=
 match o with
 |some (.fn g)=>VX cd pd R Q (.c (.ops (.i (.call d g q xs)::l))::k) f st
 |_=>False
section
variable {cd:Nat→Option AF} {pd:List (Nat×Nat)} {R:List RV} {Q:List (Bool×List E)→List E→Prop} {k:List VK} {f:UT} {st:St}
theorem E1 {d g:Nat} {q:Bool} {xs:List X} {l:List IT}:VX cd pd R Q (.c (.ops (.i (.call d g q xs)::l))::k) f st=FZ cd pd R Q d g q l k f st (im f xs):=by
 apply propext
 constructor
 ·intro h
  cases h with
  |i h1 h2=>simp[aQ]at h1
  |call Q' sh h1 h2 h3 h4 h5 h6=>exact .inr ⟨_,_,Q',sh,h1,h2,h3,h4,h5,h6⟩
  |callp W rs ys h1 h2 h3 h4 h5 h6 h7 h8 h9 h10 h11 h12=>exact .inl ⟨_,W,rs,ys,_,_,_,_,_,_,_,_,_,rfl,h1,h2,h3,h4,h5,h6,h7,h8,h9,h10,h11,h12⟩
 ·rintro(⟨α,W,rs,ys,vs,as,us,as',k0,v0,ty0,ty,ds0,rfl,h1,h2,h3,h4,h5,h6,h7,h8,h9,h10,h11,h12⟩|⟨vs,as,Q',sh,h1,h2,h3,h4,h5,h6⟩)
  ·exact .callp W rs ys h1 h2 h3 h4 h5 h6 h7 h8 h9 h10 h11 h12
  ·exact .call Q' sh h1 h2 h3 h4 h5 h6
theorem G9 {d:Nat} {q:Bool} {x:X} {xs:List X} {l:List IT}:VX cd pd R Q (.c (.ops (.i (.clv d q x xs)::l))::k) f st=IG cd pd R Q d q xs l k f st (dq f x):=by
 apply propext
 constructor
 ·intro h
  cases h with
  |i h1 h2=>simp[aQ]at h1
  |clv h1 h2=>rw[h1];exact h2
 ·intro h
  unfold IG at h
  split at h
  ·rename_i hx;exact .clv hx h
  ·exact h.elim
theorem aj {d g:Nat} {q:Bool} {l:List IT} {vs as:List (Bool×List D)} {rs:List (Bool×List E)} (hc:VC cd g (bf as) (fun r _=>r=rs)) (ha:ey st vs=some as) (hn:yM rs=true)
 (hk:VX cd pd R Q (.c (.ops l)::k) (mi f st d rs) (iQ st d rs)):FZ cd pd R Q d g q l k f st (some vs):=
 .inr ⟨vs,as,fun r _=>r=rs,false,rfl,(by simpa using ha),(fun h=>by cases h),hc,(fun _ r _ h=>by subst h;exact hn),(fun r h=>by subst h;simpa using hk)⟩
theorem H7 {d g:Nat} {q:Bool} {l:List IT} {vs as:List (Bool×List D)} {rs:List (Bool×List E)} (hc:VC cd g (bf as) (fun r _=>r=rs)) (ha:ey (bC st vs) vs=some as) (hn:Ca (bC st vs) vs=true)
 (hk:VX cd pd R Q (.c (.ops l)::k) (mi f (bC st vs) d rs) (iQ (bC st vs) d rs)):FZ cd pd R Q d g q l k f st (some vs):=
 .inr ⟨vs,as,fun r _=>r=rs,true,rfl,(by simpa using ha),(fun _=>hn),hc,(fun h=>by cases h),(fun r h=>by subst h;simpa using hk)⟩
theorem Iu {d g:Nat} {l:List IT} {vs:List (Bool×List D)} {as as':List (Bool×List E)} {us:List Nat} {k0 v0 ty0 ty:Nat} {ds0:List D} {rs:List (Bool×List E)} {ys:List E0} (hc:VC cd g as' (fun r p=>r=rs∧p= [.pt ty ys])) (he:eg (bC st vs) vs []=some (as,us)) (hn:zF as=as') (hp:y0 vs= [(k0,v0)]) (hl:(bC st vs).ptr k0 v0=some (ty0,ds0)) (hu:us.elem k0=true) (ho:Bm (bC st vs) us=true)
 (n1:k0 < cF d∨cF d+cz rs≤k0) (n2:k0 < 1099511627776) (n3:cF d+cz rs≤1099511627776) (hk:VX cd pd R Q (.c (.ops l)::k) (mi f (bC st vs) d rs) (vP (bC st vs) d rs k0 v0 ty ys us)):FZ cd pd R Q d g false l k f st (some vs):=
 .inl ⟨Unit,fun _=>True,fun _=>rs,fun _=>ys,vs,as,us,as',k0,v0,ty0,ty,ds0,rfl,rfl,hc.mono (fun r p h=>⟨(),trivial,h.1,h.2⟩),he,hn,hp,hl,hu,ho,fun _ _=>n1,n2,fun _ _=>n3,fun _ _=>hk⟩
theorem A0 {ds:List Nat} {b:AC} {σ:Type} (F:σ→UT) (S:σ→St) (J:σ→Nat→Prop) (s0:σ) (g0:Nat) (h0:J s0 g0) (hw:dS (bS f ds) st (F s0) (S s0))
 (hr:∀s g,J s g→VX cd pd R Q (.c b:: .stop (fun f' st'=>∃s' g',g' < g∧J s' g'∧dS (bS f' ds) st' (F s') (S s'))::k) (F s) (S s)):VX cd pd R Q (.c (.loop ds b)::k) f st:=
 .loop F S J s0 g0 h0 hw hr
end
inductive xp:List VK→List VK→Prop
 |nil:xp [] []
 |c {a k k'}:xp k k'→xp (.c a::k) (.c a::k')
 |b {i k k'}:xp k k'→xp (.b i::k) (.b i::k')
 |stop {P P' k k'}:(∀f st,P f st→P' f st)→xp k k'→xp (.stop P::k) (.stop P'::k')
theorem xp.refl:∀k,xp k k
 | []=> .nil
 | .c _::k=> .c (xp.refl k)
 | .b _::k=> .b (xp.refl k)
 | .stop _::k=> .stop (fun _ _ h=>h) (xp.refl k)
theorem xp.ex {id:Nat} {k k1:List VK}:∀ {k':List VK},xp k k'→sN id k=some k1→∃k1',sN id k'=some k1'∧xp k1 k1':=by
 intro k' hk
 induction hk with
 |nil=>intro h;simp[sN]at h
 |c _ ih=>intro h;simp only[sN]at h⊢;exact ih h
 | @b i k k' hk ih=>
   intro h
   simp only[sN]at h⊢
   split at h
   ·rename_i hi;simp at h;subst h;rw[if_pos hi];exact⟨_,rfl,hk⟩
   ·rename_i hi;rw[if_neg hi];exact ih h
 |stop _ _ ih=>intro h;simp only[sN]at h⊢;exact ih h
theorem VX.le {cd:Nat→Option AF} {pd:List (Nat×Nat)} {R:List RV} {Q:List (Bool×List E)→List E→Prop} {k:List VK} {f:UT} {st:St} (hv:VX cd pd R Q k f st):∀ {k'},xp k k'→VX cd pd R Q k' f st:=by
 induction hv with
 |nil h1 h2=>intro k' hk;cases hk;exact .nil h1 h2
 |b _ ih=>intro k' hk;cases hk with|b hk=>exact .b (ih hk)
 |stop h1=>intro k' hk;cases hk with|stop hp hk=>exact .stop (hp _ _ h1)
 |skip _ ih=>intro k' hk;cases hk with|c hk=>exact .skip (ih hk)
 |ret h1 h2=>intro k' hk;cases hk with|c hk=>exact .ret h1 h2
 |exit h1 _ ih=>intro k' hk;cases hk with|c hk=>obtain⟨k1,q1,q2⟩:=hk.ex h1;exact .exit q1 (ih q2)
 |seq _ ih=>intro k' hk;cases hk with|c hk=>exact .seq (ih (.c (.c hk)))
 |block _ ih=>intro k' hk;cases hk with|c hk=>exact .block (ih (.c (.b hk)))
 |cond v h1 _ ih=>intro k' hk;cases hk with|c hk=>exact .cond v h1 (ih (.c hk))
 |ops _ ih=>intro k' hk;cases hk with|c hk=>exact .ops (ih hk)
 |i h1 _ ih=>intro k' hk;cases hk with|c hk=>exact .i h1 (ih (.c hk))
 |gy h1 _ ih=>intro k' hk;cases hk with|c hk=>exact .gy h1 (ih (.c hk))
 |gn h1 _ ih=>intro k' hk;cases hk with|c hk=>exact .gn h1 (ih (.c hk))
 |call Q' sh h1 h2 h3 h4 h5 _ ih=>intro k' hk;cases hk with|c hk=>exact .call Q' sh h1 h2 h3 h4 h5 (fun rs hq=>ih rs hq (.c hk))
 |callp W rs ys h1 h2 h3 h4 h5 h6 h7 h8 h9 h10 h11 _ ih=>intro k' hk;cases hk with|c hk=>exact .callp W rs ys h1 h2 h3 h4 h5 h6 h7 h8 h9 h10 h11 (fun x hx=>ih x hx (.c hk))
 |clv h1 _ ih=>intro k' hk;cases hk with|c hk=>exact .clv h1 (ih (.c hk))
 |loop F S J s0 g0 h1 h2 _ ih=>intro k' hk;cases hk with|c hk=>exact .loop F S J s0 g0 h1 h2 (fun s g hJ=>ih s g hJ (.c (.stop (fun _ _ h=>h) hk)))
def bK (f:UT):List (Nat×U)→UT
 | []=>f
 |(s,v)::r=>bK (UW f s v) r
theorem dS.of_eq {f f':UT} {st st':St} (hf:f=f') (hn:st.nx≤st'.nx) (hs:kR st st'.es):dS f st f' st':=by subst hf;exact dS.sub hn hs
theorem gT {cd:Nat→Option AF} {pd:List (Nat×Nat)} {R:List RV} {Q:List (Bool×List E)→List E→Prop} {k:List VK} {f:UT} {st:St} {ds:List Nat} {b:AC} {σ:Type} (f1:UT) (hf:bS f ds=f1)
 (iG:σ→List (Nat×U)) (es:σ→List (Nat×En)) (J:σ→Nat→Prop) (s0:σ) (g0:Nat) (hu:f1=bK f1 (iG s0)) (hs:kR st (es s0)) (h0:J s0 g0)
 (round:∀s n g,J s g→VX cd pd R Q (.c b:: .stop (fun f' st'=>∃s' g',g' < g∧J s' g'∧bS f' ds=bK f1 (iG s')∧kR st' (es s'))::k) (bK f1 (iG s)) ⟨n,es s⟩):
 VX cd pd R Q (.c (.loop ds b)::k) f st:=by
 refine A0 (σ:=σ×Nat) (fun p=>bK f1 (iG p.1)) (fun p=>⟨p.2,es p.1⟩) (fun p g=>J p.1 g) (s0,st.nx) g0 h0 (dS.of_eq (by rw[hf];exact hu) (Nat.le_refl _) hs) (fun p g hJ=> ?_)
 exact(round p.1 p.2 g hJ).le (.c (.stop (fun f' st' ⟨s',g',h1,h2,h3,h4⟩=>⟨(s',st'.nx),g',h1,h2,dS.of_eq h3 (Nat.le_refl _) h4⟩) (xp.refl k)))
def D8 (k:Nat):List (Nat×En)→List (Nat×En)
 | []=> []
 |(k',e)::r=>if k=k' then D8 k r else(k',e)::D8 k r
def Hl:List (Nat×En)→List (Nat×En)
 | []=> []
 |(k,e)::r=>(k,e)::D8 k (Hl r)
def y9:List (Nat×En)→List (Nat×En)→List (Nat×En)
 |es,[]=>es
 |es,(k,e)::r=>(k,e)::D8 k (y9 es r)
theorem aI {cd:Nat→Option AF} {pd:List (Nat×Nat)} {R:List RV} {Q:List (Bool×List E)→List E→Prop} {k:List VK} {f:UT} {st:St} {ds:List Nat} {b:AC} {σ:Type} (f1:UT) (es0:List (Nat×En)) (hf:bS f ds=f1) (he:Hl st.es=es0)
 (iG:σ→List (Nat×U)) (ue:σ→List (Nat×En)) (J:σ→Nat→Prop) (s0:σ) (g0:Nat) (hu:f1=bK f1 (iG s0)) (hs:kR st (y9 es0 (ue s0))) (h0:J s0 g0)
 (round:∀s n g,J s g→VX cd pd R Q (.c b:: .stop (fun f' st'=>∃s' g',g' < g∧J s' g'∧bS f' ds=bK f1 (iG s')∧kR st' (y9 es0 (ue s')))::k) (bK f1 (iG s)) ⟨n,y9 es0 (ue s)⟩):
 VX cd pd R Q (.c (.loop ds b)::k) f st:=gT f1 hf iG (fun s=>y9 es0 (ue s)) J s0 g0 hu hs h0 round
def bl (b:Bool):List (Bool×List E):= [(false,[.p (.bool b)])]
def it (n:Int):List (Bool×List E):= [(false,[.p (.int .i64 n)])]
abbrev Bytes:=List UInt8
def bytes (x:Bytes):List (List D):=x.map fun b=> [.int .u8 (b.toNat:Int)]
theorem an (x:Bytes):(bytes x).length=x.length:=by simp[bytes]
theorem bD (x y:Bytes):bytes x++bytes y=bytes (x++y):=by simp[bytes]
theorem zb (x:Bytes):flat (bytes x)=true:=by
 induction x with
 |nil=>rfl
 |cons b x ih=>simp only[bytes,List.map_cons,flat,bH,D.leaf]at ih⊢;simpa using ih
theorem pU (x:Bytes):wid 1 (bytes x)=true:=by
 induction x with
 |nil=>rfl
 |cons b x ih=>simp only[bytes,List.map_cons,wid]at ih⊢;simpa using ih
theorem GA {k:Nat} {e:En} {r:List (Nat×En)}:lk k ((k,e)::r)=some e:=by simp[lk]
end Go.Eng
set_option maxRecDepth 100000
namespace Go.Eng
theorem BH (st:St) (e:Nat):pS st e .nils=some ([],st,true):=by simp[pS,St.uo,wid,flat]
theorem VE:(∀(f:UT) (st:St) d x,aQ (.mov d x) f st=(match ru f x with
 | .box _=>none
 | .lsl _ _ _=>none
 | .any=>none
 |v=>some (UW f d v,st)))∧
 (∀(f:UT) (st:St) d c a b,aQ (.pick d c a b) f st=(match dq f c with
     |some (.bool true)=>match oT f a with|some (g,cs)=>some (UW f d (.val g cs),st)|none=>none
     |some (.bool false)=>match oT f b with|some (g,cs)=>some (UW f d (.val g cs),st)|none=>none
     |_=>none))∧
 (∀(f:UT) (st:St) d x,aQ (.lbox d x) f st=(match UF f d with
     | .box _=>none
     |_=>match oT f x with
      |some (_,cs)=>some (UW f d (.box cs),st)
      |none=>none))∧
 (∀(f:UT) (st:St) d cs,aQ (.lal d cs) f st=(match UF f d with
     | .box _=>none
     |_=>match wR cs with
      |some ds=>some (UW f d (.box ds),st)
      |none=>none))∧
 (∀(f:UT) (st:St) d ty x,aQ (.hbox d ty x) f st=(match oT f x with
     |some (_,ds)=>some (UW f d (.val false [.pt d st.nx 0]),st.Bz d ty ds)
     |none=>none))∧
 (∀(f:UT) (st:St) d ty cs,aQ (.hal d ty cs) f st=(match wR cs with
     |some ds=>some (UW f d (.val false [.pt d st.nx 0]),st.Bz d ty ds)
     |none=>none))∧
 (∀(f:UT) (st:St) d z ps,aQ (.bld d z ps) f st=(match wR z with
     |some z=>match gZ f z ps with
      |some ds=>some (UW f d (.val true ds),st)
      |none=>none
     |none=>none))∧
 (∀(f:UT) (st:St) d ty esz len z ps,aQ (.bsl d ty esz len z ps) f st=(match wR z with
     |some z=>match gZ f ((List.replicate len z).flatten) ps with
      |some ds=>match st.za ds with
       |some (ds',st',b)=>if ds'.length=len * esz then some (UW f d (.val false [.ow d st'.nx]),st'.news d true b (some (ty,esz)) (chunks esz len ds'))else none
       |none=>none
      |none=>none
     |none=>none))∧
 (∀(f:UT) (st:St) d,aQ (.bse d) f st=(some (UW f d (.val false [.ow d st.nx]),st.news d true true none [])))∧
 (∀(f:UT) (st:St) d esz len z ps,aQ (.lsl d esz len z ps) f st=(match wR z with
     |some z=>match gZ f ((List.replicate len z).flatten) ps with
      |some ds=>some (UW f d (.lsl ds len esz),st)
      |none=>none
     |none=>none))∧
 (∀(f:UT) (st:St) d x off,aQ (.fad d x off) f st=(match ru f x with
     | .lref r o=>some (UW f d (.lref r (o+off)),st)
     | .val false [.pt k v o]=>match st.ptr k v with
       |some _=>some (UW f d (.val false [.pt k v (o+off)]),st)
       |none=>none
     | .val false [.pe x o]=>some (UW f d (.val false [.pe x (o+off)]),st)
     | .val false [.px k v j o]=>match st.ee k v with
       |some (true,_)=>some (UW f d (.val false [.px k v j (o+off)]),st)
       |_=>none
     |_=>none))∧
 (∀(f:UT) (st:St) d x i esz,aQ (.iad d x i esz) f st=(match dq f x,dq f i with
     |some c,some (.int _ j)=>if 0≤j then(match c with
      | .sl xs=>match xs[j.toNat]? with
        |some x=>if x.length=esz then some (UW f d (.val false [.pe x 0]),st)else none
        |none=>none
      | .ow k v=>match st.ee k v with
        |some (o,_,_,xs)=>match xs[j.toNat]? with
         |some x=>if x.length=esz then some (UW f d (.val false [if o then .px k v j.toNat 0 else .pe x 0]),st)else none
         |none=>none
        |none=>none
      | .sa k v o n e=>match st.ptr k v with
        |some _=>if e=esz∧j < (n:Int)then some (UW f d (.val false [.pt k v (o+j.toNat * esz)]),st)else none
        |none=>none
      |_=>none)else none
     |_,_=>none))∧
 (∀(f:UT) (st:St) d x i esz len,aQ (.iaa d x i esz len) f st=(match dq f i with
     |some (.int _ j)=>
      if 0≤j∧j < (len:Int)then match ru f x with
       | .lref r o=>some (UW f d (.lref r (o+j.toNat * esz)),st)
       | .val false [.pt k v o]=>match st.ptr k v with
         |some _=>some (UW f d (.val false [.pt k v (o+j.toNat * esz)]),st)
         |none=>none
       |_=>none
      else none
     |_=>none))∧
 (∀(f:UT) (st:St) d r x n g,aQ (.ldl d r x n g) f st=(match ru f x with
     | .lref r' o=>match UF f r with
       | .box ds=>if r'=r∧o+n≤ds.length then some (UW f d (.val g ((ds.drop o).take n)),st)else none
       |_=>none
     |_=>none))∧
 (∀(f:UT) (st:St) d x n g,aQ (.ldh d x n g) f st=(match dq f x with
     |some (.pt k v o)=>match st.ptr k v with
      |some (_,ds)=>if o+n≤ds.length then some (UW f d (.val g ((ds.drop o).take n)),st)else none
      |none=>none
     |some (.pe x o)=>if o+n≤x.length then some (UW f d (.val g ((x.drop o).take n)),st)else none
     |some (.px k v j o)=>match st.ee k v with
      |some (true,_,_,xs)=>match xs[j]? with
       |some x=>if o+n≤x.length then some (UW f d (.val g ((x.drop o).take n)),st)else none
       |none=>none
      |_=>none
     |_=>none))∧
 (∀(f:UT) (st:St) r x v n,aQ (.stl r x v n) f st=(match ru f x,oT f v with
     | .lref r' o,some (_,vs)=>match UF f r with
       | .box ds=>if r'=r∧vs.length=n∧o+n≤ds.length then some (UW f r (.box (aE ds o vs)),st)else none
       |_=>none
     |_,_=>none))∧
 (∀(f:UT) (st:St) x v n,aQ (.sth x v n) f st=(match dq f x,oT f v with
     |some (.pt k w o),some (_,vs)=>match st.ptr k w with
      |some (ty,ds)=>if vs.length=n∧o+n≤ds.length then some (f,st.put k (.pt w ty (aE ds o vs)))else none
      |none=>none
     |some (.px k w j o),some (_,vs)=>match st.za vs with
      |some (vs',st',b)=>match st'.ee k w with
       |some (true,dp,t,xs)=>match xs[j]? with
        |some x=>if vs.length=n∧o+n≤x.length then some (f,st'.put k (.sl w true (dp && bH vs && bH x) t (xs.set j (aE x o vs'))))else none
        |none=>none
       |_=>none
      |none=>none
     |_,_=>none))∧
 (∀(f:UT) (st:St) d op x y,aQ (.bin d op x y) f st=(match dq f x,dq f y with
     |some a,some b=>match Fo op a b with
      |some c=>some (UW f d (.val false [c]),st)
      |none=>none
     |_,_=>none))∧
 (∀(f:UT) (st:St) d neg x y,aQ (.beq d neg x y) f st=(match dq f x,dq f y with
     |some (.bool a),some (.bool b)=>some (UW f d (.val false [.bool (if neg then !(a==b)else(a==b))]),st)
     |_,_=>none))∧
 (∀(f:UT) (st:St) d neg x,aQ (.snil d neg x) f st=(match dq f x with
     |some .nils=>some (UW f d (.val false [.bool (!neg)]),st)
     |some c=>match st.uo c with
      |some xs=>if xs.isEmpty then none else some (UW f d (.val false [.bool neg]),st)
      |none=>none
     |_=>none))∧
 (∀(f:UT) (st:St) d n neg x y,aQ (.geq d n neg x y) f st=(match oT f x,oT f y with
     |some (true,a),some (true,b)=>if a.length=n then(match CO a,CO b with
      |some a,some b=>match pw a b with
       |some r=>some (UW f d (.val false [.bool (if neg then !r else r)]),st)
       |none=>none
      |_,_=>none)else none
     |_,_=>none))∧
 (∀(f:UT) (st:St) d x,aQ (.neg d x) f st=(match dq f x with
     |some (.int k n)=>some (UW f d (.val false [.int k (k.wrap (0 - n))]),st)
     |_=>none))∧
 (∀(f:UT) (st:St) d x,aQ (.not d x) f st=(match dq f x with
     |some (.bool b)=>some (UW f d (.val false [.bool (!b)]),st)
     |_=>none))∧
 (∀(f:UT) (st:St) d k x,aQ (.cvi d k x) f st=(match dq f x with
     |some (.int _ n)=>some (UW f d (.val false [.int k (k.wrap n)]),st)
     |_=>none))∧
 (∀(f:UT) (st:St) d x,aQ (.cbs d x) f st=(match dq f x with
     |some c=>match st.uo c with
      |some xs=>match rf xs with
       |some b=>some (UW f d (.val false [.str b]),st)
       |none=>none
      |none=>none
     |none=>none))∧
 (∀(f:UT) (st:St) d ty esz bytes z x,aQ (.mks d ty esz bytes z x) f st=(match dq f x with
     |some (.int .i64 n)=>match EJ z with
      |some z'=>if 0≤n∧cM (n.toNat * bytes+n.toNat)=true∧z'.length=esz then
        some (UW f d (.val false [.ow d st.nx]),st.news d true true (some (ty,esz)) (List.replicate n.toNat z'))else none
      |none=>none
     |_=>none))∧
 (∀(f:UT) (st:St) d esz x lo hi,aQ (.ee d esz x lo hi) f st=(match dq f x with
     |some .nils=>match bL f lo 0,bL f hi 0 with
      |some l,some u=>if l=0∧u=0 then some (UW f d (.val false [.nils]),st)else none
      |_,_=>none
     |some (.sl xs)=>match bL f lo 0,bL f hi xs.length with
      |some l,some u=>if wid esz xs=true∧0≤l∧l≤u∧u≤(xs.length:Int)then some (UW f d (.val false [.sl ((xs.drop l.toNat).take (u - l).toNat)]),st)else none
      |_,_=>none
     |some (.ow k v)=>match st.ee k v with
      |some (_,_,t,xs)=>match bL f lo 0,bL f hi xs.length with
       |some l,some u=>if wid esz xs=true∧0≤l∧l≤u∧u≤(xs.length:Int)then
         some (UW f d (.val false [.sl ((xs.drop l.toNat).take (u - l).toNat)]),st.put k (.sl v false false t xs))else none
       |_,_=>none
      |none=>none
     |some (.sa k v o n e)=>match st.ptr k v with
      |some _=>match bL f lo 0,bL f hi n with
       |some l,some u=>if e=esz∧0≤l∧l≤u∧u≤(n:Int)then some (UW f d (.val false [.sa k v (o+l.toNat * e) (u - l).toNat e]),st)else none
       |_,_=>none
      |none=>none
     |_=>none))∧
 (∀(f:UT) (st:St) d x lo hi,aQ (.sls d x lo hi) f st=(match dq f x with
     |some (.str s)=>match bL f lo 0,bL f hi s.size with
      |some l,some u=>if 0≤l∧l≤u∧u≤(s.size:Int)then some (UW f d (.val false [.str (s.extract l.toNat u.toNat)]),st)else none
      |_,_=>none
     |_=>none))∧
 (∀(f:UT) (st:St) d x len esz,aQ (.sla d x len esz) f st=(match dq f x with
     |some (.pt k v o)=>match st.ptr k v with
      |some (_,ds)=>if o+len * esz≤ds.length then some (UW f d (.val false [.sa k v o len esz]),st)else none
      |none=>none
     |_=>none))∧
 (∀(f:UT) (st:St) d x off n g,aQ (.fld d x off n g) f st=(match oT f x with
     |some (true,ds)=>if off+n≤ds.length then some (UW f d (.val g ((ds.drop off).take n)),st)else none
     |_=>none))∧
 (∀(f:UT) (st:St) d x i esz len g,aQ (.idx d x i esz len g) f st=(match oT f x,dq f i with
     |some (true,ds),some (.int _ j)=>
      if 0≤j∧j < (len:Int)∧j.toNat * esz+esz≤ds.length then some (UW f d (.val g ((ds.drop (j.toNat * esz)).take esz)),st)else none
     |_,_=>none))∧
 (∀(f:UT) (st:St) d x i,aQ (.ids d x i) f st=(match dq f x,dq f i with
     |some (.str s),some (.int _ j)=>
      if 0≤j then match s.data.toList[j.toNat]? with
       |some b=>some (UW f d (.val false [.int .u8 (b.toNat:Int)]),st)
       |none=>none
      else none
     |_,_=>none))∧
 (∀(f:UT) (st:St) d x i,aQ (.ext d x i) f st=(match ru f x with
     | .tup vs=>match vs[i]? with
       |some (g,ds)=>some (UW f d (.val g ds),st)
       |none=>none
     |_=>none))∧
 (∀(f:UT) (st:St) d x,aQ (.nch d x) f st=(match ru f x with
     | .lref r o=>some (UW f d (.lref r o),st)
     | .val false [.pt k v o]=>match st.ptr k v with
       |some _=>some (UW f d (.val false [.pt k v o]),st)
       |none=>none
     | .val false [.pe x o]=>some (UW f d (.val false [.pe x o]),st)
     | .val false [.px k v j o]=>match st.ee k v with
       |some (true,_)=>some (UW f d (.val false [.px k v j o]),st)
       |_=>none
     | .val false [.fn g]=>some (UW f d (.val false [.fn g]),st)
     |_=>none))∧
 (∀(f:UT) (st:St) d s x,aQ (.len d s x) f st=(match s,dq f x with
     |false,some c=>match st.uo c with
      |some xs=>some (UW f d (.val false [.int .i64 (xs.length:Int)]),st)
      |none=>none
     |true,some (.str s)=>some (UW f d (.val false [.int .i64 (s.size:Int)]),st)
     |_,_=>none))∧
 (∀(f:UT) (st:St) d ty esz bytes x y,aQ (.app d ty esz bytes x y) f st=(match dq f x,pE f st esz y with
     |some a,some (ys,st',b)=>match a with
      | .nils=>if cM (ys.length * bytes+ys.length)=true then some (UW f d (.val false [.ow d st'.nx]),st'.news d true b (some (ty,esz)) ys)else none
      | .ow k v=>match st'.ee k v with
        |some (true,dp,t,xs)=>if DX t ty esz=true∧cM ((xs.length+ys.length) * bytes+(xs.length+ys.length))=true then
          some (UW f d (.val false [.ow k st'.nx]),st'.news k true (dp && b) (some (ty,esz)) (xs++ys))else none
        |_=>none
      |_=>none
     |_,_=>none))∧
 (∀(f:UT) (st:St) d esz x y,aQ (.cpy d esz x y) f st=(match dq f x,pE f st esz y with
     |some (.ow k v),some (ys,_,_)=>match st.ee k v with
      |some (true,dp,t,xs)=>if flat ys=true∧flat xs=true∧xs.isEmpty=false∧wid esz xs=true∧wid esz ys=true then
        some (UW f d (.val false [.int .i64 ((min ys.length xs.length:Nat):Int)]),st.put k (.sl v true dp t (ys.take (min ys.length xs.length)++xs.drop (min ys.length xs.length))))else none
      |_=>none
     |some (.sa k v o n e),some (ys,_,_)=>match st.ptr k v with
      |some (ty,ds)=>if flat ys=true∧e=esz∧wid esz ys=true∧o+n * e≤ds.length then
        some (UW f d (.val false [.int .i64 ((min ys.length n:Nat):Int)]),st.put k (.pt v ty (aE ds o (ys.take (min ys.length n)).flatten)))else none
      |none=>none
     |_,_=>none))∧
 (∀(f:UT) (st:St) d mx x y,aQ (.mm d mx x y) f st=(match dq f x,dq f y with
     |some (.int .i64 a),some (.int .i64 b)=>some (UW f d (.val false [.int .i64 (if mx then(if a < b then b else a)else(if b < a then b else a))]),st)
     |_,_=>none))∧
 (∀f s,UF f s=UT.get f (K.of s))∧
 (∀f s v,UW f s v=UT.set f (K.of s) v)∧
 (∀k,UT.get .leaf k= .any)∧
 (∀l v r,UT.get (.node l v r) .z=v)∧
 (∀l v r k,UT.get (.node l v r) (.o k)=l.get k)∧
 (∀l v r k,UT.get (.node l v r) (.i k)=r.get k)∧
 (∀v,UT.set .leaf .z v= .node .leaf v .leaf)∧
 (∀k v,UT.set .leaf (.o k) v= .node (UT.set .leaf k v) .any .leaf)∧
 (∀k v,UT.set .leaf (.i k) v= .node .leaf .any (UT.set .leaf k v))∧
 (∀l u r v,UT.set (.node l u r) .z v= .node l v r)∧
 (∀l u r k v,UT.set (.node l u r) (.o k) v= .node (l.set k v) u r)∧
 (∀l u r k v,UT.set (.node l u r) (.i k) v= .node l u (r.set k v))∧
 (UT.full 0= .leaf)∧
 (UT.full 1= .node .leaf .any .leaf)∧
 (∀d,UT.full (d+1)= .node (UT.full d) .any (UT.full d))∧
 (∀f n,kL f n []=f)∧
 (∀f n g ds r,kL f n ((g,ds)::r)=kL (UW f n (.val g ds)) (n+1) r)∧
 (∀f d u,nY f d u=(match d with|0=>f|d+1=>UW f d u))∧
 (∀f,bS f []=f)∧
 (∀f d ds,bS f (d::ds)=bS (UW f d .any) ds)∧
 (∀f v,ru f (.c v)=cU v)∧
 (∀f t,ru f (.s t)=(match UF f t with| .box _=> .lref t 0|v=>v))∧
 (∀g cs,cU (.val g cs)=(match wR cs with|some ds=> .val g ds|none=> .any))∧
 (∀f x,oT f x=(match ru f x with| .val g ds=>some (g,ds)|_=>none))∧
 (∀f x,dq f x=(match ru f x with| .val false [d]=>some d|_=>none))∧
 (∀f ds,gZ f ds []=some ds)∧
 (∀f ds off sz x r,gZ f ds ((off,sz,x)::r)=(match oT f x with|some (_,vs)=>if vs.length=sz∧off+sz≤ds.length then gZ f (aE ds off vs) r else none|none=>none))∧
 (∀k n,cD (.int k n)=some (.int k n))∧
 (∀b,cD (.bool b)=some (.bool b))∧
 (∀s,cD (.str s)=some (.str s))∧
 (∀g,cD (.fn g)=some (.fn g))∧
 (∀k n,dC (.int k n)=some (.int k n))∧
 (∀b,dC (.bool b)=some (.bool b))∧
 (∀s,dC (.str s)=some (.str s))∧
 (∀g,dC (.fn g)=some (.fn g))∧
 (cD .nilf=some .nilf)∧
 (cD .nili=some .nili)∧
 (cD .nilp=some .nilp)∧
 (cD .nils=some .nils)∧
 (cD .emp=some (.sl []))∧
 (wR []=some [])∧
 (∀c cs,wR (c::cs)=(match cD c,wR cs with|some d,some ds=>some (d::ds)|_,_=>none))∧
 (∀k n,zD (.int k n)=some (.int k n))∧
 (∀b,zD (.bool b)=some (.bool b))∧
 (∀s,zD (.str s)=some (.str s))∧
 (zD .nils=some (.sl []))∧
 (zD .nilf=some .nilf)∧
 (EJ []=some [])∧
 (∀c cs,EJ (c::cs)=(match zD c,EJ cs with|some d,some ds=>some (d::ds)|_,_=>none))∧
 (∀f s w,gu f s w=(match UF f s with| .tup []=>some (.bool (!w))|_=>dq f (.s s)))∧
 (pw [] []=some true)∧
 (∀x xs y ys,pw (x::xs) (y::ys)=(match H6 x y,pw xs ys with|some a,some b=>some (a && b)|_,_=>none))∧
 (∀k a k' b,H6 (.int k a) (.int k' b)=(if k=k' then some (a==b)else none))∧
 (CO []=some [])∧
 (∀c cs,CO (c::cs)=(match dC c,CO cs with|some d,some ds=>some (d::ds)|_,_=>none))∧
 (∀k n,D.leaf (.int k n)=true)∧
 (∀b,D.leaf (.bool b)=true)∧
 (∀s,D.leaf (.str s)=true)∧
 (∀g,D.leaf (.fn g)=true)∧
 (D.leaf .nilf=true)∧
 (D.leaf .nili=true)∧
 (∀xs,D.leaf (.sl xs)=false)∧
 (D.leaf .nils=false)∧
 (∀k v,D.leaf (.ow k v)=false)∧
 (bH []=true)∧
 (∀d ds,bH (d::ds)=(d.leaf && bH ds))∧
 (flat []=true)∧
 (∀x xs,flat (x::xs)=(bH x && flat xs))∧
 (∀e,wid e []=true)∧
 (∀e x xs,wid e (x::xs)=((x.length==e) && wid e xs))∧
 (∀e ds,chunks e 0 ds= [])∧
 (∀e n ds,chunks e (n+1) ds=ds.take e::chunks e n (ds.drop e))∧
 (∀st k v,St.ee st k v=(match lk k st.es with|some (.sl v' o d t xs)=>if v'=v then some (o,d,t,xs)else none|_=>none))∧
 (∀st k v,St.ptr st k v=(match lk k st.es with|some (.pt v' ty ds)=>if v'=v then some (ty,ds)else none|_=>none))∧
 (∀st k e,St.put st k e=⟨st.nx,(k,e)::st.es⟩)∧
 (∀st k own deep ty xs,St.news st k own deep ty xs=⟨st.nx+1,(k, .sl st.nx own deep ty xs)::st.es⟩)∧
 (∀st k ty ds,St.Bz st k ty ds=⟨st.nx+1,(k, .pt st.nx ty ds)::st.es⟩)∧
 (∀k,lk k []=none)∧
 (∀k k1 e r,lk k ((k1,e)::r)=if k=k1 then some e else lk k r)∧
 (∀st,St.dp st .nils=some (.sl [],st,true))∧
 (∀st xs,St.dp st (.sl xs)=some (.sl xs,st,false))∧
 (∀st k v,St.dp st (.ow k v)=(match st.ee k v with|some (o,d,t,xs)=>some (.sl xs,st.put k (.sl v false false t xs),o && d)|none=>none))∧
 (∀st k n,St.dp st (.int k n)=some (.int k n,st,true))∧
 (∀st b,St.dp st (.bool b)=some (.bool b,st,true))∧
 (∀st s,St.dp st (.str s)=some (.str s,st,true))∧
 (∀st g,St.dp st (.fn g)=some (.fn g,st,true))∧
 (∀st,St.za st []=some ([],st,true))∧
 (∀st d ds,St.za st (d::ds)=(match st.dp d with|some (d',st',b)=>(match st'.za ds with|some (ds',st'',b')=>some (d'::ds',st'',b && b')|none=>none)|none=>none))∧
 (∀st,St.uo st .nils=some [])∧
 (∀st xs,St.uo st (.sl xs)=some xs)∧
 (∀st k v,St.uo st (.ow k v)=(match st.ee k v with|some (_,_,_,xs)=>some xs|none=>none))∧
 (∀st k v o n e,St.uo st (.sa k v o n e)=(match st.ptr k v with|some (_,ds)=>if o+n * e≤ds.length∧bH ((ds.drop o).take (n * e))=true then some (chunks e n ((ds.drop o).take (n * e)))else none|none=>none))∧
 (∀f n,bL f none n=some (n:Int))∧
 (∀f x n,bL f (some x) n=(match dq f x with|some (.int _ i)=>some i|_=>none))∧
 (∀st e s,pS st e (.str s)=if e=1 then some (DY s,st,true)else none)∧
 (∀st e,pS st e .nils=some ([],st,true))∧
 (∀st e xs,pS st e (.sl xs)=if wid e xs=true then(if flat xs=true then some (xs,st,true)else some (xs,st,false))else none)∧
 (∀st e k v,pS st e (.ow k v)=(match St.uo st (.ow k v)with|some ys=>if wid e ys=true then(if flat ys=true then some (ys,st,true)else(match st.ee k v with|some (o,dp,t,xs)=>some (ys,st.put k (.sl v o false t xs),o && dp)|none=>none))else none|none=>none))∧
 (∀f st e t,pE f st e (.s t)=(match UF f t with| .lsl ds n e'=>if e'=e∧ds.length=n * e then(match st.za ds with|some (ds',st',b)=>some (chunks e n ds',st',b)|none=>none)else none| .val false [d]=>pS st e d|_=>none))∧
 (∀f st e c,pE f st e (.c (.val false [c]))=(match cD c with|some d=>pS st e d|none=>none))∧
 (∀op x y,Fo op x y=(match dC x,dC y with|some a,some b=>(match bc op a b with|some c=>cD c|none=>none)|_,_=>none))∧
 (∀ty e,DX none ty e=true)∧
 (∀p ty e,DX (some p) ty e=decide (p=(ty,e)))∧
 (∀f st R pd,uf f st R pd=(match nT f R with|some ds=>(match eg st ds []with|some (rs,us)=>(match ct st (yt pd) us with|some (ps,_)=>some (rs,ps)|none=>none)|none=>none)|none=>none))∧
 (∀f t,yc f (.tmp t)=oT f (.s t))∧
 (∀f s n g,yc f (.cell s n g)=(match UF f s with| .box ds=>if n=ds.length then some (g,ds)else none|_=>none))∧
 (∀f,nT f []=some [])∧
 (∀f r rs,nT f (r::rs)=(match yc f r,nT f rs with|some v,some vs=>some (v::vs)|_,_=>none))∧
 (yt []= [])∧
 (∀p r,yt (p::r)= .pt p.1 p.2 0::yt r)∧
 (∀st us,eg st [] us=some ([],us))∧
 (∀st g ds r us,eg st ((g,ds)::r) us=(match ct st ds us with|some (es,us')=>(match eg st r us' with|some (rs,us'')=>some ((g,es)::rs,us'')|none=>none)|none=>none))∧
 (∀st us,ct st [] us=some ([],us))∧
 (∀st k v o r us,ct st (.pt k v o::r) us=(match st.ptr k v with|some (ty,ds)=>if us.elem k||o !=0 then none else(match bT st ds (k::us)with|some (xs,us')=>(match ct st r us' with|some (es,us'')=>some (.pt ty xs::es,us'')|none=>none)|none=>none)|none=>none))∧
 (∀st k n r us,ct st (.int k n::r) us=(match ct st r us with|some (es,us'')=>some (.e (.p (.int k n))::es,us'')|none=>none))∧
 (∀st k n r us,bT st (.int k n::r) us=(match bT st r us with|some (es,us'')=>some (.p (.int k n)::es,us'')|none=>none))∧
 (∀st b r us,ct st (.bool b::r) us=(match ct st r us with|some (es,us'')=>some (.e (.p (.bool b))::es,us'')|none=>none))∧
 (∀st b r us,bT st (.bool b::r) us=(match bT st r us with|some (es,us'')=>some (.p (.bool b)::es,us'')|none=>none))∧
 (∀st s r us,ct st (.str s::r) us=(match ct st r us with|some (es,us'')=>some (.e (.p (.str s))::es,us'')|none=>none))∧
 (∀st s r us,bT st (.str s::r) us=(match bT st r us with|some (es,us'')=>some (.p (.str s)::es,us'')|none=>none))∧
 (∀st g r us,ct st (.fn g::r) us=(match ct st r us with|some (es,us'')=>some (.e (.p (.fn g))::es,us'')|none=>none))∧
 (∀st g r us,bT st (.fn g::r) us=(match bT st r us with|some (es,us'')=>some (.p (.fn g)::es,us'')|none=>none))∧
 (∀st xs r us,ct st (.sl xs::r) us=(match ct st r us with|some (es,us'')=>some (.e (.p (.sl xs))::es,us'')|none=>none))∧
 (∀st xs r us,bT st (.sl xs::r) us=(match bT st r us with|some (es,us'')=>some (.p (.sl xs)::es,us'')|none=>none))∧
 (∀st r us,ct st (.nilf::r) us=(match ct st r us with|some (es,us'')=>some (.e (.p (.nilf))::es,us'')|none=>none))∧
 (∀st r us,bT st (.nilf::r) us=(match bT st r us with|some (es,us'')=>some (.p (.nilf)::es,us'')|none=>none))∧
 (∀st r us,ct st (.nili::r) us=(match ct st r us with|some (es,us'')=>some (.e (.p (.nili))::es,us'')|none=>none))∧
 (∀st r us,bT st (.nili::r) us=(match bT st r us with|some (es,us'')=>some (.p (.nili)::es,us'')|none=>none))∧
 (∀st r us,ct st (.nilp::r) us=(match ct st r us with|some (es,us'')=>some (.e (.p (.nilp))::es,us'')|none=>none))∧
 (∀st r us,bT st (.nilp::r) us=(match bT st r us with|some (es,us'')=>some (.p (.nilp)::es,us'')|none=>none))∧
 (∀st r us,ct st (.nils::r) us=(match ct st r us with|some (es,us'')=>some (.e (.p (.nils))::es,us'')|none=>none))∧
 (∀st r us,bT st (.nils::r) us=(match bT st r us with|some (es,us'')=>some (.p (.nils)::es,us'')|none=>none))∧
 (∀st k v r us,ct st (.ow k v::r) us=(match bT st [.ow k v] us with|some ([x],us')=>(match ct st r us' with|some (es,us'')=>some (.e x::es,us'')|none=>none)|_=>none))∧
 (∀st us,bT st [] us=some ([],us))∧
 (∀st k v r us,bT st (.ow k v::r) us=(match st.ee k v with|some (true,dp,t,xs)=>if us.elem k then none else(match bT st r (k::us)with|some (es,us')=>some (.o dp t xs::es,us')|none=>none)|some (false,_,_,xs)=>(match bT st r us with|some (es,us')=>some (.p (.sl xs)::es,us')|none=>none)|none=>none))∧
 (∀id i k,sN id (.b i::k)=if id=i then some k else sN id k)∧
 (∀id a k,sN id (.c a::k)=sN id k)∧
 (∀id P k,sN id (.stop P::k)=sN id k)∧
 (dc []=0)∧
 (∀x r,dc (.e x::r)=1+dc r)∧
 (∀t xs r,dc (.pt t xs::r)=1+xs.length+dc r)∧
 (cz []=0)∧
 (∀g es r,cz ((g,es)::r)=dc es+cz r)∧
 (bf []= [])∧
 (∀g ds r,bf ((g,ds)::r)=(g,ds.map E.p)::bf r)∧
 (∀f,im f []=some [])∧
 (∀f x xs,im f (x::xs)=(match oT f x,im f xs with|some v,some vs=>some (v::vs)|_,_=>none))∧
 (∀st,mj st .nils=some (.sl []))∧
 (∀st k v,mj st (.ow k v)=(match st.ee k v with|some (_,_,_,xs)=>some (.sl xs)|none=>none))∧
 (∀st k n,mj st (.int k n)=some (.int k n))∧
 (∀st b,mj st (.bool b)=some (.bool b))∧
 (∀st s,mj st (.str s)=some (.str s))∧
 (∀st g,mj st (.fn g)=some (.fn g))∧
 (∀st xs,mj st (.sl xs)=some (.sl xs))∧
 (∀st,mj st (.nilf)=some (.nilf))∧
 (∀st,mj st (.nili)=some (.nili))∧
 (∀st k v o n e,mj st (.sa k v o n e)=(match st.uo (.sa k v o n e)with|some xs=>some (.sl xs)|none=>none))∧
 (∀st,i4 st []=some [])∧
 (∀st d ds,i4 st (d::ds)=(match mj st d,i4 st ds with|some a,some r=>some (a::r)|_,_=>none))∧
 (∀st,ey st []=some [])∧
 (∀st g ds r,ey st ((g,ds)::r)=(match i4 st ds,ey st r with|some a,some b=>some ((g,a)::b)|_,_=>none))∧
 (∀st k v,gX st (.ow k v)=(match st.ee k v with|some (_,_,t,xs)=>st.put k (.sl v false false t xs)|none=>st))∧
 (∀st k n,gX st (.int k n)=st)∧
 (∀st k n,B9 st (.int k n)=true)∧
 (∀st b,gX st (.bool b)=st)∧
 (∀st b,B9 st (.bool b)=true)∧
 (∀st s,gX st (.str s)=st)∧
 (∀st s,B9 st (.str s)=true)∧
 (∀st g,gX st (.fn g)=st)∧
 (∀st g,B9 st (.fn g)=true)∧
 (∀st xs,gX st (.sl xs)=st)∧
 (∀st xs,B9 st (.sl xs)=true)∧
 (∀st,gX st (.nils)=st)∧
 (∀st,B9 st (.nils)=true)∧
 (∀st k v,B9 st (.ow k v)=(match st.ee k v with|some (false,_)=>true|_=>false))∧
 (∀st,qx st []=st)∧
 (∀st d ds,qx st (d::ds)=qx (gX st d) ds)∧
 (∀st,bC st []=st)∧
 (∀st g ds r,bC st ((g,ds)::r)=bC (qx st ds) r)∧
 (∀st,wI st []=true)∧
 (∀st d ds,wI st (d::ds)=(B9 st d && wI st ds))∧
 (∀st,Ca st []=true)∧
 (∀st g ds r,Ca st ((g,ds)::r)=(wI st ds && Ca st r))∧
 (∀f st d rs,mi f st d rs=nY f d (Bq (aZ (cF d) st.nx rs).1))∧
 (∀st d rs,iQ st d rs=⟨st.nx+cz rs,(aZ (cF d) st.nx rs).2++st.es⟩)∧
 (∀g d,Bq [(g,d)]= .val g d)∧
 (Bq []= .tup [])∧
 (∀a b l,Bq (a::b::l)= .tup (a::b::l))∧
 (∀d,cF d=8192 * (d+1))∧
 (∀k v,aZ k v []=([],[]))∧
 (∀k v g es r,aZ k v ((g,es)::r)=((g,(ba k v es).1)::(aZ (k+dc es) (v+dc es) r).1,(ba k v es).2++(aZ (k+dc es) (v+dc es) r).2))∧
 (∀k v,ba k v []=([],[]))∧
 (∀k v d r,ba k v (.e (.p d)::r)=(d::(ba (k+1) (v+1) r).1,(ba (k+1) (v+1) r).2))∧
 (∀k v dp t xs r,ba k v (.e (.o dp t xs)::r)=(.ow k v::(ba (k+1) (v+1) r).1,(k, .sl v true dp t xs)::(ba (k+1) (v+1) r).2))∧
 (∀x,E.p x= .e (.p x))∧
 (∀a b c,E.o a b c= .e (.o a b c))∧
 (∀A B,Ea (some (.bool true)) A B=A)∧
 (∀A B,Ea (some (.bool false)) A B=B)∧
 (∀(Q:List (Bool×List E)→List E→Prop) rs ps,It (some (rs,ps)) Q=Q rs ps)∧
 (∀f,bK f []=f)∧
 (∀f s v r,bK f ((s,v)::r)=bK (UW f s v) r)∧
 (∀st,kR st []=True)∧
 (∀st k e r,kR st ((k,e)::r)=((match lk k st.es with|some e0=>xV e0 e|none=>False)∧kR st r))∧
 (∀v o dp t xs v' o' dp' t' xs',xV (.sl v o dp t xs) (.sl v' o' dp' t' xs')=(v'=v∧xs'=xs∧((o'=o∧dp'=dp∧t'=t)∨(o=true∧o'=true∧xs= []∧t=none))))∧
 (∀v ty ds v' ty' ds',xV (.pt v ty ds) (.pt v' ty' ds')=(v'=v∧ty'=ty∧ds'=ds))∧
 (∀(cs:List D) o,aE cs o []=cs)∧
 (∀(cs:List D) o v vs,aE cs o (v::vs)=aE (cs.set o v) (o+1) vs)∧
 (∀k,D8 k []= [])∧
 (∀k k1 e r,D8 k ((k1,e)::r)=if k=k1 then D8 k r else(k1,e)::D8 k r)∧
 (Hl []= [])∧
 (∀k e r,Hl ((k,e)::r)=(k,e)::D8 k (Hl r))∧
 (∀es,y9 es []=es)∧
 (∀es k e r,y9 es ((k,e)::r)=(k,e)::D8 k (y9 es r)):=by
 (repeat' apply And.intro) <;>intros <;>first|rfl|exact BH _ _|(simp only[yt,List.map_cons];done)|(rename_i t xs r;simp[dc])
theorem IY {cd:Nat→Option AF} {pd:List (Nat×Nat)} {R:List RV} {Q:List (Bool×List E)→List E→Prop}:
 (∀f st,VX cd pd R Q [] f st=It (uf f st R pd) Q)∧(∀i k f st,VX cd pd R Q (.b i::k) f st=VX cd pd R Q k f st)∧(∀P k f st,VX cd pd R Q (.stop P::k) f st=P f st)∧(∀k f st,VX cd pd R Q (.c .skip::k) f st=VX cd pd R Q k f st)∧
 (∀k f st,VX cd pd R Q (.c .ret::k) f st=It (uf f st R pd) Q)∧(∀id k f st,VX cd pd R Q (.c (.exit id)::k) f st=I2 cd pd R Q (sN id k) f st)∧(∀a b k f st,VX cd pd R Q (.c (.seq a b)::k) f st=VX cd pd R Q (.c a:: .c b::k) f st)∧
 (∀id b k f st,VX cd pd R Q (.c (.block id b)::k) f st=VX cd pd R Q (.c b:: .b id::k) f st)∧(∀x a c k f st,VX cd pd R Q (.c (.cond x a c)::k) f st=Bu cd pd R Q (dq f x) (.c a::k) f (.c c::k) f st)∧
 (∀k f st,VX cd pd R Q (.c (.ops [])::k) f st=VX cd pd R Q k f st)∧(∀s d a l k f st,VX cd pd R Q (.c (.ops (.g s true d a::l))::k) f st=Bu cd pd R Q (gu f s true) (.c (.ops (.i a::l))::k) f (.c (.ops l)::k) (nY f d (.tup [])) st)∧
 (∀s d a l k f st,VX cd pd R Q (.c (.ops (.g s false d a::l))::k) f st=Bu cd pd R Q (gu f s false) (.c (.ops l)::k) (nY f d (.tup [])) (.c (.ops (.i a::l))::k) f st)∧
 (∀f st l k,iB cd pd R Q (some (f,st)) l k=VX cd pd R Q (.c (.ops l)::k) f st)∧(∀kt ft kf ff st,Bu cd pd R Q (some (.bool true)) kt ft kf ff st=VX cd pd R Q kt ft st)∧(∀kt ft kf ff st,Bu cd pd R Q (some (.bool false)) kt ft kf ff st=VX cd pd R Q kf ff st)∧(∀b kt ft kf ff st,Bu cd pd R Q (some (.bool (!b))) kt ft kf ff st=Bu cd pd R Q (some (.bool b)) kf ff kt ft st)∧(∀d g q xs l k f st,VX cd pd R Q (.c (.ops (.i (.call d g q xs)::l))::k) f st=FZ cd pd R Q d g q l k f st (im f xs))∧(∀d q x xs l k f st,VX cd pd R Q (.c (.ops (.i (.clv d q x xs)::l))::k) f st=IG cd pd R Q d q xs l k f st (dq f x))∧(∀d q xs l k f st g,IG cd pd R Q d q xs l k f st (some (.fn g))=VX cd pd R Q (.c (.ops (.i (.call d g q xs)::l))::k) f st)∧(∀k f st,I2 cd pd R Q (some k) f st=VX cd pd R Q k f st):=
 ⟨fun _ _=>Hh,fun _ _ _ _=>IU,fun _ _ _ _=>EK,fun _ _ _=>EN,fun _ _ _=>GN,fun _ _ _ _=>Fm,fun _ _ _ _ _=>GF,fun _ _ _ _ _=>CH,fun _ _ _ _ _ _=>E2,fun _ _ _=>Gz,fun _ _ _ _ _ _ _=>HM,fun _ _ _ _ _ _ _=>Ij,fun _ _ _ _=>rfl,fun _ _ _ _ _=>rfl,fun _ _ _ _ _=>rfl,fun _ _ _ _ _ _=>Fx,fun _ _ _ _ _ _ _ _=>E1,fun _ _ _ _ _ _ _ _=>G9,fun _ _ _ _ _ _ _ _=>rfl,fun _ _ _=>rfl⟩
theorem VB:(∀x,flat (bytes x)=true)∧(∀x,wid 1 (bytes x)=true)∧(∀x,(bytes x).length=x.length)∧(∀n,n≤70368744177664→cM n=true)∧(∀n:Int, -9223372036854775808≤n→n < 9223372036854775808→IntKind.i64.wrap n=n)∧
 (∀(k:IntKind) (a b:Int),bc .add (.int k a) (.int k b)=some (.int k (k.wrap (a+b))))∧(∀(k:IntKind) (a b:Int),bc .sub (.int k a) (.int k b)=some (.int k (k.wrap (a - b))))∧(∀(k:IntKind) (a b:Int),bc .mul (.int k a) (.int k b)=some (.int k (k.wrap (a * b))))∧
 (∀(k:IntKind) (a b:Int),bc .quo (.int k a) (.int k b)=if b=0 then none else some (.int k (k.wrap (a.tdiv b))))∧(∀(k:IntKind) (a b:Int),bc .rem (.int k a) (.int k b)=if b=0 then none else some (.int k (a.tmod b)))∧
 (∀(k:IntKind) (a b:Int),bc .eql (.int k a) (.int k b)=some (.bool (decide (a=b))))∧(∀(k:IntKind) (a b:Int),bc .neq (.int k a) (.int k b)=some (.bool (decide (a≠b))))∧(∀(k:IntKind) (a b:Int),bc .lss (.int k a) (.int k b)=some (.bool (decide (a < b))))∧
 (∀(k:IntKind) (a b:Int),bc .leq (.int k a) (.int k b)=some (.bool (decide (a≤b))))∧(∀(k:IntKind) (a b:Int),bc .gtr (.int k a) (.int k b)=some (.bool (decide (a > b))))∧(∀(k:IntKind) (a b:Int),bc .geq (.int k a) (.int k b)=some (.bool (decide (a≥b))))∧
 (∀(k:IntKind) (a b:Int),bc .and (.int k a) (.int k b)=some (.int k (aF .and k a b)))∧(∀(k:IntKind) (a b:Int),bc .or (.int k a) (.int k b)=some (.int k (aF .or k a b)))∧(∀(k:IntKind) (a b:Int),bc .xor (.int k a) (.int k b)=some (.int k (aF .xor k a b)))∧(∀(k:IntKind) (a b:Int),bc .andNot (.int k a) (.int k b)=some (.int k (aF .andNot k a b)))∧
 (∀(k k':IntKind) (a b:Int),bc .shl (.int k a) (.int k' b)=if b < 0 then none else some (.int k (k.wrap (a * 2 ^ (min b.toNat k.bits)))))∧(∀(k k':IntKind) (a b:Int),bc .shr (.int k a) (.int k' b)=if b < 0 then none else some (.int k (a.fdiv (2 ^ (min b.toNat k.bits)))))∧
 (∀a b,bc .eql (.str a) (.str b)=some (.bool (decide (a=b))))∧(∀a b,bc .neq (.str a) (.str b)=some (.bool (decide (a≠b)))):=
 ⟨zb,pU,an,fun _ h=>v8 h,fun _ h1 h2=>aB h1 h2,CT,DW,C3,CF,D5,CB,C1,Cv,Ce,Cy,Dd,Iy,I0,IC,DT,H8,Ih,zN,zT⟩
end Go.Eng
namespace Go.Eng
mutual
def enc:Ty→Tv→List D
 | .int k, .i n=> [.int k n]
 | .bool, .b b=> [.bool b]
 | .str, .s s=> [.str s]
 | .sl t, .l xs=> [.sl (xs.map (enc t))]
 | .st ts, .r vs=>nS ts vs
 |_,_=> []
def nS:List Ty→List Tv→List D
 |t::ts,v::vs=>enc t v++nS ts vs
 |_,_=> []
end
mutual
def aG:Ty→Tv→Prop
 | .int k, .i n=>k.min≤n∧n≤k.max
 | .bool, .b _=>True
 | .str, .s s=>s.size≤maxLen
 | .sl t, .l xs=>xs.length≤maxLen∧∀x∈xs,aG t x
 | .st ts, .r vs=>cS ts vs
 |_,_=>False
def cS:List Ty→List Tv→Prop
 | [],[]=>True
 |t::ts,v::vs=>aG t v∧cS ts vs
 |_,_=>False
end
section
variable {h h':H}
mutual
theorem Rp.rd:∀(T:Ty) {cs:List C} {v:Tv} {S:List Nat},Rp h T cs v S→bj h (enc T v) cs S
 | .int k,cs,v,S,hr=>by
   obtain⟨n,rfl,rfl,rfl,_⟩:=hr.int
   simp only[enc,bj,RD]
   exact⟨_,_,[],[],rfl,rfl,⟨rfl,rfl⟩,rfl,rfl⟩
 | .bool,cs,v,S,hr=>by
   unfold Rp at hr
   obtain⟨b,rfl,rfl,rfl⟩:=hr
   simp only[enc,bj,RD]
   exact⟨_,_,[],[],rfl,rfl,⟨rfl,rfl⟩,rfl,rfl⟩
 | .str,cs,v,S,hr=>by
   unfold Rp at hr
   obtain⟨s,rfl,rfl,rfl,_⟩:=hr
   simp only[enc,bj,RD]
   exact⟨_,_,[],[],rfl,rfl,⟨rfl,rfl⟩,rfl,rfl⟩
 | .sl t,cs,v,S,hr=>by
   obtain⟨xs,rfl,_,hc⟩:=hr.sl
   simp only[enc,bj]
   rcases hc with⟨rfl,rfl,rfl|rfl⟩|⟨id,off,bs,S',e0,rfl,h2,h3,rfl,h5,he0⟩
   ·exact⟨_,_,[],[],rfl,rfl,hK.2 (.inl ⟨rfl,rfl, .inl rfl⟩),rfl,rfl⟩
   ·exact⟨_,_,[],[],rfl,rfl,hK.2 (.inl ⟨rfl,rfl, .inr rfl⟩),rfl,rfl⟩
   ·have key:∀ {xs:List Tv} {bs:List C} {S:List Nat},aP (Rp h t) xs bs S→ay h (xs.map (enc t)) t.size bs S:=by
     intro xs
     induction xs with
     |nil=>intro bs S he;simp only[List.map_nil,ay];exact he
     |cons x xs ih=>
      intro bs S he
      obtain⟨c1,c2,S1,S2,e1,e2,e3,e4⟩:=he
      simp only[List.map_cons,ay]
      exact⟨c1,c2,S1,S2,e1,e2,e3.size,Rp.rd t e3,ih e4⟩
    have hle:xs.length * e0=xs.length * t.size:=by rcases he0 with rfl|rfl <;>simp
    have h6:=key h5
    refine⟨_,[],id::S',[],rfl,by simp,hK.2 (.inr ⟨id,off,e0,bs,S',by simp,h2,by simp only[List.length_map,hle];exact h3,rfl,?_⟩),rfl,rfl⟩
    simp only[List.length_map,hle]
    rcases he0 with rfl|rfl
    ·exact h6
    ·simp only[List.map_nil,ay]at h6⊢;exact h6
 | .st ts,cs,v,S,hr=>by
   obtain⟨vs,rfl,h2⟩:=hr.st
   simp only[enc]
   exact Rs.rd ts (by simpa using h2)
theorem Rs.rd:∀(ts:List Ty) {cs:List C} {vs:List Tv} {S:List Nat},Rs h ts cs vs S→bj h (nS ts vs) cs S
 | [],cs,vs,S,hr=>by
   obtain⟨rfl,rfl,rfl⟩:=hr
   simp[nS,bj]
 |t::ts,cs,vs,S,hr=>by
  obtain⟨c1,c2,v,vr,S1,S2,rfl,rfl,rfl,h4,h5⟩:=hr
  simp only[nS]
  exact(Rp.rd t h4).join (Rs.rd ts h5)
end
mutual
theorem Rp.ok:∀(T:Ty) {cs:List C} {v:Tv} {S:List Nat},Rp h T cs v S→aG T v
 | .int k,cs,v,S,hr=>by obtain⟨n,rfl,rfl,rfl,h1⟩:=hr.int;simpa only[aG]using h1
 | .bool,cs,v,S,hr=>by unfold Rp at hr;obtain⟨b,rfl,rfl,rfl⟩:=hr;simp only[aG]
 | .str,cs,v,S,hr=>by unfold Rp at hr;obtain⟨s,rfl,rfl,rfl,h1⟩:=hr;simpa only[aG]using h1
 | .sl t,cs,v,S,hr=>by
   obtain⟨xs,rfl,hm,hc⟩:=hr.sl
   simp only[aG]
   refine⟨hm,?_⟩
   rcases hc with⟨rfl,_⟩|⟨id,off,bs,S',e0,rfl,h2,h3,rfl,h5,_⟩
   ·intro x hx;cases hx
   ·have key:∀ {xs:List Tv} {bs:List C} {S:List Nat},aP (Rp h t) xs bs S→∀x∈xs,aG t x:=by
     intro xs
     induction xs with
     |nil=>intro bs S _ x hx;cases hx
     |cons y xs ih=>
      intro bs S he x hx
      obtain⟨c1,c2,S1,S2,e1,e2,e3,e4⟩:=he
      rcases List.mem_cons.1 hx with rfl|hx
      ·exact Rp.ok t e3
      ·exact ih e4 x hx
    exact key h5
 | .st ts,cs,v,S,hr=>by obtain⟨vs,rfl,h2⟩:=hr.st;simp only[aG];exact Rs.ok ts (by simpa using h2)
theorem Rs.ok:∀(ts:List Ty) {cs:List C} {vs:List Tv} {S:List Nat},Rs h ts cs vs S→cS ts vs
 | [],cs,vs,S,hr=>by obtain⟨rfl,rfl,rfl⟩:=hr;simp only[cS]
 |t::ts,cs,vs,S,hr=>by obtain⟨c1,c2,v,vr,S1,S2,rfl,rfl,rfl,h4,h5⟩:=hr;simp only[cS];exact⟨Rp.ok t h4,Rs.ok ts h5⟩
end
mutual
theorem v7:∀(T:Ty) {v:Tv},aG T v→(enc T v).length=T.size
 | .int k,v,hv=>by cases v <;>simp only[aG]at hv <;>rfl
 | .bool,v,hv=>by cases v <;>simp only[aG]at hv <;>rfl
 | .str,v,hv=>by cases v <;>simp only[aG]at hv <;>rfl
 | .sl t,v,hv=>by cases v <;>simp only[aG]at hv <;>simp only[enc] <;>rfl
 | .st ts,v,hv=>by cases v <;>simp only[aG]at hv;simp only[enc];exact xJ ts hv
theorem xJ:∀(ts:List Ty) {vs:List Tv},cS ts vs→(nS ts vs).length=Ty.aM ts
 | [],vs,hv=>by cases vs <;>simp only[cS]at hv <;>rfl
 |t::ts,vs,hv=>by
  cases vs <;>simp only[cS]at hv
  simp only[nS,List.length_append,v7 t hv.1,xJ ts hv.2]
  rfl
end
mutual
theorem bj.rp:∀(T:Ty) {cs:List C} {v:Tv} {S:List Nat},aG T v→bj h (enc T v) cs S→Rp h T cs v S
 | .int k,cs,v,S,hv,hr=>by
   cases v <;>simp only[aG]at hv
   simp only[enc,bj,RD]at hr
   obtain⟨_,_,_,_,rfl,rfl,⟨rfl,rfl⟩,rfl,rfl⟩:=hr
   exact⟨_,rfl,rfl,rfl,hv⟩
 | .bool,cs,v,S,hv,hr=>by
   cases v <;>simp only[aG]at hv
   simp only[enc,bj,RD]at hr
   obtain⟨_,_,_,_,rfl,rfl,⟨rfl,rfl⟩,rfl,rfl⟩:=hr
   exact⟨_,rfl,rfl,rfl⟩
 | .str,cs,v,S,hv,hr=>by
   cases v <;>simp only[aG]at hv
   simp only[enc,bj,RD]at hr
   obtain⟨_,_,_,_,rfl,rfl,⟨rfl,rfl⟩,rfl,rfl⟩:=hr
   exact⟨_,rfl,rfl,rfl,hv⟩
 | .sl t,cs,v,S,hv,hr=>by
   cases v <;>simp only[aG]at hv
   rename_i xs
   simp only[enc,bj]at hr
   obtain⟨c,cr,S1,S2,rfl,rfl,h1,rfl,rfl⟩:=hr
   refine⟨xs,rfl,hv.1,?_⟩
   rcases hK.1 h1 with⟨hx,rfl,hc⟩|⟨id,off,e,bs,S',rfl,h2,h3,rfl,h5⟩
   ·have hx':xs= []:=by simpa using hx
    subst hx'
    exact .inl ⟨rfl,rfl,hc.imp (fun e=>by rw[e]) (fun e=>by rw[e])⟩
   ·have key:∀ {xs:List Tv} {e:Nat} {bs:List C} {S:List Nat},(∀x∈xs,aG t x)→ay h (xs.map (enc t)) e bs S→aP (Rp h t) xs bs S:=by
     intro xs
     induction xs with
     |nil=>intro e bs S _ he;simp only[List.map_nil,ay]at he;exact he
     |cons x xs ih=>
      intro e bs S hv he
      simp only[List.map_cons,ay]at he
      obtain⟨c1,c2,S1,S2,e1,e2,e3,e4,e5⟩:=he
      exact⟨c1,c2,S1,S2,e1,e2,bj.rp t (hv x (by simp)) e4,ih (fun y hy=>hv y (by simp[hy])) e5⟩
    have he0:e=t.size∨xs= []:=by
     cases xs with
     |nil=>exact .inr rfl
     |cons x xs=>
      left
      have:=h5.wid (enc t x) (by simp)
      rw[←this]
      exact v7 t (hv.2 x (by simp))
    have hle:xs.length * e=xs.length * t.size:=by rcases he0 with rfl|rfl <;>simp
    simp only[List.length_map,hle]at h3 h5
    exact .inr ⟨id,off,bs,S',e,by simp,h2,h3,by simp,key hv.2 h5,he0⟩
 | .st ts,cs,v,S,hv,hr=>by
   cases v <;>simp only[aG]at hv
   simp only[enc]at hr
   exact⟨_,rfl,bj.rs ts hv hr⟩
theorem bj.rs:∀(ts:List Ty) {cs:List C} {vs:List Tv} {S:List Nat},cS ts vs→bj h (nS ts vs) cs S→Rs h ts cs vs S
 | [],cs,vs,S,hv,hr=>by
   cases vs <;>simp only[cS]at hv
   simp only[nS,bj]at hr
   exact⟨hr.1,rfl,hr.2⟩
 |t::ts,cs,vs,S,hv,hr=>by
  cases vs <;>simp only[cS]at hv
  rename_i v vs
  simp only[nS]at hr
  obtain⟨S1,S2,rfl,h2,h3⟩:=hr.cut (enc t v).length
  have hl:=v7 t hv.1
  rw[List.take_left]at h2
  rw[List.drop_left]at h3
  exact⟨_,_,v,vs,S1,S2,(List.take_append_drop _ _).symm,rfl,rfl,bj.rp t hv.1 h2,bj.rs ts hv.2 h3⟩
end
def vy:List E→List D→Prop
 | [],[]=>True
 | .e (.o dp t xs)::es, .sl ys::ds=>dp=true∧xs=ys∧vy es ds
 | .e (.p .nils)::es, .sl ys::ds=>ys= []∧vy es ds
 | .e (.p d)::es,d'::ds=>d=d'∧d.leaf=true∧vy es ds
 |_,_=>False
mutual
theorem RD.alive:∀(d:D) {c:C} {S:List Nat},RD h d c S→∀i∈S,∃bs,h.cells i=some bs
 | .int _ _,_,_,hr,i,hi=>by simp only[RD]at hr;rw[hr.2]at hi;cases hi
 | .bool _,_,_,hr,i,hi=>by simp only[RD]at hr;rw[hr.2]at hi;cases hi
 | .str _,_,_,hr,i,hi=>by simp only[RD]at hr;rw[hr.2]at hi;cases hi
 | .fn _,_,_,hr,i,hi=>by simp only[RD]at hr;rw[hr.2]at hi;cases hi
 | .nilf,_,_,hr,i,hi=>by simp only[RD]at hr;rw[hr.2]at hi;cases hi
 | .nili,_,_,hr,i,hi=>by simp only[RD]at hr;rw[hr.2]at hi;cases hi
 | .nilp,_,_,hr,i,hi=>by simp only[RD]at hr;rw[hr.2]at hi;cases hi
 | .nils,_,_,hr,i,hi=>by simp only[RD]at hr;rw[hr.2]at hi;cases hi
 | .sl xs,c,S,hr,i,hi=>by
   rcases hK.1 hr with⟨_,e,_⟩|⟨id,off,e,bs,S',h1,h2,h3,h4,h5⟩
   ·rw[e]at hi;cases hi
   ·rw[h4]at hi
    rcases List.mem_cons.1 hi with rfl|hi
    ·exact⟨bs,h2⟩
    ·exact ay.alive xs h5 i hi
 | .ow _ _,_,_,hr,_,_=>by simp only[RD]at hr
 | .pt _ _ _,_,_,hr,_,_=>by simp only[RD]at hr
 | .pe _ _,_,_,hr,_,_=>by simp only[RD]at hr
 | .px _ _ _ _,_,_,hr,_,_=>by simp only[RD]at hr
 | .sa _ _ _ _ _,_,_,hr,_,_=>by simp only[RD]at hr
theorem bj.alive:∀(ds:List D) {cs:List C} {S:List Nat},bj h ds cs S→∀i∈S,∃bs,h.cells i=some bs
 | [],_,_,hr,i,hi=>by simp only[bj]at hr;rw[hr.2]at hi;cases hi
 |d::ds,cs,S,hr,i,hi=>by
  simp only[bj]at hr
  obtain⟨c,cr,S1,S2,h1,h2,h3,h4⟩:=hr
  rw[h2]at hi
  rcases List.mem_append.1 hi with hi|hi
  ·exact RD.alive d h3 i hi
  ·exact bj.alive ds h4 i hi
theorem ay.alive:∀(xs:List (List D)) {e:Nat} {cs:List C} {S:List Nat},ay h xs e cs S→∀i∈S,∃bs,h.cells i=some bs
 | [],_,_,_,hr,i,hi=>by simp only[ay]at hr;rw[hr.2]at hi;cases hi
 |x::xs,e,cs,S,hr,i,hi=>by
  simp only[ay]at hr
  obtain⟨c1,c2,S1,S2,h1,h2,h3,h4,h5⟩:=hr
  rw[h2]at hi
  rcases List.mem_append.1 hi with hi|hi
  ·exact bj.alive x h4 i hi
  ·exact ay.alive xs h5 i hi
end
end
section
variable {Γ:Cx} {γ:Gh} {f:UT} {st:St} {mf:Fr} {h h':H}
theorem vy.IW (hr:ax Γ γ f st mf h):∀ {es:List E} {ds:List D} {k v:Nat} {cs:List C},vy es ds→(∀k' e,lk k' (ba k v es).2=some e→lk k' st.es=some e)→ah (DC Γ γ st h) cs (ba k v es).1→
 ∃S,bj h ds cs S∧S.Nodup∧∀i∈S,∃k' e,k≤k'∧k' < k+dc es∧lk k' st.es=some e∧i∈γ.w k'++γ.u k'
 | [],[],k,v,cs,_,_,hc=>by
   cases cs with
   |nil=>exact⟨[],by simp[bj],by simp,fun i hi=>by cases hi⟩
   |cons c cs=>simp only[ba]at hc;exact hc.elim
 | .e (.o dp t xs)::es,ds,k,v,cs,he,hL,hc=>by
   cases ds with
   |nil=>exact he.elim
   |cons d ds=>
   cases d <;>simp only[vy]at he
   obtain⟨rfl,rfl,he⟩:=he
   simp only[ba]at hc hL
   match cs,hc with
   |c::cs,hc=>
    have hl:=hL k _ GA
    obtain⟨S,q1,q2,q3⟩:=vy.IW hr (k:=k+1) (v:=v+1) he (fun k' e hk=>hL k' e (by have:=(jY hk).2.1;rw[aA,if_neg (by omega)];exact hk)) hc.2
    have hcc:=hc.1.2 _ _ _ _ hl
    obtain⟨_,hen⟩:=hr.en _ _ hl
    have hnd:=(hr.nd _ _ hl).1
    have h1:RD h (.sl xs) c (γ.w k++γ.u k):=by
     rw[hcc]
     rcases hen with⟨rfl,w1,w2,w3⟩|⟨id,ty,ez,bs,S0,k1,k2,k3,k4,k5,k6,k7,k8⟩
     ·rw[w1,w2];exact hK.2 (.inl ⟨rfl,rfl,w3⟩)
     ·rw[k3,k8,if_pos rfl,k2]
      refine hK.2 (.inr ⟨id,0,ez,bs,S0,rfl,az k4,by omega,rfl,?_⟩)
      rw[List.drop_zero,←k5,List.take_length]
      exact k6
    refine⟨(γ.w k++γ.u k)++S,?_,?_,fun i hi=> ?_⟩
    ·simp only[bj];exact⟨c,cs,_,S,rfl,rfl,h1,q1⟩
    ·refine List.nodup_append.2 ⟨hnd,q2,fun a ha b hb e=> ?_⟩
     subst e
     obtain⟨k',e',r1,r2,r3,r4⟩:=q3 a hb
     exact hr.dj k k' _ e' (by omega) hl r3 a ha r4
    ·rcases List.mem_append.1 hi with hi|hi
     ·exact⟨k,_,Nat.le_refl _,by simp only[dc];omega,hl,hi⟩
     ·obtain⟨k',e',r1,r2,r3,r4⟩:=q3 i hi
      exact⟨k',e',by omega,by simp only[dc];omega,r3,r4⟩
 | .e (.p d)::es,ds,k,v,cs,he,hL,hc=>by
   cases ds with
   |nil=>cases d <;>exact he.elim
   |cons d' ds=>
   simp only[ba]at hc hL
   match cs,hc with
   |c::cs,hc=>
    have fin:∀(d0:D),RD h d0 c []→vy es ds→∃S,bj h (d0::ds) (c::cs) S∧S.Nodup∧∀i∈S,∃k' e,k≤k'∧k' < k+dc (.e (.p d)::es)∧lk k' st.es=some e∧i∈γ.w k'++γ.u k':=by
     intro d0 h1 he
     obtain⟨S,q1,q2,q3⟩:=vy.IW hr (k:=k+1) (v:=v+1) he hL hc.2
     refine⟨S,?_,q2,fun i hi=> ?_⟩
     ·simp only[bj];exact⟨c,cs,[],S,rfl,rfl,h1,q1⟩
     ·obtain⟨k',e',r1,r2,r3,r4⟩:=q3 i hi
      exact⟨k',e',by omega,by simp only[dc];omega,r3,r4⟩
    by_cases hn:d= .nils
    ·subst hn
     have h1:c= .nils:=by
      obtain⟨S0,h2,_⟩:=hc.1
      simp only[RD]at h2
      exact h2.1
     cases d' <;>simp only[vy]at he <;>first|(exact absurd he.2.1 (by simp[D.leaf]))|skip
     obtain⟨rfl,he⟩:=he
     exact fin _ (hK.2 (.inl ⟨rfl,rfl, .inl h1⟩)) he
    ·have he':d=d'∧d.leaf=true∧vy es ds:=by
      cases d <;>first|exact absurd rfl hn|(cases d' <;>simpa only[vy]using he)
     obtain⟨rfl,hlf,he'⟩:=he'
     have:∃S,RD h d c S:=by
      cases d <;>simp[D.leaf]at hlf <;>exact⟨_,hc.1.choose_spec.1⟩
     obtain⟨S0,h2⟩:=this
     exact fin d (h2.Ib hlf) he'
 | .pt ty xs::es,ds,k,v,cs,he,_,_=>by cases ds <;>exact he.elim
def FV:List (Bool×List E)→List (Ty×Tv)→Prop
 | [],[]=>True
 |(g,es)::rs,(T,w)::ts=>g=T.agg∧vy es (enc T w)∧aG T w∧FV rs ts
 |_,_=>False
def AP (h:H):List (Ty×Tv)→List (Bool×List C)→List Nat→Prop
 | [],css,S=>css= []∧S= []
 |(T,w)::ts,css,S=>∃cs cr S1 S2,css=(T.agg,cs)::cr∧S=S1++S2∧Rp h T cs w S1∧AP h ts cr S2
theorem FV.rp (hr:ax Γ γ f st mf h):∀ {rs:List (Bool×List E)} {ts:List (Ty×Tv)} {k v:Nat} {css:List (Bool×List C)},FV rs ts→(∀k' e,lk k' (aZ k v rs).2=some e→lk k' st.es=some e)→ah (DG Γ γ st h) css (aZ k v rs).1→
 ∃S,AP h ts css S∧S.Nodup∧∀i∈S,(∃bs,h.cells i=some bs)∧∃k' e,k≤k'∧k' < k+cz rs∧lk k' st.es=some e∧i∈γ.w k'++γ.u k'
 | [],[],k,v,css,_,_,hc=>by
   cases css with
   |nil=>exact⟨[],⟨rfl,rfl⟩,by simp,fun i hi=>by cases hi⟩
   |cons c cs=>simp only[aZ]at hc;exact hc.elim
 | [],_::_,_,_,_,he,_,_=>he.elim
 |_::_,[],_,_,_,he,_,_=>he.elim
 |(g,es)::rs,(T,w)::ts,k,v,css,he,hL,hc=>by
  obtain⟨rfl,h1,h2,h3⟩:=he
  simp only[aZ]at hc hL
  match css,hc with
  |(g',cs)::css,hc=>
   obtain⟨⟨hg,hc1⟩,hc2⟩:=hc
   simp only at hg hc1
   subst hg
   obtain⟨S1,a1,a2,a3⟩:=vy.IW hr h1 (fun k' e hk=>hL k' e (by rw[bG,hk])) hc1
   obtain⟨S2,b1,b2,b3⟩:=FV.rp hr h3 (fun k' e hk=>hL k' e (by
    have:=(nR hk).2.1
    rw[bG]
    cases hx:lk k' (ba k v es).2 with
    |none=>exact hk
    |some e'=>have:=(jY hx).2.2;omega)) hc2
   refine⟨S1++S2,⟨cs,css,S1,S2,rfl,rfl,bj.rp T h2 a1,b1⟩,List.nodup_append.2 ⟨a2,b2,fun a ha b hb e=> ?_⟩,fun i hi=> ?_⟩
   ·subst e
    obtain⟨k1,e1,r1,r2,r3,r4⟩:=a3 a ha
    obtain⟨_,k2,e2,q1,q2,q3,q4⟩:=b3 a hb
    exact hr.dj k1 k2 e1 e2 (by omega) r3 q3 a r4 q4
   ·rcases List.mem_append.1 hi with hi|hi
    ·obtain⟨k1,e1,r1,r2,r3,r4⟩:=a3 i hi
     exact⟨bj.alive _ a1 i hi,k1,e1,r1,by simp only[cz];omega,r3,r4⟩
    ·obtain⟨b0,k1,e1,r1,r2,r3,r4⟩:=b3 i hi
     exact⟨b0,k1,e1,by omega,by simp only[cz];omega,r3,r4⟩
def yS (as:List (Ty×Tv)):List (Bool×List D):=as.map fun a=>(a.1.agg,enc a.1 a.2)
def df (h:H):List (Ty×Tv)→List (Bool×List C)→Prop
 | [],ms=>ms= []
 |(T,v)::as,ms=>∃cs mr,ms=(T.agg,cs)::mr∧(∃S,Rp h T cs v S)∧df h as mr
theorem df.all:∀ {as:List (Ty×Tv)} {ms:List (Bool×List C)},df h as ms→ah (fun(m:Bool×List C) (a:Bool×List D)=>m.1=a.1∧ah (fun c d'=>∃S,RD h d' c S∧∀i∈S,i < h.length) m.2 a.2) ms (yS as)
 | [],ms,ha=>by rw[show ms= []from ha];trivial
 |(T,v)::as,ms,ha=>by
  obtain⟨cs,mr,rfl,⟨S,h1⟩,h2⟩:=ha
  refine⟨⟨rfl,?_⟩,df.all h2⟩
  have key:∀ {ds:List D} {cs:List C} {S:List Nat},bj h ds cs S→ah (fun c d'=>∃S,RD h d' c S∧∀i∈S,i < h.length) cs ds:=by
   intro ds
   induction ds with
   |nil=>intro cs S hr;simp only[bj]at hr;rw[hr.1];trivial
   |cons d ds ih=>
    intro cs S hr
    simp only[bj]at hr
    obtain⟨c,cr,S1,S2,rfl,rfl,h3,h4⟩:=hr
    exact⟨⟨S1,h3,RD.lt d h3⟩,ih h4⟩
  exact key (Rp.rd T h1)
theorem Cz:∀(ds:List D),(∀d∈ds,FQ d=true)→wW (ds.map E.p)=true
 | [],_=>rfl
 |d::ds,h=>by simp only[List.map_cons,wW,yZ,h d (by simp),Cz ds fun d' hd=>h d' (by simp[hd]),Bool.and_self]
theorem bj.pu {h:H}:∀ {ds:List D} {cs:List C} {S:List Nat},bj h ds cs S→∀d∈ds,FQ d=true
 | [],_,_,_,d,hd=>by cases hd
 |d0::ds,cs,S,hr,d,hd=>by
  simp only[bj]at hr
  obtain⟨c,cr,S1,S2,rfl,rfl,h3,h4⟩:=hr
  rcases List.mem_cons.1 hd with rfl|hd
  ·cases d <;>first|rfl|(simp only[RD]at h3)
  ·exact h4.pu d hd
theorem df.cl:∀ {as:List (Ty×Tv)} {ms:List (Bool×List C)},df h as ms→rK (bf (yS as))=true
 | [],_,_=>rfl
 |(T,v)::as,ms,ha=>by
  obtain⟨cs,mr,rfl,⟨S,h1⟩,h2⟩:=ha
  have:=df.cl h2
  unfold yS bf at this⊢
  simp only[List.map_cons,rK,Cz _ (Rp.rd T h1).pu,this,Bool.and_self]
theorem VC.wc {cd:Nat→Option AF} {g:Nat} {as:List (Ty×Tv)} {Q:List (Bool×List E)→List E→Prop} (hc:VC cd g (bf (yS as)) Q) {ms:List (Bool×List C)} (ha:df h as ms) {ts:List (Ty×Tv)} (hq:∀rs,Q rs []→FV rs ts):
 WC cd g ms h (fun r h'=>∃t css S,h'=h++t∧r=cH css∧AP h' ts css S∧bW h' S∧∀i∈S,h.length≤i):=by
 have hb:=ym (h:=h) (ar:=fun i=>i < h.length) (fun i hi=>hi) ha.cl ha.all
 refine(hc ⟨h,fun i=>i < h.length,[],[]⟩ ms rfl hb).mono fun r h' ⟨rs,ps,css,q,hcl,hv,hb'⟩=> ?_
 have hb':=hb' 0 0
 rw[ks]at hb'
 have hps:ps= []:=by
  obtain⟨γb,_,hcc⟩:=hb'
  rw[gA]at hcc
  have:=(ah.snoc hcc).2.2.length
  rw[jZ]at this
  exact List.eq_nil_of_length_eq_zero this.symm
 subst hps
 obtain⟨γb,hB,hcc⟩:=hb'
 rw[gA,tH]at hB hcc
 simp only[ba,List.append_nil,dc,Nat.add_zero]at hB hcc
 obtain⟨S,k1,k2,k3⟩:=FV.rp hB (hq rs q) (fun _ _ h=>h) (ah.snoc hcc).1
 have hlo:∀i∈S,h.length≤i:=fun i hi=>by
  obtain⟨_,k',e,_,_,hl,hm⟩:=k3 i hi
  rcases(hB.nd k' e hl).2 i hm with h1|h1
  ·cases h1
  ·exact h1
 refine⟨h'.drop h.length,css,S,?_,hv,k1,⟨k2,fun i hi=> ?_⟩,hlo⟩
 ·have:h'.take h.length=h:=by
   apply List.ext_getElem?
   intro i
   rw[List.getElem?_take]
   split
   ·rename_i hi;exact hB.base i hi (by simp)
   ·rw[List.getElem?_eq_none (by omega)]
  conv=>rhs;lhs;rw[←this]
  exact(List.take_append_drop _ _).symm
 ·obtain⟨⟨bs,h1⟩,_⟩:=k3 i hi
  have h2:=hB.own i
  unfold H.cells at h1
  split at h1
  ·rename_i ty cs hx;exact⟨ty,cs,hx⟩
  ·rename_i cs hx;exact absurd hx (h2 cs (.inr (hlo i hi)))
  ·simp at h1
end
theorem Jg {α:Type} {a:α} {l:List α}:(a::l)[0]? =some a:=rfl
theorem I3 {α:Type} {a b:α} {l:List α}:(a::b::l)[1]? =some b:=rfl
theorem Jc {α:Type} {a b c:α} {l:List α}:(a::b::c::l)[2]? =some c:=rfl
theorem Jj {α:Type} {a b c d:α} {l:List α}:(a::b::c::d::l)[3]? =some d:=rfl
theorem H4:(∀ {a:Bool×List D} {l},(a::l)[0]? =some a)∧(∀ {a b:Bool×List D} {l},(a::b::l)[1]? =some b)∧(∀ {a b c:Bool×List D} {l},(a::b::c::l)[2]? =some c)∧(∀ {a b c d:Bool×List D} {l},(a::b::c::d::l)[3]? =some d)∧K0=4096:=⟨Jg,I3,Jc,Jj,rfl⟩
theorem VW:type_of% (And.intro (And.intro (And.intro (@VE) (@IY)) (And.intro (@VP) (@VB))) (And.intro (And.intro (@H4) (@Im)) (And.intro (@bl.eq_1) (@it.eq_1)))):=And.intro (And.intro (And.intro (@VE) (@IY)) (And.intro (@VP) (@VB))) (And.intro (And.intro (@H4) (@Im)) (And.intro (@bl.eq_1) (@it.eq_1)))
end Go.Eng
namespace Go.Eng
theorem Rp.bool {h:H} {cs:List C} {v:Tv} {S:List Nat} (hr:Rp h .bool cs v S):∃b,cs= [.bool b]∧v= .b b∧S= []:=by unfold Rp at hr;exact hr
theorem Rp.str {h:H} {cs:List C} {v:Tv} {S:List Nat} (hr:Rp h .str cs v S):∃s,cs= [.str s]∧v= .s s∧S= []∧s.size≤maxLen:=by unfold Rp at hr;exact hr
theorem aG.int {k:IntKind} {v:Tv} (h:aG (.int k) v):∃n,v= .i n∧k.min≤n∧n≤k.max:=by cases v <;>simp only[aG]at h;exact⟨_,rfl,h⟩
theorem aG.bool {v:Tv} (h:aG .bool v):∃b,v= .b b:=by cases v <;>simp only[aG]at h;exact⟨_,rfl⟩
theorem aG.str {v:Tv} (h:aG .str v):∃s,v= .s s∧s.size≤maxLen:=by cases v <;>simp only[aG]at h;exact⟨_,rfl,h⟩
theorem aG.sl {t:Ty} {v:Tv} (h:aG (.sl t) v):∃xs,v= .l xs∧xs.length≤maxLen∧∀x∈xs,aG t x:=by cases v <;>simp only[aG]at h;exact⟨_,rfl,h⟩
theorem aG.st {ts:List Ty} {v:Tv} (h:aG (.st ts) v):∃vs,v= .r vs∧cS ts vs:=by cases v <;>simp only[aG]at h;exact⟨_,rfl,h⟩
theorem cS.step {t:Ty} {ts:List Ty} {vs:List Tv} (h:cS (t::ts) vs):∃v vr,vs=v::vr∧aG t v∧cS ts vr:=by cases vs <;>simp only[cS]at h;exact⟨_,_,rfl,h⟩
theorem cS.fin {vs:List Tv} (h:cS [] vs):vs= []:=by cases vs <;>simp only[cS]at h;rfl
theorem oN {α:Type} {f:α→Tv} {P:Tv→Prop} (hf:∀v,P v→∃x,v=f x):∀ {xs:List Tv},(∀x∈xs,P x)→∃ys:List α,xs=ys.map f
 | [],_=>⟨[],rfl⟩
 |x::xs,h=>by
  obtain⟨y,rfl⟩:=hf x (h _ (by simp))
  obtain⟨ys,rfl⟩:=oN hf (xs:=xs) fun x hx=>h x (by simp[hx])
  exact⟨y::ys,rfl⟩
def Hv (b:UInt8):Tv:= .i (b.toNat:Int)
def xo (x:Bytes):Tv:= .l (x.map Hv)
def pM (l:List Bytes):Tv:= .l (l.map xo)
def Ki (n:Int):Tv:= .i n
def Gb (l:List Int):Tv:= .l (l.map Ki)
theorem G4 {v:Tv} (h:aG (.int .u8) v):∃b,v=Hv b:=by
 obtain⟨n,rfl,h1,h2⟩:=h.int
 have h1:0≤n:=h1
 have h2:n≤255:=h2
 refine⟨UInt8.ofNat n.toNat,?_⟩
 simp only[Hv,UInt8.toNat_ofNat',Nat.reducePow]
 congr 1
 omega
theorem nz {v:Tv} (h:aG (.sl (.int .u8)) v):∃x,v=xo x:=by
 obtain⟨xs,rfl,_,h2⟩:=h.sl
 obtain⟨ys,rfl⟩:=oN (f:=Hv) (P:=aG (.int .u8)) (fun v hv=>G4 hv) h2
 exact⟨ys,rfl⟩
theorem AW {v:Tv} (h:aG (.sl (.sl (.int .u8))) v):∃x,v=pM x:=by
 obtain⟨xs,rfl,_,h2⟩:=h.sl
 obtain⟨ys,rfl⟩:=oN (f:=xo) (P:=aG (.sl (.int .u8))) (fun v hv=>nz hv) h2
 exact⟨ys,rfl⟩
theorem iM (x:Bytes):enc (.sl (.int .u8)) (xo x)= [.sl (bytes x)]:=by
 simp only[xo,enc,List.map_map,bytes]
 congr 2
theorem Fh (l:List Bytes):enc (.sl (.sl (.int .u8))) (pM l)= [.sl (l.map fun x=> [.sl (bytes x)])]:=by
 simp only[pM,enc,List.map_map]
 congr 2
 apply List.map_congr_left
 intro x _
 exact iM x
theorem F8 (x:Bytes):wt (xo x)=x.length:=by
 have:∀x:Bytes,cW (x.map Hv)=0:=by
  intro x
  induction x with
  |nil=>rfl
  |cons b x ih=>simp[cW,wt,Hv,ih]
 simp[xo,wt,this]
theorem rP {α:Type} {f:α→Tv} {x:α}:∀ {l:List α},x∈l→wt (f x)≤cW (l.map f)
 | [],h=>by cases h
 |y::l,h=>by
  simp only[List.map_cons,cW]
  rcases List.mem_cons.1 h with rfl|h
  ·omega
  ·have:=rP (f:=f) h;omega
theorem FA (xs:List Tv):wt (.l xs)=xs.length+cW xs:=by simp[wt]
theorem Hu (l:List Bytes):l.length≤wt (pM l)∧∀x∈l,x.length≤wt (pM l):=by
 unfold pM
 rw[FA]
 refine⟨by simp,fun x hx=> ?_⟩
 have:=rP (f:=xo) hx
 rw[F8]at this
 omega
theorem F1 {x:Bytes} (h:x.length≤maxLen):aG (.sl (.int .u8)) (xo x):=by
 simp only[xo,aG]
 refine⟨by simpa using h,fun v hv=> ?_⟩
 obtain⟨b,_,rfl⟩:=List.mem_map.1 hv
 have hb:=b.toNat_lt
 have h0:IntKind.u8.min=0:=rfl
 have h1:IntKind.u8.max=255:=rfl
 simp only[Hv,aG]
 exact⟨by omega,by omega⟩
theorem Hk {l:List Bytes} (h:l.length≤maxLen) (h2:∀x∈l,x.length≤maxLen):aG (.sl (.sl (.int .u8))) (pM l):=by
 simp only[pM,aG]
 refine⟨by simpa using h,fun v hv=> ?_⟩
 obtain⟨b,hb,rfl⟩:=List.mem_map.1 hv
 exact F1 (h2 b hb)
mutual
def Ty.fl:Ty→Bool
 | .sl _=>false
 | .st ts=>Ty.Ge ts
 |_=>true
def Ty.Ge:List Ty→Bool
 | []=>true
 |t::ts=>t.fl && Ty.Ge ts
end
mutual
theorem CL:∀(T:Ty) (v:Tv),T.fl=true→ic T v=0
 | .int _,_,_=>by simp[ic]
 | .bool,_,_=>by simp[ic]
 | .str,_,_=>by simp[ic]
 | .sl _,_,h=>by simp[Ty.fl]at h
 | .st ts,v,h=>by
   cases v <;>first|(simp[ic];done)|(simp only[ic];exact AL ts _ (by simpa only[Ty.fl]using h))
theorem AL:∀(ts:List Ty) (vs:List Tv),Ty.Ge ts=true→zC ts vs=0
 | [],_,_=>by simp[zC]
 |t::ts,vs,h=>by
  simp only[Ty.Ge,Bool.and_eq_true]at h
  cases vs with
  |nil=>simp[zC]
  |cons v vs=>simp only[zC,CL t v h.1,AL ts vs h.2]
end
mutual
theorem DV:∀(T:Ty) (v:Tv) (k:Nat),T.fl=true→nG T v k=v
 | .int _,_,_,_=>by simp[nG]
 | .bool,_,_,_=>by simp[nG]
 | .str,_,_,_=>by simp[nG]
 | .sl _,_,_,h=>by simp[Ty.fl]at h
 | .st ts,v,k,h=>by
   cases v <;>first|(simp[nG];done)|(simp only[nG];rw[Ab ts _ k (by simpa only[Ty.fl]using h)])
theorem Ab:∀(ts:List Ty) (vs:List Tv) (k:Nat),Ty.Ge ts=true→Bn ts vs k=vs
 | [],_,_,_=>by simp[Bn]
 |t::ts,vs,k,h=>by
  simp only[Ty.Ge,Bool.and_eq_true]at h
  cases vs with
  |nil=>simp[Bn]
  |cons v vs=>simp only[Bn,DV t v k h.1,Ab ts vs _ h.2]
end
mutual
theorem Rp.HE {h h':H}:∀(T:Ty) {cs:List C} {v:Tv} {S:List Nat},Rp h T cs v S→T.fl=true→S= []∧Rp h' T cs v []
 | .int _,cs,v,S,hr,_=>by obtain⟨n,h1,h2,rfl,h3⟩:=hr.int;exact⟨rfl,n,h1,h2,rfl,h3⟩
 | .bool,cs,v,S,hr,_=>by obtain⟨n,h1,h2,rfl⟩:=hr.bool;exact⟨rfl,n,h1,h2,rfl⟩
 | .str,cs,v,S,hr,_=>by obtain⟨n,h1,h2,rfl,h3⟩:=hr.str;exact⟨rfl,n,h1,h2,rfl,h3⟩
 | .sl _,_,_,_,_,h=>by simp[Ty.fl]at h
 | .st ts,cs,v,S,hr,h=>by
   obtain⟨vs,h1,h2⟩:=hr.st
   obtain⟨h3,h4⟩:=Rs.HE (h':=h') ts h2 (by simpa only[Ty.fl]using h)
   exact⟨h3,vs,h1,by simpa using h4⟩
theorem Rs.HE {h h':H}:∀(ts:List Ty) {cs:List C} {vs:List Tv} {S:List Nat},Rs h ts cs vs S→Ty.Ge ts=true→S= []∧Rs h' ts cs vs []
 | [],cs,vs,S,hr,_=>by obtain⟨rfl,rfl,rfl⟩:=hr;exact⟨rfl,rfl,rfl,rfl⟩
 |t::ts,cs,vs,S,hr,h=>by
  simp only[Ty.Ge,Bool.and_eq_true]at h
  obtain⟨c1,c2,v,vr,S1,S2,rfl,rfl,rfl,h4,h5⟩:=hr
  obtain⟨rfl,k1⟩:=Rp.HE (h':=h') t h4 h.1
  obtain⟨rfl,k2⟩:=Rs.HE (h':=h') ts h5 h.2
  exact⟨rfl,c1,c2,v,vr,[],[],rfl,rfl,rfl,k1,k2⟩
end
theorem s4 {cd:Nat→Option AF} {pd:List (Nat×Nat)} {R:List RV} {Q:List (Bool×List E)→List E→Prop} {k:List VK} {f:UT} {st:St} {ds:List Nat} {b:AC} {σ:Type} (f0:UT) (hf:bS f ds=f0) {f2:UT} {st2:St} (hw:dS f0 st f2 st2) (f1:UT) (es0:List (Nat×En)) (h2:f2=f1) (he:Hl st2.es=es0)
 (iG:σ→List (Nat×U)) (ue:σ→List (Nat×En)) (J:σ→Nat→Prop) (s0:σ) (g0:Nat) (hu:f1=bK f1 (iG s0)) (hs:kR st2 (y9 es0 (ue s0))) (h0:J s0 g0)
 (round:∀s n g,J s g→VX cd pd R Q (.c b:: .stop (fun f' st'=>∃s' g',g' < g∧J s' g'∧bS f' ds=bK f1 (iG s')∧kR st' (y9 es0 (ue s')))::k) (bK f1 (iG s)) ⟨n,y9 es0 (ue s)⟩):
 VX cd pd R Q (.c (.loop ds b)::k) f st:=by
 refine A0 (σ:=σ×Nat) (fun p=>bK f1 (iG p.1)) (fun p=>⟨p.2,y9 es0 (ue p.1)⟩) (fun p g=>J p.1 g) (s0,st2.nx) g0 h0 (by rw[hf];exact hw.trans (dS.of_eq (by rw[h2];exact hu) (Nat.le_refl _) hs)) (fun p g hJ=> ?_)
 exact(round p.1 p.2 g hJ).le (.c (.stop (fun f' st' ⟨s',g',h1,h2,h3,h4⟩=>⟨(s',st'.nx),g',h1,h2,dS.of_eq h3 (Nat.le_refl _) h4⟩) (xp.refl k)))
end Go.Eng
namespace Go.Eng
section
variable {f:UT} {st:St}
def oM (st:St) (k k':Nat) (o dp:Bool) (t:Option (Nat×Nat)) (xs:List (List D)):St:=⟨st.nx+1,(k', .sl st.nx o dp t xs)::fx [k] st.es⟩
theorem dS.Jo {s k k' v:Nat} {o dp:Bool} {t:Option (Nat×Nat)} {xs:List (List D)} (hs:UF f s= .val false [.ow k v]) (hl:lk k st.es=some (.sl v o dp t xs)) (hne:k'≠k):
 dS f st (UW f s (.val false [.ow k' st.nx])) (oM st k k' o dp t xs):=by
 rintro Γ mf h ⟨γ,hr⟩
 have hlk:∀j,lk j (oM st k k' o dp t xs).es=if j=k' then some (.sl st.nx o dp t xs)else if j=k then none else lk j st.es:=fun j=>by
  simp only[oM,aA,oS]
  split
  ·rfl
  ·by_cases h2:j=k
   ·subst h2;simp
   ·rw[if_neg h2,if_neg (by simpa using h2)]
 have hmain:ax Γ (γ.up k' (γ.c k) (γ.w k) (γ.u k)) f (oM st k k' o dp t xs) mf h∧Mo Γ γ st h (γ.up k' (γ.c k) (γ.w k) (γ.u k)) (oM st k k' o dp t xs) h:=by
  refine hr.Hj (N:=fun j=>j=k∨j=k') (Nat.le_succ _) (fun j hn=> ?_) (fun j e hn hj=> ?_) (fun _ _ _=>rfl) (fun j e hn hj i hi _ hp=> ?_) (fun _ _ _ _ _ _=>rfl)
   (fun j e hn hj=> ?_) (fun j e j' e' hn hjj hj hj' i hi=> ?_) (Nat.le_refl _) (fun _ _ _=>rfl) (fun hm j e hn hj=> ?_) hr.own
  ·simp only[not_or]at hn
   rw[hlk,if_neg hn.2,if_neg hn.1]
   exact⟨rfl,by rw[Gh.Ah _ _ _ _ hn.2],by rw[Gh.gV _ _ _ _ hn.2],by rw[Gh.ll _ _ _ _ hn.2]⟩
  ·rw[hlk]at hj
   split at hj
   ·simp only[Option.some.injEq]at hj;subst hj;exact .inl (Nat.le_refl _)
   ·rename_i h1
    rw[if_pos (hn.resolve_right h1)]at hj
    cases hj
  ·rw[hlk]at hj
   split at hj
   ·rename_i h1
    subst h1
    rw[Gh.tW]at hi
    exact hp.2 k _ hl hi
   ·rename_i h1
    rw[if_pos (hn.resolve_right h1)]at hj
    cases hj
  ·rw[hlk]at hj
   split at hj
   ·rename_i h1
    subst h1
    rw[Gh.tW,Gh.uC]
    exact hr.nd k _ hl
   ·rename_i h1
    rw[if_pos (hn.resolve_right h1)]at hj
    cases hj
  ·rw[hlk]at hj
   split at hj
   ·rename_i h1
    subst h1
    rw[Gh.tW,Gh.uC]at hi
    rw[hlk,if_neg hjj]at hj'
    rw[Gh.gV _ _ _ _ hjj,Gh.ll _ _ _ _ hjj]
    split at hj'
    ·cases hj'
    ·rename_i h2
     exact hr.dj k j' _ e' (fun e=>h2 e.symm) hl hj' i hi
   ·rename_i h1
    rw[if_pos (hn.resolve_right h1)]at hj
    cases hj
  ·rw[hlk]at hj
   split at hj
   ·rename_i h1
    subst h1
    simp only[Option.some.injEq]at hj
    subst hj
    have he:=hr.en k _ hl
    have hpr:∀i,i < h.length→PR Γ γ st i→PR Γ (γ.up j (γ.c k) (γ.w k) (γ.u k)) (oM st k j o dp t xs) i:=fun i hi hp=>(hm.cell i hi hp).2
    cases o with
    |true=>
     obtain⟨_,he⟩:=he
     refine⟨Nat.lt_succ_self _,?_⟩
     rw[Gh.BB,Gh.tW,Gh.uC]
     rcases he with he|⟨id,ty,ez,bs,S,k1,k2,k3,k4,k5,k6,k7,k8⟩
     ·exact .inl he
     ·exact .inr ⟨id,ty,ez,bs,S,k1,k2,k3,k4,k5,k6,fun i hi=>hpr i (ay.lt xs k6 i hi) (k7 i hi),k8⟩
    |false=>
     obtain⟨_,h1,h2,S,h3,h4⟩:=he
     refine⟨Nat.lt_succ_self _,?_⟩
     rw[Gh.BB,Gh.tW,Gh.uC]
     exact⟨h1,h2,S,h3,fun i hi=>hpr i (RD.lt _ h3 i hi) (h4 i hi)⟩
   ·rename_i h1
    rw[if_pos (hn.resolve_right h1)]at hj
    cases hj
 have hsl:=hr.slot s
 rw[hs]at hsl
 obtain⟨c,h1,h2⟩:=UR.one hsl
 refine⟨_,{hmain.1 with fr:=fun j=> ?_}⟩
 unfold UW
 rw[UT.aS]
 split
 ·rename_i hk
  subst hk
  have:PT.get mf (K.of s)= .val false [c]:=h1
  rw[this]
  refine UR.v1 ⟨Nat.lt_succ_self _,fun _ _ _ _ _=> ?_⟩
  rw[Gh.BB]
  exact h2.2 _ _ _ _ hl
 ·exact hmain.1.fr j
theorem dS.JB (d:D):dS f st f (gX st d):=fun Γ mf h ⟨γ,hr⟩=>by
 obtain⟨γ',h1,_⟩:=AJ hr d
 exact⟨γ',h1⟩
end
theorem kX {cd:Nat→Option AF} {pd:List (Nat×Nat)} {R:List RV} {Q:List (Bool×List E)→List E→Prop} {k:List VK} {f:UT} {st:St} {ds:List Nat} {b:AC} {σ:Type} (f1:UT) (hf:bS f ds=f1)
 (iG:σ→List (Nat×U)) (es:σ→List (Nat×En)) (J:σ→Nat→Prop) (s0:σ) (g0:Nat) (hu:f1=bK f1 (iG s0)) (hs:kR st (es s0)) (h0:J s0 g0)
 (round:∀s n g,J s g→∀P:UT→St→Prop,(∀(s':σ) (g':Nat) (f':UT) (st':St),g' < g→J s' g'→bS f' ds=bK f1 (iG s')→kR st' (es s')→P f' st')→VX cd pd R Q (.c b:: .stop P::k) (bK f1 (iG s)) ⟨n,es s⟩):
 VX cd pd R Q (.c (.loop ds b)::k) f st:=
 gT f1 hf iG es J s0 g0 hu hs h0 fun s n g h=>round s n g h _ fun s' g' f' st' a b c d=>⟨s',g',a,b,c,d⟩
theorem bo {cd:Nat→Option AF} {pd:List (Nat×Nat)} {R:List RV} {Q:List (Bool×List E)→List E→Prop} {k:List VK} {f:UT} {st:St} {ds:List Nat} {b:AC} {σ:Type} (f1:UT) (es0:List (Nat×En)) (hf:bS f ds=f1) (he:Hl st.es=es0)
 (iG:σ→List (Nat×U)) (ue:σ→List (Nat×En)) (J:σ→Nat→Prop) (s0:σ) (g0:Nat) (hu:f1=bK f1 (iG s0)) (hs:kR st (y9 es0 (ue s0))) (h0:J s0 g0)
 (round:∀s n g,J s g→∀P:UT→St→Prop,(∀(s':σ) (g':Nat) (f':UT) (st':St),g' < g→J s' g'→bS f' ds=bK f1 (iG s')→kR st' (y9 es0 (ue s'))→P f' st')→VX cd pd R Q (.c b:: .stop P::k) (bK f1 (iG s)) ⟨n,y9 es0 (ue s)⟩):
 VX cd pd R Q (.c (.loop ds b)::k) f st:=kX f1 hf iG (fun s=>y9 es0 (ue s)) J s0 g0 hu hs h0 round
theorem VQ:(∀al,nC al=cz (bf al))∧(∀k v,aN k v []=([],[]))∧(∀k v d r,aN k v (.p d::r)=(d::(aN (k+1) (v+1) r).1,(aN (k+1) (v+1) r).2))∧
 (∀k v dp t xs r,aN k v (.o dp t xs::r)=(.ow k v::(aN (k+1) (v+1) r).1,(k, .sl v true dp t xs)::(aN (k+1) (v+1) r).2))∧(∀k,cK k=1099511627776+4096 * k)∧
 (∀st d rs k0 v0 ty xs us,vP st d rs k0 v0 ty xs us=⟨st.nx+cz rs+(1+xs.length),(k0, .pt v0 ty (aN (cK k0) (st.nx+cz rs+1) xs).1)::((aN (cK k0) (st.nx+cz rs+1) xs).2++((aZ (cF d) st.nx rs).2++fx us st.es))⟩)∧
 (∀us,fx us []= [])∧(∀us k e r,fx us ((k,e)::r)=if us.elem k then fx us r else(k,e)::fx us r)∧
 (∀st d,gX st d=(match d with| .ow k v=>(match st.ee k v with|some (_,_,t,xs)=>st.put k (.sl v false false t xs)|none=>st)|_=>st))∧
 (∀st us,Bm st us=us.all fun k=>match lk k st.es with|some (.sl _ _ dp _ xs)=> !dp||flat xs|_=>true):=
 ⟨fun _=>rfl,fun _ _=>rfl,fun _ _ _ _=>rfl,fun _ _ _ _ _ _=>rfl,fun _=>rfl,fun _ _ _ _ _ _ _ _=>rfl,fun _=>rfl,fun _ _ _ _=>rfl,fun _ d=>by cases d <;>rfl,fun _ _=>rfl⟩
theorem VV:type_of% (And.intro @VW @VQ):=And.intro @VW @VQ
section
variable {cd:Nat→Option AF} {pd:List (Nat×Nat)} {R:List RV} {Q:List (Bool×List E)→List E→Prop} {k:List VK} {f:UT} {st:St} {d g:Nat} {l:List IT}
theorem bp {q:Bool} {vs as:List (Bool×List D)} {rs:List (Bool×List E)} (hc:VC cd g (bf as) (fun r _=>r=rs))
 (hk:VX cd pd R Q (.c (.ops l)::k) (mi f st d rs) (iQ st d rs)) (ha:ey st vs=some as:=by first|rfl|(simp[VW] <;>repeat' constructor)) (hn:yM rs=true:=by rfl):FZ cd pd R Q d g q l k f st (some vs):=aj hc ha hn hk
theorem I6 {q:Bool} {vs as:List (Bool×List D)} {rs:List (Bool×List E)} (hc:VC cd g (bf as) (fun r _=>r=rs))
 (hk:VX cd pd R Q (.c (.ops l)::k) (mi f (bC st vs) d rs) (iQ (bC st vs) d rs)) (ha:ey (bC st vs) vs=some as:=by first|rfl|(simp[VW] <;>repeat' constructor)) (hn:Ca (bC st vs) vs=true:=by first|rfl|simp[VW]):FZ cd pd R Q d g q l k f st (some vs):=H7 hc ha hn hk
theorem B8 {vs:List (Bool×List D)} {as as':List (Bool×List E)} {us:List Nat} {k0 v0 ty0 ty:Nat} {ds0:List D} {rs:List (Bool×List E)} {ys:List E0} (hc:VC cd g as' (fun r p=>r=rs∧p= [.pt ty ys]))
 (hk:VX cd pd R Q (.c (.ops l)::k) (mi f (bC st vs) d rs) (vP (bC st vs) d rs k0 v0 ty ys us)) (he:eg (bC st vs) vs []=some (as,us):=by simp(disch:=omega) [VV];exact⟨rfl,rfl⟩) (hn:zF as=as':=by rfl) (hp:y0 vs= [(k0,v0)]:=by rfl) (hl:(bC st vs).ptr k0 v0=some (ty0,ds0):=by simp(disch:=omega) [VV];exact⟨rfl,rfl⟩) (hu:us.elem k0=true:=by simp(disch:=omega) [VV]) (ho:Bm (bC st vs) us=true:=by first|rfl|simp(disch:=omega) [VV])
 (n1:k0 < cF d∨cF d+cz rs≤k0:=by simp(disch:=omega) [VV]) (n2:k0 < 1099511627776:=by omega) (n3:cF d+cz rs≤1099511627776:=by simp(disch:=omega) [VV]):FZ cd pd R Q d g false l k f st (some vs):=Iu hc he hn hp hl hu ho n1 n2 n3 hk
end
end Go.Eng
